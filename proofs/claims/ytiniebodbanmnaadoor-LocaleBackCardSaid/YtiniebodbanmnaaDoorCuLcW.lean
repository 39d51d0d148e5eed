/- Plain law: what the functions of locales tell, as the laws of words say. -/
import Derived.Test.YtiniebodbanmnaaDoorCuLcT
import Derived.Test.YtiniebodbanmnaaDoorCuLcS
namespace Go.Proofs.YtiniebodbanmnaaDoor.lc
open Go Go.Ev Go.Ev.Loc
set_option maxRecDepth 100000
set_option linter.unusedSimpArgs false
set_option linter.unusedVariables false
set_option linter.unnecessarySimpa false

theorem asc_small : ascii small := by unfold ascii small; decide
theorem asc_great : ascii great := by unfold ascii great; decide
theorem asc_digits : ascii digits := by unfold ascii digits; decide
theorem ofK_ofB (s set : Str) (a b : Nat) : ofK s set (a : Int) (b : Int) = ofB s set a b := by
  unfold ofK ofB
  congr 1
  · exact decide_eq_decide.2 (by omega)
  · congr 1; exact decide_eq_decide.2 (by omega)
theorem rof_eq (s set : Str) (a b : Nat) (hb : b ≤ 1000) (hl : set.length ≤ 1000) (hs : ascii set) : rof s set (a : Int) (b : Int) = some (ofB s set a b) := by
  rw [← ofK_ofB]
  exact of_cut s set a b (by omega) hl hs
theorem rof_small (s : Str) (a b : Nat) (hb : b ≤ 1000) : rof s small (a : Int) (b : Int) = some (ofB s small a b) := rof_eq s small a b hb (by decide) asc_small
theorem rof_great (s : Str) (a b : Nat) (hb : b ≤ 1000) : rof s great (a : Int) (b : Int) = some (ofB s great a b) := rof_eq s great a b hb (by decide) asc_great
theorem rof_digits (s : Str) (a b : Nat) (hb : b ≤ 1000) : rof s digits (a : Int) (b : Int) = some (ofB s digits a b) := rof_eq s digits a b hb (by decide) asc_digits

theorem llang_eq (s : Str) : llang s = some (langB s) := by
  unfold llang
  have : rof s [97, 98, 99, 100, 101, 102, 103, 104, 105, 106, 107, 108, 109, 110, 111, 112, 113, 114, 115, 116, 117, 118, 119, 120, 121, 122] 2 3 = some (ofB s small 2 3) := rof_small s 2 3 (by omega)
  rw [this]; rfl
theorem lregion_eq (s : Str) : lregion s = some (regB s) := by
  unfold lregion
  have h1 : rof s [65, 66, 67, 68, 69, 70, 71, 72, 73, 74, 75, 76, 77, 78, 79, 80, 81, 82, 83, 84, 85, 86, 87, 88, 89, 90] 2 2 = some (ofB s great 2 2) := rof_great s 2 2 (by omega)
  have h2 : rof s [48, 49, 50, 51, 52, 53, 54, 55, 56, 57] 3 3 = some (ofB s digits 3 3) := rof_digits s 3 3 (by omega)
  rw [h1, h2]
  unfold regB
  simp only [Option.bind_some]
  cases ofB s great 2 2 <;> rfl

theorem up_eq (s : Str) : Lib.toUpperA s = up s := by
  unfold Lib.toUpperA up
  apply List.map_congr_left
  intro c _
  unfold Lib.upperB Lib.isLowerB
  simp only [Bool.and_eq_true, decide_eq_true_eq]
theorem down_eq (s : Str) : Lib.toLowerA s = down s := by
  unfold Lib.toLowerA down
  apply List.map_congr_left
  intro c _
  unfold Lib.lowerB Lib.isUpperB
  simp only [Bool.and_eq_true, decide_eq_true_eq]

theorem asc_of {s set : Str} {a b : Nat} (h : ofB s set a b = true) (hs : ascii set) : (s.all fun c => decide (c.toNat < 128)) = true ∧ s.length ≤ b := by
  obtain ⟨_, h2, h3⟩ := ofB_len h
  refine ⟨?_, h2⟩
  rw [List.all_eq_true] at h3 ⊢
  intro c hc
  exact decide_eq_true (hs c (List.contains_iff_mem.1 (h3 c hc)))
theorem upr_eq {s : Str} (h : (ofB s small 2 2 || ofB s digits 3 3) = true) : upr s = some (up s) := by
  have : (s.all fun c => decide (c.toNat < 128)) = true ∧ s.length ≤ 1000000 := by
    rcases Bool.or_eq_true_iff.1 h with h | h
    · obtain ⟨h1, h2⟩ := asc_of h asc_small; exact ⟨h1, by omega⟩
    · obtain ⟨h1, h2⟩ := asc_of h asc_digits; exact ⟨h1, by omega⟩
  unfold upr
  rw [if_pos this, up_eq]
theorem lwr_eq {s : Str} (h : okRG s = true) : lwr s = some (down s) := by
  have : (s.all fun c => decide (c.toNat < 128)) = true ∧ s.length ≤ 1000000 := by
    unfold okRG at h
    rcases Bool.or_eq_true_iff.1 h with h | h
    · obtain ⟨h1, h2⟩ := asc_of h asc_great; exact ⟨h1, by omega⟩
    · obtain ⟨h1, h2⟩ := asc_of h asc_digits; exact ⟨h1, by omega⟩
  unfold lwr
  rw [if_pos this, down_eq]

/-! ### The keys' loop -/
abbrev stP (ws : List Str) (l r : Str) (x : Liked) : Vs := (0, [.v (.sl (some (ws.map V.str))), .v (.str []), .v (.str []), .v (.str []), .v (.str []), .v (.str []), .v (.str l), .v (.str r), .v (.str x.rg), .v (.str x.ms), .v (.str x.mu)])
abbrev badP : Vs := (0, [.v (.int .i64 2), .v (.str []), .v (.str []), .v (.str []), .v (.str []), .v (.str [])])
abbrev endP (l r : Str) (x : Liked) : Vs := (1, [.v (.str []), .v (.str []), .v (.str []), .v (.str []), .v (.str []), .v (.str l), .v (.str r), .v (.str x.rg), .v (.str x.ms), .v (.str x.mu)])

theorem step_end (l r : Str) (x : Liked) : lparse_L0 (stP [] l r x) = some (.inr (endP l r x)) := by
  simp [lparse_L0, sel, hV, slLen]

theorem cut2 (k v : Str) (ws : List Str) : cutSl 1 (some 2) none (some ((k :: v :: ws).map V.str)) = some (some (ws.map V.str)) := by
  have h := cutSl_from (xs := (k :: v :: ws).map V.str) (sz := 1) (n := 2) (fun y hy => by obtain ⟨z, _, rfl⟩ := List.mem_map.1 hy; rfl) (by omega) (by simp; omega)
  simpa using h

theorem beqS (a b : Str) : (a == b) = decide (a = b) := by
  by_cases h : a = b
  · simp [h]
  · have : (a == b) = false := beq_eq_false_iff_ne.2 h
    rw [this, decide_eq_false h]

theorem step (k v : Str) (ws : List Str) (l r : Str) (x : Liked) (hv : v.length ≤ 1000000) (hn : ws.length ≤ 1000000) :
    lparse_L0 (stP (k :: v :: ws) l r x) = some (match Loc.setB k v x with | some y => .inl (stP ws l r y) | none => .inr badP) := by
  have hc := cut2 k v ws
  have i0 : idxL ((k :: v :: ws).map V.str) 0 = some (.str k) := rfl
  have i1 : idxL ((k :: v :: ws).map V.str) 1 = some (.str v) := rfl
  have hlen : decide (((slLen (some ((k :: v :: ws).map V.str)) : Nat) : Int) > 0) = true := by
    simp only [slLen, Option.getD_some, List.length_map, List.length_cons]
    exact decide_eq_true (by omega)
  unfold lparse_L0
  simp only [sel, hV, List.getD_cons_zero, List.getD_cons_succ, asSl_sl, asStr_str, Option.bind_some, hlen, cond_true, Option.getD_some, i0, i1, hc]
  unfold Loc.setB
  by_cases e1 : k = kRG
  · have b1 : (k == [114, 103]) = true := by rw [e1]; rfl
    simp only [b1, cond_true, if_pos e1]
    by_cases h4 : 4 ≤ v.length
    · have d4 : decide (((v.length : Nat) : Int) ≥ 4) = true := decide_eq_true (by omega)
      have hw : IntKind.wrap .i64 (((v.length : Nat) : Int) - 4) = ((v.length - 4 : Nat) : Int) := by rw [w64 (by omega) (by omega)]; omega
      have hf := cutL_from (xs := v) (n := ((v.length - 4 : Nat) : Int)) (by omega) (by omega)
      have ht := cutL_to (xs := v) (n := ((v.length - 4 : Nat) : Int)) (by omega) (by omega)
      simp only [Int.toNat_natCast] at hf ht
      simp only [d4, cond_true, hw, hf, ht, Option.bind_some]
      by_cases h5 : v.drop (v.length - 4) = rest
      · have b5 : (v.drop (v.length - 4) == [122, 122, 122, 122]) = true := by rw [h5]; rfl
        simp only [b5, Bool.not_true, cond_false]
        by_cases h6 : x.rg = []
        · have b6 : (x.rg == []) = true := by rw [h6]; rfl
          have q1 : rof (v.take (v.length - 4)) [97, 98, 99, 100, 101, 102, 103, 104, 105, 106, 107, 108, 109, 110, 111, 112, 113, 114, 115, 116, 117, 118, 119, 120, 121, 122] 2 2 = some (ofB (v.take (v.length - 4)) small 2 2) := rof_small (v.take (v.length - 4)) 2 2 (by omega)
          have q2 : rof (v.take (v.length - 4)) [48, 49, 50, 51, 52, 53, 54, 55, 56, 57] 3 3 = some (ofB (v.take (v.length - 4)) digits 3 3) := rof_digits (v.take (v.length - 4)) 3 3 (by omega)
          simp only [b6, Bool.not_true, cond_false, q1, Option.bind_some]
          by_cases h7 : (ofB (v.take (v.length - 4)) small 2 2 || ofB (v.take (v.length - 4)) digits 3 3) = true
          · have hu := upr_eq h7
            rw [if_pos ⟨h4, h5, h6, h7⟩]
            simp only [q2, hu, Option.bind_some]
            cases g1 : ofB (v.take (v.length - 4)) small 2 2 with
            | true => rfl
            | false =>
              rw [g1, Bool.false_or] at h7
              rw [h7]; rfl
          · rw [if_neg (fun ⟨_, _, _, h⟩ => h7 h)]
            have h7' := Bool.eq_false_iff.2 h7
            rw [Bool.or_eq_false_iff] at h7'
            rw [h7'.1]
            simp only [Bool.not_false, cond_true, q2, Option.bind_some, h7'.2]
        · have b6 : (x.rg == []) = false := beq_eq_false_iff_ne.2 h6
          simp only [b6, Bool.not_false, cond_true]
          rw [if_neg (fun ⟨_, _, h, _⟩ => h6 h)]
      · have b5 : (v.drop (v.length - 4) == [122, 122, 122, 122]) = false := beq_eq_false_iff_ne.2 h5
        simp only [b5, Bool.not_false, cond_true]
        rw [if_neg (fun ⟨_, h, _⟩ => h5 h)]
    · have d4 : decide (((v.length : Nat) : Int) ≥ 4) = false := decide_eq_false (by omega)
      simp only [d4, cond_false]
      rw [if_neg (fun ⟨h, _⟩ => h4 h)]
  · have b1 : (k == [114, 103]) = false := beq_eq_false_iff_ne.2 e1
    simp only [b1, cond_false, if_neg e1]
    by_cases e2 : k = kMS
    · have b2 : (k == [109, 115]) = true := by rw [e2]; rfl
      simp only [b2, cond_true, if_pos e2]
      by_cases h6 : x.ms = []
      · have b6 : (x.ms == []) = true := by rw [h6]; rfl
        simp only [b6, Bool.not_true, cond_false]
        by_cases h7 : isMS v = true
        · rw [if_pos ⟨h6, h7⟩]
          unfold isMS at h7
          cases g1 : (v == [109, 101, 116, 114, 105, 99])
          · cases g2 : (v == [117, 115, 115, 121, 115, 116, 101, 109])
            · rw [g1, g2] at h7
              simp only [Bool.false_or] at h7
              rw [h7]; rfl
            · rfl
          · rfl
        · rw [if_neg (fun ⟨_, h⟩ => h7 h)]
          have h7' := Bool.eq_false_iff.2 h7
          unfold isMS at h7'
          simp only [Bool.or_eq_false_iff] at h7'
          rw [h7'.1, h7'.2.1, h7'.2.2]; rfl
      · have b6 : (x.ms == []) = false := beq_eq_false_iff_ne.2 h6
        simp only [b6, Bool.not_false, cond_true]
        rw [if_neg (fun ⟨h, _⟩ => h6 h)]
    · have b2 : (k == [109, 115]) = false := beq_eq_false_iff_ne.2 e2
      simp only [b2, cond_false, if_neg e2]
      by_cases e3 : k = kMU
      · have b3 : (k == [109, 117]) = true := by rw [e3]; rfl
        simp only [b3, cond_true, if_pos e3]
        by_cases h6 : x.mu = []
        · have b6 : (x.mu == []) = true := by rw [h6]; rfl
          simp only [b6, Bool.not_true, cond_false]
          by_cases h7 : isMU v = true
          · rw [if_pos ⟨h6, h7⟩]
            unfold isMU at h7
            cases g1 : (v == [99, 101, 108, 115, 105, 117, 115])
            · cases g2 : (v == [102, 97, 104, 114, 101, 110, 104, 101])
              · rw [g1, g2] at h7
                simp only [Bool.false_or] at h7
                rw [h7]; rfl
              · rfl
            · rfl
          · rw [if_neg (fun ⟨_, h⟩ => h7 h)]
            have h7' := Bool.eq_false_iff.2 h7
            unfold isMU at h7'
            simp only [Bool.or_eq_false_iff] at h7'
            rw [h7'.1, h7'.2.1, h7'.2.2]; rfl
        · have b6 : (x.mu == []) = false := beq_eq_false_iff_ne.2 h6
          simp only [b6, Bool.not_false, cond_true]
          rw [if_neg (fun ⟨h, _⟩ => h6 h)]
      · have b3 : (k == [109, 117]) = false := beq_eq_false_iff_ne.2 e3
        simp only [b3, cond_false, if_neg e3]

theorem loop_eq (l r : Str) : ∀ (f : Nat) (ws : List Str) (x : Liked), ws.length < f → ws.length ≤ 1000000 → ws.length % 2 = 0 → (∀ w ∈ ws, w.length ≤ 1000000) →
    loopK lparse_L0 f (stP ws l r x) = some (match foldB ws x with | some y => endP l r y | none => badP) := by
  intro f
  induction f with
  | zero => intro ws x h; omega
  | succ f ih =>
    intro ws x hf hn h2 hw
    unfold loopK
    match ws with
    | [] => rw [step_end]; rfl
    | [k] => simp at h2
    | k :: v :: ws =>
      rw [step k v ws l r x (hw v (by simp)) (by simp at hn; omega)]
      simp only [foldB]
      cases Loc.setB k v x with
      | none => rfl
      | some y =>
        simp only [Option.bind_some]
        exact ih ws y (by simp at hf; omega) (by simp at hn; omega) (by simp at h2; omega) fun w hm => hw w (by simp [hm])

/-! ### Parse -/
def encP : Option Locale → Str × Str × Str × Str × Str × Int
  | some x => (x.lang, x.region, x.liked.rg, x.liked.ms, x.liked.mu, 0)
  | none => ([], [], [], [], [], 2)

/-- What stands behind a language, maybe a region. -/
noncomputable def tailK (l r : Str) (o : Option (List V)) : Option (Str × Str × Str × Str × Str × Int) :=
  (cond (((slLen o : Nat) : Int) == 0)
(some (l, r, [], [], [], 0))
((idxL (o.getD []) 0).bind fun x11 =>
((asStr? x11).bind fun x12 =>
(cond (!(x12 == [117]))
(some ([], [], [], [], [], 2))
(cond (((slLen o : Nat) : Int) == 1)
(some ([], [], [], [], [], 2))
(cond ((Int.tmod ((slLen o : Nat) : Int) 2) == 0)
(some ([], [], [], [], [], 2))
((cutSl 1 (some 1) none o).bind fun x13 =>
((loopK lparse_L0 FU (0, [(.v (.sl x13)), (.v (.str [])), (.v (.str [])), (.v (.str [])), (.v (.str [])), (.v (.str [])), (.v (.str l)), (.v (.str r)), (.v (.str [])), (.v (.str [])), (.v (.str []))])).bind fun x43 => sel x43.1 [((asInt? .i64 (hV x43.2 0)).bind fun x44 =>
((asStr? (hV x43.2 1)).bind fun x45 =>
((asStr? (hV x43.2 2)).bind fun x46 =>
((asStr? (hV x43.2 3)).bind fun x47 =>
((asStr? (hV x43.2 4)).bind fun x48 =>
((asStr? (hV x43.2 5)).bind fun x49 =>
(some (x45, x46, x47, x48, x49, x44)))))))),
((asStr? (hV x43.2 0)).bind fun x50 =>
((asStr? (hV x43.2 1)).bind fun x51 =>
((asStr? (hV x43.2 2)).bind fun x52 =>
((asStr? (hV x43.2 3)).bind fun x53 =>
((asStr? (hV x43.2 4)).bind fun x54 =>
((asStr? (hV x43.2 5)).bind fun x55 =>
((asStr? (hV x43.2 6)).bind fun x56 =>
((asStr? (hV x43.2 7)).bind fun x57 =>
((asStr? (hV x43.2 8)).bind fun x58 =>
((asStr? (hV x43.2 9)).bind fun x59 =>
(some (x55, x56, x57, x58, x59, 0))))))))))))]))))))))

theorem lparse_tail (s : Str) : lparse s = ((spl s [45]).bind fun x0 => (idxL (x0.getD []) 0).bind fun x1 => (asStr? x1).bind fun x2 => (llang x2).bind fun x3 => (cond (!x3)
(some ([], [], [], [], [], 2))
((cutSl 1 (some 1) none x0).bind fun x4 =>
(cond (decide (((slLen x4 : Nat) : Int) > 0))
((idxL (x4.getD []) 0).bind fun x5 =>
((asStr? x5).bind fun x6 =>
((lregion x6).bind fun x7 =>
(cond x7
((idxL (x4.getD []) 0).bind fun x8 =>
((asStr? x8).bind fun x9 =>
((cutSl 1 (some 1) none x4).bind fun x10 => tailK x2 x9 x10)))
(tailK x2 [] x4)))))
(tailK x2 [] x4))))) := rfl

theorem cut1 (k : Str) (ws : List Str) : cutSl 1 (some 1) none (some ((k :: ws).map V.str)) = some (some (ws.map V.str)) := by
  have h := cutSl_from (xs := (k :: ws).map V.str) (sz := 1) (n := 1) (fun y hy => by obtain ⟨z, _, rfl⟩ := List.mem_map.1 hy; rfl) (by omega) (by simp; omega)
  simpa using h

theorem tailK_eq (l r : Str) (ws : List Str) (hn : ws.length ≤ 1000000) (hw : ∀ w ∈ ws, w.length ≤ 1000000) : tailK l r (some (ws.map V.str)) = some (encP (tailB l r ws)) := by
  unfold tailK
  cases ws with
  | nil => rfl
  | cons u t =>
    have hl : slLen (some ((u :: t).map V.str)) = t.length + 1 := by simp [slLen]
    have i0 : idxL ((u :: t).map V.str) 0 = some (.str u) := rfl
    have z : ((((t.length + 1 : Nat) : Nat) : Int) == 0) = false := by rw [beq_eq_false_iff_ne]; omega
    simp only [hl, z, cond_false, Option.getD_some, i0, Option.bind_some, asStr_str, cut1]
    unfold tailB
    simp only
    by_cases hu : u = [117]
    · have bu : (u == [117]) = true := by rw [hu]; rfl
      simp only [bu, Bool.not_true, cond_false]
      by_cases ht : t = []
      · subst ht
        have b1 : ((((0 + 1 : Nat) : Nat) : Int) == 1) = true := by decide
        simp only [List.length_nil, b1, cond_true]
        rw [if_neg (fun ⟨_, h, _⟩ => h rfl)]; rfl
      · have hpos : 0 < t.length := List.length_pos_iff.2 ht
        have b1 : ((((t.length + 1 : Nat) : Nat) : Int) == 1) = false := by rw [beq_eq_false_iff_ne]; omega
        simp only [b1, cond_false]
        by_cases h2 : t.length % 2 = 0
        · have b2 : (Int.tmod (((t.length + 1 : Nat) : Nat) : Int) 2 == 0) = false := by rw [beq_eq_false_iff_ne, Int.tmod_eq_emod_of_nonneg (by omega)]; omega
          simp only [b2, cond_false]
          have hn' : t.length + 1 ≤ 1000000 := by simpa using hn
          have hloop := loop_eq l r FU t ⟨[], [], []⟩ (by unfold FU; omega) (by omega) h2 fun w hm => hw w (List.mem_cons_of_mem _ hm)
          rw [hloop, if_pos ⟨hu, ht, h2⟩]
          simp only [Option.bind_some]
          cases foldB t ⟨[], [], []⟩ with
          | none => rfl
          | some y => rfl
        · have b2 : (Int.tmod (((t.length + 1 : Nat) : Nat) : Int) 2 == 0) = true := by rw [beq_iff_eq, Int.tmod_eq_emod_of_nonneg (by omega)]; omega
          simp only [b2, cond_true]
          rw [if_neg (fun ⟨_, _, h⟩ => h2 h)]; rfl
    · have bu : (u == [117]) = false := beq_eq_false_iff_ne.2 hu
      simp only [bu, Bool.not_false, cond_true]
      rw [if_neg (fun ⟨h, _⟩ => hu h)]; rfl

theorem cutAt_len (c : UInt8) (s : Str) : (cutAt c s).length ≤ s.length + 1 ∧ ∀ w ∈ cutAt c s, w.length ≤ s.length := by
  induction s with
  | nil => simp [cutAt]
  | cons b l ih =>
    rw [cutAt]
    split
    · refine ⟨by simp; exact ih.1, fun w hw => ?_⟩
      rcases List.mem_cons.1 hw with rfl | hw
      · simp
      · have := ih.2 w hw; simp; omega
    · cases hc : cutAt c l with
      | nil => exact absurd hc (cutAt_ne c l)
      | cons v r =>
        rw [hc] at ih
        refine ⟨by have := ih.1; simp at this ⊢; omega, fun w hw => ?_⟩
        rcases List.mem_cons.1 hw with rfl | hw
        · have := ih.2 v (List.mem_cons_self ..); simp; omega
        · have := ih.2 w (List.mem_cons_of_mem _ hw); simp; omega

/-- Parse tells what the law of words tells. -/
theorem lparse_eq (s : Str) (hs : s.length ≤ 100000) : lparse s = some (encP (parseB (cutAt 45 s))) := by
  rw [lparse_tail]
  have h0 : spl s [45] = some (some ((cutAt 45 s).map V.str)) := by
    unfold spl
    rw [if_neg (by simp; omega), split_cutAt]
  obtain ⟨hn, hw⟩ := cutAt_len 45 s
  rw [h0]
  cases hc : cutAt 45 s with
  | nil => exact absurd hc (cutAt_ne 45 s)
  | cons w r =>
    rw [hc] at hn hw
    have i0 : ∀ (w : Str) (r : List Str), idxL ((w :: r).map V.str) 0 = some (.str w) := fun _ _ => rfl
    simp only [Option.bind_some, Option.getD_some, i0, asStr_str, llang_eq, cut1]
    cases hl : langB w with
    | false => cases r <;> (simp [parseB, hl]; rfl)
    | true =>
      simp only [Bool.not_true, cond_false]
      cases r with
      | nil =>
        have e : decide (((slLen (some (([] : List Str).map V.str)) : Nat) : Int) > 0) = false := by decide
        simp only [e, cond_false]
        rw [tailK_eq w [] [] (by simp) (by simp), parse_nil, hl]; rfl
      | cons a t =>
        have e : decide (((slLen (some ((a :: t).map V.str)) : Nat) : Int) > 0) = true := decide_eq_true (by simp only [slLen, Option.getD_some, List.length_map, List.length_cons]; omega)
        simp only [e, cond_true, i0, Option.bind_some, asStr_str, lregion_eq, cut1]
        rw [parse_cons, hl]
        have hlen : t.length + 1 + 1 ≤ s.length + 1 := by simpa using hn
        cases hr : regB a with
        | true =>
          simp only [cond_true, if_true]
          exact tailK_eq w a t (by omega) fun x hx => by have := hw x (by simp [hx]); omega
        | false =>
          simp only [cond_false, if_true]
          exact tailK_eq w [] (a :: t) (by simp; omega) fun x hx => by have := hw x (by simp only [List.mem_cons] at hx ⊢; exact .inr hx); omega
end Go.Proofs.YtiniebodbanmnaaDoor.lc
