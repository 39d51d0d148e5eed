/- Genders: Load, Atom, Part, in normal form and as lists. Of no program. -/
import Derived.Test.YtmlhdhndjgdoaaaGreatDoorCuRows
import Derived.Test.YtmlhdhndjgdoaaaGreatDoorCuCut
import Derived.Test.YtmlhdhndjgdoaaaGreatDoorCuRet
namespace Go.Ev
set_option linter.unusedSimpArgs false
set_option linter.unusedVariables false
set_option maxRecDepth 100000

/-! cubit/gender.of -/
noncomputable def gof (a0 : List UInt8) (a1 : List UInt8) : Option (Bool) :=
(cond (!(a0 == []))
((cutLeft a0 a1).bind fun x0 =>
((cutRight x0 a1).bind fun x1 =>
(some ((x1 == [])))))
(some (false)))
/-! cubit/gender.Load -/
noncomputable def gload_L0 (v : Vs) : Option (Vs ⊕ Vs) := sel v.1 [((asSl? (hV v.2 0)).bind fun x1 =>
((asInt? .i64 (hV v.2 1)).bind fun x2 =>
((asInt? .i64 (hV v.2 2)).bind fun x3 =>
(cond (decide (x3 < x2))
((idxL (x1.getD []) x3).bind fun x4 =>
((asAgg? 2 x4).bind fun x5 =>
((asInt? .i64 (x5.getD 0 .nilp)).bind fun x6 =>
((asSl? (x5.getD 1 .nilp)).bind fun x7 =>
((cutSl 1 (some 1) none x7).bind fun x8 =>
(cond (((slLen x8 : Nat) : Int) != 3)
(some (.inr (0, [(.v (.int .i64 x6)), (.v (.int .i64 2))])))
((idxL (x8.getD []) 0).bind fun x9 =>
((asStr? x9).bind fun x10 =>
((gof x10 [97, 98, 99, 100, 101, 102, 103, 104, 105, 106, 107, 108, 109, 110, 111, 112, 113, 114, 115, 116, 117, 118, 119, 120, 121, 122]).bind fun x11 =>
(cond (!x11)
(some (.inr (0, [(.v (.int .i64 x6)), (.v (.int .i64 2))])))
((idxL (x8.getD []) 0).bind fun x12 =>
((asStr? x12).bind fun x13 =>
(cond (decide ((((x13 : List UInt8).length : Nat) : Int) < 2))
(some (.inr (0, [(.v (.int .i64 x6)), (.v (.int .i64 2))])))
((idxL (x8.getD []) 0).bind fun x14 =>
((asStr? x14).bind fun x15 =>
(cond (decide ((((x15 : List UInt8).length : Nat) : Int) > 3))
(some (.inr (0, [(.v (.int .i64 x6)), (.v (.int .i64 2))])))
((idxL (x8.getD []) 1).bind fun x16 =>
((asStr? x16).bind fun x17 =>
((gof x17 [97, 98, 99, 100, 101, 102, 103, 104, 105, 106, 107, 108, 109, 110, 111, 112, 113, 114, 115, 116, 117, 118, 119, 120, 121, 122, 48, 49, 50, 51, 52, 53, 54, 55, 56, 57]).bind fun x18 =>
(cond (!x18)
(some (.inr (0, [(.v (.int .i64 x6)), (.v (.int .i64 2))])))
((idxL (x8.getD []) 2).bind fun x19 =>
((asStr? x19).bind fun x20 =>
((gof x20 [97, 98, 99, 100, 101, 102, 103, 104, 105, 106, 107, 108, 109, 110, 111, 112, 113, 114, 115, 116, 117, 118, 119, 120, 121, 122, 48, 49, 50, 51, 52, 53, 54, 55, 56, 57]).bind fun x21 =>
(cond (!x21)
(some (.inr (0, [(.v (.int .i64 x6)), (.v (.int .i64 2))])))
((idxL (x8.getD []) 0).bind fun x22 =>
((asStr? x22).bind fun x23 =>
((idxL (x8.getD []) 1).bind fun x24 =>
((asStr? x24).bind fun x25 =>
((lookE ⟨true, [.s, .s]⟩ (.agg [(.str x23), (.str x25)]) (hM v.2 3)).bind fun x26 =>
((asStr? (x26.getD (.str []))).bind fun x27 =>
(cond (!(x27 == []))
(some (.inr (0, [(.v (.int .i64 x6)), (.v (.int .i64 10))])))
((idxL (x8.getD []) 2).bind fun x28 =>
((asStr? x28).bind fun x29 =>
(chk (fits ((hM v.2 3).length + 1))
((putE ⟨true, [.s, .s]⟩ (.agg [(.str x23), (.str x25)]) (T2.a (.v (.str x29))) (hM v.2 3)).bind fun x30 =>
(some (.inl (0, [(.v (.sl x1)), (.v (.int .i64 x2)), (.v (.int .i64 (IntKind.wrap .i64 (x3 + 1)))), (.m x30)]))))))))))))))))))))))))))))))))))))))
(some (.inr (1, [(.m (hM v.2 3))])))))))]
noncomputable def gload (a0 : Option (List V)) : Option (Option (List V) × Int × Int) :=
((rowsOf a0 [103, 101, 110, 100, 101, 114]).bind fun x0 =>
((loopK gload_L0 FU (0, [(.v (.sl x0)), (.v (.int .i64 ((slLen x0 : Nat) : Int))), (.v (.int .i64 0)), (.m [])])).bind fun x31 => sel x31.1 [((asInt? .i64 (hV x31.2 0)).bind fun x32 =>
((asInt? .i64 (hV x31.2 1)).bind fun x33 =>
(some (none, x32, x33)))),
((frzE (hM x31.2 0)).bind fun x34 =>
(some ((some [(.mp (some x34))]), 0, 0)))]))
/-! (*cubit/gender.Genders).Atom -/
noncomputable def gatom (a0 : Option (List V)) (a1 : List UInt8) (a2 : List UInt8) (a3 : List UInt8) (a4 : Int) : Option (List UInt8) :=
((asPtr? 1 (.pt a0)).bind fun x0 =>
((asMp? (x0.getD 0 .nilp)).bind fun x1 =>
((lookM ⟨true, [.s, .s]⟩ (.agg [(.str a1), (.str a3)]) x1).bind fun x2 =>
((asStr? (x2.getD (.str []))).bind fun x3 =>
(some (x3))))))
/-! (*cubit/gender.Genders).Part -/
noncomputable def gpart (a0 : Option (List V)) (a1 : List UInt8) (a2 : Option (List V)) (a3 : Option (List V)) (a4 : Option (List V)) : Option (List UInt8) :=
(cond (decide (((slLen a2 : Nat) : Int) > 0))
((idxL (a2.getD []) (IntKind.wrap .i64 (((slLen a2 : Nat) : Int) - 1))).bind fun x0 =>
((asAgg? 3 x0).bind fun x1 =>
((asStr? (x1.getD 0 .nilp)).bind fun x2 =>
((asStr? (x1.getD 1 .nilp)).bind fun x3 =>
((asInt? .i64 (x1.getD 2 .nilp)).bind fun x4 =>
((gatom a0 a1 x2 x3 x4).bind fun x5 =>
(some (x5))))))))
(cond (decide (((slLen a3 : Nat) : Int) > 0))
((idxL (a3.getD []) 0).bind fun x6 =>
((asAgg? 3 x6).bind fun x7 =>
((asStr? (x7.getD 0 .nilp)).bind fun x8 =>
((asStr? (x7.getD 1 .nilp)).bind fun x9 =>
((asInt? .i64 (x7.getD 2 .nilp)).bind fun x10 =>
((gatom a0 a1 x8 x9 x10).bind fun x11 =>
(some (x11))))))))
(some ([]))))
/-! (*cubit/gender.Genders).Whole -/
noncomputable def gwhole (a0 : Option (List V)) (a1 : List UInt8) (a2 : Option (List V)) : Option (List UInt8) :=
(cond (((slLen a2 : Nat) : Int) == 0)
(some ([]))
((idxL (a2.getD []) 0).bind fun x0 =>
((asAgg? 3 x0).bind fun x1 =>
((asSl? (x1.getD 0 .nilp)).bind fun x2 =>
((asSl? (x1.getD 1 .nilp)).bind fun x3 =>
((asSl? (x1.getD 2 .nilp)).bind fun x4 =>
((gpart a0 a1 x2 x3 x4).bind fun x5 =>
(some (x5)))))))))

/-! ### Keys of two texts -/
def key2 (k : Str × Str) : V := .agg [.str k.1, .str k.2]
theorem key2_eq (a b : Str × Str) : keyEq ⟨true, [.s, .s]⟩ (key2 a) (key2 b) = some (decide (a = b)) := by
  obtain ⟨a1, a2⟩ := a
  obtain ⟨b1, b2⟩ := b
  have : keyEq ⟨true, [.s, .s]⟩ (key2 (a1, a2)) (key2 (b1, b2)) = eqL [.s, .s] [.str a1, .str a2] [.str b1, .str b2] := rfl
  rw [this]
  simp only [eqL, eqF]
  by_cases h1 : a1 = b1
  · by_cases h2 : a2 = b2
    · simp [h1, h2]
    · have h2' : (a2 == b2) = false := by simpa using h2
      rw [h2']
      simp [h1, h2]
  · have h1' : (a1 == b1) = false := by simpa using h1
    rw [h1']
    simp [h1]
abbrev GM := List ((Str × Str) × Str)
abbrev encG (m : GM) : List (V × T2) := encM key2 V.str m
theorem look2 (a b : Str) (m : GM) : lookE ⟨true, [.s, .s]⟩ (.agg [.str a, .str b]) (encG m) = some ((getM (a, b) m).map V.str) := lookE_enc key2_eq (a, b) m
theorem put2 (a b x : Str) (m : GM) : putE ⟨true, [.s, .s]⟩ (.agg [.str a, .str b]) (.a (.v (.str x))) (encG m) = some (encG (putM (a, b) x m)) := putE_enc key2_eq (a, b) x m
theorem putM_none {K X : Type} [DecidableEq K] (k : K) (x : X) : ∀ (m : List (K × X)), getM k m = none → putM k x m = m ++ [(k, x)]
  | [], _ => rfl
  | (k', y) :: r, h => by
    simp only [getM] at h
    split at h
    · cases h
    · rename_i hk
      simp only [putM, if_neg hk, putM_none k x r h, List.cons_append]
theorem getM_mem {K X : Type} [DecidableEq K] (k : K) : ∀ (m : List (K × X)) (x : X), getM k m = some x → (k, x) ∈ m
  | (k', y) :: r, x, h => by
    simp only [getM] at h
    split at h
    · rename_i hk; cases h; subst hk; exact List.mem_cons_self ..
    · exact List.mem_cons_of_mem _ (getM_mem k r x h)

def low : Str := [97, 98, 99, 100, 101, 102, 103, 104, 105, 106, 107, 108, 109, 110, 111, 112, 113, 114, 115, 116, 117, 118, 119, 120, 121, 122]
def lowd : Str := [97, 98, 99, 100, 101, 102, 103, 104, 105, 106, 107, 108, 109, 110, 111, 112, 113, 114, 115, 116, 117, 118, 119, 120, 121, 122, 48, 49, 50, 51, 52, 53, 54, 55, 56, 57]
theorem low_ascii : ascii low := by intro x hx; revert x; decide
theorem lowd_ascii : ascii lowd := by intro x hx; revert x; decide
theorem gof_exact (s set : Str) (hl : s.length ≤ 1000000) (hl2 : set.length ≤ 1000) (hs : ascii set) : gof s set = some (!(s == []) && s.all set.contains) := by
  unfold gof
  rw [of_any s set hl hl2 hs]
  cases s == [] <;> rfl
def okLang (a : Str) : Bool := decide (2 ≤ a.length) && (decide (a.length ≤ 3) && a.all low.contains)
def okWord (a : Str) : Bool := !(a == []) && a.all lowd.contains

/-- What a row of genders does. -/
def stepG (m : GM) (r : Rw) : GM ⊕ (Int × Int) := match r.2.getD [] with
  | [_, a, b, c] => if okLang a && (okWord b && okWord c) then (match getM (a, b) m with
    | some _ => .inr (r.1, 10)
    | none => .inl (m ++ [((a, b), c)])) else .inr (r.1, 2)
  | _ => .inr (r.1, 2)
def goodG (m : GM) : Prop := ∀ p ∈ m, p.2 ≠ []
theorem goodG_get {m : GM} (h : goodG m) {k : Str × Str} {y : Str} (hy : getM k m = some y) : y ≠ [] := h _ (getM_mem k m y hy)
theorem stepG_good {m m' : GM} {r : Rw} (h : goodG m) (hs : stepG m r = .inl m') : goodG m' ∧ m'.length = m.length + 1 := by
  unfold stepG at hs
  split at hs
  · rename_i w a b c _
    split at hs
    · rename_i hc
      split at hs
      · cases hs
      · cases hs
        refine ⟨fun p hp => ?_, by simp⟩
        rcases List.mem_append.1 hp with hp | hp
        · exact h p hp
        · simp at hp
          subst hp
          simp only [okWord, Bool.and_eq_true, Bool.not_eq_true', beq_eq_false_iff_ne] at hc
          exact hc.2.2.1
    · cases hs
  · cases hs
abbrev gst (xs : List Rw) (i : Nat) (m : GM) : Vs := (0, [.v (.sl (some (xs.map encR))), .v (.int .i64 (xs.length : Int)), .v (.int .i64 (i : Int)), .m (encG m)])
abbrev gout (p : Int × Int) : Vs := (0, [.v (.int .i64 p.1), .v (.int .i64 p.2)])
theorem gload_step (xs : List Rw) (i : Nat) (m : GM) (hi : i < xs.length) (hb : xs.length ≤ 1000000) (hm : m.length ≤ i) (hg : goodG m) (hw : ∀ r ∈ xs, RwB 1000 1000 r ∧ ∃ w ws, r.2 = some (w :: ws)) :
    gload_L0 (gst xs i m) = some (match stepG m xs[i] with | .inl m' => .inl (gst xs (i + 1) m') | .inr p => .inr (gout p)) := by
  have hd : decide ((i : Int) < (xs.length : Int)) = true := decide_eq_true (by omega)
  have hidx := idxL_map (f := encR) xs i hi
  have hwi : IntKind.wrap .i64 ((i : Int) + 1) = ((i + 1 : Nat) : Int) := by rw [w64 (by omega) (by omega)]; rfl
  obtain ⟨hrb, w, ws, hrw⟩ := hw _ (List.getElem_mem hi)
  generalize xs[i] = r at hidx hrb hrw
  obtain ⟨k, o⟩ := r
  simp only at hrw
  subst hrw
  simp only [RwB, Option.getD_some] at hrb
  have hfit : fits ((encG m).length + 1) = true := by rw [encM_len]; unfold fits lim; exact decide_eq_true (by omega)
  have hc : cutSl 1 (some 1) none (encW (some (w :: ws))) = some (some (ws.map V.str)) := by
    have := cutSl_from (xs := (w :: ws).map V.str) (sz := 1) (n := 1) (fun y hy => by obtain ⟨s, _, rfl⟩ := List.mem_map.1 hy; rfl) (by omega) (by simp; omega)
    exact this
  by_cases h3 : ws.length = 3
  · obtain ⟨a, b, c, rfl⟩ : ∃ a b c, ws = [a, b, c] := by
      match ws, h3 with
      | [a, b, c], _ => exact ⟨a, b, c, rfl⟩
    have ha := hrb.2 a (by simp)
    have hb' := hrb.2 b (by simp)
    have hc' := hrb.2 c (by simp)
    have hga := gof_exact a low (by omega) (by decide) low_ascii
    have hgb := gof_exact b lowd (by omega) (by decide) lowd_ascii
    have hgc := gof_exact c lowd (by omega) (by decide) lowd_ascii
    have hs3 : (((slLen (some ([a, b, c].map V.str)) : Nat) : Int) != 3) = false := rfl
    have i0 : idxL ([a, b, c].map V.str) 0 = some (.str a) := rfl
    have i1 : idxL ([a, b, c].map V.str) 1 = some (.str b) := rfl
    have i2 : idxL ([a, b, c].map V.str) 2 = some (.str c) := rfl
    have hS : stepG m (k, some [w, a, b, c]) = if okLang a && (okWord b && okWord c) then (match getM (a, b) m with
        | some _ => .inr (k, 10)
        | none => .inl (m ++ [((a, b), c)])) else .inr (k, 2) := rfl
    rw [hS]
    unfold low at hga
    unfold lowd at hgb hgc
    have hla : okLang a = (!(a == []) && a.all low.contains && !(decide ((a.length : Int) < 2)) && !(decide ((a.length : Int) > 3))) := by
      unfold okLang
      by_cases q1 : 2 ≤ a.length
      · have : (a == []) = false := by cases a with | nil => simp at q1 | cons _ _ => rfl
        by_cases q2 : a.length ≤ 3
        · have d1 : decide ((a.length : Int) < 2) = false := decide_eq_false (by omega)
          have d2 : decide ((a.length : Int) > 3) = false := decide_eq_false (by omega)
          simp [q1, q2, this, d1, d2]
        · have d2 : decide ((a.length : Int) > 3) = true := decide_eq_true (by omega)
          simp [q1, q2, d2]
      · have d1 : decide ((a.length : Int) < 2) = true := decide_eq_true (by omega)
        simp [q1, d1]
    rw [hla]
    unfold okWord low lowd
    generalize (!(a == []) && a.all ([97, 98, 99, 100, 101, 102, 103, 104, 105, 106, 107, 108, 109, 110, 111, 112, 113, 114, 115, 116, 117, 118, 119, 120, 121, 122] : Str).contains) = ga at hga ⊢
    generalize (!(b == []) && b.all ([97, 98, 99, 100, 101, 102, 103, 104, 105, 106, 107, 108, 109, 110, 111, 112, 113, 114, 115, 116, 117, 118, 119, 120, 121, 122, 48, 49, 50, 51, 52, 53, 54, 55, 56, 57] : Str).contains) = gb at hgb ⊢
    generalize (!(c == []) && c.all ([97, 98, 99, 100, 101, 102, 103, 104, 105, 106, 107, 108, 109, 110, 111, 112, 113, 114, 115, 116, 117, 118, 119, 120, 121, 122, 48, 49, 50, 51, 52, 53, 54, 55, 56, 57] : Str).contains) = gc at hgc ⊢
    cases ga with
    | false => simp only [gload_L0, sel, hV, hM, List.getD_cons_zero, List.getD_cons_succ, asStr_str, asSl_sl, asInt_int, Option.bind_some, Option.getD_some, hd, cond_true, cond_false, hidx, asAgg_encR, hc, hs3, i0, hga, Bool.not_false, Bool.false_and]; rfl
    | true =>
    cases hl2 : decide ((a.length : Int) < 2) with
    | true => simp only [gload_L0, sel, hV, hM, List.getD_cons_zero, List.getD_cons_succ, asStr_str, asSl_sl, asInt_int, Option.bind_some, Option.getD_some, hd, cond_true, cond_false, hidx, asAgg_encR, hc, hs3, i0, hga, Bool.not_true, hl2, Bool.and_false, Bool.false_and]; rfl
    | false =>
    cases hl3 : decide ((a.length : Int) > 3) with
    | true => simp only [gload_L0, sel, hV, hM, List.getD_cons_zero, List.getD_cons_succ, asStr_str, asSl_sl, asInt_int, Option.bind_some, Option.getD_some, hd, cond_true, cond_false, hidx, asAgg_encR, hc, hs3, i0, hga, Bool.not_true, hl2, hl3, Bool.and_false, Bool.false_and]; rfl
    | false =>
    cases gb with
    | false => simp only [gload_L0, sel, hV, hM, List.getD_cons_zero, List.getD_cons_succ, asStr_str, asSl_sl, asInt_int, Option.bind_some, Option.getD_some, hd, cond_true, cond_false, hidx, asAgg_encR, hc, hs3, i0, i1, hga, hgb, Bool.not_true, Bool.not_false, hl2, hl3, Bool.and_false, Bool.false_and]; rfl
    | true =>
    cases gc with
    | false => simp only [gload_L0, sel, hV, hM, List.getD_cons_zero, List.getD_cons_succ, asStr_str, asSl_sl, asInt_int, Option.bind_some, Option.getD_some, hd, cond_true, cond_false, hidx, asAgg_encR, hc, hs3, i0, i1, i2, hga, hgb, hgc, Bool.not_true, Bool.not_false, hl2, hl3, Bool.and_false, Bool.false_and]; rfl
    | true =>
    cases hgm : getM (a, b) m with
    | none =>
      have e0 : asStr? (((Option.map V.str (none : Option Str))).getD (.str [])) = some [] := rfl
      have e1 : (!(([] : Str) == [])) = false := rfl
      simp only [gload_L0, sel, hV, hM, List.getD_cons_zero, List.getD_cons_succ, asStr_str, asSl_sl, asInt_int, Option.bind_some, Option.getD_some, hd, cond_true, cond_false, hidx, asAgg_encR, hc, hs3, i0, i1, i2, hga, hgb, hgc, Bool.not_true, Bool.not_false, hl2, hl3, look2, hgm, e0, e1, hfit, chk_true, put2, hwi, putM_none (a, b) c m hgm]
      rfl
    | some y =>
      have hy := goodG_get hg hgm
      have e0 : asStr? (((Option.map V.str (some y))).getD (.str [])) = some y := rfl
      have e1 : (!(y == [])) = true := by simpa using hy
      simp only [gload_L0, sel, hV, hM, List.getD_cons_zero, List.getD_cons_succ, asStr_str, asSl_sl, asInt_int, Option.bind_some, Option.getD_some, hd, cond_true, cond_false, hidx, asAgg_encR, hc, hs3, i0, i1, i2, hga, hgb, hgc, Bool.not_true, Bool.not_false, hl2, hl3, look2, hgm, e0, e1]
      rfl
  · have hs3 : (((slLen (some (ws.map V.str)) : Nat) : Int) != 3) = true := by
      simp only [slLen, Option.getD_some, List.length_map, bne_iff_ne, ne_eq]; omega
    have hS : stepG m (k, some (w :: ws)) = .inr (k, 2) := by
      unfold stepG
      match ws, h3 with
      | [], _ => rfl
      | [_], _ => rfl
      | [_, _], _ => rfl
      | [_, _, _], h => exact absurd rfl h
      | _ :: _ :: _ :: _ :: _, _ => rfl
    rw [hS]
    simp only [gload_L0, sel, hV, hM, List.getD_cons_zero, List.getD_cons_succ, asStr_str, asSl_sl, asInt_int, Option.bind_some, Option.getD_some, hd, cond_true, cond_false, hidx, asAgg_encR, hc, hs3]

/-- What gender.Load answers. -/
def genR : GM ⊕ (Int × Int) → Option (List V) × Int × Int
  | .inl m => (some [.mp (some (encF key2 V.str m))], 0, 0)
  | .inr p => (none, p.1, p.2)
def kGender : Str := [103, 101, 110, 100, 101, 114]
theorem isK_some {kind : Str} {r : Rw} (h : isK kind r = true) : ∃ ws, r.2 = some (kind :: ws) := by
  obtain ⟨k, o⟩ := r
  unfold isK at h
  simp only at h
  split at h
  · rename_i w ws
    have : w = kind := by simpa using h
    subst this
    exact ⟨ws, rfl⟩
  · cases h
theorem gload_exact (o : Option (List Rw)) (hb : RwsB 1000 1000 1000 (o.getD [])) : ∃ q, foldE stepG ((o.getD []).filter (isK kGender)) [] = q ∧ gload (encRs o) = some (genR q) ∧ ∀ m, q = .inl m → goodG m ∧ m.length ≤ 1000 := by
  refine ⟨_, rfl, ?_⟩
  have h1 := rowsOf_exact kGender o (by have := hb.1; omega) (fun r hr => by have := (hb.2 r hr).1; omega)
  unfold kGender at h1
  unfold gload
  rw [h1]
  simp only [Option.bind_some]
  have hf : ∀ r ∈ (o.getD []).filter (isK kGender), RwB 1000 1000 r ∧ ∃ w ws, r.2 = some (w :: ws) := fun r hr => by
    obtain ⟨h2, h3⟩ := List.mem_filter.1 hr
    obtain ⟨ws, hws⟩ := isK_some h3
    exact ⟨hb.2 r h2, _, ws, hws⟩
  have hl : ((o.getD []).filter (isK kGender)).length ≤ 1000 := Nat.le_trans (List.length_filter_le ..) hb.1
  unfold kGender at hf hl ⊢
  generalize (o.getD []).filter (isK [103, 101, 110, 100, 101, 114]) = xs at hf hl ⊢
  have key : ∀ (f i : Nat) (m : GM), xs.length - i < f → i ≤ xs.length → m.length ≤ i → goodG m →
      loopK gload_L0 f (gst xs i m) = some (match foldE stepG (xs.drop i) m with | .inl m' => (1, [.m (encG m')]) | .inr p => gout p) ∧ ∀ m', foldE stepG (xs.drop i) m = .inl m' → goodG m' ∧ m'.length ≤ xs.length := by
    intro f
    induction f with
    | zero => intro i m h; omega
    | succ f ih =>
      intro i m hf' hi hm hg
      unfold loopK
      by_cases hlt : i < xs.length
      · rw [gload_step xs i m hlt (by omega) hm hg hf, List.drop_eq_getElem_cons hlt]
        simp only [foldE]
        cases hs : stepG m xs[i] with
        | inl m' =>
          obtain ⟨g1, g2⟩ := stepG_good hg hs
          exact ih (i + 1) m' (by omega) (by omega) (by omega) g1
        | inr p => exact ⟨rfl, fun m' h => by cases h⟩
      · have : i = xs.length := by omega
        subst this
        have hd : decide ((xs.length : Int) < (xs.length : Int)) = false := decide_eq_false (by omega)
        rw [List.drop_length]
        refine ⟨?_, fun m' h => by cases h; exact ⟨hg, hm⟩⟩
        simp only [gst, gload_L0, sel, hV, hM, List.getD_cons_zero, List.getD_cons_succ, asSl_sl, asInt_int, Option.bind_some, hd, cond_false]
        rfl
  by_cases hne : xs = []
  · subst hne
    exact ⟨rfl, fun m h => by cases h; exact ⟨fun p h => (by cases h), Nat.zero_le _⟩⟩
  obtain ⟨k1, k2⟩ := key FU 0 [] (by unfold FU; omega) (Nat.zero_le _) (Nat.le_refl _) (fun p h => by cases h)
  rw [List.drop_zero] at k1 k2
  have hst : ((0, [.v (.sl (encRs (nz xs))), .v (.int .i64 ((slLen (encRs (nz xs)) : Nat) : Int)), .v (.int .i64 0), .m []]) : Vs) = gst xs 0 [] := by
    cases xs with
    | nil => exact absurd rfl hne
    | cons x r =>
      have : slLen (encRs (nz (x :: r))) = (x :: r).length := by rw [slLen_encRs]; rfl
      rw [this]; rfl
  rw [hst, k1]
  refine ⟨?_, fun m hm => ⟨(k2 m hm).1, by have := (k2 m hm).2; omega⟩⟩
  cases foldE stepG xs [] with
  | inl m =>
    have hz : frzE (encG m) = some (encF key2 V.str m) := frzE_enc m
    simp only [Option.bind_some, sel, hM, List.getD_cons_zero, hz, genR]
  | inr p => rfl

/-! ### Atom, Part -/
def gget (m : GM) (lang name : Str) : Str := (getM (lang, name) m).getD []
theorem gatom_exact (m : GM) (lang p name : Str) (k : Int) : gatom (some [.mp (some (encF key2 V.str m))]) lang p name k = some (gget m lang name) := by
  have hl : lookM ⟨true, [.s, .s]⟩ (.agg [.str lang, .str name]) (some (encF key2 V.str m)) = some ((getM (lang, name) m).map V.str) := lookM_enc key2_eq (lang, name) m
  unfold gget
  cases hg : getM (lang, name) m <;> simp [gatom, hl, hg]
/-- An atom: prefix, name, power. -/
abbrev Atm := Str × Str × Int
def encA (a : Atm) : V := .agg [.str a.1, .str a.2.1, .int .i64 a.2.2]
def encAs (o : Option (List Atm)) : Option (List V) := o.map fun l => l.map encA
theorem asAgg_encA (a : Atm) : asAgg? 3 (encA a) = some [.str a.1, .str a.2.1, .int .i64 a.2.2] := rfl
theorem slLen_encAs (o : Option (List Atm)) : slLen (encAs o) = (o.getD []).length := by cases o <;> simp [encAs, slLen]
theorem getD_encAs (o : Option (List Atm)) : (encAs o).getD [] = (o.getD []).map encA := by cases o <;> rfl
/-- The name that tells a part's gender. -/
def partName (num den : List Atm) : Option Str := match num.getLast? with
  | some a => some a.2.1
  | none => den.head?.map (·.2.1)
def gpartS (m : GM) (lang : Str) (num den : List Atm) : Str := match partName num den with
  | some n => gget m lang n
  | none => []
theorem gpart_exact (m : GM) (lang : Str) (num den : Option (List Atm)) (c : Option (List V)) (h : (num.getD []).length ≤ 1000000) : gpart (some [.mp (some (encF key2 V.str m))]) lang (encAs num) (encAs den) c = some (gpartS m lang (num.getD []) (den.getD [])) := by
  unfold gpart gpartS partName
  rw [slLen_encAs, slLen_encAs, getD_encAs, getD_encAs]
  generalize num.getD [] = n at h
  generalize den.getD [] = d
  rcases List.eq_nil_or_concat n with rfl | ⟨n', a, rfl⟩
  · have h0 : decide (((([] : List Atm).length : Nat) : Int) > 0) = false := rfl
    rw [h0]
    cases d with
    | nil => rfl
    | cons b d =>
      have h1 : decide ((((b :: d).length : Nat) : Int) > 0) = true := decide_eq_true (by simp)
      have h2 : idxL ((b :: d).map encA) 0 = some (encA b) := rfl
      obtain ⟨bp, bn, bk⟩ := b
      simp only [cond_false, h1, cond_true, h2, Option.bind_some, asAgg_encA, List.getD_cons_zero, List.getD_cons_succ, asStr_str, asInt_int, gatom_exact]
      rfl
  · rw [List.concat_eq_append] at h ⊢
    have h1 : decide ((((n' ++ [a]).length : Nat) : Int) > 0) = true := decide_eq_true (by simp)
    have h2 : idxL ((n' ++ [a]).map encA) (IntKind.wrap .i64 ((((n' ++ [a]).length : Nat) : Int) - 1)) = some (encA a) := by
      simp only [List.length_append, List.length_cons, List.length_nil] at h
      have e : (((n' ++ [a]).length : Nat) : Int) - 1 = (n'.length : Int) := by simp
      rw [e, w64 (by omega) (by omega), idxL_map _ _ (by simp)]
      simp
    obtain ⟨ap, an, ak⟩ := a
    simp only [h1, cond_true, h2, Option.bind_some, asAgg_encA, List.getD_cons_zero, List.getD_cons_succ, asStr_str, asInt_int, gatom_exact]
    simp
theorem gwhole_exact (m : GM) (lang : Str) (num den : Option (List Atm)) (c : Option (List V)) (h : (num.getD []).length ≤ 1000000) : gwhole (some [.mp (some (encF key2 V.str m))]) lang (some [.agg [.sl (encAs num), .sl (encAs den), .sl c]]) = some (gpartS m lang (num.getD []) (den.getD [])) := by
  have h1 : (((slLen (some [V.agg [.sl (encAs num), .sl (encAs den), .sl c]]) : Nat) : Int) == 0) = false := rfl
  have h2 : idxL ((some [V.agg [.sl (encAs num), .sl (encAs den), .sl c]]).getD []) 0 = some (.agg [.sl (encAs num), .sl (encAs den), .sl c]) := rfl
  unfold gwhole
  simp only [h1, cond_false, h2, Option.bind_some, asAgg_agg, List.length_cons, List.length_nil, if_true, List.getD_cons_zero, List.getD_cons_succ, asSl_sl, gpart_exact m lang num den c h]
end Go.Ev
