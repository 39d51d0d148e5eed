/- Plain law: two readings of rows of genders agree; GenderSays. -/
import Derived.Test.YtmlhdhndjgdoaaaDoorCuGsT
namespace Go.Proofs.YtmlhdhndjgdoaaaDoor.gs
open Go Go.Ev
set_option linter.unusedSimpArgs false
set_option linter.unusedVariables false
set_option maxRecDepth 100000

/-! ### Letters -/
theorem low_iff (c : UInt8) : low.contains c = (decide (97 ≤ c.toNat) && decide (c.toNat ≤ 122)) := by
  have h : ∀ n : Fin 256, low.contains (UInt8.ofNat n.val) = (decide (97 ≤ n.val) && decide (n.val ≤ 122)) := by decide +kernel
  have := h ⟨c.toNat, c.toNat_lt⟩
  simpa using this
theorem lowd_iff (c : UInt8) : lowd.contains c = ((decide (97 ≤ c.toNat) && decide (c.toNat ≤ 122)) || (decide (48 ≤ c.toNat) && decide (c.toNat ≤ 57))) := by
  have h : ∀ n : Fin 256, lowd.contains (UInt8.ofNat n.val) = ((decide (97 ≤ n.val) && decide (n.val ≤ 122)) || (decide (48 ≤ n.val) && decide (n.val ≤ 57))) := by decide +kernel
  have := h ⟨c.toNat, c.toNat_lt⟩
  simpa using this
theorem idx_at (s : Str) (i : Nat) (h : i < s.length) : idxL s (i : Int) = some s[i] := by
  unfold idxL
  rw [if_neg (by omega), Int.toNat_natCast, List.getElem?_eq_getElem h]

theorem all14_exact (s : Str) (hl : s.length ≤ 1000000) : all14 s 97 122 = some (s.all low.contains) := by
  have key : ∀ (f k : Nat), s.length - k < f → k ≤ s.length → loopK all14_L0 f (0, [.v (.str s), .v (.int .u8 97), .v (.int .u8 122), .v (.int .i64 (k : Int))]) = some (if (s.drop k).all low.contains then (1, []) else (0, [.v (.bool false)])) := by
    intro f
    induction f with
    | zero => intro k h; omega
    | succ f ih =>
      intro k hf hk
      unfold loopK
      by_cases hlt : k < s.length
      · have hd : decide ((k : Int) < ((s.length : Nat) : Int)) = true := decide_eq_true (by omega)
        have hw := w64 (x := (k : Int) + 1) (by omega) (by omega)
        rw [List.drop_eq_getElem_cons hlt, List.all_cons]
        have hi := idx_at s k hlt
        rw [low_iff]
        by_cases h1 : 97 ≤ (s[k]).toNat
        · have d1 : decide ((((s[k]).toNat : Nat) : Int) < 97) = false := decide_eq_false (by omega)
          by_cases h2 : (s[k]).toNat ≤ 122
          · have d2 : decide ((((s[k]).toNat : Nat) : Int) > 122) = false := decide_eq_false (by omega)
            rw [decide_eq_true h1, decide_eq_true h2]
            simp only [all14_L0, sel, hV, List.getD_cons_zero, List.getD_cons_succ, asStr_str, asInt_int, Option.bind_some, hd, cond_true, hi, d1, d2, cond_false, hw, Bool.and_true, Bool.true_and]
            exact ih (k + 1) (by omega) (by omega)
          · have d2 : decide ((((s[k]).toNat : Nat) : Int) > 122) = true := decide_eq_true (by omega)
            rw [decide_eq_false h2]
            simp only [all14_L0, sel, hV, List.getD_cons_zero, List.getD_cons_succ, asStr_str, asInt_int, Option.bind_some, hd, cond_true, hi, d1, d2, cond_false, Bool.and_false, Bool.false_and]
            rfl
        · have d1 : decide ((((s[k]).toNat : Nat) : Int) < 97) = true := decide_eq_true (by omega)
          rw [decide_eq_false h1]
          simp only [all14_L0, sel, hV, List.getD_cons_zero, List.getD_cons_succ, asStr_str, asInt_int, Option.bind_some, hd, cond_true, hi, d1, Bool.false_and]
          rfl
      · have hd : decide ((k : Int) < ((s.length : Nat) : Int)) = false := decide_eq_false (by omega)
        rw [List.drop_eq_nil_of_le (by omega)]
        simp only [all14_L0, sel, hV, List.getD_cons_zero, List.getD_cons_succ, asStr_str, asInt_int, Option.bind_some, hd, cond_false]
        rfl
  have h := key FU 0 (by unfold FU; omega) (Nat.zero_le _)
  rw [List.drop_zero] at h
  have h0 : (((0 : Nat) : Int)) = 0 := rfl
  rw [h0] at h
  unfold all14
  rw [h]
  cases s.all low.contains <;> rfl
theorem lang14_exact (a : Str) (hl : a.length ≤ 1000000) : lang14 a = some (okLang a) := by
  unfold lang14 okLang
  rw [all14_exact a hl]
  by_cases h2 : a.length = 2
  · have d : (((a.length : Nat) : Int) == 2) = true := by rw [beq_iff_eq]; omega
    rw [d, decide_eq_true (by omega), decide_eq_true (by omega)]
    simp
  · have d : (((a.length : Nat) : Int) == 2) = false := by rw [beq_eq_false_iff_ne]; omega
    rw [d]
    by_cases h3 : a.length = 3
    · have d : (((a.length : Nat) : Int) == 3) = true := by rw [beq_iff_eq]; omega
      rw [d, decide_eq_true (by omega), decide_eq_true (by omega)]
      simp
    · have d : (((a.length : Nat) : Int) == 3) = false := by rw [beq_eq_false_iff_ne]; omega
      rw [d]
      have : (decide (2 ≤ a.length) && (decide (a.length ≤ 3) && a.all low.contains)) = false := by
        by_cases q : 2 ≤ a.length
        · have : decide (a.length ≤ 3) = false := decide_eq_false (by omega)
          rw [this]; simp
        · rw [decide_eq_false q]; rfl
      rw [this]; rfl

/-- A sign of a plain word. -/
def plainB (c : UInt8) : Bool := lowd.contains c || c == 45
theorem plain18_exact (s : Str) (hl : s.length ≤ 1000000) : plain18 s = some (!(s == []) && s.all plainB) := by
  have key : ∀ (f k : Nat), s.length - k < f → k ≤ s.length → loopK plain18_L0 f (0, [.v (.str s), .v (.int .i64 (k : Int))]) = some (if (s.drop k).all plainB then (1, [.v (.str s)]) else (0, [.v (.bool false)])) := by
    intro f
    induction f with
    | zero => intro k h; omega
    | succ f ih =>
      intro k hf hk
      unfold loopK
      by_cases hlt : k < s.length
      · have hd : decide ((k : Int) < ((s.length : Nat) : Int)) = true := decide_eq_true (by omega)
        have hw := w64 (x := (k : Int) + 1) (by omega) (by omega)
        rw [List.drop_eq_getElem_cons hlt, List.all_cons]
        have hi := idx_at s k hlt
        have step : plain18_L0 (0, [.v (.str s), .v (.int .i64 (k : Int))]) = some (if plainB s[k] then .inl (0, [.v (.str s), .v (.int .i64 ((k : Int) + 1))]) else .inr (0, [.v (.bool false)])) := by
          unfold plainB
          rw [lowd_iff]
          have h45 : (s[k] == 45) = decide ((s[k]).toNat = 45) := by
            have : (45 : UInt8).toNat = 45 := rfl
            by_cases e : s[k] = 45
            · rw [e]; rfl
            · have e2 : ¬ (s[k]).toNat = 45 := fun q => e (UInt8.toNat_inj.1 q)
              rw [decide_eq_false e2, beq_eq_false_iff_ne]; exact e
          have hne : ((((s[k]).toNat : Nat) : Int) != 45) = !(decide ((s[k]).toNat = 45)) := by
            by_cases e : (s[k]).toNat = 45
            · rw [e]; rfl
            · rw [decide_eq_false e]; simp; omega
          rw [h45]
          have c1 : decide ((((s[k]).toNat : Nat) : Int) < 97) = !(decide (97 ≤ (s[k]).toNat)) := by by_cases q : 97 ≤ (s[k]).toNat <;> simp [q] <;> omega
          have c2 : decide ((((s[k]).toNat : Nat) : Int) < 48) = !(decide (48 ≤ (s[k]).toNat)) := by by_cases q : 48 ≤ (s[k]).toNat <;> simp [q] <;> omega
          have c3 : decide ((((s[k]).toNat : Nat) : Int) > 57) = !(decide ((s[k]).toNat ≤ 57)) := by by_cases q : (s[k]).toNat ≤ 57 <;> simp [q] <;> omega
          have c4 : decide ((((s[k]).toNat : Nat) : Int) > 122) = !(decide ((s[k]).toNat ≤ 122)) := by by_cases q : (s[k]).toNat ≤ 122 <;> simp [q] <;> omega
          simp only [plain18_L0, sel, hV, List.getD_cons_zero, List.getD_cons_succ, asStr_str, asInt_int, Option.bind_some, hd, cond_true, hi, c1, c2, c3, c4, hne, hw]
          cases decide (97 ≤ (s[k]).toNat) <;> cases decide ((s[k]).toNat ≤ 122) <;> cases decide (48 ≤ (s[k]).toNat) <;> cases decide ((s[k]).toNat ≤ 57) <;> cases decide ((s[k]).toNat = 45) <;> rfl
        rw [step]
        cases plainB s[k] with
        | true => simp only [if_true, Option.bind_some, Bool.true_and]; exact ih (k + 1) (by omega) (by omega)
        | false => rfl
      · have hd : decide ((k : Int) < ((s.length : Nat) : Int)) = false := decide_eq_false (by omega)
        rw [List.drop_eq_nil_of_le (by omega)]
        simp only [plain18_L0, sel, hV, List.getD_cons_zero, List.getD_cons_succ, asStr_str, asInt_int, Option.bind_some, hd, cond_false]
        rfl
  have h := key FU 0 (by unfold FU; omega) (Nat.zero_le _)
  rw [List.drop_zero] at h
  have h0 : (((0 : Nat) : Int)) = 0 := rfl
  rw [h0] at h
  unfold plain18
  rw [h]
  cases s.all plainB <;> simp [sel, hV]
theorem times18_exact (s : Str) (hl : s.length ≤ 1000000) : ∃ n : Nat, times18 s [45] = some (n : Int) ∧ (n = 0 ↔ s.all (fun c => !(c == 45)) = true) := by
  have key : ∀ (f k n : Nat), s.length - k < f → k ≤ s.length → n ≤ k → ∃ m : Nat, loopK times18_L0 f (0, [.v (.str s), .v (.str [45]), .v (.int .i64 (n : Int)), .v (.int .i64 (k : Int))]) = some (0, [.v (.int .i64 (m : Int))]) ∧ n ≤ m ∧ (m = n ↔ (s.drop k).all (fun c => !(c == 45)) = true) := by
    intro f
    induction f with
    | zero => intro k n h; omega
    | succ f ih =>
      intro k n hf hk hn
      unfold loopK
      have hw := w64 (x := (k : Int) + 1) (by omega) (by omega)
      have hlen1 : ((([45] : Str).length : Nat) : Int) = 1 := rfl
      by_cases hlt : k < s.length
      · have hd : decide ((k : Int) + 1 ≤ ((s.length : Nat) : Int)) = true := decide_eq_true (by omega)
        have hdr : s.drop k = s[k] :: s.drop (k + 1) := List.drop_eq_getElem_cons hlt
        have hcut : cutL (some (k : Int)) (some ((k : Int) + 1)) s = some [s[k]] := by
          unfold cutL bI
          simp only [Option.getD_some]
          rw [if_pos (by omega), if_pos (by omega)]
          have e1 : ((k : Int) + 1).toNat - k = 1 := by omega
          simp only [Int.toNat_natCast, e1]
          rw [hdr]; rfl
        have hwn := w64 (x := (n : Int) + 1) (by omega) (by omega)
        rw [hdr, List.all_cons]
        by_cases hc : s[k] = 45
        · have hb : (([s[k]] : Str) == [45]) = true := by rw [hc]; rfl
          obtain ⟨m, h1, h2, h3⟩ := ih (k + 1) (n + 1) (by omega) (by omega) (by omega)
          refine ⟨m, ?_, by omega, ?_⟩
          · simp only [times18_L0, sel, hV, List.getD_cons_zero, List.getD_cons_succ, asStr_str, asInt_int, Option.bind_some, hlen1, hw, hd, cond_true, hcut, hb, hwn]
            exact h1
          · have : (s[k] == 45) = true := by simpa using hc
            rw [this]
            constructor
            · intro e; omega
            · intro e; simp at e
        · have hb : (([s[k]] : Str) == [45]) = false := by simpa using hc
          obtain ⟨m, h1, h2, h3⟩ := ih (k + 1) n (by omega) (by omega) (by omega)
          refine ⟨m, ?_, h2, ?_⟩
          · simp only [times18_L0, sel, hV, List.getD_cons_zero, List.getD_cons_succ, asStr_str, asInt_int, Option.bind_some, hlen1, hw, hd, cond_true, hcut, hb, cond_false]
            exact h1
          · have : (s[k] == 45) = false := by simpa using hc
            rw [this, h3]; simp
      · have hd : decide ((k : Int) + 1 ≤ ((s.length : Nat) : Int)) = false := decide_eq_false (by omega)
        rw [List.drop_eq_nil_of_le (by omega)]
        refine ⟨n, ?_, Nat.le_refl _, by simp⟩
        simp only [times18_L0, sel, hV, List.getD_cons_zero, List.getD_cons_succ, asStr_str, asInt_int, Option.bind_some, hlen1, hw, hd, cond_false]
  obtain ⟨m, h1, _, h3⟩ := key FU 0 0 (by unfold FU; omega) (Nat.zero_le _) (Nat.le_refl _)
  rw [List.drop_zero] at h3
  refine ⟨m, ?_, h3⟩
  unfold times18
  have h0 : (((0 : Nat) : Int)) = 0 := rfl
  rw [h0] at h1
  rw [h1]; rfl
theorem letters18_exact (s : Str) (hl : s.length ≤ 1000000) : letters18 s = some (okWord s) := by
  unfold letters18 okWord
  rw [plain18_exact s hl]
  obtain ⟨n, h1, h2⟩ := times18_exact s hl
  cases hs : s == [] with
  | true => simp
  | false =>
    simp only [Bool.not_false, Bool.true_and, Option.bind_some]
    have split : s.all lowd.contains = (s.all plainB && s.all fun c => !(c == 45)) := by
      clear h1 h2 hl hs
      induction s with
      | nil => rfl
      | cons c r ih =>
        rw [List.all_cons, List.all_cons, List.all_cons, ih]
        have : lowd.contains c = (plainB c && !(c == 45)) := by
          unfold plainB
          by_cases e : c = 45
          · subst e; rfl
          · have : (c == 45) = false := by simpa using e
            rw [this]; simp
        rw [this]
        cases plainB c <;> cases (!(c == 45)) <;> simp
    rw [split]
    cases hp : s.all plainB with
    | false => rfl
    | true =>
      simp only [cond_true, h1, Option.bind_some, Bool.true_and]
      cases ha : s.all fun c => !(c == 45) with
      | true =>
        have := h2.2 ha
        subst this; rfl
      | false =>
        have : ¬ n = 0 := fun e => by rw [h2.1 e] at ha; cases ha
        have : ((n : Int) == 0) = false := by rw [beq_eq_false_iff_ne]; omega
        rw [this]

/-! ### The document's own reading -/
def step18 (m : GM) (r : Rw) : GM ⊕ (Int × Int) := if isK kGender r then Go.Ev.stepG m r else .inl m
theorem fold18 : ∀ (xs : List Rw) (m : GM), foldE step18 xs m = foldE Go.Ev.stepG (xs.filter (isK kGender)) m
  | [], _ => rfl
  | x :: r, m => by
    simp only [foldE, step18, List.filter_cons]
    cases hk : isK kGender x with
    | false => simp only [Bool.false_eq_true, if_false]; exact fold18 r m
    | true =>
      simp only [if_true, foldE]
      cases Go.Ev.stepG m x with
      | inl m' => exact fold18 r m'
      | inr p => rfl
def fL (p : (Str × Str) × Str) : V := .str p.1.1
def fN (p : (Str × Str) × Str) : V := .str p.1.2
def fG (p : (Str × Str) × Str) : V := .str p.2
abbrev st18 (xs : List Rw) (i : Nat) (m : GM) : Vs := match m with
  | [] => (0, [.v (.sl (some (xs.map encR))), .v (.int .i64 (i : Int))])
  | p :: r => (1, [.v (.sl (some (xs.map encR))), .v (.int .i64 (i : Int)), .l ((p :: r).map fL), .l ((p :: r).map fN), .l ((p :: r).map fG)])
theorem l1_none (a b : Str) : loopK gload18_L1 FU (0, [.v (.str a), .v (.str b), .v (.int .i64 0)]) = some (1, []) := rfl
theorem l2_get (a b : Str) (m : GM) (hm : m.length ≤ 1000000) : ∀ (f i : Nat), m.length - i < f → i ≤ m.length →
    loopK gload18_L2 f (0, [.v (.str a), .v (.str b), .v (.int .i64 (i : Int)), .l (m.map fL), .l (m.map fN), .l (m.map fG)]) = some (match getM (a, b) (m.drop i) with
      | some y => (0, [.v (.str y), .l (m.map fL), .l (m.map fN), .l (m.map fG)])
      | none => (1, [.l (m.map fL), .l (m.map fN), .l (m.map fG)])) := by
  intro f
  induction f with
  | zero => intro i h; omega
  | succ f ih =>
    intro i hf hi
    unfold loopK
    by_cases hlt : i < m.length
    · have hd : decide ((i : Int) < (((m.map fL).length : Nat) : Int)) = true := decide_eq_true (by rw [List.length_map]; omega)
      have hw := w64 (x := (i : Int) + 1) (by omega) (by omega)
      have eL := idxL_map (f := fL) m i hlt
      have eN := idxL_map (f := fN) m i hlt
      have eG := idxL_map (f := fG) m i hlt
      rw [List.drop_eq_getElem_cons hlt]
      generalize hp : m[i] = p at eL eN eG
      obtain ⟨⟨x, y⟩, z⟩ := p
      simp only [fL, fN, fG] at eL eN eG
      have hg : getM (a, b) (((x, y), z) :: m.drop (i + 1)) = if (a, b) = (x, y) then some z else getM (a, b) (m.drop (i + 1)) := rfl
      rw [hg]
      by_cases hx : x = a
      · subst hx
        have bx : (x == x) = true := by simp
        by_cases hy : y = b
        · subst hy
          have bY : (y == y) = true := by simp
          rw [if_pos rfl]
          simp only [gload18_L2, sel, hV, hL, List.getD_cons_zero, List.getD_cons_succ, asStr_str, asInt_int, Option.bind_some, hd, cond_true, eL, eN, eG, bx, bY]
        · have bY : (y == b) = false := by simpa using hy
          rw [if_neg (fun e => hy (Prod.mk.inj e).2.symm)]
          simp only [gload18_L2, sel, hV, hL, List.getD_cons_zero, List.getD_cons_succ, asStr_str, asInt_int, Option.bind_some, hd, cond_true, eL, eN, bx, bY, cond_false, hw]
          exact ih (i + 1) (by omega) (by omega)
      · have bx : (x == a) = false := by simpa using hx
        rw [if_neg (fun e => hx (Prod.mk.inj e).1.symm)]
        simp only [gload18_L2, sel, hV, hL, List.getD_cons_zero, List.getD_cons_succ, asStr_str, asInt_int, Option.bind_some, hd, cond_true, eL, bx, cond_false, hw]
        exact ih (i + 1) (by omega) (by omega)
    · have hd : decide ((i : Int) < (((m.map fL).length : Nat) : Int)) = false := decide_eq_false (by rw [List.length_map]; omega)
      rw [List.drop_eq_nil_of_le (by omega)]
      simp only [gload18_L2, sel, hV, hL, List.getD_cons_zero, List.getD_cons_succ, asStr_str, asInt_int, Option.bind_some, hd, cond_false, getM]

theorem gload18_step (xs : List Rw) (i : Nat) (m : GM) (hi : i < xs.length) (hb : xs.length ≤ 1000000) (hm : m.length ≤ i) (hg : goodG m) (hw : RwB 1000 1000 xs[i]) :
    gload18_L0 (st18 xs i m) = some (match step18 m xs[i] with | .inl m' => .inl (st18 xs (i + 1) m') | .inr p => .inr (gout p)) := by
  have hd : decide ((i : Int) < ((slLen (some (xs.map encR)) : Nat) : Int)) = true := decide_eq_true (by simp [slLen]; omega)
  have hidx := idxL_map (f := encR) xs i hi
  have hwi : IntKind.wrap .i64 ((i : Int) + 1) = ((i + 1 : Nat) : Int) := by rw [w64 (by omega) (by omega)]; rfl
  generalize xs[i] = r at hidx hw
  obtain ⟨k, o⟩ := r
  have skip0 : ∀ o : Option (List Str), (o.getD []) = [] → o = o → isK kGender (k, o) = false := fun o h _ => by
    cases o with
    | none => rfl
    | some ws => cases ws with
      | nil => rfl
      | cons w ws => cases h
  by_cases hemp : o.getD [] = []
  · have h0 : (((slLen (encW o) : Nat) : Int) == 0) = true := by rw [slLen_encW, hemp]; rfl
    have hK := skip0 o hemp rfl
    unfold step18
    rw [hK]
    cases m with
    | nil => simp only [st18, gload18_L0, sel, hV, List.getD_cons_zero, List.getD_cons_succ, asSl_sl, asInt_int, Option.bind_some, Option.getD_some, hd, cond_true, hidx, asAgg_encR, h0, hwi]; rfl
    | cons p m => simp only [st18, gload18_L0, sel, hV, hL, List.getD_cons_zero, List.getD_cons_succ, asSl_sl, asInt_int, Option.bind_some, Option.getD_some, hd, cond_true, hidx, asAgg_encR, h0, hwi]; rfl
  · obtain ⟨w, ws, rfl⟩ : ∃ w ws, o = some (w :: ws) := by
      cases o with
      | none => exact absurd rfl hemp
      | some ws => cases ws with
        | nil => exact absurd rfl hemp
        | cons w ws => exact ⟨w, ws, rfl⟩
    have h0 : (((slLen (encW (some (w :: ws))) : Nat) : Int) == 0) = false := by rw [slLen_encW, beq_eq_false_iff_ne]; simp; omega
    have j0 : idxL ((encW (some (w :: ws))).getD []) 0 = some (.str w) := rfl
    have hKe : isK kGender (k, some (w :: ws)) = (w == [103, 101, 110, 100, 101, 114]) := rfl
    unfold step18
    rw [hKe]
    cases hk : (w == [103, 101, 110, 100, 101, 114]) with
    | false =>
      cases m with
      | nil => simp only [st18, gload18_L0, sel, hV, List.getD_cons_zero, List.getD_cons_succ, asSl_sl, asStr_str, asInt_int, Option.bind_some, Option.getD_some, hd, cond_true, hidx, asAgg_encR, h0, cond_false, j0, hk, Bool.not_false, hwi]; rfl
      | cons p m => simp only [st18, gload18_L0, sel, hV, hL, List.getD_cons_zero, List.getD_cons_succ, asSl_sl, asStr_str, asInt_int, Option.bind_some, Option.getD_some, hd, cond_true, hidx, asAgg_encR, h0, cond_false, j0, hk, Bool.not_false, hwi]; rfl
    | true =>
    simp only [if_true]
    by_cases h4 : ws.length = 3
    · obtain ⟨a, b, c, rfl⟩ : ∃ a b c, ws = [a, b, c] := by
        match ws, h4 with
        | [a, b, c], _ => exact ⟨a, b, c, rfl⟩
      simp only [RwB, Option.getD_some] at hw
      have ha := hw.2 a (by simp)
      have hb' := hw.2 b (by simp)
      have hc' := hw.2 c (by simp)
      have hla := lang14_exact a (by omega)
      have hlb := letters18_exact b (by omega)
      have hlc := letters18_exact c (by omega)
      have h44 : (((slLen (encW (some [w, a, b, c])) : Nat) : Int) != 4) = false := rfl
      have j1 : idxL ((encW (some [w, a, b, c])).getD []) 1 = some (.str a) := rfl
      have j2 : idxL ((encW (some [w, a, b, c])).getD []) 2 = some (.str b) := rfl
      have j3 : idxL ((encW (some [w, a, b, c])).getD []) 3 = some (.str c) := rfl
      have hS : Go.Ev.stepG m (k, some [w, a, b, c]) = if okLang a && (okWord b && okWord c) then (match getM (a, b) m with
        | some _ => .inr (k, 10)
        | none => .inl (m ++ [((a, b), c)])) else .inr (k, 2) := rfl
      rw [hS]
      clear hS
      generalize okLang a = la at hla ⊢
      generalize okWord b = lb at hlb ⊢
      generalize okWord c = lc at hlc ⊢
      cases la with
      | false =>
        cases m with
        | nil => simp only [st18, gload18_L0, sel, hV, List.getD_cons_zero, List.getD_cons_succ, asSl_sl, asStr_str, asInt_int, Option.bind_some, Option.getD_some, hd, cond_true, hidx, asAgg_encR, h0, cond_false, j0, hk, Bool.not_true, h44, j1, hla, Bool.not_false]; rfl
        | cons p m => simp only [st18, gload18_L0, sel, hV, hL, List.getD_cons_zero, List.getD_cons_succ, asSl_sl, asStr_str, asInt_int, Option.bind_some, Option.getD_some, hd, cond_true, hidx, asAgg_encR, h0, cond_false, j0, hk, Bool.not_true, h44, j1, hla, Bool.not_false]; rfl
      | true =>
      cases lb with
      | false =>
        cases m with
        | nil => simp only [st18, gload18_L0, sel, hV, List.getD_cons_zero, List.getD_cons_succ, asSl_sl, asStr_str, asInt_int, Option.bind_some, Option.getD_some, hd, cond_true, hidx, asAgg_encR, h0, cond_false, j0, hk, Bool.not_true, h44, j1, hla, Bool.not_false, j2, hlb]; rfl
        | cons p m => simp only [st18, gload18_L0, sel, hV, hL, List.getD_cons_zero, List.getD_cons_succ, asSl_sl, asStr_str, asInt_int, Option.bind_some, Option.getD_some, hd, cond_true, hidx, asAgg_encR, h0, cond_false, j0, hk, Bool.not_true, h44, j1, hla, Bool.not_false, j2, hlb]; rfl
      | true =>
      cases lc with
      | false =>
        cases m with
        | nil => simp only [st18, gload18_L0, sel, hV, List.getD_cons_zero, List.getD_cons_succ, asSl_sl, asStr_str, asInt_int, Option.bind_some, Option.getD_some, hd, cond_true, hidx, asAgg_encR, h0, cond_false, j0, hk, Bool.not_true, h44, j1, hla, Bool.not_false, j2, hlb, j3, hlc]; rfl
        | cons p m => simp only [st18, gload18_L0, sel, hV, hL, List.getD_cons_zero, List.getD_cons_succ, asSl_sl, asStr_str, asInt_int, Option.bind_some, Option.getD_some, hd, cond_true, hidx, asAgg_encR, h0, cond_false, j0, hk, Bool.not_true, h44, j1, hla, Bool.not_false, j2, hlb, j3, hlc]; rfl
      | true =>
      cases m with
      | nil =>
        simp only [st18, gload18_L0, sel, hV, List.getD_cons_zero, List.getD_cons_succ, asSl_sl, asStr_str, asInt_int, Option.bind_some, Option.getD_some, hd, cond_true, hidx, asAgg_encR, h0, cond_false, j0, hk, Bool.not_true, h44, j1, hla, j2, hlb, j3, hlc, l1_none, hwi]
        rfl
      | cons p m =>
        have hl2 := l2_get a b (p :: m) (by omega) FU 0 (by unfold FU; omega) (Nat.zero_le _)
        have h00 : (((0 : Nat) : Int)) = 0 := rfl
        rw [h00, List.drop_zero] at hl2
        cases hgm : getM (a, b) (p :: m) with
        | some y =>
          have hy := goodG_get hg hgm
          have e1 : (!(y == [])) = true := by simpa using hy
          rw [hgm] at hl2
          simp only [st18, gload18_L0, sel, hV, hL, List.getD_cons_zero, List.getD_cons_succ, asSl_sl, asStr_str, asInt_int, Option.bind_some, Option.getD_some, hd, cond_true, hidx, asAgg_encR, h0, cond_false, j0, hk, Bool.not_true, h44, j1, hla, j2, hlb, j3, hlc, hl2, e1]
          rfl
        | none =>
          rw [hgm] at hl2
          have f1 : ∀ g : ((Str × Str) × Str) → V, (fits (((p :: m).map g).length + 1) && true) = true := fun g => by
            rw [Bool.and_true, List.length_map]; unfold fits lim; exact decide_eq_true (by omega)
          simp only [st18, gload18_L0, sel, hV, hL, List.getD_cons_zero, List.getD_cons_succ, asSl_sl, asStr_str, asInt_int, Option.bind_some, Option.getD_some, hd, cond_true, hidx, asAgg_encR, h0, cond_false, j0, hk, Bool.not_true, h44, j1, hla, j2, hlb, j3, hlc, hl2, f1, chk_true, hwi]
          simp [fL, fN, fG]
    · have h44 : (((slLen (encW (some (w :: ws))) : Nat) : Int) != 4) = true := by
        rw [slLen_encW]; simp only [Option.getD_some, List.length_cons, bne_iff_ne, ne_eq]; omega
      have hS : Go.Ev.stepG m (k, some (w :: ws)) = .inr (k, 2) := by
        unfold Go.Ev.stepG
        match ws, h4 with
        | [], _ => rfl
        | [_], _ => rfl
        | [_, _], _ => rfl
        | [_, _, _], h => exact absurd rfl h
        | _ :: _ :: _ :: _ :: _, _ => rfl
      rw [hS]
      cases m with
      | nil => simp only [st18, gload18_L0, sel, hV, List.getD_cons_zero, List.getD_cons_succ, asSl_sl, asStr_str, asInt_int, Option.bind_some, Option.getD_some, hd, cond_true, hidx, asAgg_encR, h0, cond_false, j0, hk, Bool.not_true, h44]
      | cons p m => simp only [st18, gload18_L0, sel, hV, hL, List.getD_cons_zero, List.getD_cons_succ, asSl_sl, asStr_str, asInt_int, Option.bind_some, Option.getD_some, hd, cond_true, hidx, asAgg_encR, h0, cond_false, j0, hk, Bool.not_true, h44]

def e18 (m : GM) (f : (Str × Str) × Str → V) : Option (List V) := match m with
  | [] => none
  | p :: r => some ((p :: r).map f)
def enc18 (m : GM) : List V := [.sl (e18 m fL), .sl (e18 m fN), .sl (e18 m fG)]
def genR18 : GM ⊕ (Int × Int) → Option (List V) × Int × Int
  | .inl m => (some (enc18 m), 0, 0)
  | .inr p => (none, p.1, p.2)
def out18 : GM ⊕ (Int × Int) → Vs
  | .inl [] => (1, [])
  | .inl (p :: r) => (2, [.l ((p :: r).map fL), .l ((p :: r).map fN), .l ((p :: r).map fG)])
  | .inr p => gout p
theorem gload18_exact (o : Option (List Rw)) (hb : RwsB 1000 1000 1000 (o.getD [])) : gload18 (encRs o) = some (genR18 (foldE Go.Ev.stepG ((o.getD []).filter (isK kGender)) [])) := by
  rw [← fold18]
  cases o with
  | none => rfl
  | some xs =>
    simp only [Option.getD_some] at hb ⊢
    have hl := hb.1
    have key : ∀ (f i : Nat) (m : GM), xs.length - i < f → i ≤ xs.length → m.length ≤ i → goodG m → loopK gload18_L0 f (st18 xs i m) = some (out18 (foldE step18 (xs.drop i) m)) := by
      intro f
      induction f with
      | zero => intro i m h; omega
      | succ f ih =>
        intro i m hf hi hm hg
        unfold loopK
        by_cases hlt : i < xs.length
        · rw [gload18_step xs i m hlt (by omega) hm hg (hb.2 _ (List.getElem_mem hlt)), List.drop_eq_getElem_cons hlt]
          simp only [foldE]
          cases hs : step18 m xs[i] with
          | inl m' =>
            have : goodG m' ∧ m'.length ≤ m.length + 1 := by
              unfold step18 at hs
              split at hs
              · obtain ⟨g1, g2⟩ := stepG_good hg hs; exact ⟨g1, by omega⟩
              · cases hs; exact ⟨hg, by omega⟩
            exact ih (i + 1) m' (by omega) (by omega) (by omega) this.1
          | inr p => rfl
        · have : i = xs.length := by omega
          subst this
          have hd : decide ((xs.length : Int) < ((slLen (some (xs.map encR)) : Nat) : Int)) = false := decide_eq_false (by simp [slLen])
          rw [List.drop_length]
          cases m with
          | nil => simp only [st18, gload18_L0, sel, hV, List.getD_cons_zero, List.getD_cons_succ, asSl_sl, asInt_int, Option.bind_some, hd, cond_false]; rfl
          | cons p m => simp only [st18, gload18_L0, sel, hV, hL, List.getD_cons_zero, List.getD_cons_succ, asSl_sl, asInt_int, Option.bind_some, hd, cond_false]; rfl
    have h1 := key FU 0 [] (by unfold FU; omega) (Nat.zero_le _) (Nat.le_refl _) (fun p h => by cases h)
    rw [List.drop_zero] at h1
    have hst : ((0, [.v (.sl (encRs (some xs))), .v (.int .i64 0)]) : Vs) = st18 xs 0 [] := rfl
    unfold gload18
    rw [hst, h1]
    cases foldE step18 xs [] with
    | inl m => cases m <;> rfl
    | inr p => rfl

theorem gatom18_exact (m : GM) (lang name : Str) (hm : m.length ≤ 1000000) : gatom18 (some (enc18 m)) lang name = some (gget m lang name) := by
  cases m with
  | nil => rfl
  | cons p0 m0 =>
    have hE : enc18 (p0 :: m0) = [.sl (some ((p0 :: m0).map fL)), .sl (some ((p0 :: m0).map fN)), .sl (some ((p0 :: m0).map fG))] := rfl
    rw [hE]
    generalize p0 :: m0 = m at hm
    have hP : asPtr? 3 (.pt (some [V.sl (some (m.map fL)), V.sl (some (m.map fN)), V.sl (some (m.map fG))])) = some [V.sl (some (m.map fL)), V.sl (some (m.map fN)), V.sl (some (m.map fG))] := rfl
    have key : ∀ (f i : Nat), m.length - i < f → i ≤ m.length → loopK gatom18_L0 f (0, [.v (.pt (some [V.sl (some (m.map fL)), V.sl (some (m.map fN)), V.sl (some (m.map fG))])), .v (.str lang), .v (.str name), .v (.int .i64 (i : Int))]) =
        some (match getM (lang, name) (m.drop i) with | some y => (0, [.v (.str y)]) | none => (1, [])) := by
      intro f
      induction f with
      | zero => intro i h; omega
      | succ f ih =>
        intro i hf hi
        unfold loopK
        by_cases hlt : i < m.length
        · have hd : decide ((i : Int) < ((slLen (some (m.map fL)) : Nat) : Int)) = true := decide_eq_true (by simp [slLen]; omega)
          have hw := w64 (x := (i : Int) + 1) (by omega) (by omega)
          have eL := idxL_map (f := fL) m i hlt
          have eN := idxL_map (f := fN) m i hlt
          have eG := idxL_map (f := fG) m i hlt
          rw [List.drop_eq_getElem_cons hlt]
          generalize hp : m[i] = p at eL eN eG
          obtain ⟨⟨x, y⟩, z⟩ := p
          simp only [fL, fN, fG] at eL eN eG
          have hg : getM (lang, name) (((x, y), z) :: m.drop (i + 1)) = if (lang, name) = (x, y) then some z else getM (lang, name) (m.drop (i + 1)) := rfl
          rw [hg]
          by_cases hx : x = lang
          · subst hx
            have bx : (x == x) = true := by simp
            by_cases hy : y = name
            · subst hy
              have bY : (y == y) = true := by simp
              rw [if_pos rfl]
              simp only [gatom18_L0, sel, hV, hL, List.getD_cons_zero, List.getD_cons_succ, asStr_str, asInt_int, asSl_sl, asPt_pt, Option.bind_some, Option.getD_some, hP, hd, cond_true, eL, eN, eG, bx, bY]
            · have bY : (y == name) = false := by simpa using hy
              rw [if_neg (fun e => hy (Prod.mk.inj e).2.symm)]
              simp only [gatom18_L0, sel, hV, hL, List.getD_cons_zero, List.getD_cons_succ, asStr_str, asInt_int, asSl_sl, asPt_pt, Option.bind_some, Option.getD_some, hP, hd, cond_true, eL, eN, bx, bY, cond_false, hw]
              exact ih (i + 1) (by omega) (by omega)
          · have bx : (x == lang) = false := by simpa using hx
            rw [if_neg (fun e => hx (Prod.mk.inj e).1.symm)]
            simp only [gatom18_L0, sel, hV, hL, List.getD_cons_zero, List.getD_cons_succ, asStr_str, asInt_int, asSl_sl, asPt_pt, Option.bind_some, Option.getD_some, hP, hd, cond_true, eL, bx, cond_false, hw]
            exact ih (i + 1) (by omega) (by omega)
        · have hd : decide ((i : Int) < ((slLen (some (m.map fL)) : Nat) : Int)) = false := decide_eq_false (by simp [slLen]; omega)
          rw [List.drop_eq_nil_of_le (by omega)]
          simp only [gatom18_L0, sel, hV, hL, List.getD_cons_zero, List.getD_cons_succ, asStr_str, asInt_int, asSl_sl, asPt_pt, Option.bind_some, Option.getD_some, hP, hd, cond_false, getM]
    have h1 := key FU 0 (by unfold FU; omega) (Nat.zero_le _)
    have h00 : (((0 : Nat) : Int)) = 0 := rfl
    rw [h00, List.drop_zero] at h1
    unfold gatom18 gget
    rw [h1]
    cases getM (lang, name) m <;> rfl

theorem gpart18_exact (m : GM) (lang t : Str) (num den : Option (List Atm)) (hm : m.length ≤ 1000000) (h : (num.getD []).length ≤ 1000000) : gpart18 (some (enc18 m)) lang (encAs num) (encAs den) t = some (gpartS m lang (num.getD []) (den.getD [])) := by
  unfold gpart18 gpartS partName
  rw [slLen_encAs, slLen_encAs, getD_encAs, getD_encAs]
  generalize num.getD [] = n at h
  generalize den.getD [] = d
  rcases List.eq_nil_or_concat n with rfl | ⟨n', a, rfl⟩
  · have h0 : decide (((([] : List Atm).length : Nat) : Int) > 0) = false := rfl
    rw [h0]
    cases d with
    | nil => rfl
    | cons b d =>
      have h1 : decide ((((b :: d).length : Nat) : Int) > 0) = true := decide_eq_true (by simp)
      have h2 : idxL ((b :: d).map encA) 0 = some (encA b) := rfl
      obtain ⟨bp, bn, bk⟩ := b
      simp only [cond_false, h1, cond_true, h2, Option.bind_some, asAgg_encA, List.getD_cons_zero, List.getD_cons_succ, asStr_str, asInt_int, gatom18_exact m lang bn hm]
      rfl
  · rw [List.concat_eq_append] at h ⊢
    have h1 : decide ((((n' ++ [a]).length : Nat) : Int) > 0) = true := decide_eq_true (by simp)
    have h2 : idxL ((n' ++ [a]).map encA) (IntKind.wrap .i64 ((((n' ++ [a]).length : Nat) : Int) - 1)) = some (encA a) := by
      simp only [List.length_append, List.length_cons, List.length_nil] at h
      have e : (((n' ++ [a]).length : Nat) : Int) - 1 = (n'.length : Int) := by simp
      rw [e, w64 (by omega) (by omega), idxL_map _ _ (by simp)]
      simp
    obtain ⟨ap, an, ak⟩ := a
    simp only [h1, cond_true, h2, Option.bind_some, asAgg_encA, List.getD_cons_zero, List.getD_cons_succ, asStr_str, asInt_int, gatom18_exact m lang an hm]
    simp

/-! ### The law -/
abbrev cst (os : Option (List V)) (i : Nat) (acc : List V) : Vs := match acc with
  | [] => (0, [.v (.sl os), .v (.int .i64 (i : Int))])
  | a :: r => (1, [.v (.sl os), .v (.int .i64 (i : Int)), .l (a :: r)])
def cend (acc : List V) : Vs := match acc with
  | [] => (0, [])
  | a :: r => (1, [.l (a :: r)])
theorem copy_loop {α : Type} {f : α → V} {body : Vs → Option (Vs ⊕ Vs)} (xs : List α) (hb : xs.length ≤ 1000000)
    (step : ∀ i (acc : List V), (hi : i < xs.length) → acc.length ≤ i → body (cst (some (xs.map f)) i acc) = some (.inl (cst (some (xs.map f)) (i + 1) (acc ++ [f xs[i]]))))
    (last : ∀ acc, body (cst (some (xs.map f)) xs.length acc) = some (.inr (cend acc))) : loopK body FU (cst (some (xs.map f)) 0 []) = some (cend (xs.map f)) := by
  have key : ∀ (n i : Nat) (acc : List V), xs.length - i < n → i ≤ xs.length → acc.length ≤ i → loopK body n (cst (some (xs.map f)) i acc) = some (cend (acc ++ (xs.drop i).map f)) := by
    intro n
    induction n with
    | zero => intro i acc h; omega
    | succ n ih =>
      intro i acc hn hi ha
      unfold loopK
      by_cases hlt : i < xs.length
      · rw [step i acc hlt ha]
        simp only [Option.bind_some]
        have hdr : (xs.drop i).map f = f xs[i] :: (xs.drop (i + 1)).map f := by rw [List.drop_eq_getElem_cons hlt]; rfl
        rw [ih (i + 1) _ (by omega) (by omega) (by simp; omega), hdr, List.append_assoc]
        rfl
      · have : i = xs.length := by omega
        subst this
        rw [last acc, List.drop_length]
        simp
  have := key FU 0 [] (by unfold FU; omega) (Nat.zero_le _) (Nat.le_refl _)
  simpa using this

theorem rowsOf23_exact (o : Option (List Rw)) (hb : (o.getD []).length ≤ 1000000) : rowsOf23 (encRs o) = some (encRs (nz (o.getD []))) := by
  cases o with
  | none => rfl
  | some xs =>
    simp only [Option.getD_some] at hb ⊢
    have h := copy_loop (f := encR) (body := rowsOf23_L0) xs hb (fun i acc hi ha => by
      have hd : decide ((i : Int) < ((slLen (some (xs.map encR)) : Nat) : Int)) = true := decide_eq_true (by simp [slLen]; omega)
      have hidx := idxL_map (f := encR) xs i hi
      have hwi : IntKind.wrap .i64 ((i : Int) + 1) = ((i + 1 : Nat) : Int) := by rw [w64 (by omega) (by omega)]; rfl
      have hfa : (fits (acc.length + 1) && true) = true := by
        rw [Bool.and_true]; unfold fits lim; exact decide_eq_true (by omega)
      have hE : V.agg [.int .i64 xs[i].1, .sl (encW xs[i].2)] = encR xs[i] := rfl
      cases acc with
      | nil => simp only [cst, rowsOf23_L0, sel, hV, hL, List.getD_cons_zero, List.getD_cons_succ, asSl_sl, asInt_int, Option.bind_some, Option.getD_some, hd, cond_true, hidx, asAgg_encR, hwi, hE]; rfl
      | cons a r => simp only [cst, rowsOf23_L0, sel, hV, hL, List.getD_cons_zero, List.getD_cons_succ, asSl_sl, asInt_int, Option.bind_some, Option.getD_some, hd, cond_true, hidx, asAgg_encR, hfa, chk_true, hwi, hE]; rfl) (fun acc => by
      have hd : decide ((xs.length : Int) < ((slLen (some (xs.map encR)) : Nat) : Int)) = false := decide_eq_false (by simp [slLen])
      cases acc with
      | nil => simp only [cst, rowsOf23_L0, sel, hV, hL, List.getD_cons_zero, List.getD_cons_succ, asSl_sl, asInt_int, Option.bind_some, hd, cond_false]; rfl
      | cons a r => simp only [cst, rowsOf23_L0, sel, hV, hL, List.getD_cons_zero, List.getD_cons_succ, asSl_sl, asInt_int, Option.bind_some, hd, cond_false]; rfl)
    have hst : ((0, [.v (.sl (encRs (some xs))), .v (.int .i64 0)]) : Vs) = cst (some (xs.map encR)) 0 [] := rfl
    unfold rowsOf23
    rw [hst, h]
    cases xs <;> rfl

theorem atomsOf23_exact (o : Option (List Atm)) (hb : (o.getD []).length ≤ 1000000) : atomsOf23 (encAs o) = some (encAs (nz (o.getD []))) := by
  cases o with
  | none => rfl
  | some xs =>
    simp only [Option.getD_some] at hb ⊢
    have h := copy_loop (f := encA) (body := atomsOf23_L0) xs hb (fun i acc hi ha => by
      have hd : decide ((i : Int) < ((slLen (some (xs.map encA)) : Nat) : Int)) = true := decide_eq_true (by simp [slLen]; omega)
      have hidx := idxL_map (f := encA) xs i hi
      have hwi : IntKind.wrap .i64 ((i : Int) + 1) = ((i + 1 : Nat) : Int) := by rw [w64 (by omega) (by omega)]; rfl
      have hfa : (fits (acc.length + 1) && true) = true := by
        rw [Bool.and_true]; unfold fits lim; exact decide_eq_true (by omega)
      have hE : V.agg [.str xs[i].1, .str xs[i].2.1, .int .i64 xs[i].2.2] = encA xs[i] := rfl
      cases acc with
      | nil => simp only [cst, atomsOf23_L0, sel, hV, hL, List.getD_cons_zero, List.getD_cons_succ, asSl_sl, asStr_str, asInt_int, Option.bind_some, Option.getD_some, hd, cond_true, hidx, asAgg_encA, hwi, hE]; rfl
      | cons a r => simp only [cst, atomsOf23_L0, sel, hV, hL, List.getD_cons_zero, List.getD_cons_succ, asSl_sl, asStr_str, asInt_int, Option.bind_some, Option.getD_some, hd, cond_true, hidx, asAgg_encA, hfa, chk_true, hwi, hE]; rfl) (fun acc => by
      have hd : decide ((xs.length : Int) < ((slLen (some (xs.map encA)) : Nat) : Int)) = false := decide_eq_false (by simp [slLen])
      cases acc with
      | nil => simp only [cst, atomsOf23_L0, sel, hV, hL, List.getD_cons_zero, List.getD_cons_succ, asSl_sl, asInt_int, Option.bind_some, hd, cond_false]; rfl
      | cons a r => simp only [cst, atomsOf23_L0, sel, hV, hL, List.getD_cons_zero, List.getD_cons_succ, asSl_sl, asInt_int, Option.bind_some, hd, cond_false]; rfl)
    have hst : ((0, [.v (.sl (encAs (some xs))), .v (.int .i64 0)]) : Vs) = cst (some (xs.map encA)) 0 [] := rfl
    unfold atomsOf23
    rw [hst, h]
    cases xs <;> rfl
theorem nz_getD {α : Type} (xs : List α) : (nz xs).getD [] = xs := by cases xs <;> rfl

theorem stepG_bad {m : GM} {r : Rw} {p : Int × Int} (h : Go.Ev.stepG m r = .inr p) : p.2 ≠ 0 := by
  unfold Go.Ev.stepG at h
  split at h
  · split at h
    · split at h
      · cases h; exact (by decide : ((10 : Int)) ≠ 0)
      · cases h
    · cases h; exact (by decide : ((2 : Int)) ≠ 0)
  · cases h; exact (by decide : ((2 : Int)) ≠ 0)
theorem fold_bad : ∀ (xs : List Rw) (m : GM) (p : Int × Int), foldE Go.Ev.stepG xs m = .inr p → p.2 ≠ 0
  | [], m, p, h => by cases h
  | x :: r, m, p, h => by
    simp only [foldE] at h
    cases hs : Go.Ev.stepG m x with
    | inl m' => rw [hs] at h; exact fold_bad r m' p h
    | inr q => rw [hs] at h; cases h; exact stepG_bad hs

theorem awake23_t : awake23 = some true := rfl

theorem lsays_true {o : Option (List V)} (h : RowsT big big big o) (lang : Str) (num den : Option (List Atm)) (c : Option (List V)) (hc : c = none ∨ ∃ l, c = some (wordsV l) ∧ okWs l) (p name : Str) (k : Int) :
    lsays o lang (encAs num) (encAs den) c p name k = some true := by
  obtain ⟨b, h1, h2⟩ := heavy_some h
  have h1 : heavy23 o = some b := h1
  unfold lsays
  rw [awake23_t]
  simp only [Option.bind_some, Bool.not_true, cond_false, h1]
  cases b with
  | true => rfl
  | false =>
    obtain ⟨t, rfl, hB⟩ := rows_typed (h2 rfl)
    simp only [cond_false, slLen_encAs]
    by_cases hn : (num.getD []).length ≤ 10
    · by_cases hd : (den.getD []).length ≤ 10
      · by_cases hl : slLen c ≤ 6
        · have d1 : decide ((((num.getD []).length : Nat) : Int) > 10) = false := decide_eq_false (by omega)
          have d2 : decide ((((den.getD []).length : Nat) : Int) > 10) = false := decide_eq_false (by omega)
          have d3 : decide (((slLen c : Nat) : Int) > 6) = false := decide_eq_false (by omega)
          have hB' : RwsB 1000 1000 1000 (t.getD []) := ⟨by have := hB.1; omega, fun r hr => ⟨by have := (hB.2 r hr).1; omega, fun s hs => by have := (hB.2 r hr).2 s hs; omega⟩⟩
          obtain ⟨q, hq, hg1, hg2⟩ := gload_exact t hB'
          have hr := rowsOf23_exact t (by have := hB.1; omega)
          have h18 := gload18_exact (nz (t.getD [])) (by rw [nz_getD]; exact hB')
          rw [nz_getD, hq] at h18
          simp only [d1, d2, d3, cond_false, hg1, Option.bind_some, hr, h18]
          have htx : ∃ x, ntext c = some x := by
            rcases hc with rfl | ⟨l, rfl, hw⟩
            · exact ⟨_, ntext_none⟩
            · exact ⟨_, ntext_exact l (by simp [slLen] at hl; omega) hw⟩
          obtain ⟨x, hx⟩ := htx
          cases q with
          | inr e =>
            have b1 : (e.2 != e.2) = false := by simp
            have b2 : (e.1 != e.1) = false := by simp
            simp only [genR, genR18, b1, b2, cond_false]
            have b3 : (e.2 != 0) = true := by simpa using fold_bad _ _ _ hq
            simp only [b3, cond_true]
            rfl
          | inl m =>
            obtain ⟨g1, g2⟩ := hg2 m rfl
            have a1 := gatom_exact m lang p name k
            have a2 := gatom18_exact m lang name (by omega)
            have p1 := gpart_exact m lang num den c (by omega)
            have hpo : partOf23 (encAs num) (encAs den) c = some (encAs (nz (num.getD [])), encAs (nz (den.getD [])), x) := by
              unfold partOf23
              have hx' : gs.ntext c = some x := hx
              simp only [atomsOf23_exact num (by omega), atomsOf23_exact den (by omega), hx', Option.bind_some]
            have p2 := gpart18_exact m lang x (nz (num.getD [])) (nz (den.getD [])) (by omega) (by rw [nz_getD]; omega)
            rw [nz_getD, nz_getD] at p2
            have p3 := gwhole_exact m lang num den c (by omega)
            have b1 : (((0 : Int)) != 0) = false := rfl
            have b3 : ((some [V.mp (some (encF key2 V.str m))] : Option (List V)).isNone) = false := rfl
            have e1 : ∀ s : Str, (s == s) = true := fun s => by simp
            simp only [genR, genR18, b1, cond_false, b3, Bool.not_false, cond_true, gatom, gpart, gwhole, a1, a2, Option.bind_some, e1, p1, hpo, p2, p3]
        · have d1 : decide ((((num.getD []).length : Nat) : Int) > 10) = false := decide_eq_false (by omega)
          have d2 : decide ((((den.getD []).length : Nat) : Int) > 10) = false := decide_eq_false (by omega)
          have d3 : decide (((slLen c : Nat) : Int) > 6) = true := decide_eq_true (by omega)
          simp only [d1, d2, d3, cond_false, cond_true]
      · have d1 : decide ((((num.getD []).length : Nat) : Int) > 10) = false := decide_eq_false (by omega)
        have d2 : decide ((((den.getD []).length : Nat) : Int) > 10) = true := decide_eq_true (by omega)
        simp only [d1, d2, cond_false, cond_true]
    · have d1 : decide ((((num.getD []).length : Nat) : Int) > 10) = true := decide_eq_true (by omega)
      simp only [d1, cond_true]
end Go.Proofs.YtmlhdhndjgdoaaaDoor.gs
