/- Patterns: their words' forms, in normal form and exactly. Of no program. -/
import Derived.Test.YtmlhdhndjgdoaaaGreatDoorCuGend
import Derived.Test.YtmlhdhndjgdoaaaGreatDoorCuTl2
import Derived.KernelRfl
namespace Go.Ev
set_option linter.unusedSimpArgs false
set_option linter.unusedVariables false
set_option maxRecDepth 100000

noncomputable def masLow_r : List V := [(.bool false), (.bool false), (.bool false), (.bool false), (.bool false), (.bool false), (.bool false), (.bool false), (.bool false), (.bool false), (.bool false), (.bool false), (.bool false), (.bool false), (.bool false), (.bool false), (.bool false), (.bool false), (.bool false), (.bool false), (.bool false), (.bool false), (.bool false), (.bool false), (.bool false), (.bool false), (.bool false), (.bool false), (.bool false), (.bool false), (.bool false), (.bool false), (.bool false), (.bool false), (.bool false), (.bool false), (.bool false), (.bool false), (.bool false), (.bool false), (.bool false), (.bool false), (.bool false), (.bool false), (.bool false), (.bool false), (.bool false), (.bool false), (.bool false), (.bool false), (.bool false), (.bool false), (.bool false), (.bool false), (.bool false), (.bool false), (.bool false), (.bool false), (.bool false), (.bool false), (.bool false), (.bool false), (.bool false), (.bool false), (.bool false), (.bool false), (.bool false), (.bool false), (.bool false), (.bool false), (.bool false), (.bool false), (.bool false), (.bool false), (.bool false), (.bool false), (.bool false), (.bool false), (.bool false), (.bool false), (.bool false), (.bool false), (.bool false), (.bool false), (.bool false), (.bool false), (.bool false), (.bool false), (.bool false), (.bool false), (.bool false), (.bool false), (.bool false), (.bool false), (.bool false), (.bool false), (.bool false), (.bool true), (.bool true), (.bool true), (.bool true), (.bool true), (.bool true), (.bool true), (.bool true), (.bool true), (.bool true), (.bool true), (.bool true), (.bool true), (.bool true), (.bool true), (.bool true), (.bool true), (.bool true), (.bool true), (.bool true), (.bool true), (.bool true), (.bool true), (.bool true), (.bool true), (.bool true), (.bool false), (.bool false), (.bool false), (.bool false), (.bool false), (.bool false), (.bool false), (.bool false), (.bool false), (.bool false), (.bool false), (.bool false), (.bool false), (.bool false), (.bool false), (.bool false), (.bool false), (.bool false), (.bool false), (.bool false), (.bool false), (.bool false), (.bool false), (.bool false), (.bool false), (.bool false), (.bool false), (.bool false), (.bool false), (.bool false), (.bool false), (.bool false), (.bool false), (.bool false), (.bool false), (.bool false), (.bool false), (.bool false), (.bool false), (.bool false), (.bool false), (.bool false), (.bool false), (.bool false), (.bool false), (.bool false), (.bool false), (.bool false), (.bool false), (.bool false), (.bool false), (.bool false), (.bool false), (.bool false), (.bool false), (.bool false), (.bool false), (.bool false), (.bool false), (.bool false), (.bool false), (.bool false), (.bool false), (.bool false), (.bool false), (.bool false), (.bool false), (.bool false), (.bool false), (.bool false), (.bool false), (.bool false), (.bool false), (.bool false), (.bool false), (.bool false), (.bool false), (.bool false), (.bool false), (.bool false), (.bool false), (.bool false), (.bool false), (.bool false), (.bool false), (.bool false), (.bool false), (.bool false), (.bool false), (.bool false), (.bool false), (.bool false), (.bool false), (.bool false), (.bool false), (.bool false), (.bool false), (.bool false), (.bool false), (.bool false), (.bool false), (.bool false), (.bool false), (.bool false), (.bool false), (.bool false), (.bool false), (.bool false), (.bool false), (.bool false), (.bool false), (.bool false), (.bool false), (.bool false), (.bool false), (.bool false), (.bool false), (.bool false), (.bool false), (.bool false), (.bool false), (.bool false), (.bool false), (.bool false), (.bool false), (.bool false), (.bool false), (.bool false), (.bool false), (.bool false), (.bool false), (.bool false), (.bool false)]
noncomputable def masName_r : List V := [(.bool false), (.bool false), (.bool false), (.bool false), (.bool false), (.bool false), (.bool false), (.bool false), (.bool false), (.bool false), (.bool false), (.bool false), (.bool false), (.bool false), (.bool false), (.bool false), (.bool false), (.bool false), (.bool false), (.bool false), (.bool false), (.bool false), (.bool false), (.bool false), (.bool false), (.bool false), (.bool false), (.bool false), (.bool false), (.bool false), (.bool false), (.bool false), (.bool false), (.bool false), (.bool false), (.bool false), (.bool false), (.bool false), (.bool false), (.bool false), (.bool false), (.bool false), (.bool false), (.bool false), (.bool false), (.bool true), (.bool false), (.bool false), (.bool true), (.bool true), (.bool true), (.bool true), (.bool true), (.bool true), (.bool true), (.bool true), (.bool true), (.bool true), (.bool false), (.bool false), (.bool false), (.bool false), (.bool false), (.bool false), (.bool false), (.bool false), (.bool false), (.bool false), (.bool false), (.bool false), (.bool false), (.bool false), (.bool false), (.bool false), (.bool false), (.bool false), (.bool false), (.bool false), (.bool false), (.bool false), (.bool false), (.bool false), (.bool false), (.bool false), (.bool false), (.bool false), (.bool false), (.bool false), (.bool false), (.bool false), (.bool false), (.bool false), (.bool false), (.bool false), (.bool false), (.bool false), (.bool false), (.bool true), (.bool true), (.bool true), (.bool true), (.bool true), (.bool true), (.bool true), (.bool true), (.bool true), (.bool true), (.bool true), (.bool true), (.bool true), (.bool true), (.bool true), (.bool true), (.bool true), (.bool true), (.bool true), (.bool true), (.bool true), (.bool true), (.bool true), (.bool true), (.bool true), (.bool true), (.bool false), (.bool false), (.bool false), (.bool false), (.bool false), (.bool false), (.bool false), (.bool false), (.bool false), (.bool false), (.bool false), (.bool false), (.bool false), (.bool false), (.bool false), (.bool false), (.bool false), (.bool false), (.bool false), (.bool false), (.bool false), (.bool false), (.bool false), (.bool false), (.bool false), (.bool false), (.bool false), (.bool false), (.bool false), (.bool false), (.bool false), (.bool false), (.bool false), (.bool false), (.bool false), (.bool false), (.bool false), (.bool false), (.bool false), (.bool false), (.bool false), (.bool false), (.bool false), (.bool false), (.bool false), (.bool false), (.bool false), (.bool false), (.bool false), (.bool false), (.bool false), (.bool false), (.bool false), (.bool false), (.bool false), (.bool false), (.bool false), (.bool false), (.bool false), (.bool false), (.bool false), (.bool false), (.bool false), (.bool false), (.bool false), (.bool false), (.bool false), (.bool false), (.bool false), (.bool false), (.bool false), (.bool false), (.bool false), (.bool false), (.bool false), (.bool false), (.bool false), (.bool false), (.bool false), (.bool false), (.bool false), (.bool false), (.bool false), (.bool false), (.bool false), (.bool false), (.bool false), (.bool false), (.bool false), (.bool false), (.bool false), (.bool false), (.bool false), (.bool false), (.bool false), (.bool false), (.bool false), (.bool false), (.bool false), (.bool false), (.bool false), (.bool false), (.bool false), (.bool false), (.bool false), (.bool false), (.bool false), (.bool false), (.bool false), (.bool false), (.bool false), (.bool false), (.bool false), (.bool false), (.bool false), (.bool false), (.bool false), (.bool false), (.bool false), (.bool false), (.bool false), (.bool false), (.bool false), (.bool false), (.bool false), (.bool false), (.bool false), (.bool false), (.bool false), (.bool false), (.bool false), (.bool false), (.bool false)]
/-! cubit/pattern.lang -/
noncomputable def plang_L0 (v : Vs) : Option (Vs ⊕ Vs) := sel v.1 [((asStr? (hV v.2 0)).bind fun x0 =>
(cond (decide ((((x0 : List UInt8).length : Nat) : Int) > 0))
((idxL x0 (IntKind.wrap .i64 ((((x0 : List UInt8).length : Nat) : Int) - 1))).bind fun x1 =>
(chk (decide (0 ≤ ((x1.toNat : Nat) : Int)) && decide (((x1.toNat : Nat) : Int) < 256))
((((masLow_r : List V)[(0 + Int.toNat ((x1.toNat : Nat) : Int) * 1)]?)).bind fun x2 =>
((asBool? x2).bind fun x3 =>
(cond (!x3)
(some (.inr (0, [(.v (.str x0))])))
((cutL none (some (IntKind.wrap .i64 ((((x0 : List UInt8).length : Nat) : Int) - 1))) x0).bind fun x4 =>
(some (.inl (0, [(.v (.str x4))])))))))))
(some (.inr (0, [(.v (.str x0))])))))]
noncomputable def plang_L1 (v : Vs) : Option (Vs ⊕ Vs) := sel v.1 [((asStr? (hV v.2 0)).bind fun x7 =>
(cond (decide ((((x7 : List UInt8).length : Nat) : Int) > 0))
((idxL x7 0).bind fun x8 =>
(chk (decide (0 ≤ ((x8.toNat : Nat) : Int)) && decide (((x8.toNat : Nat) : Int) < 256))
((((masLow_r : List V)[(0 + Int.toNat ((x8.toNat : Nat) : Int) * 1)]?)).bind fun x9 =>
((asBool? x9).bind fun x10 =>
(cond (!x10)
(some (.inr (0, [(.v (.str x7))])))
((cutL (some 1) none x7).bind fun x11 =>
(some (.inl (0, [(.v (.str x11))])))))))))
(some (.inr (0, [(.v (.str x7))])))))]
noncomputable def plang (a0 : List UInt8) : Option (Bool) :=
(cond (a0 == [114, 111, 111, 116])
(some (true))
(cond (decide ((((a0 : List UInt8).length : Nat) : Int) ≥ 2))
(cond (decide ((((a0 : List UInt8).length : Nat) : Int) ≤ 3))
(cond (a0 == [])
(some ((a0 == [])))
((loopK plang_L0 FU (0, [(.v (.str a0))])).bind fun x5 => sel x5.1 [((asStr? (hV x5.2 0)).bind fun x6 =>
((loopK plang_L1 FU (0, [(.v (.str x6))])).bind fun x12 => sel x12.1 [((asStr? (hV x12.2 0)).bind fun x13 =>
(some ((x13 == []))))]))]))
(some (false)))
(some (false))))
/-! cubit/pattern.width -/
noncomputable def pwidth (a0 : List UInt8) : Option (Bool) :=
(cond (a0 == [108, 111, 110, 103])
(some (true))
(cond (a0 == [115, 104, 111, 114, 116])
(some (true))
(some ((a0 == [110, 97, 114, 114, 111, 119])))))
/-! cubit/pattern.name -/
noncomputable def pname_L0 (v : Vs) : Option (Vs ⊕ Vs) := sel v.1 [((asStr? (hV v.2 0)).bind fun x0 =>
(cond (decide ((((x0 : List UInt8).length : Nat) : Int) > 0))
((idxL x0 (IntKind.wrap .i64 ((((x0 : List UInt8).length : Nat) : Int) - 1))).bind fun x1 =>
(chk (decide (0 ≤ ((x1.toNat : Nat) : Int)) && decide (((x1.toNat : Nat) : Int) < 256))
((((masName_r : List V)[(0 + Int.toNat ((x1.toNat : Nat) : Int) * 1)]?)).bind fun x2 =>
((asBool? x2).bind fun x3 =>
(cond (!x3)
(some (.inr (0, [(.v (.str x0))])))
((cutL none (some (IntKind.wrap .i64 ((((x0 : List UInt8).length : Nat) : Int) - 1))) x0).bind fun x4 =>
(some (.inl (0, [(.v (.str x4))])))))))))
(some (.inr (0, [(.v (.str x0))])))))]
noncomputable def pname_L1 (v : Vs) : Option (Vs ⊕ Vs) := sel v.1 [((asStr? (hV v.2 0)).bind fun x7 =>
(cond (decide ((((x7 : List UInt8).length : Nat) : Int) > 0))
((idxL x7 0).bind fun x8 =>
(chk (decide (0 ≤ ((x8.toNat : Nat) : Int)) && decide (((x8.toNat : Nat) : Int) < 256))
((((masName_r : List V)[(0 + Int.toNat ((x8.toNat : Nat) : Int) * 1)]?)).bind fun x9 =>
((asBool? x9).bind fun x10 =>
(cond (!x10)
(some (.inr (0, [(.v (.str x7))])))
((cutL (some 1) none x7).bind fun x11 =>
(some (.inl (0, [(.v (.str x11))])))))))))
(some (.inr (0, [(.v (.str x7))])))))]
noncomputable def pname (a0 : List UInt8) : Option (Bool) :=
(cond (!(a0 == []))
(cond (a0 == [])
(some ((a0 == [])))
((loopK pname_L0 FU (0, [(.v (.str a0))])).bind fun x5 => sel x5.1 [((asStr? (hV x5.2 0)).bind fun x6 =>
((loopK pname_L1 FU (0, [(.v (.str x6))])).bind fun x12 => sel x12.1 [((asStr? (hV x12.2 0)).bind fun x13 =>
(some ((x13 == []))))]))]))
(some (false)))
/-! cubit/pattern.some -/
noncomputable def psome (a0 : List UInt8) : Option (List UInt8) :=
(cond (a0 == [45])
(some ([]))
(some (a0)))
/-! cubit/rows.Blank -/
noncomputable def rblank (a0 : List UInt8) : Option (List UInt8) :=
((replAll a0 [95] [32]).bind fun x0 =>
(some (x0)))
/-! cubit/pattern.signs -/
noncomputable def psigns (a0 : List UInt8) : Option (Int × Int) :=
((sCount a0 [123, 48, 125]).bind fun x0 =>
((sCount a0 [123, 49, 125]).bind fun x1 =>
(some (x0, x1))))

/-! ### Trim by a set: loops over a table of 256 bools -/
noncomputable def trimRB (tb : List V) (v : Vs) : Option (Vs ⊕ Vs) := sel v.1 [((asStr? (hV v.2 0)).bind fun x0 =>
(cond (decide ((((x0 : List UInt8).length : Nat) : Int) > 0))
((idxL x0 (IntKind.wrap .i64 ((((x0 : List UInt8).length : Nat) : Int) - 1))).bind fun x1 =>
(chk (decide (0 ≤ ((x1.toNat : Nat) : Int)) && decide (((x1.toNat : Nat) : Int) < 256))
((((tb : List V)[(0 + Int.toNat ((x1.toNat : Nat) : Int) * 1)]?)).bind fun x2 =>
((asBool? x2).bind fun x3 =>
(cond (!x3)
(some (.inr (0, [(.v (.str x0))])))
((cutL none (some (IntKind.wrap .i64 ((((x0 : List UInt8).length : Nat) : Int) - 1))) x0).bind fun x4 =>
(some (.inl (0, [(.v (.str x4))])))))))))
(some (.inr (0, [(.v (.str x0))])))))]
noncomputable def trimLB (tb : List V) (v : Vs) : Option (Vs ⊕ Vs) := sel v.1 [((asStr? (hV v.2 0)).bind fun x7 =>
(cond (decide ((((x7 : List UInt8).length : Nat) : Int) > 0))
((idxL x7 0).bind fun x8 =>
(chk (decide (0 ≤ ((x8.toNat : Nat) : Int)) && decide (((x8.toNat : Nat) : Int) < 256))
((((tb : List V)[(0 + Int.toNat ((x8.toNat : Nat) : Int) * 1)]?)).bind fun x9 =>
((asBool? x9).bind fun x10 =>
(cond (!x10)
(some (.inr (0, [(.v (.str x7))])))
((cutL (some 1) none x7).bind fun x11 =>
(some (.inl (0, [(.v (.str x11))])))))))))
(some (.inr (0, [(.v (.str x7))])))))]
/-- A table that holds a set. -/
def TabB (tb : List V) (p : UInt8 → Bool) : Prop := ∀ c : UInt8, tb[c.toNat]? = some (.bool (p c))
theorem trimRB_exact {tb : List V} {p : UInt8 → Bool} (h : TabB tb p) : ∀ (f : Nat) (s : Str), s.length < f → s.length ≤ 1000000 → ∃ r, loopK (trimRB tb) f (0, [.v (.str s)]) = some (0, [.v (.str r)]) ∧ (∃ t, s = r ++ t ∧ t.all p = true) ∧ (r = [] ∨ ∃ q c, r = q ++ [c] ∧ p c = false) := by
  intro f
  induction f with
  | zero => intro s h; omega
  | succ f ih =>
    intro s hf hl
    unfold loopK
    rcases List.eq_nil_or_concat s with rfl | ⟨q, c, rfl⟩
    · exact ⟨[], by simp [trimRB, sel, hV], ⟨[], rfl, rfl⟩, .inl rfl⟩
    · rw [List.concat_eq_append] at hf hl ⊢
      simp only [List.length_append, List.length_cons, List.length_nil] at hf hl
      have hlen : (((q ++ [c]).length : Nat) : Int) - 1 = (q.length : Int) := by simp
      have hpos : decide ((((q ++ [c]).length : Nat) : Int) > 0) = true := decide_eq_true (by simp)
      have hw := w64 (x := (q.length : Int)) (by omega) (by omega)
      have hidx : idxL (q ++ [c]) (q.length : Int) = some c := by
        unfold idxL
        rw [if_neg (by omega), Int.toNat_natCast]; simp
      have hcl : c.toNat < 256 := c.toNat_lt
      have hck : (decide (0 ≤ ((c.toNat : Nat) : Int)) && decide (((c.toNat : Nat) : Int) < 256)) = true := by
        rw [Bool.and_eq_true, decide_eq_true_eq, decide_eq_true_eq]; omega
      have ht : tb[0 + Int.toNat ((c.toNat : Nat) : Int) * 1]? = some (.bool (p c)) := by
        rw [Int.toNat_natCast, Nat.zero_add, Nat.mul_one]; exact h c
      have hcut : cutL none (some (q.length : Int)) (q ++ [c]) = some q := by
        rw [cutL_to (by omega) (by simp; omega), Int.toNat_natCast, List.take_left]
      cases hp : p c with
      | true =>
        rw [hp] at ht
        have step : trimRB tb (0, [.v (.str (q ++ [c]))]) = some (.inl (0, [.v (.str q)])) := by
          simp only [trimRB, sel, hV, List.getD_cons_zero, asStr_str, Option.bind_some, hpos, cond_true, hlen, hw, hidx, hck, chk_true, ht, asBool_bool, Bool.not_true, cond_false, hcut]
        rw [step]
        obtain ⟨r, h1, ⟨t, h2, h3⟩, h4⟩ := ih q (by omega) (by omega)
        exact ⟨r, h1, ⟨t ++ [c], by rw [h2, List.append_assoc], by simp [h3, hp]⟩, h4⟩
      | false =>
        rw [hp] at ht
        have step : trimRB tb (0, [.v (.str (q ++ [c]))]) = some (.inr (0, [.v (.str (q ++ [c]))])) := by
          simp only [trimRB, sel, hV, List.getD_cons_zero, asStr_str, Option.bind_some, hpos, cond_true, hlen, hw, hidx, hck, chk_true, ht, asBool_bool, Bool.not_false]
        rw [step]
        exact ⟨_, rfl, ⟨[], by simp, rfl⟩, .inr ⟨q, c, rfl, hp⟩⟩
theorem trimLB_exact {tb : List V} {p : UInt8 → Bool} (h : TabB tb p) : ∀ (f : Nat) (s : Str), s.length < f → s.length ≤ 1000000 → loopK (trimLB tb) f (0, [.v (.str s)]) = some (0, [.v (.str (s.dropWhile p))]) := by
  intro f
  induction f with
  | zero => intro s h; omega
  | succ f ih =>
    intro s hf hl
    unfold loopK
    cases s with
    | nil => simp [trimLB, sel, hV]
    | cons c q =>
      simp only [List.length_cons] at hf hl
      have hpos : decide ((((c :: q : Str).length : Nat) : Int) > 0) = true := decide_eq_true (by simp)
      have hidx : idxL (c :: q) 0 = some c := rfl
      have hcl : c.toNat < 256 := c.toNat_lt
      have hck : (decide (0 ≤ ((c.toNat : Nat) : Int)) && decide (((c.toNat : Nat) : Int) < 256)) = true := by
        rw [Bool.and_eq_true, decide_eq_true_eq, decide_eq_true_eq]; omega
      have ht : tb[0 + Int.toNat ((c.toNat : Nat) : Int) * 1]? = some (.bool (p c)) := by
        rw [Int.toNat_natCast, Nat.zero_add, Nat.mul_one]; exact h c
      have hcut : cutL (some 1) none (c :: q) = some q := by
        rw [cutL_from (by omega) (by simp; omega)]; rfl
      rw [List.dropWhile_cons]
      cases hp : p c with
      | true =>
        rw [hp] at ht
        have step : trimLB tb (0, [.v (.str (c :: q))]) = some (.inl (0, [.v (.str q)])) := by
          simp only [trimLB, sel, hV, List.getD_cons_zero, asStr_str, Option.bind_some, hpos, cond_true, hidx, hck, chk_true, ht, asBool_bool, Bool.not_true, cond_false, hcut]
        rw [step]
        simp only [Option.bind_some, if_true]
        exact ih q (by omega) (by omega)
      | false =>
        rw [hp] at ht
        have step : trimLB tb (0, [.v (.str (c :: q))]) = some (.inr (0, [.v (.str (c :: q))])) := by
          simp only [trimLB, sel, hV, List.getD_cons_zero, asStr_str, Option.bind_some, hpos, cond_true, hidx, hck, chk_true, ht, asBool_bool, Bool.not_false]
        rw [step]; rfl
/-- Nothing is left just where all is of the set. -/
theorem trim_nil {tb : List V} {p : UInt8 → Bool} (h : TabB tb p) (s : Str) (hl : s.length ≤ 1000000) :
    ((loopK (trimRB tb) FU (0, [(.v (.str s))])).bind fun x5 => sel x5.1 [((asStr? (hV x5.2 0)).bind fun x6 =>
      ((loopK (trimLB tb) FU (0, [(.v (.str x6))])).bind fun x12 => sel x12.1 [((asStr? (hV x12.2 0)).bind fun x13 => (some ((x13 == []))))]))]) = some (s.all p) := by
  obtain ⟨r, h1, ⟨t, h2, h3⟩, h4⟩ := trimRB_exact h FU s (by unfold FU; omega) hl
  have hr : r.length ≤ s.length := by rw [h2]; simp
  rw [h1]
  simp only [Option.bind_some, sel, hV, List.getD_cons_zero, asStr_str]
  rw [trimLB_exact h FU r (by unfold FU; omega) (by omega)]
  simp only [Option.bind_some, sel, hV, List.getD_cons_zero, asStr_str]
  rw [h2, List.all_append, h3, Bool.and_true]
  congr 1
  rcases h4 with rfl | ⟨q, c, rfl, hc⟩
  · rfl
  · have e1 : (q ++ [c]).all p = false := by simp [hc]
    have e2 : (q ++ [c]).dropWhile p ≠ [] := by
      rw [List.dropWhile_append]
      split
      · simp [List.dropWhile_cons, hc]
      · simp
    rw [e1, beq_eq_false_iff_ne]
    exact e2

def nameB (c : UInt8) : Bool := lowd.contains c || c == 45
theorem tab_of_fin {tb : List V} {p : UInt8 → Bool} (h : (List.range 256).all (fun n => (match tb[n]? with | some (.bool b) => b == p (UInt8.ofNat n) | _ => false)) = true) : TabB tb p := by
  intro c
  have h1 := List.all_eq_true.1 h c.toNat (List.mem_range.2 c.toNat_lt)
  simp only [UInt8.ofNat_toNat] at h1
  split at h1
  · rename_i b hb
    rw [hb]
    have : b = p c := by simpa using h1
    rw [this]
  · cases h1
theorem masLow_tab : TabB masLow_r low.contains := tab_of_fin (by kernel_rfl)
theorem masName_tab : TabB masName_r nameB := tab_of_fin (by kernel_rfl)

/-! ### Words of keys -/
def sRoot : Str := [114, 111, 111, 116]
theorem plang_exact (s : Str) : plang s = some (s == sRoot || okLang s) := by
  have e1 : plang_L0 = trimRB masLow_r := rfl
  have e2 : plang_L1 = trimLB masLow_r := rfl
  unfold plang
  rw [e1, e2]
  unfold sRoot okLang
  cases s == [114, 111, 111, 116] with
  | true => rfl
  | false =>
    by_cases h2 : 2 ≤ s.length
    · have d2 : decide (((s.length : Nat) : Int) ≥ 2) = true := decide_eq_true (by omega)
      by_cases h3 : s.length ≤ 3
      · have d3 : decide (((s.length : Nat) : Int) ≤ 3) = true := decide_eq_true (by omega)
        have hne : (s == []) = false := by cases s with | nil => simp at h2 | cons _ _ => rfl
        simp only [cond_false, d2, d3, cond_true, hne, trim_nil masLow_tab s (by omega), decide_eq_true h2, decide_eq_true h3, Bool.false_or, Bool.true_and]
      · have d3 : decide (((s.length : Nat) : Int) ≤ 3) = false := decide_eq_false (by omega)
        simp only [cond_false, d2, d3, cond_true, decide_eq_true h2, decide_eq_false h3, Bool.false_or, Bool.true_and, Bool.false_and]
    · have d2 : decide (((s.length : Nat) : Int) ≥ 2) = false := decide_eq_false (by omega)
      simp only [cond_false, d2, decide_eq_false h2, Bool.false_or, Bool.false_and]
theorem pname_exact (s : Str) (hl : s.length ≤ 1000000) : pname s = some (!(s == []) && s.all nameB) := by
  have e1 : pname_L0 = trimRB masName_r := rfl
  have e2 : pname_L1 = trimLB masName_r := rfl
  unfold pname
  rw [e1, e2, trim_nil masName_tab s hl]
  cases s == [] <;> rfl
def okWidth (s : Str) : Bool := s == [108, 111, 110, 103] || (s == [115, 104, 111, 114, 116] || s == [110, 97, 114, 114, 111, 119])
theorem pwidth_exact (s : Str) : pwidth s = some (okWidth s) := by
  unfold pwidth okWidth
  cases s == [108, 111, 110, 103] <;> cases s == [115, 104, 111, 114, 116] <;> rfl
end Go.Ev
