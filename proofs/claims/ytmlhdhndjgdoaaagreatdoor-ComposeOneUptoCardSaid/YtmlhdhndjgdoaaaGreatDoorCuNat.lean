/- The package nat, in normal form and as numbers: trim, small, Text. Of no program. -/
import Derived.Test.YtmlhdhndjgdoaaaGreatDoorCuLp
import Derived.Test.YtmlhdhndjgdoaaaGreatDoorCuTl2
import Derived.Lib.ItoaLen
import Derived.Lib.JoinLaws
namespace Go.Ev
set_option maxRecDepth 100000
set_option linter.unusedVariables false
set_option linter.unusedSimpArgs false

/-! cubit/nat.trim -/
noncomputable def ntrim_L0 (v : Vs) : Option (Vs ⊕ Vs) := sel v.1 [((asSl? (hV v.2 0)).bind fun x0 =>
(cond (decide (((slLen x0 : Nat) : Int) > 0))
((idxL (x0.getD []) (IntKind.wrap .i64 (((slLen x0 : Nat) : Int) - 1))).bind fun x1 =>
((asInt? .u32 x1).bind fun x2 =>
(cond (x2 == 0)
((cutSl 1 none (some (IntKind.wrap .i64 (((slLen x0 : Nat) : Int) - 1))) x0).bind fun x3 =>
(some (.inl (0, [(.v (.sl x3))]))))
(some (.inr (0, [(.v (.sl x0))]))))))
(some (.inr (0, [(.v (.sl x0))])))))]
noncomputable def ntrim (a0 : Option (List V)) : Option (Option (List V)) :=
((loopK ntrim_L0 FU (0, [(.v (.sl a0))])).bind fun x4 => sel x4.1 [((asSl? (hV x4.2 0)).bind fun x5 =>
(some (x5)))])
/-! cubit/nat.small -/
noncomputable def nsmall_L0 (v : Vs) : Option (Vs ⊕ Vs) := sel v.1 [((asSl? (hV v.2 0)).bind fun x0 =>
((asInt? .u32 (hV v.2 1)).bind fun x1 =>
((asInt? .u64 (hV v.2 2)).bind fun x2 =>
((asInt? .i64 (hV v.2 3)).bind fun x3 =>
(cond (decide (x3 ≥ 0))
((idxL (x0.getD []) x3).bind fun x4 =>
((asInt? .u32 x4).bind fun x5 =>
(chk (decide ((IntKind.wrap .u64 (x1)) ≠ 0))
(chk (decide (0 ≤ x3) && decide (Int.toNat x3 < (hL v.2 4).length))
((idxL (hL v.2 4) (((Int.toNat x3) : Nat) : Int)).bind fun x6 =>
(chk (V.one x6)
(chk (decide ((IntKind.wrap .u64 (x1)) ≠ 0))
(some (.inl (0, [(.v (.sl x0)), (.v (.int .u32 x1)), (.v (.int .u64 (Int.tmod (IntKind.wrap .u64 ((((BitVec.ofInt (IntKind.bits .u64) (IntKind.wrap .u64 (x2 * 2 ^ (min (Int.toNat 32) (IntKind.bits .u64)))) ||| BitVec.ofInt (IntKind.bits .u64) (IntKind.wrap .u64 (x5))).toNat : Nat) : Int))) (IntKind.wrap .u64 (x1))))), (.v (.int .i64 (IntKind.wrap .i64 (x3 - 1)))), (.l ((hL v.2 4).set (Int.toNat x3) (.int .u32 (IntKind.wrap .u32 ((IntKind.wrap .u64 (Int.tdiv (IntKind.wrap .u64 ((((BitVec.ofInt (IntKind.bits .u64) (IntKind.wrap .u64 (x2 * 2 ^ (min (Int.toNat 32) (IntKind.bits .u64)))) ||| BitVec.ofInt (IntKind.bits .u64) (IntKind.wrap .u64 (x5))).toNat : Nat) : Int))) (IntKind.wrap .u64 (x1)))))))))]))))))))))
(some (.inr (0, [(.v (.int .u64 x2)), (.l (hL v.2 4))]))))))))]
noncomputable def nsmall (a0 : Option (List V)) (a1 : Int) : Option (Option (List V) × Int) :=
(chk (decide (0 ≤ ((slLen a0 : Nat) : Int)) && decide (((slLen a0 : Nat) : Int) ≤ ((slLen a0 : Nat) : Int)) && decide (((slLen a0 : Nat) : Int) ≤ lim))
((loopK nsmall_L0 FU (0, [(.v (.sl a0)), (.v (.int .u32 a1)), (.v (.int .u64 0)), (.v (.int .i64 (IntKind.wrap .i64 (((slLen a0 : Nat) : Int) - 1)))), (.l (List.replicate (Int.toNat ((slLen a0 : Nat) : Int)) (.int .u32 0)))])).bind fun x7 => sel x7.1 [((asInt? .u64 (hV x7.2 0)).bind fun x8 =>
(some ((some (hL x7.2 1)), (IntKind.wrap .u32 (x8)))))]))
/-! cubit/nat.Text -/
noncomputable def ntext_L0 (v : Vs) : Option (Vs ⊕ Vs) := sel v.1 [((asSl? (hV v.2 0)).bind fun x1 =>
(cond (decide (((slLen x1 : Nat) : Int) > 0))
((nsmall x1 1000000000).bind fun x2 =>
((ntrim x2.1).bind fun x3 =>
((itoa (IntKind.wrap .i64 (x2.2))).bind fun x4 =>
(cond (decide (((slLen x3 : Nat) : Int) > 0))
((sRepeat [48] (IntKind.wrap .i64 (9 - (((x4 : List UInt8).length : Nat) : Int)))).bind fun x5 =>
(chk (decide (((x5 : List UInt8).length + (x4 : List UInt8).length) ≤ maxStr))
(some (.inl (1, [(.v (.sl x3)), (.l [(.str (x5 ++ x4))])])))))
(some (.inl (1, [(.v (.sl x3)), (.l [(.str x4)])])))))))
(some (.inr (0, []))))),
((asSl? (hV v.2 0)).bind fun x6 =>
(cond (decide (((slLen x6 : Nat) : Int) > 0))
((nsmall x6 1000000000).bind fun x7 =>
((ntrim x7.1).bind fun x8 =>
((itoa (IntKind.wrap .i64 (x7.2))).bind fun x9 =>
(cond (decide (((slLen x8 : Nat) : Int) > 0))
((sRepeat [48] (IntKind.wrap .i64 (9 - (((x9 : List UInt8).length : Nat) : Int)))).bind fun x10 =>
(chk (decide (((x10 : List UInt8).length + (x9 : List UInt8).length) ≤ maxStr))
(chk ((fits ((hL v.2 1).length + 1)) && true)
(some (.inl (1, [(.v (.sl x8)), (.l ((hL v.2 1) ++ [(.str (x10 ++ x9))] : List V))]))))))
(chk ((fits ((hL v.2 1).length + 1)) && true)
(some (.inl (1, [(.v (.sl x8)), (.l ((hL v.2 1) ++ [(.str x9)] : List V))]))))))))
(some (.inr (1, [(.l (hL v.2 1))])))))]
noncomputable def ntext_L1 (v : Vs) : Option (Vs ⊕ Vs) := sel v.1 [((asInt? .i64 (hV v.2 0)).bind fun x12 =>
((asInt? .i64 (hV v.2 1)).bind fun x13 =>
(cond (decide (x12 < x13))
((idxL ([] : List V) x13).bind fun x14 =>
((asStr? x14).bind fun x15 =>
((idxL ([] : List V) x12).bind fun x16 =>
((asStr? x16).bind fun x17 =>
((idxL ([] : List V) x12).bind fun x18 =>
((asStr? x18).bind fun x19 =>
none))))))
(some (.inr (0, []))))))]
noncomputable def ntext_L2 (v : Vs) : Option (Vs ⊕ Vs) := sel v.1 [((asInt? .i64 (hV v.2 0)).bind fun x22 =>
((asInt? .i64 (hV v.2 1)).bind fun x23 =>
(cond (decide (x22 < x23))
(chk (decide (0 ≤ x23) && decide (Int.toNat x23 < (hL v.2 2).length))
((idxL (hL v.2 2) (((Int.toNat x23) : Nat) : Int)).bind fun x24 =>
((asStr? x24).bind fun x25 =>
(chk (decide (0 ≤ x22) && decide (Int.toNat x22 < (hL v.2 2).length))
((idxL (hL v.2 2) (((Int.toNat x22) : Nat) : Int)).bind fun x26 =>
((asStr? x26).bind fun x27 =>
(chk (decide (0 ≤ x22) && decide (Int.toNat x22 < (hL v.2 2).length))
((idxL (hL v.2 2) (((Int.toNat x22) : Nat) : Int)).bind fun x28 =>
(chk (V.one x28)
(chk (decide (0 ≤ x23) && decide (Int.toNat x23 < ((hL v.2 2).set (Int.toNat x22) (.str x25)).length))
((idxL ((hL v.2 2).set (Int.toNat x22) (.str x25)) (((Int.toNat x23) : Nat) : Int)).bind fun x29 =>
(chk (V.one x29)
(some (.inl (0, [(.v (.int .i64 (IntKind.wrap .i64 (x22 + 1)))), (.v (.int .i64 (IntKind.wrap .i64 (x23 - 1)))), (.l (((hL v.2 2).set (Int.toNat x22) (.str x25)).set (Int.toNat x23) (.str x27)))])))))))))))))))
(some (.inr (0, [(.l (hL v.2 2))]))))))]
noncomputable def ntext (a0 : Option (List V)) : Option (List UInt8) :=
((ntrim a0).bind fun x0 =>
(cond (((slLen x0 : Nat) : Int) == 0)
(some ([48]))
((loopK ntext_L0 FU (0, [(.v (.sl x0))])).bind fun x11 => sel x11.1 [((loopK ntext_L1 FU (0, [(.v (.int .i64 0)), (.v (.int .i64 (-1)))])).bind fun x20 => sel x20.1 [((sJoin none []).bind fun x21 =>
(some (x21)))]),
((loopK ntext_L2 FU (0, [(.v (.int .i64 0)), (.v (.int .i64 (IntKind.wrap .i64 ((((hL x11.2 0).length : Nat) : Int) - 1)))), (.l (hL x11.2 0))])).bind fun x30 => sel x30.1 [((sJoin (some (hL x30.2 0)) []).bind fun x31 =>
(some (x31)))])])))

/-! ### Words -/
def nval : List Nat → Nat
  | [] => 0
  | x :: r => x + 4294967296 * nval r
def wordsV (l : List Nat) : List V := l.map fun (n : Nat) => V.int .u32 (n : Int)
def okWs (l : List Nat) : Prop := ∀ x ∈ l, x < 4294967296
@[simp] theorem wordsV_len (l : List Nat) : (wordsV l).length = l.length := by simp [wordsV]
theorem wordsV_get (l : List Nat) (k : Nat) (h : k < l.length) : (wordsV l)[k]? = some (.int .u32 (l[k] : Nat)) := by
  simp [wordsV, List.getElem?_eq_getElem h]
theorem wordsV_set (l : List Nat) (k n : Nat) : (wordsV l).set k (.int .u32 (n : Int)) = wordsV (l.set k n) := by
  simp [wordsV, List.map_set]
theorem wu64 {x : Int} (h1 : 0 ≤ x) (h2 : x < 18446744073709551616) : IntKind.wrap .u64 x = x := by
  rw [IntKind.wrap_u64]; omega
theorem wu32 {x : Int} (h1 : 0 ≤ x) (h2 : x < 4294967296) : IntKind.wrap .u32 x = x := by
  rw [IntKind.wrap_u32]; omega

/-- Without noughts at the end. -/
def trimN : List Nat → List Nat
  | [] => []
  | x :: r => match trimN r with
    | [] => if x = 0 then [] else [x]
    | y :: q => x :: y :: q
theorem trimN_snoc0 (m : List Nat) : trimN (m ++ [0]) = trimN m := by
  induction m with
  | nil => rfl
  | cons x r ih => simp only [List.cons_append, trimN, ih]
theorem trimN_snoc (m : List Nat) (x : Nat) (h : x ≠ 0) : trimN (m ++ [x]) = m ++ [x] := by
  induction m with
  | nil => simp [trimN, h]
  | cons y r ih =>
    simp only [List.cons_append, trimN, ih]
    cases r <;> rfl
theorem nval_trimN (l : List Nat) : nval (trimN l) = nval l := by
  induction l with
  | nil => rfl
  | cons x r ih =>
    simp only [trimN, nval]
    split
    · rename_i h
      rw [h] at ih
      simp only [nval] at ih
      split
      · rename_i hx; subst hx; simp [nval, ← ih]
      · simp [nval, ← ih]
    · rename_i y q h
      rw [h] at ih
      rw [← ih]; rfl
theorem trimN_le (l : List Nat) : (trimN l).length ≤ l.length := by
  induction l with
  | nil => exact Nat.le_refl _
  | cons x r ih =>
    simp only [trimN]
    split
    · split <;> simp
    · rename_i y q h
      rw [h] at ih
      simp only [List.length_cons] at ih ⊢
      omega
theorem okWs_trimN {l : List Nat} (h : okWs l) : okWs (trimN l) := by
  induction l with
  | nil => exact h
  | cons x r ih =>
    have h1 := ih fun y hy => h y (List.mem_cons_of_mem _ hy)
    have h2 := h x (List.mem_cons_self ..)
    simp only [trimN]
    split
    · split
      · intro y hy; cases hy
      · intro y hy; rcases List.mem_cons.1 hy with rfl | hy; exact h2; cases hy
    · rename_i y q hq
      rw [hq] at h1
      intro z hz
      rcases List.mem_cons.1 hz with rfl | hz
      · exact h2
      · exact h1 z hz
theorem trimN_nil (l : List Nat) : trimN l = [] ↔ nval l = 0 := by
  induction l with
  | nil => simp [trimN, nval]
  | cons x r ih =>
    simp only [trimN, nval]
    split
    · rename_i h
      rw [ih] at h
      split
      · rename_i hx; simp [hx, h]
      · rename_i hx; simp [hx]
    · rename_i y q h
      have : ¬ nval r = 0 := fun e => by rw [ih.2 e] at h; cases h
      simp; omega
theorem trimN_trimN (l : List Nat) : trimN (trimN l) = trimN l := by
  induction l with
  | nil => rfl
  | cons x r ih =>
    simp only [trimN]
    split
    · split
      · rfl
      · rename_i hx; simp [trimN, hx]
    · rename_i y q h
      rw [h] at ih
      show (match trimN (y :: q) with | [] => if x = 0 then [] else [x] | z :: w => x :: z :: w) = _
      rw [ih]

theorem ntrim_exact (l : List Nat) (hl : l.length ≤ 1000000) : ntrim (some (wordsV l)) = some (some (wordsV (trimN l))) := by
  have key : ∀ (f : Nat) (l : List Nat), l.length < f → l.length ≤ 1000000 → loopK ntrim_L0 f (0, [.v (.sl (some (wordsV l)))]) = some (0, [.v (.sl (some (wordsV (trimN l))))]) := by
    intro f
    induction f with
    | zero => intro l h; omega
    | succ f ih =>
      intro l hf hl
      unfold loopK
      rcases List.eq_nil_or_concat l with rfl | ⟨m, x, rfl⟩
      · simp [ntrim_L0, sel, hV, slLen, wordsV, trimN]
      · rw [List.concat_eq_append] at hf hl ⊢
        have hlen : (wordsV (m ++ [x])).length = m.length + 1 := by simp
        have hsl : slLen (some (wordsV (m ++ [x]))) = m.length + 1 := by simp [slLen]
        have hw := w64 (x := ((m.length + 1 : Nat) : Int) - 1) (by omega) (by simp at hl; omega)
        have hm : ((m.length + 1 : Nat) : Int) - 1 = (m.length : Int) := by omega
        have hidx : idxL (wordsV (m ++ [x])) (m.length : Int) = some (.int .u32 (x : Int)) := by
          unfold idxL
          rw [if_neg (by omega), Int.toNat_natCast, wordsV_get _ _ (by simp)]
          simp
        by_cases hx : x = 0
        · subst hx
          have hcut : cutSl 1 none (some (m.length : Int)) (some (wordsV (m ++ [0]))) = some (some (wordsV m)) := by
            have hh : ((wordsV (m ++ [0])).head?.all fun y => y.cells.length == 1) = true := by
              cases m with
              | nil => rfl
              | cons y r => rfl
            simp only [cutSl]
            rw [if_pos hh, cutL_to (by omega) (by rw [hlen]; omega), Int.toNat_natCast]
            simp [wordsV]
          have step : ntrim_L0 (0, [.v (.sl (some (wordsV (m ++ [0]))))]) = some (.inl (0, [.v (.sl (some (wordsV m)))])) := by
            rw [hm] at hw
            have hpos : decide (((m.length + 1 : Nat) : Int) > 0) = true := decide_eq_true (by omega)
            have h00 : (((0 : Nat) : Int) == 0) = true := rfl
            simp only [ntrim_L0, sel, hV, List.getD_cons_zero, asSl_sl, Option.bind_some, hsl, Option.getD_some, hm, hw, hidx, hcut, asInt_int, hpos, h00, cond_true]
          rw [step]
          simp only [Option.bind_some]
          rw [ih m (by simp at hf; omega) (by simp at hl; omega), trimN_snoc0]
        · have hx' : ((x : Int) == 0) = false := by rw [beq_eq_false_iff_ne]; omega
          have hpos : decide (((m.length + 1 : Nat) : Int) > 0) = true := decide_eq_true (by omega)
          rw [hm] at hw
          rw [trimN_snoc m x hx]
          simp only [ntrim_L0, sel, hV, List.getD_cons_zero, asSl_sl, Option.bind_some, hsl, Option.getD_some, hm, hw, hidx, asInt_int, hx', hpos, cond_true, cond_false]
  unfold ntrim
  rw [key FU l (by unfold FU; omega) hl]
  rfl
theorem ntrim_none : ntrim none = some none := rfl

/-! ### small -/
def smallN (d : Nat) : List Nat → List Nat × Nat
  | [] => ([], 0)
  | x :: r => ((((smallN d r).2 * 4294967296 + x) / d) :: (smallN d r).1, ((smallN d r).2 * 4294967296 + x) % d)
theorem smallN_len (d : Nat) (l : List Nat) : (smallN d l).1.length = l.length := by
  induction l with
  | nil => rfl
  | cons x r ih => simp [smallN, ih]
theorem smallN_lt {d : Nat} (hd : 0 < d) (l : List Nat) : (smallN d l).2 < d := by
  cases l with
  | nil => exact hd
  | cons x r => exact Nat.mod_lt _ hd
theorem smallN_ok {d : Nat} (hd : 0 < d) {l : List Nat} (h : okWs l) : okWs (smallN d l).1 := by
  induction l with
  | nil => exact h
  | cons x r ih =>
    have h1 := ih fun y hy => h y (List.mem_cons_of_mem _ hy)
    have h2 := h x (List.mem_cons_self ..)
    have h3 := smallN_lt hd r
    intro y hy
    simp only [smallN] at hy
    rcases List.mem_cons.1 hy with rfl | hy
    · rw [Nat.div_lt_iff_lt_mul hd]
      have : (smallN d r).2 * 4294967296 + 4294967296 ≤ d * 4294967296 := by
        rw [← Nat.succ_mul]; exact Nat.mul_le_mul_right _ h3
      omega
    · exact h1 y hy
theorem smallN_val {d : Nat} (hd : 0 < d) (l : List Nat) : nval (smallN d l).1 * d + (smallN d l).2 = nval l := by
  induction l with
  | nil => simp [smallN, nval]
  | cons x r ih =>
    simp only [smallN, nval]
    have := Nat.div_add_mod ((smallN d r).2 * 4294967296 + x) d
    rw [← ih, Nat.add_mul]
    generalize ((smallN d r).2 * 4294967296 + x) % d = m at *
    generalize hq : ((smallN d r).2 * 4294967296 + x) / d = q at *
    generalize nval (smallN d r).1 = n at *
    have e1 : q * d = d * q := Nat.mul_comm _ _
    have e2 : 4294967296 * n * d = 4294967296 * (n * d) := Nat.mul_assoc _ _ _
    rw [e1, e2]
    omega
theorem smallN_div {d : Nat} (hd : 0 < d) (l : List Nat) : nval (smallN d l).1 = nval l / d ∧ (smallN d l).2 = nval l % d := by
  have h1 := smallN_val hd l
  have h2 := smallN_lt hd l
  rw [← h1]
  constructor
  · rw [Nat.mul_comm, Nat.mul_add_div hd, Nat.div_eq_of_lt h2, Nat.add_zero]
  · rw [Nat.mul_comm, Nat.mul_add_mod, Nat.mod_eq_of_lt h2]

theorem or32 (a b : Nat) (ha : a < 4294967296) (hb : b < 4294967296) : (BitVec.ofInt (IntKind.bits .u64) ((a : Int) * 4294967296) ||| BitVec.ofInt (IntKind.bits .u64) (b : Int)).toNat = a * 4294967296 + b := by
  have e1 : (BitVec.ofInt (IntKind.bits .u64) ((a : Int) * 4294967296)).toNat = a * 4294967296 := by
    rw [BitVec.toNat_ofInt]
    have : IntKind.bits .u64 = 64 := rfl
    rw [this]
    omega
  have e2 : (BitVec.ofInt (IntKind.bits .u64) (b : Int)).toNat = b := by
    rw [BitVec.toNat_ofInt]
    have : IntKind.bits .u64 = 64 := rfl
    rw [this]
    omega
  rw [BitVec.toNat_or, e1, e2]
  have := Nat.two_pow_add_eq_or_of_lt (i := 32) (b := b) (by omega) a
  rw [Nat.mul_comm a]
  have e3 : (4294967296 : Nat) = 2 ^ 32 := rfl
  rw [e3, ← this]

theorem nsmall_step (l o : List Nat) (d rest k : Nat) (hl : l.length ≤ 1000000) (hd : 0 < d) (hd2 : d < 4294967296) (hr : rest < d) (hk : k < l.length) (ho : o.length = l.length) (hw : okWs l) :
    nsmall_L0 (0, [.v (.sl (some (wordsV l))), .v (.int .u32 (d : Int)), .v (.int .u64 (rest : Int)), .v (.int .i64 (k : Int)), .l (wordsV o)]) =
      some (.inl (0, [.v (.sl (some (wordsV l))), .v (.int .u32 (d : Int)), .v (.int .u64 (((rest * 4294967296 + l[k]) % d : Nat) : Int)), .v (.int .i64 ((k : Int) - 1)), .l (wordsV (o.set k ((rest * 4294967296 + l[k]) / d)))])) := by
  have hx : l[k] < 4294967296 := hw _ (List.getElem_mem hk)
  have h0 : decide ((k : Int) ≥ 0) = true := decide_eq_true (by omega)
  have h1 : idxL (wordsV l) (k : Int) = some (.int .u32 ((l[k] : Nat) : Int)) := by
    unfold idxL
    rw [if_neg (by omega), Int.toNat_natCast, wordsV_get _ _ hk]
  have h2 : idxL (wordsV o) (k : Int) = some (.int .u32 ((o[k]'(by omega) : Nat) : Int)) := by
    unfold idxL
    rw [if_neg (by omega), Int.toNat_natCast, wordsV_get _ _ (by omega)]
  have hwd : IntKind.wrap .u64 (d : Int) = d := wu64 (by omega) (by omega)
  have hdn : decide ((d : Int) ≠ 0) = true := decide_eq_true (by omega)
  have hkk : decide (k < (wordsV o).length) = true := by
    rw [wordsV_len, decide_eq_true_eq]; omega
  have hmin : (2 : Int) ^ (min (Int.toNat 32) (IntKind.bits .u64)) = 4294967296 := rfl
  have hsh : IntKind.wrap .u64 ((rest : Int) * 4294967296) = (rest : Int) * 4294967296 := wu64 (by omega) (by omega)
  have hwx : IntKind.wrap .u64 ((l[k] : Nat) : Int) = (l[k] : Nat) := wu64 (by omega) (by omega)
  have hor := or32 rest l[k] (by omega) hx
  have hN : rest * 4294967296 + l[k] < 18446744073709551616 := by omega
  have hwor : IntKind.wrap .u64 (((rest * 4294967296 + l[k] : Nat)) : Int) = ((rest * 4294967296 + l[k] : Nat) : Int) := wu64 (by omega) (by omega)
  have hq : (rest * 4294967296 + l[k]) / d < 4294967296 := by
    rw [Nat.div_lt_iff_lt_mul hd]
    have : rest * 4294967296 + 4294967296 ≤ d * 4294967296 := by
      rw [← Nat.succ_mul]; exact Nat.mul_le_mul_right _ hr
    omega
  have hdiv : Int.tdiv ((rest * 4294967296 + l[k] : Nat) : Int) (d : Int) = (((rest * 4294967296 + l[k]) / d : Nat) : Int) := rfl
  have hmod : Int.tmod ((rest * 4294967296 + l[k] : Nat) : Int) (d : Int) = (((rest * 4294967296 + l[k]) % d : Nat) : Int) := rfl
  have hwk := w64 (x := (k : Int) - 1) (by omega) (by omega)
  have hwq : IntKind.wrap .u64 ((((rest * 4294967296 + l[k]) / d : Nat)) : Int) = (((rest * 4294967296 + l[k]) / d : Nat) : Int) := wu64 (Int.natCast_nonneg _) (Int.lt_trans (Int.ofNat_lt.2 hq) (by decide))
  have hwq2 : IntKind.wrap .u32 ((((rest * 4294967296 + l[k]) / d : Nat)) : Int) = (((rest * 4294967296 + l[k]) / d : Nat) : Int) := wu32 (Int.natCast_nonneg _) (Int.ofNat_lt.2 hq)
  simp only [nsmall_L0, sel, hV, hL, List.getD_cons_zero, List.getD_cons_succ, asSl_sl, asInt_int, Option.bind_some, Option.getD_some, h0, cond_true, h1, hwd, hdn, chk_true, Int.toNat_natCast, hkk, Bool.true_and, h2, hmin, hsh, hwx, hor, hwor, hdiv, hmod, hwk, hwq, hwq2, wordsV_set]
  rfl

theorem nsmall_exact (l : List Nat) (d : Nat) (hl : l.length ≤ 1000000) (hd : 0 < d) (hd2 : d < 4294967296) (hw : okWs l) : nsmall (some (wordsV l)) (d : Int) = some (some (wordsV (smallN d l).1), ((smallN d l).2 : Int)) := by
  have key : ∀ (f i : Nat), i < f → i ≤ l.length → loopK nsmall_L0 f (0, [.v (.sl (some (wordsV l))), .v (.int .u32 (d : Int)), .v (.int .u64 ((smallN d (l.drop i)).2 : Int)), .v (.int .i64 ((i : Int) - 1)), .l (wordsV (List.replicate i 0 ++ (smallN d (l.drop i)).1))]) =
      some (0, [.v (.int .u64 ((smallN d l).2 : Int)), .l (wordsV (smallN d l).1)]) := by
    intro f
    induction f with
    | zero => intro i h; omega
    | succ f ih =>
      intro i hf hi
      unfold loopK
      cases i with
      | zero =>
        simp [nsmall_L0, sel, hV, hL]
      | succ i =>
        have hlt : i < l.length := hi
        have hlen : (List.replicate (i + 1) 0 ++ (smallN d (l.drop (i + 1))).1).length = l.length := by
          rw [List.length_append, smallN_len, List.length_replicate, List.length_drop]; omega
        have hk : ((i + 1 : Nat) : Int) - 1 = (i : Int) := by omega
        rw [hk, nsmall_step l _ d _ i hl hd hd2 (smallN_lt hd _) hlt hlen hw]
        simp only [Option.bind_some]
        have hdr : l.drop i = l[i] :: l.drop (i + 1) := List.drop_eq_getElem_cons hlt
        have := ih i (by omega) (by omega)
        rw [hdr] at this
        simp only [smallN] at this
        have hset : (List.replicate (i + 1) 0 ++ (smallN d (l.drop (i + 1))).1).set i (((smallN d (l.drop (i + 1))).2 * 4294967296 + l[i]) / d) = List.replicate i 0 ++ (((smallN d (l.drop (i + 1))).2 * 4294967296 + l[i]) / d) :: (smallN d (l.drop (i + 1))).1 := by
          rw [List.replicate_succ', List.append_assoc, List.set_append_right _ _ (by simp)]
          simp
        rw [hset]
        exact this
  have hsl : slLen (some (wordsV l)) = l.length := by simp [slLen]
  have h1 : (decide (0 ≤ ((l.length : Nat) : Int)) && decide (((l.length : Nat) : Int) ≤ ((l.length : Nat) : Int)) && decide (((l.length : Nat) : Int) ≤ lim)) = true := by
    have : (lim : Int) = 2147483648 := rfl
    simp only [Bool.and_eq_true, decide_eq_true_eq]
    omega
  have h2 := key FU l.length (by unfold FU; omega) (Nat.le_refl _)
  rw [List.drop_length] at h2
  simp only [smallN, List.append_nil] at h2
  have hrep : List.replicate l.length (V.int .u32 0) = wordsV (List.replicate l.length 0) := by simp [wordsV]
  have hwk := w64 (x := ((l.length : Nat) : Int) - 1) (by omega) (by omega)
  have hz : (((0 : Nat) : Int)) = 0 := rfl
  rw [hz] at h2
  unfold nsmall
  rw [hsl, h1]
  simp only [chk_true, hwk, Int.toNat_natCast, hrep, h2, Option.bind_some, sel, hV, hL, List.getD_cons_zero, List.getD_cons_succ, asInt_int]
  rw [wu32 (by omega) (by have := smallN_lt hd l; omega)]

/-! ### Digits -/
def zeros (k : Nat) : List UInt8 := List.replicate k 48
def pad (k r : Nat) : List UInt8 := zeros (k - (Lib.decDigits r).length) ++ Lib.decDigits r
theorem nDigits_le : ∀ (k u : Nat), 1 ≤ k → u < 10 ^ k → Lib.nDigits u ≤ k
  | 0, u, h, _ => by omega
  | k + 1, u, _, h => by
    by_cases hu : u < 10
    · rw [Lib.nDigits_small hu]; omega
    · rw [Lib.nDigits_big hu]
      cases k with
      | zero => simp at h; omega
      | succ k =>
        have := nDigits_le (k + 1) (u / 10) (by omega) (by rw [Nat.pow_succ] at h; omega)
        omega
theorem decDigits_le {r : Nat} (h : r < 1000000000) : (Lib.decDigits r).length ≤ 9 := by
  rw [Lib.decDigits_length]; exact nDigits_le 9 r (by omega) h
theorem decDigits_last {n : Nat} (h : ¬ n < 10) : Lib.decDigits n = Lib.decDigits (n / 10) ++ [UInt8.ofNat (48 + n % 10)] := by
  conv => lhs; rw [Lib.decDigits, dif_neg h]
theorem pad_last {k r : Nat} (hk : 1 ≤ k) : pad (k + 1) r = pad k (r / 10) ++ [UInt8.ofNat (48 + r % 10)] := by
  unfold pad
  by_cases h : r < 10
  · have e1 : Lib.decDigits r = [UInt8.ofNat (48 + r)] := Lib.decDigits_one h
    have e2 : r / 10 = 0 := by omega
    have e3 : r % 10 = r := by omega
    have e4 : Lib.decDigits 0 = [48] := Lib.decDigits_one (by omega)
    rw [e2, e3, e1, e4]
    simp only [List.length_cons, List.length_nil, zeros]
    congr 1
    cases k with
    | zero => omega
    | succ k =>
      have a1 : k + 1 + 1 - (0 + 1) = k + 1 := by omega
      have a2 : k + 1 - (0 + 1) = k := by omega
      rw [a1, a2, List.replicate_succ']
  · rw [decDigits_last h, List.length_append, ← List.append_assoc]
    congr 3
    simp
theorem decDigits_pad : ∀ (k q r : Nat), 1 ≤ k → 0 < q → r < 10 ^ k → Lib.decDigits (q * 10 ^ k + r) = Lib.decDigits q ++ pad k r
  | 0, _, _, h, _, _ => by omega
  | 1, q, r, _, hq, hr => by
    rw [decDigits_last (by omega)]
    have e1 : (q * 10 ^ 1 + r) / 10 = q := by omega
    have e2 : (q * 10 ^ 1 + r) % 10 = r := by omega
    rw [e1, e2]
    have : pad 1 r = [UInt8.ofNat (48 + r)] := by
      unfold pad
      rw [Lib.decDigits_one (by omega)]; rfl
    rw [this]
  | k + 2, q, r, _, hq, hr => by
    have hp : 1 ≤ 10 ^ k := Nat.one_le_pow _ _ (by decide)
    have hpow : 10 ^ (k + 2) = 10 ^ (k + 1) * 10 := Nat.pow_succ ..
    have hpow1 : 10 ^ (k + 1) = 10 ^ k * 10 := Nat.pow_succ ..
    have hm : q * 10 ^ (k + 2) = (q * 10 ^ (k + 1)) * 10 := by rw [hpow, Nat.mul_assoc]
    have hge : 10 ^ (k + 1) ≤ q * 10 ^ (k + 1) := Nat.le_mul_of_pos_left _ hq
    have hge2 : ¬ q * 10 ^ (k + 1) * 10 + r < 10 := by generalize q * 10 ^ (k + 1) = z at *; omega
    rw [hm, decDigits_last hge2]
    have e1 : (q * 10 ^ (k + 1) * 10 + r) / 10 = q * 10 ^ (k + 1) + r / 10 := by omega
    have e2 : (q * 10 ^ (k + 1) * 10 + r) % 10 = r % 10 := by omega
    have hr10 : r / 10 < 10 ^ (k + 1) := by omega
    have hp1 : pad (k + 2) r = pad (k + 1) (r / 10) ++ [UInt8.ofNat (48 + r % 10)] := pad_last (by omega)
    rw [e1, e2, decDigits_pad (k + 1) q (r / 10) (by omega) hq hr10, hp1, List.append_assoc]

/-! ### Text -/
def piece (n : Nat) : List UInt8 := if n / 1000000000 = 0 then Lib.decDigits (n % 1000000000) else pad 9 (n % 1000000000)
def chunks : Nat → Nat → List (List UInt8)
  | 0, _ => []
  | k + 1, n => if n = 0 then [] else piece n :: chunks k (n / 1000000000)
theorem chunks_zero (k : Nat) : chunks k 0 = [] := by cases k <;> rfl
theorem chunks_len : ∀ (k n : Nat), (chunks k n).length ≤ k
  | 0, _ => Nat.le_refl _
  | k + 1, n => by
    unfold chunks
    split
    · simp
    · have := chunks_len k (n / 1000000000)
      simp; omega
theorem chunks_digits : ∀ (k n : Nat), 0 < n → n < 1000000000 ^ k → (chunks k n).reverse.flatten = Lib.decDigits n
  | 0, n, h, h2 => by simp at h2; omega
  | k + 1, n, h, h2 => by
    unfold chunks
    rw [if_neg (by omega), List.reverse_cons, List.flatten_append]
    simp only [List.flatten_cons, List.flatten_nil, List.append_nil]
    unfold piece
    by_cases hz : n / 1000000000 = 0
    · rw [if_pos hz, hz, chunks_zero]
      have : n % 1000000000 = n := by omega
      rw [this]; rfl
    · rw [if_neg hz, chunks_digits k (n / 1000000000) (by omega) (by rw [Nat.pow_succ] at h2; rw [Nat.div_lt_iff_lt_mul (by decide)]; exact h2)]
      rw [← decDigits_pad 9 (n / 1000000000) (n % 1000000000) (by omega) (by omega) (Nat.mod_lt _ (by decide))]
      congr 1
      have := Nat.div_add_mod n 1000000000
      have e : (10 : Nat) ^ 9 = 1000000000 := rfl
      rw [e]; omega

theorem nval_lt {l : List Nat} (h : okWs l) : nval l < 4294967296 ^ l.length := by
  induction l with
  | nil => simp [nval]
  | cons x r ih =>
    have h1 := ih fun y hy => h y (List.mem_cons_of_mem _ hy)
    have h2 := h x (List.mem_cons_self ..)
    simp only [nval, List.length_cons, Nat.pow_succ]
    generalize 4294967296 ^ r.length = p at *
    omega
theorem pow_bound (k : Nat) : (4294967296 : Nat) ^ k ≤ 1000000000 ^ (2 * k) := by
  rw [Nat.pow_mul]
  exact Nat.pow_le_pow_left (by decide) k

abbrev textSt (l : List Nat) (ps : List (List UInt8)) : Vs := match ps with
  | [] => (0, [.v (.sl (some (wordsV l)))])
  | p :: r => (1, [.v (.sl (some (wordsV l))), .l ((p :: r).map V.str)])
def textEnd (ps : List (List UInt8)) : Vs := match ps with
  | [] => (0, [])
  | p :: r => (1, [.l ((p :: r).map V.str)])
theorem itoa_dec {r : Nat} (h : r < 1000000000) : itoa (r : Int) = some (Lib.decDigits r) := by
  unfold itoa
  rw [if_pos (by omega)]
  unfold Lib.itoa
  rw [if_neg (by omega), Int.toNat_natCast]
theorem repeat_zeros (k : Nat) : Lib.repeatL [48] k = zeros k := by
  induction k with
  | zero => rfl
  | succ k ih => rw [Lib.repeatL, ih]; rfl
theorem rep_dec {r : Nat} (h : r < 1000000000) : sRepeat [48] (IntKind.wrap .i64 (9 - (((Lib.decDigits r).length : Nat) : Int))) = some (zeros (9 - (Lib.decDigits r).length)) := by
  have := decDigits_le h
  rw [w64 (by omega) (by omega)]
  unfold sRepeat
  rw [if_neg (by simp; omega), repeat_zeros]
  congr 2
  omega
theorem pad_len {r : Nat} (h : r < 1000000000) : (pad 9 r).length = 9 := by
  have := decDigits_le h
  simp [pad, zeros]; omega

theorem ntext_step (l : List Nat) (ps : List (List UInt8)) (hl : l.length ≤ 1000000) (hw : okWs l) (hn : 0 < nval l) (hps : ps.length ≤ 10000000) :
    ntext_L0 (textSt l ps) = some (.inl (textSt (trimN (smallN 1000000000 l).1) (ps ++ [piece (nval l)]))) := by
  have hne : l ≠ [] := fun e => by subst e; simp [nval] at hn
  have hpos : decide (((slLen (some (wordsV l)) : Nat) : Int) > 0) = true := by
    have := List.length_pos_iff.2 hne
    simp [slLen]; omega
  have hB : (0 : Nat) < 1000000000 := by decide
  obtain ⟨hq, hr⟩ := smallN_div hB l
  have hsm := nsmall_exact l 1000000000 hl hB (by decide) hw
  have hc : ((1000000000 : Nat) : Int) = 1000000000 := rfl
  rw [hc] at hsm
  have hsl : (smallN 1000000000 l).1.length ≤ 1000000 := by rw [smallN_len]; exact hl
  have htr := ntrim_exact (smallN 1000000000 l).1 hsl
  have hrl : (smallN 1000000000 l).2 < 1000000000 := smallN_lt hB l
  have hit : itoa (IntKind.wrap .i64 ((smallN 1000000000 l).2 : Int)) = some (Lib.decDigits (smallN 1000000000 l).2) := by
    rw [w64 (by omega) (by omega)]; exact itoa_dec hrl
  have hrp := rep_dec hrl
  have hmax : decide ((zeros (9 - (Lib.decDigits (smallN 1000000000 l).2).length)).length + (Lib.decDigits (smallN 1000000000 l).2).length ≤ maxStr) = true := by
    have := decDigits_le hrl
    have hm : maxStr = 9223372036854775807 := rfl
    simp only [zeros, List.length_replicate, decide_eq_true_eq]
    omega
  have hpiece : piece (nval l) = if trimN (smallN 1000000000 l).1 = [] then Lib.decDigits (smallN 1000000000 l).2 else zeros (9 - (Lib.decDigits (smallN 1000000000 l).2).length) ++ Lib.decDigits (smallN 1000000000 l).2 := by
    unfold piece pad
    rw [← hq, ← hr]
    by_cases h0 : trimN (smallN 1000000000 l).1 = []
    · rw [if_pos h0, if_pos ((trimN_nil _).1 h0)]
    · rw [if_neg h0, if_neg (fun e => h0 ((trimN_nil _).2 e))]
  have hpos2 : decide (((slLen (some (wordsV (trimN (smallN 1000000000 l).1))) : Nat) : Int) > 0) = !(decide (trimN (smallN 1000000000 l).1 = [])) := by
    generalize trimN (smallN 1000000000 l).1 = t
    cases t with
    | nil => rfl
    | cons x r => simp [slLen, decide_eq_true_eq]
  rw [hpiece]
  cases ps with
  | nil =>
    by_cases h0 : trimN (smallN 1000000000 l).1 = []
    · rw [if_pos h0]
      simp only [decide_eq_true h0] at hpos2
      simp only [textSt, ntext_L0, sel, hV, List.getD_cons_zero, asSl_sl, Option.bind_some, hpos, cond_true, hsm, htr, hit, hpos2, Bool.not_true, cond_false, List.nil_append, List.map_cons, List.map_nil]
    · rw [if_neg h0]
      simp only [decide_eq_false h0] at hpos2
      simp only [textSt, ntext_L0, sel, hV, List.getD_cons_zero, asSl_sl, Option.bind_some, hpos, cond_true, hsm, htr, hit, hpos2, Bool.not_false, hrp, hmax, chk_true, List.nil_append, List.map_cons, List.map_nil]
  | cons p ps =>
    have hfit : (fits (((p :: ps).map V.str).length + 1) && true) = true := by
      rw [Bool.and_true, List.length_map]; unfold fits lim; exact decide_eq_true (by omega)
    by_cases h0 : trimN (smallN 1000000000 l).1 = []
    · rw [if_pos h0]
      simp only [decide_eq_true h0] at hpos2
      simp only [textSt, ntext_L0, sel, hV, hL, List.getD_cons_zero, List.getD_cons_succ, asSl_sl, Option.bind_some, hpos, cond_true, hsm, htr, hit, hpos2, Bool.not_true, cond_false, hfit, chk_true, List.cons_append]
      simp
    · rw [if_neg h0]
      simp only [decide_eq_false h0] at hpos2
      simp only [textSt, ntext_L0, sel, hV, hL, List.getD_cons_zero, List.getD_cons_succ, asSl_sl, Option.bind_some, hpos, cond_true, hsm, htr, hit, hpos2, Bool.not_false, hrp, hmax, hfit, chk_true, List.cons_append]
      simp

theorem ntext_loop : ∀ (k f : Nat) (l : List Nat) (ps : List (List UInt8)), l.length ≤ 1000000 → okWs l → trimN l = l → nval l < 1000000000 ^ k → k < f → ps.length + k ≤ 10000000 → loopK ntext_L0 f (textSt l ps) = some (textEnd (ps ++ chunks k (nval l))) := by
  intro k
  induction k with
  | zero =>
    intro f l ps hl hw ht hn hf hps
    have h0 : nval l = 0 := by simpa using hn
    have hnil : l = [] := by rw [← ht]; exact (trimN_nil l).2 h0
    subst hnil
    cases f with
    | zero => omega
    | succ f =>
      unfold loopK
      cases ps with
      | nil => simp [textSt, ntext_L0, sel, hV, slLen, wordsV, textEnd, chunks]
      | cons p ps => simp [textSt, ntext_L0, sel, hV, hL, slLen, wordsV, textEnd, chunks]
  | succ k ih =>
    intro f l ps hl hw ht hn hf hps
    cases f with
    | zero => omega
    | succ f =>
      by_cases h0 : nval l = 0
      · have hnil : l = [] := by rw [← ht]; exact (trimN_nil l).2 h0
        subst hnil
        unfold loopK
        cases ps with
        | nil => simp [textSt, ntext_L0, sel, hV, slLen, wordsV, textEnd, chunks, nval]
        | cons p ps => simp [textSt, ntext_L0, sel, hV, hL, slLen, wordsV, textEnd, chunks, nval]
      · unfold loopK
        rw [ntext_step l ps hl hw (by omega) (by omega)]
        simp only [Option.bind_some]
        have hB : (0 : Nat) < 1000000000 := by decide
        have hv : nval (trimN (smallN 1000000000 l).1) = nval l / 1000000000 := by rw [nval_trimN, (smallN_div hB l).1]
        rw [ih f _ _ (by have := trimN_le (smallN 1000000000 l).1; rw [smallN_len] at this; omega) (okWs_trimN (smallN_ok hB hw)) (trimN_trimN _) (by rw [hv, Nat.div_lt_iff_lt_mul hB]; rw [Nat.pow_succ] at hn; exact hn) (by omega) (by simp; omega)]
        rw [hv]
        congr 1
        rw [List.append_assoc]
        conv => rhs; rw [chunks, if_neg h0]
        rfl

theorem ntext_L2_step (a m c : List (List UInt8)) (x y : List UInt8) (hl : a.length + m.length ≤ 10000000) :
    ntext_L2 (0, [.v (.int .i64 (a.length : Int)), .v (.int .i64 ((a.length + m.length + 1 : Nat) : Int)), .l ((a ++ x :: (m ++ y :: c)).map V.str)]) =
      some (.inl (0, [.v (.int .i64 ((a.length + 1 : Nat) : Int)), .v (.int .i64 ((a.length + m.length : Nat) : Int)), .l ((a ++ y :: (m ++ x :: c)).map V.str)])) := by
  have hd : decide ((a.length : Int) < ((a.length + m.length + 1 : Nat) : Int)) = true := decide_eq_true (by omega)
  have hlen : ((a ++ x :: (m ++ y :: c)).map V.str).length = a.length + m.length + c.length + 2 := by simp; omega
  have gj : idxL ((a ++ x :: (m ++ y :: c)).map V.str) ((a.length + m.length + 1 : Nat) : Int) = some (.str y) := by
    unfold idxL
    rw [if_neg (by omega), Int.toNat_natCast, List.getElem?_map]
    have : (a ++ x :: (m ++ y :: c))[a.length + m.length + 1]? = some y := by
      have e : a ++ x :: (m ++ y :: c) = (a ++ x :: m) ++ y :: c := by simp
      rw [e, List.getElem?_append_right (by simp; omega)]
      simp
      have : a.length + m.length + 1 - (a.length + (m.length + 1)) = 0 := by omega
      simp [this]
    rw [this]; rfl
  have gi : idxL ((a ++ x :: (m ++ y :: c)).map V.str) (a.length : Int) = some (.str x) := by
    unfold idxL
    rw [if_neg (by omega), Int.toNat_natCast, List.getElem?_map, List.getElem?_append_right (Nat.le_refl _)]
    simp
  have s1 : ((a ++ x :: (m ++ y :: c)).map V.str).set a.length (.str y) = (a ++ y :: (m ++ y :: c)).map V.str := by
    rw [← List.map_set, List.set_append_right _ _ (Nat.le_refl _)]; simp
  have gj2 : idxL ((a ++ y :: (m ++ y :: c)).map V.str) ((a.length + m.length + 1 : Nat) : Int) = some (.str y) := by
    unfold idxL
    rw [if_neg (by omega), Int.toNat_natCast, List.getElem?_map]
    have : (a ++ y :: (m ++ y :: c))[a.length + m.length + 1]? = some y := by
      have e : a ++ y :: (m ++ y :: c) = (a ++ y :: m) ++ y :: c := by simp
      rw [e, List.getElem?_append_right (by simp; omega)]
      simp
      have : a.length + m.length + 1 - (a.length + (m.length + 1)) = 0 := by omega
      simp [this]
    rw [this]; rfl
  have s2 : ((a ++ y :: (m ++ y :: c)).map V.str).set (a.length + m.length + 1) (.str x) = (a ++ y :: (m ++ x :: c)).map V.str := by
    rw [← List.map_set]
    have e : a ++ y :: (m ++ y :: c) = (a ++ y :: m) ++ y :: c := by simp
    rw [e, List.set_append_right _ _ (by simp; omega)]
    simp
    have : a.length + m.length + 1 - (a.length + (m.length + 1)) = 0 := by omega
    simp [this]
  have k1 : (decide (0 ≤ ((a.length + m.length + 1 : Nat) : Int)) && decide (a.length + m.length + 1 < ((a ++ x :: (m ++ y :: c)).map V.str).length)) = true := by
    rw [hlen, Bool.and_eq_true, decide_eq_true_eq, decide_eq_true_eq]; omega
  have k2 : (decide (0 ≤ (a.length : Int)) && decide (a.length < ((a ++ x :: (m ++ y :: c)).map V.str).length)) = true := by
    rw [hlen, Bool.and_eq_true, decide_eq_true_eq, decide_eq_true_eq]; omega
  have k3 : (decide (0 ≤ ((a.length + m.length + 1 : Nat) : Int)) && decide (a.length + m.length + 1 < ((a ++ y :: (m ++ y :: c)).map V.str).length)) = true := by
    rw [Bool.and_eq_true, decide_eq_true_eq, decide_eq_true_eq]; simp; omega
  have w1 := w64 (x := ((a.length + 1 : Nat) : Int)) (by omega) (by omega)
  have w2 := w64 (x := ((a.length + m.length : Nat) : Int)) (by omega) (by omega)
  have o1 : ∀ s : List UInt8, V.one (.str s) = true := fun _ => rfl
  have e2 : ((a.length + m.length + 1 : Nat) : Int) - 1 = ((a.length + m.length : Nat) : Int) := by omega
  have e1 : (a.length : Int) + 1 = ((a.length + 1 : Nat) : Int) := by omega
  unfold ntext_L2
  simp only [sel, hV, hL, List.getD_cons_zero, List.getD_cons_succ, asInt_int, Option.bind_some, hd, cond_true, Int.toNat_natCast, k1, chk_true, gj, asStr_str, k2, gi, o1, s1, k3, gj2, s2, w1, w2, e1, e2]

theorem rev_loop : ∀ (f : Nat) (mid a c : List (List UInt8)), mid.length < f → a.length + mid.length ≤ 10000000 →
    loopK ntext_L2 f (0, [.v (.int .i64 (a.length : Int)), .v (.int .i64 (((a.length + mid.length : Nat) : Int) - 1)), .l ((a ++ mid ++ c).map V.str)]) = some (0, [.l ((a ++ mid.reverse ++ c).map V.str)]) := by
  intro f
  induction f with
  | zero => intro mid a c h; omega
  | succ f ih =>
    intro mid a c hf hl
    have stop : mid.length ≤ 1 → mid.reverse = mid → loopK ntext_L2 (f + 1) (0, [.v (.int .i64 (a.length : Int)), .v (.int .i64 (((a.length + mid.length : Nat) : Int) - 1)), .l ((a ++ mid ++ c).map V.str)]) = some (0, [.l ((a ++ mid.reverse ++ c).map V.str)]) := by
      intro h1 h2
      have hd : decide ((a.length : Int) < ((a.length + mid.length : Nat) : Int) - 1) = false := decide_eq_false (by omega)
      rw [h2]
      unfold loopK ntext_L2
      simp only [sel, hV, hL, List.getD_cons_zero, List.getD_cons_succ, asInt_int, Option.bind_some, hd, cond_false]
    match mid with
    | [] => exact stop (by simp) rfl
    | [x] => exact stop (by simp) rfl
    | x :: z :: r =>
      obtain ⟨m, y, hm⟩ : ∃ m y, z :: r = m ++ [y] := by
        rcases List.eq_nil_or_concat (z :: r) with h | ⟨m, y, h⟩
        · cases h
        · exact ⟨m, y, by rw [h, List.concat_eq_append]⟩
      rw [hm] at hf hl ⊢
      simp only [List.length_cons, List.length_append, List.length_nil] at hf hl
      have e0 : (a ++ x :: (m ++ [y]) ++ c) = a ++ x :: (m ++ y :: c) := by simp
      have e1 : ((a.length + (x :: (m ++ [y])).length : Nat) : Int) - 1 = ((a.length + m.length + 1 : Nat) : Int) := by
        simp only [List.length_cons, List.length_append, List.length_nil]; omega
      unfold loopK
      rw [e0, e1, ntext_L2_step a m c x y (by omega)]
      simp only [Option.bind_some]
      have := ih m (a ++ [y]) (x :: c) (by omega) (by simp; omega)
      have e2 : (a ++ [y] ++ m ++ x :: c) = a ++ y :: (m ++ x :: c) := by simp
      have e3 : (((a ++ [y]).length + m.length : Nat) : Int) - 1 = ((a.length + m.length : Nat) : Int) := by simp; omega
      have e4 : ((a ++ [y]).length : Int) = ((a.length + 1 : Nat) : Int) := by simp
      rw [e2, e3, e4] at this
      rw [this]
      simp

theorem join_flat (rs : List (List UInt8)) : Lib.join rs [] = rs.flatten := by
  unfold Lib.join
  induction rs with
  | nil => rfl
  | cons x r ih =>
    cases r with
    | nil => simp [List.intercalate]
    | cons y r =>
      rw [List.flatten_cons, ← ih]
      simp [List.intercalate]

/-- A number's digits. -/
theorem ntext_exact (l : List Nat) (hl : l.length ≤ 50000) (hw : okWs l) : ntext (some (wordsV l)) = some (Lib.decDigits (nval l)) := by
  unfold ntext
  rw [ntrim_exact l (by omega)]
  simp only [Option.bind_some]
  by_cases h0 : nval l = 0
  · have ht := (trimN_nil l).2 h0
    rw [ht, h0]
    have : Lib.decDigits 0 = [48] := Lib.decDigits_one (by omega)
    rw [this]; rfl
  · have hne : trimN l ≠ [] := fun e => h0 ((trimN_nil l).1 e)
    have hb : (((slLen (some (wordsV (trimN l))) : Nat) : Int) == 0) = false := by
      have := List.length_pos_iff.2 hne
      simp [slLen]; omega
    have hlt := nval_lt hw
    have hle := trimN_le l
    have hk : nval (trimN l) < 1000000000 ^ (2 * l.length) := by rw [nval_trimN]; exact Nat.lt_of_lt_of_le hlt (pow_bound _)
    have h1 := ntext_loop (2 * l.length) FU (trimN l) [] (by omega) (okWs_trimN hw) (trimN_trimN l) hk (by unfold FU; omega) (by simp; omega)
    rw [nval_trimN, List.nil_append] at h1
    have hdig := chunks_digits (2 * l.length) (nval l) (by omega) (by rw [nval_trimN] at hk; exact hk)
    have hcl := chunks_len (2 * l.length) (nval l)
    generalize hps : chunks (2 * l.length) (nval l) = ps at h1 hdig hcl
    have hpn : ps ≠ [] := by
      intro e
      rw [e] at hdig
      have : (Lib.decDigits (nval l)).length = 0 := by rw [← hdig]; rfl
      rw [Lib.decDigits_length] at this
      have := Lib.nDigits_pos (nval l)
      omega
    have hend : textEnd ps = (1, [.l (ps.map V.str)]) := by
      cases ps with
      | nil => exact absurd rfl hpn
      | cons p r => rfl
    have h2 := rev_loop FU ps [] [] (by unfold FU; omega) (by simp; omega)
    simp only [List.length_nil, Nat.zero_add, List.nil_append, List.append_nil] at h2
    have h00 : (((0 : Nat) : Int)) = 0 := rfl
    rw [h00] at h2
    have hj : sJoin (some (ps.reverse.map V.str)) [] = some (Lib.decDigits (nval l)) := by
      unfold sJoin
      simp only [Option.getD_some, strsV_strs, Option.bind_some]
      rw [join_flat, hdig, if_pos]
      rw [List.length_reverse, Lib.decDigits_length]
      refine ⟨by omega, ?_⟩
      have : Lib.nDigits (nval l) ≤ 9 * (2 * l.length) + 1 := nDigits_le _ _ (by omega) (by
        rw [nval_trimN] at hk
        rw [Nat.pow_succ, Nat.pow_mul]
        have e : (10 : Nat) ^ 9 = 1000000000 := rfl
        rw [e]
        omega)
      omega
    have hw1 := w64 (x := ((ps.length : Nat) : Int) - 1) (by omega) (by omega)
    have hst : textSt (trimN l) [] = (0, [.v (.sl (some (wordsV (trimN l))))]) := rfl
    rw [hst, hend] at h1
    simp only [hb, cond_false, h1, Option.bind_some, sel, hL, List.getD_cons_zero, List.length_map, hw1, h2, hj]
theorem ntext_none : ntext none = some [48] := rfl
end Go.Ev
