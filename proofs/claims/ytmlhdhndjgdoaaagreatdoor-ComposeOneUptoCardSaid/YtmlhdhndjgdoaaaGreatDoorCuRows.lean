/- Rows: heavy, rows.Of, in normal form and as lists. Of no program. -/
import Derived.Test.YtmlhdhndjgdoaaaGreatDoorCuLp
import Derived.Test.YtmlhdhndjgdoaaaGreatDoorCuTl
namespace Go.Ev
set_option linter.unusedSimpArgs false
set_option linter.unusedVariables false
abbrev Str := List UInt8

/-! cubit/rows.Of -/
noncomputable def rowsOf_L0 (v : Vs) : Option (Vs ⊕ Vs) := sel v.1 [((asStr? (hV v.2 0)).bind fun x0 =>
((asSl? (hV v.2 1)).bind fun x1 =>
((asInt? .i64 (hV v.2 2)).bind fun x2 =>
((asInt? .i64 (hV v.2 3)).bind fun x3 =>
(cond (decide (x3 < x2))
((idxL (x1.getD []) x3).bind fun x4 =>
((asAgg? 2 x4).bind fun x5 =>
((asInt? .i64 (x5.getD 0 .nilp)).bind fun x6 =>
((asSl? (x5.getD 1 .nilp)).bind fun x7 =>
(cond (decide (((slLen x7 : Nat) : Int) > 0))
((idxL (x7.getD []) 0).bind fun x8 =>
((asStr? x8).bind fun x9 =>
(cond (x9 == x0)
((nilS x7).bind fun x10 =>
(cond x10
(some (.inl (1, [(.v (.str x0)), (.v (.sl x1)), (.v (.int .i64 x2)), (.v (.int .i64 (IntKind.wrap .i64 (x3 + 1)))), (.l [(.agg [(.int .i64 x6), (.sl none)])])])))
(chk ((fits (0 + (x7.getD []).length)) && ((x7.getD []).all (okEl 1)))
(some (.inl (1, [(.v (.str x0)), (.v (.sl x1)), (.v (.int .i64 x2)), (.v (.int .i64 (IntKind.wrap .i64 (x3 + 1)))), (.l [(.agg [(.int .i64 x6), (.sl (some ([] ++ (x7.getD []) : List V)))])])]))))))
(some (.inl (0, [(.v (.str x0)), (.v (.sl x1)), (.v (.int .i64 x2)), (.v (.int .i64 (IntKind.wrap .i64 (x3 + 1))))]))))))
(some (.inl (0, [(.v (.str x0)), (.v (.sl x1)), (.v (.int .i64 x2)), (.v (.int .i64 (IntKind.wrap .i64 (x3 + 1))))]))))))))
(some (.inr (0, [])))))))),
((asStr? (hV v.2 0)).bind fun x11 =>
((asSl? (hV v.2 1)).bind fun x12 =>
((asInt? .i64 (hV v.2 2)).bind fun x13 =>
((asInt? .i64 (hV v.2 3)).bind fun x14 =>
(cond (decide (x14 < x13))
((idxL (x12.getD []) x14).bind fun x15 =>
((asAgg? 2 x15).bind fun x16 =>
((asInt? .i64 (x16.getD 0 .nilp)).bind fun x17 =>
((asSl? (x16.getD 1 .nilp)).bind fun x18 =>
(cond (decide (((slLen x18 : Nat) : Int) > 0))
((idxL (x18.getD []) 0).bind fun x19 =>
((asStr? x19).bind fun x20 =>
(cond (x20 == x11)
((nilS x18).bind fun x21 =>
(cond x21
(chk ((fits ((hL v.2 4).length + 1)) && true)
(some (.inl (1, [(.v (.str x11)), (.v (.sl x12)), (.v (.int .i64 x13)), (.v (.int .i64 (IntKind.wrap .i64 (x14 + 1)))), (.l ((hL v.2 4) ++ [(.agg [(.int .i64 x17), (.sl none)])] : List V))]))))
(chk ((fits (0 + (x18.getD []).length)) && ((x18.getD []).all (okEl 1)))
(chk ((fits ((hL v.2 4).length + 1)) && true)
(some (.inl (1, [(.v (.str x11)), (.v (.sl x12)), (.v (.int .i64 x13)), (.v (.int .i64 (IntKind.wrap .i64 (x14 + 1)))), (.l ((hL v.2 4) ++ [(.agg [(.int .i64 x17), (.sl (some ([] ++ (x18.getD []) : List V)))])] : List V))])))))))
(some (.inl (1, [(.v (.str x11)), (.v (.sl x12)), (.v (.int .i64 x13)), (.v (.int .i64 (IntKind.wrap .i64 (x14 + 1)))), (.l (hL v.2 4))]))))))
(some (.inl (1, [(.v (.str x11)), (.v (.sl x12)), (.v (.int .i64 x13)), (.v (.int .i64 (IntKind.wrap .i64 (x14 + 1)))), (.l (hL v.2 4))]))))))))
(some (.inr (1, [(.l (hL v.2 4))]))))))))]
noncomputable def rowsOf (a0 : Option (List V)) (a1 : List UInt8) : Option (Option (List V)) :=
((loopK rowsOf_L0 FU (0, [(.v (.str a1)), (.v (.sl a0)), (.v (.int .i64 ((slLen a0 : Nat) : Int))), (.v (.int .i64 0))])).bind fun x22 => sel x22.1 [(some (none)),
(some ((some (hL x22.2 0))))])
/-! cubit/cubitlaw23.heavy -/
noncomputable def heavy_L1 (v : Vs) : Option (Vs ⊕ Vs) := sel v.1 [((asSl? (hV v.2 0)).bind fun x6 =>
((asInt? .i64 (hV v.2 1)).bind fun x7 =>
((asInt? .i64 (hV v.2 2)).bind fun x8 =>
((idxL (x6.getD []) x7).bind fun x9 =>
((asAgg? 2 x9).bind fun x10 =>
((asInt? .i64 (x10.getD 0 .nilp)).bind fun x11 =>
((asSl? (x10.getD 1 .nilp)).bind fun x12 =>
(cond (decide (x8 < ((slLen x12 : Nat) : Int)))
((idxL (x6.getD []) x7).bind fun x13 =>
((asAgg? 2 x13).bind fun x14 =>
((asInt? .i64 (x14.getD 0 .nilp)).bind fun x15 =>
((asSl? (x14.getD 1 .nilp)).bind fun x16 =>
((idxL (x16.getD []) x8).bind fun x17 =>
((asStr? x17).bind fun x18 =>
(cond (decide ((((x18 : List UInt8).length : Nat) : Int) > 120))
(some (.inr (0, [(.v (.bool true))])))
(some (.inl (0, [(.v (.sl x6)), (.v (.int .i64 x7)), (.v (.int .i64 (IntKind.wrap .i64 (x8 + 1))))]))))))))))
(some (.inr (1, [(.v (.sl x6)), (.v (.int .i64 x7))])))))))))))]
noncomputable def heavy_L0 (v : Vs) : Option (Vs ⊕ Vs) := sel v.1 [((asSl? (hV v.2 0)).bind fun x0 =>
((asInt? .i64 (hV v.2 1)).bind fun x1 =>
(cond (decide (x1 < ((slLen x0 : Nat) : Int)))
((idxL (x0.getD []) x1).bind fun x2 =>
((asAgg? 2 x2).bind fun x3 =>
((asInt? .i64 (x3.getD 0 .nilp)).bind fun x4 =>
((asSl? (x3.getD 1 .nilp)).bind fun x5 =>
(cond (decide (((slLen x5 : Nat) : Int) > 30))
(some (.inr (0, [(.v (.bool true))])))
((loopK heavy_L1 FU (0, [(.v (.sl x0)), (.v (.int .i64 x1)), (.v (.int .i64 0))])).bind fun x19 => sel x19.1 [((asBool? (hV x19.2 0)).bind fun x20 =>
(some (.inr (0, [(.v (.bool x20))])))),
((asSl? (hV x19.2 0)).bind fun x21 =>
((asInt? .i64 (hV x19.2 1)).bind fun x22 =>
(some (.inl (0, [(.v (.sl x21)), (.v (.int .i64 (IntKind.wrap .i64 (x22 + 1))))])))))]))))))
(some (.inr (1, []))))))]
noncomputable def heavy (a0 : Option (List V)) : Option (Bool) :=
(cond (decide (((slLen a0 : Nat) : Int) > 60))
(some (true))
((loopK heavy_L0 FU (0, [(.v (.sl a0)), (.v (.int .i64 0))])).bind fun x23 => sel x23.1 [((asBool? (hV x23.2 0)).bind fun x24 =>
(some (x24))),
(some (false))]))
abbrev big : Nat := 9223372036854775807
def WordsT (m n : Nat) (w : Option (List V)) : Prop := ∀ xs, w = some xs → xs.length ≤ m ∧ ∀ y ∈ xs, ∃ s, y = V.str s ∧ s.length ≤ n
def RowT (m n : Nat) (x : V) : Prop := ∃ (k : Int) (w : Option (List V)), x = .agg [.int .i64 k, .sl w] ∧ WordsT m n w
def RowsT (l m n : Nat) (o : Option (List V)) : Prop := ∀ xs, o = some xs → xs.length ≤ l ∧ ∀ x ∈ xs, RowT m n x

theorem WordsT.get {m n : Nat} {w : Option (List V)} (h : WordsT m n w) {k : Int} (h0 : 0 ≤ k) (hk : k < slLen w) : ∃ s : List UInt8, idxL (w.getD []) k = some (.str s) ∧ (w.getD [])[k.toNat]? = some (.str s) ∧ s.length ≤ n := by
  cases w with
  | none => simp [slLen] at hk; omega
  | some xs =>
    simp only [slLen, Option.getD_some] at hk ⊢
    obtain ⟨x, h1, h2, h3⟩ := idxL_lt (xs := xs) h0 hk
    obtain ⟨s, rfl, hs⟩ := (h xs rfl).2 x h2
    exact ⟨s, h1, h3, hs⟩
theorem WordsT.len {m n : Nat} {w : Option (List V)} (h : WordsT m n w) : slLen w ≤ m := by
  cases w with
  | none => simp [slLen]
  | some xs => exact (h xs rfl).1
theorem RowsT.get {l m n : Nat} {o : Option (List V)} (h : RowsT l m n o) {k : Int} (h0 : 0 ≤ k) (hk : k < slLen o) : ∃ (j : Int) (w : Option (List V)), idxL (o.getD []) k = some (.agg [.int .i64 j, .sl w]) ∧ (o.getD [])[k.toNat]? = some (.agg [.int .i64 j, .sl w]) ∧ WordsT m n w := by
  cases o with
  | none => simp [slLen] at hk; omega
  | some xs =>
    simp only [slLen, Option.getD_some] at hk ⊢
    obtain ⟨x, h1, h2, h3⟩ := idxL_lt (xs := xs) h0 hk
    obtain ⟨j, w, rfl, hw⟩ := (h xs rfl).2 x h2
    exact ⟨j, w, h1, h3, hw⟩
theorem RowsT.len {l m n : Nat} {o : Option (List V)} (h : RowsT l m n o) : slLen o ≤ l := by
  cases o with
  | none => simp [slLen]
  | some xs => exact (h xs rfl).1

/-! ### heavy -/
theorem heavy1_some {o : Option (List V)} {i : Int} {j : Int} {w : Option (List V)} (hi : idxL (o.getD []) i = some (.agg [.int .i64 j, .sl w])) (hw : WordsT big big w) (hlen : slLen w ≤ 30) :
    ∃ r, loopK heavy_L1 FU (0, [.v (.sl o), .v (.int .i64 i), .v (.int .i64 0)]) = some r ∧ (r = (0, [.v (.bool true)]) ∨ r = (1, [.v (.sl o), .v (.int .i64 i)]) ∧ ∀ y ∈ w.getD [], ∃ s, y = V.str s ∧ s.length ≤ 120) := by
  refine loopK_inv (body := heavy_L1) (fun v => ∃ k : Nat, k ≤ slLen w ∧ (∀ q, q < k → ∃ s, (w.getD [])[q]? = some (V.str s) ∧ s.length ≤ 120) ∧ v = (0, [.v (.sl o), .v (.int .i64 i), .v (.int .i64 k)]))
    (fun v => match hV v.2 2 with | .int _ k => (slLen w - k).toNat | _ => 0) _ (fun v ⟨k, hk, hq, hv⟩ => ?_) FU _ ⟨0, Nat.zero_le _, fun q h => by omega, rfl⟩ (by simp only [hV, FU, List.getD_cons_succ, List.getD_cons_zero]; omega)
  subst hv
  by_cases hlt : k < slLen w
  · obtain ⟨s, h1, h2, h3⟩ := hw.get (k := (k : Int)) (by omega) (by omega)
    by_cases hs : (120 : Int) < (s.length : Int)
    · exact .inr ⟨(0, [.v (.bool true)]), by simp [heavy_L1, sel, hV, hi, hlt, h1, hs], .inl rfl⟩
    · have hw1 := w64 (x := (k : Int) + 1) (by omega) (by omega)
      refine .inl ⟨(0, [.v (.sl o), .v (.int .i64 i), .v (.int .i64 ((k + 1 : Nat) : Int))]), by simp [heavy_L1, sel, hV, hi, hlt, h1, hs, hw1], ⟨k + 1, hlt, fun q h => ?_, rfl⟩, ?_⟩
      · rcases Nat.lt_or_ge q k with h' | h'
        · exact hq q h'
        · have : q = k := by omega
          subst this
          exact ⟨s, by simpa using h2, by omega⟩
      · simp only [hV, List.getD_cons_succ, List.getD_cons_zero]; omega
  · refine .inr ⟨(1, [.v (.sl o), .v (.int .i64 i)]), by simp [heavy_L1, sel, hV, hi, hlt], .inr ⟨rfl, fun y hy => ?_⟩⟩
    obtain ⟨q, hq'⟩ := List.getElem?_of_mem hy
    have hlq : q < (w.getD []).length := (List.getElem?_eq_some_iff.1 hq').1
    obtain ⟨s, h1, h2⟩ := hq q (by unfold slLen at hk hlt; omega)
    rw [hq'] at h1
    exact ⟨s, Option.some.inj h1, h2⟩

theorem heavy_some {o : Option (List V)} (h : RowsT big big big o) : ∃ b, heavy o = some b ∧ (b = false → RowsT 60 30 120 o) := by
  unfold heavy
  by_cases hl : (60 : Int) < (slLen o : Int)
  · exact ⟨true, by simp [hl], fun h => by cases h⟩
  · obtain ⟨r, h1, h2⟩ := loopK_inv (body := heavy_L0) (fun v => ∃ i : Nat, i ≤ slLen o ∧ (∀ q, q < i → ∃ x, (o.getD [])[q]? = some x ∧ RowT 30 120 x) ∧ v = (0, [.v (.sl o), .v (.int .i64 i)]))
      (fun v => match hV v.2 1 with | .int _ k => (slLen o - k).toNat | _ => 0) (fun r => r = (0, [.v (.bool true)]) ∨ r = (1, []) ∧ RowsT 60 30 120 o) (fun v ⟨i, hi, hq, hv⟩ => by
        subst hv
        by_cases hlt : i < slLen o
        · obtain ⟨j, w, g1, g2, g3⟩ := h.get (k := (i : Int)) (by omega) (by omega)
          by_cases hw : (30 : Int) < (slLen w : Int)
          · exact .inr ⟨(0, [.v (.bool true)]), by simp [heavy_L0, sel, hV, hlt, g1, hw], .inl rfl⟩
          · obtain ⟨r, k1, k2⟩ := heavy1_some g1 g3 (by omega)
            rcases k2 with rfl | ⟨rfl, k2⟩
            · exact .inr ⟨(0, [.v (.bool true)]), by simp [heavy_L0, sel, hV, hlt, g1, hw, k1], .inl rfl⟩
            · have hw1 := w64 (x := (i : Int) + 1) (by omega) (by have := h.len; omega)
              refine .inl ⟨(0, [.v (.sl o), .v (.int .i64 ((i + 1 : Nat) : Int))]), by simp [heavy_L0, sel, hV, hlt, g1, hw, k1, hw1], ⟨i + 1, hlt, fun q hq' => ?_, rfl⟩, ?_⟩
              · rcases Nat.lt_or_ge q i with h' | h'
                · exact hq q h'
                · have : q = i := by omega
                  subst this
                  refine ⟨_, by simpa using g2, j, w, rfl, fun xs hx => ?_⟩
                  subst hx
                  exact ⟨by simp only [slLen, Option.getD_some] at hw; omega, by simpa using k2⟩
              · simp only [hV, List.getD_cons_succ, List.getD_cons_zero]; omega
        · refine .inr ⟨(1, []), by simp [heavy_L0, sel, hV, hlt], .inr ⟨rfl, fun xs hx => ?_⟩⟩
          subst hx
          refine ⟨by simp only [slLen, Option.getD_some] at hl; omega, fun x hx => ?_⟩
          obtain ⟨q, hq'⟩ := List.getElem?_of_mem hx
          have hlq : q < xs.length := (List.getElem?_eq_some_iff.1 hq').1
          obtain ⟨y, h1, h2⟩ := hq q (by simp only [slLen, Option.getD_some] at hi hlt; omega)
          simp only [Option.getD_some] at h1
          rw [hq'] at h1
          cases h1
          exact h2) FU _ ⟨0, Nat.zero_le _, fun q h => by omega, rfl⟩ (by simp only [hV, FU, List.getD_cons_succ, List.getD_cons_zero]; omega)
    have h1 : loopK heavy_L0 FU (0, [.v (.sl o), .v (.int .i64 0)]) = some r := h1
    rcases h2 with rfl | ⟨rfl, h2⟩
    · exact ⟨true, by simp [hl, h1, sel, hV], fun h => by cases h⟩
    · exact ⟨false, by simp [hl, h1, sel, hV], fun _ => h2⟩


/-! ### Typed rows -/
abbrev Rw := Int × Option (List Str)
def encW (o : Option (List Str)) : Option (List V) := o.map fun l => l.map V.str
def encR (r : Rw) : V := .agg [.int .i64 r.1, .sl (encW r.2)]
def encRs (o : Option (List Rw)) : Option (List V) := o.map fun l => l.map encR
def RwB (m n : Nat) (r : Rw) : Prop := (r.2.getD []).length ≤ m ∧ ∀ s ∈ r.2.getD [], s.length ≤ n
def RwsB (l m n : Nat) (xs : List Rw) : Prop := xs.length ≤ l ∧ ∀ r ∈ xs, RwB m n r
theorem slLen_encW (o : Option (List Str)) : slLen (encW o) = (o.getD []).length := by cases o <;> simp [encW, slLen]
theorem slLen_encRs (o : Option (List Rw)) : slLen (encRs o) = (o.getD []).length := by cases o <;> simp [encRs, slLen]
theorem words_typed {m n : Nat} {w : Option (List V)} (h : WordsT m n w) : ∃ t : Option (List Str), w = encW t ∧ (t.getD []).length ≤ m ∧ ∀ s ∈ t.getD [], s.length ≤ n := by
  cases w with
  | none => exact ⟨none, rfl, Nat.zero_le _, fun s h => by cases h⟩
  | some xs =>
    obtain ⟨h1, h2⟩ := h xs rfl
    obtain ⟨ts, rfl, h3⟩ := strs_of h2
    exact ⟨some ts, rfl, by simpa using h1, h3⟩
theorem rows_typed {l m n : Nat} {o : Option (List V)} (h : RowsT l m n o) : ∃ t : Option (List Rw), o = encRs t ∧ RwsB l m n (t.getD []) := by
  cases o with
  | none => exact ⟨none, rfl, Nat.zero_le _, fun r h => by cases h⟩
  | some xs =>
    obtain ⟨h1, h2⟩ := h xs rfl
    have : ∀ (xs : List V), (∀ x ∈ xs, RowT m n x) → ∃ t : List Rw, xs = t.map encR ∧ ∀ r ∈ t, RwB m n r := by
      intro xs
      induction xs with
      | nil => intro _; exact ⟨[], rfl, fun r h => by cases h⟩
      | cons x xs ih =>
        intro h
        obtain ⟨k, w, rfl, hw⟩ := h x (List.mem_cons_self ..)
        obtain ⟨t, rfl, ht⟩ := ih fun y hy => h y (List.mem_cons_of_mem _ hy)
        obtain ⟨ws, rfl, hws⟩ := words_typed hw
        exact ⟨(k, ws) :: t, rfl, fun r hr => by rcases List.mem_cons.1 hr with rfl | hr; exact hws; exact ht r hr⟩
    obtain ⟨t, rfl, ht⟩ := this xs h2
    exact ⟨some t, rfl, by simpa using h1, ht⟩

/-! ### rows.Of -/
def isK (kind : Str) (r : Rw) : Bool := match r.2 with
  | some (w :: _) => w == kind
  | _ => false
def nz {α : Type} : List α → Option (List α)
  | [] => none
  | x :: r => some (x :: r)
abbrev rst (kind : Str) (xs : List Rw) (i : Nat) (acc : List Rw) : Vs := match acc with
  | [] => (0, [.v (.str kind), .v (.sl (some (xs.map encR))), .v (.int .i64 (xs.length : Int)), .v (.int .i64 (i : Int))])
  | a :: r => (1, [.v (.str kind), .v (.sl (some (xs.map encR))), .v (.int .i64 (xs.length : Int)), .v (.int .i64 (i : Int)), .l ((a :: r).map encR)])
def rend (acc : List Rw) : Vs := match acc with
  | [] => (0, [])
  | a :: r => (1, [.l ((a :: r).map encR)])
theorem asAgg_encR (r : Rw) : asAgg? 2 (encR r) = some [.int .i64 r.1, .sl (encW r.2)] := rfl
theorem idxL_map {α : Type} {f : α → V} (xs : List α) (i : Nat) (h : i < xs.length) : idxL (xs.map f) (i : Int) = some (f xs[i]) := by
  unfold idxL
  rw [if_neg (by omega), Int.toNat_natCast, List.getElem?_map, List.getElem?_eq_getElem h]; rfl

theorem rowsOf_step (kind : Str) (xs : List Rw) (i : Nat) (acc : List Rw) (hi : i < xs.length) (hb : xs.length ≤ 1000000) (ha : acc.length ≤ i) (hw : ∀ r ∈ xs, (r.2.getD []).length ≤ 1000000) :
    rowsOf_L0 (rst kind xs i acc) = some (.inl (rst kind xs (i + 1) (if isK kind xs[i] then acc ++ [xs[i]] else acc))) := by
  have hd : decide ((i : Int) < (xs.length : Int)) = true := decide_eq_true (by omega)
  have hidx := idxL_map (f := encR) xs i hi
  have hwi : IntKind.wrap .i64 ((i : Int) + 1) = ((i + 1 : Nat) : Int) := by rw [w64 (by omega) (by omega)]; rfl
  have hwr := hw _ (List.getElem_mem hi)
  have hfa : (fits ((acc.map encR).length + 1) && true) = true := by
    rw [Bool.and_true, List.length_map]; unfold fits lim; exact decide_eq_true (by omega)
  generalize xs[i] = r at hidx hwr
  obtain ⟨k, w⟩ := r
  cases w with
  | none =>
    have hpos : decide (((slLen (encW none) : Nat) : Int) > 0) = false := rfl
    have hK : isK kind (k, none) = false := rfl
    rw [hK]
    cases acc with
    | nil => simp only [rst, rowsOf_L0, sel, hV, List.getD_cons_zero, List.getD_cons_succ, asStr_str, asSl_sl, asInt_int, Option.bind_some, Option.getD_some, hd, cond_true, hidx, asAgg_encR, hpos, cond_false, hwi]; rfl
    | cons a acc => simp only [rst, rowsOf_L0, sel, hV, hL, List.getD_cons_zero, List.getD_cons_succ, asStr_str, asSl_sl, asInt_int, Option.bind_some, Option.getD_some, hd, cond_true, hidx, asAgg_encR, hpos, cond_false, hwi]; rfl
  | some ws =>
    cases ws with
    | nil =>
      have hpos : decide (((slLen (encW (some [])) : Nat) : Int) > 0) = false := rfl
      have hK : isK kind (k, some []) = false := rfl
      rw [hK]
      cases acc with
      | nil => simp only [rst, rowsOf_L0, sel, hV, List.getD_cons_zero, List.getD_cons_succ, asStr_str, asSl_sl, asInt_int, Option.bind_some, Option.getD_some, hd, cond_true, hidx, asAgg_encR, hpos, cond_false, hwi]; rfl
      | cons a acc => simp only [rst, rowsOf_L0, sel, hV, hL, List.getD_cons_zero, List.getD_cons_succ, asStr_str, asSl_sl, asInt_int, Option.bind_some, Option.getD_some, hd, cond_true, hidx, asAgg_encR, hpos, cond_false, hwi]; rfl
    | cons w ws =>
      have hpos : decide (((slLen (encW (some (w :: ws))) : Nat) : Int) > 0) = true := decide_eq_true (by rw [slLen_encW]; simp)
      have h0 : idxL ((encW (some (w :: ws))).getD []) 0 = some (.str w) := rfl
      have hn : nilS (encW (some (w :: ws))) = some false := rfl
      have hK : isK kind (k, some (w :: ws)) = (w == kind) := rfl
      have hf : (fits (0 + ((encW (some (w :: ws))).getD []).length) && ((encW (some (w :: ws))).getD []).all (okEl 1)) = true := by
        have e1 : ((encW (some (w :: ws))).getD []) = (w :: ws).map V.str := rfl
        rw [e1, Bool.and_eq_true]
        refine ⟨?_, ?_⟩
        · rw [List.length_map]; unfold fits lim; simp only [Option.getD_some] at hwr; exact decide_eq_true (by omega)
        · rw [List.all_eq_true]
          intro y hy
          obtain ⟨s, _, rfl⟩ := List.mem_map.1 hy
          rfl
      have hE : V.agg [.int .i64 k, .sl (some ([] ++ (encW (some (w :: ws))).getD []))] = encR (k, some (w :: ws)) := rfl
      rw [hK]
      cases hk : (w == kind) with
      | true =>
        cases acc with
        | nil => simp only [rst, rowsOf_L0, sel, hV, List.getD_cons_zero, List.getD_cons_succ, asStr_str, asSl_sl, asInt_int, Option.bind_some, Option.getD_some, hd, cond_true, hidx, asAgg_encR, hpos, h0, hk, hn, cond_false, hf, chk_true, hwi, hE]; rfl
        | cons a acc =>
          simp only [rst, rowsOf_L0, sel, hV, hL, List.getD_cons_zero, List.getD_cons_succ, asStr_str, asSl_sl, asInt_int, Option.bind_some, Option.getD_some, hd, cond_true, hidx, asAgg_encR, hpos, h0, hk, hn, cond_false, hf, hfa, chk_true, hwi, hE]
          simp
      | false =>
        cases acc with
        | nil => simp only [rst, rowsOf_L0, sel, hV, List.getD_cons_zero, List.getD_cons_succ, asStr_str, asSl_sl, asInt_int, Option.bind_some, Option.getD_some, hd, cond_true, hidx, asAgg_encR, hpos, h0, hk, cond_false, hwi]; rfl
        | cons a acc => simp only [rst, rowsOf_L0, sel, hV, hL, List.getD_cons_zero, List.getD_cons_succ, asStr_str, asSl_sl, asInt_int, Option.bind_some, Option.getD_some, hd, cond_true, hidx, asAgg_encR, hpos, h0, hk, cond_false, hwi]; rfl

theorem rowsOf_exact (kind : Str) (o : Option (List Rw)) (hb : (o.getD []).length ≤ 1000000) (hw : ∀ r ∈ o.getD [], (r.2.getD []).length ≤ 1000000) : rowsOf (encRs o) kind = some (encRs (nz ((o.getD []).filter (isK kind)))) := by
  cases o with
  | none => rfl
  | some xs =>
    simp only [Option.getD_some] at hb hw ⊢
    have key : ∀ (f i : Nat) (acc : List Rw), xs.length - i < f → i ≤ xs.length → acc.length ≤ i → loopK rowsOf_L0 f (rst kind xs i acc) = some (rend (acc ++ (xs.drop i).filter (isK kind))) := by
      intro f
      induction f with
      | zero => intro i acc h; omega
      | succ f ih =>
        intro i acc hf hi ha
        unfold loopK
        by_cases hlt : i < xs.length
        · rw [rowsOf_step kind xs i acc hlt hb ha hw]
          simp only [Option.bind_some]
          rw [List.drop_eq_getElem_cons hlt, List.filter_cons]
          by_cases hk : isK kind xs[i] = true
          · rw [if_pos hk, if_pos hk, ih (i + 1) _ (by omega) (by omega) (by simp; omega)]
            simp
          · rw [if_neg hk, if_neg hk, ih (i + 1) _ (by omega) (by omega) (by omega)]
        · have : i = xs.length := by omega
          subst this
          have hd : decide ((xs.length : Int) < (xs.length : Int)) = false := decide_eq_false (by omega)
          rw [List.drop_length]
          cases acc with
          | nil => simp only [rst, rowsOf_L0, sel, hV, List.getD_cons_zero, List.getD_cons_succ, asStr_str, asSl_sl, asInt_int, Option.bind_some, hd, cond_false]; rfl
          | cons a acc => simp only [rst, rowsOf_L0, sel, hV, hL, List.getD_cons_zero, List.getD_cons_succ, asStr_str, asSl_sl, asInt_int, Option.bind_some, hd, cond_false]; simp [rend]
    have h1 := key FU 0 [] (by unfold FU; omega) (Nat.zero_le _) (Nat.le_refl _)
    rw [List.drop_zero, List.nil_append] at h1
    have hsl : slLen (encRs (some xs)) = xs.length := by simp [encRs, slLen]
    have hst : rst kind xs 0 [] = (0, [.v (.str kind), .v (.sl (encRs (some xs))), .v (.int .i64 ((slLen (encRs (some xs)) : Nat) : Int)), .v (.int .i64 0)]) := by rw [hsl]; rfl
    rw [hst] at h1
    unfold rowsOf
    rw [h1]
    cases xs.filter (isK kind) <;> rfl
end Go.Ev
