/- Plain laws: rows, the genders' table. -/
import Derived.Test.YtbppinniokmdnaaDoorCuGdP
namespace Go.Proofs.YtbppinniokmdnaaDoor.gd
open Go Go.Ev
set_option linter.unusedSimpArgs false

abbrev big : Nat := 9223372036854775807
def WordsT (m n : Nat) (w : Option (List V)) : Prop := ∀ xs, w = some xs → xs.length ≤ m ∧ ∀ y ∈ xs, ∃ s, y = V.str s ∧ s.length ≤ n
def RowT (m n : Nat) (x : V) : Prop := ∃ (k : Int) (w : Option (List V)), x = .agg [.int .i64 k, .sl w] ∧ WordsT m n w
def RowsT (l m n : Nat) (o : Option (List V)) : Prop := ∀ xs, o = some xs → xs.length ≤ l ∧ ∀ x ∈ xs, RowT m n x

theorem WordsT.get {m n : Nat} {w : Option (List V)} (h : WordsT m n w) {k : Int} (h0 : 0 ≤ k) (hk : k < slLen w) : ∃ s : List UInt8, idxL (w.getD []) k = some (.str s) ∧ (w.getD [])[k.toNat]? = some (.str s) ∧ s.length ≤ n := by
  cases w with
  | none => simp [slLen] at hk; omega
  | some xs =>
    simp only [slLen, Option.getD_some] at hk ⊢
    obtain ⟨x, h1, h2, h3⟩ := idxL_lt (xs := xs) h0 hk
    obtain ⟨s, rfl, hs⟩ := (h xs rfl).2 x h2
    exact ⟨s, h1, h3, hs⟩
theorem WordsT.len {m n : Nat} {w : Option (List V)} (h : WordsT m n w) : slLen w ≤ m := by
  cases w with
  | none => simp [slLen]
  | some xs => exact (h xs rfl).1
theorem RowsT.get {l m n : Nat} {o : Option (List V)} (h : RowsT l m n o) {k : Int} (h0 : 0 ≤ k) (hk : k < slLen o) : ∃ (j : Int) (w : Option (List V)), idxL (o.getD []) k = some (.agg [.int .i64 j, .sl w]) ∧ (o.getD [])[k.toNat]? = some (.agg [.int .i64 j, .sl w]) ∧ WordsT m n w := by
  cases o with
  | none => simp [slLen] at hk; omega
  | some xs =>
    simp only [slLen, Option.getD_some] at hk ⊢
    obtain ⟨x, h1, h2, h3⟩ := idxL_lt (xs := xs) h0 hk
    obtain ⟨j, w, rfl, hw⟩ := (h xs rfl).2 x h2
    exact ⟨j, w, h1, h3, hw⟩
theorem RowsT.len {l m n : Nat} {o : Option (List V)} (h : RowsT l m n o) : slLen o ≤ l := by
  cases o with
  | none => simp [slLen]
  | some xs => exact (h xs rfl).1

/-! ### heavy -/
theorem heavy1_some {o : Option (List V)} {i : Int} {j : Int} {w : Option (List V)} (hi : idxL (o.getD []) i = some (.agg [.int .i64 j, .sl w])) (hw : WordsT big big w) (hlen : slLen w ≤ 30) :
    ∃ r, loopK heavy_L1 FU (0, [.v (.sl o), .v (.int .i64 i), .v (.int .i64 0)]) = some r ∧ (r = (0, [.v (.bool true)]) ∨ r = (1, [.v (.sl o), .v (.int .i64 i)]) ∧ ∀ y ∈ w.getD [], ∃ s, y = V.str s ∧ s.length ≤ 120) := by
  refine loopK_inv (body := heavy_L1) (fun v => ∃ k : Nat, k ≤ slLen w ∧ (∀ q, q < k → ∃ s, (w.getD [])[q]? = some (V.str s) ∧ s.length ≤ 120) ∧ v = (0, [.v (.sl o), .v (.int .i64 i), .v (.int .i64 k)]))
    (fun v => match hV v.2 2 with | .int _ k => (slLen w - k).toNat | _ => 0) _ (fun v ⟨k, hk, hq, hv⟩ => ?_) FU _ ⟨0, Nat.zero_le _, fun q h => by omega, rfl⟩ (by simp only [hV, FU, List.getD_cons_succ, List.getD_cons_zero]; omega)
  subst hv
  by_cases hlt : k < slLen w
  · obtain ⟨s, h1, h2, h3⟩ := hw.get (k := (k : Int)) (by omega) (by omega)
    by_cases hs : (120 : Int) < (s.length : Int)
    · exact .inr ⟨(0, [.v (.bool true)]), by simp [heavy_L1, sel, hV, hi, hlt, h1, hs], .inl rfl⟩
    · have hw1 := w64 (x := (k : Int) + 1) (by omega) (by omega)
      refine .inl ⟨(0, [.v (.sl o), .v (.int .i64 i), .v (.int .i64 ((k + 1 : Nat) : Int))]), by simp [heavy_L1, sel, hV, hi, hlt, h1, hs, hw1], ⟨k + 1, hlt, fun q h => ?_, rfl⟩, ?_⟩
      · rcases Nat.lt_or_ge q k with h' | h'
        · exact hq q h'
        · have : q = k := by omega
          subst this
          exact ⟨s, by simpa using h2, by omega⟩
      · simp only [hV, List.getD_cons_succ, List.getD_cons_zero]; omega
  · refine .inr ⟨(1, [.v (.sl o), .v (.int .i64 i)]), by simp [heavy_L1, sel, hV, hi, hlt], .inr ⟨rfl, fun y hy => ?_⟩⟩
    obtain ⟨q, hq'⟩ := List.getElem?_of_mem hy
    have hlq : q < (w.getD []).length := (List.getElem?_eq_some_iff.1 hq').1
    obtain ⟨s, h1, h2⟩ := hq q (by unfold slLen at hk hlt; omega)
    rw [hq'] at h1
    exact ⟨s, Option.some.inj h1, h2⟩

theorem heavy_some {o : Option (List V)} (h : RowsT big big big o) : ∃ b, heavy o = some b ∧ (b = false → RowsT 60 30 120 o) := by
  unfold heavy
  by_cases hl : (60 : Int) < (slLen o : Int)
  · exact ⟨true, by simp [hl], fun h => by cases h⟩
  · obtain ⟨r, h1, h2⟩ := loopK_inv (body := heavy_L0) (fun v => ∃ i : Nat, i ≤ slLen o ∧ (∀ q, q < i → ∃ x, (o.getD [])[q]? = some x ∧ RowT 30 120 x) ∧ v = (0, [.v (.sl o), .v (.int .i64 i)]))
      (fun v => match hV v.2 1 with | .int _ k => (slLen o - k).toNat | _ => 0) (fun r => r = (0, [.v (.bool true)]) ∨ r = (1, []) ∧ RowsT 60 30 120 o) (fun v ⟨i, hi, hq, hv⟩ => by
        subst hv
        by_cases hlt : i < slLen o
        · obtain ⟨j, w, g1, g2, g3⟩ := h.get (k := (i : Int)) (by omega) (by omega)
          by_cases hw : (30 : Int) < (slLen w : Int)
          · exact .inr ⟨(0, [.v (.bool true)]), by simp [heavy_L0, sel, hV, hlt, g1, hw], .inl rfl⟩
          · obtain ⟨r, k1, k2⟩ := heavy1_some g1 g3 (by omega)
            rcases k2 with rfl | ⟨rfl, k2⟩
            · exact .inr ⟨(0, [.v (.bool true)]), by simp [heavy_L0, sel, hV, hlt, g1, hw, k1], .inl rfl⟩
            · have hw1 := w64 (x := (i : Int) + 1) (by omega) (by have := h.len; omega)
              refine .inl ⟨(0, [.v (.sl o), .v (.int .i64 ((i + 1 : Nat) : Int))]), by simp [heavy_L0, sel, hV, hlt, g1, hw, k1, hw1], ⟨i + 1, hlt, fun q hq' => ?_, rfl⟩, ?_⟩
              · rcases Nat.lt_or_ge q i with h' | h'
                · exact hq q h'
                · have : q = i := by omega
                  subst this
                  refine ⟨_, by simpa using g2, j, w, rfl, fun xs hx => ?_⟩
                  subst hx
                  exact ⟨by simp only [slLen, Option.getD_some] at hw; omega, by simpa using k2⟩
              · simp only [hV, List.getD_cons_succ, List.getD_cons_zero]; omega
        · refine .inr ⟨(1, []), by simp [heavy_L0, sel, hV, hlt], .inr ⟨rfl, fun xs hx => ?_⟩⟩
          subst hx
          refine ⟨by simp only [slLen, Option.getD_some] at hl; omega, fun x hx => ?_⟩
          obtain ⟨q, hq'⟩ := List.getElem?_of_mem hx
          have hlq : q < xs.length := (List.getElem?_eq_some_iff.1 hq').1
          obtain ⟨y, h1, h2⟩ := hq q (by simp only [slLen, Option.getD_some] at hi hlt; omega)
          simp only [Option.getD_some] at h1
          rw [hq'] at h1
          cases h1
          exact h2) FU _ ⟨0, Nat.zero_le _, fun q h => by omega, rfl⟩ (by simp only [hV, FU, List.getD_cons_succ, List.getD_cons_zero]; omega)
    have h1 : loopK heavy_L0 FU (0, [.v (.sl o), .v (.int .i64 0)]) = some r := h1
    rcases h2 with rfl | ⟨rfl, h2⟩
    · exact ⟨true, by simp [hl, h1, sel, hV], fun h => by cases h⟩
    · exact ⟨false, by simp [hl, h1, sel, hV], fun _ => h2⟩

/-! ### rows.Of -/
def RowsT1 (l m n : Nat) (o : Option (List V)) : Prop := ∀ xs, o = some xs → xs.length ≤ l ∧ ∀ x ∈ xs, ∃ (k : Int) (ws : List V), x = .agg [.int .i64 k, .sl (some ws)] ∧ 1 ≤ ws.length ∧ ws.length ≤ m ∧ ∀ y ∈ ws, ∃ s, y = V.str s ∧ s.length ≤ n

theorem okEl_strs {ws : List V} {n : Nat} (h : ∀ y ∈ ws, ∃ s, y = V.str s ∧ s.length ≤ n) : ws.all (okEl 1) = true := by
  rw [List.all_eq_true]
  intro y hy
  obtain ⟨s, rfl, _⟩ := h y hy
  rfl

theorem rowsOf_some {o : Option (List V)} (kind : List UInt8) (h : RowsT 60 30 120 o) : ∃ r, rowsOf o kind = some r ∧ RowsT1 60 30 120 r := by
  let rowOk (x : V) : Prop := ∃ (k : Int) (ws : List V), x = .agg [.int .i64 k, .sl (some ws)] ∧ 1 ≤ ws.length ∧ ws.length ≤ 30 ∧ ∀ y ∈ ws, ∃ s, y = V.str s ∧ s.length ≤ 120
  obtain ⟨r, h1, h2⟩ := loopK_inv (body := rowsOf_L0) (fun v => ∃ i : Nat, i ≤ slLen o ∧ (v = (0, [.v (.str kind), .v (.sl o), .v (.int .i64 (slLen o)), .v (.int .i64 i)]) ∨ ∃ xs : List V, xs.length ≤ i ∧ (∀ x ∈ xs, rowOk x) ∧ v = (1, [.v (.str kind), .v (.sl o), .v (.int .i64 (slLen o)), .v (.int .i64 i), .l xs])))
    (fun v => match hV v.2 3 with | .int _ k => (slLen o - k).toNat | _ => 0) (fun r => r = (0, []) ∨ ∃ xs : List V, xs.length ≤ 60 ∧ (∀ x ∈ xs, rowOk x) ∧ r = (1, [.l xs])) (fun v ⟨i, hi, hv⟩ => by
      have hlen := h.len
      by_cases hlt : i < slLen o
      · obtain ⟨j, w, g1, g2, g3⟩ := h.get (k := (i : Int)) (by omega) (by omega)
        have hw1 := w64 (x := (i : Int) + 1) (by omega) (by omega)
        by_cases hw : (0 : Int) < (slLen w : Int)
        · obtain ⟨s, e1, e2, e3⟩ := g3.get (k := 0) (by omega) (by omega)
          cases w with
          | none => simp [slLen] at hw
          | some ws =>
            obtain ⟨l1, l2⟩ := g3 ws rfl
            have hn : nilS (some ws) = some false := by
              cases ws with
              | nil => simp [slLen] at hw
              | cons a b => rfl
            simp only [slLen, Option.getD_some] at hw e1
            have hall := okEl_strs l2
            have hf : fits ws.length = true := by unfold fits lim; exact decide_eq_true (by omega)
            have hsl : slLen (some ws) = ws.length := rfl
            have hwn : 0 < ws.length := by omega
            have hrow : rowOk (.agg [.int .i64 j, .sl (some ws)]) := ⟨j, ws, rfl, by omega, l1, l2⟩
            by_cases hk : s = kind
            · rcases hv with rfl | ⟨xs, hx1, hx2, rfl⟩
              · refine .inl ⟨(1, [.v (.str kind), .v (.sl o), .v (.int .i64 (slLen o)), .v (.int .i64 ((i + 1 : Nat) : Int)), .l [.agg [.int .i64 j, .sl (some ws)]]]), ?_, ⟨i + 1, hlt, .inr ⟨_, by simp, ?_, rfl⟩⟩, by simp only [hV, List.getD_cons_succ, List.getD_cons_zero]; omega⟩
                · simp [rowsOf_L0, sel, hV, hlt, g1, hsl, hwn, e1, hk, hn, hall, hf, hw1]
                · intro x hx; simp at hx; subst hx; exact hrow
              · have hf2 : fits (xs.length + 1) = true := by unfold fits lim; exact decide_eq_true (by omega)
                refine .inl ⟨(1, [.v (.str kind), .v (.sl o), .v (.int .i64 (slLen o)), .v (.int .i64 ((i + 1 : Nat) : Int)), .l (xs ++ [.agg [.int .i64 j, .sl (some ws)]])]), ?_, ⟨i + 1, hlt, .inr ⟨_, by simp; omega, ?_, rfl⟩⟩, by simp only [hV, List.getD_cons_succ, List.getD_cons_zero]; omega⟩
                · simp [rowsOf_L0, sel, hV, hL, hlt, g1, hsl, hwn, e1, hk, hn, hall, hf, hf2, hw1]
                · intro x hx
                  rcases List.mem_append.1 hx with hx | hx
                  · exact hx2 x hx
                  · simp at hx; subst hx; exact hrow
            · have hkb : (s == kind) = false := by simpa using hk
              rcases hv with rfl | ⟨xs, hx1, hx2, rfl⟩
              · exact .inl ⟨(0, [.v (.str kind), .v (.sl o), .v (.int .i64 (slLen o)), .v (.int .i64 ((i + 1 : Nat) : Int))]), by simp [rowsOf_L0, sel, hV, hlt, g1, hsl, hwn, e1, hkb, hw1], ⟨i + 1, hlt, .inl rfl⟩, by simp only [hV, List.getD_cons_succ, List.getD_cons_zero]; omega⟩
              · exact .inl ⟨(1, [.v (.str kind), .v (.sl o), .v (.int .i64 (slLen o)), .v (.int .i64 ((i + 1 : Nat) : Int)), .l xs]), by simp [rowsOf_L0, sel, hV, hL, hlt, g1, hsl, hwn, e1, hkb, hw1], ⟨i + 1, hlt, .inr ⟨xs, by omega, hx2, rfl⟩⟩, by simp only [hV, List.getD_cons_succ, List.getD_cons_zero]; omega⟩
        · have hw0 : slLen w = 0 := by omega
          rcases hv with rfl | ⟨xs, hx1, hx2, rfl⟩
          · exact .inl ⟨(0, [.v (.str kind), .v (.sl o), .v (.int .i64 (slLen o)), .v (.int .i64 ((i + 1 : Nat) : Int))]), by simp [rowsOf_L0, sel, hV, hlt, g1, hw0, hw1], ⟨i + 1, hlt, .inl rfl⟩, by simp only [hV, List.getD_cons_succ, List.getD_cons_zero]; omega⟩
          · exact .inl ⟨(1, [.v (.str kind), .v (.sl o), .v (.int .i64 (slLen o)), .v (.int .i64 ((i + 1 : Nat) : Int)), .l xs]), by simp [rowsOf_L0, sel, hV, hL, hlt, g1, hw0, hw1], ⟨i + 1, hlt, .inr ⟨xs, by omega, hx2, rfl⟩⟩, by simp only [hV, List.getD_cons_succ, List.getD_cons_zero]; omega⟩
      · rcases hv with rfl | ⟨xs, hx1, hx2, rfl⟩
        · exact .inr ⟨(0, []), by simp [rowsOf_L0, sel, hV, hlt], .inl rfl⟩
        · exact .inr ⟨(1, [.l xs]), by simp [rowsOf_L0, sel, hV, hL, hlt], .inr ⟨xs, by omega, hx2, rfl⟩⟩) FU _ ⟨0, Nat.zero_le _, .inl rfl⟩ (by simp only [hV, FU, List.getD_cons_succ, List.getD_cons_zero]; have := h.len; omega)
  have h1 : loopK rowsOf_L0 FU (0, [.v (.str kind), .v (.sl o), .v (.int .i64 (slLen o)), .v (.int .i64 0)]) = some r := h1
  unfold rowsOf
  rcases h2 with rfl | ⟨xs, hx1, hx2, rfl⟩
  · exact ⟨none, by simp [h1, sel], fun xs h => by cases h⟩
  · exact ⟨some xs, by simp [h1, sel, hL], fun ys h => by cases h; exact ⟨hx1, hx2⟩⟩
end Go.Proofs.YtbppinniokmdnaaDoor.gd
