/- Plain laws: the functions of genders answer. -/
import Derived.Test.YtbppinniokmdnaaDoorCuGdL
import Derived.Test.YtbppinniokmdnaaDoorCuLp
namespace Go.Proofs.YtbppinniokmdnaaDoor.gd
open Go Go.Ev
set_option linter.unusedSimpArgs false

/-! ### cutLeft, cutRight, of: they answer -/
abbrev stL1 (s set s' set' : List UInt8) (i c : Int) (n : Nat) (b : Bool) (k : Nat) : Vs := (0, [.v (.str s), .v (.str set), .v (.int .i64 i), .v (.int .i32 c), .v (.bool b), .s s', .n n, .s set', .n k])
theorem cutLeft1_some (s set s' set' : List UInt8) (i c : Int) (n : Nat) (hl : set'.length ≤ 1000) (b : Bool) (k : Nat) :
    ∃ b', loopK cutLeft_L1 FU (stL1 s set s' set' i c n b k) = some (0, [.v (.str s), .v (.str set), .v (.int .i64 i), .v (.bool b'), .s s', .n n]) := by
  obtain ⟨r, h1, b', h2⟩ := loopK_inv (body := cutLeft_L1) (fun v => ∃ b k, v = stL1 s set s' set' i c n b k)
    (fun v => set'.length - hN v.2 8) (fun r => ∃ b', r = (0, [.v (.str s), .v (.str set), .v (.int .i64 i), .v (.bool b'), .s s', .n n])) (fun v ⟨b, k, hv⟩ => by
      subst hv
      by_cases hk : k < set'.length
      · have := dec_pos set' k hk
        cases b
        · exact .inl ⟨stL1 s set s' set' i c n (c == (Utf8.decode ⟨set'.toArray⟩ k).1) (k + (Utf8.decode ⟨set'.toArray⟩ k).2), by simp [cutLeft_L1, sel, hV, hS, hN, hk], ⟨_, _, rfl⟩, by simp only [hN, List.getD_cons_succ, List.getD_cons_zero]; omega⟩
        · exact .inl ⟨stL1 s set s' set' i c n true (k + (Utf8.decode ⟨set'.toArray⟩ k).2), by simp [cutLeft_L1, sel, hV, hS, hN, hk], ⟨_, _, rfl⟩, by simp only [hN, List.getD_cons_succ, List.getD_cons_zero]; omega⟩
      · exact .inr ⟨(0, [.v (.str s), .v (.str set), .v (.int .i64 i), .v (.bool b), .s s', .n n]), by simp [cutLeft_L1, sel, hV, hS, hN, hk], _, rfl⟩) FU _ ⟨b, k, rfl⟩ (by simp only [hN, FU, List.getD_cons_succ, List.getD_cons_zero]; omega)
  exact ⟨b', by rw [h1, h2]⟩

/-- cutLeft answers; what it tells is no longer. -/
theorem cutLeft_some (s set : List UInt8) (hs : s.length ≤ 1000000) (hl : set.length ≤ 1000) : ∃ r, cutLeft s set = some r ∧ r.length ≤ s.length := by
  obtain ⟨r, h1, h2⟩ := loopK_inv (body := cutLeft_L0) (fun v => ∃ k, v = (0, [.v (.str s), .v (.str set), .s s, .n k]))
    (fun v => s.length - hN v.2 3) (fun r => r = (1, []) ∨ ∃ t : List UInt8, r = (0, [.v (.str t)]) ∧ t.length ≤ s.length) (fun v ⟨k, hv⟩ => by
      subst hv
      by_cases hk : k < s.length
      · have := dec_pos s k hk
        obtain ⟨b', hb⟩ := cutLeft1_some s set s set k (Utf8.decode ⟨s.toArray⟩ k).1 (k + (Utf8.decode ⟨s.toArray⟩ k).2) hl false 0
        cases b'
        · refine .inr ⟨(0, [.v (.str (s.drop k))]), ?_, .inr ⟨_, rfl, by simp⟩⟩
          have hc := cutL_from (xs := s) (n := (k : Int)) (by omega) (by omega)
          simp [cutLeft_L0, sel, hV, hS, hN, hk, hb, hc]
        · exact .inl ⟨(0, [.v (.str s), .v (.str set), .s s, .n (k + (Utf8.decode ⟨s.toArray⟩ k).2)]), by simp [cutLeft_L0, sel, hV, hS, hN, hk, hb], ⟨_, rfl⟩, by simp only [hN, List.getD_cons_succ, List.getD_cons_zero]; omega⟩
      · exact .inr ⟨(1, []), by simp [cutLeft_L0, sel, hV, hS, hN, hk], .inl rfl⟩) FU _ ⟨0, rfl⟩ (by simp only [hN, FU, List.getD_cons_succ, List.getD_cons_zero]; omega)
  unfold cutLeft
  rw [h1]
  rcases h2 with rfl | ⟨t, rfl, ht⟩
  · exact ⟨[], by simp [sel], by simp⟩
  · exact ⟨t, by simp [sel, hV], ht⟩

theorem dlr_some (s : List UInt8) (hs : s.length ≤ 1000000) (h : 0 < s.length) : ∃ c n : Nat, dlr s = some ((c : Int), (n : Int)) ∧ 1 ≤ n ∧ n ≤ s.length := by
  have := Lib.decodeLastL_width s h
  exact ⟨_, _, by unfold dlr; rw [if_pos (by omega)], this.1, this.2⟩

abbrev stR1 (s set set' : List UInt8) (c n : Int) (b : Bool) (k : Nat) : Vs := (0, [.v (.str s), .v (.str set), .v (.int .i32 c), .v (.int .i64 n), .v (.bool b), .s set', .n k])
theorem cutRight1_some (s set set' : List UInt8) (c n : Int) (hl : set'.length ≤ 1000) (b : Bool) (k : Nat) :
    ∃ b', loopK cutRight_L1 FU (stR1 s set set' c n b k) = some (0, [.v (.str s), .v (.str set), .v (.int .i64 n), .v (.bool b')]) := by
  obtain ⟨r, h1, b', h2⟩ := loopK_inv (body := cutRight_L1) (fun v => ∃ b k, v = stR1 s set set' c n b k)
    (fun v => set'.length - hN v.2 6) (fun r => ∃ b', r = (0, [.v (.str s), .v (.str set), .v (.int .i64 n), .v (.bool b')])) (fun v ⟨b, k, hv⟩ => by
      subst hv
      by_cases hk : k < set'.length
      · have := dec_pos set' k hk
        cases b
        · exact .inl ⟨stR1 s set set' c n (c == (Utf8.decode ⟨set'.toArray⟩ k).1) (k + (Utf8.decode ⟨set'.toArray⟩ k).2), by simp [cutRight_L1, sel, hV, hS, hN, hk], ⟨_, _, rfl⟩, by simp only [hN, List.getD_cons_succ, List.getD_cons_zero]; omega⟩
        · exact .inl ⟨stR1 s set set' c n true (k + (Utf8.decode ⟨set'.toArray⟩ k).2), by simp [cutRight_L1, sel, hV, hS, hN, hk], ⟨_, _, rfl⟩, by simp only [hN, List.getD_cons_succ, List.getD_cons_zero]; omega⟩
      · exact .inr ⟨(0, [.v (.str s), .v (.str set), .v (.int .i64 n), .v (.bool b)]), by simp [cutRight_L1, sel, hV, hS, hN, hk], _, rfl⟩) FU _ ⟨b, k, rfl⟩ (by simp only [hN, FU, List.getD_cons_succ, List.getD_cons_zero]; omega)
  exact ⟨b', by rw [h1, h2]⟩

theorem cutRight_some (s set : List UInt8) (hs : s.length ≤ 1000000) (hl : set.length ≤ 1000) : ∃ r, cutRight s set = some r := by
  obtain ⟨r, h1, t, h2⟩ := loopK_inv (body := cutRight_L0) (fun v => ∃ t : List UInt8, t.length ≤ s.length ∧ v = (0, [.v (.str t), .v (.str set)]))
    (fun v => match hV v.2 0 with | .str t => t.length | _ => 0) (fun r => ∃ t : List UInt8, r = (0, [.v (.str t)]) ∨ r = (1, [.v (.str t)])) (fun v ⟨t, ht, hv⟩ => by
      subst hv
      by_cases hk : 0 < t.length
      · obtain ⟨c, n, hd, hn1, hn2⟩ := dlr_some t (by omega) hk
        obtain ⟨b', hb⟩ := cutRight1_some t set set c n hl false 0
        cases b'
        · exact .inr ⟨(0, [.v (.str t)]), by simp [cutRight_L0, sel, hV, hS, hN, hk, hd, hb], t, .inl rfl⟩
        · have hw := w64 (x := (t.length : Int) - (n : Int)) (by omega) (by omega)
          have hc := cutL_to (xs := t) (n := (t.length : Int) - (n : Int)) (by omega) (by omega)
          refine .inl ⟨(0, [.v (.str (t.take ((t.length : Int) - (n : Int)).toNat)), .v (.str set)]), by simp [cutRight_L0, sel, hV, hS, hN, hk, hd, hb, hw, hc], ⟨_, ?_, rfl⟩, ?_⟩
          · simp; omega
          · simp [hV]; omega
      · exact .inr ⟨(1, [.v (.str t)]), by simp [cutRight_L0, sel, hV, hS, hN, hk], t, .inr rfl⟩) FU _ ⟨s, Nat.le_refl _, rfl⟩ (by simp only [hV, FU, List.getD_cons_zero]; omega)
  unfold cutRight
  rw [h1]
  rcases h2 with rfl | rfl
  · exact ⟨t, by simp [sel, hV]⟩
  · exact ⟨t, by simp [sel, hV]⟩

theorem gof_some (s set : List UInt8) (hs : s.length ≤ 1000000) (hl : set.length ≤ 1000) : ∃ b, gof s set = some b := by
  obtain ⟨r, h1, h2⟩ := cutLeft_some s set hs hl
  obtain ⟨q, h3⟩ := cutRight_some r set (by omega) hl
  unfold gof
  rw [h1]
  simp only [Option.bind_some, h3]
  cases (!(s == ([] : List UInt8))) <;> exact ⟨_, rfl⟩
end Go.Proofs.YtbppinniokmdnaaDoor.gd
