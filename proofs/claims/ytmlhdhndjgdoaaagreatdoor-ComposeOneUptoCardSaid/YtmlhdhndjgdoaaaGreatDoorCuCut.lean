/- Plain laws: cutLeft, cutRight, of, as the generator prints them in each package: what they tell of a set of ASCII signs. -/
import Derived.Test.YtmlhdhndjgdoaaaGreatDoorCuTl
import Derived.Test.YtmlhdhndjgdoaaaGreatDoorCuAsc
namespace Go.Ev
open Go
set_option linter.unusedSimpArgs false
noncomputable def cutLeft_L1 (v : Vs) : Option (Vs ⊕ Vs) := sel v.1 [((asStr? (hV v.2 0)).bind fun x2 =>
((asStr? (hV v.2 1)).bind fun x3 =>
((asInt? .i64 (hV v.2 2)).bind fun x4 =>
((asInt? .i32 (hV v.2 3)).bind fun x5 =>
((asBool? (hV v.2 4)).bind fun x6 =>
(cond (decide ((hN v.2 8) < ((hS v.2 7) : List UInt8).length))
(cond x6
(some (.inl (0, [(.v (.str x2)), (.v (.str x3)), (.v (.int .i64 x4)), (.v (.int .i32 x5)), (.v (.bool true)), (.s (hS v.2 5)), (.n (hN v.2 6)), (.s (hS v.2 7)), (.n ((hN v.2 8) + (Utf8.decode ⟨((hS v.2 7) : List UInt8).toArray⟩ (hN v.2 8)).2))])))
(some (.inl (0, [(.v (.str x2)), (.v (.str x3)), (.v (.int .i64 x4)), (.v (.int .i32 x5)), (.v (.bool (x5 == (Utf8.decode ⟨((hS v.2 7) : List UInt8).toArray⟩ (hN v.2 8)).1))), (.s (hS v.2 5)), (.n (hN v.2 6)), (.s (hS v.2 7)), (.n ((hN v.2 8) + (Utf8.decode ⟨((hS v.2 7) : List UInt8).toArray⟩ (hN v.2 8)).2))]))))
(some (.inr (0, [(.v (.str x2)), (.v (.str x3)), (.v (.int .i64 x4)), (.v (.bool x6)), (.s (hS v.2 5)), (.n (hN v.2 6))])))))))))]
noncomputable def cutLeft_L0 (v : Vs) : Option (Vs ⊕ Vs) := sel v.1 [((asStr? (hV v.2 0)).bind fun x0 =>
((asStr? (hV v.2 1)).bind fun x1 =>
(cond (decide ((hN v.2 3) < ((hS v.2 2) : List UInt8).length))
((loopK cutLeft_L1 FU (0, [(.v (.str x0)), (.v (.str x1)), (.v (.int .i64 (((hN v.2 3) : Nat) : Int))), (.v (.int .i32 (Utf8.decode ⟨((hS v.2 2) : List UInt8).toArray⟩ (hN v.2 3)).1)), (.v (.bool false)), (.s (hS v.2 2)), (.n ((hN v.2 3) + (Utf8.decode ⟨((hS v.2 2) : List UInt8).toArray⟩ (hN v.2 3)).2)), (.s x1), (.n 0)])).bind fun x7 => sel x7.1 [((asStr? (hV x7.2 0)).bind fun x8 =>
((asStr? (hV x7.2 1)).bind fun x9 =>
((asInt? .i64 (hV x7.2 2)).bind fun x10 =>
((asBool? (hV x7.2 3)).bind fun x11 =>
(cond (!x11)
((cutL (some x10) none x8).bind fun x12 =>
(some (.inr (0, [(.v (.str x12))]))))
(some (.inl (0, [(.v (.str x8)), (.v (.str x9)), (.s (hS x7.2 4)), (.n (hN x7.2 5))]))))))))])
(some (.inr (1, []))))))]
noncomputable def cutLeft (a0 : List UInt8) (a1 : List UInt8) : Option (List UInt8) :=
((loopK cutLeft_L0 FU (0, [(.v (.str a0)), (.v (.str a1)), (.s a0), (.n 0)])).bind fun x13 => sel x13.1 [((asStr? (hV x13.2 0)).bind fun x14 =>
(some (x14))),
(some ([]))])
noncomputable def cutRight_L1 (v : Vs) : Option (Vs ⊕ Vs) := sel v.1 [((asStr? (hV v.2 0)).bind fun x3 =>
((asStr? (hV v.2 1)).bind fun x4 =>
((asInt? .i32 (hV v.2 2)).bind fun x5 =>
((asInt? .i64 (hV v.2 3)).bind fun x6 =>
((asBool? (hV v.2 4)).bind fun x7 =>
(cond (decide ((hN v.2 6) < ((hS v.2 5) : List UInt8).length))
(cond x7
(some (.inl (0, [(.v (.str x3)), (.v (.str x4)), (.v (.int .i32 x5)), (.v (.int .i64 x6)), (.v (.bool true)), (.s (hS v.2 5)), (.n ((hN v.2 6) + (Utf8.decode ⟨((hS v.2 5) : List UInt8).toArray⟩ (hN v.2 6)).2))])))
(some (.inl (0, [(.v (.str x3)), (.v (.str x4)), (.v (.int .i32 x5)), (.v (.int .i64 x6)), (.v (.bool (x5 == (Utf8.decode ⟨((hS v.2 5) : List UInt8).toArray⟩ (hN v.2 6)).1))), (.s (hS v.2 5)), (.n ((hN v.2 6) + (Utf8.decode ⟨((hS v.2 5) : List UInt8).toArray⟩ (hN v.2 6)).2))]))))
(some (.inr (0, [(.v (.str x3)), (.v (.str x4)), (.v (.int .i64 x6)), (.v (.bool x7))])))))))))]
noncomputable def cutRight_L0 (v : Vs) : Option (Vs ⊕ Vs) := sel v.1 [((asStr? (hV v.2 0)).bind fun x0 =>
((asStr? (hV v.2 1)).bind fun x1 =>
(cond (decide ((((x0 : List UInt8).length : Nat) : Int) > 0))
((dlr x0).bind fun x2 =>
((loopK cutRight_L1 FU (0, [(.v (.str x0)), (.v (.str x1)), (.v (.int .i32 x2.1)), (.v (.int .i64 x2.2)), (.v (.bool false)), (.s x1), (.n 0)])).bind fun x8 => sel x8.1 [((asStr? (hV x8.2 0)).bind fun x9 =>
((asStr? (hV x8.2 1)).bind fun x10 =>
((asInt? .i64 (hV x8.2 2)).bind fun x11 =>
((asBool? (hV x8.2 3)).bind fun x12 =>
(cond (!x12)
(some (.inr (0, [(.v (.str x9))])))
((cutL none (some (IntKind.wrap .i64 ((((x9 : List UInt8).length : Nat) : Int) - x11))) x9).bind fun x13 =>
(some (.inl (0, [(.v (.str x13)), (.v (.str x10))])))))))))]))
(some (.inr (1, [(.v (.str x0))]))))))]
noncomputable def cutRight (a0 : List UInt8) (a1 : List UInt8) : Option (List UInt8) :=
((loopK cutRight_L0 FU (0, [(.v (.str a0)), (.v (.str a1))])).bind fun x14 => sel x14.1 [((asStr? (hV x14.2 0)).bind fun x15 =>
(some (x15))),
((asStr? (hV x14.2 0)).bind fun x16 =>
(some (x16)))])
/-! ### cutLeft, cutRight, of: they answer -/
abbrev stL1 (s set s' set' : List UInt8) (i c : Int) (n : Nat) (b : Bool) (k : Nat) : Vs := (0, [.v (.str s), .v (.str set), .v (.int .i64 i), .v (.int .i32 c), .v (.bool b), .s s', .n n, .s set', .n k])
theorem cutLeft1_some (s set s' set' : List UInt8) (i c : Int) (n : Nat) (hl : set'.length ≤ 1000) (b : Bool) (k : Nat) :
    ∃ b', loopK cutLeft_L1 FU (stL1 s set s' set' i c n b k) = some (0, [.v (.str s), .v (.str set), .v (.int .i64 i), .v (.bool b'), .s s', .n n]) := by
  obtain ⟨r, h1, b', h2⟩ := loopK_inv (body := cutLeft_L1) (fun v => ∃ b k, v = stL1 s set s' set' i c n b k)
    (fun v => set'.length - hN v.2 8) (fun r => ∃ b', r = (0, [.v (.str s), .v (.str set), .v (.int .i64 i), .v (.bool b'), .s s', .n n])) (fun v ⟨b, k, hv⟩ => by
      subst hv
      by_cases hk : k < set'.length
      · have := dec_pos set' k hk
        cases b
        · exact .inl ⟨stL1 s set s' set' i c n (c == (Utf8.decode ⟨set'.toArray⟩ k).1) (k + (Utf8.decode ⟨set'.toArray⟩ k).2), by simp [cutLeft_L1, sel, hV, hS, hN, hk], ⟨_, _, rfl⟩, by simp only [hN, List.getD_cons_succ, List.getD_cons_zero]; omega⟩
        · exact .inl ⟨stL1 s set s' set' i c n true (k + (Utf8.decode ⟨set'.toArray⟩ k).2), by simp [cutLeft_L1, sel, hV, hS, hN, hk], ⟨_, _, rfl⟩, by simp only [hN, List.getD_cons_succ, List.getD_cons_zero]; omega⟩
      · exact .inr ⟨(0, [.v (.str s), .v (.str set), .v (.int .i64 i), .v (.bool b), .s s', .n n]), by simp [cutLeft_L1, sel, hV, hS, hN, hk], _, rfl⟩) FU _ ⟨b, k, rfl⟩ (by simp only [hN, FU, List.getD_cons_succ, List.getD_cons_zero]; omega)
  exact ⟨b', by rw [h1, h2]⟩

/-- cutLeft answers; what it tells is no longer. -/
theorem cutLeft_some (s set : List UInt8) (hs : s.length ≤ 1000000) (hl : set.length ≤ 1000) : ∃ r, cutLeft s set = some r ∧ r.length ≤ s.length := by
  obtain ⟨r, h1, h2⟩ := loopK_inv (body := cutLeft_L0) (fun v => ∃ k, v = (0, [.v (.str s), .v (.str set), .s s, .n k]))
    (fun v => s.length - hN v.2 3) (fun r => r = (1, []) ∨ ∃ t : List UInt8, r = (0, [.v (.str t)]) ∧ t.length ≤ s.length) (fun v ⟨k, hv⟩ => by
      subst hv
      by_cases hk : k < s.length
      · have := dec_pos s k hk
        obtain ⟨b', hb⟩ := cutLeft1_some s set s set k (Utf8.decode ⟨s.toArray⟩ k).1 (k + (Utf8.decode ⟨s.toArray⟩ k).2) hl false 0
        cases b'
        · refine .inr ⟨(0, [.v (.str (s.drop k))]), ?_, .inr ⟨_, rfl, by simp⟩⟩
          have hc := cutL_from (xs := s) (n := (k : Int)) (by omega) (by omega)
          simp [cutLeft_L0, sel, hV, hS, hN, hk, hb, hc]
        · exact .inl ⟨(0, [.v (.str s), .v (.str set), .s s, .n (k + (Utf8.decode ⟨s.toArray⟩ k).2)]), by simp [cutLeft_L0, sel, hV, hS, hN, hk, hb], ⟨_, rfl⟩, by simp only [hN, List.getD_cons_succ, List.getD_cons_zero]; omega⟩
      · exact .inr ⟨(1, []), by simp [cutLeft_L0, sel, hV, hS, hN, hk], .inl rfl⟩) FU _ ⟨0, rfl⟩ (by simp only [hN, FU, List.getD_cons_succ, List.getD_cons_zero]; omega)
  unfold cutLeft
  rw [h1]
  rcases h2 with rfl | ⟨t, rfl, ht⟩
  · exact ⟨[], by simp [sel], by simp⟩
  · exact ⟨t, by simp [sel, hV], ht⟩

theorem dlr_some (s : List UInt8) (hs : s.length ≤ 1000000) (h : 0 < s.length) : ∃ c n : Nat, dlr s = some ((c : Int), (n : Int)) ∧ 1 ≤ n ∧ n ≤ s.length := by
  have := Lib.decodeLastL_width s h
  exact ⟨_, _, by unfold dlr; rw [if_pos (by omega)], this.1, this.2⟩

abbrev stR1 (s set set' : List UInt8) (c n : Int) (b : Bool) (k : Nat) : Vs := (0, [.v (.str s), .v (.str set), .v (.int .i32 c), .v (.int .i64 n), .v (.bool b), .s set', .n k])
theorem cutRight1_some (s set set' : List UInt8) (c n : Int) (hl : set'.length ≤ 1000) (b : Bool) (k : Nat) :
    ∃ b', loopK cutRight_L1 FU (stR1 s set set' c n b k) = some (0, [.v (.str s), .v (.str set), .v (.int .i64 n), .v (.bool b')]) := by
  obtain ⟨r, h1, b', h2⟩ := loopK_inv (body := cutRight_L1) (fun v => ∃ b k, v = stR1 s set set' c n b k)
    (fun v => set'.length - hN v.2 6) (fun r => ∃ b', r = (0, [.v (.str s), .v (.str set), .v (.int .i64 n), .v (.bool b')])) (fun v ⟨b, k, hv⟩ => by
      subst hv
      by_cases hk : k < set'.length
      · have := dec_pos set' k hk
        cases b
        · exact .inl ⟨stR1 s set set' c n (c == (Utf8.decode ⟨set'.toArray⟩ k).1) (k + (Utf8.decode ⟨set'.toArray⟩ k).2), by simp [cutRight_L1, sel, hV, hS, hN, hk], ⟨_, _, rfl⟩, by simp only [hN, List.getD_cons_succ, List.getD_cons_zero]; omega⟩
        · exact .inl ⟨stR1 s set set' c n true (k + (Utf8.decode ⟨set'.toArray⟩ k).2), by simp [cutRight_L1, sel, hV, hS, hN, hk], ⟨_, _, rfl⟩, by simp only [hN, List.getD_cons_succ, List.getD_cons_zero]; omega⟩
      · exact .inr ⟨(0, [.v (.str s), .v (.str set), .v (.int .i64 n), .v (.bool b)]), by simp [cutRight_L1, sel, hV, hS, hN, hk], _, rfl⟩) FU _ ⟨b, k, rfl⟩ (by simp only [hN, FU, List.getD_cons_succ, List.getD_cons_zero]; omega)
  exact ⟨b', by rw [h1, h2]⟩

theorem cutRight_some (s set : List UInt8) (hs : s.length ≤ 1000000) (hl : set.length ≤ 1000) : ∃ r, cutRight s set = some r := by
  obtain ⟨r, h1, t, h2⟩ := loopK_inv (body := cutRight_L0) (fun v => ∃ t : List UInt8, t.length ≤ s.length ∧ v = (0, [.v (.str t), .v (.str set)]))
    (fun v => match hV v.2 0 with | .str t => t.length | _ => 0) (fun r => ∃ t : List UInt8, r = (0, [.v (.str t)]) ∨ r = (1, [.v (.str t)])) (fun v ⟨t, ht, hv⟩ => by
      subst hv
      by_cases hk : 0 < t.length
      · obtain ⟨c, n, hd, hn1, hn2⟩ := dlr_some t (by omega) hk
        obtain ⟨b', hb⟩ := cutRight1_some t set set c n hl false 0
        cases b'
        · exact .inr ⟨(0, [.v (.str t)]), by simp [cutRight_L0, sel, hV, hS, hN, hk, hd, hb], t, .inl rfl⟩
        · have hw := w64 (x := (t.length : Int) - (n : Int)) (by omega) (by omega)
          have hc := cutL_to (xs := t) (n := (t.length : Int) - (n : Int)) (by omega) (by omega)
          refine .inl ⟨(0, [.v (.str (t.take ((t.length : Int) - (n : Int)).toNat)), .v (.str set)]), by simp [cutRight_L0, sel, hV, hS, hN, hk, hd, hb, hw, hc], ⟨_, ?_, rfl⟩, ?_⟩
          · simp; omega
          · simp [hV]; omega
      · exact .inr ⟨(1, [.v (.str t)]), by simp [cutRight_L0, sel, hV, hS, hN, hk], t, .inr rfl⟩) FU _ ⟨s, Nat.le_refl _, rfl⟩ (by simp only [hV, FU, List.getD_cons_zero]; omega)
  unfold cutRight
  rw [h1]
  rcases h2 with rfl | rfl
  · exact ⟨t, by simp [sel, hV]⟩
  · exact ⟨t, by simp [sel, hV]⟩

theorem cutLeft1_exact (s set s' : List UInt8) (i c : Int) (n : Nat) (hs : ascii set) : ∀ (f k : Nat) (b : Bool), set.length - k < f → k ≤ set.length →
    loopK cutLeft_L1 f (stL1 s set s' set i c n b k) = some (0, [.v (.str s), .v (.str set), .v (.int .i64 i), .v (.bool (b || (set.drop k).any fun x => c == (x.toNat : Int))), .s s', .n n]) := by
  intro f
  induction f with
  | zero => intro k b h _; omega
  | succ f ih =>
    intro k b h hk
    unfold loopK
    by_cases hlt : k < set.length
    · have hd := dec_low set k hlt (hs _ (List.getElem_mem hlt))
      have hdr : set.drop k = set[k] :: set.drop (k + 1) := List.drop_eq_getElem_cons hlt
      cases b
      · have step : cutLeft_L1 (stL1 s set s' set i c n false k) = some (.inl (stL1 s set s' set i c n (c == ((set[k]).toNat : Int)) (k + 1))) := by
          simp [cutLeft_L1, sel, hV, hS, hN, hlt, hd]
        rw [step]
        simp only [Option.bind_some]
        rw [ih (k + 1) _ (by omega) (by omega), hdr]
        simp only [List.any_cons, Bool.false_or]
      · have step : cutLeft_L1 (stL1 s set s' set i c n true k) = some (.inl (stL1 s set s' set i c n true (k + 1))) := by
          simp [cutLeft_L1, sel, hV, hS, hN, hlt, hd]
        rw [step]
        simp only [Option.bind_some]
        rw [ih (k + 1) _ (by omega) (by omega)]
        simp only [Bool.true_or]
    · have step : cutLeft_L1 (stL1 s set s' set i c n b k) = some (.inr (0, [.v (.str s), .v (.str set), .v (.int .i64 i), .v (.bool b), .s s', .n n])) := by
        simp [cutLeft_L1, sel, hV, hS, hN, hlt]
      rw [step, List.drop_eq_nil_of_le (by omega)]
      simp

theorem any_low (set : List UInt8) (b : UInt8) : (set.any fun x => ((b.toNat : Nat) : Int) == (x.toNat : Int)) = set.contains b := by
  induction set with
  | nil => rfl
  | cons x r ih =>
    rw [List.any_cons, ih, List.contains_cons]
    congr 1
    by_cases h : b = x
    · simp [h]
    · have : ¬ b.toNat = x.toNat := fun e => h (UInt8.toNat_inj.1 e)
      have h' : (b == x) = false := by simpa using h
      rw [h', beq_eq_false_iff_ne]; omega
theorem any_high (set : List UInt8) (hs : ascii set) (c : Nat) (h : 128 ≤ c) : (set.any fun x => ((c : Nat) : Int) == (x.toNat : Int)) = false := by
  rw [List.any_eq_false]
  intro x hx
  have := hs x hx
  simp; omega

/-- The rune at a place, is it of the set: as its byte is. -/
theorem any_at (s set : List UInt8) (hs : ascii set) (k : Nat) (hk : k < s.length) : (set.any fun x => (((Utf8.decode ⟨s.toArray⟩ k).1 : Nat) : Int) == (x.toNat : Int)) = set.contains s[k] ∧ (set.contains s[k] = true → (Utf8.decode ⟨s.toArray⟩ k).2 = 1) := by
  by_cases hb : (s[k]).toNat < 128
  · rw [dec_low s k hk hb]
    exact ⟨any_low set _, fun _ => rfl⟩
  · have := dec_high s k hk (by omega)
    have hn : set.contains s[k] = false := by
      cases hc : set.contains s[k] with
      | false => rfl
      | true => exact absurd (hs _ (List.contains_iff_mem.1 hc)) hb
    rw [hn]
    exact ⟨any_high set hs _ this, fun h => by cases h⟩

theorem cutLeft_exact (s set : List UInt8) (hl : s.length ≤ 1000000) (hl2 : set.length ≤ 1000) (hs : ascii set) : cutLeft s set = some (s.dropWhile set.contains) := by
  have key : ∀ (f k : Nat), s.length - k < f → k ≤ s.length → loopK cutLeft_L0 f (0, [.v (.str s), .v (.str set), .s s, .n k]) = some (if (s.drop k).dropWhile set.contains = [] then (1, []) else (0, [.v (.str ((s.drop k).dropWhile set.contains))])) := by
    intro f
    induction f with
    | zero => intro k h _; omega
    | succ f ih =>
      intro k h hk
      unfold loopK
      by_cases hlt : k < s.length
      · obtain ⟨h1, h2⟩ := any_at s set hs k hlt
        have hin := cutLeft1_exact s set s k (Utf8.decode ⟨s.toArray⟩ k).1 (k + (Utf8.decode ⟨s.toArray⟩ k).2) hs FU 0 false (by unfold FU; omega) (Nat.zero_le _)
        rw [List.drop_zero, h1, Bool.false_or] at hin
        have hdr : s.drop k = s[k] :: s.drop (k + 1) := List.drop_eq_getElem_cons hlt
        cases hc : set.contains s[k] with
        | true =>
          rw [hc] at hin
          have step : cutLeft_L0 (0, [.v (.str s), .v (.str set), .s s, .n k]) = some (.inl (0, [.v (.str s), .v (.str set), .s s, .n (k + 1)])) := by
            rw [h2 hc] at hin
            simp [cutLeft_L0, sel, hV, hS, hN, hlt, hin, h2 hc]
          rw [step]
          simp only [Option.bind_some]
          rw [ih (k + 1) (by omega) (by omega), hdr, List.dropWhile_cons, hc]
          rfl
        | false =>
          rw [hc] at hin
          have hcut := cutL_from (xs := s) (n := (k : Int)) (by omega) (by omega)
          have step : cutLeft_L0 (0, [.v (.str s), .v (.str set), .s s, .n k]) = some (.inr (0, [.v (.str (s.drop k))])) := by
            simp [cutLeft_L0, sel, hV, hS, hN, hlt, hin, hcut]
          rw [step]
          have : (s.drop k).dropWhile set.contains = s.drop k := by rw [hdr, List.dropWhile_cons, hc]; rfl
          rw [this, if_neg (by rw [hdr]; exact List.cons_ne_nil _ _)]
          rfl
      · have step : cutLeft_L0 (0, [.v (.str s), .v (.str set), .s s, .n k]) = some (.inr (1, [])) := by
          simp [cutLeft_L0, sel, hV, hS, hN, hlt]
        rw [step, List.drop_eq_nil_of_le (by omega)]
        rfl
  have h := key FU 0 (by unfold FU; omega) (Nat.zero_le _)
  rw [List.drop_zero] at h
  unfold cutLeft
  rw [h]
  by_cases he : s.dropWhile set.contains = []
  · rw [if_pos he, he]; rfl
  · rw [if_neg he]; rfl

theorem cutRight1_exact (s set : List UInt8) (c n : Int) (hs : ascii set) : ∀ (f k : Nat) (b : Bool), set.length - k < f → k ≤ set.length →
    loopK cutRight_L1 f (stR1 s set set c n b k) = some (0, [.v (.str s), .v (.str set), .v (.int .i64 n), .v (.bool (b || (set.drop k).any fun x => c == (x.toNat : Int)))]) := by
  intro f
  induction f with
  | zero => intro k b h _; omega
  | succ f ih =>
    intro k b h hk
    unfold loopK
    by_cases hlt : k < set.length
    · have hd := dec_low set k hlt (hs _ (List.getElem_mem hlt))
      have hdr : set.drop k = set[k] :: set.drop (k + 1) := List.drop_eq_getElem_cons hlt
      cases b
      · have step : cutRight_L1 (stR1 s set set c n false k) = some (.inl (stR1 s set set c n (c == ((set[k]).toNat : Int)) (k + 1))) := by
          simp [cutRight_L1, sel, hV, hS, hN, hlt, hd]
        rw [step]
        simp only [Option.bind_some]
        rw [ih (k + 1) _ (by omega) (by omega), hdr]
        simp only [List.any_cons, Bool.false_or]
      · have step : cutRight_L1 (stR1 s set set c n true k) = some (.inl (stR1 s set set c n true (k + 1))) := by
          simp [cutRight_L1, sel, hV, hS, hN, hlt, hd]
        rw [step]
        simp only [Option.bind_some]
        rw [ih (k + 1) _ (by omega) (by omega)]
        simp only [Bool.true_or]
    · have step : cutRight_L1 (stR1 s set set c n b k) = some (.inr (0, [.v (.str s), .v (.str set), .v (.int .i64 n), .v (.bool b)])) := by
        simp [cutRight_L1, sel, hV, hS, hN, hlt]
      rw [step, List.drop_eq_nil_of_le (by omega)]
      simp

/-- cutRight leaves nothing where all is of the set; it leaves something else. -/
theorem cutRight_exact (set : List UInt8) (hl2 : set.length ≤ 1000) (hs : ascii set) : ∀ (s : List UInt8), s.length ≤ 1000000 → ∃ r, cutRight s set = some r ∧ ((r == []) = s.all set.contains) := by
  have key : ∀ (f : Nat) (s : List UInt8), s.length < f → s.length ≤ 1000000 → ∃ r, (loopK cutRight_L0 f (0, [.v (.str s), .v (.str set)]) = some (0, [.v (.str r)]) ∨ loopK cutRight_L0 f (0, [.v (.str s), .v (.str set)]) = some (1, [.v (.str r)])) ∧ ((r == []) = s.all set.contains) := by
    intro f
    induction f with
    | zero => intro s h _; omega
    | succ f ih =>
      intro s hf hl
      unfold loopK
      by_cases hne : s = []
      · subst hne
        exact ⟨[], .inr (by simp [cutRight_L0, sel, hV]), rfl⟩
      · have hk : 0 < s.length := List.length_pos_iff.2 hne
        have hla : s = s.dropLast ++ [s.getLast hne] := (List.dropLast_concat_getLast hne).symm
        have hgd : s.getD (s.length - 1) 0 = s.getLast hne := by
          rw [List.getD_eq_getElem?_getD, List.getElem?_eq_getElem (by omega), List.getLast_eq_getElem]; rfl
        have hall : s.all set.contains = (s.dropLast.all set.contains && set.contains (s.getLast hne)) := by
          conv => lhs; rw [hla]
          rw [List.all_append]; simp
        have hdl : dlr s = some (((Lib.decodeLastL s).1 : Int), ((Lib.decodeLastL s).2 : Int)) := by unfold dlr; rw [if_pos (by omega)]
        have hin := cutRight1_exact s set (Lib.decodeLastL s).1 (Lib.decodeLastL s).2 hs FU 0 false (by unfold FU; omega) (Nat.zero_le _)
        rw [List.drop_zero, Bool.false_or] at hin
        by_cases hb : (s.getLast hne).toNat < 128
        · have hd : Lib.decodeLastL s = ((s.getLast hne).toNat, 1) := by
            conv => lhs; rw [hla]
            exact Lib.decodeLastL_ascii _ _ hb
          rw [hd] at hin hdl
          simp only at hin hdl
          rw [any_low] at hin
          cases hc : set.contains (s.getLast hne) with
          | true =>
            rw [hc] at hin
            have hw := w64 (x := (s.length : Int) - ((1 : Nat) : Int)) (by omega) (by omega)
            have hcut := cutL_to (xs := s) (n := (s.length : Int) - ((1 : Nat) : Int)) (by omega) (by omega)
            have htk : s.take ((s.length : Int) - ((1 : Nat) : Int)).toNat = s.dropLast := by
              rw [List.dropLast_eq_take]; congr 1; omega
            rw [htk] at hcut
            have step : cutRight_L0 (0, [.v (.str s), .v (.str set)]) = some (.inl (0, [.v (.str s.dropLast), .v (.str set)])) := by
              simp only [Int.natCast_one] at hw hcut hin hdl
              simp [cutRight_L0, sel, hV, hS, hN, hk, hdl, hin, hw, hcut]
            rw [step]
            obtain ⟨r, h1, h2⟩ := ih s.dropLast (by rw [List.length_dropLast]; omega) (by rw [List.length_dropLast]; omega)
            refine ⟨r, h1, ?_⟩
            rw [h2, hall, hc, Bool.and_true]
          | false =>
            rw [hc] at hin
            have step : cutRight_L0 (0, [.v (.str s), .v (.str set)]) = some (.inr (0, [.v (.str s)])) := by
              simp only [Int.natCast_one] at hin hdl
              simp [cutRight_L0, sel, hV, hS, hN, hk, hdl, hin]
            rw [step]
            refine ⟨s, .inl rfl, ?_⟩
            rw [hall, hc, Bool.and_false]
            simpa using hne
        · have hh := dl_high s hne (by rw [hgd]; omega)
          rw [any_high set hs _ hh] at hin
          have hc : set.contains (s.getLast hne) = false := by
            cases hc : set.contains (s.getLast hne) with
            | false => rfl
            | true => exact absurd (hs _ (List.contains_iff_mem.1 hc)) hb
          have step : cutRight_L0 (0, [.v (.str s), .v (.str set)]) = some (.inr (0, [.v (.str s)])) := by
            simp [cutRight_L0, sel, hV, hS, hN, hk, hdl, hin]
          rw [step]
          refine ⟨s, .inl rfl, ?_⟩
          rw [hall, hc, Bool.and_false]
          simpa using hne
  intro s hl
  obtain ⟨r, h1, h2⟩ := key FU s (by unfold FU; omega) hl
  refine ⟨r, ?_, h2⟩
  unfold cutRight
  rcases h1 with h1 | h1 <;> rw [h1] <;> rfl

theorem dropWhile_nil (s : List UInt8) (p : UInt8 → Bool) : (s.dropWhile p).all p = s.all p := by
  induction s with
  | nil => rfl
  | cons x r ih =>
    rw [List.dropWhile_cons]
    cases h : p x with
    | true => simp only [h, if_true, List.all_cons, Bool.true_and]; exact ih
    | false => simp [h]

/-- What 'of' tells: so many signs, each of the set. -/
def ofK (s set : List UInt8) (a b : Int) : Bool := decide (a ≤ (s.length : Int)) && (decide ((s.length : Int) ≤ b) && s.all set.contains)
theorem of_cut (s set : List UInt8) (a b : Int) (hb : b ≤ 1000000) (hl2 : set.length ≤ 1000) (hs : ascii set) :
    (cond (decide (((s.length : Nat) : Int) ≥ a)) (cond (decide (((s.length : Nat) : Int) ≤ b)) ((cutLeft s set).bind fun x0 => ((cutRight x0 set).bind fun x1 => (some (x1 == [])))) (some false)) (some false)) = some (ofK s set a b) := by
  unfold ofK
  by_cases h1 : a ≤ (s.length : Int)
  · by_cases h2 : (s.length : Int) ≤ b
    · have hc := cutLeft_exact s set (by omega) hl2 hs
      have hle : (s.dropWhile set.contains).length ≤ 1000000 := by
        have := (List.dropWhile_sublist set.contains (l := s)).length_le
        omega
      obtain ⟨r, h3, h4⟩ := cutRight_exact set hl2 hs (s.dropWhile set.contains) hle
      rw [dropWhile_nil] at h4
      rw [← h4]
      simp [h1, h2, hc, h3]
    · simp [h1, h2]
  · simp [h1]
/-- All of a set, some. -/
theorem of_any (s set : List UInt8) (hl : s.length ≤ 1000000) (hl2 : set.length ≤ 1000) (hs : ascii set) :
    ((cutLeft s set).bind fun x0 => ((cutRight x0 set).bind fun x1 => (some (x1 == [])))) = some (s.all set.contains) := by
  have hc := cutLeft_exact s set hl hl2 hs
  have hle : (s.dropWhile set.contains).length ≤ 1000000 := by
    have := (List.dropWhile_sublist set.contains (l := s)).length_le
    omega
  obtain ⟨r, h3, h4⟩ := cutRight_exact set hl2 hs (s.dropWhile set.contains) hle
  rw [dropWhile_nil] at h4
  rw [← h4]
  simp [hc, h3]
end Go.Ev
