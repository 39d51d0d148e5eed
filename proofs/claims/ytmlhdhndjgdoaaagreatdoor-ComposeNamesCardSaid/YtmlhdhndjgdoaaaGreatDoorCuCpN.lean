/- Plain law: a name without its number; ComposeNames. -/
import Derived.Test.YtmlhdhndjgdoaaaGreatDoorCuCpT
import Derived.Lib.CountLaws
import Derived.Lib.Replace
namespace Go.Proofs.YtmlhdhndjgdoaaaGreatDoor.cp
open Go Go.Ev
set_option linter.unusedSimpArgs false
abbrev Str := List UInt8
theorem u32 {c : UInt8} (e : ((c.toNat : Nat) : Int) = 32) : c = 32 := by
  have h : (32 : UInt8).toNat = 32 := rfl
  exact UInt8.toNat_inj.1 (by omega)
theorem u123 {c : UInt8} (e : ((c.toNat : Nat) : Int) = 123) : c = 123 := by
  have h : (123 : UInt8).toNat = 123 := rfl
  exact UInt8.toNat_inj.1 (by omega)

/-! ### Replace, once -/
theorem index_none : ∀ (s : Str), (123 : UInt8) ∉ s → Lib.index s [123, 48, 125] = -1
  | [], _ => rfl
  | b :: l, h => by
    have hb : ¬ (123 : UInt8) = b := fun e => h (by rw [e]; exact List.mem_cons_self ..)
    have hp : ([123, 48, 125] : Str).isPrefixOf (b :: l) = false := by simp [List.isPrefixOf, hb]
    rw [Lib.index, hp, index_none l fun hm => h (List.mem_cons_of_mem _ hm)]
    rfl
theorem index_at : ∀ (a b : Str), (123 : UInt8) ∉ a → Lib.index (a ++ [123, 48, 125] ++ b) [123, 48, 125] = (a.length : Nat)
  | [], b, _ => by
    show Lib.index (123 :: 48 :: 125 :: b) [123, 48, 125] = 0
    rw [Lib.index]
    simp [List.isPrefixOf]
  | c :: a, b, h => by
    have hb : ¬ (123 : UInt8) = c := fun e => h (by rw [e]; exact List.mem_cons_self ..)
    have hp : ([123, 48, 125] : Str).isPrefixOf (c :: (a ++ [123, 48, 125] ++ b)) = false := by simp [List.isPrefixOf, hb]
    show Lib.index (c :: (a ++ [123, 48, 125] ++ b)) [123, 48, 125] = _
    rw [Lib.index, hp, index_at a b fun hm => h (List.mem_cons_of_mem _ hm)]
    have : (((a.length : Nat) : Int) == -1) = false := by rw [beq_eq_false_iff_ne]; omega
    rw [this]
    simp
theorem replace_none (s : Str) (h : (123 : UInt8) ∉ s) : Lib.replace s [123, 48, 125] [] 1 = s := by
  have hi := index_none s h
  unfold Lib.replace Lib.replaceNum
  rw [Lib.count_miss hi]
  rfl
theorem replace_at (a b : Str) (h : (123 : UInt8) ∉ a) : Lib.replace (a ++ [123, 48, 125] ++ b) [123, 48, 125] [] 1 = a ++ b := by
  have hi := index_at a b h
  have hc := Lib.count_hit (sub := [123, 48, 125]) (by simp) hi
  have hn : Lib.replaceNum (a ++ [123, 48, 125] ++ b) [123, 48, 125] 1 = 1 := by
    unfold Lib.replaceNum
    rw [if_neg (by rw [hc]; omega)]; rfl
  unfold Lib.replace
  rw [hn, Lib.replaceK_hit _ _ _ _ _ hi]
  have e : ([123, 48, 125] == ([] : Str)) = false := rfl
  rw [e]
  simp only [Bool.false_eq_true, if_false, List.append_nil]
  have h1 : (a ++ [123, 48, 125] ++ b).take a.length = a := by rw [List.append_assoc, List.take_left]
  have h2 : (a ++ [123, 48, 125] ++ b).drop (a.length + ([123, 48, 125] : Str).length) = b := by
    have : a.length + ([123, 48, 125] : Str).length = (a ++ [123, 48, 125] : Str).length := by simp
    rw [this, List.drop_left]
  rw [h1, h2]
  rfl
theorem replaceK_le (o : Str) : ∀ (k : Nat) (s : Str), (Lib.replaceK o [] k s).length ≤ s.length
  | 0, s => Nat.le_refl _
  | k + 1, s => by
    unfold Lib.replaceK
    split
    · exact Nat.le_refl _
    · have := replaceK_le o k (s.drop ((Lib.index s o).toNat + o.length))
      rw [List.length_drop] at this
      simp only [List.length_append, List.length_take, List.length_nil]
      omega
theorem replace_le (s : Str) : (Lib.replace s [123, 48, 125] [] 1).length ≤ s.length := by
  unfold Lib.replace
  split
  · exact Nat.le_refl _
  · exact replaceK_le _ _ _

/-! ### Trim -/
theorem trimR_some : ∀ (f : Nat) (s : Str), s.length < f → s.length ≤ 1000000 → ∃ r, loopK cname_L0 f (0, [.v (.str s), .v (.int .u8 32)]) = some (0, [.v (.str r)]) ∧ (∃ t, s = r ++ t) ∧ (r = [] ∨ ∃ h : r ≠ [], r.getLast h ≠ 32) ∧ ((∃ h : s ≠ [], s.getLast h ≠ 32) → r = s) := by
  intro f
  induction f with
  | zero => intro s h; omega
  | succ f ih =>
    intro s hf hl
    unfold loopK
    by_cases hne : s = []
    · subst hne
      exact ⟨[], by simp [cname_L0, sel, hV], ⟨[], rfl⟩, .inl rfl, fun _ => rfl⟩
    · have hpos : 0 < s.length := List.length_pos_iff.2 hne
      have hw := w64 (x := ((s.length : Nat) : Int) - 1) (by omega) (by omega)
      have hcut := cutL_to (xs := s) (n := ((s.length : Nat) : Int) - 1) (by omega) (by omega)
      have hn : (((s.length : Nat) : Int) - 1).toNat = s.length - 1 := by omega
      have hidx : idxL s (((s.length : Nat) : Int) - 1) = some (s.getLast hne) := by
        unfold idxL
        rw [if_neg (by omega), hn, List.getElem?_eq_getElem (by omega), List.getLast_eq_getElem]
      rw [hn] at hcut
      by_cases hb : s.getLast hne = 32
      · have step : cname_L0 (0, [.v (.str s), .v (.int .u8 32)]) = some (.inl (0, [.v (.str (s.take (s.length - 1))), .v (.int .u8 32)])) := by
          simp [cname_L0, sel, hV, hpos, hw, hidx, hb, hcut]
        rw [step]
        obtain ⟨r, h1, ⟨t, h2⟩, h3, h4⟩ := ih (s.take (s.length - 1)) (by rw [List.length_take]; omega) (by rw [List.length_take]; omega)
        refine ⟨r, h1, ⟨t ++ s.drop (s.length - 1), ?_⟩, h3, fun ⟨h, hx⟩ => absurd hb hx⟩
        rw [← List.append_assoc, ← h2, List.take_append_drop]
      · have hb' : ¬ ((s.getLast hne).toNat : Int) = 32 := fun e => hb (u32 e)
        have hbb : ((((s.getLast hne).toNat : Nat) : Int) == 32) = false := by rw [beq_eq_false_iff_ne]; exact hb'
        refine ⟨s, by simp [cname_L0, sel, hV, hpos, hw, hidx, hbb], ⟨[], (List.append_nil s).symm⟩, .inr ⟨hne, hb⟩, fun _ => rfl⟩

theorem trimL_some : ∀ (f : Nat) (s : Str), s.length < f → s.length ≤ 1000000 → ∃ r, loopK cname_L1 f (0, [.v (.str s), .v (.int .u8 32)]) = some (0, [.v (.str r)]) ∧ (∃ t, s = t ++ r) ∧ (r = [] ∨ ∃ h : r ≠ [], r.head h ≠ 32) ∧ ((∃ h : s ≠ [], s.head h ≠ 32) → r = s) := by
  intro f
  induction f with
  | zero => intro s h; omega
  | succ f ih =>
    intro s hf hl
    unfold loopK
    cases s with
    | nil => exact ⟨[], by simp [cname_L1, sel, hV], ⟨[], rfl⟩, .inl rfl, fun _ => rfl⟩
    | cons c s =>
      have hcut := cutL_from (xs := c :: s) (n := 1) (by omega) (by simp; omega)
      have hidx : idxL (c :: s) 0 = some c := rfl
      simp only [List.length_cons] at hf hl
      have hpos : decide (((((c :: s : Str).length : Nat) : Int)) > 0) = true := decide_eq_true (by simp only [List.length_cons]; omega)
      by_cases hb : c = 32
      · subst hb
        have step : cname_L1 (0, [.v (.str (32 :: s)), .v (.int .u8 32)]) = some (.inl (0, [.v (.str s), .v (.int .u8 32)])) := by
          simp only [cname_L1, sel, hV, List.getD_cons_zero, List.getD_cons_succ, asStr_str, asInt_int, Option.bind_some, hpos, cond_true, hidx, hcut]
          rfl
        rw [step]
        obtain ⟨r, h1, ⟨t, h2⟩, h3, h4⟩ := ih s (by omega) (by omega)
        exact ⟨r, h1, ⟨32 :: t, by rw [h2]; rfl⟩, h3, fun ⟨h, hx⟩ => absurd rfl hx⟩
      · have hb' : (((c.toNat : Nat) : Int) == 32) = false := by
          rw [beq_eq_false_iff_ne]
          exact fun e => hb (u32 e)
        refine ⟨c :: s, ?_, ⟨[], rfl⟩, .inr ⟨by simp, hb⟩, fun _ => rfl⟩
        simp only [cname_L1, sel, hV, List.getD_cons_zero, List.getD_cons_succ, asStr_str, asInt_int, Option.bind_some, hpos, cond_true, hidx, hb', cond_false]

/-- Without blanks at both ends: what is left, and that nothing happens to what has none. -/
theorem cname_some (s : Str) (hl : s.length ≤ 100000) : ∃ r, cname s = some r ∧ (∃ t u, Lib.replace s [123, 48, 125] [] 1 = t ++ r ++ u) ∧ (r = [] ∨ ∃ h : r ≠ [], r.head h ≠ 32 ∧ r.getLast h ≠ 32) ∧
    ((Lib.replace s [123, 48, 125] [] 1 = [] ∨ ∃ h : Lib.replace s [123, 48, 125] [] 1 ≠ [], (Lib.replace s [123, 48, 125] [] 1).head h ≠ 32 ∧ (Lib.replace s [123, 48, 125] [] 1).getLast h ≠ 32) → r = Lib.replace s [123, 48, 125] [] 1) := by
  have hrep : repl s [123, 48, 125] [] 1 = some (Lib.replace s [123, 48, 125] [] 1) := by
    unfold repl
    rw [if_neg (by simp; omega)]
  have hlen : (Lib.replace s [123, 48, 125] [] 1).length ≤ s.length := replace_le s
  unfold cname
  rw [hrep]
  simp only [Option.bind_some]
  generalize Lib.replace s [123, 48, 125] [] 1 = x at hlen
  by_cases hx : x = []
  · subst hx
    exact ⟨[], rfl, ⟨[], [], rfl⟩, .inl rfl, fun _ => rfl⟩
  · have hb : (x == []) = false := by simpa using hx
    rw [hb]
    obtain ⟨p, h1, ⟨t, h2⟩, h3, h4⟩ := trimR_some FU x (by unfold FU; omega) (by omega)
    have hp : p.length ≤ x.length := by rw [h2]; simp
    obtain ⟨q, h5, ⟨u, h6⟩, h7, h8⟩ := trimL_some FU p (by unfold FU; omega) (by omega)
    refine ⟨q, ?_, ⟨u, t, by rw [← h6, ← h2]⟩, ?_, fun h => ?_⟩
    · simp [h1, h5, sel, hV]
    · rcases h7 with h7 | ⟨hq, h7⟩
      · exact .inl h7
      · refine .inr ⟨hq, h7, ?_⟩
        have hpn : p ≠ [] := fun e => by rw [e] at h6; exact hq (List.append_eq_nil_iff.1 h6.symm).2
        rcases h3 with h3 | ⟨hp', h3⟩
        · exact absurd h3 hpn
        · have : p.getLast hp' = q.getLast hq := by
            subst h6
            exact List.getLast_append_of_ne_nil _ hq
          rw [← this]; exact h3
    · rcases h with h | ⟨hn, ha, hz⟩
      · exact absurd h hx
      · have e1 := h4 ⟨hn, hz⟩
        subst e1
        exact h8 ⟨hn, ha⟩
/-! ### The law -/
theorem idx_at (s : Str) (i : Nat) (h : i < s.length) : idxL s (i : Int) = some s[i] := by
  unfold idxL
  rw [if_neg (by omega), Int.toNat_natCast, List.getElem?_eq_getElem h]
theorem isBr (c : UInt8) : (((c.toNat : Nat) : Int) == 123) = (c == 123) := by
  by_cases h : c = 123
  · subst h; rfl
  · have h1 : (c == 123) = false := by simpa using h
    rw [h1, beq_eq_false_iff_ne]
    exact fun e => h (u123 e)
theorem has_eq (s : Str) (hl : s.length ≤ 100000) : has24 s = some (s.contains 123) := by
  have key : ∀ (f k : Nat), s.length - k < f → k ≤ s.length → loopK has24_L0 f (0, [.v (.str s), .v (.int .i64 (k : Int))]) = some (if (s.drop k).contains 123 then (0, [.v (.bool true)]) else (1, [])) := by
    intro f
    induction f with
    | zero => intro k h; omega
    | succ f ih =>
      intro k h hk
      unfold loopK
      by_cases hlt : k < s.length
      · have hd : decide ((k : Int) < ((s.length : Nat) : Int)) = true := decide_eq_true (by omega)
        have hw := w64 (x := (k : Int) + 1) (by omega) (by omega)
        have hdr : s.drop k = s[k] :: s.drop (k + 1) := List.drop_eq_getElem_cons hlt
        by_cases hb : s[k] = 123
        · have hb' : (s[k] == 123) = true := by simpa using hb
          have : has24_L0 (0, [.v (.str s), .v (.int .i64 (k : Int))]) = some (.inr (0, [.v (.bool true)])) := by
            simp only [has24_L0, sel, hV, List.getD_cons_zero, List.getD_cons_succ, asStr_str, asInt_int, Option.bind_some, hd, cond_true, idx_at s k hlt, isBr, hb']
          rw [this, hdr]
          simp [hb]
        · have hb' : (s[k] == 123) = false := by simpa using hb
          have : has24_L0 (0, [.v (.str s), .v (.int .i64 (k : Int))]) = some (.inl (0, [.v (.str s), .v (.int .i64 ((k + 1 : Nat) : Int))])) := by
            simp only [has24_L0, sel, hV, List.getD_cons_zero, List.getD_cons_succ, asStr_str, asInt_int, Option.bind_some, hd, cond_true, idx_at s k hlt, isBr, hb', cond_false, hw]
            rfl
          rw [this]
          simp only [Option.bind_some]
          rw [ih (k + 1) (by omega) (by omega), hdr]
          have : (s[k] :: s.drop (k + 1)).contains 123 = (s.drop (k + 1)).contains 123 := by
            rw [List.contains_cons]
            have : ((123 : UInt8) == s[k]) = false := by simpa using fun e => hb e.symm
            rw [this, Bool.false_or]
          rw [this]
      · have hd : decide ((k : Int) < ((s.length : Nat) : Int)) = false := decide_eq_false (by omega)
        have : has24_L0 (0, [.v (.str s), .v (.int .i64 (k : Int))]) = some (.inr (1, [])) := by
          simp only [has24_L0, sel, hV, List.getD_cons_zero, List.getD_cons_succ, asStr_str, asInt_int, Option.bind_some, hd, cond_false]
        rw [this, List.drop_eq_nil_of_le (by omega)]
        rfl
  have := key FU 0 (by unfold FU; omega) (Nat.zero_le _)
  rw [List.drop_zero] at this
  unfold has24
  have e : loopK has24_L0 FU (0, [.v (.str s), .v (.int .i64 0)]) = loopK has24_L0 FU (0, [.v (.str s), .v (.int .i64 ((0 : Nat) : Int))]) := rfl
  rw [e, this]
  cases s.contains 123 <;> rfl
theorem names_loop (s b : Str) (hl : s.length ≤ 100000) : ∀ (f k : Nat), s.length - k < f → k ≤ s.length → loopK lnames_L0 f (0, [.v (.str s), .v (.str b), .v (.int .i64 (k : Int))]) = some (if (s.drop k).contains 123 then (0, [.v (.bool true)]) else (1, [.v (.str s), .v (.str b)])) := by
  intro f
  induction f with
  | zero => intro k h; omega
  | succ f ih =>
    intro k h hk
    unfold loopK
    by_cases hlt : k < s.length
    · have hd : decide ((k : Int) < ((s.length : Nat) : Int)) = true := decide_eq_true (by omega)
      have hw := w64 (x := (k : Int) + 1) (by omega) (by omega)
      have hdr : s.drop k = s[k] :: s.drop (k + 1) := List.drop_eq_getElem_cons hlt
      by_cases hb : s[k] = 123
      · have hb' : (s[k] == 123) = true := by simpa using hb
        have : lnames_L0 (0, [.v (.str s), .v (.str b), .v (.int .i64 (k : Int))]) = some (.inr (0, [.v (.bool true)])) := by
          simp only [lnames_L0, sel, hV, List.getD_cons_zero, List.getD_cons_succ, asStr_str, asInt_int, Option.bind_some, hd, cond_true, idx_at s k hlt, isBr, hb']
        rw [this, hdr]
        simp [hb]
      · have hb' : (s[k] == 123) = false := by simpa using hb
        have : lnames_L0 (0, [.v (.str s), .v (.str b), .v (.int .i64 (k : Int))]) = some (.inl (0, [.v (.str s), .v (.str b), .v (.int .i64 ((k + 1 : Nat) : Int))])) := by
          simp only [lnames_L0, sel, hV, List.getD_cons_zero, List.getD_cons_succ, asStr_str, asInt_int, Option.bind_some, hd, cond_true, idx_at s k hlt, isBr, hb', cond_false, hw]
          rfl
        rw [this]
        simp only [Option.bind_some]
        rw [ih (k + 1) (by omega) (by omega), hdr]
        have : (s[k] :: s.drop (k + 1)).contains 123 = (s.drop (k + 1)).contains 123 := by
          rw [List.contains_cons]
          have : ((123 : UInt8) == s[k]) = false := by simpa using fun e => hb e.symm
          rw [this, Bool.false_or]
        rw [this]
    · have hd : decide ((k : Int) < ((s.length : Nat) : Int)) = false := decide_eq_false (by omega)
      have : lnames_L0 (0, [.v (.str s), .v (.str b), .v (.int .i64 (k : Int))]) = some (.inr (1, [.v (.str s), .v (.str b)])) := by
        simp only [lnames_L0, sel, hV, List.getD_cons_zero, List.getD_cons_succ, asStr_str, asInt_int, Option.bind_some, hd, cond_false]
      rw [this, List.drop_eq_nil_of_le (by omega)]
      rfl

theorem blank (c : UInt8) : (((c.toNat : Nat) : Int) != 32) = !(c == 32) := by
  unfold bne
  congr 1
  by_cases h : c = 32
  · subst h; rfl
  · have h1 : (c == 32) = false := by simpa using h
    rw [h1, beq_eq_false_iff_ne]
    exact fun e => h (u32 e)

/-- ComposeNames is true. -/
theorem lnames_true (a b : Str) : lnames a b = some true := by
  have haw : awake24 = some true := rfl
  unfold lnames
  rw [haw]
  simp only [Option.bind_some, Bool.not_true, cond_false]
  by_cases ha : a.length ≤ 60
  · by_cases hb : b.length ≤ 60
    · have d1 : decide (((a.length : Nat) : Int) > 60) = false := decide_eq_false (by omega)
      have d2 : decide (((b.length : Nat) : Int) > 60) = false := decide_eq_false (by omega)
      have hloop := names_loop a b (by omega) FU 0 (by unfold FU; omega) (Nat.zero_le _)
      rw [List.drop_zero] at hloop
      have hloop' : loopK lnames_L0 FU (0, [.v (.str a), .v (.str b), .v (.int .i64 0)]) = _ := hloop
      rw [d1, d2, hloop']
      simp only [cond_false, Option.bind_some]
      cases hbr : a.contains 123 with
      | true => rfl
      | false =>
        have hna : (123 : UInt8) ∉ a := fun hm => by rw [List.contains_iff_mem.2 hm] at hbr; cases hbr
        simp only [Bool.false_eq_true, if_false, sel, hV, List.getD_cons_zero, List.getD_cons_succ, asStr_str, Option.bind_some]
        have m1 : decide ((a.length + ([123, 48, 125] : Str).length) ≤ maxStr) = true := decide_eq_true (by unfold maxStr; simp; omega)
        have m2 : decide (((a ++ [123, 48, 125] : Str).length + b.length) ≤ maxStr) = true := decide_eq_true (by unfold maxStr; simp; omega)
        rw [m1, m2]
        simp only [chk_true]
        have hlen : (a ++ [123, 48, 125] ++ b).length ≤ 200 := by simp; omega
        obtain ⟨n, h1, ⟨t, u, h2⟩, h3, _⟩ := cname_some (a ++ [123, 48, 125] ++ b) (by omega)
        rw [replace_at a b hna] at h2
        have hnl : n.length ≤ a.length + b.length := by
          have := congrArg List.length h2
          simp only [List.length_append] at this
          omega
        have m3 : decide ((n.length + ([] : Str).length) ≤ maxStr) = true := decide_eq_true (by unfold maxStr; simp; omega)
        rw [h1]
        simp only [Option.bind_some]
        rw [m3]
        simp only [chk_true, List.append_nil]
        have hhas := has_eq b (by omega)
        obtain ⟨n2, g1, _, _, g4⟩ := cname_some n (by omega)
        rw [g1]
        simp only [Option.bind_some]
        have hle : decide (((n.length : Nat) : Int) ≤ IntKind.wrap .i64 (((a.length : Nat) : Int) + ((b.length : Nat) : Int))) = true := by
          rw [w64 (by omega) (by omega)]
          exact decide_eq_true (by omega)
        rw [hle, hhas]
        simp only [cond_true, Option.bind_some]
        cases hcb : b.contains 123 with
        | true =>
          -- the last word tells
          cases (n == n2)
          · rfl
          · simp only [cond_true]
            by_cases hn : n = []
            · have : (n == []) = true := by simpa using hn
              rw [this]; rfl
            · have : (n == []) = false := by simpa using hn
              have hpos : 0 < n.length := List.length_pos_iff.2 hn
              have i0 : idxL n 0 = some n[0] := idx_at n 0 hpos
              have hw : IntKind.wrap .i64 (((n.length : Nat) : Int) - 1) = ((n.length - 1 : Nat) : Int) := by rw [w64 (by omega) (by omega)]; omega
              rw [this, i0, hw, idx_at n (n.length - 1) (by omega)]
              simp only [cond_false, Option.bind_some]
              cases ((((n[0]).toNat : Nat) : Int) != 32)
              · rfl
              · simp only [cond_true]
                cases (((((n[n.length - 1]'(by omega)).toNat : Nat) : Int)) != 32) <;> rfl
        | false =>
          have hnb : (123 : UInt8) ∉ b := fun hm => by rw [List.contains_iff_mem.2 hm] at hcb; cases hcb
          have hnn : (123 : UInt8) ∉ n := fun hm => by
            have : (123 : UInt8) ∈ a ++ b := by rw [h2]; simp [hm]
            rcases List.mem_append.1 this with h | h
            · exact hna h
            · exact hnb h
          rw [replace_none n hnn] at g4
          have he : n2 = n := g4 h3
          subst he
          simp only [beq_self_eq_true, cond_true]
          by_cases hn : n2 = []
          · have : (n2 == []) = true := by simpa using hn
            rw [this]; rfl
          · have hf : (n2 == []) = false := by simpa using hn
            have hpos : 0 < n2.length := List.length_pos_iff.2 hn
            have i0 : idxL n2 0 = some n2[0] := idx_at n2 0 hpos
            have hw : IntKind.wrap .i64 (((n2.length : Nat) : Int) - 1) = ((n2.length - 1 : Nat) : Int) := by rw [w64 (by omega) (by omega)]; omega
            rw [hf, i0, hw, idx_at n2 (n2.length - 1) (by omega)]
            simp only [cond_false, Option.bind_some, blank]
            rcases h3 with h3 | ⟨_, h3, h4⟩
            · exact absurd h3 hn
            · have e1 : (n2[0] == 32) = false := by
                rw [List.head_eq_getElem] at h3
                simpa using h3
              have e2 : ((n2[n2.length - 1]'(by omega)) == 32) = false := by
                rw [List.getLast_eq_getElem] at h4
                simpa using h4
              rw [e1, e2]; rfl
    · have d1 : decide (((a.length : Nat) : Int) > 60) = false := decide_eq_false (by omega)
      have d2 : decide (((b.length : Nat) : Int) > 60) = true := decide_eq_true (by omega)
      rw [d1, d2]; rfl
  · have d1 : decide (((a.length : Nat) : Int) > 60) = true := decide_eq_true (by omega)
    rw [d1]; rfl
end Go.Proofs.YtmlhdhndjgdoaaaGreatDoor.cp
