/- Plain laws: strings.Split at one byte; words joined again. -/
import Derived.Test.YtiniebodbanmnaaDoorCuLp
import Derived.Lib.SplitLaws
namespace Go.Ev
open Go

/-- A text cut at each byte c. -/
def cutAt (c : UInt8) : List UInt8 → List (List UInt8)
  | [] => [[]]
  | b :: l => if b = c then [] :: cutAt c l else match cutAt c l with
    | [] => [[b]]
    | w :: r => (b :: w) :: r

theorem split_cutAt (c : UInt8) : ∀ s : List UInt8, Lib.split s [c] = cutAt c s
  | [] => by
    have h : Lib.index ([] : List UInt8) [c] = -1 := by simp [Lib.index]
    show Lib.splitK [c] 0 (Lib.count [] [c]) [] = _
    rw [Lib.count_miss h]; rfl
  | b :: l => by
    have ih := split_cutAt c l
    unfold Lib.split at ih ⊢
    by_cases h : b = c
    · subst h
      have hix : Lib.index (b :: l) [b] = ((0 : Nat) : Int) := by rw [Lib.index]; simp [List.isPrefixOf]
      rw [Lib.count_cons_eq, Nat.add_comm]
      simp only [Lib.splitK, hix]
      rw [cutAt, if_pos rfl, ← ih]
      rfl
    · rw [Lib.count_cons_ne b c l h, cutAt, if_neg h, ← ih]
      have hp : ([c] : List UInt8).isPrefixOf (b :: l) = false := by simp [List.isPrefixOf, Ne.symm h]
      have hix : Lib.index (b :: l) [c] = if Lib.index l [c] == -1 then -1 else Lib.index l [c] + 1 := by rw [Lib.index, hp]; simp
      by_cases hm : Lib.index l [c] = -1
      · rw [Lib.count_miss hm]; rfl
      · have hge := Lib.index_ge l [c]
        obtain ⟨j, hj⟩ : ∃ j : Nat, Lib.index l [c] = j := ⟨(Lib.index l [c]).toNat, by omega⟩
        have hix' : Lib.index (b :: l) [c] = ((j + 1 : Nat) : Int) := by rw [hix, if_neg (fun e => hm (beq_iff_eq.1 e)), hj]; omega
        rw [Lib.count_hit (by simp) hj, Nat.add_comm]
        simp only [Lib.splitK, hix', hj]
        have e1 : (((j + 1 : Nat) : Int) == -1) = false := by rw [beq_eq_false_iff_ne]; omega
        have e2 : (((j : Nat) : Int) == -1) = false := by rw [beq_eq_false_iff_ne]; omega
        rw [e1, e2]
        simp

/-- Words with a byte between. -/
def joinC (c : UInt8) : List (List UInt8) → List UInt8
  | [] => []
  | [w] => w
  | w :: r => w ++ c :: joinC c r

theorem cutAt_word (c : UInt8) (w : List UInt8) (h : c ∉ w) : cutAt c w = [w] := by
  induction w with
  | nil => rfl
  | cons b l ih =>
    have hb : ¬ b = c := fun e => h (by rw [e]; exact List.mem_cons_self ..)
    rw [cutAt, if_neg hb, ih fun hm => h (List.mem_cons_of_mem _ hm)]

theorem cutAt_app (c : UInt8) (w : List UInt8) (s : List UInt8) (h : c ∉ w) : cutAt c (w ++ c :: s) = w :: cutAt c s := by
  induction w with
  | nil => simp [cutAt]
  | cons b l ih =>
    have hb : ¬ b = c := fun e => h (by rw [e]; exact List.mem_cons_self ..)
    rw [List.cons_append, cutAt, if_neg hb, ih fun hm => h (List.mem_cons_of_mem _ hm)]

/-- Words without the byte, joined, cut: the words. -/
theorem cutAt_join (c : UInt8) : ∀ (ws : List (List UInt8)), ws ≠ [] → (∀ w ∈ ws, c ∉ w) → cutAt c (joinC c ws) = ws
  | [], h, _ => absurd rfl h
  | [w], _, h => cutAt_word c w (h w (List.mem_cons_self ..))
  | w :: v :: r, _, h => by
    rw [joinC, cutAt_app c w _ (h w (List.mem_cons_self ..)), cutAt_join c (v :: r) (by simp) fun x hx => h x (List.mem_cons_of_mem _ hx)]
    simp

theorem cutAt_ne (c : UInt8) (s : List UInt8) : cutAt c s ≠ [] := by
  cases s with
  | nil => simp [cutAt]
  | cons b l =>
    rw [cutAt]
    split
    · simp
    · split <;> simp

/-- A text cut, joined: the text. -/
theorem join_cutAt (c : UInt8) (s : List UInt8) : joinC c (cutAt c s) = s := by
  induction s with
  | nil => rfl
  | cons b l ih =>
    rw [cutAt]
    split
    · rename_i h
      subst h
      cases hc : cutAt b l with
      | nil => exact absurd hc (cutAt_ne b l)
      | cons w r => rw [hc] at ih; simp [joinC, ih]
    · cases hc : cutAt c l with
      | nil => exact absurd hc (cutAt_ne c l)
      | cons w r =>
        rw [hc] at ih
        cases r with
        | nil => simp only [joinC] at ih ⊢; rw [ih]
        | cons v r => simp only [joinC, List.cons_append] at ih ⊢; rw [ih]

theorem cutAt_words (c : UInt8) (s : List UInt8) : ∀ w ∈ cutAt c s, c ∉ w := by
  induction s with
  | nil => intro w hw; simp [cutAt] at hw; subst hw; simp
  | cons b l ih =>
    intro w hw
    rw [cutAt] at hw
    split at hw
    · rcases List.mem_cons.1 hw with rfl | hw
      · simp
      · exact ih w hw
    · rename_i hb
      cases hc : cutAt c l with
      | nil => exact absurd hc (cutAt_ne c l)
      | cons v r =>
        rw [hc] at hw ih
        rcases List.mem_cons.1 hw with rfl | hw
        · have := ih v (List.mem_cons_self ..)
          intro hm
          rcases List.mem_cons.1 hm with e | hm
          · exact hb e.symm
          · exact this hm
        · exact ih w (List.mem_cons_of_mem _ hw)
end Go.Ev
