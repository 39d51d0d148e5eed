/- Plain law: LocaleBack answers true, whatever the text. -/
import Derived.Test.YtiniebodbanmnaaDoorCuLcW
namespace Go.Proofs.YtiniebodbanmnaaDoor.lc
open Go Go.Ev Go.Ev.Loc
set_option maxRecDepth 100000
set_option linter.unusedSimpArgs false
set_option linter.unnecessarySimpa false
set_option linter.unusedVariables false

theorem parse_fine {ws : List Str} {x : Locale} (h : parseB ws = some x) : langB x.lang = true ∧ (x.region = [] ∨ regB x.region = true) ∧ Fine x.liked := by
  cases ws with
  | nil => cases h
  | cons w r =>
    have hl : langB w = true := by
      cases hb : langB w with
      | true => rfl
      | false => cases r <;> simp [parseB, hb] at h
    cases r with
    | nil =>
      rw [parse_nil, if_pos hl] at h
      obtain ⟨h1, h2, h3, _⟩ := tail_back h
      exact ⟨by rw [h1]; exact hl, .inl h2, h3⟩
    | cons a t =>
      rw [parse_cons, if_pos hl] at h
      split at h
      · rename_i hr
        obtain ⟨h1, h2, h3, _⟩ := tail_back h
        exact ⟨by rw [h1]; exact hl, .inr (by rw [h2]; exact hr), h3⟩
      · obtain ⟨h1, h2, h3, _⟩ := tail_back h
        exact ⟨by rw [h1]; exact hl, .inl h2, h3⟩

theorem nodash {s set : Str} {a b : Nat} (h : ofB s set a b = true) (hs : (45 : UInt8) ∉ set) : (45 : UInt8) ∉ s := by
  obtain ⟨_, _, h3⟩ := ofB_len h
  intro hm
  exact hs (List.contains_iff_mem.1 (List.all_eq_true.1 h3 45 hm))
theorem nd_small : (45 : UInt8) ∉ small := by decide
theorem nd_great : (45 : UInt8) ∉ great := by decide
theorem nd_digits : (45 : UInt8) ∉ digits := by decide
theorem nd_two {s : Str} {p q : Str} {a b c d : Nat} (h : (ofB s p a b || ofB s q c d) = true) (hp : (45 : UInt8) ∉ p) (hq : (45 : UInt8) ∉ q) : (45 : UInt8) ∉ s := by
  rcases Bool.or_eq_true_iff.1 h with h | h
  · exact nodash h hp
  · exact nodash h hq
theorem nd_ms {s : Str} (h : isMS s = true) : (45 : UInt8) ∉ s ∧ s.length ≤ 10 := by
  unfold isMS at h
  simp only [Bool.or_eq_true, beq_iff_eq] at h
  rcases h with rfl | rfl | rfl <;> decide
theorem nd_mu {s : Str} (h : isMU s = true) : (45 : UInt8) ∉ s ∧ s.length ≤ 10 := by
  unfold isMU at h
  simp only [Bool.or_eq_true, beq_iff_eq] at h
  rcases h with rfl | rfl | rfl <;> decide
theorem len_two {s : Str} {p q : Str} {a c b d : Nat} (h : (ofB s p a b || ofB s q c d) = true) (hb : b ≤ 10) (hd : d ≤ 10) : s.length ≤ 10 := by
  rcases Bool.or_eq_true_iff.1 h with h | h
  · have := (ofB_len h).2.1; omega
  · have := (ofB_len h).2.1; omega

theorem canon_words {x : Locale} (h1 : langB x.lang = true) (h2 : x.region = [] ∨ regB x.region = true) (h3 : Fine x.liked) : ∀ w ∈ Loc.canon x, (45 : UInt8) ∉ w := by
  obtain ⟨lang, region, rg, ms, mu⟩ := x
  obtain ⟨g1, g2, g3⟩ := h3
  simp only at h1 h2 g1 g2 g3
  have n1 : (45 : UInt8) ∉ lang := nodash h1 nd_small
  intro w hw
  unfold Loc.canon pairs at hw
  simp only [List.mem_cons, List.mem_append] at hw
  rcases hw with rfl | hw | hw
  · exact n1
  · split at hw
    · cases hw
    · rename_i hr
      simp only [List.mem_cons, List.not_mem_nil, or_false] at hw
      subst hw
      exact nd_two (h2.resolve_left hr) nd_great nd_digits
  · split at hw
    · cases hw
    · simp only [List.mem_cons, List.mem_append] at hw
      rcases hw with rfl | hw | hw | hw
      · decide
      · split at hw
        · cases hw
        · rename_i hr
          simp only [List.mem_cons, List.not_mem_nil, or_false] at hw
          rcases hw with rfl | rfl
          · decide
          · have := nd_two (down_ok (g1.resolve_left hr)).1 nd_small nd_digits
            intro hm
            rcases List.mem_append.1 hm with hm | hm
            · exact this hm
            · revert hm; decide
      · split at hw
        · cases hw
        · rename_i hr
          simp only [List.mem_cons, List.not_mem_nil, or_false] at hw
          rcases hw with rfl | rfl
          · decide
          · exact (nd_ms (g2.resolve_left hr)).1
      · split at hw
        · cases hw
        · rename_i hr
          simp only [List.mem_cons, List.not_mem_nil, or_false] at hw
          rcases hw with rfl | rfl
          · decide
          · exact (nd_mu (g3.resolve_left hr)).1

theorem join_len (c : UInt8) : ∀ (ws : List Str), ws ≠ [] → (joinC c ws).length + 1 = wlen ws
  | [], h => absurd rfl h
  | [w], _ => by simp [joinC, wlen]
  | w :: v :: r, _ => by
    have := join_len c (v :: r) (by simp)
    rw [wlen_cons, ← this]
    simp [joinC]; omega
theorem cutAt_wlen (c : UInt8) (s : Str) : wlen (cutAt c s) = s.length + 1 := by
  rw [← join_len c _ (cutAt_ne c s), join_cutAt]

theorem chk_le {β : Type} {n m : Nat} (h : n ≤ m) (k : Option β) : chk (decide (n ≤ m)) k = k := by rw [decide_eq_true h]; rfl

/-- What is written: the words joined. -/
theorem lwrite_eq (lang region rg ms mu : Str) (h1 : lang.length ≤ 10) (h2 : region.length ≤ 10) (h3 : rg = [] ∨ okRG rg = true) (h4 : ms.length ≤ 10) (h5 : mu.length ≤ 10) :
    lwrite lang region rg ms mu = some (joinC 45 (Loc.canon ⟨lang, region, rg, ms, mu⟩)) := by
  have hm : maxStr = 9223372036854775807 := rfl
  have lr : rg.length ≤ 10 := by
    rcases h3 with rfl | h3
    · simp
    · exact len_two h3 (by omega) (by omega)
  have hd : (down rg).length = rg.length := by unfold down; rw [List.length_map]
  have hlw : rg ≠ [] → lwr rg = some (down rg) := fun h => lwr_eq (h3.resolve_left h)
  have ie : ∀ t : Str, t ≠ [] → List.isEmpty t = false := fun t ht => by cases t with | nil => exact absurd rfl ht | cons _ _ => rfl
  have ia : ∀ t : Str, t ≠ [] → ∀ u : Str, List.isEmpty (t ++ u) = false := fun t ht u => by cases t with | nil => exact absurd rfl ht | cons _ _ => rfl
  unfold lwrite
  by_cases e1 : region = []
  · by_cases e2 : rg = []
    · by_cases e3 : ms = []
      · by_cases e4 : mu = []
        · subst e1 e2 e3 e4
          simp [Loc.canon, joinC, pairs, maxStr, chk_le]
        · subst e1 e2 e3
          simp only [List.length_append, List.length_cons, List.length_nil, List.nil_append, hm]
          simp (disch := omega) only [chk_le]
          simp [e4, Loc.canon, joinC, pairs, kMU, ie _ e4, ia _ e4]
      · by_cases e4 : mu = []
        · subst e1 e2 e4
          simp only [List.length_append, List.length_cons, List.length_nil, List.nil_append, hm]
          simp (disch := omega) only [chk_le]
          simp [e3, Loc.canon, joinC, pairs, kMS, ie _ e3, ia _ e3]
        · subst e1 e2
          simp only [List.length_append, List.length_cons, List.length_nil, List.nil_append, hm]
          simp (disch := omega) only [chk_le]
          simp [e3, e4, Loc.canon, joinC, pairs, kMS, kMU, ie _ e3, ia _ e3, ie _ e4, ia _ e4]
    · have hl := hlw e2
      by_cases e3 : ms = []
      · by_cases e4 : mu = []
        · subst e1 e3 e4
          simp only [hl, Option.bind_some, List.length_append, List.length_cons, List.length_nil, List.nil_append, hm, hd]
          simp (disch := omega) only [chk_le]
          simp [e2, Loc.canon, joinC, pairs, kRG, rest, ie _ e2, ia _ e2]
        · subst e1 e3
          simp only [hl, Option.bind_some, List.length_append, List.length_cons, List.length_nil, List.nil_append, hm, hd]
          simp (disch := omega) only [chk_le]
          simp [e2, e4, Loc.canon, joinC, pairs, kRG, kMU, rest, ie _ e2, ia _ e2, ie _ e4, ia _ e4]
      · by_cases e4 : mu = []
        · subst e1 e4
          simp only [hl, Option.bind_some, List.length_append, List.length_cons, List.length_nil, List.nil_append, hm, hd]
          simp (disch := omega) only [chk_le]
          simp [e2, e3, Loc.canon, joinC, pairs, kRG, kMS, rest, ie _ e2, ia _ e2, ie _ e3, ia _ e3]
        · subst e1
          simp only [hl, Option.bind_some, List.length_append, List.length_cons, List.length_nil, List.nil_append, hm, hd]
          simp (disch := omega) only [chk_le]
          simp [e2, e3, e4, Loc.canon, joinC, pairs, kRG, kMS, kMU, rest, ie _ e2, ia _ e2, ie _ e3, ia _ e3, ie _ e4, ia _ e4]
  · by_cases e2 : rg = []
    · by_cases e3 : ms = []
      · by_cases e4 : mu = []
        · subst e2 e3 e4
          simp only [List.length_append, List.length_cons, List.length_nil, List.nil_append, hm]
          simp (disch := omega) only [chk_le]
          simp [e1, Loc.canon, joinC, pairs, kMU, ie _ e1, ia _ e1]
        · subst e2 e3
          simp only [List.length_append, List.length_cons, List.length_nil, List.nil_append, hm]
          simp (disch := omega) only [chk_le]
          simp [e1, e4, Loc.canon, joinC, pairs, kMU, ie _ e1, ia _ e1, ie _ e4, ia _ e4]
      · by_cases e4 : mu = []
        · subst e2 e4
          simp only [List.length_append, List.length_cons, List.length_nil, List.nil_append, hm]
          simp (disch := omega) only [chk_le]
          simp [e1, e3, Loc.canon, joinC, pairs, kMS, ie _ e1, ia _ e1, ie _ e3, ia _ e3]
        · subst e2
          simp only [List.length_append, List.length_cons, List.length_nil, List.nil_append, hm]
          simp (disch := omega) only [chk_le]
          simp [e1, e3, e4, Loc.canon, joinC, pairs, kMS, kMU, ie _ e1, ia _ e1, ie _ e3, ia _ e3, ie _ e4, ia _ e4]
    · have hl := hlw e2
      by_cases e3 : ms = []
      · by_cases e4 : mu = []
        · subst e3 e4
          simp only [hl, Option.bind_some, List.length_append, List.length_cons, List.length_nil, List.nil_append, hm, hd]
          simp (disch := omega) only [chk_le]
          simp [e1, e2, Loc.canon, joinC, pairs, kRG, rest, ie _ e1, ia _ e1, ie _ e2, ia _ e2]
        · subst e3
          simp only [hl, Option.bind_some, List.length_append, List.length_cons, List.length_nil, List.nil_append, hm, hd]
          simp (disch := omega) only [chk_le]
          simp [e1, e2, e4, Loc.canon, joinC, pairs, kRG, kMU, rest, ie _ e1, ia _ e1, ie _ e2, ia _ e2, ie _ e4, ia _ e4]
      · by_cases e4 : mu = []
        · subst e4
          simp only [hl, Option.bind_some, List.length_append, List.length_cons, List.length_nil, List.nil_append, hm, hd]
          simp (disch := omega) only [chk_le]
          simp [e1, e2, e3, Loc.canon, joinC, pairs, kRG, kMS, rest, ie _ e1, ia _ e1, ie _ e2, ia _ e2, ie _ e3, ia _ e3]
        · simp only [hl, Option.bind_some, List.length_append, List.length_cons, List.length_nil, List.nil_append, hm, hd]
          simp (disch := omega) only [chk_le]
          simp [e1, e2, e3, e4, Loc.canon, joinC, pairs, kRG, kMS, kMU, rest, ie _ e1, ia _ e1, ie _ e2, ia _ e2, ie _ e3, ia _ e3, ie _ e4, ia _ e4]

/-- LocaleBack is true. -/
theorem lback_true (s : Str) : lback s = some true := by
  have haw : awake14 = some true := rfl
  unfold lback
  rw [haw]
  simp only [Option.bind_some, Bool.not_true, cond_false]
  by_cases hs : s.length ≤ 200
  · have d : decide (((s.length : Nat) : Int) > 200) = false := decide_eq_false (by omega)
    rw [d, lparse_eq s (by omega)]
    simp only [cond_false, Option.bind_some]
    cases hp : parseB (cutAt 45 s) with
    | none => rfl
    | some x =>
      obtain ⟨f1, f2, f3⟩ := parse_fine hp
      obtain ⟨b1, b2⟩ := back hp
      have l1 : x.lang.length ≤ 10 := by have := (ofB_len f1).2.1; omega
      have l2 : x.region.length ≤ 10 := by
        rcases f2 with h | h
        · rw [h]; simp
        · exact len_two h (by omega) (by omega)
      have l4 : x.liked.ms.length ≤ 10 := by
        rcases f3.ms with h | h
        · rw [h]; simp
        · exact (nd_ms h).2
      have l5 : x.liked.mu.length ≤ 10 := by
        rcases f3.mu with h | h
        · rw [h]; simp
        · exact (nd_mu h).2
      have hw := lwrite_eq x.lang x.region x.liked.rg x.liked.ms x.liked.mu l1 l2 f3.rg l4 l5
      have hne : Loc.canon x ≠ [] := by unfold Loc.canon; simp
      have hlen : (joinC 45 (Loc.canon x)).length = s.length := by
        have h1 := join_len 45 (Loc.canon x) hne
        have h2 := cutAt_wlen 45 s
        omega
      have hcut : cutAt 45 (joinC 45 (Loc.canon x)) = Loc.canon x := cutAt_join 45 _ hne (canon_words f1 f2 f3)
      have hq : lparse (joinC 45 (Loc.canon x)) = some (encP (some x)) := by
        rw [lparse_eq _ (by omega), hcut, b1]
      have hw' : lwrite x.lang x.region x.liked.rg x.liked.ms x.liked.mu = some (joinC 45 (Loc.canon x)) := hw
      have hg : lgood x.lang x.region x.liked.rg x.liked.ms x.liked.mu = some true := by
        unfold lgood
        rw [hw']
        simp only [Option.bind_some, hq, encP]
        simp
      have hsh : lshow x.lang x.region x.liked.rg x.liked.ms x.liked.mu = some (joinC 45 (Loc.canon x)) := by
        unfold lshow
        rw [hg, hw']; rfl
      simp only [encP, hsh, hg, hq, Option.bind_some, hlen]
      simp
  · have d : decide (((s.length : Nat) : Int) > 200) = true := decide_eq_true (by omega)
    rw [d]; rfl
end Go.Proofs.YtiniebodbanmnaaDoor.lc
