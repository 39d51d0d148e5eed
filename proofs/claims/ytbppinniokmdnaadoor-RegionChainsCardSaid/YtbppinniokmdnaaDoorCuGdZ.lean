/- Plain laws: RegionWithin, RegionChains. -/
import Derived.Test.YtbppinniokmdnaaDoorCuGdY
namespace Go.Proofs.YtbppinniokmdnaaDoor.gd
open Go Go.Ev
set_option linter.unusedSimpArgs false

theorem rheavy_eq : rheavy = heavy := rfl
theorem awake15_true : awake15 = some true := by kernel_rfl

theorem go_w001 : goes w001 = false := by simp [goes]
/-- Within: of three places. -/
theorem within_laws {m : List (Str × Str)} {a b c : Str} {la lb : List Str} (ha : Chn m a la) (hb : Chn m b lb) (hab : b ∈ la ++ [w001]) :
    (c ∈ lb ++ [w001] → c ≠ w001 → c ∈ la ++ [w001]) ∧ (a ≠ b → a ∉ lb ++ [w001]) := by
  have wb : b = w001 → lb = [] := fun e => by
    subst e
    exact hb.det (.stop go_w001)
  have wa : a = w001 → la = [] := fun e => by
    subst e
    exact ha.det (.stop go_w001)
  rcases List.mem_append.1 hab with h1 | h1
  · obtain ⟨pre, l', e, h2⟩ := ha.tail_of b h1
    have := h2.det hb
    subst this
    refine ⟨fun hc hn => ?_, fun hne hm => ?_⟩
    · rcases List.mem_append.1 hc with h3 | h3
      · exact List.mem_append_left _ (by rw [e]; exact List.mem_append_right _ h3)
      · exact absurd (List.mem_singleton.1 h3) hn
    · rcases List.mem_append.1 hm with h3 | h3
      · obtain ⟨pre2, l2, e2, h4⟩ := h2.tail_of a h3
        have := h4.det ha
        subst this
        have hl := congrArg List.length e
        have hl2 := congrArg List.length e2
        simp only [List.length_append] at hl hl2
        have hp : pre = [] := List.length_eq_zero_iff.1 (by omega)
        subst hp
        simp only [List.nil_append] at e
        subst e
        cases ha with
        | stop _ => cases h3
        | step _ _ => cases h2 with
          | step _ _ => exact hne rfl
      · rw [wa (List.mem_singleton.1 h3)] at h1; cases h1
  · have e := List.mem_singleton.1 h1
    rw [wb e]
    exact ⟨fun hc hn => absurd (List.mem_singleton.1 hc) hn, fun hne hm => hne (by rw [e]; exact List.mem_singleton.1 hm)⟩

theorem lwithin_true {o : Option (List V)} (h : RowsT big big big o) (a b c : Str) : lwithin o a b c = some true := by
  obtain ⟨t, h1, h2⟩ := heavy_some h
  unfold lwithin
  rw [awake15_true, rheavy_eq]
  simp only [Option.bind_some, h1]
  cases t with
  | true => rfl
  | false =>
    obtain ⟨r, h3, h4⟩ := rload_some (h2 rfl)
    rw [h3]
    by_cases g1 : (20 : Int) < (a.length : Int)
    · simp [g1]
    by_cases g2 : (20 : Int) < (b.length : Int)
    · simp [g1, g2]
    by_cases g3 : (20 : Int) < (c.length : Int)
    · simp [g1, g2, g3]
    rcases h4 with ⟨m, lk, ha, hm, rfl⟩ | ⟨n, e, rfl, he⟩
    · obtain ⟨la, ca, na⟩ := ha.ch (by omega) a
      obtain ⟨lb, cb, nb⟩ := ha.ch (by omega) b
      have wa := rwithin_ch lk ca na
      have wb := rwithin_ch lk cb nb
      have hw : (w001 : Str) ∈ la ++ [w001] := by simp
      have w1 := wa w001
      rw [decide_eq_true hw] at w1
      have hi : (W2 m lk).isNone = false := rfl
      have key : (fun t : Option Bool => t = some true) ((rwithin (W2 m lk) a w001).bind fun x6 => cond x6 (cond (a == b) (some true) ((rwithin (W2 m lk) a b).bind fun x7 => cond (!x7) (some true) ((rwithin (W2 m lk) b a).bind fun x8 => some (!x8)))) (some false)) := by
        simp only [w1, Option.bind_some, cond_true]
        by_cases e : a = b
        · simp [e]
        · have eb : (a == b) = false := by simpa using e
          simp only [eb, cond_false, wa b, Option.bind_some]
          by_cases hab : b ∈ la ++ [w001]
          · have := (within_laws (c := c) ca cb hab).2 e
            rw [decide_eq_true hab, wb a, decide_eq_false this]; rfl
          · rw [decide_eq_false hab]; rfl
      simp only [g1, g2, g3, gt_iff_lt, decide_false, cond_false, hi, Option.bind_some, bne_self_eq_false, cond_true, Bool.not_true]
      by_cases hab : b ∈ la ++ [w001]
      · rw [wa b, decide_eq_true hab]
        simp only [Option.bind_some, cond_true]
        by_cases hbc : c ∈ lb ++ [w001]
        · rw [wb c, decide_eq_true hbc]
          simp only [Option.bind_some, cond_true]
          by_cases hac : c ∈ la ++ [w001]
          · rw [wa c, decide_eq_true hac]
            simp only [Option.bind_some, Bool.not_true, cond_false]
            have := key
            rw [wa b, decide_eq_true hab] at this
            exact this
          · have e : c = w001 := Classical.byContradiction fun hn => hac ((within_laws ca cb hab).1 hbc hn)
            exact absurd (by rw [e]; exact hw) hac
        · rw [wb c, decide_eq_false hbc]
          simp only [Option.bind_some, cond_false]
          have := key
          rw [wa b, decide_eq_true hab] at this
          exact this
      · rw [wa b, decide_eq_false hab]
        simp only [Option.bind_some, cond_false]
        have := key
        rw [wa b, decide_eq_false hab] at this
        exact this
    · have : (e != 0) = true := by simpa using he
      simp [g1, g2, g3, this]
end Go.Proofs.YtbppinniokmdnaaDoor.gd
