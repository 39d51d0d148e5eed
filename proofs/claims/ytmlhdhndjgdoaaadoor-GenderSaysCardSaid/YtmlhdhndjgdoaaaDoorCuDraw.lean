/- Regions whose order is open: every order comes to what the list's own order comes to. -/
import Derived.Test.YtmlhdhndjgdoaaaDoorCuFn
import Derived.Orders
namespace Go.Ev

/-! ### States of a part of the operations -/
def stE (E : Nat → Bool) : List DStep → Nat → St → St
  | [], _, st => st
  | d :: r, i, st => stE E r (i + 1) (if E i then ⟨put st.fr d.dst d.sv, merge d.wr 0 st.objs d.objs⟩ else ⟨st.fr, st.objs ++ List.replicate (d.objs.length - d.n) none⟩)

def curO (E : Nat → Bool) (k : Nat) : List DStep → Nat → Option LObj → Option LObj
  | [], _, o => o
  | d :: r, i, o => curO E k r (i + 1) (if E i = true ∧ k ∈ d.wr then obj d.objs k else o)

def curS (E : Nat → Bool) (t : Nat) : List DStep → Nat → SV → SV
  | [], _, v => v
  | d :: r, i, v => curS E t r (i + 1) (if E i = true ∧ d.dst = some t then d.sv else v)

def Chain : List DStep → Nat → Prop
  | [], _ => True
  | d :: r, n => d.n = n ∧ ((d.objs = [] ∧ d.wr = []) ∨ (n ≤ d.objs.length ∧ (∀ k ∈ d.wr, k < d.objs.length) ∧ ∀ k, n ≤ k → k < d.objs.length → k ∈ d.wr)) ∧ Chain r (max n d.objs.length)

theorem ix (i j : Nat) : i + (j + 1) = i + 1 + j := by omega

theorem merge_spec (wr : List Nat) : ∀ (os news : Objs) (i : Nat), (os.length ≤ news.length ∨ (news = [] ∧ wr = [])) → (merge wr i os news).length = max os.length news.length ∧
    ∀ k, obj (merge wr i os news) k = if k < os.length then (if wr.contains (i + k) then obj news k else obj os k) else obj news k := by
  intro os
  induction os with
  | nil =>
    intro news i h
    cases news with
    | nil => simp [merge, obj]
    | cons y news => simp [merge]
  | cons x os ih =>
    intro news i h
    cases news with
    | nil =>
      rcases h with h | h
      · simp at h
      · obtain ⟨_, rfl⟩ := h
        simp only [merge]
        refine ⟨by simp, fun k => ?_⟩
        by_cases hk : k < (x :: os).length
        · rw [if_pos hk]; simp
        · rw [if_neg hk]
          unfold obj
          rw [List.getElem?_eq_none (Nat.le_of_not_lt hk)]
          simp
    | cons y news =>
      have h' : os.length ≤ news.length ∨ (news = [] ∧ wr = []) := by
        rcases h with h | h
        · exact .inl (by simpa using h)
        · cases h.1
      obtain ⟨h1, h2⟩ := ih news (i + 1) h'
      simp only [merge]
      refine ⟨by simp only [List.length_cons, h1]; omega, fun k => ?_⟩
      cases k with
      | zero =>
        simp only [List.length_cons, Nat.zero_lt_succ, if_true, Nat.add_zero]
        by_cases hc : wr.contains i = true
        · rw [if_pos hc, if_pos hc]; simp [obj]
        · rw [if_neg hc, if_neg hc]; simp [obj]
      | succ k =>
        have e1 : ∀ (a : Option LObj) (l : Objs), obj (a :: l) (k + 1) = obj l k := fun a l => by simp [obj]
        rw [e1, h2 k]
        simp only [List.length_cons, Nat.add_lt_add_iff_right, e1]
        have : i + 1 + k = i + (k + 1) := by omega
        rw [this]

theorem obj_none_of_ge {os : Objs} {k : Nat} (h : os.length ≤ k) : obj os k = none := by
  unfold obj; rw [List.getElem?_eq_none h]

theorem obj_append_none {os : Objs} {m k : Nat} : obj (os ++ List.replicate m none) k = obj os k := by
  by_cases h : k < os.length
  · exact obj_append_left _ h
  · rw [obj_none_of_ge (Nat.le_of_not_lt h)]
    unfold obj
    rw [List.getElem?_append_right (Nat.le_of_not_lt h), List.getElem?_replicate]
    split <;> simp_all

def lastN : List DStep → Nat → Nat
  | [], n => n
  | d :: r, n => lastN r (max n d.objs.length)

theorem step_obj {d : DStep} {os : Objs} (hn : d.n = os.length) (hc : (d.objs = [] ∧ d.wr = []) ∨ (os.length ≤ d.objs.length ∧ (∀ k ∈ d.wr, k < d.objs.length) ∧ ∀ k, os.length ≤ k → k < d.objs.length → k ∈ d.wr)) :
    (merge d.wr 0 os d.objs).length = max os.length d.objs.length ∧ (os ++ List.replicate (d.objs.length - d.n) none).length = max os.length d.objs.length ∧ ∀ k, obj (merge d.wr 0 os d.objs) k = if k ∈ d.wr then obj d.objs k else obj os k := by
  have hm := merge_spec d.wr os d.objs 0 (by rcases hc with h | h; exact .inr h; exact .inl h.1)
  refine ⟨hm.1, by simp [hn]; omega, fun k => ?_⟩
  rw [hm.2 k]
  simp only [Nat.zero_add, List.contains_iff_mem]
  by_cases hk : k < os.length
  · rw [if_pos hk]
  · rw [if_neg hk]
    by_cases hw : k ∈ d.wr
    · rw [if_pos hw]
    · rw [if_neg hw, obj_none_of_ge (Nat.le_of_not_lt hk)]
      rcases hc with ⟨h1, _⟩ | ⟨_, _, h3⟩
      · rw [h1]; simp [obj]
      · refine obj_none_of_ge ?_
        rcases Nat.lt_or_ge k d.objs.length with h | h
        · exact absurd (h3 k (Nat.le_of_not_lt hk) h) hw
        · exact h

theorem nth_put (fr : List SV) (dst : Option Nat) (v : SV) (t : Nat) : nth (put fr dst v) t = if t < fr.length then (if dst = some t then v else nth fr t) else .undef := by
  have h0 : ∀ (fr : List SV), ¬ t < fr.length → nth fr t = .undef := fun fr h => by rw [nth_eq, List.getD_eq_getElem?_getD, List.getElem?_eq_none (Nat.le_of_not_lt h)]; rfl
  by_cases ht : t < fr.length
  · rw [if_pos ht]
    cases dst with
    | none => simp [put]
    | some d =>
      simp only [put, Option.some.injEq]
      rw [nth_eq, nth_eq, List.getD_eq_getElem?_getD, List.getD_eq_getElem?_getD]
      by_cases hd : d = t
      · subst hd; simp [ht]
      · rw [if_neg hd, List.getElem?_set_ne hd]
  · rw [if_neg ht]
    exact h0 _ (by rw [put_length]; exact ht)

theorem stE_spec (E : Nat → Bool) : ∀ (ds : List DStep) (i : Nat) (st : St), Chain ds st.objs.length →
    (∀ k, obj (stE E ds i st).objs k = curO E k ds i (obj st.objs k)) ∧ (stE E ds i st).objs.length = lastN ds st.objs.length ∧
    (∀ t, nth (stE E ds i st).fr t = if t < st.fr.length then curS E t ds i (nth st.fr t) else .undef) ∧ (stE E ds i st).fr.length = st.fr.length := by
  intro ds
  induction ds with
  | nil =>
    intro i st _
    refine ⟨fun k => rfl, rfl, fun t => ?_, rfl⟩
    simp only [stE, curS]
    split
    · rfl
    · rename_i h; rw [nth_eq, List.getD_eq_getElem?_getD, List.getElem?_eq_none (Nat.le_of_not_lt h)]; rfl
  | cons d r ih =>
    intro i st hch
    obtain ⟨hn, hc, hr⟩ := hch
    obtain ⟨s1, s2, s3⟩ := step_obj hn hc
    simp only [stE, curO, curS, lastN]
    cases hE : E i with
    | true =>
      simp only [if_true, true_and]
      obtain ⟨h1, h2, h3, h4⟩ := ih (i + 1) ⟨put st.fr d.dst d.sv, merge d.wr 0 st.objs d.objs⟩ (by simp only [s1]; exact hr)
      refine ⟨fun k => ?_, by rw [h2]; simp only [s1], fun t => ?_, by rw [h4]; simp [put_length]⟩
      · rw [h1 k]; simp only [s3]
      · rw [h3 t]; simp only [put_length]
        by_cases ht : t < st.fr.length
        · rw [if_pos ht, if_pos ht, nth_put, if_pos ht]
        · rw [if_neg ht, if_neg ht]
    | false =>
      simp only [Bool.false_eq_true, if_false, false_and]
      obtain ⟨h1, h2, h3, h4⟩ := ih (i + 1) ⟨st.fr, st.objs ++ List.replicate (d.objs.length - d.n) none⟩ (by simp only [s2]; exact hr)
      refine ⟨fun k => ?_, by rw [h2]; simp only [s2], fun t => h3 t, h4⟩
      rw [h1 k]; simp only [obj_append_none]

theorem curO_congr {E E' : Nat → Bool} {k : Nat} : ∀ (ds : List DStep) (i : Nat) (o : Option LObj), (∀ (j : Nat) (d : DStep), ds[j]? = some d → E (i + j) ≠ E' (i + j) → k ∉ d.wr) → curO E k ds i o = curO E' k ds i o := by
  intro ds
  induction ds with
  | nil => intro i o _; rfl
  | cons d r ih =>
    intro i o h
    simp only [curO]
    have h0 := h 0 d rfl
    have e : (if E i = true ∧ k ∈ d.wr then obj d.objs k else o) = (if E' i = true ∧ k ∈ d.wr then obj d.objs k else o) := by
      by_cases hk : k ∈ d.wr
      · have : E i = E' i := by
          by_cases he : E i = E' i
          · exact he
          · exact absurd hk (h0 he)
        rw [this]
      · simp [hk]
    rw [e]
    exact ih (i + 1) _ fun j d' hd hne => h (j + 1) d' (by simpa using hd) (by rw [ix]; exact hne)

theorem curO_last {E : Nat → Bool} {k : Nat} : ∀ (ds : List DStep) (i j : Nat) (d : DStep) (o : Option LObj), ds[j]? = some d → E (i + j) = true → k ∈ d.wr → (∀ (m : Nat) (d' : DStep), j < m → ds[m]? = some d' → E (i + m) = true → k ∉ d'.wr) → curO E k ds i o = obj d.objs k := by
  intro ds
  induction ds with
  | nil => intro i j d o h; simp at h
  | cons d0 r ih =>
    intro i j d o hd hE hk hl
    simp only [curO]
    cases j with
    | zero =>
      simp at hd
      subst hd
      rw [if_pos ⟨hE, hk⟩]
      have : ∀ (r : List DStep) (i : Nat) (o : Option LObj), (∀ (m : Nat) (d' : DStep), r[m]? = some d' → E (i + m) = true → k ∉ d'.wr) → curO E k r i o = o := by
        intro r
        induction r with
        | nil => intro i o _; rfl
        | cons d1 r ih2 =>
          intro i o h
          simp only [curO]
          rw [if_neg (fun hh => h 0 d1 rfl hh.1 hh.2)]
          exact ih2 (i + 1) o fun m d' hd hE => h (m + 1) d' (by simpa using hd) (by rw [ix]; exact hE)
      exact this r (i + 1) _ fun m d' hd hE => hl (m + 1) d' (by omega) (by simpa using hd) (by rw [ix]; exact hE)
    | succ j =>
      have e : i + (j + 1) = i + 1 + j := by omega
      refine ih (i + 1) j d _ (by simpa using hd) (by rw [← e]; exact hE) hk fun m d' hm hd' hE' => hl (m + 1) d' (by omega) (by simpa using hd') ?_
      have : i + (m + 1) = i + 1 + m := by omega
      rw [this]; exact hE'

theorem curS_congr {E E' : Nat → Bool} {t : Nat} : ∀ (ds : List DStep) (i : Nat) (o : SV), (∀ (j : Nat) (d : DStep), ds[j]? = some d → E (i + j) ≠ E' (i + j) → d.dst ≠ some t) → curS E t ds i o = curS E' t ds i o := by
  intro ds
  induction ds with
  | nil => intro i o _; rfl
  | cons d r ih =>
    intro i o h
    simp only [curS]
    have h0 := h 0 d rfl
    have e : (if E i = true ∧ d.dst = some t then d.sv else o) = (if E' i = true ∧ d.dst = some t then d.sv else o) := by
      by_cases hk : d.dst = some t
      · have : E i = E' i := by
          by_cases he : E i = E' i
          · exact he
          · exact absurd hk (h0 he)
        rw [this]
      · simp [hk]
    rw [e]
    exact ih (i + 1) _ fun j d' hd hne => h (j + 1) d' (by simpa using hd) (by rw [ix]; exact hne)

theorem curS_last {E : Nat → Bool} {t : Nat} : ∀ (ds : List DStep) (i j : Nat) (d : DStep) (o : SV), ds[j]? = some d → E (i + j) = true → d.dst = some t → (∀ (m : Nat) (d' : DStep), j < m → ds[m]? = some d' → E (i + m) = true → d'.dst ≠ some t) → curS E t ds i o = d.sv := by
  intro ds
  induction ds with
  | nil => intro i j d o h; simp at h
  | cons d0 r ih =>
    intro i j d o hd hE hk hl
    simp only [curS]
    cases j with
    | zero =>
      simp at hd
      subst hd
      rw [if_pos ⟨hE, hk⟩]
      have : ∀ (r : List DStep) (i : Nat) (o : SV), (∀ (m : Nat) (d' : DStep), r[m]? = some d' → E (i + m) = true → d'.dst ≠ some t) → curS E t r i o = o := by
        intro r
        induction r with
        | nil => intro i o _; rfl
        | cons d1 r ih2 =>
          intro i o h
          simp only [curS]
          rw [if_neg (fun hh => h 0 d1 rfl hh.1 hh.2)]
          exact ih2 (i + 1) o fun m d' hd hE => h (m + 1) d' (by simpa using hd) (by rw [ix]; exact hE)
      exact this r (i + 1) _ fun m d' hd hE => hl (m + 1) d' (by omega) (by simpa using hd) (by rw [ix]; exact hE)
    | succ j =>
      have e : i + (j + 1) = i + 1 + j := by omega
      refine ih (i + 1) j d _ (by simpa using hd) (by rw [← e]; exact hE) hk fun m d' hm hd' hE' => hl (m + 1) d' (by omega) (by simpa using hd') ?_
      have : i + (m + 1) = i + 1 + m := by omega
      rw [this]; exact hE'

theorem curO_none {k : Nat} {E : Nat → Bool} : ∀ (ds : List DStep) (i : Nat) (o : Option LObj), (∀ j, E (i + j) = false) → curO E k ds i o = o := by
  intro ds
  induction ds with
  | nil => intro i o _; rfl
  | cons d r ih =>
    intro i o h
    simp only [curO]
    have h0 := h 0
    simp at h0
    rw [if_neg (by simp [h0])]
    exact ih (i + 1) o fun j => by have := h (j + 1); rw [show i + 1 + j = i + (j + 1) by omega]; exact this

theorem curS_none {t : Nat} {E : Nat → Bool} : ∀ (ds : List DStep) (i : Nat) (o : SV), (∀ j, E (i + j) = false) → curS E t ds i o = o := by
  intro ds
  induction ds with
  | nil => intro i o _; rfl
  | cons d r ih =>
    intro i o h
    simp only [curS]
    have h0 := h 0
    simp at h0
    rw [if_neg (by simp [h0])]
    exact ih (i + 1) o fun j => by have := h (j + 1); rw [show i + 1 + j = i + (j + 1) by omega]; exact this

/-! ### What only reads leaves all as it was -/
theorem evOp_ro {mm : Bool} {call : CallT} {fr fr' : List SV} {os os' : Objs} {op : SOp} {y : R} (hf : (foot fr' os' op).2 = false) (h : evOp mm call fr os op = some y) : ∃ news, y.objs = os ++ news := by
  cases op <;> first | (simp [foot] at hf; done) | skip
  all_goals (simp only [evOp] at h; (repeat' split at h) <;> first | (cases h; done) | (cases h; first | exact ⟨[_], rfl⟩ | exact ⟨[], (List.append_nil _).symm⟩))

theorem mask_spec (q : List Nat) : ∀ (os : Objs) (i : Nat), (mask q i os).length = os.length ∧ ∀ k, obj (mask q i os) k = if q.contains (i + k) then obj os k else none := by
  intro os
  induction os with
  | nil => intro i; refine ⟨rfl, fun k => ?_⟩; simp [mask, obj]
  | cons x os ih =>
    intro i
    obtain ⟨h1, h2⟩ := ih (i + 1)
    refine ⟨by simp [mask, h1], fun k => ?_⟩
    simp only [mask]
    cases k with
    | zero =>
      by_cases hc : q.contains i = true
      · rw [if_pos hc]; simp only [Nat.add_zero]; rw [if_pos hc]; simp [obj]
      · rw [if_neg hc]; simp only [Nat.add_zero]; rw [if_neg hc]; simp [obj]
    | succ k =>
      have e1 : ∀ (a : Option LObj) (l : Objs), obj (a :: l) (k + 1) = obj l k := fun a l => by simp [obj]
      rw [e1, e1, h2 k, show i + (k + 1) = i + 1 + k from ix i k]

/-- What one operation of the evaluation in the list's order did. -/
structure StepOK (mm : Bool) (call : CallT) (so : SOper) (st1 : St) (d : DStep) : Prop where
  dst : d.dst = so.dst
  n : d.n = st1.objs.length
  how : (wants st1.fr so.guard = some false ∧ d.sv = .void ∧ d.rd = [] ∧ d.wr = [] ∧ d.objs = []) ∨
    (wants st1.fr so.guard = some true ∧ ∃ y, evOp mm call (scrub so.uses 0 st1.fr) (mask d.rd 0 st1.objs) so.op = some y ∧ d.sv = y.sv ∧ d.objs = y.objs ∧ st1.objs.length ≤ y.objs.length ∧
      (∀ i ∈ (scrub so.uses 0 st1.fr).flatMap SV.ids, i < st1.objs.length) ∧ (∀ i ∈ (mask d.rd 0 st1.objs).flatMap objIds, i < st1.objs.length) ∧
      (∀ k ∈ d.wr, (k ∈ d.rd ∧ k < st1.objs.length) ∨ (st1.objs.length ≤ k ∧ k < y.objs.length)) ∧ (∀ k, st1.objs.length ≤ k → k < y.objs.length → k ∈ d.wr) ∧
      ∀ k ∈ d.rd, k < st1.objs.length → k ∉ d.wr → obj y.objs k = obj st1.objs k)

theorem evDraw_at {mm : Bool} {call : CallT} : ∀ (l : List SOper) (st st' : St) (ds : List DStep) (i0 : Nat), evDraw mm call l st = some (st', ds) → ds.length = l.length ∧ Chain ds st.objs.length ∧ st' = stE (fun _ => true) ds i0 st ∧
    ∀ (j : Nat) (so : SOper), l[j]? = some so → ∃ d st1, ds[j]? = some d ∧ StepOK mm call so st1 d ∧ st1.fr.length = st.fr.length ∧ (∀ k, obj st1.objs k = curO (fun i => decide (i < i0 + j)) k ds i0 (obj st.objs k)) ∧
      ∀ t, nth st1.fr t = if t < st.fr.length then curS (fun i => decide (i < i0 + j)) t ds i0 (nth st.fr t) else .undef := by
  intro l
  induction l with
  | nil =>
    intro st st' ds i0 h
    simp only [evDraw, Option.some.injEq, Prod.mk.injEq] at h
    obtain ⟨rfl, rfl⟩ := h
    exact ⟨rfl, trivial, rfl, fun j so h => by simp at h⟩
  | cons o r ih =>
    intro st st' ds i0 h
    -- one step d leads to st2
    have step : ∀ {d : DStep} {st2 : St} {ds' : List DStep}, ds = d :: ds' → st2 = ⟨put st.fr d.dst d.sv, merge d.wr 0 st.objs d.objs⟩ → evDraw mm call r st2 = some (st', ds') → StepOK mm call o st d →
        ((d.objs = [] ∧ d.wr = []) ∨ (st.objs.length ≤ d.objs.length ∧ (∀ k ∈ d.wr, k < d.objs.length) ∧ ∀ k, st.objs.length ≤ k → k < d.objs.length → k ∈ d.wr)) →
        ds.length = (o :: r).length ∧ Chain ds st.objs.length ∧ st' = stE (fun _ => true) ds i0 st ∧
        ∀ (j : Nat) (so : SOper), (o :: r)[j]? = some so → ∃ d st1, ds[j]? = some d ∧ StepOK mm call so st1 d ∧ st1.fr.length = st.fr.length ∧ (∀ k, obj st1.objs k = curO (fun i => decide (i < i0 + j)) k ds i0 (obj st.objs k)) ∧
          ∀ t, nth st1.fr t = if t < st.fr.length then curS (fun i => decide (i < i0 + j)) t ds i0 (nth st.fr t) else .undef := by
      intro d st2 ds' hds hst2 hev hok hc
      subst hds
      obtain ⟨s1, s2, s3⟩ := step_obj hok.n hc
      obtain ⟨h1, h2, h3, h4⟩ := ih st2 st' ds' (i0 + 1) hev
      have hl2 : st2.objs.length = max st.objs.length d.objs.length := by rw [hst2]; exact s1
      refine ⟨by simp [h1], ⟨hok.n, hc, hl2 ▸ h2⟩, ?_, fun j so hj => ?_⟩
      · rw [h3, hst2]; simp [stE]
      · cases j with
        | zero =>
          simp at hj
          subst hj
          refine ⟨d, st, rfl, hok, rfl, fun k => ?_, fun t => ?_⟩
          · simp only [curO, Nat.add_zero]
            rw [if_neg (by simp)]
            exact (curO_none ds' (i0 + 1) _ fun j => by simp; omega).symm
          · by_cases ht : t < st.fr.length
            · rw [if_pos ht]
              simp only [curS, Nat.add_zero]
              rw [if_neg (by simp)]
              exact (curS_none ds' (i0 + 1) _ fun j => by simp; omega).symm
            · rw [if_neg ht, nth_eq, List.getD_eq_getElem?_getD, List.getElem?_eq_none (Nat.le_of_not_lt ht)]; rfl
        | succ j =>
          obtain ⟨d', st1, k1, k2, k3, k4, k5⟩ := h4 j so (by simpa using hj)
          have hE : decide (i0 < i0 + (j + 1)) = true := by simp
          have hfun : (fun i => decide (i < i0 + 1 + j)) = (fun i => decide (i < i0 + (j + 1))) := by funext i; rw [show i0 + (j + 1) = i0 + 1 + j from ix i0 j]
          refine ⟨d', st1, by simpa using k1, k2, by rw [k3, hst2]; simp [put_length], fun k => ?_, fun t => ?_⟩
          · rw [k4 k, hfun]
            simp only [curO, hE, true_and, hst2, s3]
          · rw [k5 t, hfun]
            simp only [curS, hE, true_and, hst2, put_length]
            by_cases ht : t < st.fr.length
            · rw [if_pos ht, if_pos ht, nth_put, if_pos ht]
            · rw [if_neg ht, if_neg ht]
    simp only [evDraw] at h
    split at h
    · rename_i hw
      split at h
      · rename_i hids
        have hids' := List.all_eq_true.1 hids
        split at h
        · rename_i y hy
          split at h
          · rename_i hle
            split at h
            · rename_i st2 l' hev
              simp only [Option.some.injEq, Prod.mk.injEq] at h
              obtain ⟨rfl, rfl⟩ := h
              have hmem : ∀ k, k ∈ (if (foot (scrub o.uses 0 st.fr) st.objs o.op).2 = true then (foot (scrub o.uses 0 st.fr) st.objs o.op).1.filter (fun i => decide (i < st.objs.length)) else []) ++ List.range' st.objs.length (y.objs.length - st.objs.length) ↔
                  ((foot (scrub o.uses 0 st.fr) st.objs o.op).2 = true ∧ k ∈ (foot (scrub o.uses 0 st.fr) st.objs o.op).1 ∧ k < st.objs.length) ∨ (st.objs.length ≤ k ∧ k < y.objs.length) := by
                intro k
                rw [List.mem_append, List.mem_range']
                refine or_congr ?_ ?_
                · split
                  · rename_i h2; simp [h2]
                  · rename_i h2; simp [h2]
                · constructor
                  · rintro ⟨i, h1, h2⟩; omega
                  · rintro ⟨h1, h2⟩; exact ⟨k - st.objs.length, by omega, by omega⟩
              refine step rfl rfl hev ⟨rfl, rfl, .inr ⟨hw, y, hy, rfl, rfl, hle, ?_, ?_, ?_, ?_, ?_⟩⟩ (.inr ⟨hle, ?_, ?_⟩)
              · intro i hi; simpa using hids' i (List.mem_append.2 (.inl hi))
              · intro i hi; simpa using hids' i (List.mem_append.2 (.inr hi))
              · intro k hk
                rcases (hmem k).1 hk with h | h
                · exact .inl ⟨h.2.1, h.2.2⟩
                · exact .inr h
              · intro k h1 h2; exact (hmem k).2 (.inr ⟨h1, h2⟩)
              · intro k hk hlt hnw
                cases hq : (foot (scrub o.uses 0 st.fr) st.objs o.op).2 with
                | true => exact absurd ((hmem k).2 (.inl ⟨hq, hk, hlt⟩)) hnw
                | false =>
                  obtain ⟨news, hn⟩ := evOp_ro hq hy
                  rw [hn, obj_append_left _ (by rw [(mask_spec _ st.objs 0).1]; exact hlt), (mask_spec _ st.objs 0).2 k, Nat.zero_add, if_pos (by simpa using hk)]
              · intro k hk
                rcases (hmem k).1 hk with h | h
                · exact Nat.lt_of_lt_of_le h.2.2 hle
                · exact h.2
              · intro k h1 h2; exact (hmem k).2 (.inr ⟨h1, h2⟩)
            · cases h
          · cases h
        · cases h
      · cases h
    · rename_i hw
      split at h
      · rename_i st2 l' hev
        simp only [Option.some.injEq, Prod.mk.injEq] at h
        obtain ⟨rfl, rfl⟩ := h
        have hm : merge [] 0 st.objs [] = st.objs := by cases st.objs <;> rfl
        exact step (d := ⟨o.dst, .void, [], [], st.objs.length, []⟩) rfl (by show _ = St.mk _ (merge [] 0 st.objs []); rw [hm]) hev ⟨rfl, rfl, .inl ⟨hw, rfl, rfl, rfl, rfl⟩⟩ (.inl ⟨rfl, rfl⟩)
      · cases h
    · cases h
end Go.Ev
