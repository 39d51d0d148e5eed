/- Joined: CuDraw CuDraw2 CuDraw3. -/
import Derived.Test.YtmlhdhndjgdoaaaGreatDoorCuFn
import Derived.Orders

/- Regions whose order is open: every order comes to what the list's own order comes to. -/
namespace Go.Ev

/-! ### States of a part of the operations -/
def stE (E : Nat → Bool) : List DStep → Nat → St → St
  | [], _, st => st
  | d :: r, i, st => stE E r (i + 1) (if E i then ⟨put st.fr d.dst d.sv, merge d.wr 0 st.objs d.objs⟩ else ⟨st.fr, st.objs ++ List.replicate (d.objs.length - d.n) none⟩)

def curO (E : Nat → Bool) (k : Nat) : List DStep → Nat → Option LObj → Option LObj
  | [], _, o => o
  | d :: r, i, o => curO E k r (i + 1) (if E i = true ∧ k ∈ d.wr then obj d.objs k else o)

def curS (E : Nat → Bool) (t : Nat) : List DStep → Nat → SV → SV
  | [], _, v => v
  | d :: r, i, v => curS E t r (i + 1) (if E i = true ∧ d.dst = some t then d.sv else v)

def Chain : List DStep → Nat → Prop
  | [], _ => True
  | d :: r, n => d.n = n ∧ ((d.objs = [] ∧ d.wr = []) ∨ (n ≤ d.objs.length ∧ (∀ k ∈ d.wr, k < d.objs.length) ∧ ∀ k, n ≤ k → k < d.objs.length → k ∈ d.wr)) ∧ Chain r (max n d.objs.length)

theorem ix (i j : Nat) : i + (j + 1) = i + 1 + j := by omega

theorem merge_spec (wr : List Nat) : ∀ (os news : Objs) (i : Nat), (os.length ≤ news.length ∨ (news = [] ∧ wr = [])) → (merge wr i os news).length = max os.length news.length ∧
    ∀ k, obj (merge wr i os news) k = if k < os.length then (if wr.contains (i + k) then obj news k else obj os k) else obj news k := by
  intro os
  induction os with
  | nil =>
    intro news i h
    cases news with
    | nil => simp [merge, obj]
    | cons y news => simp [merge]
  | cons x os ih =>
    intro news i h
    cases news with
    | nil =>
      rcases h with h | h
      · simp at h
      · obtain ⟨_, rfl⟩ := h
        simp only [merge]
        refine ⟨by simp, fun k => ?_⟩
        by_cases hk : k < (x :: os).length
        · rw [if_pos hk]; simp
        · rw [if_neg hk]
          unfold obj
          rw [List.getElem?_eq_none (Nat.le_of_not_lt hk)]
          simp
    | cons y news =>
      have h' : os.length ≤ news.length ∨ (news = [] ∧ wr = []) := by
        rcases h with h | h
        · exact .inl (by simpa using h)
        · cases h.1
      obtain ⟨h1, h2⟩ := ih news (i + 1) h'
      simp only [merge]
      refine ⟨by simp only [List.length_cons, h1]; omega, fun k => ?_⟩
      cases k with
      | zero =>
        simp only [List.length_cons, Nat.zero_lt_succ, if_true, Nat.add_zero]
        by_cases hc : wr.contains i = true
        · rw [if_pos hc, if_pos hc]; simp [obj]
        · rw [if_neg hc, if_neg hc]; simp [obj]
      | succ k =>
        have e1 : ∀ (a : Option LObj) (l : Objs), obj (a :: l) (k + 1) = obj l k := fun a l => by simp [obj]
        rw [e1, h2 k]
        simp only [List.length_cons, Nat.add_lt_add_iff_right, e1]
        have : i + 1 + k = i + (k + 1) := by omega
        rw [this]

theorem obj_none_of_ge {os : Objs} {k : Nat} (h : os.length ≤ k) : obj os k = none := by
  unfold obj; rw [List.getElem?_eq_none h]

theorem obj_append_none {os : Objs} {m k : Nat} : obj (os ++ List.replicate m none) k = obj os k := by
  by_cases h : k < os.length
  · exact obj_append_left _ h
  · rw [obj_none_of_ge (Nat.le_of_not_lt h)]
    unfold obj
    rw [List.getElem?_append_right (Nat.le_of_not_lt h), List.getElem?_replicate]
    split <;> simp_all

def lastN : List DStep → Nat → Nat
  | [], n => n
  | d :: r, n => lastN r (max n d.objs.length)

theorem step_obj {d : DStep} {os : Objs} (hn : d.n = os.length) (hc : (d.objs = [] ∧ d.wr = []) ∨ (os.length ≤ d.objs.length ∧ (∀ k ∈ d.wr, k < d.objs.length) ∧ ∀ k, os.length ≤ k → k < d.objs.length → k ∈ d.wr)) :
    (merge d.wr 0 os d.objs).length = max os.length d.objs.length ∧ (os ++ List.replicate (d.objs.length - d.n) none).length = max os.length d.objs.length ∧ ∀ k, obj (merge d.wr 0 os d.objs) k = if k ∈ d.wr then obj d.objs k else obj os k := by
  have hm := merge_spec d.wr os d.objs 0 (by rcases hc with h | h; exact .inr h; exact .inl h.1)
  refine ⟨hm.1, by simp [hn]; omega, fun k => ?_⟩
  rw [hm.2 k]
  simp only [Nat.zero_add, List.contains_iff_mem]
  by_cases hk : k < os.length
  · rw [if_pos hk]
  · rw [if_neg hk]
    by_cases hw : k ∈ d.wr
    · rw [if_pos hw]
    · rw [if_neg hw, obj_none_of_ge (Nat.le_of_not_lt hk)]
      rcases hc with ⟨h1, _⟩ | ⟨_, _, h3⟩
      · rw [h1]; simp [obj]
      · refine obj_none_of_ge ?_
        rcases Nat.lt_or_ge k d.objs.length with h | h
        · exact absurd (h3 k (Nat.le_of_not_lt hk) h) hw
        · exact h

theorem nth_put (fr : List SV) (dst : Option Nat) (v : SV) (t : Nat) : nth (put fr dst v) t = if t < fr.length then (if dst = some t then v else nth fr t) else .undef := by
  have h0 : ∀ (fr : List SV), ¬ t < fr.length → nth fr t = .undef := fun fr h => by rw [nth_eq, List.getD_eq_getElem?_getD, List.getElem?_eq_none (Nat.le_of_not_lt h)]; rfl
  by_cases ht : t < fr.length
  · rw [if_pos ht]
    cases dst with
    | none => simp [put]
    | some d =>
      simp only [put, Option.some.injEq]
      rw [nth_eq, nth_eq, List.getD_eq_getElem?_getD, List.getD_eq_getElem?_getD]
      by_cases hd : d = t
      · subst hd; simp [ht]
      · rw [if_neg hd, List.getElem?_set_ne hd]
  · rw [if_neg ht]
    exact h0 _ (by rw [put_length]; exact ht)

theorem stE_spec (E : Nat → Bool) : ∀ (ds : List DStep) (i : Nat) (st : St), Chain ds st.objs.length →
    (∀ k, obj (stE E ds i st).objs k = curO E k ds i (obj st.objs k)) ∧ (stE E ds i st).objs.length = lastN ds st.objs.length ∧
    (∀ t, nth (stE E ds i st).fr t = if t < st.fr.length then curS E t ds i (nth st.fr t) else .undef) ∧ (stE E ds i st).fr.length = st.fr.length := by
  intro ds
  induction ds with
  | nil =>
    intro i st _
    refine ⟨fun k => rfl, rfl, fun t => ?_, rfl⟩
    simp only [stE, curS]
    split
    · rfl
    · rename_i h; rw [nth_eq, List.getD_eq_getElem?_getD, List.getElem?_eq_none (Nat.le_of_not_lt h)]; rfl
  | cons d r ih =>
    intro i st hch
    obtain ⟨hn, hc, hr⟩ := hch
    obtain ⟨s1, s2, s3⟩ := step_obj hn hc
    simp only [stE, curO, curS, lastN]
    cases hE : E i with
    | true =>
      simp only [if_true, true_and]
      obtain ⟨h1, h2, h3, h4⟩ := ih (i + 1) ⟨put st.fr d.dst d.sv, merge d.wr 0 st.objs d.objs⟩ (by simp only [s1]; exact hr)
      refine ⟨fun k => ?_, by rw [h2]; simp only [s1], fun t => ?_, by rw [h4]; simp [put_length]⟩
      · rw [h1 k]; simp only [s3]
      · rw [h3 t]; simp only [put_length]
        by_cases ht : t < st.fr.length
        · rw [if_pos ht, if_pos ht, nth_put, if_pos ht]
        · rw [if_neg ht, if_neg ht]
    | false =>
      simp only [Bool.false_eq_true, if_false, false_and]
      obtain ⟨h1, h2, h3, h4⟩ := ih (i + 1) ⟨st.fr, st.objs ++ List.replicate (d.objs.length - d.n) none⟩ (by simp only [s2]; exact hr)
      refine ⟨fun k => ?_, by rw [h2]; simp only [s2], fun t => h3 t, h4⟩
      rw [h1 k]; simp only [obj_append_none]

theorem curO_congr {E E' : Nat → Bool} {k : Nat} : ∀ (ds : List DStep) (i : Nat) (o : Option LObj), (∀ (j : Nat) (d : DStep), ds[j]? = some d → E (i + j) ≠ E' (i + j) → k ∉ d.wr) → curO E k ds i o = curO E' k ds i o := by
  intro ds
  induction ds with
  | nil => intro i o _; rfl
  | cons d r ih =>
    intro i o h
    simp only [curO]
    have h0 := h 0 d rfl
    have e : (if E i = true ∧ k ∈ d.wr then obj d.objs k else o) = (if E' i = true ∧ k ∈ d.wr then obj d.objs k else o) := by
      by_cases hk : k ∈ d.wr
      · have : E i = E' i := by
          by_cases he : E i = E' i
          · exact he
          · exact absurd hk (h0 he)
        rw [this]
      · simp [hk]
    rw [e]
    exact ih (i + 1) _ fun j d' hd hne => h (j + 1) d' (by simpa using hd) (by rw [ix]; exact hne)

theorem curO_last {E : Nat → Bool} {k : Nat} : ∀ (ds : List DStep) (i j : Nat) (d : DStep) (o : Option LObj), ds[j]? = some d → E (i + j) = true → k ∈ d.wr → (∀ (m : Nat) (d' : DStep), j < m → ds[m]? = some d' → E (i + m) = true → k ∉ d'.wr) → curO E k ds i o = obj d.objs k := by
  intro ds
  induction ds with
  | nil => intro i j d o h; simp at h
  | cons d0 r ih =>
    intro i j d o hd hE hk hl
    simp only [curO]
    cases j with
    | zero =>
      simp at hd
      subst hd
      rw [if_pos ⟨hE, hk⟩]
      have : ∀ (r : List DStep) (i : Nat) (o : Option LObj), (∀ (m : Nat) (d' : DStep), r[m]? = some d' → E (i + m) = true → k ∉ d'.wr) → curO E k r i o = o := by
        intro r
        induction r with
        | nil => intro i o _; rfl
        | cons d1 r ih2 =>
          intro i o h
          simp only [curO]
          rw [if_neg (fun hh => h 0 d1 rfl hh.1 hh.2)]
          exact ih2 (i + 1) o fun m d' hd hE => h (m + 1) d' (by simpa using hd) (by rw [ix]; exact hE)
      exact this r (i + 1) _ fun m d' hd hE => hl (m + 1) d' (by omega) (by simpa using hd) (by rw [ix]; exact hE)
    | succ j =>
      have e : i + (j + 1) = i + 1 + j := by omega
      refine ih (i + 1) j d _ (by simpa using hd) (by rw [← e]; exact hE) hk fun m d' hm hd' hE' => hl (m + 1) d' (by omega) (by simpa using hd') ?_
      have : i + (m + 1) = i + 1 + m := by omega
      rw [this]; exact hE'

theorem curS_congr {E E' : Nat → Bool} {t : Nat} : ∀ (ds : List DStep) (i : Nat) (o : SV), (∀ (j : Nat) (d : DStep), ds[j]? = some d → E (i + j) ≠ E' (i + j) → d.dst ≠ some t) → curS E t ds i o = curS E' t ds i o := by
  intro ds
  induction ds with
  | nil => intro i o _; rfl
  | cons d r ih =>
    intro i o h
    simp only [curS]
    have h0 := h 0 d rfl
    have e : (if E i = true ∧ d.dst = some t then d.sv else o) = (if E' i = true ∧ d.dst = some t then d.sv else o) := by
      by_cases hk : d.dst = some t
      · have : E i = E' i := by
          by_cases he : E i = E' i
          · exact he
          · exact absurd hk (h0 he)
        rw [this]
      · simp [hk]
    rw [e]
    exact ih (i + 1) _ fun j d' hd hne => h (j + 1) d' (by simpa using hd) (by rw [ix]; exact hne)

theorem curS_last {E : Nat → Bool} {t : Nat} : ∀ (ds : List DStep) (i j : Nat) (d : DStep) (o : SV), ds[j]? = some d → E (i + j) = true → d.dst = some t → (∀ (m : Nat) (d' : DStep), j < m → ds[m]? = some d' → E (i + m) = true → d'.dst ≠ some t) → curS E t ds i o = d.sv := by
  intro ds
  induction ds with
  | nil => intro i j d o h; simp at h
  | cons d0 r ih =>
    intro i j d o hd hE hk hl
    simp only [curS]
    cases j with
    | zero =>
      simp at hd
      subst hd
      rw [if_pos ⟨hE, hk⟩]
      have : ∀ (r : List DStep) (i : Nat) (o : SV), (∀ (m : Nat) (d' : DStep), r[m]? = some d' → E (i + m) = true → d'.dst ≠ some t) → curS E t r i o = o := by
        intro r
        induction r with
        | nil => intro i o _; rfl
        | cons d1 r ih2 =>
          intro i o h
          simp only [curS]
          rw [if_neg (fun hh => h 0 d1 rfl hh.1 hh.2)]
          exact ih2 (i + 1) o fun m d' hd hE => h (m + 1) d' (by simpa using hd) (by rw [ix]; exact hE)
      exact this r (i + 1) _ fun m d' hd hE => hl (m + 1) d' (by omega) (by simpa using hd) (by rw [ix]; exact hE)
    | succ j =>
      have e : i + (j + 1) = i + 1 + j := by omega
      refine ih (i + 1) j d _ (by simpa using hd) (by rw [← e]; exact hE) hk fun m d' hm hd' hE' => hl (m + 1) d' (by omega) (by simpa using hd') ?_
      have : i + (m + 1) = i + 1 + m := by omega
      rw [this]; exact hE'

theorem curO_none {k : Nat} {E : Nat → Bool} : ∀ (ds : List DStep) (i : Nat) (o : Option LObj), (∀ j, E (i + j) = false) → curO E k ds i o = o := by
  intro ds
  induction ds with
  | nil => intro i o _; rfl
  | cons d r ih =>
    intro i o h
    simp only [curO]
    have h0 := h 0
    simp at h0
    rw [if_neg (by simp [h0])]
    exact ih (i + 1) o fun j => by have := h (j + 1); rw [show i + 1 + j = i + (j + 1) by omega]; exact this

theorem curS_none {t : Nat} {E : Nat → Bool} : ∀ (ds : List DStep) (i : Nat) (o : SV), (∀ j, E (i + j) = false) → curS E t ds i o = o := by
  intro ds
  induction ds with
  | nil => intro i o _; rfl
  | cons d r ih =>
    intro i o h
    simp only [curS]
    have h0 := h 0
    simp at h0
    rw [if_neg (by simp [h0])]
    exact ih (i + 1) o fun j => by have := h (j + 1); rw [show i + 1 + j = i + (j + 1) by omega]; exact this

/-! ### What only reads leaves all as it was -/
theorem evOp_ro {mm : Bool} {call : CallT} {fr fr' : List SV} {os os' : Objs} {op : SOp} {y : R} (hf : (foot fr' os' op).2 = false) (h : evOp mm call fr os op = some y) : ∃ news, y.objs = os ++ news := by
  cases op <;> first | (simp [foot] at hf; done) | skip
  all_goals (simp only [evOp] at h; (repeat' split at h) <;> first | (cases h; done) | (cases h; first | exact ⟨[_], rfl⟩ | exact ⟨[], (List.append_nil _).symm⟩))

theorem mask_spec (q : List Nat) : ∀ (os : Objs) (i : Nat), (mask q i os).length = os.length ∧ ∀ k, obj (mask q i os) k = if q.contains (i + k) then obj os k else none := by
  intro os
  induction os with
  | nil => intro i; refine ⟨rfl, fun k => ?_⟩; simp [mask, obj]
  | cons x os ih =>
    intro i
    obtain ⟨h1, h2⟩ := ih (i + 1)
    refine ⟨by simp [mask, h1], fun k => ?_⟩
    simp only [mask]
    cases k with
    | zero =>
      by_cases hc : q.contains i = true
      · rw [if_pos hc]; simp only [Nat.add_zero]; rw [if_pos hc]; simp [obj]
      · rw [if_neg hc]; simp only [Nat.add_zero]; rw [if_neg hc]; simp [obj]
    | succ k =>
      have e1 : ∀ (a : Option LObj) (l : Objs), obj (a :: l) (k + 1) = obj l k := fun a l => by simp [obj]
      rw [e1, e1, h2 k, show i + (k + 1) = i + 1 + k from ix i k]

/-- What one operation of the evaluation in the list's order did. -/
structure StepOK (mm : Bool) (call : CallT) (so : SOper) (st1 : St) (d : DStep) : Prop where
  dst : d.dst = so.dst
  n : d.n = st1.objs.length
  how : (wants st1.fr so.guard = some false ∧ d.sv = .void ∧ d.rd = [] ∧ d.wr = [] ∧ d.objs = []) ∨
    (wants st1.fr so.guard = some true ∧ ∃ y, evOp mm call (scrub so.uses 0 st1.fr) (mask d.rd 0 st1.objs) so.op = some y ∧ d.sv = y.sv ∧ d.objs = y.objs ∧ st1.objs.length ≤ y.objs.length ∧
      (∀ i ∈ (scrub so.uses 0 st1.fr).flatMap SV.ids, i < st1.objs.length) ∧ (∀ i ∈ (mask d.rd 0 st1.objs).flatMap objIds, i < st1.objs.length) ∧
      (∀ k ∈ d.wr, (k ∈ d.rd ∧ k < st1.objs.length) ∨ (st1.objs.length ≤ k ∧ k < y.objs.length)) ∧ (∀ k, st1.objs.length ≤ k → k < y.objs.length → k ∈ d.wr) ∧
      ∀ k ∈ d.rd, k < st1.objs.length → k ∉ d.wr → obj y.objs k = obj st1.objs k)

theorem evDraw_at {mm : Bool} {call : CallT} : ∀ (l : List SOper) (st st' : St) (ds : List DStep) (i0 : Nat), evDraw mm call l st = some (st', ds) → ds.length = l.length ∧ Chain ds st.objs.length ∧ st' = stE (fun _ => true) ds i0 st ∧
    ∀ (j : Nat) (so : SOper), l[j]? = some so → ∃ d st1, ds[j]? = some d ∧ StepOK mm call so st1 d ∧ st1.fr.length = st.fr.length ∧ (∀ k, obj st1.objs k = curO (fun i => decide (i < i0 + j)) k ds i0 (obj st.objs k)) ∧
      ∀ t, nth st1.fr t = if t < st.fr.length then curS (fun i => decide (i < i0 + j)) t ds i0 (nth st.fr t) else .undef := by
  intro l
  induction l with
  | nil =>
    intro st st' ds i0 h
    simp only [evDraw, Option.some.injEq, Prod.mk.injEq] at h
    obtain ⟨rfl, rfl⟩ := h
    exact ⟨rfl, trivial, rfl, fun j so h => by simp at h⟩
  | cons o r ih =>
    intro st st' ds i0 h
    -- one step d leads to st2
    have step : ∀ {d : DStep} {st2 : St} {ds' : List DStep}, ds = d :: ds' → st2 = ⟨put st.fr d.dst d.sv, merge d.wr 0 st.objs d.objs⟩ → evDraw mm call r st2 = some (st', ds') → StepOK mm call o st d →
        ((d.objs = [] ∧ d.wr = []) ∨ (st.objs.length ≤ d.objs.length ∧ (∀ k ∈ d.wr, k < d.objs.length) ∧ ∀ k, st.objs.length ≤ k → k < d.objs.length → k ∈ d.wr)) →
        ds.length = (o :: r).length ∧ Chain ds st.objs.length ∧ st' = stE (fun _ => true) ds i0 st ∧
        ∀ (j : Nat) (so : SOper), (o :: r)[j]? = some so → ∃ d st1, ds[j]? = some d ∧ StepOK mm call so st1 d ∧ st1.fr.length = st.fr.length ∧ (∀ k, obj st1.objs k = curO (fun i => decide (i < i0 + j)) k ds i0 (obj st.objs k)) ∧
          ∀ t, nth st1.fr t = if t < st.fr.length then curS (fun i => decide (i < i0 + j)) t ds i0 (nth st.fr t) else .undef := by
      intro d st2 ds' hds hst2 hev hok hc
      subst hds
      obtain ⟨s1, s2, s3⟩ := step_obj hok.n hc
      obtain ⟨h1, h2, h3, h4⟩ := ih st2 st' ds' (i0 + 1) hev
      have hl2 : st2.objs.length = max st.objs.length d.objs.length := by rw [hst2]; exact s1
      refine ⟨by simp [h1], ⟨hok.n, hc, hl2 ▸ h2⟩, ?_, fun j so hj => ?_⟩
      · rw [h3, hst2]; simp [stE]
      · cases j with
        | zero =>
          simp at hj
          subst hj
          refine ⟨d, st, rfl, hok, rfl, fun k => ?_, fun t => ?_⟩
          · simp only [curO, Nat.add_zero]
            rw [if_neg (by simp)]
            exact (curO_none ds' (i0 + 1) _ fun j => by simp; omega).symm
          · by_cases ht : t < st.fr.length
            · rw [if_pos ht]
              simp only [curS, Nat.add_zero]
              rw [if_neg (by simp)]
              exact (curS_none ds' (i0 + 1) _ fun j => by simp; omega).symm
            · rw [if_neg ht, nth_eq, List.getD_eq_getElem?_getD, List.getElem?_eq_none (Nat.le_of_not_lt ht)]; rfl
        | succ j =>
          obtain ⟨d', st1, k1, k2, k3, k4, k5⟩ := h4 j so (by simpa using hj)
          have hE : decide (i0 < i0 + (j + 1)) = true := by simp
          have hfun : (fun i => decide (i < i0 + 1 + j)) = (fun i => decide (i < i0 + (j + 1))) := by funext i; rw [show i0 + (j + 1) = i0 + 1 + j from ix i0 j]
          refine ⟨d', st1, by simpa using k1, k2, by rw [k3, hst2]; simp [put_length], fun k => ?_, fun t => ?_⟩
          · rw [k4 k, hfun]
            simp only [curO, hE, true_and, hst2, s3]
          · rw [k5 t, hfun]
            simp only [curS, hE, true_and, hst2, put_length]
            by_cases ht : t < st.fr.length
            · rw [if_pos ht, if_pos ht, nth_put, if_pos ht]
            · rw [if_neg ht, if_neg ht]
    simp only [evDraw] at h
    split at h
    · rename_i hw
      split at h
      · rename_i hids
        have hids' := List.all_eq_true.1 hids
        split at h
        · rename_i y hy
          split at h
          · rename_i hle
            split at h
            · rename_i st2 l' hev
              simp only [Option.some.injEq, Prod.mk.injEq] at h
              obtain ⟨rfl, rfl⟩ := h
              have hmem : ∀ k, k ∈ (if (foot (scrub o.uses 0 st.fr) st.objs o.op).2 = true then (foot (scrub o.uses 0 st.fr) st.objs o.op).1.filter (fun i => decide (i < st.objs.length)) else []) ++ List.range' st.objs.length (y.objs.length - st.objs.length) ↔
                  ((foot (scrub o.uses 0 st.fr) st.objs o.op).2 = true ∧ k ∈ (foot (scrub o.uses 0 st.fr) st.objs o.op).1 ∧ k < st.objs.length) ∨ (st.objs.length ≤ k ∧ k < y.objs.length) := by
                intro k
                rw [List.mem_append, List.mem_range']
                refine or_congr ?_ ?_
                · split
                  · rename_i h2; simp [h2]
                  · rename_i h2; simp [h2]
                · constructor
                  · rintro ⟨i, h1, h2⟩; omega
                  · rintro ⟨h1, h2⟩; exact ⟨k - st.objs.length, by omega, by omega⟩
              refine step rfl rfl hev ⟨rfl, rfl, .inr ⟨hw, y, hy, rfl, rfl, hle, ?_, ?_, ?_, ?_, ?_⟩⟩ (.inr ⟨hle, ?_, ?_⟩)
              · intro i hi; simpa using hids' i (List.mem_append.2 (.inl hi))
              · intro i hi; simpa using hids' i (List.mem_append.2 (.inr hi))
              · intro k hk
                rcases (hmem k).1 hk with h | h
                · exact .inl ⟨h.2.1, h.2.2⟩
                · exact .inr h
              · intro k h1 h2; exact (hmem k).2 (.inr ⟨h1, h2⟩)
              · intro k hk hlt hnw
                cases hq : (foot (scrub o.uses 0 st.fr) st.objs o.op).2 with
                | true => exact absurd ((hmem k).2 (.inl ⟨hq, hk, hlt⟩)) hnw
                | false =>
                  obtain ⟨news, hn⟩ := evOp_ro hq hy
                  rw [hn, obj_append_left _ (by rw [(mask_spec _ st.objs 0).1]; exact hlt), (mask_spec _ st.objs 0).2 k, Nat.zero_add, if_pos (by simpa using hk)]
              · intro k hk
                rcases (hmem k).1 hk with h | h
                · exact Nat.lt_of_lt_of_le h.2.2 hle
                · exact h.2
              · intro k h1 h2; exact (hmem k).2 (.inr ⟨h1, h2⟩)
            · cases h
          · cases h
        · cases h
      · cases h
    · rename_i hw
      split at h
      · rename_i st2 l' hev
        simp only [Option.some.injEq, Prod.mk.injEq] at h
        obtain ⟨rfl, rfl⟩ := h
        have hm : merge [] 0 st.objs [] = st.objs := by cases st.objs <;> rfl
        exact step (d := ⟨o.dst, .void, [], [], st.objs.length, []⟩) rfl (by show _ = St.mk _ (merge [] 0 st.objs []); rw [hm]) hev ⟨rfl, rfl, .inl ⟨hw, rfl, rfl, rfl, rfl⟩⟩ (.inl ⟨rfl, rfl⟩)
      · cases h
    · cases h
end Go.Ev

/- Regions whose order is open, second part. -/
namespace Go.Ev

theorem nth_scrub' (live : List Nat) : ∀ (fr : List SV) (n t : Nat), nth (scrub live n fr) t = if live.contains (n + t) then nth fr t else .undef := by
  intro fr
  induction fr with
  | nil => intro n t; simp [scrub, nth]
  | cons x r ih =>
    intro n t
    cases t with
    | zero => simp only [scrub, nth, Nat.add_zero]
    | succ t => simp only [scrub, nth]; rw [ih (n + 1) t, show n + (t + 1) = n + 1 + t from ix n t]

section
variable {P : Program} {S S' : Fz} {σ σ' : Locs} {os os' m : Objs} {w w' : World} {r : R} {v : Value} {N n0 : Nat}

/-- An operation that saw a part of the objects: what is behind it as a whole. -/
theorem combine {q : List Nat} (hs : HeapSim S σ os w) (hmask : ∀ k, obj m k = if k ∈ q then obj os k else none) (hml : m.length = N) (hn0 : n0 ≤ N) (h1 : HeapSim S' σ' r.objs w') (h2 : relS S' σ' r.sv v) (h3 : Fr N m (fun i => if i < N then σ i else none) S w r.objs σ' S' w')
    (hle : r.objs.length ≤ os.length) (hfree : ∀ k, N ≤ k → k < r.objs.length → σ k = none) (hlen : os'.length = os.length) (hos : ∀ k, obj os' k = if (k ∈ q ∧ k < N) ∨ (N ≤ k ∧ k < r.objs.length) then obj r.objs k else obj os k) :
    HeapSim S' (fun i => if N ≤ i ∧ i < r.objs.length then σ' i else σ i) os' w' ∧ relS S' (fun i => if N ≤ i ∧ i < r.objs.length then σ' i else σ i) r.sv v ∧ Fr n0 os σ S w os' (fun i => if N ≤ i ∧ i < r.objs.length then σ' i else σ i) S' w' ∧
      Locs.le σ (fun i => if N ≤ i ∧ i < r.objs.length then σ' i else σ i) := by
  have hNr : N ≤ r.objs.length := h3.len
  generalize hσ2 : (fun i => if N ≤ i ∧ i < r.objs.length then σ' i else σ i) = σ2
  have e2 : ∀ i, σ2 i = if N ≤ i ∧ i < r.objs.length then σ' i else σ i := fun i => by rw [← hσ2]
  have hl1 : Locs.le σ σ2 := fun i L hi => by
    rw [e2]
    split
    · rename_i h; rw [hfree i h.1 h.2] at hi; cases hi
    · exact hi
  have hl2 : Locs.le σ' σ2 := fun i L hi => by
    rw [e2]
    split
    · exact hi
    · rename_i h
      have : i < r.objs.length := by
        rcases Nat.lt_or_ge i r.objs.length with h' | h'
        · exact h'
        · rw [h1.fit i h'] at hi; cases hi
      have hlt : i < N := by omega
      have := h3.loc i hlt
      rw [hi] at this
      simp [hlt] at this
      exact this.symm
  -- what belongs to the part
  have ownM : ∀ {b : Nat}, Own m (fun i => if i < N then σ i else none) b → ∃ k o L, k ∈ q ∧ k < N ∧ obj os k = some o ∧ σ k = some L ∧ L.b = b := by
    rintro b ⟨k, o, L, hk, hL, hb⟩
    have hkN : k < N := by rw [← hml]; exact obj_lt hk
    rw [hmask] at hk
    split at hk
    · rename_i hq
      simp only [hkN, if_true] at hL
      exact ⟨k, o, L, hq, hkN, hk, hL, hb⟩
    · cases hk
  have ofM : ∀ {k : Nat} {o : LObj} {L : Loc}, k ∈ q → obj os k = some o → σ k = some L → k < N → Own m (fun i => if i < N then σ i else none) L.b := fun {k o L} hq ho hL hk => ⟨k, o, L, by rw [hmask, if_pos hq]; exact ho, by simp only [hk, if_true]; exact hL, rfl⟩
  -- other objects' blocks
  have other : ∀ {k : Nat} {o : LObj} {L : Loc}, ¬ ((k ∈ q ∧ k < N) ∨ (N ≤ k ∧ k < r.objs.length)) → obj os k = some o → σ k = some L → L.b < w.heap.size ∧ ¬ Own m (fun i => if i < N then σ i else none) L.b := fun {k o L} hk ho hL => by
    refine ⟨(hs.loc ho hL).1.lt, fun hown => ?_⟩
    obtain ⟨k', o', L', q1, q2, q3, q4, q5⟩ := ownM hown
    have := hs.inj k' k o' o L' L q3 ho q4 hL q5
    subst this
    exact hk (.inl ⟨q1, q2⟩)
  have inPart : ∀ {k : Nat} {L : Loc}, (k ∈ q ∧ k < N) ∨ (N ≤ k ∧ k < r.objs.length) → σ2 k = some L → σ' k = some L := fun {k L} hk hL => by
    rw [e2] at hL
    rcases hk with hk | hk
    · rw [if_neg (by omega)] at hL
      rw [h3.loc k hk.2]; simp [hk.2, hL]
    · rwa [if_pos hk] at hL
  refine ⟨⟨h1.frz, fun k o ho => ?_, fun i j o1 o2 L1 L2 ho1 ho2 hL1 hL2 hb => ?_, fun i hi => ?_⟩, relS.mono (.refl _) hl2 h2, ⟨h3.le, fun i hi => ?_, by rw [hlen]; omega, fun i hi hd => ?_, h3.size, h3.so, h3.tape, h3.output, fun b hb hno => ?_, ?_⟩, hl1⟩
  · rw [hos] at ho
    split at ho
    · obtain ⟨L, k1, k2, k3⟩ := h1.ob k o ho
      exact ⟨L, hl2 _ _ k1, k2.mono (.refl _) hl2 rfl, k3⟩
    · rename_i hk
      obtain ⟨L, k1, k2, k3⟩ := hs.ob k o ho
      obtain ⟨q1, q2⟩ := other hk ho k1
      have hkeep := h3.keep L.b q1 q2
      exact ⟨L, hl1 _ _ k1, k2.mono h3.le hl1 hkeep.1, k3.mono hkeep.2.1 hkeep.2.2⟩
  · rw [hos] at ho1 ho2
    have mixed : ∀ {i j : Nat} {o1 o2 : LObj} {L1 L2 : Loc}, (i ∈ q ∧ i < N) ∨ (N ≤ i ∧ i < r.objs.length) → ¬ ((j ∈ q ∧ j < N) ∨ (N ≤ j ∧ j < r.objs.length)) → obj r.objs i = some o1 → obj os j = some o2 → σ2 i = some L1 → σ2 j = some L2 → L1.b = L2.b → False := by
      intro i j o1 o2 L1 L2 hi hj ho1 ho2 hL1 hL2 hb
      have hL1' := inPart hi hL1
      have hL2' : σ j = some L2 := by
        rw [e2] at hL2
        rwa [if_neg (fun h => hj (.inr h))] at hL2
      obtain ⟨q1, q2⟩ := other hj ho2 hL2'
      rcases h3.own L1.b ⟨i, o1, L1, ho1, hL1', rfl⟩ with h | h
      · exact q2 (hb ▸ h)
      · omega
    split at ho1 <;> split at ho2
    · rename_i hi hj
      exact h1.inj i j o1 o2 L1 L2 ho1 ho2 (inPart hi hL1) (inPart hj hL2) hb
    · rename_i hi hj
      exact (mixed hi hj ho1 ho2 hL1 hL2 hb).elim
    · rename_i hi hj
      exact (mixed hj hi ho2 ho1 hL2 hL1 hb.symm).elim
    · rename_i hi hj
      have a1 : σ i = some L1 := by rw [e2] at hL1; rwa [if_neg (fun h => hi (.inr h))] at hL1
      have a2 : σ j = some L2 := by rw [e2] at hL2; rwa [if_neg (fun h => hj (.inr h))] at hL2
      exact hs.inj i j o1 o2 L1 L2 ho1 ho2 a1 a2 hb
  · rw [hlen] at hi
    rw [e2, if_neg (by omega)]
    exact hs.fit i hi
  · rw [e2, if_neg (by omega)]
  · rw [hos]
    split
    · refine h3.dead i (by omega) ?_
      rw [hmask]
      split
      · exact hd
      · rfl
    · exact hd
  · refine h3.keep b hb fun ho => hno ?_
    obtain ⟨k, o, L, _, _, q3, q4, q5⟩ := ownM ho
    exact ⟨k, o, L, q3, q4, q5⟩
  · rintro b ⟨k, o, L, ho, hL, rfl⟩
    rw [hos] at ho
    split at ho
    · rename_i hk
      rcases h3.own L.b ⟨k, o, L, ho, inPart hk hL, rfl⟩ with h | h
      · obtain ⟨k', o', L', _, _, q3, q4, q5⟩ := ownM h
        exact .inl ⟨k', o', L', q3, q4, q5⟩
      · exact .inr h
    · rename_i hk
      have a1 : σ k = some L := by rw [e2] at hL; rwa [if_neg (fun h => hk (.inr h))] at hL
      exact .inl ⟨k, o, L, ho, a1, rfl⟩

theorem HeapSim.congr (hs : HeapSim S σ os w) (hl : os'.length = os.length) (h : ∀ k, obj os' k = obj os k) : HeapSim S σ os' w :=
  ⟨hs.frz, fun i o ho => hs.ob i o (by rw [← h]; exact ho), fun i j o o' L L' ho ho' => hs.inj i j o o' L L' (by rw [← h]; exact ho) (by rw [← h]; exact ho'), fun i hi => hs.fit i (by omega)⟩

theorem Fr.congr {os1 os2 : Objs} {σ1 : Locs} {S1 : Fz} {w1 : World} (hf : Fr n0 os σ S w os1 σ1 S1 w1) (hl : os2.length = os1.length) (h : ∀ k, obj os2 k = obj os1 k) : Fr n0 os σ S w os2 σ1 S1 w1 :=
  ⟨hf.le, hf.loc, by rw [hl]; exact hf.len, fun i hi hd => by rw [h]; exact hf.dead i hi hd, hf.size, hf.so, hf.tape, hf.output, hf.keep, fun b ⟨i, o, L, ho, hL, hb⟩ => hf.own b ⟨i, o, L, by rw [← h]; exact ho, hL, hb⟩⟩

theorem FrameSim.congr {fr fr' : List SV} {a : Act} (hf : FrameSim S σ fr a) (hl : fr'.length = fr.length) (h : ∀ t, nth fr' t = nth fr t) : FrameSim S σ fr' a :=
  ⟨fun t => by rw [h]; exact hf.rel t, by rw [hl]; exact hf.len, hf.defers⟩

/-! ### What the checks say -/
theorem cOps_at {all : Array Oper} : ∀ (r : List Oper) (l : List SOper), cOps P all r = some l → l.length = r.length ∧ ∀ (j : Nat) (o : Oper), r[j]? = some o → ∃ s, l[j]? = some s ∧ s.dst = o.dst ∧ s.op = cOpB P o.op ∧
    (match o.guard with | none => s.guard = none | some (j, want) => ∃ t, (all[j]?).bind (·.dst) = some t ∧ s.guard = some (t, want)) ∧ s.preds = (o.after.toList.filter (Region.binds .any)).map (·.on) := by
  intro r
  induction r with
  | nil => intro l h; simp only [cOps, Option.some.injEq] at h; subst h; exact ⟨rfl, fun j o h => by simp at h⟩
  | cons o r ih =>
    intro l h
    obtain ⟨s, l', rfl, h1, h2, h3, h4, h5⟩ := cOps_drop h
    obtain ⟨k1, k2⟩ := ih l' h1
    refine ⟨by simp [k1], fun j o' ho => ?_⟩
    cases j with
    | zero => simp at ho; subst ho; exact ⟨s, rfl, h2, h3, h4, h5⟩
    | succ j => obtain ⟨s', q⟩ := k2 j o' (by simpa using ho); exact ⟨s', by simpa using q.1, q.2⟩

theorem closure_spec : ∀ (l : List SOper) (acc : List (List Nat)), (∀ p, p < acc.length → (closure l acc).getD p [] = acc.getD p []) ∧
    ∀ (j : Nat) (so : SOper), l[j]? = some so → ∀ x ∈ (closure l acc).getD (acc.length + j) [], x ∈ so.preds ∨ ∃ p ∈ so.preds, p < acc.length + j ∧ x ∈ (closure l acc).getD p [] := by
  intro l
  induction l with
  | nil => intro acc; exact ⟨fun p _ => rfl, fun j so h => by simp at h⟩
  | cons o r ih =>
    intro acc
    simp only [closure]
    obtain ⟨h1, h2⟩ := ih (acc ++ [(allPreds acc o.preds).eraseDups])
    have hlen : (acc ++ [(allPreds acc o.preds).eraseDups]).length = acc.length + 1 := by simp
    have hacc : ∀ p, p < acc.length → (closure r (acc ++ [(allPreds acc o.preds).eraseDups])).getD p [] = acc.getD p [] := fun p hp => by
      rw [h1 p (by omega), List.getD_eq_getElem?_getD, List.getD_eq_getElem?_getD, List.getElem?_append_left hp]
    refine ⟨hacc, fun j so hj x hx => ?_⟩
    cases j with
    | zero =>
      simp at hj
      subst hj
      rw [Nat.add_zero, h1 acc.length (by omega), List.getD_eq_getElem?_getD, List.getElem?_append_right (Nat.le_refl _)] at hx
      simp [allPreds] at hx
      rcases hx with hx | ⟨p, hp, hx⟩
      · exact .inl hx
      · refine .inr ⟨p, hp, ?_, ?_⟩
        · rcases Nat.lt_or_ge p acc.length with h | h
          · omega
          · rw [List.getElem?_eq_none h] at hx; simp at hx
        · have hlt : p < acc.length := by
            rcases Nat.lt_or_ge p acc.length with h | h
            · exact h
            · rw [List.getElem?_eq_none h] at hx; simp at hx
          rw [hacc p hlt, List.getD_eq_getElem?_getD]
          exact hx
    | succ j =>
      have e : acc.length + (j + 1) = (acc ++ [(allPreds acc o.preds).eraseDups]).length + j := by rw [hlen]; omega
      rw [e] at hx ⊢
      exact h2 j so (by simpa using hj) x hx

theorem usesOk_at {l : List SOper} {ps : List (List Nat)} (h : usesOk l ps = true) {i j : Nat} {a b : SOper} (hij : i < j) (hi : l[i]? = some a) (hj : l[j]? = some b) (hn : i ∉ ps.getD j []) :
    (∀ d, a.dst = some d → d ∉ b.uses ∧ b.dst ≠ some d) ∧ ∀ d, b.dst = some d → d ∉ a.uses := by
  have hjl : j < l.length := by
    rcases Nat.lt_or_ge j l.length with h | h
    · exact h
    · rw [List.getElem?_eq_none h] at hj; cases hj
  unfold usesOk at h
  have := List.all_eq_true.1 (List.all_eq_true.1 h j (List.mem_range.2 hjl)) i (List.mem_range.2 hij)
  rw [hi, hj] at this
  simp only [Bool.or_eq_true, List.contains_iff_mem] at this
  rcases this with h | h
  · exact absurd h hn
  · simp only [Bool.and_eq_true] at h
    obtain ⟨h1, h2⟩ := h
    refine ⟨fun d hd => ?_, fun d hd => ?_⟩
    · rw [hd] at h1
      simp only [Bool.and_eq_true, Bool.not_eq_true', bne_iff_ne, ne_eq] at h1
      exact ⟨by simpa using h1.1, h1.2⟩
    · rw [hd] at h2
      simpa using h2

theorem disjoint_at {a b : List Nat} (h : disjoint a b = true) {x : Nat} (hx : x ∈ a) : x ∉ b := by
  have := List.all_eq_true.1 h x hx
  simpa using this

theorem footOk_at {ds : List DStep} {ps : List (List Nat)} (h : footOk ps ds = true) {i j : Nat} {a b : DStep} (hij : i < j) (hi : ds[i]? = some a) (hj : ds[j]? = some b) (hn : i ∉ ps.getD j []) :
    (∀ k ∈ a.wr, k ∉ b.rd) ∧ (∀ k ∈ a.wr, k ∉ b.wr) ∧ ∀ k ∈ a.rd, k ∉ b.wr := by
  have hjl : j < ds.length := by
    rcases Nat.lt_or_ge j ds.length with h | h
    · exact h
    · rw [List.getElem?_eq_none h] at hj; cases hj
  unfold footOk at h
  have := List.all_eq_true.1 (List.all_eq_true.1 h j (List.mem_range.2 hjl)) i (List.mem_range.2 hij)
  rw [hi, hj] at this
  simp only [Bool.or_eq_true, List.contains_iff_mem] at this
  rcases this with h | h
  · exact absurd h hn
  · unfold Foot.apart DStep.foot at h
    simp only [Bool.and_eq_true] at h
    exact ⟨fun k hk => disjoint_at h.1.1 hk, fun k hk => disjoint_at h.1.2 hk, fun k hk => disjoint_at h.2 hk⟩

theorem ordered_at : ∀ {l : List SOper} {i : Nat}, ordered l i = true → ∀ (j : Nat) (so : SOper), l[j]? = some so → ∀ p ∈ so.preds, p < i + j := by
  intro l
  induction l with
  | nil => intro i _ j so h; simp at h
  | cons o r ih =>
    intro i h j so hj p hp
    simp only [ordered, Bool.and_eq_true] at h
    cases j with
    | zero =>
      simp at hj
      subst hj
      have := List.all_eq_true.1 h.1 p hp
      simpa using this
    | succ j =>
      have := ih h.2 j so (by simpa using hj) p hp
      omega
end
end Go.Ev

/- Regions whose order is open, last part: every order comes to the same. -/
namespace Go.Ev

section
variable {P : Program} {mm : Bool} {call : CallT} {n0 : Nat} {G : Globs}

theorem region_ok (hm : P.follows .mixedOrders = true) (hcall : CallOK P G call) : RegionOK P G mm call n0 := by
  intro id ops draw l st st' S0 σ0 a0 w0 hl he hG0 hs0 hn0
  cases draw with
  | false =>
    simp only [evRegion, Bool.false_eq_true, if_false] at he
    refine wp_region ?_
    rw [List.range_eq_range']
    have := ops_ok (P := P) (mm := mm) (n0 := n0) hcall (ops := ops) (Q := CodeQ n0 st.objs σ0 S0 w0 .n st') ops.toList l 0 st st' S0 σ0 a0 w0 rfl hl he hG0 hs0 hn0 fun a' w' hL => ⟨rfl, hL.len, hL⟩
    simpa using this
  | true =>
    simp only [evRegion, if_true] at he
    generalize hps : closure l [] = ps at he
    split at he
    · rename_i hchk
      simp only [Bool.and_eq_true] at hchk
      obtain ⟨hord, huses⟩ := hchk
      split at he
      · rename_i st1 ds hev
        split at he
        · rename_i hfoot
          cases he
          obtain ⟨hdl, hch, hst', hat⟩ := evDraw_at l st st' ds 0 hev
          obtain ⟨hll, hops⟩ := cOps_at (P := P) ops.toList l hl
          have hcl := (closure_spec l []).2
          rw [hps] at hcl
          simp only [List.length_nil, Nat.zero_add] at hcl
          -- the first world
          have hgrow : ∀ b, b < w0.heap.size → ({ w0 with drawn := w0.drawn + 1 } : World).heap[b]? = w0.heap[b]? := fun _ _ => rfl
          -- the invariant
          let stF (E : Nat → Bool) : St := stE E ds 0 st
          let Inv (E : Nat → Bool) (a : Act) (w : World) : Prop := ∃ S σ, Sim S σ (stF E) a w ∧ Fr n0 st.objs σ0 S0 w0 (stF E).objs σ S w ∧ ∀ (j : Nat) (d : DStep), ds[j]? = some d → E j = false → ∀ k, d.n ≤ k → k < d.objs.length → σ k = none
          have spec := fun E => stE_spec E ds 0 st hch
          have hlenO : ∀ E E', (stF E).objs.length = (stF E').objs.length := fun E E' => by rw [(spec E).2.1, (spec E').2.1]
          have hlenF : ∀ E, (stF E).fr.length = st.fr.length := fun E => (spec E).2.2.2
          -- chains: lengths
          have hchn : ∀ (ds : List DStep) (n : Nat), Chain ds n → n ≤ lastN ds n ∧ ∀ (j : Nat) (d : DStep), ds[j]? = some d → n ≤ d.n ∧ d.objs.length ≤ lastN ds n ∧ d.n ≤ lastN ds n := by
            intro ds
            induction ds with
            | nil => intro n _; exact ⟨Nat.le_refl _, fun j d h => by simp at h⟩
            | cons d r ih =>
              intro n ⟨c1, c2, c3⟩
              obtain ⟨i1, i2⟩ := ih _ c3
              refine ⟨by simp only [lastN]; omega, fun j d' hd => ?_⟩
              simp only [lastN]
              cases j with
              | zero => simp at hd; subst hd; exact ⟨by omega, by omega, by omega⟩
              | succ j => obtain ⟨k1, k2, k3⟩ := i2 j d' (by simpa using hd); exact ⟨by omega, k2, k3⟩
          have hchr : ∀ (ds : List DStep) (n : Nat), Chain ds n → ∀ (i j : Nat) (d d' : DStep), ds[i]? = some d → ds[j]? = some d' → i < j → d.objs.length ≤ d'.n := by
            intro ds
            induction ds with
            | nil => intro n _ i j d d' h; simp at h
            | cons d0 r ih =>
              intro n ⟨c1, c2, c3⟩ i j d d' hi hj hij
              cases j with
              | zero => omega
              | succ j =>
                cases i with
                | zero =>
                  simp at hi hj
                  subst hi
                  have := ((hchn r _ c3).2 j d' hj).1
                  omega
                | succ i => exact ih _ c3 i j d d' (by simpa using hi) (by simpa using hj) (by omega)
          have hallN := hchn ds st.objs.length hch
          -- one operation
          have stepInv : ∀ (E : Nat → Bool) (j : Nat) (o : Oper) (so : SOper) (a : Act) (w : World) (K : Act → World → Prop), ops[j]? = some o → l[j]? = some so → so.dst = o.dst → so.op = cOpB P o.op →
              (match o.guard with | none => so.guard = none | some (j, want) => ∃ t, (ops[j]?).bind (·.dst) = some t ∧ so.guard = some (t, want)) → E j = false → (∀ i, i < j → E i = false → i ∉ ps.getD j []) → (∀ i, j < i → E i = true → j ∉ ps.getD i []) →
              Inv E a w → (∀ a' w', Inv (fun i => E i || decide (i = j)) a' w' → K a' w') → wpOp P ops (CodeQ n0 st.objs σ0 S0 w0 .n st') j K a w := by
            intro E j o so a w K hoj hso hdst hop hgd hEj hA hB hI hK
            obtain ⟨S, σ, hsim, hfr, hfree⟩ := hI
            obtain ⟨d, s1, hd, hok, hs1l, hs1o, hs1f⟩ := hat j so hso
            simp only [Nat.zero_add] at hs1o hs1f
            have hdd : d.dst = o.dst := hok.dst.trans hdst
            -- pairs
            have pairA : ∀ {i : Nat} {di : DStep}, ds[i]? = some di → i < j → E i = false → (∀ t, di.dst = some t → t ∉ so.uses ∧ d.dst ≠ some t) ∧ (∀ k ∈ di.wr, k ∉ d.rd) := by
              intro i di hdi hij hEi
              have hil : i < l.length := by rw [← hdl]; exact (List.getElem?_eq_some_iff.1 hdi).1
              obtain ⟨di', si, hdi', hoki, _⟩ := hat i l[i] (List.getElem?_eq_getElem hil)
              rw [hdi] at hdi'; cases hdi'
              have hu := usesOk_at huses hij (List.getElem?_eq_getElem hil) hso (hA i hij hEi)
              have hf := footOk_at hfoot hij hdi hd (hA i hij hEi)
              refine ⟨fun t ht => ?_, hf.1⟩
              rw [hoki.dst] at ht
              rw [hok.dst]
              exact hu.1 t ht
            have pairB : ∀ {i : Nat} {di : DStep}, ds[i]? = some di → j < i → E i = true → (∀ t, di.dst = some t → t ∉ so.uses ∧ d.dst ≠ some t) ∧ (∀ k ∈ di.wr, k ∉ d.rd) ∧ (∀ k ∈ d.wr, k ∉ di.wr) := by
              intro i di hdi hij hEi
              have hil : i < l.length := by rw [← hdl]; exact (List.getElem?_eq_some_iff.1 hdi).1
              obtain ⟨di', si, hdi', hoki, _⟩ := hat i l[i] (List.getElem?_eq_getElem hil)
              rw [hdi] at hdi'; cases hdi'
              have hu := usesOk_at huses hij hso (List.getElem?_eq_getElem hil) (hB i hij hEi)
              have hf := footOk_at hfoot hij hd hdi (hB i hij hEi)
              refine ⟨fun t ht => ?_, fun k hk hk2 => hf.2.2 k hk2 hk, hf.2.1⟩
              rw [hoki.dst] at ht
              refine ⟨hu.2 t ht, fun h => ?_⟩
              rw [hok.dst] at h
              exact (hu.1 t h).2 ht
            -- what the operation looks at is as in the list's order
            have looksS : ∀ t ∈ so.uses, nth (stF E).fr t = nth s1.fr t := by
              intro t ht
              rw [(spec E).2.2.1 t, hs1f t]
              split
              · refine curS_congr ds 0 _ fun i di hdi hne hdt => ?_
                simp only [Nat.zero_add] at hne
                rcases Nat.lt_or_ge i j with h | h
                · have hEi : E i = false := by simpa [h] using hne
                  exact ((pairA hdi h hEi).1 t hdt).1 ht
                · have hEi : E i = true := by simpa [Nat.not_lt.2 h] using hne
                  have hij : j < i := by
                    rcases Nat.lt_or_ge j i with h' | h'
                    · exact h'
                    · have : i = j := by omega
                      subst this; rw [hEj] at hEi; cases hEi
                  exact ((pairB hdi hij hEi).1 t hdt).1 ht
              · rfl
            have looksO : ∀ k ∈ d.rd, obj (stF E).objs k = obj s1.objs k := by
              intro k hk
              rw [(spec E).1 k, hs1o k]
              refine curO_congr ds 0 _ fun i di hdi hne hdt => ?_
              simp only [Nat.zero_add] at hne
              rcases Nat.lt_or_ge i j with h | h
              · have hEi : E i = false := by simpa [h] using hne
                exact (pairA hdi h hEi).2 k hdt hk
              · have hEi : E i = true := by simpa [Nat.not_lt.2 h] using hne
                have hij : j < i := by
                  rcases Nat.lt_or_ge j i with h' | h'
                  · exact h'
                  · have : i = j := by omega
                    subst this; rw [hEj] at hEi; cases hEi
                exact (pairB hdi hij hEi).2.1 k hdt hk
            -- behind it
            let E' : Nat → Bool := fun i => E i || decide (i = j)
            have hE'j : E' j = true := by simp [E']
            have hE'o : ∀ i, i ≠ j → E' i = E i := fun i hi => by simp [E', hi]
            have newO : ∀ k, obj (stF E').objs k = if k ∈ d.wr then obj d.objs k else obj (stF E).objs k := by
              intro k
              rw [(spec E').1 k, (spec E).1 k]
              split
              · rename_i hk
                refine curO_last ds 0 j d _ hd (by simpa using hE'j) hk fun i di hij hdi hEi => ?_
                simp only [Nat.zero_add] at hEi
                rw [hE'o i (by omega)] at hEi
                exact (pairB hdi hij hEi).2.2 k hk
              · rename_i hk
                refine curO_congr ds 0 _ fun i di hdi hne => ?_
                simp only [Nat.zero_add] at hne
                have hij : i = j := by
                  by_cases h : i = j
                  · exact h
                  · exact absurd (hE'o i h) hne
                subst hij
                rw [hd] at hdi; cases hdi
                exact hk
            have newS : ∀ t, nth (stF E').fr t = nth (put (stF E).fr o.dst d.sv) t := by
              intro t
              rw [nth_put, hlenF, (spec E').2.2.1 t, (spec E).2.2.1 t]
              split
              · rename_i ht
                split
                · rename_i hdt
                  refine curS_last ds 0 j d _ hd (by simpa using hE'j) (hdd.trans hdt) fun i di hij hdi hEi hdi2 => ?_
                  simp only [Nat.zero_add] at hEi
                  rw [hE'o i (by omega)] at hEi
                  exact ((pairB hdi hij hEi).1 t hdi2).2 (hdd.trans hdt)
                · rename_i hdt
                  refine curS_congr ds 0 _ fun i di hdi hne => ?_
                  simp only [Nat.zero_add] at hne
                  have hij : i = j := by
                    by_cases h : i = j
                    · exact h
                    · exact absurd (hE'o i h) hne
                  subst hij
                  rw [hd] at hdi; cases hdi
                  rw [hdd]; exact hdt
              · rfl
            have newF : ∀ {S2 : Fz} {σ2 : Locs} {v : Value}, FrameSim S2 σ2 (stF E).fr a → relS S2 σ2 d.sv v → FrameSim S2 σ2 (stF E').fr (a.put o.dst v) := fun hf hv => (hf.put o.dst hv).congr (by rw [put_length, hlenF, hlenF]) newS
            -- is it wanted?
            have hwant : wants (stF E).fr so.guard = wants s1.fr so.guard := by
              cases hg : so.guard with
              | none => rfl
              | some p =>
                obtain ⟨t, want⟩ := p
                have : t ∈ so.uses := by simp [SOper.uses, hg]
                simp only [wants, looksS t this]
            unfold wpOp
            rw [hoj]
            simp only
            rcases hok.how with ⟨h1, h2, h3, h4, h5⟩ | ⟨h1, y, h2, h3, h4, h5, h6, h7, h8, h9, h10⟩
            · have hww := wants_ok hsim.frame hgd (hwant.trans h1)
              rw [if_neg (by simp [hww])]
              refine hK _ _ ⟨S, σ, ⟨?_, ?_⟩, ?_, ?_⟩
              · exact hsim.heap.congr (hlenO _ _) fun k => by rw [newO k, h4]; simp
              · exact newF hsim.frame (h2 ▸ void_undef)
              · exact hfr.congr (hlenO _ _) fun k => by rw [newO k, h4]; simp
              · intro i di hdi hEi k hk1 hk2
                refine hfree i di hdi ?_ k hk1 hk2
                simp at hEi
                exact hEi.1
            · have hww := wants_ok hsim.frame hgd (hwant.trans h1)
              rw [if_pos hww]
              left
              have hN : d.n = s1.objs.length := hok.n
              -- the frame that it saw
              have hfS : FrameSim S (fun i => if i < s1.objs.length then σ i else none) (scrub so.uses 0 s1.fr) a := by
                refine ⟨fun t => ?_, ?_, hsim.frame.defers⟩
                · have hids : ∀ i ∈ (nth (scrub so.uses 0 s1.fr) t).ids, i < s1.objs.length := by
                    intro i hi
                    refine h6 i (List.mem_flatMap.2 ⟨nth (scrub so.uses 0 s1.fr) t, ?_, hi⟩)
                    rw [nth_eq, List.getD_eq_getElem?_getD] at hi ⊢
                    cases hq : (scrub so.uses 0 s1.fr)[t]? with
                    | none => rw [hq] at hi; simp [SV.ids] at hi
                    | some x => exact List.mem_of_getElem? hq
                  refine relS_ids (σ := σ) (fun i hi => by simp [hids i hi]) ?_
                  rw [nth_scrub', Nat.zero_add]
                  split
                  · rename_i hc
                    rw [← looksS t (by simpa using hc)]
                    exact hsim.frame.rel t
                  · exact trivial
                · rw [scrub_length, hs1l]
                  have := hsim.frame.len
                  rwa [hlenF] at this
              -- the objects that it saw
              have hmk : ∀ k, obj (mask d.rd 0 s1.objs) k = if k ∈ d.rd then obj (stF E).objs k else none := by
                intro k
                rw [(mask_spec d.rd s1.objs 0).2 k, Nat.zero_add]
                by_cases hk : k ∈ d.rd
                · rw [if_pos (by simpa using hk), if_pos hk, looksO k hk]
                · rw [if_neg (by simpa using hk), if_neg hk]
              have hml : (mask d.rd 0 s1.objs).length = s1.objs.length := (mask_spec d.rd s1.objs 0).1
              have hhS : HeapSim S (fun i => if i < s1.objs.length then σ i else none) (mask d.rd 0 s1.objs) w := by
                have hlt : ∀ {k : Nat} {x : LObj}, obj (mask d.rd 0 s1.objs) k = some x → k < s1.objs.length ∧ obj (stF E).objs k = some x := fun {k x} hx => by
                  refine ⟨by rw [← hml]; exact obj_lt hx, ?_⟩
                  rw [hmk] at hx
                  split at hx
                  · exact hx
                  · cases hx
                refine ⟨hsim.heap.frz, fun k x hx => ?_, fun i k x x' L L' hx hx' hL hL' hb => ?_, fun i hi => ?_⟩
                · obtain ⟨q1, q2⟩ := hlt hx
                  obtain ⟨L, p1, p2, p3⟩ := hsim.heap.ob k x q2
                  refine ⟨L, by simp [q1, p1], obj_ids (σ := σ) (fun i hi => ?_) p2, p3⟩
                  have : i < s1.objs.length := by
                    refine h7 i (List.mem_flatMap.2 ⟨some x, ?_, hi⟩)
                    have : (mask d.rd 0 s1.objs)[k]? = some (some x) := by
                      unfold obj at hx
                      split at hx
                      · rename_i o' ho'; cases hx; exact ho'
                      · cases hx
                    exact List.mem_of_getElem? this
                  simp [this]
                · obtain ⟨q1, q2⟩ := hlt hx
                  obtain ⟨q3, q4⟩ := hlt hx'
                  simp [q1] at hL
                  simp [q3] at hL'
                  exact hsim.heap.inj i k x x' L L' q2 q4 hL hL' hb
                · rw [hml] at hi
                  simp [Nat.not_lt.2 hi]
              rw [hop] at h2
              refine (ok_op hfS.opd hhS (hfr.le.g.trans hG0) hcall h2).wp fun v w' hpost => ?_
              obtain ⟨S', σ', q1, q2, q3⟩ := hpost
              rw [hml] at q3
              have hlast := (hallN.2 j d hd)
              have hos : (stF E').objs.length = (stF E).objs.length := hlenO _ _
              have hEl : (stF E).objs.length = lastN ds st.objs.length := (spec E).2.1
              have hcomb := combine (n0 := n0) (q := d.rd) (os' := (stF E').objs) hsim.heap hmk hml (by rw [← hN]; have := hlast.1; omega) q1 q2 q3 (by rw [← h4, hEl]; exact hlast.2.1) (fun k k1 k2 => hfree j d hd hEj k (by rw [hN]; exact k1) (by rw [h4]; exact k2)) hos (fun k => by
                rw [newO k, h4]
                by_cases hk : k ∈ d.wr
                · rw [if_pos hk, if_pos (h8 k hk)]
                · rw [if_neg hk]
                  split
                  · rename_i hc
                    rcases hc with ⟨c1, c2⟩ | ⟨c1, c2⟩
                    · rw [h10 k c1 c2 hk, looksO k c1]
                    · exact absurd (h9 k c1 c2) hk
                  · rfl)
              obtain ⟨c1, c2, c3, c4⟩ := hcomb
              refine hK _ _ ⟨S', _, ⟨c1, newF (hsim.frame.mono q3.le c4) (h3 ▸ c2)⟩, hfr.trans c3, ?_⟩
              intro i di hdi hEi k hk1 hk2
              simp only [Bool.or_eq_false_iff, decide_eq_false_iff_not] at hEi
              have hout : ¬ (s1.objs.length ≤ k ∧ k < y.objs.length) := by
                rintro ⟨r1, r2⟩
                rcases Nat.lt_or_ge i j with h | h
                · have := hchr ds _ hch i j di d hdi hd h
                  omega
                · have hij : j < i := by omega
                  have := hchr ds _ hch j i d di hd hdi hij
                  rw [h4] at this
                  omega
              simp only [if_neg hout]
              exact hfree i di hdi hEi.1 k hk1 hk2
          -- closed sets
          have down : ∀ (E : Nat → Bool), (∀ (i : Nat) (so : SOper), l[i]? = some so → E i = true → ∀ p ∈ so.preds, E p = true) → ∀ (n i : Nat) (so : SOper), i < n → l[i]? = some so → (∀ p ∈ so.preds, E p = true) → ∀ x ∈ ps.getD i [], E x = true := by
            intro E hE n
            induction n with
            | zero => intro i so h; omega
            | succ n ih =>
              intro i so hi hso hp x hx
              rcases hcl i so hso x hx with h | ⟨p, h1, h2, h3⟩
              · exact hp x h
              · have hpl : p < l.length := by
                  have := (List.getElem?_eq_some_iff.1 hso).1
                  omega
                exact ih p l[p] (by omega) (List.getElem?_eq_getElem hpl) (hE p l[p] (List.getElem?_eq_getElem hpl) (hp p h1)) x h3
          -- all orders
          have all : ∀ (fuel : Nat) (listed : Array Bool) (a : Act) (w : World), listed.size = ops.size → (((List.range ops.size).filter fun i => !listed.getD i false).length = fuel) →
              (∀ (i : Nat) (so : SOper), l[i]? = some so → listed.getD i false = true → ∀ p ∈ so.preds, listed.getD p false = true) → Inv (fun i => listed.getD i false) a w →
              wpAny P .any ops (CodeQ n0 st.objs σ0 S0 w0 .n st') fuel listed a w := by
            intro fuel
            induction fuel with
            | zero =>
              intro listed a w hsz hcnt hdown hI
              have hall : ∀ i, i < ops.size → listed.getD i false = true := by
                intro i hi
                have hnil := List.eq_nil_of_length_eq_zero hcnt
                rw [List.filter_eq_nil_iff] at hnil
                simpa using hnil i (List.mem_range.2 hi)
              have hready : Region.ready .any ops listed = [] := by
                apply List.eq_nil_iff_forall_not_mem.2
                intro i hi
                rw [mem_ready] at hi
                obtain ⟨h1, o, ho, _⟩ := hi
                have hlt := (Array.getElem?_eq_some_iff.1 ho).1
                have := hall i hlt
                simp [Array.getElem?_eq_getElem (show i < listed.size by omega)] at h1 this
                rw [h1] at this; cases this
              refine ⟨hready, ?_⟩
              obtain ⟨S, σ, h1, h2, _⟩ := hI
              have heqO : ∀ k, obj (stF fun i => listed.getD i false).objs k = obj st'.objs k := by
                intro k
                rw [hst', (spec _).1 k, (spec (fun _ => true)).1 k]
                refine curO_congr ds 0 _ fun i di hdi hne => ?_
                have hlt : i < ops.size := by
                  have := (List.getElem?_eq_some_iff.1 hdi).1
                  rw [hdl, hll] at this; simpa using this
                simp only [Nat.zero_add] at hne
                exact absurd (hall i hlt) hne
              have heqS : ∀ t, nth st'.fr t = nth (stF fun i => listed.getD i false).fr t := by
                intro t
                rw [hst', (spec (fun _ => true)).2.2.1 t, (spec (fun i => listed.getD i false)).2.2.1 t]
                split
                · refine curS_congr ds 0 _ fun i di hdi hne => ?_
                  have hlt : i < ops.size := by
                    have := (List.getElem?_eq_some_iff.1 hdi).1
                    rw [hdl, hll] at this; simpa using this
                  simp only [Nat.zero_add] at hne
                  exact absurd (hall i hlt).symm hne
                · rfl
              have hlo : st'.objs.length = (stF fun i => listed.getD i false).objs.length := by rw [hst']; exact hlenO _ _
              have hlf : st'.fr.length = (stF fun i => listed.getD i false).fr.length := by rw [hst']; exact (hlenF _).trans (hlenF _).symm
              have hfin : Fr n0 st.objs σ0 S0 w0 st'.objs σ S w := h2.congr hlo fun k => (heqO k).symm
              exact ⟨rfl, hfin.len, S, σ, ⟨h1.heap.congr hlo fun k => (heqO k).symm, h1.frame.congr hlf heqS⟩, hfin⟩
            | succ fuel ih =>
              intro listed a w hsz hcnt hdown hI
              have hgetT : ∀ i, i < ops.size → listed.getD i true = listed.getD i false := fun i hi => by
                simp [Array.getElem?_eq_getElem (show i < listed.size by omega)]
              refine ⟨fun hready => ?_, fun j hj => ?_⟩
              · -- there is one that is ready
                exfalso
                have hex : ∃ i, i < ops.size ∧ listed.getD i false = false := by
                  cases hf : (List.range ops.size).filter fun i => !listed.getD i false with
                  | nil => rw [hf] at hcnt; simp at hcnt
                  | cons i r =>
                    have hi : i ∈ (List.range ops.size).filter fun i => !listed.getD i false := by rw [hf]; simp
                    rw [List.mem_filter] at hi
                    exact ⟨i, List.mem_range.1 hi.1, by simpa using hi.2⟩
                have hmin : ∀ n, (∃ i, i < n ∧ i < ops.size ∧ listed.getD i false = false) → ∃ i, i < ops.size ∧ listed.getD i false = false ∧ ∀ k, k < i → listed.getD k false = true := by
                  intro n
                  induction n with
                  | zero => rintro ⟨i, h, _⟩; omega
                  | succ n ihn =>
                    rintro ⟨i, h1, h2, h3⟩
                    by_cases hc : ∃ i, i < n ∧ i < ops.size ∧ listed.getD i false = false
                    · exact ihn hc
                    · refine ⟨i, h2, h3, fun k hk => ?_⟩
                      cases hq : listed.getD k false with
                      | true => rfl
                      | false => exact absurd ⟨k, by omega, by omega, hq⟩ hc
                obtain ⟨i, hi, hif⟩ := hex
                obtain ⟨j, hj, hjf, hjm⟩ := hmin (i + 1) ⟨i, Nat.lt_succ_self i, hi, hif⟩
                have hoj : ops[j]? = some ops[j] := Array.getElem?_eq_getElem hj
                obtain ⟨so, hso, _, _, _, hpr⟩ := hops j ops[j] (by simp [hoj])
                have : j ∈ Region.ready .any ops listed := by
                  rw [mem_ready]
                  refine ⟨by rw [hgetT j hj]; exact hjf, ops[j], hoj, fun e he hb => ?_⟩
                  have hp : e.on ∈ so.preds := by
                    rw [hpr]
                    exact List.mem_map.2 ⟨e, List.mem_filter.2 ⟨by simpa using he, hb⟩, rfl⟩
                  have := ordered_at hord j so hso e.on hp
                  exact hjm e.on (by omega)
                rw [hready] at this
                cases this
              · rw [mem_ready] at hj
                obtain ⟨hj1, o, hoj, hj2⟩ := hj
                have hjlt : j < ops.size := (Array.getElem?_eq_some_iff.1 hoj).1
                obtain ⟨so, hso, hs1, hs2, hs3, hs4⟩ := hops j o (by simpa using hoj)
                have hjf : listed.getD j false = false := by rw [← hgetT j hjlt]; exact hj1
                have hpj : ∀ p ∈ so.preds, listed.getD p false = true := by
                  intro p hp
                  rw [hs4] at hp
                  obtain ⟨e, he, rfl⟩ := List.mem_map.1 hp
                  rw [List.mem_filter] at he
                  exact hj2 e (by simpa using he.1) he.2
                refine stepInv (fun i => listed.getD i false) j o so a w _ hoj hso hs1 hs2 hs3 hjf (fun i hij hEi hmem => ?_) (fun i hij hEi hmem => ?_) hI fun a' w' hI' => ?_
                · have := down (fun i => listed.getD i false) hdown (j + 1) j so (Nat.lt_succ_self j) hso hpj i hmem
                  rw [this] at hEi; cases hEi
                · have hil : i < l.length := by
                    rcases Nat.lt_or_ge i l.length with h | h
                    · exact h
                    · exfalso
                      have hge : ops.size ≤ i := by rw [hll] at h; simpa using h
                      rw [Array.getD_eq_getD_getElem?, Array.getElem?_eq_none (by omega)] at hEi
                      cases hEi
                  have := down (fun i => listed.getD i false) hdown (i + 1) i l[i] (Nat.lt_succ_self i) (List.getElem?_eq_getElem hil) (hdown i l[i] (List.getElem?_eq_getElem hil) hEi) j hmem
                  rw [this] at hjf; cases hjf
                · have hEE : (fun i => (listed.setIfInBounds j true).getD i false) = fun i => (fun i => listed.getD i false) i || decide (i = j) := by
                    funext i
                    by_cases hij : j = i
                    · subst hij
                      simp [show j < listed.size by omega]
                    · rw [getD_set_ne false hij]
                      simp [Ne.symm hij]
                  refine ih _ a' w' (by simp [hsz]) ?_ ?_ (by rw [hEE]; exact hI')
                  · have hfe : (fun i => !(listed.setIfInBounds j true).getD i false) = fun i => (!listed.getD i false) && decide (i ≠ j) := by
                      funext i
                      have := congrFun hEE i
                      simp only at this
                      rw [this]
                      by_cases hij : i = j <;> simp [hij]
                    rw [hfe]
                    have hcount : ∀ (xs : List Nat), xs.Nodup → j ∈ xs → (xs.filter fun i => !listed.getD i false).length = (xs.filter fun i => (!listed.getD i false) && decide (i ≠ j)).length + 1 := by
                      intro xs
                      induction xs with
                      | nil => intro _ h; cases h
                      | cons x xs ihx =>
                        intro hnd hm'
                        rw [List.nodup_cons] at hnd
                        by_cases hxj : x = j
                        · subst hxj
                          have hno : ∀ i ∈ xs, i ≠ x := fun i hi h => hnd.1 (h ▸ hi)
                          rw [List.filter_cons_of_pos (by simp [hjf]), List.filter_cons_of_neg (by simp), List.length_cons]
                          congr 2
                          refine List.filter_congr fun i hi => ?_
                          simp [hno i hi]
                        · have hmx : j ∈ xs := by
                            rcases List.mem_cons.1 hm' with h | h
                            · exact absurd h.symm hxj
                            · exact h
                          have := ihx hnd.2 hmx
                          by_cases hl' : listed.getD x false = true
                          · rw [List.filter_cons_of_neg (by simp [hl']), List.filter_cons_of_neg (by simp [hl'])]; exact this
                          · rw [List.filter_cons_of_pos (by simpa using hl'), List.filter_cons_of_pos (by simp only [Bool.and_eq_true]; exact ⟨by simpa using hl', by simp [hxj]⟩)]
                            simp only [List.length_cons, this]
                    have := hcount (List.range ops.size) List.nodup_range (List.mem_range.2 hjlt)
                    omega
                  · intro i si hsi hEi p hp
                    have h1 := congrFun hEE i
                    have h2 := congrFun hEE p
                    simp only at h1 h2
                    rw [h1] at hEi
                    rw [h2]
                    simp only [Bool.or_eq_true, decide_eq_true_eq] at hEi ⊢
                    rcases hEi with h | h
                    · exact .inl (hdown i si hsi h p hp)
                    · subst h
                      rw [hso] at hsi; cases hsi
                      exact .inl (hpj p hp)
          have hE0 : ∀ i, (Array.replicate ops.size false).getD i false = false := fun i => by
            rw [Array.getD_eq_getD_getElem?, Array.getElem?_replicate]
            split <;> rfl
          refine wp_region_any hm (all ops.size (Array.replicate ops.size false) a0 _ (by simp) ?_ ?_ ?_)
          · have : ((List.range ops.size).filter fun i => !(Array.replicate ops.size false).getD i false) = List.range ops.size := by
              rw [List.filter_eq_self]
              intro i hi
              rw [hE0 i]; rfl
            rw [this]; simp
          · intro i so _ h
            exfalso
            rw [hE0 i] at h
            cases h
          · have h0O : ∀ k, obj (stF fun i => (Array.replicate ops.size false).getD i false).objs k = obj st.objs k := fun k => by
              rw [(spec _).1 k]; exact curO_none ds 0 _ fun j => hE0 _
            have h0S : ∀ t, nth (stF fun i => (Array.replicate ops.size false).getD i false).fr t = nth st.fr t := fun t => by
              rw [(spec _).2.2.1 t]
              split
              · exact curS_none ds 0 _ fun j => hE0 _
              · rename_i h; rw [nth_eq, List.getD_eq_getElem?_getD, List.getElem?_eq_none (Nat.le_of_not_lt h)]; rfl
            have hge : st.objs.length ≤ (stF fun i => (Array.replicate ops.size false).getD i false).objs.length := by rw [(spec _).2.1]; exact hallN.1
            have hg := hs0.heap.grown (w' := { w0 with drawn := w0.drawn + 1 }) hgrow
            refine ⟨S0, σ0, ⟨⟨hg.frz, fun i o ho => hg.ob i o (by rw [← h0O]; exact ho), fun i j o o' L L' ho ho' => hg.inj i j o o' L L' (by rw [← h0O]; exact ho) (by rw [← h0O]; exact ho'), fun i hi => hg.fit i (by omega)⟩, hs0.frame.congr (hlenF _) h0S⟩, ?_, ?_⟩
            · have hfg := (Fr.grown (os := st.objs) (σ := σ0) (S := S0) (w := w0) (w' := { w0 with drawn := w0.drawn + 1 }) hgrow (Nat.le_refl _) rfl rfl rfl).mono hn0
              exact ⟨hfg.le, hfg.loc, by omega, fun i hi hd => by rw [h0O]; exact hd, hfg.size, hfg.so, hfg.tape, hfg.output, hfg.keep, fun b ⟨i, o, L, ho, hL, hb⟩ => hfg.own b ⟨i, o, L, by rw [← h0O]; exact ho, hL, hb⟩⟩
            · intro j d hd _ k hk _
              exact hs0.heap.fit k (by have := (hallN.2 j d hd).1; omega)
        · cases he
      · cases he
    · cases he

end
end Go.Ev
