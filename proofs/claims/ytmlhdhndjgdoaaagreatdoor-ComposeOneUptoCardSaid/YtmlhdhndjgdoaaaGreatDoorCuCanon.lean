/- Loop heads: what still lives, in one order. -/
import Derived.Test.YtmlhdhndjgdoaaaGreatDoorCuRun
namespace Go.Ev

/-! ### Values that lead elsewhere -/
section
variable {S : Fz} {σ σ' : Locs}

/-- Where f leads, there it lies. -/
def Follows (f : Nat → Option Nat) (σ σ' : Locs) : Prop := ∀ i j, f i = some j → σ' j = σ i

theorem relA_ren {f : Nat → Option Nat} (hf : Follows f σ σ') {x y : At} {v : Value} (h : x.ren f = some y) (hr : relA S σ x v) : relA S σ' y v := by
  cases x with
  | v x => simp only [At.ren, Option.some.injEq] at h; subst h; exact hr
  | fadr c o => simp only [At.ren, Option.some.injEq] at h; subst h; exact hr
  | _ =>
    simp only [At.ren] at h
    split at h
    · rename_i j hj
      cases h
      obtain ⟨L, hL, hv⟩ := hr
      exact ⟨L, (hf _ _ hj).trans hL, hv⟩
    · cases h

theorem relL_ren {f : Nat → Option Nat} (hf : Follows f σ σ') : ∀ {l m : List At} {vs : List Value}, renL f l = some m → Pw (relA S σ) l vs → Pw (relA S σ') m vs := by
  intro l
  induction l with
  | nil => intro m vs h hp; simp only [renL, Option.some.injEq] at h; subst h; rw [hp.nil_left]; exact Pw.nil
  | cons x l ih =>
    intro m vs h hp
    obtain ⟨v0, vr, rfl, h0, hr⟩ := hp.cons_left
    simp only [renL] at h
    split at h
    · rename_i y r hy hr'
      cases h
      exact Pw.cons (relA_ren hf hy h0) (ih hr' hr)
    · cases h

theorem relT_ren {f : Nat → Option Nat} (hf : Follows f σ σ') {x y : T2} {v : Value} (h : x.ren f = some y) (hr : relT S σ x v) : relT S σ' y v := by
  cases x with
  | a x =>
    simp only [T2.ren] at h
    split at h
    · rename_i z hz; cases h; exact relA_ren hf hz hr
    · cases h
  | agg cs =>
    simp only [T2.ren] at h
    obtain ⟨vs, hv, hp⟩ := hr
    split at h
    · rename_i z hz; cases h; exact ⟨vs, hv, relL_ren hf hz hp⟩
    · cases h

theorem relTs_ren {f : Nat → Option Nat} (hf : Follows f σ σ') : ∀ {l m : List T2} {vs : List Value}, renT f l = some m → Pw (relT S σ) l vs → Pw (relT S σ') m vs := by
  intro l
  induction l with
  | nil => intro m vs h hp; simp only [renT, Option.some.injEq] at h; subst h; rw [hp.nil_left]; exact Pw.nil
  | cons x l ih =>
    intro m vs h hp
    obtain ⟨v0, vr, rfl, h0, hr⟩ := hp.cons_left
    simp only [renT] at h
    split at h
    · rename_i y r hy hr'
      cases h
      exact Pw.cons (relT_ren hf hy h0) (ih hr' hr)
    · cases h

theorem relS_ren {f : Nat → Option Nat} (hf : Follows f σ σ') {x : SV} {v : Value} (hr : relS S σ x v) : relS S σ' (x.ren f) v := by
  cases x with
  | undef => trivial
  | a x =>
    simp only [SV.ren]
    split
    · rename_i y hy; exact relA_ren hf hy hr
    · trivial
  | agg cs =>
    obtain ⟨vs, hv, hp⟩ := hr
    simp only [SV.ren]
    split
    · rename_i y hy; exact ⟨vs, hv, relL_ren hf hy hp⟩
    · trivial
  | tup cs =>
    obtain ⟨vs, hv, hp⟩ := hr
    simp only [SV.ren]
    split
    · rename_i y hy; exact ⟨vs, hv, relTs_ren hf hy hp⟩
    · trivial
  | clo g a b =>
    obtain ⟨va, vb, hv, hp, hq⟩ := hr
    simp only [SV.ren]
    split
    · rename_i y z hy hz; exact ⟨va, vb, hv, relL_ren hf hy hp, relL_ren hf hz hq⟩
    · trivial

theorem renM_at {f : Nat → Option Nat} : ∀ {es es' : List (V × T2)}, renM f es = some es' → es'.length = es.length ∧ ∀ (j : Nat) (k : V) (y : T2), es'[j]? = some (k, y) → ∃ x : T2, es[j]? = some (k, x) ∧ x.ren f = some y := by
  intro es
  induction es with
  | nil => intro es' h; simp only [renM, Option.some.injEq] at h; subst h; exact ⟨rfl, fun j k y h => by simp at h⟩
  | cons e es ih =>
    intro es' h
    obtain ⟨k0, x0⟩ := e
    simp only [renM] at h
    split at h
    · rename_i y r hy hr
      cases h
      obtain ⟨h1, h2⟩ := ih hr
      refine ⟨by simp [h1], fun j k z hj => ?_⟩
      cases j with
      | zero => simp at hj; obtain ⟨rfl, rfl⟩ := hj; exact ⟨x0, rfl, hy⟩
      | succ j => simp at hj ⊢; exact h2 j k z hj
    · cases h

theorem renC_pw {f : Nat → Option Nat} (hf : Follows f σ σ') : ∀ {l m : List (FuncId × List At × List At)} {vs : List Value}, renC f l = some m → Pw (relC S σ) l vs → Pw (relC S σ') m vs := by
  intro l
  induction l with
  | nil => intro m vs h hp; simp only [renC, Option.some.injEq] at h; subst h; rw [hp.nil_left]; exact Pw.nil
  | cons x l ih =>
    intro m vs h hp
    obtain ⟨v0, vr, rfl, h0, hr⟩ := hp.cons_left
    obtain ⟨g, c1, c2⟩ := x
    simp only [renC] at h
    split at h
    · rename_i d1 d2 r h1 h2 hr'
      cases h
      obtain ⟨va, vb, hv, hp, hq⟩ := h0
      exact Pw.cons ⟨va, vb, hv, relL_ren hf h1 hp, relL_ren hf h2 hq⟩ (ih hr' hr)
    · cases h

theorem renC_length {f : Nat → Option Nat} : ∀ {l m : List (FuncId × List At × List At)}, renC f l = some m → m.length = l.length := by
  intro l
  induction l with
  | nil => intro m h; simp only [renC, Option.some.injEq] at h; subst h; rfl
  | cons x l ih =>
    intro m h
    obtain ⟨g, c1, c2⟩ := x
    simp only [renC] at h
    split at h
    · rename_i d1 d2 r h1 h2 hr'
      cases h
      simp [ih hr']
    · cases h

theorem relT_frz {x : T2} {v : Value} (h : x.frz = true) (hr : relT S σ x v) : relT S σ' x v := by
  cases x with
  | agg cs => simp [T2.frz] at h
  | a y => cases y <;> first | exact hr | (simp [T2.frz] at h)

theorem obj_ren {f : Nat → Option Nat} (hf : Follows f σ σ') {o o' : LObj} {L : Loc} {w : World} (h : o.ren f = some o') (ho : ObjSim S σ o L w) : ObjSim S σ' o' L w ∧ (S.free o L → S.free o' L) := by
  cases o with
  | box ty cs =>
    simp only [LObj.ren] at h
    split at h
    · rename_i cs' hc
      cases h
      obtain ⟨c, h1, h2⟩ := ho
      exact ⟨⟨c, h1, relL_ren hf hc h2⟩, fun h => ⟨h.cell, h.mp⟩⟩
    · cases h
  | map z es =>
    simp only [LObj.ren] at h
    obtain ⟨hz, ents, k1, k2, k3, k4⟩ := ho
    split at h
    · rename_i hzt
      cases h
      refine ⟨⟨fun _ => hz hzt, ents, k1, k2, k3, fun j k y e hj he => ?_⟩, fun h => ⟨h.cell, h.mp⟩⟩
      obtain ⟨q1, q2⟩ := k4 j k y e hj he
      exact ⟨q1, relT_frz (hz hzt _ (List.mem_of_getElem? hj)) q2⟩
    · split at h
      · rename_i es' hes
        cases h
        obtain ⟨h1, h2⟩ := renM_at hes
        refine ⟨⟨fun h => (by cases h), ents, k1, h1.trans k2, k3, fun j k y e hj he => ?_⟩, fun h => ⟨h.cell, h.mp⟩⟩
        obtain ⟨x, hx, hxy⟩ := h2 j k y hj
        obtain ⟨q1, q2⟩ := k4 j k x e hx he
        exact ⟨q1, relT_ren hf hxy q2⟩
      · cases h
  | clos e cs =>
    simp only [LObj.ren] at h
    split at h
    · rename_i cs' hc
      cases h
      obtain ⟨c, h1, h2, h3, h4⟩ := ho
      exact ⟨⟨c, h1, h2.trans (renC_length hc).symm, h3.trans (renC_length hc).symm, renC_pw hf hc h4⟩, fun h => ⟨h.cell, h.mp⟩⟩
    · cases h
  | ext e sz xs => simp only [LObj.ren, Option.some.injEq] at h; subst h; exact ⟨ho, id⟩
  | arr e sz xs => simp only [LObj.ren, Option.some.injEq] at h; subst h; exact ⟨ho, id⟩
  | iter s p => simp only [LObj.ren, Option.some.injEq] at h; subst h; exact ⟨ho, id⟩
  | bld b => simp only [LObj.ren, Option.some.injEq] at h; subst h; exact ⟨ho, id⟩
end

theorem reach_nodup (os : Objs) : ∀ (d : Nat) (l acc : List Nat), acc.Nodup → (reach os d l acc).Nodup := by
  intro d
  induction d with
  | zero => intro l acc h; simpa [reach] using h
  | succ d ih =>
    intro l acc h
    cases l with
    | nil => simpa [reach] using h
    | cons i r =>
      simp only [reach]
      split
      · exact ih r acc h
      · rename_i hc
        split
        · refine ih _ _ (List.nodup_cons.2 ⟨?_, h⟩)
          simpa using hc
        · exact ih r acc h

theorem idxOf_some {i : Nat} : ∀ {l : List Nat} {n j : Nat}, idxOf i l n = some j → n ≤ j ∧ l[j - n]? = some i := by
  intro l
  induction l with
  | nil => intro n j h; simp [idxOf] at h
  | cons x l ih =>
    intro n j h
    simp only [idxOf] at h
    split at h
    · rename_i e; cases h; subst e; simp
    · obtain ⟨h1, h2⟩ := ih h
      have : j - n = (j - (n + 1)) + 1 := by omega
      exact ⟨by omega, by rw [this]; simpa using h2⟩

theorem nth_scrub (live : List Nat) : ∀ (fr : List SV) (n t : Nat), nth (scrub live n fr) t = nth fr t ∨ nth (scrub live n fr) t = .undef := by
  intro fr
  induction fr with
  | nil => intro n t; simp [scrub, nth]
  | cons x r ih =>
    intro n t
    cases t with
    | zero => simp only [scrub, nth]; split <;> simp
    | succ t => simp only [scrub, nth]; exact ih (n + 1) t

theorem scrub_length (live : List Nat) : ∀ (fr : List SV) (n : Nat), (scrub live n fr).length = fr.length := by
  intro fr
  induction fr with
  | nil => intro n; rfl
  | cons x r ih => intro n; simp [scrub, ih]

section
variable {S : Fz} {σ : Locs} {st : St} {a : Act} {w : World} {n0 : Nat}

theorem canon_ok (live : List Nat) (h : Sim S σ st a w) : Left n0 st.objs σ S w (canon n0 live st) a w ∧ n0 ≤ (canon n0 live st).objs.length := by
  unfold canon
  generalize hids : canonIds n0 (scrub live 0 st.fr) st.objs = ids
  have hnd : ids.Nodup := by
    rw [← hids]
    exact List.Pairwise.filter _ (List.pairwise_reverse.2 ((reach_nodup st.objs 1000 _ [] List.nodup_nil).imp fun h => Ne.symm h))
  have hge : ∀ i ∈ ids, n0 ≤ i := by
    intro i hi
    rw [← hids] at hi
    simpa using (List.mem_filter.1 hi).2
  let f : Nat → Option Nat := canonF n0 ids
  let g : Nat → Option Nat := fun j => if j < n0 then some j else ids[j - n0]?
  let σ' : Locs := fun j => match g j with | some i => σ i | none => none
  have hf : Follows f σ σ' := by
    intro i j hij
    simp only [f, canonF] at hij
    split at hij
    · rename_i hi; cases hij; simp [σ', g, hi]
    · obtain ⟨h1, h2⟩ := idxOf_some hij
      simp [σ', g, show ¬ j < n0 by omega, h2]
  show Left n0 st.objs σ S w ⟨(scrub live 0 st.fr).map (SV.ren f), (List.range n0).map (renO f st.objs) ++ ids.map (renO f st.objs)⟩ a w ∧ _
  have hobj : ∀ j, obj ((List.range n0).map (renO f st.objs) ++ ids.map (renO f st.objs)) j = match g j with | some i => renO f st.objs i | none => none := by
    intro j
    unfold obj
    by_cases hj : j < n0
    · rw [List.getElem?_append_left (by simpa using hj)]
      simp only [g, hj, if_true, List.getElem?_map, List.getElem?_range hj, Option.map_some]
      cases renO f st.objs j <;> rfl
    · rw [List.getElem?_append_right (by simpa using Nat.le_of_not_lt hj)]
      simp only [g, hj, if_false, List.length_map, List.length_range, List.getElem?_map]
      cases hq : ids[j - n0]? with
      | none => rfl
      | some i => simp only [Option.map_some]; cases renO f st.objs i <;> rfl
  have hinv : ∀ {j : Nat} {o' : LObj}, obj ((List.range n0).map (renO f st.objs) ++ ids.map (renO f st.objs)) j = some o' → ∃ i o, g j = some i ∧ obj st.objs i = some o ∧ o.ren f = some o' := by
    intro j o' hj
    rw [hobj] at hj
    cases hg : g j with
    | none => rw [hg] at hj; cases hj
    | some i =>
      rw [hg] at hj
      simp only [renO] at hj
      split at hj
      · rename_i o ho; exact ⟨i, o, rfl, ho, hj⟩
      · cases hj
  have hginj : ∀ {j k i : Nat}, g j = some i → g k = some i → j = k := by
    intro j k i hj hk
    simp only [g] at hj hk
    split at hj <;> split at hk
    · cases hj; cases hk; rfl
    · cases hj
      have := hge _ (List.mem_of_getElem? hk); omega
    · cases hk
      have := hge _ (List.mem_of_getElem? hj); omega
    · have h1 : j - n0 < ids.length := by
        rcases Nat.lt_or_ge (j - n0) ids.length with h | h
        · exact h
        · rw [List.getElem?_eq_none h] at hj; cases hj
      have := (List.getElem?_inj h1 hnd).1 (hj.trans hk.symm)
      omega
  have hσ' : ∀ {j i : Nat}, g j = some i → σ' j = σ i := fun {j i} hg => by simp [σ', hg]
  refine ⟨⟨S, σ', ⟨⟨h.heap.frz, ?_, ?_, ?_⟩, ?_⟩, ⟨.refl _, ?_, ?_, ?_, Nat.le_refl _, rfl, rfl, rfl, fun _ _ _ => ⟨rfl, fun _ => rfl, rfl⟩, ?_⟩⟩, ?_⟩
  · intro j o' hj
    obtain ⟨i, o, h1, h2, h3⟩ := hinv hj
    obtain ⟨L, k1, k2, k3⟩ := h.heap.ob i o h2
    obtain ⟨q1, q2⟩ := obj_ren hf h3 k2
    exact ⟨L, (hσ' h1).trans k1, q1, q2 k3⟩
  · intro j k o1 o2 L1 L2 hj hk hL1 hL2 hb
    obtain ⟨i1, p1, h1, h2, _⟩ := hinv hj
    obtain ⟨i2, p2, k1, k2, _⟩ := hinv hk
    rw [hσ' h1] at hL1
    rw [hσ' k1] at hL2
    have := h.heap.inj i1 i2 p1 p2 L1 L2 h2 k2 hL1 hL2 hb
    subst this
    exact hginj h1 k1
  · intro j hj
    simp at hj
    have : g j = none := by
      simp only [g, show ¬ j < n0 by omega, if_false]
      exact List.getElem?_eq_none (by omega)
    simp [σ', this]
  · refine ⟨fun t => ?_, by simp only [List.length_map, scrub_length]; exact h.frame.len, h.frame.defers⟩
    have hnm : nth ((scrub live 0 st.fr).map (SV.ren f)) t = (nth (scrub live 0 st.fr) t).ren f := by
      rw [nth_eq, nth_eq, List.getD_eq_getElem?_getD, List.getD_eq_getElem?_getD, List.getElem?_map]
      cases (scrub live 0 st.fr)[t]? <;> rfl
    rw [hnm]
    refine relS_ren hf ?_
    rcases nth_scrub live st.fr 0 t with h1 | h1
    · rw [h1]; exact h.frame.rel t
    · rw [h1]; trivial
  · intro i hi; exact hσ' (by simp [g, hi])
  · simp
  · intro i hi hd
    rw [hobj]
    simp [g, hi, renO, hd]
  · rintro b ⟨j, o', M, hj, hM, rfl⟩
    obtain ⟨i, o, h1, h2, _⟩ := hinv hj
    rw [hσ' h1] at hM
    exact .inl ⟨i, o, M, h2, hM, rfl⟩
  · simp [canonOf]
end
end Go.Ev
