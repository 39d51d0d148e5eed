/- Regions whose order is open, second part. -/
import Derived.Test.YtmlhdhndjgdoaaaDoorCuDraw
namespace Go.Ev

theorem nth_scrub' (live : List Nat) : ∀ (fr : List SV) (n t : Nat), nth (scrub live n fr) t = if live.contains (n + t) then nth fr t else .undef := by
  intro fr
  induction fr with
  | nil => intro n t; simp [scrub, nth]
  | cons x r ih =>
    intro n t
    cases t with
    | zero => simp only [scrub, nth, Nat.add_zero]
    | succ t => simp only [scrub, nth]; rw [ih (n + 1) t, show n + (t + 1) = n + 1 + t from ix n t]

section
variable {P : Program} {S S' : Fz} {σ σ' : Locs} {os os' m : Objs} {w w' : World} {r : R} {v : Value} {N n0 : Nat}

/-- An operation that saw a part of the objects: what is behind it as a whole. -/
theorem combine {q : List Nat} (hs : HeapSim S σ os w) (hmask : ∀ k, obj m k = if k ∈ q then obj os k else none) (hml : m.length = N) (hn0 : n0 ≤ N) (h1 : HeapSim S' σ' r.objs w') (h2 : relS S' σ' r.sv v) (h3 : Fr N m (fun i => if i < N then σ i else none) S w r.objs σ' S' w')
    (hle : r.objs.length ≤ os.length) (hfree : ∀ k, N ≤ k → k < r.objs.length → σ k = none) (hlen : os'.length = os.length) (hos : ∀ k, obj os' k = if (k ∈ q ∧ k < N) ∨ (N ≤ k ∧ k < r.objs.length) then obj r.objs k else obj os k) :
    HeapSim S' (fun i => if N ≤ i ∧ i < r.objs.length then σ' i else σ i) os' w' ∧ relS S' (fun i => if N ≤ i ∧ i < r.objs.length then σ' i else σ i) r.sv v ∧ Fr n0 os σ S w os' (fun i => if N ≤ i ∧ i < r.objs.length then σ' i else σ i) S' w' ∧
      Locs.le σ (fun i => if N ≤ i ∧ i < r.objs.length then σ' i else σ i) := by
  have hNr : N ≤ r.objs.length := h3.len
  generalize hσ2 : (fun i => if N ≤ i ∧ i < r.objs.length then σ' i else σ i) = σ2
  have e2 : ∀ i, σ2 i = if N ≤ i ∧ i < r.objs.length then σ' i else σ i := fun i => by rw [← hσ2]
  have hl1 : Locs.le σ σ2 := fun i L hi => by
    rw [e2]
    split
    · rename_i h; rw [hfree i h.1 h.2] at hi; cases hi
    · exact hi
  have hl2 : Locs.le σ' σ2 := fun i L hi => by
    rw [e2]
    split
    · exact hi
    · rename_i h
      have : i < r.objs.length := by
        rcases Nat.lt_or_ge i r.objs.length with h' | h'
        · exact h'
        · rw [h1.fit i h'] at hi; cases hi
      have hlt : i < N := by omega
      have := h3.loc i hlt
      rw [hi] at this
      simp [hlt] at this
      exact this.symm
  -- what belongs to the part
  have ownM : ∀ {b : Nat}, Own m (fun i => if i < N then σ i else none) b → ∃ k o L, k ∈ q ∧ k < N ∧ obj os k = some o ∧ σ k = some L ∧ L.b = b := by
    rintro b ⟨k, o, L, hk, hL, hb⟩
    have hkN : k < N := by rw [← hml]; exact obj_lt hk
    rw [hmask] at hk
    split at hk
    · rename_i hq
      simp only [hkN, if_true] at hL
      exact ⟨k, o, L, hq, hkN, hk, hL, hb⟩
    · cases hk
  have ofM : ∀ {k : Nat} {o : LObj} {L : Loc}, k ∈ q → obj os k = some o → σ k = some L → k < N → Own m (fun i => if i < N then σ i else none) L.b := fun {k o L} hq ho hL hk => ⟨k, o, L, by rw [hmask, if_pos hq]; exact ho, by simp only [hk, if_true]; exact hL, rfl⟩
  -- other objects' blocks
  have other : ∀ {k : Nat} {o : LObj} {L : Loc}, ¬ ((k ∈ q ∧ k < N) ∨ (N ≤ k ∧ k < r.objs.length)) → obj os k = some o → σ k = some L → L.b < w.heap.size ∧ ¬ Own m (fun i => if i < N then σ i else none) L.b := fun {k o L} hk ho hL => by
    refine ⟨(hs.loc ho hL).1.lt, fun hown => ?_⟩
    obtain ⟨k', o', L', q1, q2, q3, q4, q5⟩ := ownM hown
    have := hs.inj k' k o' o L' L q3 ho q4 hL q5
    subst this
    exact hk (.inl ⟨q1, q2⟩)
  have inPart : ∀ {k : Nat} {L : Loc}, (k ∈ q ∧ k < N) ∨ (N ≤ k ∧ k < r.objs.length) → σ2 k = some L → σ' k = some L := fun {k L} hk hL => by
    rw [e2] at hL
    rcases hk with hk | hk
    · rw [if_neg (by omega)] at hL
      rw [h3.loc k hk.2]; simp [hk.2, hL]
    · rwa [if_pos hk] at hL
  refine ⟨⟨h1.frz, fun k o ho => ?_, fun i j o1 o2 L1 L2 ho1 ho2 hL1 hL2 hb => ?_, fun i hi => ?_⟩, relS.mono (.refl _) hl2 h2, ⟨h3.le, fun i hi => ?_, by rw [hlen]; omega, fun i hi hd => ?_, h3.size, h3.so, h3.tape, h3.output, fun b hb hno => ?_, ?_⟩, hl1⟩
  · rw [hos] at ho
    split at ho
    · obtain ⟨L, k1, k2, k3⟩ := h1.ob k o ho
      exact ⟨L, hl2 _ _ k1, k2.mono (.refl _) hl2 rfl, k3⟩
    · rename_i hk
      obtain ⟨L, k1, k2, k3⟩ := hs.ob k o ho
      obtain ⟨q1, q2⟩ := other hk ho k1
      have hkeep := h3.keep L.b q1 q2
      exact ⟨L, hl1 _ _ k1, k2.mono h3.le hl1 hkeep.1, k3.mono hkeep.2.1 hkeep.2.2⟩
  · rw [hos] at ho1 ho2
    have mixed : ∀ {i j : Nat} {o1 o2 : LObj} {L1 L2 : Loc}, (i ∈ q ∧ i < N) ∨ (N ≤ i ∧ i < r.objs.length) → ¬ ((j ∈ q ∧ j < N) ∨ (N ≤ j ∧ j < r.objs.length)) → obj r.objs i = some o1 → obj os j = some o2 → σ2 i = some L1 → σ2 j = some L2 → L1.b = L2.b → False := by
      intro i j o1 o2 L1 L2 hi hj ho1 ho2 hL1 hL2 hb
      have hL1' := inPart hi hL1
      have hL2' : σ j = some L2 := by
        rw [e2] at hL2
        rwa [if_neg (fun h => hj (.inr h))] at hL2
      obtain ⟨q1, q2⟩ := other hj ho2 hL2'
      rcases h3.own L1.b ⟨i, o1, L1, ho1, hL1', rfl⟩ with h | h
      · exact q2 (hb ▸ h)
      · omega
    split at ho1 <;> split at ho2
    · rename_i hi hj
      exact h1.inj i j o1 o2 L1 L2 ho1 ho2 (inPart hi hL1) (inPart hj hL2) hb
    · rename_i hi hj
      exact (mixed hi hj ho1 ho2 hL1 hL2 hb).elim
    · rename_i hi hj
      exact (mixed hj hi ho2 ho1 hL2 hL1 hb.symm).elim
    · rename_i hi hj
      have a1 : σ i = some L1 := by rw [e2] at hL1; rwa [if_neg (fun h => hi (.inr h))] at hL1
      have a2 : σ j = some L2 := by rw [e2] at hL2; rwa [if_neg (fun h => hj (.inr h))] at hL2
      exact hs.inj i j o1 o2 L1 L2 ho1 ho2 a1 a2 hb
  · rw [hlen] at hi
    rw [e2, if_neg (by omega)]
    exact hs.fit i hi
  · rw [e2, if_neg (by omega)]
  · rw [hos]
    split
    · refine h3.dead i (by omega) ?_
      rw [hmask]
      split
      · exact hd
      · rfl
    · exact hd
  · refine h3.keep b hb fun ho => hno ?_
    obtain ⟨k, o, L, _, _, q3, q4, q5⟩ := ownM ho
    exact ⟨k, o, L, q3, q4, q5⟩
  · rintro b ⟨k, o, L, ho, hL, rfl⟩
    rw [hos] at ho
    split at ho
    · rename_i hk
      rcases h3.own L.b ⟨k, o, L, ho, inPart hk hL, rfl⟩ with h | h
      · obtain ⟨k', o', L', _, _, q3, q4, q5⟩ := ownM h
        exact .inl ⟨k', o', L', q3, q4, q5⟩
      · exact .inr h
    · rename_i hk
      have a1 : σ k = some L := by rw [e2] at hL; rwa [if_neg (fun h => hk (.inr h))] at hL
      exact .inl ⟨k, o, L, ho, a1, rfl⟩

theorem HeapSim.congr (hs : HeapSim S σ os w) (hl : os'.length = os.length) (h : ∀ k, obj os' k = obj os k) : HeapSim S σ os' w :=
  ⟨hs.frz, fun i o ho => hs.ob i o (by rw [← h]; exact ho), fun i j o o' L L' ho ho' => hs.inj i j o o' L L' (by rw [← h]; exact ho) (by rw [← h]; exact ho'), fun i hi => hs.fit i (by omega)⟩

theorem Fr.congr {os1 os2 : Objs} {σ1 : Locs} {S1 : Fz} {w1 : World} (hf : Fr n0 os σ S w os1 σ1 S1 w1) (hl : os2.length = os1.length) (h : ∀ k, obj os2 k = obj os1 k) : Fr n0 os σ S w os2 σ1 S1 w1 :=
  ⟨hf.le, hf.loc, by rw [hl]; exact hf.len, fun i hi hd => by rw [h]; exact hf.dead i hi hd, hf.size, hf.so, hf.tape, hf.output, hf.keep, fun b ⟨i, o, L, ho, hL, hb⟩ => hf.own b ⟨i, o, L, by rw [← h]; exact ho, hL, hb⟩⟩

theorem FrameSim.congr {fr fr' : List SV} {a : Act} (hf : FrameSim S σ fr a) (hl : fr'.length = fr.length) (h : ∀ t, nth fr' t = nth fr t) : FrameSim S σ fr' a :=
  ⟨fun t => by rw [h]; exact hf.rel t, by rw [hl]; exact hf.len, hf.defers⟩

/-! ### What the checks say -/
theorem cOps_at {all : Array Oper} : ∀ (r : List Oper) (l : List SOper), cOps P all r = some l → l.length = r.length ∧ ∀ (j : Nat) (o : Oper), r[j]? = some o → ∃ s, l[j]? = some s ∧ s.dst = o.dst ∧ s.op = cOpB P o.op ∧
    (match o.guard with | none => s.guard = none | some (j, want) => ∃ t, (all[j]?).bind (·.dst) = some t ∧ s.guard = some (t, want)) ∧ s.preds = (o.after.toList.filter (Region.binds .any)).map (·.on) := by
  intro r
  induction r with
  | nil => intro l h; simp only [cOps, Option.some.injEq] at h; subst h; exact ⟨rfl, fun j o h => by simp at h⟩
  | cons o r ih =>
    intro l h
    obtain ⟨s, l', rfl, h1, h2, h3, h4, h5⟩ := cOps_drop h
    obtain ⟨k1, k2⟩ := ih l' h1
    refine ⟨by simp [k1], fun j o' ho => ?_⟩
    cases j with
    | zero => simp at ho; subst ho; exact ⟨s, rfl, h2, h3, h4, h5⟩
    | succ j => obtain ⟨s', q⟩ := k2 j o' (by simpa using ho); exact ⟨s', by simpa using q.1, q.2⟩

theorem closure_spec : ∀ (l : List SOper) (acc : List (List Nat)), (∀ p, p < acc.length → (closure l acc).getD p [] = acc.getD p []) ∧
    ∀ (j : Nat) (so : SOper), l[j]? = some so → ∀ x ∈ (closure l acc).getD (acc.length + j) [], x ∈ so.preds ∨ ∃ p ∈ so.preds, p < acc.length + j ∧ x ∈ (closure l acc).getD p [] := by
  intro l
  induction l with
  | nil => intro acc; exact ⟨fun p _ => rfl, fun j so h => by simp at h⟩
  | cons o r ih =>
    intro acc
    simp only [closure]
    obtain ⟨h1, h2⟩ := ih (acc ++ [(allPreds acc o.preds).eraseDups])
    have hlen : (acc ++ [(allPreds acc o.preds).eraseDups]).length = acc.length + 1 := by simp
    have hacc : ∀ p, p < acc.length → (closure r (acc ++ [(allPreds acc o.preds).eraseDups])).getD p [] = acc.getD p [] := fun p hp => by
      rw [h1 p (by omega), List.getD_eq_getElem?_getD, List.getD_eq_getElem?_getD, List.getElem?_append_left hp]
    refine ⟨hacc, fun j so hj x hx => ?_⟩
    cases j with
    | zero =>
      simp at hj
      subst hj
      rw [Nat.add_zero, h1 acc.length (by omega), List.getD_eq_getElem?_getD, List.getElem?_append_right (Nat.le_refl _)] at hx
      simp [allPreds] at hx
      rcases hx with hx | ⟨p, hp, hx⟩
      · exact .inl hx
      · refine .inr ⟨p, hp, ?_, ?_⟩
        · rcases Nat.lt_or_ge p acc.length with h | h
          · omega
          · rw [List.getElem?_eq_none h] at hx; simp at hx
        · have hlt : p < acc.length := by
            rcases Nat.lt_or_ge p acc.length with h | h
            · exact h
            · rw [List.getElem?_eq_none h] at hx; simp at hx
          rw [hacc p hlt, List.getD_eq_getElem?_getD]
          exact hx
    | succ j =>
      have e : acc.length + (j + 1) = (acc ++ [(allPreds acc o.preds).eraseDups]).length + j := by rw [hlen]; omega
      rw [e] at hx ⊢
      exact h2 j so (by simpa using hj) x hx

theorem usesOk_at {l : List SOper} {ps : List (List Nat)} (h : usesOk l ps = true) {i j : Nat} {a b : SOper} (hij : i < j) (hi : l[i]? = some a) (hj : l[j]? = some b) (hn : i ∉ ps.getD j []) :
    (∀ d, a.dst = some d → d ∉ b.uses ∧ b.dst ≠ some d) ∧ ∀ d, b.dst = some d → d ∉ a.uses := by
  have hjl : j < l.length := by
    rcases Nat.lt_or_ge j l.length with h | h
    · exact h
    · rw [List.getElem?_eq_none h] at hj; cases hj
  unfold usesOk at h
  have := List.all_eq_true.1 (List.all_eq_true.1 h j (List.mem_range.2 hjl)) i (List.mem_range.2 hij)
  rw [hi, hj] at this
  simp only [Bool.or_eq_true, List.contains_iff_mem] at this
  rcases this with h | h
  · exact absurd h hn
  · simp only [Bool.and_eq_true] at h
    obtain ⟨h1, h2⟩ := h
    refine ⟨fun d hd => ?_, fun d hd => ?_⟩
    · rw [hd] at h1
      simp only [Bool.and_eq_true, Bool.not_eq_true', bne_iff_ne, ne_eq] at h1
      exact ⟨by simpa using h1.1, h1.2⟩
    · rw [hd] at h2
      simpa using h2

theorem disjoint_at {a b : List Nat} (h : disjoint a b = true) {x : Nat} (hx : x ∈ a) : x ∉ b := by
  have := List.all_eq_true.1 h x hx
  simpa using this

theorem footOk_at {ds : List DStep} {ps : List (List Nat)} (h : footOk ps ds = true) {i j : Nat} {a b : DStep} (hij : i < j) (hi : ds[i]? = some a) (hj : ds[j]? = some b) (hn : i ∉ ps.getD j []) :
    (∀ k ∈ a.wr, k ∉ b.rd) ∧ (∀ k ∈ a.wr, k ∉ b.wr) ∧ ∀ k ∈ a.rd, k ∉ b.wr := by
  have hjl : j < ds.length := by
    rcases Nat.lt_or_ge j ds.length with h | h
    · exact h
    · rw [List.getElem?_eq_none h] at hj; cases hj
  unfold footOk at h
  have := List.all_eq_true.1 (List.all_eq_true.1 h j (List.mem_range.2 hjl)) i (List.mem_range.2 hij)
  rw [hi, hj] at this
  simp only [Bool.or_eq_true, List.contains_iff_mem] at this
  rcases this with h | h
  · exact absurd h hn
  · unfold Foot.apart DStep.foot at h
    simp only [Bool.and_eq_true] at h
    exact ⟨fun k hk => disjoint_at h.1.1 hk, fun k hk => disjoint_at h.1.2 hk, fun k hk => disjoint_at h.2 hk⟩

theorem ordered_at : ∀ {l : List SOper} {i : Nat}, ordered l i = true → ∀ (j : Nat) (so : SOper), l[j]? = some so → ∀ p ∈ so.preds, p < i + j := by
  intro l
  induction l with
  | nil => intro i _ j so h; simp at h
  | cons o r ih =>
    intro i h j so hj p hp
    simp only [ordered, Bool.and_eq_true] at h
    cases j with
    | zero =>
      simp at hj
      subst hj
      have := List.all_eq_true.1 h.1 p hp
      simpa using this
    | succ j =>
      have := ih h.2 j so (by simpa using hj) p hp
      omega
end
end Go.Ev
