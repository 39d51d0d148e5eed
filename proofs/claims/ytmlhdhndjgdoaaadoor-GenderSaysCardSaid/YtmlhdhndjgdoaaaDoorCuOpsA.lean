/- The operations, first part: operands; what only computes. -/
import Derived.Test.YtmlhdhndjgdoaaaDoorCuFreeze
import Derived.Laws.Strings
import Derived.Laws.RangeString
import Derived.Laws.RangeAny
namespace Go.Ev

theorem ofCell_rep {S : Fz} {v : Value} {x : V} (h : ofCell v = some x) : Rep S x v := by
  unfold ofCell at h
  split at h <;> first | (cases h; constructor) | skip
  all_goals (cases h)

theorem ofCells_rep {S : Fz} : ∀ {l : List Value} {xs : List V}, ofCells l = some xs → Pw (Rep S) xs l := by
  intro l
  induction l with
  | nil => intro xs h; simp [ofCells] at h; subst h; exact Pw.nil
  | cons v r ih =>
    intro xs h
    simp only [ofCells] at h
    split at h
    · rename_i y l' hy hl
      cases h
      exact Pw.cons (ofCell_rep hy) (ih hl)
    · cases h

theorem ofValue_rep {S : Fz} {v : Value} {x : V} (h : ofValue v = some x) : Rep S x v := by
  unfold ofValue at h
  split at h
  · rename_i cs
    split at h
    · rename_i l hl
      cases h
      have : Value.agg cs = .agg cs.toList.toArray := by simp
      rw [this]
      exact Rep.mk_agg (ofCells_rep hl)
    · cases h
  · rename_i vs
    split at h
    · rename_i hz
      cases h
      have : vs = #[] := Array.eq_empty_of_size_eq_zero hz
      subst this
      exact Rep.mk_tup (vs := []) Pw.nil
    · cases h
  · exact ofCell_rep h

theorem cOpds_rel {R : SOpd → Operand → Prop} (hR : ∀ x y, cOpd x = some y → R y x) : ∀ {l : List Operand} {ys : List SOpd}, cOpds l = some ys → Pw R ys l := by
  intro l
  induction l with
  | nil => intro ys h; simp [cOpds] at h; subst h; exact Pw.nil
  | cons v r ih =>
    intro ys h
    simp only [cOpds] at h
    split at h
    · rename_i y l' hy hl
      cases h
      exact Pw.cons (hR _ _ hy) (ih hl)
    · cases h

theorem opds_eq (fr : List SV) (l : List SOpd) : opds fr l = l.map (opd fr) := by
  induction l with
  | nil => rfl
  | cons x r ih => simp [opds, ih]

/-- What has become of a step. -/
def Post (os : Objs) (σ : Locs) (S : Fz) (w : World) (r : R) (v : Value) (w' : World) : Prop :=
  ∃ S' σ', HeapSim S' σ' r.objs w' ∧ relS S' σ' r.sv v ∧ Fr os.length os σ S w r.objs σ' S' w'

/-- An operation is done. -/
def OpDone (P : Program) (s : Sem Next) (w : World) (Q : Value → World → Prop) : Prop :=
  (∃ v w', s.run P w = .ok (.value v) w' ∧ Q v w') ∨ (∃ w', s.run P w = .ok .skip w' ∧ Q undef w') ∨
  (∃ f args, s.run P w = .ok (.enter f args) w ∧ Calls P f args w fun e w' => ∃ v, e = .returned v ∧ Q v w')

theorem OpDone.wp {P : Program} {o : Oper} {a : Act} {w : World} {Q : Value → World → Prop} {K : Act → World → Prop} {E : Exit → Act → World → Prop} (h : OpDone P (execOp a.eval o) w Q) (hk : ∀ v w', Q v w' → K (a.put o.dst v) w') :
    o.wp P a w K E := by
  unfold Oper.wp
  rcases h with ⟨v, w', hr, hq⟩ | ⟨w', hr, hq⟩ | ⟨f, args, hr, hc⟩
  · rw [hr]; exact hk v w' hq
  · rw [hr]; exact hk undef w' hq
  · rw [hr]
    refine Calls.mono hc fun e w' he => ?_
    obtain ⟨v, rfl, hq⟩ := he
    exact hk v w' hq

section
variable {P : Program} {o : Oper} {ρ : Operand → Value} {w : World} {S : Fz} {σ : Locs} {os : Objs} {fr : List SV} {mm : Bool} {call : CallT} {s : SOp} {r : R}

theorem Post.same {v : Value} (hs : HeapSim S σ os w) (h : relS S σ r.sv v) (ho : r.objs = os) : Post os σ S w r v w := by
  refine ⟨S, σ, ho ▸ hs, h, ?_⟩
  rw [ho]
  exact .refl (Nat.le_refl _)

theorem done_same {sv : SV} {v : Value} (hs : HeapSim S σ os w) (hr : (execOp ρ o).run P w = .ok (.value v) w) (h : relS S σ sv v) : OpDone P (execOp ρ o) w (Post os σ S w ⟨sv, os⟩) :=
  .inl ⟨v, w, hr, Post.same hs h rfl⟩

theorem un1_some {x : Operand} {f : SOpd → Option SOp} (h : un1 x f = some s) : ∃ y, cOpd x = some y ∧ f y = some s := by
  unfold un1 at h; split at h
  · exact ⟨_, by assumption, h⟩
  · cases h
theorem un2_some {x y : Operand} {f : SOpd → SOpd → Option SOp} (h : un2 x y f = some s) : ∃ a b, cOpd x = some a ∧ cOpd y = some b ∧ f a b = some s := by
  unfold un2 at h; split at h
  · exact ⟨_, _, by assumption, by assumption, h⟩
  · cases h

variable (hρ : ∀ x y, cOpd x = some y → relS S σ (opd fr y) (ρ x)) (hs : HeapSim S σ os w)
include hρ hs

theorem ok_mv {x : Operand} (ho : o.op = .move x ∨ o.op = .assign x) (hc : un1 x (fun x => some (.mv x)) = some s) (he : evOp mm call fr os s = some r) : OpDone P (execOp ρ o) w (Post os σ S w r) := by
  obtain ⟨y, hy, hf⟩ := un1_some hc
  cases hf
  have hr : (execOp ρ o).run P w = .ok (.value (ρ x)) w := by
    rcases ho with ho | ho <;> simp only [execOp, ho] <;> rfl
  have h := hρ x y hy
  simp only [evOp] at he
  split at he
  · cases he
  · cases he; exact done_same hs hr h

theorem ok_pick {c x y : Operand} (ho : o.op = .pick c x y) (hc : cOp P o.op = some s) (he : evOp mm call fr os s = some r) : OpDone P (execOp ρ o) w (Post os σ S w r) := by
  rw [ho] at hc
  simp only [cOp] at hc
  split at hc
  · rename_i c' x' y' h1 h2 h3
    cases hc
    have e1 := hρ c c' h1
    simp only [evOp] at he
    split at he
    · rename_i hb
      rw [hb] at e1
      have e1 : Rep S (.bool true) (ρ c) := e1
      generalize hcv : ρ c = vc at e1
      cases e1
      cases he
      exact done_same hs (by simp only [execOp, ho, hcv]; rfl) (hρ x x' h2)
    · rename_i hb
      rw [hb] at e1
      have e1 : Rep S (.bool false) (ρ c) := e1
      generalize hcv : ρ c = vc at e1
      cases e1
      cases he
      exact done_same hs (by simp only [execOp, ho, hcv]; rfl) (hρ y y' h3)
    · cases he
  · cases hc

end

/-! ### Loads -/
section
variable {P : Program} {w : World} {S : Fz} {σ : Locs} {os : Objs}

theorem aggT_run {t : TypeId} {g : Bool} (h : aggT P t = some g) (w : World) : (isAgg t).run P w = .ok g w := by
  unfold aggT at h
  unfold isAgg
  split at h
  · rename_i hu; cases h; simp [run_underlying hu]
  · rename_i hu; cases h; simp [run_underlying hu]
  · rename_i d h1 h2 hu
    cases h
    simp only [Sem.run_bind, run_underlying hu, Result.andThen_ok]
    cases d <;> first | rfl | exact absurd rfl (h1 _) | exact absurd rfl (h2 _ _)
  · cases h

theorem sizeT_info {t : TypeId} {n : Nat} (h : sizeT P t = some n) : ∃ i, P.info? t = some i ∧ i.size = n := by
  unfold sizeT at h
  obtain ⟨i, h1, h2⟩ := Option.map_eq_some_iff.1 h
  exact ⟨i, h1, h2⟩

theorem run_typeInfo {t : TypeId} {i : TypeInfo} (h : P.info? t = some i) (w : World) : (typeInfo t).run P w = .ok i w := by
  simp [typeInfo, h]

theorem sizeT_run {t : TypeId} {n : Nat} (h : sizeT P t = some n) (w : World) : (sizeOf t).run P w = .ok n w := by
  obtain ⟨i, h1, rfl⟩ := sizeT_info h
  simp [sizeOf, run_typeInfo h1]

theorem add_plain (b q j : Nat) : (⟨b, q, none⟩ : Addr).add j = ⟨b, q + j, none⟩ := by unfold Addr.add; split <;> simp_all

theorem run_loadVar_agg {t : TypeId} {n b q : Nat} {vs : List Value} (hg : aggT P t = some true) (hn : sizeT P t = some n) (hl : n ≤ vs.length) (hv : ∀ j v, vs[j]? = some v → w.cell? ⟨b, q + j, none⟩ = some v) :
    (loadVar t ⟨b, q, none⟩).run P w = .ok (.agg (vs.take n).toArray) w := by
  have h1 := run_loadCells_list (P := P) w ⟨b, q, none⟩ (vs.take n) (fun j v h => by
    rw [add_plain]
    refine hv j v ?_
    rw [List.getElem?_take] at h
    split at h
    · exact h
    · cases h)
  rw [List.length_take, Nat.min_eq_left hl] at h1
  simp only [loadVar, Sem.run_bind, aggT_run hg, Result.andThen_ok, if_true, sizeT_run hn, h1]
  rfl

theorem run_loadVar_one {t : TypeId} {b q : Nat} {v : Value} (hg : aggT P t = some false) (hv : w.cell? ⟨b, q, none⟩ = some v) : (loadVar t ⟨b, q, none⟩).run P w = .ok v w := by
  simp [loadVar, aggT_run hg, hv]

theorem flat_at {xs : List V} {sz : Nat} (hz : ∀ x ∈ xs, x.cells.length = sz) {k : Nat} {x : V} (hx : xs[k]? = some x) : ((flat xs).drop (k * sz)).take sz = x.cells := by
  induction xs generalizing k with
  | nil => simp at hx
  | cons y r ih =>
    have hy : y.cells.length = sz := hz y (by simp)
    have hr : ∀ x ∈ r, x.cells.length = sz := fun z hz' => hz z (by simp [hz'])
    cases k with
    | zero =>
      simp at hx
      subst hx
      simp [flat, hy ▸ List.take_left' rfl]
    | succ k =>
      simp at hx
      have := ih hr hx
      rw [← this]
      have e : flat (y :: r) = y.cells ++ flat r := by simp [flat]
      rw [e, List.drop_append, List.drop_eq_nil_of_le (by rw [hy, Nat.succ_mul]; omega), hy, Nat.succ_mul]
      simp

theorem flat_get {xs : List V} {sz : Nat} (hz : ∀ x ∈ xs, x.cells.length = sz) {k j : Nat} {x c : V} (hx : xs[k]? = some x) (hc : x.cells[j]? = some c) : (flat xs)[k * sz + j]? = some c := by
  have h := flat_at hz hx
  rw [← h, List.getElem?_take] at hc
  split at hc
  · rwa [List.getElem?_drop] at hc
  · cases hc

theorem flat_length {xs : List V} {sz : Nat} (hz : ∀ x ∈ xs, x.cells.length = sz) : (flat xs).length = xs.length * sz := by
  induction xs with
  | nil => simp [flat]
  | cons y r ih =>
    have e : flat (y :: r) = y.cells ++ flat r := by simp [flat]
    rw [e, List.length_append, hz y (by simp), ih fun z hz' => hz z (by simp [hz'])]
    simp [Nat.add_mul]
    omega

/-- What a row's element's cells are in memory. -/
theorem flat_pw {R : V → Value → Prop} {xs : List V} {sz : Nat} {vs : List Value} (hz : ∀ x ∈ xs, x.cells.length = sz) (hp : Pw R (flat xs) vs) {k : Nat} {x : V} (hx : xs[k]? = some x) : Pw R x.cells ((vs.drop (k * sz)).take sz) := by
  rw [← flat_at hz hx]
  exact (hp.drop _).take _

/-- What is cut out of cells: of an aggregate the cells' values, else one. -/
theorem cutA_rel {ag : Bool} {n q : Nat} {cs : List At} {vs : List Value} {sv : SV} (hp : Pw (relA S σ) cs vs) (h : cutA ag n cs q = some sv) :
    ∃ u, ((ag = true → u = .agg ((vs.drop q).take n).toArray) ∧ (ag = false → vs[q]? = some u)) ∧ relS S σ sv u ∧ (ag = true → n ≤ (vs.drop q).length) := by
  unfold cutA at h
  cases ag with
  | true =>
    simp only [if_true] at h
    split at h
    · cases h
      refine ⟨_, ⟨fun _ => rfl, fun h => by cases h⟩, rel_mkAgg ((hp.drop q).take n), fun _ => ?_⟩
      have := hp.1
      rw [List.length_drop]; omega
    · cases h
  | false =>
    simp only [Bool.false_eq_true, if_false] at h
    split at h
    · rename_i x hx
      cases h
      obtain ⟨v, h1, h2⟩ := hp.get hx
      exact ⟨v, ⟨fun h => (by cases h), fun _ => h1⟩, h2, fun h => by cases h⟩
    · cases h

theorem cutV_rel {ag : Bool} {n q : Nat} {cs : List V} {vs : List Value} {sv : SV} (hp : Pw (Rep S) cs vs) (h : cutV ag n cs q = some sv) :
    ∃ u, ((ag = true → u = .agg ((vs.drop q).take n).toArray) ∧ (ag = false → vs[q]? = some u)) ∧ relS S σ sv u ∧ (ag = true → n ≤ (vs.drop q).length) := by
  unfold cutV at h
  cases ag with
  | true =>
    simp only [if_true] at h
    split at h
    · cases h
      refine ⟨_, ⟨fun _ => rfl, fun h => by cases h⟩, Rep.mk_agg ((hp.drop q).take n), fun _ => ?_⟩
      have := hp.1
      rw [List.length_drop]; omega
    · cases h
  | false =>
    simp only [Bool.false_eq_true, if_false] at h
    split at h
    · rename_i x hx
      cases h
      obtain ⟨v, h1, h2⟩ := hp.get hx
      exact ⟨v, ⟨fun h => (by cases h), fun _ => h1⟩, h2, fun h => by cases h⟩
    · cases h

theorem loadA_ok {p sv : SV} {n : Nat} {g : Bool} {t : TypeId} {pv : Value} (hs : HeapSim S σ os w) (hp : relS S σ p pv) (hg : aggT P t = some g) (hn : sizeT P t = some n) (h : loadA os n g p = some sv) :
    ∃ a v, pv = .pointer (some a) ∧ (loadVar t a).run P w = .ok v w ∧ relS S σ sv v := by
  have agg : ∀ {b q q' : Nat} {cs : List At} {vs : List Value}, Pw (relA S σ) cs vs → (∀ j v, vs[j]? = some v → w.cell? ⟨b, q + j, none⟩ = some v) → cutA g n cs q' = some sv → ∃ v, (loadVar t ⟨b, q + q', none⟩).run P w = .ok v w ∧ relS S σ sv v := by
    intro b q q' cs vs hc hv h
    obtain ⟨u, h1, h2, h3⟩ := cutA_rel hc h
    cases g with
    | true => exact ⟨_, run_loadVar_agg (vs := vs.drop q') hg hn (by simpa using h3 rfl) (fun j v hj => by rw [List.getElem?_drop] at hj; rw [Nat.add_assoc]; exact hv _ _ hj), by rw [← h1.1 rfl]; exact h2⟩
    | false => exact ⟨u, run_loadVar_one hg (hv _ _ (h1.2 rfl)), h2⟩
  have aggV : ∀ {b q q' : Nat} {cs : List V} {vs : List Value}, Pw (Rep S) cs vs → (∀ j v, vs[j]? = some v → w.cell? ⟨b, q + j, none⟩ = some v) → cutV g n cs q' = some sv → ∃ v, (loadVar t ⟨b, q + q', none⟩).run P w = .ok v w ∧ relS S σ sv v := by
    intro b q q' cs vs hc hv h
    obtain ⟨u, h1, h2, h3⟩ := cutV_rel (σ := σ) hc h
    cases g with
    | true => exact ⟨_, run_loadVar_agg (vs := vs.drop q') hg hn (by simpa using h3 rfl) (fun j v hj => by rw [List.getElem?_drop] at hj; rw [Nat.add_assoc]; exact hv _ _ hj), by rw [← h1.1 rfl]; exact h2⟩
    | false => exact ⟨u, run_loadVar_one hg (hv _ _ (h1.2 rfl)), h2⟩
  cases p with
  | a x =>
    cases x with
    | loc i o' =>
      simp only [loadA] at h
      obtain ⟨L, hL, rfl⟩ := hp
      split at h
      · rename_i ty cs ho
        obtain ⟨⟨c, h1, h2⟩, _⟩ := hs.loc ho hL
        obtain ⟨v, h3, h4⟩ := agg (b := L.b) (q := 0) h2 (fun j v hv => by
          simp [World.cell?, h1]
          simpa using hv) h
        rw [Nat.zero_add] at h3
        exact ⟨_, v, rfl, h3, h4⟩
      · cases h
    | el i sz k o' =>
      simp only [loadA] at h
      obtain ⟨L, hL, rfl⟩ := hp
      split at h
      · rename_i e sz' xs ho
        split at h
        · rename_i hsz
          subst hsz
          split at h
          · rename_i x hx
            obtain ⟨⟨h1, h2, h3, vs, h4, h5⟩, _⟩ := hs.loc ho hL
            have hpw := flat_pw h3 h5 hx
            have hlen : x.cells.length = sz' := h3 x (List.mem_of_getElem? hx)
            obtain ⟨v, h6, h7⟩ := aggV (b := L.b) (q := k * sz') hpw (fun j v hv => by
              rw [List.getElem?_take] at hv
              split at hv
              · rw [List.getElem?_drop] at hv
                exact ownsRow_cell h4 hv
              · cases hv) h
            exact ⟨_, v, rfl, h6, h7⟩
          · cases h
        · cases h
      · rename_i e cs ho
        split at h
        · rename_i hc
          obtain ⟨rfl, rfl, rfl⟩ := hc
          split at h
          · rename_i f c1 c2 hx
            cases h
            obtain ⟨⟨c, h1, h2, h3, h4⟩, _⟩ := hs.loc ho hL
            obtain ⟨v, hv, hr⟩ := h4.get hx
            have hcell : w.cell? ⟨L.b, k * 1 + 0, none⟩ = some v := by
              simp [World.cell?, h1]
              simpa using hv
            exact ⟨_, v, rfl, run_loadVar_one hg hcell, hr⟩
          · cases h
        · cases h
      · cases h
    | fadr cs o' =>
      simp only [loadA] at h
      obtain ⟨b, p, vs, h1, h2, rfl⟩ := hp
      obtain ⟨v, h3, h4⟩ := aggV (b := b) (q := p) h1 (fun j v hv => hs.frz.cell _ _ _ (h2 _ _ hv)) h
      exact ⟨_, v, rfl, h3, h4⟩
    | v x =>
      cases x using V.cs with
      | ptr cs =>
        simp only [loadA] at h
        have hp : Rep S (.ptr cs) pv := hp
        cases hp with
        | ptr b p vs hl hc hr =>
          obtain ⟨v, h3, h4⟩ := aggV (b := b) (q := p) ⟨hl, hr⟩ (fun j v hv => hs.frz.cell _ _ _ (hc _ _ hv)) h
          exact ⟨_, v, rfl, h3, h4⟩
      | _ => simp [loadA] at h
    | _ => simp [loadA] at h
  | _ => simp [loadA] at h
end
end Go.Ev
