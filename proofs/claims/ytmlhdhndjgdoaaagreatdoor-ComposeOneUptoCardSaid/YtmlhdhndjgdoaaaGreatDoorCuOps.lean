/- Joined: CuOpsA CuOpsB CuEq CuOpsC CuOpsD CuOpsE CuOpsF CuOpsG CuOpsH CuOpsI CuOpsJ CuOpsK. -/
import Derived.Test.YtmlhdhndjgdoaaaGreatDoorCuFreeze
import Derived.Laws.Strings
import Derived.Laws.RangeString
import Derived.Laws.RangeAny
import Derived.Laws.Slices
import Derived.Laws.StructEq
import Derived.ChangeKeysEq
import Derived.MapKept
import Derived.Laws.Build
import Derived.Laws.BytesString
import Derived.Laws.BytesArg
import Derived.Lib.ConvBytes
import Derived.Laws.Cover3
import Derived.Great.BuildSlice
import Derived.Lib.MinMax
import Derived.Lib.OthersKept
import Derived.WideMake
import Derived.Laws.CopyRow
import Derived.Deep.AppendSrc
import Derived.Deep.Upon
import Derived.Laws.MakeOwn

/- The operations, first part: operands; what only computes. -/
namespace Go.Ev

theorem ofCell_rep {S : Fz} {v : Value} {x : V} (h : ofCell v = some x) : Rep S x v := by
  unfold ofCell at h
  split at h <;> first | (cases h; constructor) | skip
  all_goals (cases h)

theorem ofCells_rep {S : Fz} : ∀ {l : List Value} {xs : List V}, ofCells l = some xs → Pw (Rep S) xs l := by
  intro l
  induction l with
  | nil => intro xs h; simp [ofCells] at h; subst h; exact Pw.nil
  | cons v r ih =>
    intro xs h
    simp only [ofCells] at h
    split at h
    · rename_i y l' hy hl
      cases h
      exact Pw.cons (ofCell_rep hy) (ih hl)
    · cases h

theorem ofValue_rep {S : Fz} {v : Value} {x : V} (h : ofValue v = some x) : Rep S x v := by
  unfold ofValue at h
  split at h
  · rename_i cs
    split at h
    · rename_i l hl
      cases h
      have : Value.agg cs = .agg cs.toList.toArray := by simp
      rw [this]
      exact Rep.mk_agg (ofCells_rep hl)
    · cases h
  · rename_i vs
    split at h
    · rename_i hz
      cases h
      have : vs = #[] := Array.eq_empty_of_size_eq_zero hz
      subst this
      exact Rep.mk_tup (vs := []) Pw.nil
    · cases h
  · exact ofCell_rep h

theorem cOpds_rel {R : SOpd → Operand → Prop} (hR : ∀ x y, cOpd x = some y → R y x) : ∀ {l : List Operand} {ys : List SOpd}, cOpds l = some ys → Pw R ys l := by
  intro l
  induction l with
  | nil => intro ys h; simp [cOpds] at h; subst h; exact Pw.nil
  | cons v r ih =>
    intro ys h
    simp only [cOpds] at h
    split at h
    · rename_i y l' hy hl
      cases h
      exact Pw.cons (hR _ _ hy) (ih hl)
    · cases h

theorem opds_eq (fr : List SV) (l : List SOpd) : opds fr l = l.map (opd fr) := by
  induction l with
  | nil => rfl
  | cons x r ih => simp [opds, ih]

/-- What has become of a step. -/
def Post (os : Objs) (σ : Locs) (S : Fz) (w : World) (r : R) (v : Value) (w' : World) : Prop :=
  ∃ S' σ', HeapSim S' σ' r.objs w' ∧ relS S' σ' r.sv v ∧ Fr os.length os σ S w r.objs σ' S' w'

/-- An operation is done. -/
def OpDone (P : Program) (s : Sem Next) (w : World) (Q : Value → World → Prop) : Prop :=
  (∃ v w', s.run P w = .ok (.value v) w' ∧ Q v w') ∨ (∃ w', s.run P w = .ok .skip w' ∧ Q undef w') ∨
  (∃ f args, s.run P w = .ok (.enter f args) w ∧ Calls P f args w fun e w' => ∃ v, e = .returned v ∧ Q v w')

theorem OpDone.wp {P : Program} {o : Oper} {a : Act} {w : World} {Q : Value → World → Prop} {K : Act → World → Prop} {E : Exit → Act → World → Prop} (h : OpDone P (execOp a.eval o) w Q) (hk : ∀ v w', Q v w' → K (a.put o.dst v) w') :
    o.wp P a w K E := by
  unfold Oper.wp
  rcases h with ⟨v, w', hr, hq⟩ | ⟨w', hr, hq⟩ | ⟨f, args, hr, hc⟩
  · rw [hr]; exact hk v w' hq
  · rw [hr]; exact hk undef w' hq
  · rw [hr]
    refine Calls.mono hc fun e w' he => ?_
    obtain ⟨v, rfl, hq⟩ := he
    exact hk v w' hq

section
variable {P : Program} {o : Oper} {ρ : Operand → Value} {w : World} {S : Fz} {σ : Locs} {os : Objs} {fr : List SV} {mm : Bool} {call : CallT} {s : SOp} {r : R}

theorem Post.same {v : Value} (hs : HeapSim S σ os w) (h : relS S σ r.sv v) (ho : r.objs = os) : Post os σ S w r v w := by
  refine ⟨S, σ, ho ▸ hs, h, ?_⟩
  rw [ho]
  exact .refl (Nat.le_refl _)

theorem done_same {sv : SV} {v : Value} (hs : HeapSim S σ os w) (hr : (execOp ρ o).run P w = .ok (.value v) w) (h : relS S σ sv v) : OpDone P (execOp ρ o) w (Post os σ S w ⟨sv, os⟩) :=
  .inl ⟨v, w, hr, Post.same hs h rfl⟩

theorem un1_some {x : Operand} {f : SOpd → Option SOp} (h : un1 x f = some s) : ∃ y, cOpd x = some y ∧ f y = some s := by
  unfold un1 at h; split at h
  · exact ⟨_, by assumption, h⟩
  · cases h
theorem un2_some {x y : Operand} {f : SOpd → SOpd → Option SOp} (h : un2 x y f = some s) : ∃ a b, cOpd x = some a ∧ cOpd y = some b ∧ f a b = some s := by
  unfold un2 at h; split at h
  · exact ⟨_, _, by assumption, by assumption, h⟩
  · cases h

variable (hρ : ∀ x y, cOpd x = some y → relS S σ (opd fr y) (ρ x)) (hs : HeapSim S σ os w)
include hρ hs

theorem ok_mv {x : Operand} (ho : o.op = .move x ∨ o.op = .assign x) (hc : un1 x (fun x => some (.mv x)) = some s) (he : evOp mm call fr os s = some r) : OpDone P (execOp ρ o) w (Post os σ S w r) := by
  obtain ⟨y, hy, hf⟩ := un1_some hc
  cases hf
  have hr : (execOp ρ o).run P w = .ok (.value (ρ x)) w := by
    rcases ho with ho | ho <;> simp only [execOp, ho] <;> rfl
  have h := hρ x y hy
  simp only [evOp] at he
  split at he
  · cases he
  · cases he; exact done_same hs hr h

theorem ok_pick {c x y : Operand} (ho : o.op = .pick c x y) (hc : cOp P o.op = some s) (he : evOp mm call fr os s = some r) : OpDone P (execOp ρ o) w (Post os σ S w r) := by
  rw [ho] at hc
  simp only [cOp] at hc
  split at hc
  · rename_i c' x' y' h1 h2 h3
    cases hc
    have e1 := hρ c c' h1
    simp only [evOp] at he
    split at he
    · rename_i hb
      rw [hb] at e1
      have e1 : Rep S (.bool true) (ρ c) := e1
      generalize hcv : ρ c = vc at e1
      cases e1
      cases he
      exact done_same hs (by simp only [execOp, ho, hcv]; rfl) (hρ x x' h2)
    · rename_i hb
      rw [hb] at e1
      have e1 : Rep S (.bool false) (ρ c) := e1
      generalize hcv : ρ c = vc at e1
      cases e1
      cases he
      exact done_same hs (by simp only [execOp, ho, hcv]; rfl) (hρ y y' h3)
    · cases he
  · cases hc

end

/-! ### Loads -/
section
variable {P : Program} {w : World} {S : Fz} {σ : Locs} {os : Objs}

theorem aggT_run {t : TypeId} {g : Bool} (h : aggT P t = some g) (w : World) : (isAgg t).run P w = .ok g w := by
  unfold aggT at h
  unfold isAgg
  split at h
  · rename_i hu; cases h; simp [run_underlying hu]
  · rename_i hu; cases h; simp [run_underlying hu]
  · rename_i d h1 h2 hu
    cases h
    simp only [Sem.run_bind, run_underlying hu, Result.andThen_ok]
    cases d <;> first | rfl | exact absurd rfl (h1 _) | exact absurd rfl (h2 _ _)
  · cases h

theorem sizeT_info {t : TypeId} {n : Nat} (h : sizeT P t = some n) : ∃ i, P.info? t = some i ∧ i.size = n := by
  unfold sizeT at h
  obtain ⟨i, h1, h2⟩ := Option.map_eq_some_iff.1 h
  exact ⟨i, h1, h2⟩

theorem run_typeInfo {t : TypeId} {i : TypeInfo} (h : P.info? t = some i) (w : World) : (typeInfo t).run P w = .ok i w := by
  simp [typeInfo, h]

theorem sizeT_run {t : TypeId} {n : Nat} (h : sizeT P t = some n) (w : World) : (sizeOf t).run P w = .ok n w := by
  obtain ⟨i, h1, rfl⟩ := sizeT_info h
  simp [sizeOf, run_typeInfo h1]

theorem add_plain (b q j : Nat) : (⟨b, q, none⟩ : Addr).add j = ⟨b, q + j, none⟩ := by unfold Addr.add; split <;> simp_all

theorem run_loadVar_agg {t : TypeId} {n b q : Nat} {vs : List Value} (hg : aggT P t = some true) (hn : sizeT P t = some n) (hl : n ≤ vs.length) (hv : ∀ j v, vs[j]? = some v → w.cell? ⟨b, q + j, none⟩ = some v) :
    (loadVar t ⟨b, q, none⟩).run P w = .ok (.agg (vs.take n).toArray) w := by
  have h1 := run_loadCells_list (P := P) w ⟨b, q, none⟩ (vs.take n) (fun j v h => by
    rw [add_plain]
    refine hv j v ?_
    rw [List.getElem?_take] at h
    split at h
    · exact h
    · cases h)
  rw [List.length_take, Nat.min_eq_left hl] at h1
  simp only [loadVar, Sem.run_bind, aggT_run hg, Result.andThen_ok, if_true, sizeT_run hn, h1]
  rfl

theorem run_loadVar_one {t : TypeId} {b q : Nat} {v : Value} (hg : aggT P t = some false) (hv : w.cell? ⟨b, q, none⟩ = some v) : (loadVar t ⟨b, q, none⟩).run P w = .ok v w := by
  simp [loadVar, aggT_run hg, hv]

theorem flat_at {xs : List V} {sz : Nat} (hz : ∀ x ∈ xs, x.cells.length = sz) {k : Nat} {x : V} (hx : xs[k]? = some x) : ((flat xs).drop (k * sz)).take sz = x.cells := by
  induction xs generalizing k with
  | nil => simp at hx
  | cons y r ih =>
    have hy : y.cells.length = sz := hz y (by simp)
    have hr : ∀ x ∈ r, x.cells.length = sz := fun z hz' => hz z (by simp [hz'])
    cases k with
    | zero =>
      simp at hx
      subst hx
      simp [flat, hy ▸ List.take_left' rfl]
    | succ k =>
      simp at hx
      have := ih hr hx
      rw [← this]
      have e : flat (y :: r) = y.cells ++ flat r := by simp [flat]
      rw [e, List.drop_append, List.drop_eq_nil_of_le (by rw [hy, Nat.succ_mul]; omega), hy, Nat.succ_mul]
      simp

theorem flat_get {xs : List V} {sz : Nat} (hz : ∀ x ∈ xs, x.cells.length = sz) {k j : Nat} {x c : V} (hx : xs[k]? = some x) (hc : x.cells[j]? = some c) : (flat xs)[k * sz + j]? = some c := by
  have h := flat_at hz hx
  rw [← h, List.getElem?_take] at hc
  split at hc
  · rwa [List.getElem?_drop] at hc
  · cases hc

theorem flat_length {xs : List V} {sz : Nat} (hz : ∀ x ∈ xs, x.cells.length = sz) : (flat xs).length = xs.length * sz := by
  induction xs with
  | nil => simp [flat]
  | cons y r ih =>
    have e : flat (y :: r) = y.cells ++ flat r := by simp [flat]
    rw [e, List.length_append, hz y (by simp), ih fun z hz' => hz z (by simp [hz'])]
    simp [Nat.add_mul]
    omega

/-- What a row's element's cells are in memory. -/
theorem flat_pw {R : V → Value → Prop} {xs : List V} {sz : Nat} {vs : List Value} (hz : ∀ x ∈ xs, x.cells.length = sz) (hp : Pw R (flat xs) vs) {k : Nat} {x : V} (hx : xs[k]? = some x) : Pw R x.cells ((vs.drop (k * sz)).take sz) := by
  rw [← flat_at hz hx]
  exact (hp.drop _).take _

/-- What is cut out of cells: of an aggregate the cells' values, else one. -/
theorem cutA_rel {ag : Bool} {n q : Nat} {cs : List At} {vs : List Value} {sv : SV} (hp : Pw (relA S σ) cs vs) (h : cutA ag n cs q = some sv) :
    ∃ u, ((ag = true → u = .agg ((vs.drop q).take n).toArray) ∧ (ag = false → vs[q]? = some u)) ∧ relS S σ sv u ∧ (ag = true → n ≤ (vs.drop q).length) := by
  unfold cutA at h
  cases ag with
  | true =>
    simp only [if_true] at h
    split at h
    · cases h
      refine ⟨_, ⟨fun _ => rfl, fun h => by cases h⟩, rel_mkAgg ((hp.drop q).take n), fun _ => ?_⟩
      have := hp.1
      rw [List.length_drop]; omega
    · cases h
  | false =>
    simp only [Bool.false_eq_true, if_false] at h
    split at h
    · rename_i x hx
      cases h
      obtain ⟨v, h1, h2⟩ := hp.get hx
      exact ⟨v, ⟨fun h => (by cases h), fun _ => h1⟩, h2, fun h => by cases h⟩
    · cases h

theorem cutV_rel {ag : Bool} {n q : Nat} {cs : List V} {vs : List Value} {sv : SV} (hp : Pw (Rep S) cs vs) (h : cutV ag n cs q = some sv) :
    ∃ u, ((ag = true → u = .agg ((vs.drop q).take n).toArray) ∧ (ag = false → vs[q]? = some u)) ∧ relS S σ sv u ∧ (ag = true → n ≤ (vs.drop q).length) := by
  unfold cutV at h
  cases ag with
  | true =>
    simp only [if_true] at h
    split at h
    · cases h
      refine ⟨_, ⟨fun _ => rfl, fun h => by cases h⟩, Rep.mk_agg ((hp.drop q).take n), fun _ => ?_⟩
      have := hp.1
      rw [List.length_drop]; omega
    · cases h
  | false =>
    simp only [Bool.false_eq_true, if_false] at h
    split at h
    · rename_i x hx
      cases h
      obtain ⟨v, h1, h2⟩ := hp.get hx
      exact ⟨v, ⟨fun h => (by cases h), fun _ => h1⟩, h2, fun h => by cases h⟩
    · cases h

theorem loadA_ok {p sv : SV} {n : Nat} {g : Bool} {t : TypeId} {pv : Value} (hs : HeapSim S σ os w) (hp : relS S σ p pv) (hg : aggT P t = some g) (hn : sizeT P t = some n) (h : loadA os n g p = some sv) :
    ∃ a v, pv = .pointer (some a) ∧ (loadVar t a).run P w = .ok v w ∧ relS S σ sv v := by
  have agg : ∀ {b q q' : Nat} {cs : List At} {vs : List Value}, Pw (relA S σ) cs vs → (∀ j v, vs[j]? = some v → w.cell? ⟨b, q + j, none⟩ = some v) → cutA g n cs q' = some sv → ∃ v, (loadVar t ⟨b, q + q', none⟩).run P w = .ok v w ∧ relS S σ sv v := by
    intro b q q' cs vs hc hv h
    obtain ⟨u, h1, h2, h3⟩ := cutA_rel hc h
    cases g with
    | true => exact ⟨_, run_loadVar_agg (vs := vs.drop q') hg hn (by simpa using h3 rfl) (fun j v hj => by rw [List.getElem?_drop] at hj; rw [Nat.add_assoc]; exact hv _ _ hj), by rw [← h1.1 rfl]; exact h2⟩
    | false => exact ⟨u, run_loadVar_one hg (hv _ _ (h1.2 rfl)), h2⟩
  have aggV : ∀ {b q q' : Nat} {cs : List V} {vs : List Value}, Pw (Rep S) cs vs → (∀ j v, vs[j]? = some v → w.cell? ⟨b, q + j, none⟩ = some v) → cutV g n cs q' = some sv → ∃ v, (loadVar t ⟨b, q + q', none⟩).run P w = .ok v w ∧ relS S σ sv v := by
    intro b q q' cs vs hc hv h
    obtain ⟨u, h1, h2, h3⟩ := cutV_rel (σ := σ) hc h
    cases g with
    | true => exact ⟨_, run_loadVar_agg (vs := vs.drop q') hg hn (by simpa using h3 rfl) (fun j v hj => by rw [List.getElem?_drop] at hj; rw [Nat.add_assoc]; exact hv _ _ hj), by rw [← h1.1 rfl]; exact h2⟩
    | false => exact ⟨u, run_loadVar_one hg (hv _ _ (h1.2 rfl)), h2⟩
  cases p with
  | a x =>
    cases x with
    | loc i o' =>
      simp only [loadA] at h
      obtain ⟨L, hL, rfl⟩ := hp
      split at h
      · rename_i ty cs ho
        obtain ⟨⟨c, h1, h2⟩, _⟩ := hs.loc ho hL
        obtain ⟨v, h3, h4⟩ := agg (b := L.b) (q := 0) h2 (fun j v hv => by
          simp [World.cell?, h1]
          simpa using hv) h
        rw [Nat.zero_add] at h3
        exact ⟨_, v, rfl, h3, h4⟩
      · cases h
    | el i sz k o' =>
      simp only [loadA] at h
      obtain ⟨L, hL, rfl⟩ := hp
      split at h
      · rename_i e sz' xs ho
        split at h
        · rename_i hsz
          subst hsz
          split at h
          · rename_i x hx
            obtain ⟨⟨h1, h2, h3, vs, h4, h5⟩, _⟩ := hs.loc ho hL
            have hpw := flat_pw h3 h5 hx
            have hlen : x.cells.length = sz' := h3 x (List.mem_of_getElem? hx)
            obtain ⟨v, h6, h7⟩ := aggV (b := L.b) (q := k * sz') hpw (fun j v hv => by
              rw [List.getElem?_take] at hv
              split at hv
              · rw [List.getElem?_drop] at hv
                exact ownsRow_cell h4 hv
              · cases hv) h
            exact ⟨_, v, rfl, h6, h7⟩
          · cases h
        · cases h
      · rename_i e cs ho
        split at h
        · rename_i hc
          obtain ⟨rfl, rfl, rfl⟩ := hc
          split at h
          · rename_i f c1 c2 hx
            cases h
            obtain ⟨⟨c, h1, h2, h3, h4⟩, _⟩ := hs.loc ho hL
            obtain ⟨v, hv, hr⟩ := h4.get hx
            have hcell : w.cell? ⟨L.b, k * 1 + 0, none⟩ = some v := by
              simp [World.cell?, h1]
              simpa using hv
            exact ⟨_, v, rfl, run_loadVar_one hg hcell, hr⟩
          · cases h
        · cases h
      · cases h
    | fadr cs o' =>
      simp only [loadA] at h
      obtain ⟨b, p, vs, h1, h2, rfl⟩ := hp
      obtain ⟨v, h3, h4⟩ := aggV (b := b) (q := p) h1 (fun j v hv => hs.frz.cell _ _ _ (h2 _ _ hv)) h
      exact ⟨_, v, rfl, h3, h4⟩
    | v x =>
      cases x using V.cs with
      | ptr cs =>
        simp only [loadA] at h
        have hp : Rep S (.ptr cs) pv := hp
        cases hp with
        | ptr b p vs hl hc hr =>
          obtain ⟨v, h3, h4⟩ := aggV (b := b) (q := p) ⟨hl, hr⟩ (fun j v hv => hs.frz.cell _ _ _ (hc _ _ hv)) h
          exact ⟨_, v, rfl, h3, h4⟩
      | _ => simp [loadA] at h
    | _ => simp [loadA] at h
  | _ => simp [loadA] at h
end
end Go.Ev

/- The operations, second part: places, fields, elements, cuts. -/
namespace Go.Ev

theorem run_v {P : Program} {s : Sem Value} {w w' : World} {v : Value} (h : s.run P w = .ok v w') : (do pure (Next.value (← s)) : Sem Next).run P w = .ok (.value v) w' := by
  simp [h]

theorem relS.agg? {S : Fz} {σ : Locs} {x : SV} {cs : List At} {v : Value} (h : relS S σ x v) (hc : x.agg? = some cs) : ∃ vs, v = .agg vs.toArray ∧ Pw (relA S σ) cs vs := by
  cases x with
  | agg ds => simp [SV.agg?] at hc; subst hc; exact h
  | a y =>
    cases y with
    | v z =>
      cases z <;> simp [SV.agg?] at hc
      subst hc
      have h : Rep S (.agg _) v := h
      obtain ⟨vs, rfl, hp⟩ := h.of_agg
      exact ⟨vs, rfl, relAs_v hp⟩
    | _ => simp [SV.agg?] at hc
  | _ => simp [SV.agg?] at hc

theorem asInt_rel {S : Fz} {σ : Locs} {x : SV} {n : Int} {v : Value} (h : relS S σ x v) (hn : asInt x = some n) : ∃ k, v = .int k n := by
  unfold asInt at hn
  split at hn
  · cases hn
    have h : Rep S (.int _ n) v := h
    cases h
    exact ⟨_, rfl⟩
  · cases hn

section
variable {P : Program} {o : Oper} {ρ : Operand → Value} {w : World} {S : Fz} {σ : Locs} {os : Objs} {fr : List SV} {mm : Bool} {call : CallT} {s : SOp} {r : R}
variable (hρ : ∀ x y, cOpd x = some y → relS S σ (opd fr y) (ρ x)) (hs : HeapSim S σ os w)
include hρ hs

theorem ok_ld {t : TypeId} {x : Operand} (ho : o.op = .load t x) (hc : cOp P o.op = some s) (he : evOp mm call fr os s = some r) : OpDone P (execOp ρ o) w (Post os σ S w r) := by
  rw [ho] at hc
  simp only [cOp] at hc
  split at hc
  · rename_i g n hg hn
    obtain ⟨y, hy, hf⟩ := un1_some hc
    cases hf
    simp only [evOp] at he
    split at he
    · rename_i sv hl
      cases he
      obtain ⟨a, v, h1, h2, h3⟩ := loadA_ok hs (hρ x y hy) hg hn hl
      refine done_same hs ?_ h3
      simp only [execOp, ho, h1]
      exact run_v (by simpa [Instr.loadAt, Instr.sureAddr] using h2)
    · cases he
  · cases hc

theorem ok_nchk {x : Operand} (ho : o.op = .nilCheck x) (hc : cOp P o.op = some s) (he : evOp mm call fr os s = some r) : OpDone P (execOp ρ o) w (Post os σ S w r) := by
  rw [ho] at hc
  obtain ⟨y, hy, hf⟩ := un1_some hc
  cases hf
  have h := hρ x y hy
  simp only [evOp] at he
  split at he
  · cases he
  · cases he
  · cases he
  · cases he
  · rename_i c hx
    cases he
    rw [hx] at h
    have h' : Rep S (.ptr c) (ρ x) := h
    refine done_same (v := ρ x) hs ?_ h
    generalize hv : ρ x = v at h'
    cases h'
    simp only [execOp, ho, hv]
    rfl
  · rename_i i p hx
    cases he
    rw [hx] at h
    refine done_same (v := ρ x) hs ?_ h
    obtain ⟨L, _, hv⟩ := h
    simp only [execOp, ho, hv]
    rfl
  · rename_i i z k p hx
    cases he
    rw [hx] at h
    refine done_same (v := ρ x) hs ?_ h
    obtain ⟨L, _, hv⟩ := h
    simp only [execOp, ho, hv]
    rfl
  · rename_i c p hx
    cases he
    rw [hx] at h
    refine done_same (v := ρ x) hs ?_ h
    obtain ⟨_, _, _, _, _, hv⟩ := h
    simp only [execOp, ho, hv]
    rfl
  · rename_i f a b hx
    cases he
    rw [hx] at h
    refine done_same (v := ρ x) hs ?_ h
    obtain ⟨_, _, hv, _⟩ := h
    simp only [execOp, ho, hv]
    rfl
  · cases he

omit hρ hs in
theorem run_fieldAt {t : TypeId} {fs : Array Field} {f n : Nat} {fd : Field} {b q : Nat} (hu : P.underlying t = some (.struct fs)) (hf : fs[f]? = some fd) (hn : sizeT P fd.type = some n) (hz : n ≠ 0) :
    (Instr.fieldAt t (.pointer (some ⟨b, q, none⟩)) f).run P w = .ok (.pointer (some ⟨b, q + fd.offset, none⟩)) w := by
  simp [Instr.fieldAt, run_underlying hu, hf, Instr.sureAddr, fieldPlace, sizeT_run hn, hz, add_plain]

theorem ok_fadr {t : TypeId} {x : Operand} {f : Nat} (ho : o.op = .fieldAddr t x f) (hc : cOp P o.op = some s) (he : evOp mm call fr os s = some r) : OpDone P (execOp ρ o) w (Post os σ S w r) := by
  rw [ho] at hc
  obtain ⟨y, hy, hf⟩ := un1_some hc
  unfold cFieldAddr at hf
  split at hf
  · rename_i fs hu
    split at hf
    · rename_i fd hfd
      split at hf
      · rename_i n hn
        split at hf
        · cases hf
        · rename_i hz
          cases hf
          have h := hρ x y hy
          have fin : ∀ {b q : Nat} {sv : SV}, ρ x = .pointer (some ⟨b, q, none⟩) → relS S σ sv (.pointer (some ⟨b, q + fd.offset, none⟩)) → OpDone P (execOp ρ o) w (Post os σ S w ⟨sv, os⟩) := fun {b q sv} hv hr => by
            refine done_same hs ?_ hr
            simp only [execOp, ho, hv]
            exact run_v (run_fieldAt hu hfd hn hz)
          simp only [evOp] at he
          split at he
          · rename_i i p hx
            cases he
            rw [hx] at h
            obtain ⟨L, hL, hv⟩ := h
            exact fin hv ⟨L, hL, rfl⟩
          · rename_i i z k p hx
            cases he
            rw [hx] at h
            obtain ⟨L, hL, hv⟩ := h
            exact fin hv ⟨L, hL, by rw [Nat.add_assoc]⟩
          · rename_i c p hx
            cases he
            rw [hx] at h
            obtain ⟨b, q, vs, h1, h2, hv⟩ := h
            exact fin hv ⟨b, q, vs, h1, h2, by rw [Nat.add_assoc]⟩
          · rename_i c hx
            cases he
            rw [hx] at h
            have h : Rep S (.ptr c) (ρ x) := h
            generalize hv : ρ x = v at h
            cases h with
            | ptr b q vs hl hc hr => exact fin hv ⟨b, q, vs, ⟨hl, hr⟩, hc, rfl⟩
          · cases he
      · cases hf
    · cases hf
  · cases hf

omit hρ hs in
/-- A part of an aggregate's cells. -/
theorem run_part {t : TypeId} {g : Bool} {n q : Nat} {cs : List At} {vs : List Value} {sv : SV} (hg : aggT P t = some g) (hn : sizeT P t = some n) (hp : Pw (relA S σ) cs vs) (h : cutA g n cs q = some sv) :
    ∃ u, (part t vs.toArray q).run P w = .ok u w ∧ relS S σ sv u := by
  obtain ⟨u, h1, h2, h3⟩ := cutA_rel hp h
  refine ⟨u, ?_, h2⟩
  cases g with
  | true =>
    have hu := h1.1 rfl
    subst hu
    simp only [part, Sem.run_bind, aggT_run hg, Result.andThen_ok, if_true, sizeT_run hn]
    have e : vs.toArray.extract q (q + n) = ((vs.drop q).take n).toArray := by
      rw [List.extract_toArray, List.extract_eq_take_drop]
      simp
    simp [e]
  | false =>
    have hu := h1.2 rfl
    simp only [part, Sem.run_bind, aggT_run hg, Result.andThen_ok, Bool.false_eq_true, if_false, List.getElem?_toArray, hu]
    rfl

theorem ok_fld {t : TypeId} {x : Operand} {f : Nat} (ho : o.op = .field t x f) (hc : cOp P o.op = some s) (he : evOp mm call fr os s = some r) : OpDone P (execOp ρ o) w (Post os σ S w r) := by
  rw [ho] at hc
  obtain ⟨y, hy, hf⟩ := un1_some hc
  unfold cField at hf
  split at hf
  · rename_i fs hu
    split at hf
    · rename_i fd hfd
      split at hf
      · rename_i n g hn hg
        cases hf
        have h := hρ x y hy
        simp only [evOp] at he
        split at he
        · rename_i cs hcs
          split at he
          · rename_i sv hsv
            cases he
            obtain ⟨vs, hv, hp⟩ := h.agg? hcs
            obtain ⟨u, h1, h2⟩ := run_part (P := P) (w := w) hg hn hp hsv
            refine done_same hs ?_ h2
            simp only [execOp, ho, hv]
            exact run_v (by simp [Instr.field, run_underlying hu, hfd, asAgg, h1])
          · cases he
        · cases he
      · cases hf
    · cases hf
  · cases hf

omit hρ hs in
theorem run_indexAt_slice' {t e : TypeId} {sz b q len cap : Nat} {n : Int} {ik : IntKind} (hu : P.underlying t = some (.slice e)) (hz : sizeT P e = some sz) (h0 : 0 ≤ n) (h1 : n < len) :
    (Instr.indexAt t (.slice (some ⟨b, q, none⟩) len cap) (.int ik n)).run P w = .ok (.pointer (some ⟨b, q + n.toNat * sz, none⟩)) w := by
  simp [Instr.indexAt, asIntOf, run_underlying hu, h0, h1, sizeT_run hz, add_plain]

omit hρ hs in
theorem run_indexAt_array' {t e : TypeId} {sz b q len : Nat} {n : Int} {ik : IntKind} (hu : P.underlying t = some (.array len e)) (hz : sizeT P e = some sz) (h0 : 0 ≤ n) (h1 : n < len) :
    (Instr.indexAt t (.pointer (some ⟨b, q, none⟩)) (.int ik n)).run P w = .ok (.pointer (some ⟨b, q + n.toNat * sz, none⟩)) w := by
  simp [Instr.indexAt, asIntOf, run_underlying hu, h0, h1, sizeT_run hz, add_plain, Instr.sureAddr]

theorem ok_iadr {t : TypeId} {x i : Operand} (ho : o.op = .indexAddr t x i) (hc : cOp P o.op = some s) (he : evOp mm call fr os s = some r) : OpDone P (execOp ρ o) w (Post os σ S w r) := by
  rw [ho] at hc
  obtain ⟨y, j, hy, hj, hf⟩ := un2_some hc
  have h := hρ x y hy
  have hi := hρ i j hj
  unfold cIndexAddr at hf
  split at hf
  · rename_i e hu
    split at hf
    · rename_i sz hz
      split at hf
      · cases hf
      · rename_i hz0
        cases hf
        simp only [evOp] at he
        split at he
        · cases he
        · rename_i n hn
          obtain ⟨ik, hiv⟩ := asInt_rel hi hn
          split at he
          · cases he
          · rename_i h0
            have h0 : 0 ≤ n := by omega
            have fin : ∀ {b q len cap : Nat} {sv : SV}, ρ x = .slice (some ⟨b, q, none⟩) len cap → n.toNat < len → relS S σ sv (.pointer (some ⟨b, q + n.toNat * sz, none⟩)) → OpDone P (execOp ρ o) w (Post os σ S w ⟨sv, os⟩) := fun {b q len cap sv} hv hlt hr => by
              refine done_same hs ?_ hr
              simp only [execOp, ho, hv, hiv]
              exact run_v (run_indexAt_slice' hu hz h0 (by omega))
            have lst : ∀ {xs : List V} {y' : V}, Rep S (.list xs) (ρ x) → xs[n.toNat]? = some y' → y'.cells.length = sz → OpDone P (execOp ρ o) w (Post os σ S w ⟨.a (.fadr y'.cells 0), os⟩) := fun {xs y'} hr hx hl => by
              have hlt : n.toNat < xs.length := by
                rcases Nat.lt_or_ge n.toNat xs.length with h | h
                · exact h
                · rw [List.getElem?_eq_none h] at hx; cases hx
              generalize hv : ρ x = v at hr
              cases hr with
              | list0 => simp at hx
              | list b q cap sz' vs hz' hcap hl' hlie hr =>
                have e1 : sz' = sz := by rw [← hl]; exact (hz' _ (List.mem_of_getElem? hx)).symm
                subst e1
                refine fin hv hlt ?_
                refine ⟨b, q + n.toNat * sz', (vs.drop (n.toNat * sz')).take sz', flat_pw hz' ⟨hl', hr⟩ hx, fun j v hj => ?_, rfl⟩
                rw [List.getElem?_take] at hj
                split at hj
                · rw [List.getElem?_drop] at hj
                  rw [Nat.add_assoc]
                  exact hlie _ _ hj
                · cases hj
            split at he
            · rename_i xs hx
              split at he
              · rename_i y' hy'
                split at he
                · rename_i hl
                  cases he
                  rw [hx] at h
                  exact lst h hy' hl
                · cases he
              · cases he
            · rename_i jj sw ow mw hx
              rw [hx] at h
              obtain ⟨L, hL, a, c, hv, hmc, ha⟩ := h
              split at he
              · rename_i hc2
                obtain ⟨rfl, hlt⟩ := hc2
                cases he
                have ha' := ha (by omega)
                subst ha'
                exact fin hv hlt ⟨L, hL, by rw [Nat.add_mul]; simp⟩
              · cases he
            · rename_i jj hx
              rw [hx] at h
              obtain ⟨L, hL, hv⟩ := h
              split at he
              · rename_i e' sz' xs hob
                obtain ⟨⟨h1, h2, h3, vs, h4, h5, h6⟩, _⟩ := hs.loc hob hL
                split at he
                · rename_i y' hy'
                  split at he
                  · rename_i hl
                    cases he
                    exact lst (hv ▸ rep_row h2 h3 h4 h5 h6) hy' hl
                  · cases he
                · cases he
              · rename_i e' sz' xs hob
                obtain ⟨⟨h1, h2, h3, vs, h4, h5⟩, _⟩ := hs.loc hob hL
                split at he
                · rename_i hc2
                  obtain ⟨rfl, hlt⟩ := hc2
                  cases he
                  exact fin hv (by omega) ⟨L, hL, by simp⟩
                · cases he
              · rename_i e' cs hob
                obtain ⟨⟨c, h1, h2, h3, h4⟩, _⟩ := hs.loc hob hL
                split at he
                · rename_i hc2
                  obtain ⟨rfl, hlt⟩ := hc2
                  cases he
                  exact fin hv (by omega) ⟨L, hL, by simp⟩
                · cases he
              · cases he
            · cases he
    · cases hf
  · rename_i len e hu
    split at hf
    · rename_i sz hz
      split at hf
      · cases hf
      · cases hf
        simp only [evOp] at he
        split at he
        · cases he
        · rename_i n hn
          obtain ⟨ik, hiv⟩ := asInt_rel hi hn
          split at he
          · rename_i hb
            have fin : ∀ {b q : Nat} {sv : SV}, ρ x = .pointer (some ⟨b, q, none⟩) → relS S σ sv (.pointer (some ⟨b, q + n.toNat * sz, none⟩)) → OpDone P (execOp ρ o) w (Post os σ S w ⟨sv, os⟩) := fun {b q sv} hv hr => by
              refine done_same hs ?_ hr
              simp only [execOp, ho, hv, hiv]
              exact run_v (run_indexAt_array' hu hz hb.1 hb.2)
            split at he
            · rename_i i' p hx
              cases he
              rw [hx] at h
              obtain ⟨L, hL, hv⟩ := h
              exact fin hv ⟨L, hL, rfl⟩
            · rename_i i' z k p hx
              cases he
              rw [hx] at h
              obtain ⟨L, hL, hv⟩ := h
              exact fin hv ⟨L, hL, by rw [Nat.add_assoc]⟩
            · rename_i c p hx
              cases he
              rw [hx] at h
              obtain ⟨b, q, vs, h1, h2, hv⟩ := h
              exact fin hv ⟨b, q, vs, h1, h2, by rw [Nat.add_assoc]⟩
            · rename_i c hx
              cases he
              rw [hx] at h
              have h : Rep S (.ptr c) (ρ x) := h
              generalize hv : ρ x = v at h
              cases h with
              | ptr b q vs hl hc hr => exact fin hv ⟨b, q, vs, ⟨hl, hr⟩, hc, rfl⟩
            · cases he
          · cases he
    · cases hf
  · cases hf

theorem ok_idx {t : TypeId} {x i : Operand} (ho : o.op = .index t x i) (hc : cOp P o.op = some s) (he : evOp mm call fr os s = some r) : OpDone P (execOp ρ o) w (Post os σ S w r) := by
  rw [ho] at hc
  obtain ⟨y, j, hy, hj, hf⟩ := un2_some hc
  have h := hρ x y hy
  have hi := hρ i j hj
  unfold cIndex at hf
  split at hf
  · rename_i hu
    cases hf
    simp only [evOp] at he
    split at he
    · rename_i s' n hx hn
      obtain ⟨ik, hiv⟩ := asInt_rel hi hn
      split at he
      · cases he
      · rename_i h0
        split at he
        · rename_i b hb
          cases he
          rw [hx] at h
          have h : Rep S (.str s') (ρ x) := h
          generalize hv : ρ x = v at h
          cases h
          refine done_same hs ?_ (.int .u8 b.toNat)
          simp only [execOp, ho, hv, hiv]
          refine run_v ?_
          have hlt : n.toNat < s'.length := by
            rcases Nat.lt_or_ge n.toNat s'.length with h | h
            · exact h
            · rw [List.getElem?_eq_none h] at hb; cases hb
          have hb' : (⟨s'.toArray⟩ : ByteArray)[n.toNat]? = some b := by
            simp only [getElem?_def, ByteArray.size, List.size_toArray, hlt, dif_pos]
            rw [List.getElem?_eq_getElem hlt] at hb
            exact hb
          simp [Instr.index, asIntOf, run_underlying hu, show 0 ≤ n by omega, hb']
        · cases he
    · cases he
  · rename_i len e hu
    split at hf
    · rename_i sz g hz hg
      cases hf
      simp only [evOp] at he
      split at he
      · rename_i cs n hcs hn
        obtain ⟨ik, hiv⟩ := asInt_rel hi hn
        split at he
        · rename_i hb
          split at he
          · rename_i sv hsv
            cases he
            obtain ⟨vs, hv, hp⟩ := h.agg? hcs
            obtain ⟨u, h1, h2⟩ := run_part (P := P) (w := w) hg hz hp hsv
            refine done_same hs ?_ h2
            simp only [execOp, ho, hv, hiv]
            exact run_v (by simp [Instr.index, asIntOf, run_underlying hu, hb.1, hb.2, sizeT_run hz, h1])
          · cases he
        · cases he
      · cases he
    · cases hf
  · cases hf

end
end Go.Ev

/- '==' and the checks of a key at types whose cells are numbers, bools and strings. -/
namespace Go.Ev

theorem eqL_append {ks ks' : List FK} {a b a' b' : List V} {r : Bool} (h1 : a.length = ks.length) (h2 : b.length = ks.length) (h : eqL (ks ++ ks') (a ++ a') (b ++ b') = some r) :
    (eqL ks a b = some false ∧ r = false) ∨ (eqL ks a b = some true ∧ eqL ks' a' b' = some r) := by
  induction ks generalizing a b with
  | nil =>
    cases a with
    | nil => cases b with
      | nil => exact .inr ⟨rfl, h⟩
      | cons => simp at h2
    | cons => simp at h1
  | cons k ks ih =>
    cases a with
    | nil => simp at h1
    | cons x a => cases b with
      | nil => simp at h2
      | cons y b =>
        simp only [List.cons_append, eqL] at h ⊢
        cases hxy : eqF k x y with
        | none => rw [hxy] at h; cases h
        | some e =>
          rw [hxy] at h
          cases e with
          | true => exact ih (by simpa using h1) (by simpa using h2) h
          | false => cases h; exact .inl ⟨rfl, rfl⟩

def FV (S : Fz) (g : Bool) (xs : List V) (v : Value) : Prop :=
  match g with
  | true => ∃ vs, v = .agg vs.toArray ∧ Pw (Rep S) xs vs
  | false => ∃ x, xs = [x] ∧ Rep S x v

section
variable {P : Program} {S : Fz} {w : World}

theorem FV.part {g : Bool} {t : TypeId} {n q : Nat} {xs : List V} {vs : List Value} (hg : aggT P t = some g) (hn : sizeT P t = some n) (h1 : g = false → n = 1) (hp : Pw (Rep S) xs vs) (hl : q + n ≤ xs.length) :
    ∃ u, (part t vs.toArray q).run P w = .ok u w ∧ FV S g ((xs.drop q).take n) u := by
  cases g with
  | true =>
    refine ⟨.agg ((vs.drop q).take n).toArray, ?_, _, rfl, (hp.drop q).take n⟩
    simp [Go.part, aggT_run hg, sizeT_run hn]
  | false =>
    have := h1 rfl
    subst this
    have hx : xs[q]? = some xs[q] := List.getElem?_eq_getElem (by omega)
    obtain ⟨v, h2, h3⟩ := hp.get hx
    refine ⟨v, ?_, xs[q], ?_, h3⟩
    · simp [Go.part, aggT_run hg, h2]
    · rw [List.drop_eq_getElem_cons (by omega), List.take_succ_cons, List.take_zero]

theorem flatK_agg {n : Nat} {t : TypeId} {ks : List FK} (h : flatK P n t = some ks) : ∃ g, aggT P t = some g ∧ sizeT P t = some ks.length ∧ (g = false → ks.length = 1) := by
  cases n with
  | zero => simp [flatK] at h
  | succ n =>
    unfold flatK at h
    split at h
    · rename_i k hu hk
      split at h
      · cases h; subst k; exact ⟨false, by simp [aggT, hu], hk, fun _ => rfl⟩
      · cases h
    · rename_i k hu hk
      split at h
      · cases h; subst k; exact ⟨false, by simp [aggT, hu], hk, fun _ => rfl⟩
      · cases h
    · rename_i k hu hk
      split at h
      · cases h; subst k; exact ⟨false, by simp [aggT, hu], hk, fun _ => rfl⟩
      · cases h
    · rename_i fs k hu hk
      split at h
      · split at h
        · split at h
          · rename_i hl
            cases h
            rw [hl]
            exact ⟨true, by simp [aggT, hu], hk, fun h => by cases h⟩
          · cases h
        · cases h
      · cases h
    · rename_i m e k hu hk
      split at h
      · rename_i ks' m' h1 h2
        split at h
        · rename_i hc
          cases h
          refine ⟨true, by simp [aggT, hu], ?_, fun h => by cases h⟩
          rw [hk, hc.2, ← hc.1]
          simp
        · cases h
      · cases h
    · cases h

def EqFlat (P : Program) (S : Fz) (d : Nat) (t : TypeId) (ks : List FK) : Prop :=
  ∀ (w : World) (g : Bool) (xs ys : List V) (vx vy : Value) (r : Bool), aggT P t = some g → xs.length = ks.length → ys.length = ks.length → FV S g xs vx → FV S g ys vy → eqL ks xs ys = some r → (Op.equalIn d t vx vy).run P w = .ok r w

theorem take_drop_split {α : Type} (l : List α) (q n : Nat) : l.drop q = (l.drop q).take n ++ l.drop (q + n) := by
  rw [← List.drop_drop, List.take_append_drop]

theorem run_eqFields_flat {d m : Nat} {xs ys : List V} {vx vy : List Value} (hx : Pw (Rep S) xs vx) (hy : Pw (Rep S) ys vy)
    (hp : ∀ t ks, flatK P m t = some ks → EqFlat P S d t ks) :
    ∀ (fs : List Field) (q k : Nat) (ks : List FK) (r : Bool), tiles P fs q = some k → fieldsK (flatK P m) fs = some ks → q + ks.length = xs.length → q + ks.length = ys.length → eqL ks (xs.drop q) (ys.drop q) = some r →
    (Op.eqFields d vx.toArray vy.toArray fs).run P w = .ok r w
  | [], q, k, ks, r, ht, hk, h1, h2, he => by
    simp only [fieldsK, Option.some.injEq] at hk
    subst hk
    rw [List.drop_eq_nil_of_le (by simp at h1; omega), List.drop_eq_nil_of_le (by simp at h2; omega)] at he
    simp only [eqL, Option.some.injEq] at he
    subst he
    simp [Op.eqFields]
  | f :: fs, q, k, ks, r, ht, hk, h1, h2, he => by
    simp only [fieldsK] at hk
    split at hk
    · cases hk
    · rename_i hname
      split at hk
      · rename_i ka kb hka hkb
        cases hk
        simp only [tiles] at ht
        obtain ⟨g, hg, hn, hone⟩ := flatK_agg hka
        rw [hn] at ht
        simp only at ht
        split at ht
        · rename_i ho
          subst ho
          simp only [List.length_append] at h1 h2
          obtain ⟨a, pa, fa⟩ := FV.part (w := w) (q := f.offset) hg hn hone hx (by omega)
          obtain ⟨b, pb, fb⟩ := FV.part (w := w) (q := f.offset) hg hn hone hy (by omega)
          rw [take_drop_split xs f.offset ka.length, take_drop_split ys f.offset ka.length] at he
          have hl1 : ((xs.drop f.offset).take ka.length).length = ka.length := by simp; omega
          have hl2 : ((ys.drop f.offset).take ka.length).length = ka.length := by simp; omega
          rcases eqL_append hl1 hl2 he with ⟨e1, rfl⟩ | ⟨e1, e2⟩
          · have p3 := hp f.type ka hka w g _ _ a b false hg hl1 hl2 fa fb e1
            simp [Op.eqFields, hname, pa, pb, p3]
          · have p3 := hp f.type ka hka w g _ _ a b true hg hl1 hl2 fa fb e1
            have := run_eqFields_flat hx hy hp fs (f.offset + ka.length) k kb r ht hkb (by omega) (by omega) e2
            simp [Op.eqFields, hname, pa, pb, p3, this]
        · cases ht
      · cases hk

theorem run_eqItems_flat {d : Nat} {e : TypeId} {g : Bool} {ks : List FK} {xs ys : List V} {vx vy : List Value} (hx : Pw (Rep S) xs vx) (hy : Pw (Rep S) ys vy) (hg : aggT P e = some g) (hm : sizeT P e = some ks.length) (h1 : g = false → ks.length = 1)
    (hp : EqFlat P S d e ks) :
    ∀ (n i : Nat) (r : Bool), xs.length = (i + n) * ks.length → ys.length = (i + n) * ks.length → eqL (List.replicate n ks).flatten (xs.drop (i * ks.length)) (ys.drop (i * ks.length)) = some r →
      (Op.eqItems d e ks.length vx.toArray vy.toArray (List.range' i n)).run P w = .ok r w
  | 0, i, r, hlx, hly, he => by
    rw [List.drop_eq_nil_of_le (by rw [hlx]; simp), List.drop_eq_nil_of_le (by rw [hly]; simp)] at he
    simp only [List.replicate_zero, List.flatten_nil, eqL, Option.some.injEq] at he
    subst he
    simp [Op.eqItems]
  | n + 1, i, r, hlx, hly, he => by
    have hle : i * ks.length + ks.length ≤ xs.length := by rw [hlx, ← Nat.succ_mul]; exact Nat.mul_le_mul_right _ (by omega)
    have hle' : i * ks.length + ks.length ≤ ys.length := by rw [hly, ← Nat.succ_mul]; exact Nat.mul_le_mul_right _ (by omega)
    obtain ⟨a, pa, fa⟩ := FV.part (w := w) (q := i * ks.length) hg hm h1 hx hle
    obtain ⟨b, pb, fb⟩ := FV.part (w := w) (q := i * ks.length) hg hm h1 hy hle'
    rw [take_drop_split xs (i * ks.length) ks.length, take_drop_split ys (i * ks.length) ks.length, List.replicate_succ, List.flatten_cons] at he
    have hl1 : ((xs.drop (i * ks.length)).take ks.length).length = ks.length := by simp; omega
    have hl2 : ((ys.drop (i * ks.length)).take ks.length).length = ks.length := by simp; omega
    rw [List.range'_succ]
    rcases eqL_append hl1 hl2 he with ⟨e1, rfl⟩ | ⟨e1, e2⟩
    · have p3 := hp w g _ _ a b false hg hl1 hl2 fa fb e1
      simp [Op.eqItems, pa, pb, p3]
    · have p3 := hp w g _ _ a b true hg hl1 hl2 fa fb e1
      have := run_eqItems_flat hx hy hg hm h1 hp n (i + 1) r (by rw [hlx]; congr 1; omega) (by rw [hly]; congr 1; omega) (by rw [Nat.succ_mul]; exact e2)
      simp [Op.eqItems, pa, pb, p3, this]

theorem cellsOf_of {t : TypeId} {n : Nat} (h : sizeT P t = some n) : P.cellsOf t = n := by
  unfold sizeT at h; simp [Program.cellsOf, h]

theorem eqFlat : ∀ (n : Nat) (t : TypeId) (ks : List FK), flatK P n t = some ks → ∀ d, n ≤ d → EqFlat P S d t ks := by
  intro n
  induction n with
  | zero => intro t ks h; simp [flatK] at h
  | succ n ih =>
    intro t ks h d hd w g xs ys vx vy r hg hlx hly fx fy he
    obtain ⟨d, rfl⟩ : ∃ m, d = m + 1 := ⟨d - 1, by omega⟩
    have one : ∀ k, g = false → ks = [k] → ∃ x y, Rep S x vx ∧ Rep S y vy ∧ eqF k x y = some r := fun k hgf hk => by
      subst hgf hk
      obtain ⟨x, rfl, hx⟩ := fx
      obtain ⟨y, rfl, hy⟩ := fy
      refine ⟨x, y, hx, hy, ?_⟩
      simp only [eqL] at he
      split at he <;> simp_all
    unfold flatK at h
    split at h
    · rename_i k' hu hk'
      split at h
      · cases h
        obtain ⟨x, y, hx, hy, hxy⟩ := one .b (by simp [aggT, hu] at hg; exact hg) rfl
        cases x <;> cases y <;> simp [eqF] at hxy
        cases hx; cases hy
        simp [Op.equalIn, run_underlying hu, hxy]
      · cases h
    · rename_i k' hu hk'
      split at h
      · cases h
        obtain ⟨x, y, hx, hy, hxy⟩ := one .i (by simp [aggT, hu] at hg; exact hg) rfl
        cases x <;> cases y <;> simp [eqF] at hxy
        cases hx; cases hy
        obtain ⟨rfl, hxy⟩ := hxy
        simp [Op.equalIn, run_underlying hu, hxy]
      · cases h
    · rename_i k' hu hk'
      split at h
      · cases h
        obtain ⟨x, y, hx, hy, hxy⟩ := one .s (by simp [aggT, hu] at hg; exact hg) rfl
        cases x <;> cases y <;> simp [eqF] at hxy
        cases hx; cases hy
        rename_i a b
        have e : ((⟨a.toArray⟩ : ByteArray) == ⟨b.toArray⟩) = (a == b) := by
          rw [beq_toListBytes]
          simp
        simp [Op.equalIn, run_underlying hu, e, hxy]
      · cases h
    · rename_i fs k' hu hk'
      split at h
      · rename_i hc
        split at h
        · rename_i ks' hks
          split at h
          · cases h
            have hgt : g = true := by simp [aggT, hu] at hg; exact hg
            subst hgt
            obtain ⟨vs, rfl, hx⟩ := fx
            obtain ⟨us, rfl, hy⟩ := fy
            have hf : P.fieldsOf t = fs := by simp [Program.fieldsOf, hu]
            rw [run_equalIn_struct w d t _ _ (by rw [hf]; exact hu) hc.1, hf]
            exact run_eqFields_flat hx hy (fun t ks h => ih t ks h d (by omega)) fs.toList 0 _ ks r hc.2 hks (by omega) (by omega) (by simpa using he)
          · cases h
        · cases h
      · cases h
    · rename_i m e k' hu hk'
      split at h
      · rename_i ks' m' h1 h2
        split at h
        · rename_i hc
          cases h
          have hgt : g = true := by simp [aggT, hu] at hg; exact hg
          subst hgt
          obtain ⟨vs, rfl, hx⟩ := fx
          obtain ⟨us, rfl, hy⟩ := fy
          obtain ⟨ge, hge, hke, hone⟩ := flatK_agg h1
          obtain ⟨i, hi, _⟩ := sizeT_info hke
          rw [run_equalIn_array w d _ _ hu hi, cellsOf_of hke, List.range_eq_range']
          exact run_eqItems_flat hx hy hge hke hone (ih e ks' h1 d (by omega)) m 0 r (by rw [hlx]; simp) (by rw [hly]; simp) (by simpa using he)
        · cases h
      · cases h
    · cases h

/-! ### A key is checked -/
def ChkFlat (P : Program) (S : Fz) (em : Bool) (d : Nat) (t : TypeId) (ks : List FK) : Prop :=
  ∀ (w : World) (g : Bool) (xs : List V) (vx : Value), aggT P t = some g → xs.length = ks.length → FV S g xs vx → (Instr.checkKey em d t vx).run P w = .ok () w

theorem chkFlat (em : Bool) : ∀ (n : Nat) (t : TypeId) (ks : List FK), flatK P n t = some ks → ∀ d, n ≤ d → ChkFlat P S em d t ks := by
  intro n
  induction n with
  | zero => intro t ks h; simp [flatK] at h
  | succ n ih =>
    intro t ks h d hd w g xs vx hg hlx fx
    obtain ⟨d, rfl⟩ : ∃ m, d = m + 1 := ⟨d - 1, by omega⟩
    unfold flatK at h
    split at h
    · rename_i k' hu hk'
      have hgf : g = false := by simp [aggT, hu] at hg; exact hg
      subst hgf
      simp [Instr.checkKey, run_underlying hu]
    · rename_i k' hu hk'
      simp [Instr.checkKey, run_underlying hu]
    · rename_i k' hu hk'
      simp [Instr.checkKey, run_underlying hu]
    · rename_i fs k' hu hk'
      split at h
      · rename_i hc
        split at h
        · rename_i ks' hks
          split at h
          · cases h
            have hgt : g = true := by simp [aggT, hu] at hg; exact hg
            subst hgt
            obtain ⟨vs, rfl, hx⟩ := fx
            rw [Instr.checkKey]
            simp only [Sem.run_bind, run_underlying hu, Result.andThen_ok]
            rw [← Array.forIn_toList]
            have key : ∀ (L : List Field) (q k : Nat) (kl : List FK), tiles P L q = some k → fieldsK (flatK P n) L = some kl → q + kl.length = xs.length →
                (forIn (m := Sem) L PUnit.unit fun f _ => (if f.name ≠ "_" then (do Instr.checkKey em d f.type (← part f.type vs.toArray f.offset); pure (ForInStep.yield PUnit.unit)) else pure (ForInStep.yield PUnit.unit))).run P w = .ok PUnit.unit w := by
              intro L
              induction L with
              | nil => intros; simp
              | cons f L ihL =>
                intro q k kl ht hkl hq
                simp only [fieldsK] at hkl
                split at hkl
                · cases hkl
                · rename_i hname
                  split at hkl
                  · rename_i ka kb hka hkb
                    cases hkl
                    simp only [tiles] at ht
                    obtain ⟨g, hg, hn, hone⟩ := flatK_agg hka
                    rw [hn] at ht
                    simp only at ht
                    split at ht
                    · rename_i ho
                      subst ho
                      simp only [List.length_append] at hq
                      obtain ⟨a, pa, fa⟩ := FV.part (w := w) (q := f.offset) hg hn hone hx (by omega)
                      have p2 := ih f.type ka hka d (by omega) w g _ a hg (by simp; omega) fa
                      have p3 := ihL (f.offset + ka.length) k kb ht hkb (by omega)
                      simp only [List.forIn_cons, Sem.run_bind, hname, ne_eq, not_false_eq_true, if_true, Result.andThen_ok, pa, p2, Sem.run_pure]
                      simpa using p3
                    · cases ht
                  · cases hkl
            have := key fs.toList 0 _ ks hc.2 hks (by omega)
            simp at this ⊢
            rw [this]
            rfl
          · cases h
        · cases h
      · cases h
    · rename_i m e k' hu hk'
      split at h
      · rename_i ks' m' h1 h2
        split at h
        · rename_i hc
          cases h
          have hgt : g = true := by simp [aggT, hu] at hg; exact hg
          subst hgt
          obtain ⟨vs, rfl, hx⟩ := fx
          obtain ⟨ge, hge, hke, hone⟩ := flatK_agg h1
          rw [Instr.checkKey]
          simp only [Sem.run_bind, run_underlying hu, Result.andThen_ok]
          simp only [Std.Legacy.Range.forIn_eq_forIn_range', Std.Legacy.Range.size, Nat.sub_zero, Nat.add_one_sub_one, Nat.div_one]
          have key : ∀ (n' i : Nat), (i + n') * ks'.length = xs.length →
              (forIn (m := Sem) (List.range' i n') PUnit.unit fun i r => do Instr.checkKey em d e (← part e vs.toArray (i * (← sizeOf e))); pure (ForInStep.yield PUnit.unit)).run P w = .ok PUnit.unit w := by
            intro n'
            induction n' with
            | zero => intros; simp
            | succ n' ihn =>
              intro i hi
              have hle : i * ks'.length + ks'.length ≤ xs.length := by rw [← hi, ← Nat.succ_mul]; exact Nat.mul_le_mul_right _ (by omega)
              obtain ⟨a, pa, fa⟩ := FV.part (w := w) (q := i * ks'.length) hge hke hone hx hle
              have p2 := ih e ks' h1 d (by omega) w ge _ a hge (by simp; omega) fa
              rw [List.range'_succ]
              simp only [List.forIn_cons, Sem.run_bind, sizeT_run hke, Result.andThen_ok, pa, p2, Sem.run_pure]
              simpa using ihn (i + 1) (by rw [← hi]; congr 1; omega)
          have := key m 0 (by rw [hlx]; simp)
          simp at this ⊢
          rw [this]
          rfl
        · cases h
      · cases h
    · cases h

end
end Go.Ev

/- The operations, third part: arithmetic, comparisons, conversions, cuts. -/
namespace Go.Ev

section
variable {P : Program} {S : Fz} {w : World}

theorem run_ari {op : BinOp} {t : TypeId} {x y : Operand} {a b c : V} {va vb : Value} (hn : op ≠ .eql ∧ op ≠ .neq ∨ ∃ d, P.underlying t = some d) (ha : Rep S a va) (hb : Rep S b vb) (h : ariV op a b = some c) :
    ∃ vc, (do eqGuard op t x y va vb; binOp op t va vb).run P w = .ok vc w ∧ Rep S c vc := by
  unfold ariV at h
  split at h
  · rename_i k n k' m
    cases ha; cases hb
    have hg : eqGuard op t x y (.int k n) (.int k' m) = pure () := by cases op <;> rfl
    rw [hg]
    split at h
    · simp only [shiftI] at h
      split at h
      · cases h
      · rename_i hm
        cases h
        refine ⟨_, ?_, .int _ _⟩
        simp [binOp, Op.shift, hm]
    · simp only [shiftI] at h
      split at h
      · cases h
      · rename_i hm
        cases h
        refine ⟨_, ?_, .int _ _⟩
        simp [binOp, Op.shift, hm]
    · rename_i h1 h2
      split at h
      · rename_i hk
        subst hk
        cases op <;> simp only [ariI] at h <;> try (first | cases h | (exact absurd rfl h1) | (exact absurd rfl h2))
        all_goals first
          | (refine ⟨_, ?_, .int _ _⟩; simp [binOp, Op.intArith, Op.intBits]; done)
          | (refine ⟨_, ?_, .bool _⟩; simp [binOp, Op.intCmp]; done)
          | (split at h
             · cases h
             · rename_i hz
               cases h
               refine ⟨_, ?_, .int _ _⟩
               simp [binOp, Op.intDiv, hz])
      · cases h
  · rename_i s u
    cases ha; cases hb
    have hg : eqGuard op t x y (.string ⟨s.toArray⟩) (.string ⟨u.toArray⟩) = pure () := by cases op <;> rfl
    rw [hg]
    cases op <;> simp only [ariS] at h <;> try (cases h; done)
    case add =>
      split at h
      · rename_i hl
        cases h
        refine ⟨.string ⟨(s ++ u).toArray⟩, ?_, .str _⟩
        have e : (⟨s.toArray⟩ : ByteArray) ++ ⟨u.toArray⟩ = ⟨(s ++ u).toArray⟩ := by
          have : ∀ a b : ByteArray, (a ++ b).data = a.data ++ b.data := fun a b => by simp
          have h2 := this ⟨s.toArray⟩ ⟨u.toArray⟩
          cases hh : (⟨s.toArray⟩ : ByteArray) ++ ⟨u.toArray⟩
          rw [hh] at h2
          simp at h2
          rw [h2]
        have hle : ((⟨s.toArray⟩ : ByteArray).size : Int) + ((⟨u.toArray⟩ : ByteArray).size : Int) ≤ 9223372036854775807 := by
          have e1 : (⟨s.toArray⟩ : ByteArray).size = s.length := by simp [ByteArray.size]
          have e2 : (⟨u.toArray⟩ : ByteArray).size = u.length := by simp [ByteArray.size]
          rw [e1, e2]
          unfold maxStr at hl
          omega
        simp [binOp, Op.stringOp, hle, e]
      · cases h
    all_goals
      cases h
      refine ⟨_, ?_, .bool _⟩
      simp [binOp, Op.stringOp]
  · cases h

end

section
variable {P : Program} {o : Oper} {ρ : Operand → Value} {w : World} {S : Fz} {σ : Locs} {os : Objs} {fr : List SV} {mm : Bool} {call : CallT} {s : SOp} {r : R}
variable (hρ : ∀ x y, cOpd x = some y → relS S σ (opd fr y) (ρ x)) (hs : HeapSim S σ os w)
include hρ hs

theorem done_ari {op : BinOp} {t u : TypeId} {x y : Operand} {a b : SOpd} (ho : o.op = .binOp op t x y u) (ha : cOpd x = some a) (hb : cOpd y = some b) (hn : op ≠ .eql ∧ op ≠ .neq ∨ ∃ d, P.underlying t = some d)
    (he : evOp mm call fr os (.ari op a b) = some r) : OpDone P (execOp ρ o) w (Post os σ S w r) := by
  simp only [evOp] at he
  split at he
  · rename_i va vb h1 h2
    split at he
    · rename_i c hc
      cases he
      have e1 := hρ x a ha
      have e2 := hρ y b hb
      rw [h1] at e1
      rw [h2] at e2
      obtain ⟨vc, h3, h4⟩ := run_ari (P := P) (w := w) (t := t) (x := x) (y := y) hn e1 e2 hc
      refine done_same hs ?_ h4
      simp only [execOp, ho]
      exact run_v h3
    · cases he
  · cases he

omit hρ hs in
theorem flatKT_some {t : TypeId} {kt : KT} (h : flatKT P t = some kt) : aggT P t = some kt.ag ∧ flatK P 8 t = some kt.ks := by
  unfold flatKT at h
  split at h
  · rename_i g ks h1 h2; cases h; exact ⟨h1, h2⟩
  · cases h

omit hρ hs in
/-- A value that is a key: its cells. -/
theorem keyCells_FV {kt : KT} {x : V} {v : Value} {cs : List V} (h : keyCells kt x = some cs) (hr : Rep S x v) : FV S kt.ag cs v ∧ cs.length = kt.ks.length := by
  unfold keyCells at h
  split at h
  · rename_i ds
    split at h
    · rename_i hc
      cases h
      obtain ⟨vs, rfl, hp⟩ := hr.of_agg
      rw [hc.1]
      exact ⟨⟨vs, rfl, hp⟩, hc.2⟩
    · cases h
  · cases h
  · split at h
    · rename_i hc
      cases h
      rw [hc.1]
      exact ⟨⟨x, rfl, hr⟩, hc.2.symm⟩
    · cases h

omit hρ hs in
theorem run_keyEq {t : TypeId} {kt : KT} {x y : V} {vx vy : Value} {b : Bool} (hk : flatKT P t = some kt) (hx : Rep S x vx) (hy : Rep S y vy) (h : keyEq kt x y = some b) (w : World) : (Op.equal t vx vy).run P w = .ok b w := by
  unfold keyEq at h
  split at h
  · rename_i cx cy h1 h2
    obtain ⟨k1, k2⟩ := flatKT_some hk
    obtain ⟨f1, l1⟩ := keyCells_FV h1 hx
    obtain ⟨f2, l2⟩ := keyCells_FV h2 hy
    exact eqFlat 8 t kt.ks k2 Op.maxDepth (by unfold Op.maxDepth; omega) w kt.ag cx cy vx vy b k1 l1 l2 f1 f2 h
  · cases h

omit hρ hs in
theorem flatK_guard {P : Program} : ∀ (n : Nat) (t : TypeId) (ks : List FK), flatK P n t = some ks → ∀ d, n ≤ d → P.eqGuardType d t = false := by
  intro n
  induction n with
  | zero => intro t ks h; simp [flatK] at h
  | succ n ih =>
    intro t ks h d hd
    obtain ⟨d, rfl⟩ : ∃ m, d = m + 1 := ⟨d - 1, by omega⟩
    unfold flatK at h
    unfold Program.eqGuardType
    split at h
    · rename_i k hu hk; simp [hu]
    · rename_i k hu hk; simp [hu]
    · rename_i k hu hk; simp [hu]
    · rename_i fs k hu hk
      split at h
      · split at h
        · rename_i ks' hks
          simp only [hu]
          rw [← Array.any_toList]
          have key : ∀ (l : List Field) (kl : List FK), fieldsK (flatK P n) l = some kl → (l.any fun f => f.name != "_" && P.eqGuardType d f.type) = false := by
            intro l
            induction l with
            | nil => intros; rfl
            | cons f l ihl =>
              intro kl hkl
              simp only [fieldsK] at hkl
              split at hkl
              · cases hkl
              · split at hkl
                · rename_i ka kb hka hkb
                  simp [ih f.type ka hka d (by omega), ihl kb hkb]
                · cases hkl
          exact key _ _ hks
        · cases h
      · cases h
    · rename_i m e k hu hk
      split at h
      · rename_i ks' m' h1 h2
        simp only [hu]
        exact ih e ks' h1 d (by omega)
      · cases h
    · cases h

/-- What a type must be for a kind of '=='. -/
def EqTy (P : Program) (t : TypeId) (x y : Operand) : EqK → Prop
  | .ptr => ∃ e, P.underlying t = some (.pointer e)
  | .slc => ∃ e, P.underlying t = some (.slice e)
  | .mp => ∃ k e, P.underlying t = some (.map k e)
  | .fn => ∃ a b c, P.underlying t = some (.func a b c)
  | .ifc => (∃ ms, P.underlying t = some (.interface ms)) ∧ (isNilConst x = true ∨ isNilConst y = true)
  | .flat kt => flatKT P t = some kt ∧ (P.underlying t = some .bool ∨ (aggT P t = some true ∧ 8 ≤ P.depth))

omit hρ hs in
theorem eqv_of {P : Program} {w : World} {t : TypeId} {x y : Operand} {vx vy : Value} {b : Bool} (h : ∀ d, (Op.equalIn (d + 1) t vx vy).run P w = .ok b w) (hg : ∀ op, eqGuard op t x y vx vy = pure ())
    (h1 : binOp .eql t vx vy = (do pure (.bool (← Op.equal t vx vy)))) (h2 : binOp .neq t vx vy = (do pure (.bool (!(← Op.equal t vx vy))))) :
    (do eqGuard .eql t x y vx vy; binOp .eql t vx vy).run P w = .ok (.bool b) w ∧ (do eqGuard .neq t x y vx vy; binOp .neq t vx vy).run P w = .ok (.bool !b) w := by
  have h : (Op.equal t vx vy).run P w = .ok b w := h 9999
  rw [hg, hg, h1, h2]
  exact ⟨by simp [h], by simp [h]⟩

set_option maxHeartbeats 1000000 in
omit hρ hs in
theorem run_eqV {k : EqK} {t : TypeId} {x y : Operand} {sx sy : SV} {vx vy : Value} {b : Bool} (hk : EqTy P t x y k) (hx : relS S σ sx vx) (hy : relS S σ sy vy) (h : eqV k sx sy = some b) (w : World) :
    (do eqGuard .eql t x y vx vy; binOp .eql t vx vy).run P w = .ok (.bool b) w ∧ (do eqGuard .neq t x y vx vy; binOp .neq t vx vy).run P w = .ok (.bool !b) w := by
  cases k with
  | flat kt =>
    cases sx with
    | a xa => cases xa with
      | v a => cases sy with
        | a ya => cases ya with
          | v c =>
            simp only [eqV] at h
            have hx : Rep S a vx := hx
            have hy : Rep S c vy := hy
            obtain ⟨hkt, hty⟩ := hk
            have hrun := run_keyEq hkt hx hy h w
            obtain ⟨k1, k2⟩ := flatKT_some hkt
            unfold keyEq at h
            split at h
            · rename_i ca cc h1 h2
              obtain ⟨f1, l1⟩ := keyCells_FV h1 hx
              obtain ⟨f2, l2⟩ := keyCells_FV h2 hy
              rcases hty with hb | ⟨ha, hd⟩
              · have hag : kt.ag = false := by simp [aggT, hb] at k1; exact k1
                have hks : kt.ks = [.b] := by
                  simp only [flatK, hb] at k2
                  split at k2 <;> simp_all
                rw [hag] at f1 f2
                rw [hks] at h
                obtain ⟨a', rfl, f1⟩ := f1
                obtain ⟨c', rfl, f2⟩ := f2
                cases a' <;> cases c' <;> simp [eqL, eqF] at h
                cases f1; cases f2
                simp [eqGuard, binOp, hrun]
              · rw [ha] at k1
                cases hag : kt.ag with
                | false => rw [hag] at k1; cases k1
                | true =>
                  rw [hag] at f1 f2
                  obtain ⟨va, rfl, _⟩ := f1
                  obtain ⟨vc, rfl, _⟩ := f2
                  have hgd : P.eqGuardType P.depth t = false := flatK_guard 8 t kt.ks k2 P.depth hd
                  simp [eqGuard, binOp, hrun, hgd]
            · cases h
          | _ => simp [eqV] at h
        | _ => simp [eqV] at h
      | _ => simp [eqV] at h
    | _ => simp [eqV] at h
  | ptr =>
    obtain ⟨e, hu⟩ := hk
    cases sx with
    | a xa => cases sy with
      | a ya =>
        cases xa with
        | v a =>
          cases a using V.cs <;> (try (simp [eqV] at h; done))
          · cases ya with
            | v c =>
              cases c using V.cs <;> simp [eqV] at h <;> subst h
              · have hx : Rep S .nilp vx := hx
                have hy : Rep S .nilp vy := hy
                cases hx; cases hy
                exact eqv_of (fun d => by simp [Op.equalIn, run_underlying hu]) (fun op => by cases op <;> rfl) rfl rfl
              · have hx : Rep S .nilp vx := hx
                have hy : Rep S (.ptr _) vy := hy
                cases hx; cases hy
                exact eqv_of (fun d => by simp [Op.equalIn, run_underlying hu]) (fun op => by cases op <;> rfl) rfl rfl
            | loc i q =>
              simp [eqV] at h; subst h
              have hx : Rep S .nilp vx := hx
              obtain ⟨L, _, rfl⟩ := hy
              cases hx
              exact eqv_of (fun d => by simp [Op.equalIn, run_underlying hu]) (fun op => by cases op <;> rfl) rfl rfl
            | _ => simp [eqV] at h
          · cases ya with
            | v c =>
              cases c using V.cs <;> simp [eqV] at h
              subst h
              have hx : Rep S (.ptr _) vx := hx
              have hy : Rep S .nilp vy := hy
              cases hx; cases hy
              exact eqv_of (fun d => by simp [Op.equalIn, run_underlying hu]) (fun op => by cases op <;> rfl) rfl rfl
            | _ => simp [eqV] at h
        | loc i q =>
          cases ya with
          | v c =>
            cases c using V.cs <;> simp [eqV] at h
            subst h
            have hy : Rep S .nilp vy := hy
            obtain ⟨L, _, rfl⟩ := hx
            cases hy
            exact eqv_of (fun d => by simp [Op.equalIn, run_underlying hu]) (fun op => by cases op <;> rfl) rfl rfl
          | _ => simp [eqV] at h
        | _ => simp [eqV] at h
      | _ => simp [eqV] at h
    | _ => simp [eqV] at h
  | slc =>
    obtain ⟨e, hu⟩ := hk
    cases sx with
    | a xa => cases sy with
      | a ya =>
        cases ya with
        | v c =>
          cases c using V.cs with
          | nils =>
            have hy : Rep S .nils vy := hy
            cases hy
            cases xa with
            | v a =>
              have hx : Rep S a vx := hx
              cases a using V.cs with
              | nils =>
                simp [eqV] at h
                subst h
                cases hx
                exact eqv_of (fun d => by simp [Op.equalIn, run_underlying hu]) (fun op => by cases op <;> rfl) rfl rfl
              | list xs =>
                cases xs with
                | nil => simp [eqV] at h
                | cons z zs =>
                  simp [eqV] at h
                  subst h
                  cases hx
                  exact eqv_of (fun d => by simp [Op.equalIn, run_underlying hu]) (fun op => by cases op <;> rfl) rfl rfl
              | _ => simp [eqV] at h
            | own i =>
              simp [eqV] at h; subst h
              obtain ⟨L, _, rfl⟩ := hx
              exact eqv_of (fun d => by simp [Op.equalIn, run_underlying hu]) (fun op => by cases op <;> rfl) rfl rfl
            | _ => simp [eqV] at h
          | _ => cases xa with
            | v a => cases a using V.cs <;> simp [eqV] at h
            | _ => simp [eqV] at h
        | _ => cases xa with
          | v a => cases a using V.cs <;> simp [eqV] at h
          | _ => simp [eqV] at h
      | _ => cases xa with
        | v a => cases a using V.cs <;> simp [eqV] at h
        | _ => simp [eqV] at h
    | _ => simp [eqV] at h
  | mp =>
    obtain ⟨ke, e, hu⟩ := hk
    cases sx with
    | a xa => cases sy with
      | a ya =>
        cases ya with
        | v c =>
          cases c using V.cs with
          | nilm =>
            have hy : Rep S .nilm vy := hy
            cases hy
            cases xa with
            | v a =>
              have hx : Rep S a vx := hx
              cases a using V.cs <;> simp [eqV] at h <;> subst h <;> cases hx <;> exact eqv_of (fun d => by simp [Op.equalIn, run_underlying hu]) (fun op => by cases op <;> rfl) rfl rfl
            | mapr i =>
              simp [eqV] at h; subst h
              obtain ⟨L, _, rfl⟩ := hx
              exact eqv_of (fun d => by simp [Op.equalIn, run_underlying hu]) (fun op => by cases op <;> rfl) rfl rfl
            | _ => simp [eqV] at h
          | _ => cases xa with
            | v a => cases a using V.cs <;> simp [eqV] at h
            | _ => simp [eqV] at h
        | _ => cases xa with
          | v a => cases a using V.cs <;> simp [eqV] at h
          | _ => simp [eqV] at h
      | _ => cases xa with
        | v a => cases a using V.cs <;> simp [eqV] at h
        | _ => simp [eqV] at h
    | _ => simp [eqV] at h
  | fn =>
    obtain ⟨_, _, _, hu⟩ := hk
    cases sy with
    | a ya =>
      cases ya with
      | v c =>
        cases c using V.cs with
        | nilf =>
          have hy : Rep S .nilf vy := hy
          cases hy
          cases sx with
          | a xa =>
            cases xa with
            | v a =>
              have hx : Rep S a vx := hx
              cases a using V.cs <;> simp [eqV] at h
              subst h
              cases hx
              exact eqv_of (fun d => by simp [Op.equalIn, run_underlying hu]) (fun op => by cases op <;> rfl) rfl rfl
            | _ => simp [eqV] at h
          | clo f c1 c2 =>
            simp [eqV] at h; subst h
            obtain ⟨va, vb, rfl, _⟩ := hx
            exact eqv_of (fun d => by simp [Op.equalIn, run_underlying hu]) (fun op => by cases op <;> rfl) rfl rfl
          | _ => simp [eqV] at h
        | _ => cases sx with
          | a xa => cases xa with
            | v a => cases a using V.cs <;> simp [eqV] at h
            | _ => simp [eqV] at h
          | _ => simp [eqV] at h
      | _ => cases sx with
        | a xa => cases xa with
          | v a => cases a using V.cs <;> simp [eqV] at h
          | _ => simp [eqV] at h
        | _ => simp [eqV] at h
    | _ => cases sx with
      | a xa => cases xa with
        | v a => cases a using V.cs <;> simp [eqV] at h
        | _ => simp [eqV] at h
      | _ => simp [eqV] at h
  | ifc =>
    obtain ⟨⟨ms, hu⟩, hcst⟩ := hk
    cases sx with
    | a xa => cases sy with
      | a ya => cases xa with
        | v a => cases ya with
          | v c =>
            have hx : Rep S a vx := hx
            have hy : Rep S c vy := hy
            cases a using V.cs <;> (try (simp [eqV] at h; done)) <;> cases c using V.cs <;> simp [eqV] at h <;> subst h <;> cases hx <;> cases hy
            · exact eqv_of (fun d => by simp [Op.equalIn, run_underlying hu]) (fun op => by cases op <;> rfl) rfl rfl
            · have hg : ∀ op, eqGuard op t x y .nilIface .nilIface = pure () := fun op => by
                rcases hcst with hc | hc
                · cases x <;> simp [isNilConst] at hc
                  exact eqGuard_nil_constL _ _ _ _
                · cases y <;> simp [isNilConst] at hc
                  exact eqGuard_nil_constR _ _ _ _
              exact eqv_of (fun d => by simp [Op.equalIn, run_underlying hu]) hg rfl rfl
          | _ => cases a using V.cs <;> simp [eqV] at h
        | _ => simp [eqV] at h
      | _ => cases xa with
        | v a => cases a using V.cs <;> simp [eqV] at h
        | _ => simp [eqV] at h
    | _ => simp [eqV] at h

theorem done_eq {neg : Bool} {op : BinOp} {t u : TypeId} {x y : Operand} {a b : SOpd} {k : EqK} (hop : op = if neg then .neq else .eql) (ho : o.op = .binOp op t x y u) (ha : cOpd x = some a) (hb : cOpd y = some b) (hk : EqTy P t x y k)
    (he : evOp mm call fr os (.eq neg k a b) = some r) : OpDone P (execOp ρ o) w (Post os σ S w r) := by
  simp only [evOp] at he
  split at he
  · rename_i bb h
    cases he
    obtain ⟨r1, r2⟩ := run_eqV hk (hρ x a ha) (hρ y b hb) h w
    cases neg with
    | true =>
      simp only [if_true] at hop
      subst hop
      refine done_same (v := .bool !bb) hs ?_ (.bool _)
      simp only [execOp, ho]
      exact run_v r2
    | false =>
      simp only [Bool.false_eq_true, if_false] at hop
      subst hop
      refine done_same (v := .bool bb) hs ?_ (.bool _)
      simp only [execOp, ho]
      exact run_v r1
  · cases he

theorem ok_bin {op : BinOp} {t u : TypeId} {x y : Operand} (ho : o.op = .binOp op t x y u) (hc : cOp P o.op = some s) (he : evOp mm call fr os s = some r) : OpDone P (execOp ρ o) w (Post os σ S w r) := by
  rw [ho] at hc
  have eqs : ∀ neg, op = (if neg then .neq else .eql) → cEq P neg t x y = some s → OpDone P (execOp ρ o) w (Post os σ S w r) := by
    intro neg hop hcq
    unfold cEq at hcq
    split at hcq
    · rename_i a b d ha hb hu
      split at hcq
      · cases hcq; rw [hop] at ho; exact done_ari hρ hs ho ha hb (.inr ⟨_, hu⟩) he
      · cases hcq; rw [hop] at ho; exact done_ari hρ hs ho ha hb (.inr ⟨_, hu⟩) he
      · split at hcq
        · rename_i kt hkt; cases hcq; exact done_eq hρ hs (k := .flat kt) hop ho ha hb ⟨hkt, .inl hu⟩ he
        · cases hcq
      · cases hcq; exact done_eq hρ hs (k := .ptr) hop ho ha hb ⟨_, hu⟩ he
      · cases hcq; exact done_eq hρ hs (k := .slc) hop ho ha hb ⟨_, hu⟩ he
      · cases hcq; exact done_eq hρ hs (k := .mp) hop ho ha hb ⟨_, _, hu⟩ he
      · cases hcq; exact done_eq hρ hs (k := .fn) hop ho ha hb ⟨_, _, _, hu⟩ he
      · split at hcq
        · rename_i hn
          cases hcq
          exact done_eq hρ hs (k := .ifc) hop ho ha hb ⟨⟨_, hu⟩, by simpa using hn⟩ he
        · cases hcq
      · split at hcq
        · rename_i hd
          split at hcq
          · rename_i kt hkt; cases hcq; exact done_eq hρ hs (k := .flat kt) hop ho ha hb ⟨hkt, .inr ⟨by simp [aggT, hu], hd⟩⟩ he
          · cases hcq
        · cases hcq
      · split at hcq
        · rename_i hd
          split at hcq
          · rename_i kt hkt; cases hcq; exact done_eq hρ hs (k := .flat kt) hop ho ha hb ⟨hkt, .inr ⟨by simp [aggT, hu], hd⟩⟩ he
          · cases hcq
        · cases hcq
      · cases hcq
    · cases hcq
  cases op <;> first
    | exact eqs false rfl hc
    | exact eqs true rfl hc
    | (obtain ⟨a, b, ha, hb, hf⟩ := un2_some (by simpa only [cOp] using hc)
       cases hf
       exact done_ari hρ hs ho ha hb (.inl ⟨by simp, by simp⟩) he)

end
end Go.Ev

/- The operations, fourth part: unary, conversions, cuts, tuples' parts, interfaces, functions. -/
namespace Go.Ev

theorem bytes_eq (s : List UInt8) : (⟨s.toArray⟩ : ByteArray).data.toList = s := rfl

theorem bytesOf_some {xs : List V} {s : List UInt8} (h : bytesOf xs = some s) : ∃ ns : List Int, xs = ns.map (V.int .u8) ∧ s = ns.map fun n => UInt8.ofNat n.toNat := by
  induction xs generalizing s with
  | nil => simp [bytesOf] at h; subst h; exact ⟨[], rfl, rfl⟩
  | cons x r ih =>
    unfold bytesOf at h
    split at h
    · rename_i hx; cases hx
    · rename_i n r' hx
      cases hx
      split at h
      · rename_i s' hs'
        cases h
        obtain ⟨ns, h1, h2⟩ := ih hs'
        exact ⟨n :: ns, by rw [h1]; rfl, by rw [h2]; rfl⟩
      · cases h
    · cases h

theorem flat_ints {k : IntKind} (ns : List Int) : flat (ns.map (V.int k)) = ns.map (V.int k) := by
  induction ns with
  | nil => rfl
  | cons n r ih => show V.cells (V.int k n) ++ flat (r.map (V.int k)) = _; rw [ih]; rfl

/-- A slice seen whole: nil, or a row of frozen or own cells. -/
theorem elems_ok {S : Fz} {σ : Locs} {os : Objs} {w : World} {x : SV} {xs : List V} {v : Value} (hs : HeapSim S σ os w) (hr : relS S σ x v) (h : elems os x = some xs) :
    (xs = [] ∧ (x = .a (.v .nils) ∧ v = .slice none 0 0)) ∨ (xs = [] ∧ ∃ a cap, v = .slice a 0 cap) ∨
    ∃ b o cap sz vs, v = .slice (some ⟨b, o, none⟩) xs.length cap ∧ xs.length ≤ cap ∧ (∀ x ∈ xs, x.cells.length = sz) ∧ Pw (Rep S) (flat xs) vs ∧ ∀ j u, vs[j]? = some u → w.cell? ⟨b, o + j, none⟩ = some u := by
  unfold elems at h
  split at h
  · cases h
    have hr : Rep S .nils v := hr
    cases hr
    exact .inl ⟨rfl, rfl, rfl⟩
  · rename_i ys
    cases h
    have hr : Rep S (.list xs) v := hr
    cases hr with
    | list0 a cap => exact .inr (.inl ⟨rfl, a, cap, rfl⟩)
    | list b o cap sz vs h1 h2 h3 h4 h5 => exact .inr (.inr ⟨b, o, cap, sz, vs, rfl, h2, h1, ⟨h3, h5⟩, fun j u hu => hs.frz.cell _ _ _ (h4 j u hu)⟩)
  · rename_i i
    obtain ⟨L, hL, rfl⟩ := hr
    split at h
    · rename_i e sz ys ho
      cases h
      obtain ⟨⟨h1, h2, h3, vs, h4, h5, h6⟩, _⟩ := hs.loc ho hL
      refine .inr (.inr ⟨L.b, 0, L.cap, sz, vs, by rw [h2], by rw [h2]; exact ownsRow_cap h4, h3, h5, fun j u hu => ?_⟩)
      rw [Nat.zero_add]; exact ownsRow_cell h4 hu
    · rename_i e sz ys ho
      cases h
      obtain ⟨⟨h1, h2, h3, vs, h4, h5⟩, _⟩ := hs.loc ho hL
      refine .inr (.inr ⟨L.b, 0, L.cap, sz, vs, by rw [h2], by rw [h2]; exact ownsRow_cap h4, h3, h5, fun j u hu => ?_⟩)
      rw [Nat.zero_add]; exact ownsRow_cell h4 hu
    · cases h
  · cases h

/-- Frozen: what a slot holds. -/
theorem freezeS_ok {x : SV} {os os' : Objs} {v : V} {S : Fz} {σ : Locs} {w : World} {val : Value} (h : freezeS os x = some (v, os')) (hs : HeapSim S σ os w) (hr : relS S σ x val) :
    ∃ S', HeapSim S' σ os' w ∧ Rep S' v val ∧ Fr os.length os σ S w os' σ S' w ∧ os'.length = os.length := by
  have tups : ∀ (l : List T2) (os : Objs) (vs : List V) (os' : Objs) (S : Fz) (vals : List Value), freezeTs os l = some (vs, os') → HeapSim S σ os w → Pw (relT S σ) l vals →
      ∃ S', HeapSim S' σ os' w ∧ Pw (Rep S') vs vals ∧ Fr os.length os σ S w os' σ S' w ∧ os'.length = os.length := by
    intro l
    induction l with
    | nil =>
      intro os vs os' S vals h hs hr
      simp only [freezeTs, Option.some.injEq, Prod.mk.injEq] at h
      obtain ⟨rfl, rfl⟩ := h
      rw [hr.nil_left]
      exact ⟨S, hs, Pw.nil, .refl (Nat.le_refl _), rfl⟩
    | cons x r ih =>
      intro os vs os' S vals h hs hr
      obtain ⟨v0, vr, rfl, h0, hr⟩ := hr.cons_left
      simp only [freezeTs] at h
      split at h
      · rename_i y os1 hy
        split at h
        · rename_i ys os2 hys
          cases h
          obtain ⟨S1, hs1, hr1, hf1, hl1⟩ := freezeT_ok (freezeA_ok depth) os x y os1 S σ w v0 hy hs h0
          obtain ⟨S2, hs2, hr2, hf2, hl2⟩ := ih os1 ys os' S1 vr hys hs1 (relTs.mono hf1.le (.refl _) hr)
          exact ⟨S2, hs2, Pw.cons (hr1.mono hf2.le) hr2, hf1.trans (hl1 ▸ hf2), hl2.trans hl1⟩
        · cases h
      · cases h
  cases x with
  | undef => simp [freezeS] at h
  | a x => exact freezeA_ok depth os x v os' S σ w val h hs hr
  | agg cs =>
    obtain ⟨vals, rfl, hp⟩ := hr
    simp only [freezeS] at h
    split at h
    · rename_i vs os1 hv
      cases h
      obtain ⟨S', h1, h2, h3, h4⟩ := freezeL_ok (freezeA_ok depth) cs os vs os' S σ w vals hv hs hp
      exact ⟨S', h1, Rep.mk_agg h2, h3, h4⟩
    · cases h
  | tup cs =>
    obtain ⟨vals, rfl, hp⟩ := hr
    simp only [freezeS] at h
    split at h
    · rename_i vs os1 hv
      cases h
      obtain ⟨S', h1, h2, h3, h4⟩ := tups cs os vs os' S vals hv hs hp
      exact ⟨S', h1, Rep.mk_tup h2, h3, h4⟩
    · cases h
  | clo f a b =>
    obtain ⟨va, vb, rfl, hpa, hpb⟩ := hr
    simp only [freezeS] at h
    split at h
    · rename_i as os1 ha
      split at h
      · rename_i bs os2 hb
        cases h
        obtain ⟨S1, h1, h2, h3, h4⟩ := freezeL_ok (freezeA_ok depth) a os as os1 S σ w va ha hs hpa
        obtain ⟨S2, k1, k2, k3, k4⟩ := freezeL_ok (freezeA_ok depth) b os1 bs os' S1 σ w vb hb h1 (relAs.mono h3.le (.refl _) hpb)
        have h2' := h2.mono fun a b => Rep.mono (S' := S2) k3.le (x := a) (v := b)
        exact ⟨S2, k1, .fn f va vb h2'.1 k2.1 h2'.2 k2.2, h3.trans (h4 ▸ k3), k4.trans h4⟩
      · cases h
    · cases h

section
variable {P : Program} {o : Oper} {ρ : Operand → Value} {w : World} {S : Fz} {σ : Locs} {os : Objs} {fr : List SV} {mm : Bool} {call : CallT} {s : SOp} {r : R}

theorem run_bounds {isS : Bool} {len cap : Nat} {lo hi : Option Operand} {lo' hi' : Option SOpd} {l h : Nat} (hρ : ∀ x y, cOpd x = some y → relS S σ (opd fr y) (ρ x)) (hl : cOpt lo = some lo') (hh : cOpt hi = some hi') (hb : bounds fr lo' hi' len = some (l, h)) (hc : len ≤ cap) :
    (Instr.sliceBounds isS len cap (lo.map ρ) (hi.map ρ) none).run P w = .ok (l, h, cap) w ∧ l ≤ h ∧ h ≤ len := by
  have one : ∀ {x : Operand} {y : Option SOpd} {n : Int}, cOpt (some x) = some y → (match y with | none => some (len : Int) | some h => asInt (opd fr h)) = some n → ∃ k, ρ x = .int k n := by
    intro x y n hx hy
    simp only [cOpt] at hx
    split at hx
    · rename_i z hz; cases hx; exact asInt_rel (hρ _ _ hz) hy
    · cases hx
  have one' : ∀ {x : Operand} {y : Option SOpd} {n : Int}, cOpt (some x) = some y → (match y with | none => some 0 | some h => asInt (opd fr h)) = some n → ∃ k, ρ x = .int k n := by
    intro x y n hx hy
    simp only [cOpt] at hx
    split at hx
    · rename_i z hz; cases hx; exact asInt_rel (hρ _ _ hz) hy
    · cases hx
  unfold bounds at hb
  split at hb
  · rename_i hn ln h1 h2
    split at hb
    · rename_i hg
      split at hb
      · rename_i hg2
        cases hb
        refine ⟨?_, by omega, by omega⟩
        have ehi : ((ln.toNat : Nat) : Int) = ln := by omega
        have ehh : ((hn.toNat : Nat) : Int) = hn := by omega
        cases lo with
        | none =>
          simp only [cOpt, Option.some.injEq] at hl
          subst hl
          simp only [Option.some.injEq] at h2
          subst h2
          cases hi with
          | none =>
            simp only [cOpt, Option.some.injEq] at hh
            subst hh
            simp only [Option.some.injEq] at h1
            subst h1
            simp [Instr.sliceBounds]
          | some x =>
            obtain ⟨k, hk⟩ := one hh h1
            simp [Instr.sliceBounds, hk, run_sliceBound, hg.1, show hn ≤ (cap : Int) by omega]
        | some y =>
          obtain ⟨kl, hkl⟩ := one' hl h2
          cases hi with
          | none =>
            simp only [cOpt, Option.some.injEq] at hh
            subst hh
            simp only [Option.some.injEq] at h1
            subst h1
            simp [Instr.sliceBounds, hkl, run_sliceBound, hg2.1, hg2.2]
          | some x =>
            obtain ⟨k, hk⟩ := one hh h1
            have e1 := run_sliceBound (P := P) w k hn cap (if isS then .sliceAcap else .sliceAlen) hg.1 (by omega)
            have e2 := run_sliceBound (P := P) w kl ln hn.toNat .sliceB hg2.1 (by omega)
            simp only [Instr.sliceBounds, Option.map_some, hk, hkl, Sem.run_bind, Sem.run_pure, Result.andThen_ok, e1, Option.isSome_none, Bool.false_eq_true, if_false, e2]
      · cases hb
    · cases hb
  · cases hb

variable (hρ : ∀ x y, cOpd x = some y → relS S σ (opd fr y) (ρ x)) (hs : HeapSim S σ os w)
include hρ hs

theorem ok_un {op : UnOp} {t : TypeId} {x : Operand} (ho : o.op = .unOp op t x) (hc : cOp P o.op = some s) (he : evOp mm call fr os s = some r) : OpDone P (execOp ρ o) w (Post os σ S w r) := by
  rw [ho] at hc
  obtain ⟨y, hy, hf⟩ := un1_some (by simpa only [cOp] using hc)
  cases hf
  have h := hρ x y hy
  simp only [evOp] at he
  split at he
  · rename_i v hv
    cases he
    unfold unV at hv
    split at hv
    · rename_i k n hx
      cases hv
      rw [hx] at h
      have h : Rep S (.int k n) (ρ x) := h
      generalize hvx : ρ x = vx at h
      cases h
      refine done_same hs ?_ (.int _ _)
      simp only [execOp, ho, hvx]
      exact run_v (by simp [Op.unary, Op.intArith])
    · rename_i k n hx
      rw [hx] at h
      have h : Rep S (.int k n) (ρ x) := h
      generalize hvx : ρ x = vx at h
      cases h
      simp only [ariI, Option.some.injEq] at hv
      subst hv
      refine done_same hs ?_ (.int _ _)
      simp only [execOp, ho, hvx]
      exact run_v (by simp [Op.unary, Op.intBits])
    · rename_i b hx
      cases hv
      rw [hx] at h
      have h : Rep S (.bool b) (ρ x) := h
      generalize hvx : ρ x = vx at h
      cases h
      refine done_same hs ?_ (.bool _)
      simp only [execOp, ho, hvx]
      exact run_v (by simp [Op.unary])
    · cases hv
  · cases he

theorem ok_ext {x : Operand} {i : Nat} (ho : o.op = .extract x i) (hc : cOp P o.op = some s) (he : evOp mm call fr os s = some r) : OpDone P (execOp ρ o) w (Post os σ S w r) := by
  rw [ho] at hc
  obtain ⟨y, hy, hf⟩ := un1_some (by simpa only [cOp] using hc)
  cases hf
  have h := hρ x y hy
  simp only [evOp] at he
  split at he
  · rename_i vs hx
    split at he
    · rename_i z hz
      cases he
      rw [hx] at h
      have h : Rep S (.tup vs) (ρ x) := h
      obtain ⟨us, hvx, hp⟩ := h.of_tup
      obtain ⟨u, hu, hr⟩ := hp.get hz
      refine done_same hs ?_ hr
      simp only [execOp, ho, hvx]
      exact run_v (by simp [Instr.extract, hu])
    · cases he
  · rename_i vs hx
    split at he
    · rename_i z hz
      cases he
      rw [hx] at h
      obtain ⟨us, hvx, hp⟩ := h
      obtain ⟨u, hu, hr⟩ := hp.get hz
      refine done_same hs ?_ (rel_T2sv hr)
      simp only [execOp, ho, hvx]
      exact run_v (by simp [Instr.extract, hu])
    · cases he
  · cases he

theorem ok_mkif {t : TypeId} {x : Operand} (ho : o.op = .makeInterface t x) (hc : cOp P o.op = some s) (he : evOp mm call fr os s = some r) : OpDone P (execOp ρ o) w (Post os σ S w r) := by
  rw [ho] at hc
  simp only [cOp] at hc
  split at hc
  · cases hc
  · rename_i d hnd hu
    obtain ⟨y, hy, hf⟩ := un1_some hc
    cases hf
    have h := hρ x y hy
    simp only [evOp] at he
    split at he
    · rename_i v os' hfz
      cases he
      obtain ⟨S', h1, h2, h3, h4⟩ := freezeS_ok hfz hs h
      refine .inl ⟨.iface t (ρ x), w, ?_, S', σ, h1, Rep.iface t h2, h3⟩
      simp only [execOp, ho]
      refine run_v (run_makeInterface w t (ρ x) ?_)
      unfold Program.concrete
      cases d <;> simp_all
    · cases he
  · cases hc

omit hs in
theorem flatA_rel {l : List Operand} {ys : List SOpd} {as : List At} (hl : cOpds l = some ys) (h : flatA (opds fr ys) = some as) : Pw (relA S σ) as (l.map ρ) := by
  have hp := cOpds_rel (R := fun y x => relS S σ (opd fr y) (ρ x)) hρ hl
  clear hl
  induction ys generalizing l as with
  | nil => simp [opds, flatA] at h; subst h; rw [hp.nil_left]; exact Pw.nil
  | cons y r ih =>
    obtain ⟨x, l', rfl, h0, hr⟩ := hp.cons_left
    simp only [opds] at h
    unfold flatA at h
    split at h
    · rename_i hx; cases hx
    · rename_i z r' hx
      simp only [List.cons.injEq] at hx
      obtain ⟨hx, rfl⟩ := hx
      split at h
      · rename_i l2 hl2
        cases h
        rw [hx] at h0
        exact Pw.cons h0 (ih hl2 hr)
      · cases h
    · cases h

theorem ok_clo {f : Fn} {a b : Array Operand} (ho : o.op = .makeFunc f a b) (hc : cOp P o.op = some s) (he : evOp mm call fr os s = some r) : OpDone P (execOp ρ o) w (Post os σ S w r) := by
  rw [ho] at hc
  cases f with
  | func f =>
    simp only [cOp] at hc
    split at hc
    · rename_i as bs ha hb
      cases hc
      simp only [evOp] at he
      split at he
      · rename_i a' b' ha' hb'
        cases he
        refine done_same (v := .func (.func f) (a.map ρ) (b.map ρ)) hs ?_ ⟨a.toList.map ρ, b.toList.map ρ, ?_, flatA_rel hρ ha ha', flatA_rel hρ hb hb'⟩
        · simp only [execOp, ho]
          exact run_v rfl
        · rw [← Array.toList_map, ← Array.toList_map]
      · cases he
    · cases hc
  | _ => simp [cOp] at hc

theorem ok_s2a {t : TypeId} {x : Operand} (ho : o.op = .sliceToArrayPointer t x) (hc : cOp P o.op = some s) (he : evOp mm call fr os s = some r) : OpDone P (execOp ρ o) w (Post os σ S w r) := by
  rw [ho] at hc
  simp only [cOp] at hc
  split at hc
  · rename_i n e hu
    obtain ⟨y, hy, hf⟩ := un1_some hc
    cases hf
    have h := hρ x y hy
    simp only [evOp] at he
    split at he
    · rename_i xs hxs
      split at he
      · rename_i hg
        obtain ⟨hn, hn0, hone⟩ := hg
        split at he
        · rename_i v os' hfz
          cases he
          obtain ⟨S', h1, h2, h3, h4⟩ := freezeS_ok hfz hs h
          -- the frozen slice is the same list
          have hv : v = .list xs := by
            generalize hox : opd fr y = ox at hfz hxs
            unfold elems at hxs
            split at hxs
            · cases hxs; simp at hn; omega
            · cases hxs; simp [freezeS, freezeA, depth] at hfz; exact hfz.1.symm
            · rename_i i
              split at hxs
              · rename_i hoo; cases hxs; simp [freezeS, freezeA, depth, hoo] at hfz; exact hfz.1.symm
              · rename_i hoo; cases hxs; simp [freezeS, freezeA, depth, hoo] at hfz; exact hfz.1.symm
              · cases hxs
            · cases hxs
          subst hv
          generalize hvx : ρ x = vx at h2
          have hflat : ∀ (l : List V), l.all V.one = true → flat l = l := by
            intro l
            induction l with
            | nil => intro _; rfl
            | cons a l ih =>
              intro hl
              simp only [List.all_cons, Bool.and_eq_true] at hl
              show V.cells a ++ flat l = a :: l
              rw [ih hl.2]
              cases a <;> first | rfl | (simp [V.one] at hl)
          cases h2 with
          | list0 => simp at hn; omega
          | list b p cap sz vs k1 k2 k3 k4 k5 =>
            refine .inl ⟨.pointer (some ⟨b, p, none⟩), w, ?_, S', σ, h1, ?_, h3⟩
            · simp only [execOp, ho, hvx]
              exact run_v (run_arrayAt w t e n _ _ _ hu hn)
            · rw [hflat xs hone] at k3 k5
              exact ⟨b, p, vs, ⟨k3, k5⟩, k4, by simp⟩
        · cases he
      · cases he
    · cases he
  · cases hc

theorem ok_conv {t d : TypeId} {x : Operand} (ho : o.op = .convert t d x) (hc : cOp P o.op = some s) (he : evOp mm call fr os s = some r) : OpDone P (execOp ρ o) w (Post os σ S w r) := by
  rw [ho] at hc
  obtain ⟨y, hy, hf⟩ := un1_some (by simpa only [cOp] using hc)
  have h := hρ x y hy
  unfold cConv at hf
  split at hf
  · -- int to int
    rename_i k0 k hu hd
    cases hf
    simp only [evOp] at he
    split at he
    · rename_i kk n hx
      cases he
      rw [hx] at h
      have h : Rep S (.int kk n) (ρ x) := h
      generalize hvx : ρ x = vx at h
      cases h
      refine done_same hs ?_ (.int _ _)
      simp only [execOp, ho, hvx]
      exact run_v (by simp [convert, run_underlying hu, run_underlying hd, Conv.intToInt])
    · cases he
  · rename_i hu hd
    cases hf
    simp only [evOp] at he
    split at he
    · rename_i z hx
      cases he
      rw [hx] at h
      have h : Rep S (.str z) (ρ x) := h
      generalize hvx : ρ x = vx at h
      cases h
      refine done_same hs ?_ (.str _)
      simp only [execOp, ho, hvx]
      exact run_v (by simp [convert, run_underlying hu, run_underlying hd])
    · cases he
  · -- string to bytes
    rename_i e hu hd
    split at hf
    · rename_i hue
      cases hf
      simp only [evOp] at he
      split at he
      · rename_i z hx
        split at he
        · cases he
          rw [hx] at h
          have h : Rep S (.str z) (ρ x) := h
          generalize hvx : ρ x = vx at h
          cases h
          have hrun := Lib.run_convert_string_bytes w t d e ⟨z.toArray⟩ hu hd hue
          have hfree : ∀ j, S.cell w.heap.size j = none := fun j => by
            cases hcj : S.cell w.heap.size j with
            | none => rfl
            | some v => have := hs.frz.lt (b := w.heap.size) (.inl ⟨j, v, hcj⟩); omega
          have hsz : (⟨z.toArray⟩ : ByteArray).size = z.length := by simp [ByteArray.size]
          let vs : List Value := z.map fun b => .int .u8 b.toNat
          have hle := addCells_le (vs := vs) hfree
          have hold := Lib.bytesWorld_at_old w e ⟨z.toArray⟩
          have hg := hs.grown (w' := Lib.bytesWorld w e ⟨z.toArray⟩) hold
          have hno : ¬ Own os σ w.heap.size := by
            rintro ⟨i, x, M, hx, hM, hb⟩
            have := (hs.loc hx hM).1.lt; omega
          have hcell : ∀ j v, vs[j]? = some v → (Lib.bytesWorld w e ⟨z.toArray⟩).cell? ⟨w.heap.size, j, none⟩ = some v := fun j v hv => by
            have hj : j < z.length := by
              rcases Nat.lt_or_ge j z.length with h | h
              · exact h
              · simp [vs, List.getElem?_eq_none h] at hv
            rw [Lib.bytesWorld_cell w e _ j (by omega)]
            simp only [vs, List.getElem?_map, List.getElem?_eq_getElem hj, Option.map_some, Option.some.injEq] at hv
            subst hv
            simp [List.getD, List.getElem?_eq_getElem hj]
          refine .inl ⟨_, _, by simp only [execOp, ho, hvx]; exact run_v hrun, addCells S w.heap.size vs, σ, hg.more hno hle (addCells_ok hg.frz hfree hcell) fun b hb => addCells_other hb, ?_, ?_⟩
          · have hflat : flat (z.map fun b => V.int .u8 b.toNat) = z.map fun b => V.int .u8 b.toNat := by
              have := flat_ints (k := .u8) (z.map fun b => (b.toNat : Int))
              simpa [List.map_map, Function.comp_def] using this
            have hcapz : z.length ≤ grownCap w (⟨z.toArray⟩ : ByteArray).size 0 e := by
              rw [hsz]
              exact grownCap_ge w z.length 0 e
            have hrep : Rep (addCells S w.heap.size vs) (.list (z.map fun b => V.int .u8 b.toNat)) (.slice (some ⟨w.heap.size, 0, none⟩) (z.map fun b => V.int .u8 b.toNat).length (grownCap w (⟨z.toArray⟩ : ByteArray).size 0 e)) := by
              refine .list w.heap.size 0 _ 1 vs ?_ (by simpa using hcapz) ?_ (addCells_lies _ _ _) ?_
              · intro x hx
                obtain ⟨b, _, rfl⟩ := List.mem_map.1 hx
                rfl
              · rw [hflat]; simp [vs]
              · intro j c v hc hv
                rw [hflat] at hc
                simp only [vs, List.getElem?_map] at hc hv
                obtain ⟨b, hb, rfl⟩ := Option.map_eq_some_iff.1 hc
                rw [hb] at hv
                cases hv
                exact .int _ _
            rw [List.length_map, ← hsz] at hrep
            exact hrep
          · have g := Fr.grown (os := os) (σ := σ) (S := S) (w := w) (w' := Lib.bytesWorld w e ⟨z.toArray⟩) hold (by rw [Lib.bytesWorld_size]; omega) rfl rfl rfl
            refine ⟨hle, g.loc, g.len, g.dead, g.size, g.so, g.tape, g.output, fun b hb hn => ?_, g.own⟩
            have hne : b ≠ w.heap.size := by omega
            exact ⟨hold b hb, (addCells_other hne).1, (addCells_other hne).2⟩
        · cases he
      · cases he
    · cases hf
  · -- bytes to string
    rename_i e hu hd
    split at hf
    · rename_i hue
      cases hf
      simp only [evOp] at he
      split at he
      · rename_i xs hxs
        split at he
        · rename_i z hz
          cases he
          obtain ⟨ns, rfl, rfl⟩ := bytesOf_some hz
          have fin : ∀ {v : Value}, ρ x = v → (convert t d v).run P w = .ok (.string (strOfNums ns)) w → OpDone P (execOp ρ o) w (Post os σ S w ⟨.a (.v (.str (ns.map fun n => UInt8.ofNat n.toNat))), os⟩) := fun {v} hv hr => by
            refine done_same hs ?_ (.str _)
            simp only [execOp, ho, hv]
            exact run_v hr
          rcases elems_ok hs h hxs with ⟨h0, _, hv⟩ | ⟨h0, a, cap, hv⟩ | ⟨b, p, cap, sz, vs, hv, h1, h2, h3, h4⟩
          · simp at h0
            subst h0
            exact fin hv (run_convert_bytes_nil w t e hu hue 0 0 d hd)
          · simp at h0
            subst h0
            cases a with
            | none => exact fin hv (run_convert_bytes_nil w t e hu hue 0 cap d hd)
            | some ad =>
              refine fin hv ?_
              rw [run_convert_bytes_string w t d e _ 0 cap hu hue hd]
              have hl := run_loadCells_list (P := P) w ad [] (fun j v hj => by simp at hj)
              rw [run_bytesToString w ad 0 cap [] hl]
              rfl
          · rw [flat_ints] at h3
            refine fin hv ?_
            rw [List.length_map]
            refine run_convert_bytes_arg w t e hu hue b p _ cap ns rfl (fun i hi => ?_) d hd
            obtain ⟨u, hu1, hu2⟩ := h3.get (j := i) (a := .int .u8 (ns.getD i 0)) (by simp [List.getD, List.getElem?_eq_getElem hi])
            rw [h4 i u hu1]
            cases hu2
            rfl
        · cases he
      · cases he
    · cases hf
  · rename_i k hu hd
    cases hf
    simp only [evOp] at he
    split at he
    · rename_i kk n hx
      cases he
      rw [hx] at h
      have h : Rep S (.int kk n) (ρ x) := h
      generalize hvx : ρ x = vx at h
      cases h
      refine done_same hs ?_ (.str _)
      simp only [execOp, ho, hvx]
      exact run_v (by simp [convert, run_underlying hu, run_underlying hd, Conv.intToString])
    · cases he
  · cases hf

end
end Go.Ev

/- The operations, fifth part: built-ins that only compute; aggregates; new objects. -/
namespace Go.Ev

section
variable {P : Program} {o : Oper} {ρ : Operand → Value} {w : World} {S : Fz} {σ : Locs} {os : Objs} {fr : List SV} {mm : Bool} {call : CallT} {s : SOp} {r : R}

theorem run_builtin {b : Builtin} {args : Array Operand} {ts : Array TypeId} {v : Value} {w' : World} (ho : o.op = .call { callee := .builtin b, args := args, argTypes := ts })
    (hr : (builtin b ts o.type (args.map fun | .const _ => true | _ => false) (args.map ρ)).run P w = .ok (.value v) w') : (execOp ρ o).run P w = .ok (.value v) w' := by
  simp only [execOp, ho, resolve, invoke, Sem.run_bind, Sem.run_pure, Result.andThen_ok]
  exact hr

theorem zeroOf_run {t : TypeId} {z : V} (h : zeroOf P t = some z) : ∃ zv i, P.info? t = some i ∧ i.zero = some zv ∧ (∀ w, (zeroValue t).run P w = .ok zv w) ∧ ∀ S, Rep S z zv := by
  unfold zeroOf at h
  split at h
  · rename_i i hi
    split at h
    · rename_i zv hz
      exact ⟨zv, i, hi, hz, fun w => by simp [zeroValue, typeInfo, hi, hz], fun S => ofValue_rep h⟩
    · cases h
  · cases h

/-- The cells of so many zeros. -/
theorem zeros_flat {z : V} {n sz : Nat} (hz : z.cells.length = sz) : flat (List.replicate n z) = (List.replicate n z.cells).flatten ∧ (flat (List.replicate n z)).length = n * sz := by
  constructor
  · simp [flat, List.flatMap]
  · rw [flat_length (sz := sz) (fun x hx => by rw [(List.mem_replicate.1 hx).2]; exact hz)]; simp

theorem range_zeros {α : Type} [Inhabited α] (zc : Array α) (n : Nat) (h : 0 < zc.size) : ((Array.range (n * zc.size)).map (zc[· % zc.size]!)).toList = (List.replicate n zc.toList).flatten := by
  induction n with
  | zero => simp
  | succ n ih =>
    rw [List.replicate_succ', List.flatten_append, ← ih]
    apply List.ext_getElem?
    intro k
    simp only [Array.toList_map, Array.toList_range, List.getElem?_map, List.flatten_cons, List.flatten_nil, List.append_nil, Nat.add_mul, Nat.one_mul]
    by_cases hk : k < n * zc.size
    · rw [List.getElem?_append_left (by simpa using hk)]
      simp [hk, show k < n * zc.size + zc.size by omega]
    · by_cases hk2 : k < n * zc.size + zc.size
      · rw [List.getElem?_append_right (by simpa using Nat.le_of_not_lt hk)]
        have e : k % zc.size = k - n * zc.size := by
          have : k = (k - n * zc.size) + n * zc.size := by omega
          rw [this, Nat.add_mul_mod_self_right, Nat.mod_eq_of_lt (by omega)]
          omega
        simp [hk2, e, show k - n * zc.size < zc.size by omega]
      · rw [List.getElem?_eq_none (by simpa using Nat.le_of_not_lt hk2), List.getElem?_eq_none (by simp; omega)]
        rfl

/-- A new object in the next block. -/
theorem post_new {x : Obj} {n : LObj} {sv : SV} {v : Value} {L : Loc} {w1 : World} (hs : HeapSim S σ os w) (hb : L.b = w.heap.size) (hw : w1 = w.alloc x) (hn : ObjSim S (putLoc σ os.length L) n L w1) (hv : relS S (putLoc σ os.length L) sv v) :
    Post os σ S w ⟨sv, os ++ [some n]⟩ v w1 := by
  subst hw
  have hk : ∀ b, b < w.heap.size → (w.alloc x).heap[b]? = w.heap[b]? := fun b hb => heap_alloc_old w x b hb
  exact ⟨S, _, hs.new hk (by omega) hn, hv, Fr.new hk (by omega) (by simp) rfl rfl rfl⟩

variable (hρ : ∀ x y, cOpd x = some y → relS S σ (opd fr y) (ρ x)) (hs : HeapSim S σ os w)
include hρ hs

omit hρ in
theorem ok_alloc {t : TypeId} (ho : o.op = .alloc t) (hc : cOp P o.op = some s) (he : evOp mm call fr os s = some r) : OpDone P (execOp ρ o) w (Post os σ S w r) := by
  rw [ho] at hc
  simp only [cOp] at hc
  split at hc
  · rename_i z hz
    cases hc
    simp only [evOp, Option.some.injEq] at he
    subst he
    obtain ⟨zv, i, h1, h2, h3, h4⟩ := zeroOf_run hz
    refine .inl ⟨.pointer (some ⟨w.heap.size, 0, none⟩), w.alloc (.cells zv.cells t), ?_, post_new (L := ⟨w.heap.size, 0, 0⟩) hs rfl rfl ⟨zv.cells, heap_alloc_new w _, ?_⟩ ⟨_, putLoc_self _ _ _, rfl⟩⟩
    · simp only [execOp, ho]
      exact run_v (by simp [Instr.alloc, h3, newVar, newRow])
    · exact relAs_v (h4 S).cells
  · cases hc

theorem ok_box {t : TypeId} {x : Operand} (ho : o.op = .box t x) (hc : cOp P o.op = some s) (he : evOp mm call fr os s = some r) : OpDone P (execOp ρ o) w (Post os σ S w r) := by
  rw [ho] at hc
  simp only [cOp] at hc
  split at hc
  · obtain ⟨y, hy, hf⟩ := un1_some hc
    cases hf
    simp only [evOp] at he
    split at he
    · rename_i cs hcs
      split at he
      · cases he
        have h := (hρ x y hy).cells hcs
        refine .inl ⟨.pointer (some ⟨w.heap.size, 0, none⟩), w.alloc (.cells (ρ x).cells t), ?_, post_new (L := ⟨w.heap.size, 0, 0⟩) hs rfl rfl ⟨(ρ x).cells, heap_alloc_new w _, ?_⟩ ⟨_, putLoc_self _ _ _, rfl⟩⟩
        · simp only [execOp, ho]
          exact run_v (by simp [Instr.box, newVar, newRow])
        · exact relAs.mono (.refl _) (putLoc_le _ (hs.fit _ (Nat.le_refl _))) h
      · cases he
    · cases he
  · cases hc

omit hρ in
theorem ok_mkmap {t : TypeId} {x : Option Operand} (ho : o.op = .makeMap t x) (hc : cOp P o.op = some s) (he : evOp mm call fr os s = some r) : OpDone P (execOp ρ o) w (Post os σ S w r) := by
  rw [ho] at hc
  cases x with
  | some x => simp [cOp] at hc
  | none =>
    simp only [cOp, Option.some.injEq] at hc
    subst hc
    simp only [evOp, Option.some.injEq] at he
    subst he
    refine .inl ⟨.map (some w.heap.size), w.alloc (.map #[] 0), ?_, post_new (L := ⟨w.heap.size, 0, 0⟩) hs rfl rfl ⟨fun _ e he => (by cases he), #[], heap_alloc_new w _, rfl, ?_, ?_⟩ ⟨_, putLoc_self _ _ _, rfl⟩⟩
    · simp only [execOp, ho]
      exact run_v (run_makeMap_plain w t)
    · intro j e h; simp at h
    · intro j k x e h; simp at h

theorem ok_rng {t : TypeId} {x : Operand} (ho : o.op = .range t x) (hc : cOp P o.op = some s) (he : evOp mm call fr os s = some r) : OpDone P (execOp ρ o) w (Post os σ S w r) := by
  rw [ho] at hc
  simp only [cOp] at hc
  split at hc
  · rename_i hu
    obtain ⟨y, hy, hf⟩ := un1_some hc
    cases hf
    have h := hρ x y hy
    simp only [evOp] at he
    split at he
    · rename_i z hx
      cases he
      rw [hx] at h
      have h : Rep S (.str z) (ρ x) := h
      generalize hv : ρ x = v at h
      cases h
      refine .inl ⟨.pointer (some ⟨w.heap.size, 0, none⟩), w.iter ⟨z.toArray⟩ 0, ?_, post_new (L := ⟨w.heap.size, 0, 0⟩) hs rfl rfl (World.iter_heap w _ 0) ⟨_, putLoc_self _ _ _, rfl⟩⟩
      simp only [execOp, ho, hv]
      exact run_v (run_range_string w t _ hu)
    · cases he
  · cases hc

theorem ok_nxt {x : Operand} {b : Bool} (ho : o.op = .next x b) (hc : cOp P o.op = some s) (he : evOp mm call fr os s = some r) : OpDone P (execOp ρ o) w (Post os σ S w r) := by
  rw [ho] at hc
  cases b with
  | false => simp [cOp] at hc
  | true =>
    obtain ⟨y, hy, hf⟩ := un1_some (by simpa only [cOp] using hc)
    cases hf
    have h := hρ x y hy
    simp only [evOp] at he
    split at he
    · rename_i i hx
      rw [hx] at h
      obtain ⟨L, hL, hv⟩ := h
      split at he
      · rename_i z pos hob
        have hit : w.heap[L.b]? = some (.stringIter ⟨z.toArray⟩ pos) := (hs.loc hob hL).1
        have hz : (⟨z.toArray⟩ : ByteArray).size = z.length := by simp [ByteArray.size]
        split at he
        · rename_i hlt
          cases he
          have hother : ∀ b, b ≠ L.b → (w.iterAt L.b ⟨z.toArray⟩ (pos + (Utf8.decode ⟨z.toArray⟩ pos).2)).heap[b]? = w.heap[b]? := fun b hb => by
            simp [World.iterAt, Ne.symm hb]
          refine .inl ⟨_, _, by simp only [execOp, ho, hv]; exact run_v (Lib.run_next_any_at w L.b _ pos o.type hit (by omega)), S, σ, ?_, ?_, ?_⟩
          · refine hs.put (o' := .iter z _) hob hL hother ?_ (Lib.iterAt_heap w L.b _ pos _ hit) rfl
            intro j v hj
            have := (hs.loc hob hL).2.cell j (Nat.zero_le _)
            rw [this] at hj; cases hj
          · exact Rep.mk_tup (Pw.cons (.bool _) (Pw.cons (.int _ _) (Pw.cons (.int _ _) Pw.nil)))
          · exact Fr.put hob hL hother (by simp [World.iterAt]) rfl rfl rfl
        · rename_i hlt
          cases he
          refine done_same hs (by simp only [execOp, ho, hv]; exact run_v (Lib.run_next_end_at w L.b _ pos o.type hit (by omega))) (Rep.mk_tup (Pw.cons (.bool _) Pw.nil))
      · cases he
    · cases he

omit hρ hs in
theorem fold_splice (off : Nat) (v : Value) (cells : Array Value) (h : off + v.cells.size ≤ cells.size) : (v.cells.zipIdx.foldl (fun cs (x : Value × Nat) => cs.setIfInBounds (off + x.2) x.1) cells).toList = splice cells.toList off v.cells.toList := by
  rw [← Array.foldl_toList, Array.toList_zipIdx]
  obtain ⟨h1, h2⟩ := Great.foldl_set off v.cells.toList 0 cells
  apply List.ext_getElem?
  intro k
  rw [Array.getElem?_toList, h2 k]
  unfold splice
  simp only [Nat.add_zero, Array.length_toList]
  by_cases hk : off ≤ k ∧ k < off + v.cells.size
  · rw [if_pos ⟨hk.1, hk.2, by omega⟩, List.append_assoc, List.getElem?_append_right (by simp; omega), List.getElem?_append_left (by simp; omega)]
    congr 1
    simp; omega
  · rw [if_neg (by omega), List.append_assoc]
    by_cases hlt : k < off
    · rw [List.getElem?_append_left (by simp; omega), List.getElem?_take, if_pos hlt]
      simp
    · rw [List.getElem?_append_right (by simp; omega), List.getElem?_append_right (by simp; omega), List.getElem?_drop]
      rw [← Array.getElem?_toList]
      congr 1
      simp; omega

omit hρ hs in
theorem Pw.splice {α β : Type} {R : α → β → Prop} {as xs : List α} {bs ys : List β} (h : Pw R as bs) (k : Pw R xs ys) (off : Nat) : Pw R (Ev.splice as off xs) (Ev.splice bs off ys) := by
  unfold Ev.splice
  rw [k.1]
  exact ((h.take off).append k).append (h.drop _)

omit hs in
theorem fill_ok {place : Nat → Option (Nat × Nat)} : ∀ (parts : List (Nat × Operand)) (ps : List (Nat × Nat × SOpd)) (cells : Array Value) (cs cs' : List At), cParts place parts = some ps → Pw (relA S σ) cs cells.toList → buildP fr cs ps = some cs' →
    ∃ cells', Instr.fill place cells (parts.map fun (i, x) => (i, ρ x)) = some cells' ∧ Pw (relA S σ) cs' cells'.toList := by
  intro parts
  induction parts with
  | nil =>
    intro ps cells cs cs' h hp hb
    simp only [cParts, Option.some.injEq] at h
    subst h
    simp only [buildP, Option.some.injEq] at hb
    subst hb
    exact ⟨cells, rfl, hp⟩
  | cons p rest ih =>
    intro ps cells cs cs' h hp hb
    obtain ⟨i, x⟩ := p
    simp only [cParts] at h
    split at h
    · rename_i off sz y l h1 h2 h3
      cases h
      simp only [buildP] at hb
      split at hb
      · rename_i ys hys
        split at hb
        · rename_i hg
          have hc := (hρ x y h2).cells hys
          have hl := hc.1
          have hl2 := hp.1
          simp only [Array.length_toList] at hl hl2
          have hsp := fold_splice off (ρ x) cells (by omega)
          obtain ⟨cells', h4, h5⟩ := ih l ((ρ x).cells.zipIdx.foldl (fun cs (x : Value × Nat) => cs.setIfInBounds (off + x.2) x.1) cells) (Ev.splice cs off ys) cs' h3 (by rw [hsp]; exact hp.splice hc off) hb
          refine ⟨cells', ?_, h5⟩
          simp only [List.map_cons]
          unfold Instr.fill
          simp only [h1]
          rw [if_neg (by simp; omega)]
          exact h4
        · cases hb
      · cases hb
    · cases h

theorem ok_build {t : TypeId} {parts : Array (Nat × Operand)} (ho : o.op = .build t parts) (hc : cOp P o.op = some s) (he : evOp mm call fr os s = some r) : OpDone P (execOp ρ o) w (Post os σ S w r) := by
  rw [ho] at hc
  simp only [cOp] at hc
  unfold cBuild at hc
  split at hc
  · rename_i z hz
    obtain ⟨zv, i, h1, h2, h3, h4⟩ := zeroOf_run hz
    have hzc := (h4 S).cells
    have fin : ∀ {place : Nat → Option (Nat × Nat)} {ps : List (Nat × Nat × SOpd)}, cParts place parts.toList = some ps → s = .build z ps → (∀ (pv : Array (Nat × Value)) (cells : Array Value), Instr.fill place zv.cells pv.toList = some cells → (Instr.build t pv).run P w = .ok (.agg cells) w) →
        OpDone P (execOp ρ o) w (Post os σ S w r) := by
      intro place ps hps hs' hrun
      subst hs'
      simp only [evOp] at he
      split at he
      · rename_i cs hcs
        cases he
        obtain ⟨cells, k1, k2⟩ := fill_ok hρ parts.toList ps zv.cells _ cs hps (relAs_v hzc) hcs
        refine done_same (v := .agg cells) hs ?_ ?_
        · simp only [execOp, ho]
          exact run_v (hrun _ cells (by rw [Array.toList_map]; exact k1))
        · have := rel_mkAgg k2
          simpa using this
      · cases he
    split at hc
    · rename_i fs hu
      split at hc
      · cases hc
      · rename_i hall
        rw [Bool.not_eq_false] at hall
        split at hc
        · rename_i ps hps
          cases hc
          refine fin hps rfl fun pv cells hf => ?_
          have hmap : fs.toList.mapM (fun f => (P.info? f.type).map fun i => (f.offset, i.size)) = some (fs.toList.map fun f => (f.offset, (sizeT P f.type).getD 0)) := by
            have : ∀ (l : List Field), (l.all fun f => (sizeT P f.type).isSome) = true → l.mapM (fun f => (P.info? f.type).map fun i => (f.offset, i.size)) = some (l.map fun f => (f.offset, (sizeT P f.type).getD 0)) := by
              intro l
              induction l with
              | nil => intro _; rfl
              | cons f l ih =>
                intro hl
                simp only [List.all_cons, Bool.and_eq_true] at hl
                obtain ⟨n, hn⟩ := Option.isSome_iff_exists.1 hl.1
                obtain ⟨i, hi, rfl⟩ := sizeT_info hn
                simp [List.mapM_cons, hi, ih hl.2, sizeT]
            exact this _ hall
          have hpl := run_places w _ _ hmap
          have hfun : placeT P fs = fun (x : Nat) => (fs.toList.map fun (f : Field) => (f.offset, (sizeT P f.type).getD 0))[x]? := by
            funext i
            rw [List.getElem?_map, Array.getElem?_toList]
            unfold placeT
            cases hfi : fs[i]? with
            | none => rfl
            | some f =>
              have : (sizeT P f.type).isSome = true := by
                have hm : f ∈ fs.toList := by
                  have := Array.mem_of_getElem? hfi
                  simpa using this
                exact List.all_eq_true.1 hall f hm
              obtain ⟨n, hn⟩ := Option.isSome_iff_exists.1 this
              simp [hn]
          rw [hfun] at hf
          simp [Instr.build, run_underlying hu, h3, Array.mapM_eq_mapM_toList]
          simp only [hpl, Result.andThen_ok]
          simp at hf
          simp [hf]
        · cases hc
    · rename_i n e hu
      split at hc
      · rename_i sz hsz
        split at hc
        · rename_i ps hps
          cases hc
          refine fin hps rfl fun pv cells hf => ?_
          simp [Instr.build, run_underlying hu, h3, sizeT_run hsz, hf]
        · cases hc
      · cases hc
    · cases hc
  · cases hc

theorem ok_len {x : Operand} {t : TypeId} {a : SOpd} (ho : o.op = .call { callee := .builtin .len, args := #[x], argTypes := #[t] }) (hx : cOpd x = some a) (hc : cBuiltin P .len [a] [t] = some s) (he : evOp mm call fr os s = some r) : OpDone P (execOp ρ o) w (Post os σ S w r) := by
  have h := hρ x a hx
  have fin : ∀ {n : Nat}, (Builtin.len_ #[t] o.type #[ρ x]).run P w = .ok (goInt n) w → OpDone P (execOp ρ o) w (Post os σ S w ⟨.a (.v (.int .i64 n)), os⟩) := fun {n} hr => by
    refine done_same hs (v := goInt n) ?_ (.int _ _)
    refine run_builtin ho ?_
    simp only [builtin]
    exact run_v (by simpa using hr)
  simp only [cBuiltin] at hc
  split at hc
  · rename_i n e hu
    cases hc
    simp only [evOp, Option.some.injEq] at he
    subst he
    exact fin (by simp [Builtin.len_, run_underlying hu])
  · rename_i pt hu
    split at hc
    · rename_i n e hu2
      cases hc
      simp only [evOp, Option.some.injEq] at he
      subst he
      exact fin (by simp [Builtin.len_, run_underlying hu, run_underlying hu2])
    · cases hc
  · rename_i hu
    cases hc
    simp only [evOp] at he
    split at he
    · rename_i n hn
      cases he
      simp only [lenV] at hn
      unfold lenS at hn
      split at hn
      · rename_i z hox
        cases hn
        rw [hox] at h
        have h : Rep S (.str z) (ρ x) := h
        generalize hv : ρ x = v at h fin
        cases h
        exact fin (run_len_string w t o.type ⟨z.toArray⟩ hu)
      · cases hn
    · cases he
  · rename_i e hu
    cases hc
    have fin2 : ∀ {n : Nat} {a : Option Addr} {c : Nat}, ρ x = .slice a n c → OpDone P (execOp ρ o) w (Post os σ S w ⟨.a (.v (.int .i64 n)), os⟩) := fun {n a c} hv => fin (by rw [hv]; simp [Builtin.len_, run_underlying hu])
    simp only [evOp] at he
    split at he
    · rename_i n hn
      cases he
      simp only [lenV] at hn
      unfold lenL at hn
      split at hn
      · rename_i hox
        cases hn
        rw [hox] at h
        have h : Rep S .nils (ρ x) := h
        generalize hv : ρ x = v at h
        cases h
        exact fin2 hv
      · rename_i xs hox
        cases hn
        rw [hox] at h
        have h : Rep S (.list xs) (ρ x) := h
        generalize hv : ρ x = v at h
        cases h with
        | list0 => exact fin2 hv
        | list => exact fin2 hv
      · rename_i i hox
        rw [hox] at h
        obtain ⟨L, hL, hv⟩ := h
        split at hn
        · rename_i e' sz xs hob
          cases hn
          rw [(hs.loc hob hL).1.2.1]
          exact fin2 hv
        · rename_i e' sz xs hob
          cases hn
          rw [(hs.loc hob hL).1.2.1]
          exact fin2 hv
        · rename_i e' cs hob
          cases hn
          obtain ⟨⟨c, h1, h2, h3, h4⟩, _⟩ := hs.loc hob hL
          rw [← h2]
          exact fin2 hv
        · cases hn
      · rename_i j sz lo m hox
        rw [hox] at h
        obtain ⟨L, hL, a, c, hv, _⟩ := h
        cases hn
        exact fin2 hv
      · cases hn
    · cases he
  · rename_i kt e hu
    cases hc
    simp only [evOp] at he
    split at he
    · rename_i n hn
      cases he
      simp only [lenV] at hn
      unfold lenM at hn
      split at hn
      · rename_i hox
        cases hn
        rw [hox] at h
        have h : Rep S .nilm (ρ x) := h
        generalize hv : ρ x = v at h fin
        cases h
        exact fin (by simp [Builtin.len_, run_underlying hu])
      · rename_i es hox
        cases hn
        rw [hox] at h
        have h : Rep S (.map es) (ρ x) := h
        generalize hv : ρ x = v at h fin
        cases h with
        | map r ents ks xs hm hl _ _ _ =>
          obtain ⟨c, hb⟩ := hs.frz.mp _ _ hm
          rw [hl]
          exact fin (by simp [Builtin.len_, run_underlying hu, getObj, Sem.run, hb])
      · rename_i i hox
        rw [hox] at h
        obtain ⟨L, hL, hv⟩ := h
        split at hn
        · rename_i es hob
          cases hn
          obtain ⟨⟨_, ents, h1, h2, h3, h4⟩, _⟩ := hs.loc hob hL
          rw [h2]
          rw [hv] at fin
          exact fin (by simp [Builtin.len_, run_underlying hu, getObj, Sem.run, h1])
        · cases hn
      · cases hn
    · cases he
  · cases hc

theorem ok_minmax {mx : Bool} {x y : Operand} {ts : Array TypeId} {a b : SOpd} (ho : o.op = .call { callee := .builtin (if mx then .max else .min), args := #[x, y], argTypes := ts }) (hx : cOpd x = some a) (hy : cOpd y = some b) (he : evOp mm call fr os (.minmax mx a b) = some r) :
    OpDone P (execOp ρ o) w (Post os σ S w r) := by
  have h := hρ x a hx
  have k := hρ y b hy
  simp only [evOp] at he
  split at he
  · rename_i kx n ky m h1 h2
    cases he
    rw [h1] at h
    rw [h2] at k
    have h : Rep S (.int kx n) (ρ x) := h
    have k : Rep S (.int ky m) (ρ y) := k
    generalize hvx : ρ x = vx at h
    generalize hvy : ρ y = vy at k
    cases h
    cases k
    refine done_same hs ?_ (.int _ _)
    refine run_builtin ho ?_
    cases mx with
    | true => simp [builtin, hvx, hvy, Builtin.max_, Builtin.max2]
    | false => simp [builtin, hvx, hvy, Builtin.min_, Builtin.min2]
  · cases he

end
end Go.Ev

/- The operations, sixth part: rows made; stores. -/
namespace Go.Ev

theorem relA_one {S : Fz} {σ : Locs} {x : At} {v : Value} (h : relA S σ x v) (hx : x.one = true) : v.oneCell' = true := by
  cases x with
  | v x => exact Rep.one h hx
  | fadr cs o => obtain ⟨_, _, _, _, _, rfl⟩ := h; rfl
  | win i sz lo n => obtain ⟨_, _, _, _, rfl, _⟩ := h; rfl
  | _ => obtain ⟨_, _, rfl⟩ := h; rfl

theorem relAs_one {S : Fz} {σ : Locs} {l : List At} {vs : List Value} (h : Pw (relA S σ) l vs) (hx : l.all At.one = true) : ∀ v ∈ vs, v.oneCell' = true := by
  intro v hv
  obtain ⟨j, hj⟩ := List.mem_iff_getElem?.1 hv
  have hlt : j < l.length := by
    rcases Nat.lt_or_ge j vs.length with h' | h'
    · have := h.1; omega
    · rw [List.getElem?_eq_none h'] at hj; cases hj
  exact relA_one (h.2 j _ v (List.getElem?_eq_getElem hlt) hj) (List.all_eq_true.1 hx _ (List.getElem_mem hlt))

theorem reps_one {S : Fz} {l : List V} {vs : List Value} (h : Pw (Rep S) l vs) (hx : l.all V.one = true) : ∀ v ∈ vs, v.oneCell' = true := by
  intro v hv
  obtain ⟨j, hj⟩ := List.mem_iff_getElem?.1 hv
  have hlt : j < l.length := by
    rcases Nat.lt_or_ge j vs.length with h' | h'
    · have := h.1; omega
    · rw [List.getElem?_eq_none h'] at hj; cases hj
  exact (h.2 j _ v (List.getElem?_eq_getElem hlt) hj).one (List.all_eq_true.1 hx _ (List.getElem_mem hlt))

/-- A new row in a new block: what the call may grow, or write. -/
theorem obj_row {S : Fz} {e : TypeId} {sz n cap b : Nat} {xs : List V} {vs : List Value} {w : World} {cur : Array Value} (hl : xs.length = n) (hz : ∀ x ∈ xs, x.cells.length = sz) (hp : Pw (Rep S) (flat xs) vs)
    (hb : w.heap[b]? = some (.cells cur e (0, 0))) (hc : cur.size = cap * sz) (hn : n ≤ cap) (hm : cap ≤ maxLen) (ht : cur.toList.take (n * sz) = vs) : w.ownsRow 0 e sz (.slice (some ⟨b, 0, none⟩) n cap) n vs := by
  refine ⟨?_, .inr ⟨b, cap, cur, rfl, Nat.zero_le _, hb, hn, hm, hc, ht⟩⟩
  rw [← hp.1, flat_length hz, hl]

/-- What is frozen in a new block. -/
theorem fz_new {S : Fz} {w : World} (h : S.ok w) {b : Nat} (hb : w.heap.size ≤ b) : (∀ j, S.cell b j = none) ∧ S.mp b = none := by
  refine ⟨fun j => ?_, ?_⟩
  · cases hc : S.cell b j with
    | none => rfl
    | some v => have := h.lt (b := b) (.inl ⟨j, v, hc⟩); omega
  · cases hc : S.mp b with
    | none => rfl
    | some v => have := h.lt (b := b) (.inr ⟨v, hc⟩); omega

/-- Cells that are frozen on, in a block of the call's own or a new one. -/
def addFrom (S : Fz) (b : Nat) (vs : List Value) : Fz := ⟨fun b' i => if b' = b then (match S.cell b i with | some v => some v | none => vs[i]?) else S.cell b' i, S.mp, S.g⟩

theorem addFrom_le (S : Fz) (b : Nat) (vs : List Value) : S.le (addFrom S b vs) :=
  ⟨fun b' i v hv => by
    unfold addFrom; simp only
    split
    · rename_i e; subst e; rw [hv]
    · exact hv, fun _ _ h => h, rfl⟩

theorem addFrom_other {S : Fz} {b b' : Nat} {vs : List Value} (h : b' ≠ b) : (∀ j, (addFrom S b vs).cell b' j = S.cell b' j) ∧ (addFrom S b vs).mp b' = S.mp b' := ⟨fun j => by simp [addFrom, h], rfl⟩

theorem addFrom_ok {S : Fz} {b : Nat} {vs : List Value} {w : World} (h : S.ok w) (hv : ∀ j v, vs[j]? = some v → w.cell? ⟨b, j, none⟩ = some v) : (addFrom S b vs).ok w :=
  ⟨fun b' i v hc => by
    unfold addFrom at hc; simp only at hc
    split at hc
    · rename_i e
      subst e
      split at hc
      · rename_i u hu; cases hc; exact h.cell _ _ _ hu
      · exact hv i v hc
    · exact h.cell b' i v hc, h.mp, fun b' i v hg => (addFrom_le S b vs).cell _ _ _ (h.g _ _ _ hg), h.gm⟩

theorem addFrom_lies {S : Fz} {b : Nat} {vs : List Value} {w : World} (h : S.ok w) (hv : ∀ j v, vs[j]? = some v → w.cell? ⟨b, j, none⟩ = some v) : (addFrom S b vs).lies b 0 vs := fun j v hj => by
  rw [Nat.zero_add]
  unfold addFrom
  simp only [if_true]
  split
  · rename_i u hu
    have := h.cell _ _ _ hu
    rw [hv j v hj] at this
    exact this.symm
  · exact hj

section
variable {P : Program} {w : World} {S : Fz} {σ : Locs} {os : Objs}

/-- A new row, whose elements are known, is the call's own: one that grows, or one that is written. -/
theorem post_row {mm : Bool} {e : TypeId} {sz n cap : Nat} {xs : List V} {vs : List Value} {w1 : World} {cur : Array Value} (hs : HeapSim S σ os w) (hsz : 0 < sz) (hl : xs.length = n) (hz : ∀ x ∈ xs, x.cells.length = sz) (hp : Pw (Rep S) (flat xs) vs)
    (hk : ∀ b, b < w.heap.size → w1.heap[b]? = w.heap[b]?) (hsize : w.heap.size ≤ w1.heap.size) (h1 : w1.os = w.os) (h2 : w1.tape = w.tape) (h3 : w1.output = w.output)
    (hb : w1.heap[w.heap.size]? = some (.cells cur e (0, 0))) (hc : cur.size = cap * sz) (hn : n ≤ cap) (hm : cap ≤ maxLen) (ht : cur.toList.take (n * sz) = vs) :
    Post os σ S w ⟨.a (.own os.length), os ++ [some (if mm then .arr e sz xs else .ext e sz xs)]⟩ (.slice (some ⟨w.heap.size, 0, none⟩) n cap) w1 := by
  have hrow := obj_row (S := S) hl hz hp hb hc hn hm ht
  have hfn := fz_new hs.frz (Nat.le_refl w.heap.size)
  cases mm with
  | true => exact ⟨S, _, hs.new (L := ⟨w.heap.size, n, cap⟩) hk (Nat.le_refl _) ⟨hsz, hl, hz, vs, hrow, hp⟩, ⟨_, putLoc_self _ _ _, rfl⟩, Fr.new hk (Nat.le_refl _) hsize h1 h2 h3⟩
  | false =>
    have hcell : ∀ j v, vs[j]? = some v → w1.cell? ⟨w.heap.size, j, none⟩ = some v := fun j v hv => ownsRow_cell hrow hv
    have hle := addFrom_le S w.heap.size vs
    have hno : ¬ Own os σ w.heap.size := by
      rintro ⟨i, x, M, hx, hM, hb⟩
      have := (hs.loc hx hM).1.lt; omega
    have hg := hs.grown hk
    have hm' := hg.more (S' := addFrom S w.heap.size vs) hno hle (addFrom_ok hg.frz hcell) fun b hb => addFrom_other hb
    refine ⟨addFrom S w.heap.size vs, putLoc σ os.length ⟨w.heap.size, n, cap⟩, ?_, ⟨_, putLoc_self _ _ _, rfl⟩, ?_⟩
    · -- the row itself is an own object now
      have hn' : σ os.length = none := hs.fit _ (Nat.le_refl _)
      have hlo := putLoc_le ⟨w.heap.size, n, cap⟩ hn'
      refine ⟨hm'.frz, fun i x hx => ?_, fun i j x y M M' hx hy hM hM' he => ?_, fun i hi => ?_⟩
      · rw [obj_append_one] at hx
        split at hx
        · rename_i hi; subst hi; cases hx
          refine ⟨_, putLoc_self _ _ _, ⟨hsz, hl, hz, vs, hrow, hp.mono fun _ _ => Rep.mono hle, addFrom_lies hg.frz hcell⟩, ⟨fun j hj => ?_, hfn.2⟩⟩
          simp only [addFrom, if_true, hfn.1]
          have : vs.length ≤ j := by rw [hrow.1]; exact hj
          exact List.getElem?_eq_none this
        · rename_i hi
          obtain ⟨M, h1, h2, h3⟩ := hm'.ob i x hx
          exact ⟨M, hlo _ _ h1, h2.mono (.refl _) hlo rfl, h3⟩
      · rw [obj_append_one] at hx hy
        split at hx <;> split at hy
        · omega
        · rename_i hi hj
          subst hi
          rw [putLoc_self] at hM; cases hM
          rw [putLoc_ne _ _ hj] at hM'
          have := (hs.loc hy hM').1.lt; simp at he; omega
        · rename_i hi hj
          subst hj
          rw [putLoc_self] at hM'; cases hM'
          rw [putLoc_ne _ _ hi] at hM
          have := (hs.loc hx hM).1.lt; simp at he; omega
        · rename_i hi hj
          rw [putLoc_ne _ _ hi] at hM
          rw [putLoc_ne _ _ hj] at hM'
          exact hs.inj i j x y M M' hx hy hM hM' he
      · simp at hi
        rw [putLoc_ne _ _ (by omega)]
        exact hs.fit i (by omega)
    · have g := Fr.new (S := S) (σ := σ) (os := os) (w := w) (w' := w1) (o := .ext e sz xs) (L := ⟨w.heap.size, n, cap⟩) hk (Nat.le_refl _) hsize h1 h2 h3
      refine ⟨hle, g.loc, g.len, g.dead, g.size, g.so, g.tape, g.output, fun b hb hn => ?_, g.own⟩
      have hne : b ≠ w.heap.size := by omega
      exact ⟨hk b hb, (addFrom_other hne).1, (addFrom_other hne).2⟩
/-- An own object goes over into another, in the same block. -/
theorem post_moved {S' : Fz} {i : Nat} {o o' : LObj} {L L' : Loc} {w1 : World} {sv : SV} {v : Value} (h : HeapSim S σ os w) (hi : obj os i = some o) (hL : σ i = some L) (hb : L'.b = L.b) (hk : ∀ b, b ≠ L.b → w1.heap[b]? = w.heap[b]?)
    (hsize : w.heap.size ≤ w1.heap.size) (h1 : w1.os = w.os) (h2 : w1.tape = w.tape) (h3 : w1.output = w.output)
    (hle : S.le S') (hother : ∀ b, b ≠ L.b → (∀ j, S'.cell b j = S.cell b j) ∧ S'.mp b = S.mp b) (hok : S'.ok w1) (ho : ObjSim S' (putLoc σ os.length L') o' L' w1) (hf : S'.free o' L') (hv : relS S' (putLoc σ os.length L') sv v) :
    Post os σ S w ⟨sv, os.set i none ++ [some o']⟩ v w1 := by
  have hlt := obj_lt hi
  have hn' : σ os.length = none := h.fit _ (Nat.le_refl _)
  have hlo := putLoc_le L' hn'
  have hlen : (os.set i none).length = os.length := by simp
  have key : ∀ {j x}, obj (os.set i none ++ [some o']) j = some x → (j = os.length ∧ x = o') ∨ (j ≠ os.length ∧ j ≠ i ∧ obj os j = some x) := fun {j x} hx => by
    rw [obj_append_one, hlen] at hx
    split at hx
    · rename_i e; cases hx; exact .inl ⟨e, rfl⟩
    · rename_i e; exact .inr ⟨e, (obj_set_none hx).1, (obj_set_none hx).2⟩
  refine ⟨S', putLoc σ os.length L', ⟨hok, fun j x hx => ?_, fun j k x y M M' hx hy hM hM' he => ?_, fun j hj => ?_⟩, hv, ⟨hle, fun j hj => putLoc_ne _ _ (by omega), by simp, fun j hj hd => ?_, hsize, h1, h2, h3, fun b hb2 hno => ?_, ?_⟩⟩
  · rcases key hx with ⟨rfl, rfl⟩ | ⟨h4, h5, hx⟩
    · exact ⟨L', putLoc_self _ _ _, ho, hf⟩
    · obtain ⟨M, h6, h7, h8⟩ := h.ob j x hx
      have hne : M.b ≠ L.b := fun hb => h5 (h.inj j i x o M L hx hi h6 hL hb)
      exact ⟨M, hlo _ _ h6, h7.mono hle hlo (hk _ hne), h8.mono (hother _ hne).1 (hother _ hne).2⟩
  · rcases key hx with ⟨e1, e2⟩ | ⟨h4, h5, hx2⟩ <;> rcases key hy with ⟨e3, e4⟩ | ⟨k4, k5, hy2⟩
    · omega
    · rw [e1, putLoc_self] at hM; cases hM
      rw [putLoc_ne _ _ k4] at hM'
      exact absurd (h.inj k i y o M' L hy2 hi hM' hL (he.symm.trans hb)) k5
    · rw [e3, putLoc_self] at hM'; cases hM'
      rw [putLoc_ne _ _ h4] at hM
      exact absurd (h.inj j i x o M L hx2 hi hM hL (he.trans hb)) h5
    · rw [putLoc_ne _ _ h4] at hM
      rw [putLoc_ne _ _ k4] at hM'
      exact h.inj j k x y M M' hx2 hy2 hM hM' he
  · simp at hj
    rw [putLoc_ne _ _ (by omega)]
    exact h.fit j (by omega)
  · rw [obj_append_left _ (by simpa using hj), obj_set hlt]
    split
    · rfl
    · exact hd
  · have hne : b ≠ L.b := fun e => hno ⟨i, o, L, hi, hL, e.symm⟩
    exact ⟨hk b hne, hother b hne⟩
  · rintro b ⟨j, x, M, hx, hM, rfl⟩
    rcases key hx with ⟨rfl, rfl⟩ | ⟨h4, h5, hx⟩
    · rw [putLoc_self] at hM; cases hM
      exact .inl ⟨i, o, L, hi, hL, hb.symm⟩
    · rw [putLoc_ne _ _ h4] at hM
      exact .inl ⟨j, x, M, hx, hM, rfl⟩

/-- Post, an own object first let go. -/
theorem post_kill {i : Nat} {o : LObj} {L : Loc} {r : R} {v : Value} {w1 : World} (hi : obj os i = some o) (hL : σ i = some L) (h : Post (os.set i none) σ S w r v w1) : Post os σ S w r v w1 := by
  obtain ⟨S', σ', h1, h2, h3⟩ := h
  refine ⟨S', σ', h1, h2, (Fr.kill (S' := S) hi hL (.refl S) fun b _ => ⟨fun _ => rfl, rfl⟩).trans ?_⟩
  simpa using h3

theorem all_one_flat {ys : List V} {sz : Nat} (h : ys.all (fun y => y.cells.length == sz && y.cells.all V.one) = true) : (∀ y ∈ ys, y.cells.length = sz) ∧ (flat ys).all V.one = true := by
  have h' := List.all_eq_true.1 h
  refine ⟨fun y hy => ?_, ?_⟩
  · have := h' y hy
    simp only [Bool.and_eq_true, beq_iff_eq] at this
    exact this.1
  · rw [List.all_eq_true]
    intro c hc
    obtain ⟨y, hy, hc⟩ := List.mem_flatMap.1 hc
    have := h' y hy
    simp only [Bool.and_eq_true, beq_iff_eq] at this
    exact List.all_eq_true.1 this.2 c hc

theorem flat_append (xs ys : List V) : flat (xs ++ ys) = flat xs ++ flat ys := by simp [flat]

/-- append: onto nil, onto an own row: there is room or a new row is made. -/
theorem appendA_ok {mm : Bool} {t u ty e : TypeId} {i : TypeInfo} {zv : Value} {sz : Nat} {s : SV} {sval x : Value} {ys : List V} {news : List Value} {r : R} (hs : HeapSim S σ os w) (hr : relS S σ s sval)
    (ht : P.underlying t = some (.slice e)) (hi : P.info? e = some i) (hz : i.zero = some zv) (hsize : i.size = sz) (hby : i.bytes ≤ 65536) (hzs : zv.cells.size = sz) (hsz : 0 < sz)
    (hp : Pw (Rep S) (flat ys) news) (hsrc : (∀ y ∈ ys, y.cells.length = sz) → (flat ys).all V.one = true → Src P sz u x ys.length news w) (h : appendA mm e sz os s ys = some r) :
    ∃ v w', (Builtin.append_ #[t, u] ty #[sval, x]).run P w = .ok v w' ∧ Post os σ S w r v w' := by
  subst hsize
  have hml : maxLen = 9223372036854775807 := rfl
  -- a new row
  have grow : ∀ {os : Objs} {base : Option Addr} {n cap : Nat} {xs : List V} {olds : List Value}, HeapSim S σ os w → sval = .slice base n cap → xs.length = n → (∀ x ∈ xs, x.cells.length = i.size) → Pw (Rep S) (flat xs) olds → n ≤ cap →
      (Builtin.firstCells i.size n (.slice base n cap)).run P w.drew = .ok olds.toArray w.drew → cap < n + ys.length → n + ys.length ≤ lim → (∀ y ∈ ys, y.cells.length = i.size) → (flat ys).all V.one = true →
      ∀ mm' : Bool, ∃ v w', (Builtin.append_ #[t, u] ty #[sval, x]).run P w = .ok v w' ∧ Post os σ S w ⟨.a (.own os.length), os ++ [some (if mm' then .arr e i.size (xs ++ ys) else .ext e i.size (xs ++ ys))]⟩ v w' := by
    intro os base n cap xs olds hs hv hxl hxz hxp hnc hold hlt hlim hyz hone mm'
    have hS := hsrc hyz hone
    have hb2 : (n + ys.length) * i.bytes ≤ 140737488355328 := by
      have : (n + ys.length) * i.bytes ≤ 2147483648 * 65536 := Nat.mul_le_mul hlim hby
      omega
    have hlim' : n + ys.length ≤ 2147483648 := hlim
    have hrun := run_append_grow_src (P := P) w t u ty e i zv ht hi hz base n cap olds hold x ys.length news hS hlt (by omega) (growslice_fits (by omega) hb2)
    subst hv
    refine ⟨_, _, hrun, ?_⟩
    have hge := grownCap_ge w (n + ys.length) cap e
    have hcm : grownCap w (n + ys.length) cap e ≤ maxLen := grownCap_le_maxLen w (n + ys.length) cap e (by omega)
    have hol : olds.length = n * i.size := by rw [← hxp.1, flat_length hxz, hxl]
    have hnl : news.length = ys.length * i.size := hS.newsLen
    refine post_row hs hsz (by simp [hxl]) ?_ (vs := olds ++ news) ?_ (fun b hb => heap_alloc_old w.drew _ b hb) ?_ rfl rfl rfl (heap_alloc_new w.drew _) ?_ hge hcm ?_
    · intro y hy
      rcases List.mem_append.1 hy with hy | hy
      · exact hxz y hy
      · exact hyz y hy
    · rw [flat_append]; exact hxp.append hp
    · simp
    · simp only [Array.size_append, List.size_toArray, List.length_append, size_zeroCells, hzs, hol, hnl, ← Nat.add_mul]
      congr 1
      omega
    · simp only [Array.toList_append]
      rw [List.take_append_of_le_length (by simp [hol, hnl, Nat.add_mul]), List.take_of_length_le (by simp [hol, hnl, Nat.add_mul])]
  -- onto an own row
  have onto : ∀ {k : Nat} {L : Loc} {o : LObj} {xs : List V} {vs : List Value}, obj os k = some o → σ k = some L → sval = .slice (some ⟨L.b, 0, none⟩) L.len L.cap → xs.length = L.len → (∀ x ∈ xs, x.cells.length = i.size) →
      w.ownsRow 0 e i.size (.slice (some ⟨L.b, 0, none⟩) L.len L.cap) L.len vs → Pw (Rep S) (flat xs) vs → (∀ j u, S.cell L.b j = some u → vs[j]? = some u) → xs.length + ys.length ≤ lim → (∀ y ∈ ys, y.cells.length = i.size) → (flat ys).all V.one = true →
      ∀ mm' : Bool, (mm' = true → ∀ j, S.cell L.b j = none) → ∃ v w', (Builtin.append_ #[t, u] ty #[sval, x]).run P w = .ok v w' ∧ Post os σ S w ⟨.a (.own os.length), os.set k none ++ [some (if mm' then .arr e i.size (xs ++ ys) else .ext e i.size (xs ++ ys))]⟩ v w' := by
    intro k L o xs vs hob hL hv hxl hxz hrow hxp hfr hlim hyz hone mm' hmm
    have hS := hsrc hyz hone
    have hnl : news.length = ys.length * i.size := hS.newsLen
    by_cases hroom : L.len + ys.length ≤ L.cap
    · rcases hrow.2 with ⟨hc, _⟩ | ⟨g, cap, cur, hc, _, hg, hnc, hcm, hcs, htake⟩
      · cases hc
      · cases hc
        have hvl : vs.length = L.len * i.size := hrow.1
        have hfit : L.len * i.size + news.length ≤ cur.size := by rw [hnl, hcs, ← Nat.add_mul]; exact Nat.mul_le_mul_right _ hroom
        have hst := run_storeCells_at P L.b (L.len * i.size) e news 0 cur w hg (by simpa using hfit) hS.one
        simp only [Nat.add_zero] at hst
        let cur' := (cur.toList.take (L.len * i.size) ++ news ++ cur.toList.drop (L.len * i.size + news.length)).toArray
        have hrun : (Builtin.append_ #[t, u] ty #[.slice (some ⟨L.b, 0, none⟩) L.len L.cap, x]).run P w = .ok (.slice (some ⟨L.b, 0, none⟩) (L.len + ys.length) L.cap) (w.setRow L.b cur') := by
          rcases hS.kind with ⟨e', hk⟩ | hk <;> simp [Builtin.append_, run_underlying ht, run_underlying hk, sizeOf, typeInfo, hi, hS.len, hroom, hS.cells, Addr.add_lit, hst, cur']
        subst hv
        refine ⟨_, _, hrun, ?_⟩
        have hg' : (w.setRow L.b cur').heap[L.b]? = some (.cells cur' e (0, 0)) := setRow_heap w L.b cur cur' e _ hg
        have htl : cur'.toList.take ((L.len + ys.length) * i.size) = vs ++ news := by
          simp only [cur', htake]
          rw [List.take_append_of_le_length (by simp [hvl, hnl, Nat.add_mul]), List.take_of_length_le (by simp [hvl, hnl, Nat.add_mul])]
        have hcs' : cur'.size = L.cap * i.size := by
          simp only [cur', List.size_toArray, List.length_append, List.length_take, List.length_drop, Array.length_toList]
          omega
        have hall : ∀ y ∈ xs ++ ys, y.cells.length = i.size := by
          intro y hy
          rcases List.mem_append.1 hy with hy | hy
          · exact hxz y hy
          · exact hyz y hy
        have hp2 : Pw (Rep S) (flat (xs ++ ys)) (vs ++ news) := by rw [flat_append]; exact hxp.append hp
        have hrow' : (w.setRow L.b cur').ownsRow 0 e i.size (.slice (some ⟨L.b, 0, none⟩) (L.len + ys.length) L.cap) (L.len + ys.length) (vs ++ news) := obj_row (S := S) (by simp [hxl]) hall hp2 hg' hcs' hroom hcm htl
        have hother : ∀ b, b ≠ L.b → (w.setRow L.b cur').heap[b]? = w.heap[b]? := fun b hb => setRow_other w L.b b _ hb
        have hokw : S.ok (w.setRow L.b cur') := by
          refine ⟨fun b j v hc => ?_, fun b es hm => ?_, hs.frz.g, hs.frz.gm⟩
          · by_cases hb : b = L.b
            · subst hb
              refine ownsRow_cell hrow' ?_
              have := hfr j v hc
              rw [List.getElem?_append_left]
              · exact this
              · rcases Nat.lt_or_ge j vs.length with h' | h'
                · exact h'
                · rw [List.getElem?_eq_none h'] at this; cases this
            · exact (cell?_same (hother b hb)).trans (hs.frz.cell b j v hc)
          · by_cases hb : b = L.b
            · subst hb
              rw [(hs.loc hob hL).2.mp] at hm; cases hm
            · exact Blk.at_same (hs.frz.mp b es hm) (hother b hb)
        have hcell : ∀ j v, (vs ++ news)[j]? = some v → (w.setRow L.b cur').cell? ⟨L.b, j, none⟩ = some v := fun j v hv => ownsRow_cell hrow' hv
        cases mm' with
        | true =>
          -- written in place: nothing of it may be frozen
          have hfz := hmm rfl
          exact post_moved (S' := S) (L' := ⟨L.b, L.len + ys.length, L.cap⟩) hs hob hL rfl hother (by simp) (by simp) (by simp) (by simp) (.refl S) (fun b _ => ⟨fun _ => rfl, rfl⟩) hokw ⟨hsz, by simp [hxl], hall, _, hrow', hp2⟩ ⟨fun j _ => hfz j, (hs.loc hob hL).2.mp⟩ ⟨_, putLoc_self _ _ _, rfl⟩
        | false =>
          refine post_moved (S' := addFrom S L.b (vs ++ news)) (L' := ⟨L.b, L.len + ys.length, L.cap⟩) hs hob hL rfl hother (by simp) (by simp) (by simp) (by simp) (addFrom_le _ _ _) (fun b hb => addFrom_other hb) (addFrom_ok hokw hcell)
            ⟨hsz, by simp [hxl], hall, _, hrow', hp2.mono fun _ _ => Rep.mono (addFrom_le _ _ _), addFrom_lies hokw hcell⟩ ⟨fun j hj => ?_, (hs.loc hob hL).2.mp⟩ ⟨_, putLoc_self _ _ _, rfl⟩
          have hle : (vs ++ news).length ≤ j := by rw [hrow'.1]; exact hj
          simp only [addFrom, if_true]
          cases hcj : S.cell L.b j with
          | none => exact List.getElem?_eq_none hle
          | some u' =>
            have := hfr j u' hcj
            rw [List.getElem?_eq_none (by simp at hle; omega)] at this
            cases this
    · have hnc := ownsRow_cap hrow
      have hold : (Builtin.firstCells i.size L.len (.slice (some ⟨L.b, 0, none⟩) L.len L.cap)).run P w.drew = .ok vs.toArray w.drew :=
        run_firstCells_some w.drew i.size L.len ⟨L.b, 0, none⟩ L.len L.cap vs hrow.1 (fun j v hj => by rw [add_plain, Nat.zero_add]; simpa using ownsRow_cell hrow hj)
      have hkill := hs.kill hob hL (.refl S) hs.frz fun b _ => ⟨fun _ => rfl, rfl⟩
      obtain ⟨v, w', h1, h2⟩ := grow hkill hv hxl hxz hxp hnc hold (by omega) (by omega) hyz hone mm'
      refine ⟨v, w', h1, post_kill hob hL ?_⟩
      simpa using h2
  unfold appendA at h
  split at h
  · have hr : Rep S .nils sval := hr
    cases hr
    split at h
    · cases h
      have hS := hsrc (fun y hy => by cases hy) rfl
      refine ⟨_, w, run_append_nothing w t u ty e i ht hi none 0 0 (Nat.le_refl _) x ?_, Post.same hs .nils rfl⟩
      have : news = [] := hp.nil_left
      subst this
      exact hS
    · rename_i y ys'
      split at h
      · rename_i hg
        cases h
        obtain ⟨hyz, hone⟩ := all_one_flat hg.2
        have hlim : (y :: ys').length ≤ lim := by simpa [fits] using hg.1
        have := grow (os := os) (base := none) (n := 0) (cap := 0) (xs := []) (olds := []) hs rfl rfl (fun x hx => by cases hx) Pw.nil (Nat.le_refl _) (run_firstCells_none w.drew i.size 0 0 0) (by simp) (by simpa using hlim) hyz hone mm
        simpa using this
      · cases h
  · rename_i k
    obtain ⟨L, hL, hv⟩ := hr
    split at h
    · rename_i e' sz' xs hob
      split at h
      · rename_i hg
        obtain ⟨rfl, rfl, hf, hall⟩ := hg
        cases h
        obtain ⟨hyz, hone⟩ := all_one_flat hall
        obtain ⟨⟨h1, h2, h3, vs, h4, h5, h6⟩, hfree⟩ := hs.loc hob hL
        refine onto hob hL hv h2 h3 h4 h5 (fun j u hc => ?_) (by simpa [fits] using hf) hyz hone false (fun h => by cases h)
        rcases Nat.lt_or_ge j vs.length with hj | hj
        · have := h6 j _ (List.getElem?_eq_getElem hj)
          rw [Nat.zero_add, hc] at this
          rw [List.getElem?_eq_getElem hj]
          exact this.symm
        · rw [hfree.cell j (by rw [h4.1] at hj; exact hj)] at hc; cases hc
      · cases h
    · rename_i e' sz' xs hob
      split at h
      · rename_i hg
        obtain ⟨rfl, rfl, hf, hall⟩ := hg
        cases h
        obtain ⟨hyz, hone⟩ := all_one_flat hall
        obtain ⟨⟨h1, h2, h3, vs, h4, h5⟩, hfree⟩ := hs.loc hob hL
        refine onto hob hL hv h2 h3 h4 h5 (fun j u hc => ?_) (by simpa [fits] using hf) hyz hone true (fun _ j => hfree.cell j (Nat.zero_le _))
        rw [hfree.cell j (Nat.zero_le _)] at hc; cases hc
      · cases h
    · cases h
  · cases h

end
end Go.Ev

/- The operations, seventh part: append, slice literals, make, stores. -/
namespace Go.Ev

section
variable {P : Program} {o : Oper} {ρ : Operand → Value} {w : World} {S : Fz} {σ : Locs} {os : Objs} {fr : List SV} {mm : Bool} {call : CallT} {s : SOp} {r : R}

theorem Post.after {os1 : Objs} {S1 : Fz} {v : Value} {w1 : World} (hf : Fr os.length os σ S w os1 σ S1 w) (hl : os1.length = os.length) (h : Post os1 σ S1 w r v w1) : Post os σ S w r v w1 := by
  obtain ⟨S', σ', h1, h2, h3⟩ := h
  exact ⟨S', σ', h1, h2, hf.trans (hl ▸ h3)⟩

/-- A slice seen whole is, frozen, the list that was seen. -/
theorem freeze_elems {x : SV} {xs : List V} {v : V} {os' : Objs} (h : elems os x = some xs) (hf : freezeS os x = some (v, os')) : v = .list xs ∨ (v = .nils ∧ xs = []) := by
  unfold elems at h
  split at h
  · cases h; simp [freezeS, freezeA, depth] at hf; exact .inr ⟨hf.1.symm, rfl⟩
  · cases h; simp [freezeS, freezeA, depth] at hf; exact .inl hf.1.symm
  · split at h
    · rename_i ho; cases h; simp [freezeS, freezeA, depth, ho] at hf; exact .inl hf.1.symm
    · rename_i ho; cases h; simp [freezeS, freezeA, depth, ho] at hf; exact .inl hf.1.symm
    · cases h
  · cases h

/-- What a frozen list yields to append. -/
theorem src_list {xs : List V} {x : Value} {sz : Nat} {u : TypeId} (hs : S.ok w) (hu : ∃ e', P.underlying u = some (.slice e')) (h : Rep S (.list xs) x) :
    ∃ news, Pw (Rep S) (flat xs) news ∧ ((∀ y ∈ xs, y.cells.length = sz) → (flat xs).all V.one = true → Src P sz u x xs.length news w) := by
  obtain ⟨e', hu⟩ := hu
  cases h with
  | list0 a cap =>
    refine ⟨[], Pw.nil, fun _ _ => ?_⟩
    cases a with
    | none => exact Src.ofNil w hu cap
    | some ad => exact Src.ofSlice w hu ad 0 cap [] (by simp) (fun j u h => by simp at h) (fun u h => by cases h)
  | list b p cap sz' vs h1 h2 h3 h4 h5 =>
    refine ⟨vs, ⟨h3, h5⟩, fun hz hone => ?_⟩
    refine Src.ofSlice w hu ⟨b, p, none⟩ xs.length cap vs (by rw [← h3, flat_length hz]) (fun j u h => by rw [add_plain]; exact hs.cell _ _ _ (h4 j u h)) (reps_one ⟨h3, h5⟩ hone)

theorem src_nils {x : Value} {sz : Nat} {u : TypeId} (hu : ∃ e', P.underlying u = some (.slice e')) (h : Rep S .nils x) : Src P sz u x 0 [] w := by
  obtain ⟨e', hu⟩ := hu
  cases h
  exact Src.ofNil w hu 0

theorem src_str {t : List UInt8} {x : Value} {sz : Nat} {u : TypeId} (hu : (∃ e', P.underlying u = some (.slice e')) ∨ P.underlying u = some .string) (h : Rep S (.str t) x) :
    ∃ news, Pw (Rep S) (flat (t.map fun b => V.int .u8 b.toNat)) news ∧ ((∀ y ∈ t.map (fun b => V.int .u8 b.toNat), y.cells.length = sz) → Src P sz u x (t.map fun b => V.int .u8 b.toNat).length news w) := by
  have hflat : flat (t.map fun b => V.int .u8 b.toNat) = t.map fun b => V.int .u8 b.toNat := by
    have := flat_ints (k := .u8) (t.map fun b => (b.toNat : Int))
    simpa [List.map_map, Function.comp_def] using this
  cases h
  have hsz : (⟨t.toArray⟩ : ByteArray).size = t.length := rfl
  refine ⟨byteCells ⟨t.toArray⟩, ?_, fun hz => ?_⟩
  · rw [hflat]
    refine ⟨by rw [byteCells_length, hsz]; simp, fun j a b ha hb => ?_⟩
    simp only [byteCells, List.getElem?_map] at ha hb
    obtain ⟨c, hc, rfl⟩ := Option.map_eq_some_iff.1 ha
    rw [hc] at hb
    cases hb
    exact .int _ _
  · rw [List.length_map, ← hsz]
    have hfc : ∀ w' : World, (Builtin.firstCells sz (⟨t.toArray⟩ : ByteArray).size (.string ⟨t.toArray⟩)).run P w' = .ok (byteCells ⟨t.toArray⟩).toArray w' := fun w' => firstCells_string ⟨t.toArray⟩ w'
    refine ⟨hu, fun _ => rfl, hfc w, hfc w.drew, ?_, fun u hu => ?_⟩
    · rw [byteCells_length, hsz]
      cases t with
      | nil => simp
      | cons b r =>
        have := hz (.int .u8 b.toNat) (by simp)
        simp [V.cells] at this
        rw [← this, Nat.mul_one]
    · obtain ⟨_, _, rfl⟩ := List.mem_map.1 hu
      rfl

variable (hρ : ∀ x y, cOpd x = some y → relS S σ (opd fr y) (ρ x)) (hs : HeapSim S σ os w)
include hρ hs

theorem ok_app {x y : Operand} {t u : TypeId} {a b : SOpd} (ho : o.op = .call { callee := .builtin .append, args := #[x, y], argTypes := #[t, u] }) (hx : cOpd x = some a) (hy : cOpd y = some b) (hc : cBuiltin P .append [a, b] [t, u] = some s) (he : evOp mm call fr os s = some r) :
    OpDone P (execOp ρ o) w (Post os σ S w r) := by
  have main : ∀ {e : TypeId}, P.underlying t = some (.slice e) → ((∃ e', P.underlying u = some (.slice e')) ∨ P.underlying u = some .string) →
      (match sizeT P e, bytesT P e, zeroOf P e with
      | some n, some m, some z => if n = 0 ∨ m = 0 ∨ m > 65536 ∨ z.cells.length ≠ n then none else some (SOp.app e n a b)
      | _, _, _ => none) = some s → OpDone P (execOp ρ o) w (Post os σ S w r) := by
    intro e ht hu hc
    split at hc
    · rename_i n m z hn hm hz
      split at hc
      · cases hc
      · rename_i hg
        cases hc
        obtain ⟨zv, i, hi, hzv, _, hzr⟩ := zeroOf_run hz
        have hsize : i.size = n := by simp [sizeT, hi] at hn; exact hn
        have hbytes : i.bytes = m := by simp [bytesT, hi] at hm; exact hm
        have hzs : zv.cells.size = n := by
          have := (hzr S).cells.1
          simp only [Array.length_toList] at this
          omega
        have fin : ∀ {v : Value} {w' : World}, (Builtin.append_ #[t, u] o.type #[ρ x, ρ y]).run P w = .ok v w' → (execOp ρ o).run P w = .ok (.value v) w' := fun {v w'} hr => by
          refine run_builtin ho ?_
          simp only [builtin]
          exact run_v (by simpa using hr)
        have h1 := hρ x a hx
        have h2 := hρ y b hy
        simp only [evOp] at he
        split at he
        · rename_i t' hox
          rw [hox] at h2
          obtain ⟨news, hp, hS⟩ := src_str (P := P) (w := w) (sz := n) hu h2
          obtain ⟨v, w', hr, hpost⟩ := appendA_ok (ty := o.type) hs h1 ht hi hzv hsize (by omega) hzs (by omega) hp (fun hz _ => hS hz) he
          exact .inl ⟨v, w', fin hr, hpost⟩
        · rename_i sv hnstr
          split at he
          · rename_i ys hys
            split at he
            · rename_i v0 os1 hf
              obtain ⟨S1, k1, k2, k3, k4⟩ := freezeS_ok hf hs h2
              have h1' := relS.mono k3.le (.refl _) h1
              have conv : ∀ {m : Nat} {news : List Value}, Src P n t (ρ y) m news w → Src P n u (ρ y) m news w := fun h => ⟨hu, h.len, h.cells, h.cellsD, h.newsLen, h.one⟩
              rcases freeze_elems hys hf with rfl | ⟨rfl, rfl⟩
              · obtain ⟨news, hp, hS⟩ := src_list (P := P) (w := w) (sz := n) k1.frz ⟨_, ht⟩ k2
                obtain ⟨v, w', hr, hpost⟩ := appendA_ok (ty := o.type) k1 h1' ht hi hzv hsize (by omega) hzs (by omega) hp (fun a b => conv (hS a b)) he
                exact .inl ⟨v, w', fin hr, Post.after k3 k4 hpost⟩
              · have hS := src_nils (P := P) (w := w) (sz := n) ⟨_, ht⟩ k2
                obtain ⟨v, w', hr, hpost⟩ := appendA_ok (ty := o.type) k1 h1' ht hi hzv hsize (by omega) hzs (by omega) (ys := []) Pw.nil (fun _ _ => conv hS) he
                exact .inl ⟨v, w', fin hr, Post.after k3 k4 hpost⟩
            · cases he
          · cases he
    · cases hc
  simp only [cBuiltin] at hc
  split at hc
  · rename_i e e' hu1 hu2
    exact main hu1 (.inl ⟨_, hu2⟩) hc
  · rename_i e hu1 hu2
    exact main hu1 (.inr hu2) hc
  · cases hc

omit hρ hs in
theorem splice_right {α : Type} (a b xs : List α) (k : Nat) : Ev.splice (a ++ b) (a.length + k) xs = a ++ Ev.splice b k xs := by
  unfold Ev.splice
  rw [List.take_length_add_append, Nat.add_assoc, List.drop_length_add_append]
  simp only [List.append_assoc]

omit hρ hs in
theorem flat_set {sz : Nat} : ∀ {xs : List V} {i : Nat} {y : V}, (∀ x ∈ xs, x.cells.length = sz) → y.cells.length = sz → i < xs.length → flat (xs.set i y) = Ev.splice (flat xs) (i * sz) y.cells := by
  intro xs
  induction xs with
  | nil => intro i y _ _ h; simp at h
  | cons x r ih =>
    intro i y hz hy hi
    have hx : x.cells.length = sz := hz x (by simp)
    have e : ∀ (a : V) (l : List V), flat (a :: l) = a.cells ++ flat l := fun a l => by simp [flat]
    cases i with
    | zero =>
      simp only [List.set_cons_zero, e, Ev.splice, Nat.zero_mul, List.take_zero, List.nil_append, Nat.zero_add, hy]
      rw [List.drop_append, List.drop_eq_nil_of_le (by omega), hx]
      simp
    | succ i =>
      simp only [List.set_cons_succ, e]
      rw [ih (fun a ha => hz a (by simp [ha])) hy (by simpa using hi), Nat.succ_mul, Nat.add_comm, ← hx, splice_right]

omit hs in
theorem litP_ok {sz : Nat} : ∀ (parts : List (Nat × Operand)) (ps : List (Nat × SOpd)) (os : Objs) (xs ys : List V) (os' : Objs) (S1 : Fz) (cells : Array Value), cLit parts = some ps → litP fr sz os xs ps = some (ys, os') → S.le S1 → HeapSim S1 σ os w →
    (∀ x ∈ xs, x.cells.length = sz) → Pw (Rep S1) (flat xs) cells.toList →
    ∃ S2 cells', Instr.fill (fun i => some (i * sz, sz)) cells (parts.map fun (i, x) => (i, ρ x)) = some cells' ∧ HeapSim S2 σ os' w ∧ Pw (Rep S2) (flat ys) cells'.toList ∧ (∀ y ∈ ys, y.cells.length = sz) ∧ ys.length = xs.length ∧ Fr os.length os σ S1 w os' σ S2 w ∧ os'.length = os.length := by
  intro parts
  induction parts with
  | nil =>
    intro ps os xs ys os' S1 cells hc hl hle hs hz hp
    simp only [cLit, Option.some.injEq] at hc
    subst hc
    simp only [litP, Option.some.injEq, Prod.mk.injEq] at hl
    obtain ⟨rfl, rfl⟩ := hl
    exact ⟨S1, cells, rfl, hs, hp, hz, rfl, .refl (Nat.le_refl _), rfl⟩
  | cons p rest ih =>
    intro ps os xs ys os' S1 cells hc hl hle hs hz hp
    obtain ⟨i, x⟩ := p
    simp only [cLit] at hc
    split at hc
    · rename_i y l hy hl'
      cases hc
      simp only [litP] at hl
      split at hl
      · rename_i v os1 hf
        split at hl
        · rename_i hg
          obtain ⟨S2, k1, k2, k3, k4⟩ := freezeS_ok hf hs (relS.mono hle (.refl _) (hρ x y hy))
          have hcl := k2.cells
          have hlen := hcl.1
          have hlc := hp.1
          rw [flat_length hz] at hlc
          simp only [Array.length_toList] at hlen hlc
          have hfit : i * sz + sz ≤ xs.length * sz := by rw [← Nat.succ_mul]; exact Nat.mul_le_mul_right _ hg.2
          have hsp := fold_splice (i * sz) (ρ x) cells (by omega)
          have hfs := flat_set hz hg.1 hg.2
          obtain ⟨S3, cells', h1, h2, h3, h4, h5, h6, h7⟩ := ih l os1 (xs.set i v) ys os' S2 ((ρ x).cells.zipIdx.foldl (fun cs (x : Value × Nat) => cs.setIfInBounds (i * sz + x.2) x.1) cells) hl' hl (hle.trans k3.le) k1
            (fun a ha => by
              rcases List.mem_or_eq_of_mem_set ha with ha | ha
              · exact hz a ha
              · rw [ha]; exact hg.1)
            (by rw [hsp, hfs]; exact (hp.mono fun _ _ => Rep.mono k3.le).splice hcl _)
          refine ⟨S3, cells', ?_, h2, h3, h4, by rw [h5]; simp, k3.trans (k4 ▸ h6), h7.trans k4⟩
          simp only [List.map_cons]
          unfold Instr.fill
          simp only
          rw [if_neg (by simp; omega)]
          exact h1
        · cases hl
      · cases hl
    · cases hc

theorem ok_lit {t : TypeId} {n : Nat} {parts : Array (Nat × Operand)} (ho : o.op = .buildSlice t n parts) {e : TypeId} {sz : Nat} {z : V} {l : List (Nat × SOpd)} (hu : P.underlying t = some (.slice e)) (hsz : sizeT P e = some sz) (hz : zeroOf P e = some z) (hl : cLit parts.toList = some l)
    (hg : ¬ (sz = 0 ∨ n * sz > 16777216 ∨ z.cells.length ≠ sz)) (he : evOp mm call fr os (.lit e sz z n l) = some r) : OpDone P (execOp ρ o) w (Post os σ S w r) := by
  obtain ⟨zv, i, hi, hzv, hzrun, hzr⟩ := zeroOf_run hz
  have hsize : i.size = sz := by simp [sizeT, hi] at hsz; exact hsz
  have hzs : zv.cells.size = sz := by
    have := (hzr S).cells.1
    simp only [Array.length_toList] at this
    omega
  simp only [evOp] at he
  split at he
  · rename_i xs os1 hlit
    cases he
    let cells0 : Array Value := if n * sz = 0 then #[] else (Array.range (n * sz)).map (zv.cells[· % zv.cells.size]!)
    have hc0 : Pw (Rep S) (flat (List.replicate n z)) cells0.toList := by
      have hzf := zeros_flat (n := n) (show z.cells.length = sz by omega)
      by_cases hn0 : n * sz = 0
      · have : n = 0 := by
          rcases Nat.mul_eq_zero.1 hn0 with h | h
          · exact h
          · omega
        subst this
        simp [cells0, flat]
        exact Pw.nil
      · have e0 : cells0 = (Array.range (n * zv.cells.size)).map (zv.cells[· % zv.cells.size]!) := by simp only [cells0, if_neg hn0, hzs]
        rw [e0, range_zeros zv.cells n (by omega), hzf.1]
        have : ∀ m : Nat, Pw (Rep S) (List.replicate m z.cells).flatten (List.replicate m zv.cells.toList).flatten := by
          intro m
          induction m with
          | zero => exact Pw.nil
          | succ m ih => rw [List.replicate_succ, List.replicate_succ, List.flatten_cons, List.flatten_cons]; exact ((hzr S).cells).append ih
        exact this n
    obtain ⟨S2, cells', h1, h2, h3, h4, h5, h6, h7⟩ := litP_ok (w := w) hρ parts.toList l os (List.replicate n z) xs os1 S cells0 hl hlit (.refl S) hs (fun x hx => by rw [(List.mem_replicate.1 hx).2]; omega) hc0
    simp only [List.length_replicate] at h5
    have hrun : (Instr.buildSlice t n (parts.map fun (i, x) => (i, ρ x))).run P w = .ok (.slice (some ⟨w.heap.size, 0, none⟩) n n) (w.alloc (.cells cells' e)) := by
      have h1' : Instr.fill (fun i => some (i * sz, sz)) cells0 (parts.map fun (i, x) => (i, ρ x)).toList = some cells' := by rw [Array.toList_map]; exact h1
      generalize (parts.map fun (i, x) => (i, ρ x)) = pv at h1'
      by_cases hn0 : n * sz = 0
      · simp only [cells0, if_pos hn0] at h1'
        have hn1 : n = 0 := by
          rcases Nat.mul_eq_zero.1 hn0 with h | h
          · exact h
          · omega
        subst hn1
        have e0 : Array.map (fun (_ : Nat) => (default : Value)) (Array.range 0) = #[] := by simp
        simp [Instr.buildSlice, run_underlying hu, sizeT_run hsz, newRow, e0, h1']
      · simp only [cells0, if_neg hn0] at h1'
        exact run_buildSlice w t e n pv cells' i zv hu hi hzv (by rw [hsize]; omega) (by rw [hsize]; exact hn0) (by rw [hsize]; exact h1')
    refine .inl ⟨_, _, by simp only [execOp, ho]; exact run_v hrun, Post.after h6 h7 ?_⟩
    have hcl : cells'.size = n * sz := by
      have := h3.1
      rw [flat_length h4, h5] at this
      simpa using this.symm
    have hml : maxLen = 9223372036854775807 := rfl
    have hnle : n ≤ n * sz := Nat.le_mul_of_pos_right n (by omega)
    exact post_row h2 (by omega) h5 h4 h3 (fun b hb => heap_alloc_old w _ b hb) (by simp) rfl rfl rfl (heap_alloc_new w _) hcl (Nat.le_refl _) (by omega) (List.take_of_length_le (by simp [hcl]))
  · cases he

theorem ok_litF {t : TypeId} {n : Nat} {parts : Array (Nat × Operand)} (ho : o.op = .buildSlice t n parts) {e : TypeId} {xs : List SOpd} (hu : P.underlying t = some (.slice e))
    (hg : parts.toList.map (·.1) = List.range n ∧ 0 < n ∧ n ≤ 16777216 ∧ sizeT P e = some 1 ∧ (zeroOf P e).map (·.cells.length) = some 1) (hxs : cOpds (parts.toList.map (·.2)) = some xs)
    (he : evOp mm call fr os (.litF e xs) = some r) : OpDone P (execOp ρ o) w (Post os σ S w r) := by
  obtain ⟨hidx, hn0, hn, hsz, hz1⟩ := hg
  obtain ⟨z, hz, hzl⟩ := Option.map_eq_some_iff.1 hz1
  obtain ⟨zv, i, hi, hzv, hzrun, hzr⟩ := zeroOf_run hz
  have hsize : i.size = 1 := by simp [sizeT, hi] at hsz; exact hsz
  have hzs : zv.cells.size = 1 := by
    have := (hzr S).cells.1
    simp only [Array.length_toList] at this
    omega
  have hp := cOpds_rel (R := fun y x => relS S σ (opd fr y) (ρ x)) hρ hxs
  simp only [evOp] at he
  split at he
  · rename_i cs hcs
    split at he
    · rename_i hlim
      cases he
      -- the functions
      have key : ∀ (ys : List SOpd) (l : List Operand) (cs : List (FuncId × List At × List At)), Pw (fun y x => relS S σ (opd fr y) (ρ x)) ys l → closL (opds fr ys) = some cs → Pw (relC S σ) cs (l.map ρ) ∧ ∀ v ∈ l.map ρ, v.cells = #[v] := by
        intro ys
        induction ys with
        | nil => intro l cs hp h; simp [opds, closL] at h; subst h; rw [hp.nil_left]; exact ⟨Pw.nil, fun v hv => by cases hv⟩
        | cons y r ih =>
          intro l cs hp h
          obtain ⟨x, l', rfl, h0, hr⟩ := hp.cons_left
          simp only [opds] at h
          unfold closL at h
          split at h
          · rename_i hx; cases hx
          · rename_i f a b r' hx
            simp only [List.cons.injEq] at hx
            obtain ⟨hx, rfl⟩ := hx
            split at h
            · rename_i l2 hl2
              cases h
              rw [hx] at h0
              obtain ⟨i1, i2⟩ := ih l' l2 hr hl2
              refine ⟨Pw.cons h0 i1, fun v hv => ?_⟩
              simp only [List.map_cons, List.mem_cons] at hv
              rcases hv with rfl | hv
              · obtain ⟨va, vb, hv, _⟩ := h0
                rw [hv]; rfl
              · exact i2 v hv
            · cases h
          · cases h
      obtain ⟨k1, k2⟩ := key xs _ cs hp hcs
      have hvl : ((parts.toList.map (·.2)).map ρ).length = n := by
        have := congrArg List.length hidx
        simpa using this
      have hparts : (parts.map fun (i, x) => (i, ρ x)).toList = ((((parts.toList.map (·.2)).map ρ).zipIdx 0).map fun x => (x.2, x.1)) := by
        rw [Array.toList_map]
        apply List.ext_getElem?
        intro k
        have hk := congrArg (fun l => l[k]?) hidx
        simp only [List.getElem?_map, List.getElem?_zipIdx, Nat.zero_add] at hk ⊢
        cases hpk : parts.toList[k]? with
        | none => simp
        | some p =>
          rw [hpk] at hk
          have : k < n := by
            rcases Nat.lt_or_ge k n with h | h
            · exact h
            · rw [List.getElem?_eq_none (by simpa using h)] at hk; cases hk
          simp [this] at hk
          simp [hk]
      have hfill := Great.fill_flat ((parts.toList.map (·.2)).map ρ) ((Array.range (n * i.size)).map (zv.cells[· % zv.cells.size]!)) k2 (by rw [hvl, hsize]; simp)
      have hrun : (Instr.buildSlice t n (parts.map fun (i, x) => (i, ρ x))).run P w = .ok (.slice (some ⟨w.heap.size, 0, none⟩) n n) (w.alloc (.cells ((parts.toList.map (·.2)).map ρ).toArray e)) := by
        refine run_buildSlice w t e n _ _ i zv hu hi hzv (by rw [hsize]; omega) (by rw [hsize]; omega) ?_
        rw [hparts, hsize]
        rw [hsize] at hfill
        exact hfill
      have hcl : cs.length = n := k1.1.trans hvl
      refine .inl ⟨_, _, by simp only [execOp, ho]; exact run_v hrun, post_new (L := ⟨w.heap.size, n, n⟩) hs rfl rfl ⟨_, heap_alloc_new w _, hcl.symm, hcl.symm, ?_⟩ ⟨_, putLoc_self _ _ _, rfl⟩⟩
      exact k1.mono fun _ _ => relC.mono (.refl _) (putLoc_le _ (hs.fit _ (Nat.le_refl _)))
    · cases he
  · cases he

theorem ok_buildSlice {t : TypeId} {n : Nat} {parts : Array (Nat × Operand)} (ho : o.op = .buildSlice t n parts) (hc : cOp P o.op = some s) (he : evOp mm call fr os s = some r) : OpDone P (execOp ρ o) w (Post os σ S w r) := by
  rw [ho] at hc
  have gen : ∀ {e : TypeId}, P.underlying t = some (.slice e) → (match sizeT P e, zeroOf P e, cLit parts.toList with
        | some s, some z, some l => if s = 0 ∨ n * s > 16777216 ∨ z.cells.length ≠ s then none else some (SOp.lit e s z n l)
        | _, _, _ => none) = some s → OpDone P (execOp ρ o) w (Post os σ S w r) := by
    intro e hu h
    split at h
    · rename_i sz z l h1 h2 h3
      split at h
      · cases h
      · rename_i hg
        cases h
        exact ok_lit hρ hs ho hu h1 h2 h3 hg he
    · cases h
  simp only [cOp] at hc
  split at hc
  · rename_i e hu
    split at hc
    · split at hc
      · rename_i hg
        split at hc
        · rename_i xs hxs
          cases hc
          exact ok_litF hρ hs ho hu hg hxs he
        · cases hc
      · cases hc
    · exact gen hu hc
  · cases hc

theorem ok_mksl {t : TypeId} {l c : Operand} (ho : o.op = .makeSlice t l c) (hc : cOp P o.op = some s) (he : evOp mm call fr os s = some r) : OpDone P (execOp ρ o) w (Post os σ S w r) := by
  rw [ho] at hc
  simp only [cOp] at hc
  split at hc
  · rename_i e hu
    split at hc
    · rename_i sz m z hsz hm hz
      split at hc
      · cases hc
      · rename_i hg
        obtain ⟨a, b, ha, hb, hf⟩ := un2_some hc
        cases hf
        obtain ⟨zv, i, hi, hzv, hzrun, hzr⟩ := zeroOf_run hz
        have hsize : i.size = sz := by simp [sizeT, hi] at hsz; exact hsz
        have hbytes : i.bytes = m := by simp [bytesT, hi] at hm; exact hm
        have hzs : zv.cells.size = sz := by
          have := (hzr S).cells.1
          simp only [Array.length_toList] at this
          omega
        simp only [evOp] at he
        split at he
        · rename_i n k hn hk
          obtain ⟨kl, hlv⟩ := asInt_rel (hρ l a ha) hn
          obtain ⟨kc, hcv⟩ := asInt_rel (hρ c b hb) hk
          split at he
          · rename_i hb2
            cases he
            have hlim : lim = 2147483648 := rfl
            have hbk : (i.bytes : Int) * k ≤ 281474976710656 := by
              have h1 : i.bytes * k.toNat ≤ 65536 * 2147483648 := Nat.mul_le_mul (by omega) (by omega)
              have h2 : ((i.bytes * k.toNat : Nat) : Int) = (i.bytes : Int) * k := by rw [Int.natCast_mul, Int.toNat_of_nonneg (by omega)]
              omega
            have hrun := run_make (P := P) w t e i zv hu hi hzv kl kc n k hb2.1 hb2.2.1 hbk (by omega)
            rw [hsize] at hrun
            refine .inl ⟨_, _, by simp only [execOp, ho, hlv, hcv]; exact run_v hrun, ?_⟩
            have hzf := zeros_flat (n := n.toNat) (show z.cells.length = sz by omega)
            have hreps : ∀ m : Nat, Pw (Rep S) (List.replicate m z.cells).flatten (List.replicate m zv.cells.toList).flatten := by
              intro m
              induction m with
              | zero => exact Pw.nil
              | succ m ih => rw [List.replicate_succ, List.replicate_succ, List.flatten_cons, List.flatten_cons]; exact ((hzr S).cells).append ih
            have hml : maxLen = 9223372036854775807 := rfl
            have hpos : 0 < zv.cells.size := by omega
            have htake : (madeCells zv.cells (k.toNat * sz)).toList.take (n.toNat * sz) = (List.replicate n.toNat zv.cells.toList).flatten := by
              have e1 : madeCells zv.cells (k.toNat * sz) = (Array.range (k.toNat * zv.cells.size)).map (zv.cells[· % zv.cells.size]!) := by rw [hzs]; simp only [madeCells, hzs]
              rw [e1, range_zeros zv.cells k.toNat hpos]
              have e2 : k.toNat = n.toNat + (k.toNat - n.toNat) := by omega
              rw [e2, ← List.replicate_append_replicate, List.flatten_append]
              have hl : ((List.replicate n.toNat zv.cells.toList).flatten).length = n.toNat * sz := by simp [hzs]
              rw [List.take_append_of_le_length (by omega), List.take_of_length_le (by omega)]
            have := post_row (mm := true) (xs := List.replicate n.toNat z) hs (show 0 < sz by omega) (by simp) (fun x hx => by rw [(List.mem_replicate.1 hx).2]; omega) (by rw [hzf.1]; exact hreps n.toNat) (w1 := w.alloc (.cells (madeCells zv.cells (k.toNat * sz)) e))
              (fun b hb => heap_alloc_old w _ b hb) (by simp) rfl rfl rfl (heap_alloc_new w _) (cap := k.toNat) (size_madeCells _ _) (by omega) (by omega) htake
            simpa using this
          · cases he
        · cases he
    · cases hc
  · cases hc

end
end Go.Ev

/- The operations, eighth part: stores. -/
namespace Go.Ev

theorem splice_length {α : Type} {cs xs : List α} {k : Nat} (h : k + xs.length ≤ cs.length) : (splice cs k xs).length = cs.length := by
  simp [splice]; omega

theorem take_splice {α : Type} {cs xs : List α} {k m : Nat} (h : k + xs.length ≤ m) (hm : m ≤ cs.length) : (splice cs k xs).take m = splice (cs.take m) k xs := by
  unfold splice
  have h1 : (cs.take k ++ xs).length = k + xs.length := by simp; omega
  rw [List.take_append, List.take_of_length_le (by omega), h1, List.drop_take, List.take_take, Nat.min_eq_left (by omega)]

/-- Cells of one element of a row are written. -/
theorem splice_inner {α : Type} {cs xs : List α} {p o n : Nat} (hx : o + xs.length ≤ n) (hc : p + n ≤ cs.length) : splice cs p (splice ((cs.drop p).take n) o xs) = splice cs (p + o) xs := by
  have hl : ((cs.drop p).take n).length = n := by simp; omega
  have hl2 : (splice ((cs.drop p).take n) o xs).length = n := by rw [splice_length (by omega), hl]
  apply List.ext_getElem?
  intro k
  have e1 : ∀ (a b c : List α) (k : Nat), (a ++ b ++ c)[k]? = if k < a.length then a[k]? else if k < a.length + b.length then b[k - a.length]? else c[k - (a.length + b.length)]? := by
    intro a b c k
    split
    · rw [List.append_assoc, List.getElem?_append_left (by assumption)]
    · split
      · rw [List.append_assoc, List.getElem?_append_right (by omega), List.getElem?_append_left (by omega)]
      · rw [List.getElem?_append_right (by simp; omega)]
        simp
  have ht : (cs.take p).length = p := by simp; omega
  have ht2 : (cs.take (p + o)).length = p + o := by simp; omega
  have hti : (((cs.drop p).take n).take o).length = o := by simp; omega
  show (cs.take p ++ splice ((cs.drop p).take n) o xs ++ cs.drop (p + (splice ((cs.drop p).take n) o xs).length))[k]? = (cs.take (p + o) ++ xs ++ cs.drop (p + o + xs.length))[k]?
  rw [e1, e1, hl2, ht, ht2]
  by_cases h1 : k < p
  · rw [if_pos h1, if_pos (by omega), List.getElem?_take, List.getElem?_take, if_pos h1, if_pos (by omega)]
  · rw [if_neg h1]
    by_cases h2 : k < p + n
    · rw [if_pos h2]
      unfold splice
      rw [e1, hti]
      by_cases h3 : k < p + o
      · rw [if_pos h3, if_pos (by omega), List.getElem?_take, if_pos (by omega), List.getElem?_take, if_pos (by omega), List.getElem?_drop, List.getElem?_take, if_pos h3]
        congr 1; omega
      · rw [if_neg h3, if_neg (by omega)]
        by_cases h4 : k < p + o + xs.length
        · rw [if_pos h4, if_pos (by omega)]
          congr 1; omega
        · rw [if_neg h4, if_neg (by omega), List.getElem?_drop, List.getElem?_take, if_pos (by omega), List.getElem?_drop, List.getElem?_drop]
          congr 1; omega
    · rw [if_neg h2, if_neg (by omega), if_neg (by omega), List.getElem?_drop, List.getElem?_drop]
      congr 1; omega

section
variable {P : Program} {o : Oper} {ρ : Operand → Value} {w : World} {S : Fz} {σ : Locs} {os : Objs} {fr : List SV} {mm : Bool} {call : CallT} {s : SOp} {r : R}

theorem run_storeVar' {t : TypeId} {n g p : Nat} {ty : TypeId} {v : Value} {cur : Array Value} (hn : sizeT P t = some n) (hl : v.cells.size = n) (hg : w.heap[g]? = some (.cells cur ty (0, 0))) (hfit : p + n ≤ cur.size) (h1 : ∀ u ∈ v.cells.toList, u.oneCell' = true) :
    (storeVar t ⟨g, p, none⟩ v).run P w = .ok () (w.setRow g (splice cur.toList p v.cells.toList).toArray) := by
  have := run_storeCells_at P g p ty v.cells.toList 0 cur w hg (by simp; omega) h1
  simp only [Nat.add_zero] at this
  simp only [storeVar, Sem.run_bind, sizeT_run hn, Result.andThen_ok, hl, ne_eq, not_true_eq_false, if_false]
  exact this

/-- An own object is written where it lies. -/
theorem post_put {i : Nat} {o o' : LObj} {L : Loc} {w1 : World} {sv : SV} {v : Value} (h : HeapSim S σ os w) (hi : obj os i = some o) (hL : σ i = some L) (hk : ∀ b, b ≠ L.b → w1.heap[b]? = w.heap[b]?) (hsize : w.heap.size ≤ w1.heap.size)
    (h1 : w1.os = w.os) (h2 : w1.tape = w.tape) (h3 : w1.output = w.output) (hn : ∀ j, S.cell L.b j = none) (ho : ObjSim S σ o' L w1) (he : o'.edge L = o.edge L) (hv : relS S σ sv v) : Post os σ S w ⟨sv, os.set i (some o')⟩ v w1 :=
  ⟨S, σ, h.put hi hL hk (fun j v hc => by rw [hn] at hc; cases hc) ho he, hv, Fr.put hi hL hk hsize h1 h2 h3⟩

variable (hρ : ∀ x y, cOpd x = some y → relS S σ (opd fr y) (ρ x)) (hs : HeapSim S σ os w)
include hρ hs

theorem ok_st {t : TypeId} {x v : Operand} (ho : o.op = .store t x v) (hc : cOp P o.op = some s) (he : evOp mm call fr os s = some r) : OpDone P (execOp ρ o) w (Post os σ S w r) := by
  rw [ho] at hc
  simp only [cOp] at hc
  split at hc
  · rename_i n hn
    obtain ⟨a, b, ha, hb, hf⟩ := un2_some hc
    cases hf
    have hx := hρ x a ha
    have hv := hρ v b hb
    simp only [evOp] at he
    split at he
    · rename_i os' hst
      cases he
      unfold storeA at hst
      split at hst
      · cases hst
      · rename_i ys hys
        have hcl := hv.cells hys
        have hlen := hcl.1
        simp only [Array.length_toList] at hlen
        split at hst
        · rename_i hg
          have hones := relAs_one hcl hg.2
          have fin : ∀ {a : Addr} {w1 : World} {os2 : Objs}, ρ x = .pointer (some a) → (storeVar t a (ρ v)).run P w = .ok () w1 → Post os σ S w ⟨.void, os2⟩ undef w1 → OpDone P (execOp ρ o) w (Post os σ S w ⟨.void, os2⟩) := by
            intro a w1 os2 hp hr hq
            refine .inr (.inl ⟨w1, ?_, hq⟩)
            simp only [execOp, ho, hp]
            simp [Instr.storeAt, Instr.sureAddr, hr]
          have hvoid : ∀ {S : Fz}, relS S σ .void undef := fun {S} => Rep.mk_tup (vs := []) Pw.nil
          split at hst
          · -- a variable
            rename_i i p hox
            rw [hox] at hx
            obtain ⟨L, hL, hpx⟩ := hx
            split at hst
            · rename_i ty cs hob
              split at hst
              · rename_i hfit
                cases hst
                obtain ⟨⟨c, h1, h2⟩, hfree⟩ := hs.loc hob hL
                have hcs := h2.1
                simp only [Array.length_toList] at hcs
                refine fin hpx (run_storeVar' hn (by omega) h1 (by omega) hones) ?_
                refine post_put hs hob hL (fun b hb => setRow_other w L.b b _ hb) (by simp) (by simp) (by simp) (by simp) (fun j => hfree.cell j (Nat.zero_le _)) ⟨_, setRow_heap w L.b c _ ty _ h1, ?_⟩ rfl hvoid
                exact h2.splice hcl p
              · cases hst
            · cases hst
          · -- an element
            rename_i i sz k p hox
            rw [hox] at hx
            obtain ⟨L, hL, hpx⟩ := hx
            split at hst
            · rename_i vs os1 hfz
              split at hst
              · cases hst
              · rename_i hone
                obtain ⟨S1, k1, k2, k3, k4⟩ := freezeL_ok (freezeA_ok depth) ys os vs os1 S σ w (ρ v).cells.toList hfz hs hcl
                split at hst
                · rename_i e sz' xs hob
                  split at hst
                  · rename_i hsz
                    subst hsz
                    split at hst
                    · rename_i x0 hx0
                      obtain ⟨⟨q1, q2, q3, us, q4, q5⟩, hfree⟩ := k1.loc hob hL
                      have hklt : k < xs.length := by
                        rcases Nat.lt_or_ge k xs.length with h | h
                        · exact h
                        · rw [List.getElem?_eq_none h] at hx0; cases hx0
                      have hx0l : x0.cells.length = sz' := q3 x0 (List.mem_of_getElem? hx0)
                      have hvl := k2.1
                      simp only [Array.length_toList] at hvl
                      -- one element turned
                      have turn : ∀ {y : V}, p + n ≤ sz' → y.cells = splice x0.cells p vs → OpDone P (execOp ρ o) w (Post os σ S w ⟨.void, os1.set i (some (.arr e sz' (xs.set k y)))⟩) := by
                        intro y hpn hy
                        rcases q4.2 with ⟨hc, _⟩ | ⟨g, cap, cur, hc, _, hgb, hnc, hcm, hcs, htake⟩
                        · cases hc
                        · cases hc
                          have hyl : y.cells.length = sz' := by rw [hy, splice_length (by omega), hx0l]
                          have hkk : k * sz' + sz' ≤ L.len * sz' := by rw [← Nat.succ_mul]; exact Nat.mul_le_mul_right _ (by omega)
                          have hLc : L.len * sz' ≤ L.cap * sz' := Nat.mul_le_mul_right _ hnc
                          have hul := q4.1
                          have hfl : (flat xs).length = L.len * sz' := by rw [flat_length q3, q2]
                          have hflat : flat (xs.set k y) = splice (flat xs) (k * sz' + p) vs := by
                            rw [flat_set q3 hyl hklt, hy, ← flat_at q3 hx0, splice_inner (by omega) (by omega)]
                          refine fin hpx (run_storeVar' (p := k * sz' + p) hn (by omega) hgb (by omega) hones) (Post.after k3 k4 (post_put k1 hob hL (fun b hb => setRow_other w L.b b _ hb) (by simp) (by simp) (by simp) (by simp) (fun j => hfree.cell j (Nat.zero_le _)) ?_ rfl hvoid))
                          have hall : ∀ a ∈ xs.set k y, a.cells.length = sz' := fun a ha => by
                            rcases List.mem_or_eq_of_mem_set ha with ha | ha
                            · exact q3 a ha
                            · rw [ha]; exact hyl
                          have hpw : Pw (Rep S1) (flat (xs.set k y)) (splice us (k * sz' + p) (ρ v).cells.toList) := by rw [hflat]; exact q5.splice k2 _
                          refine ⟨q1, by simpa using q2, hall, _, obj_row (S := S1) (by simpa using q2) hall hpw (setRow_heap w L.b cur _ e _ hgb) ?_ hnc hcm ?_, hpw⟩
                          · simp only [List.size_toArray]
                            rw [splice_length (by simp; omega)]
                            simpa using hcs
                          · rw [← htake, ← take_splice (by simp; omega) (by simp; omega)]
                      split at hst
                      · rename_i h1x
                        have hx1 : x0.cells = [x0] := by
                          cases x0 <;> first | rfl | (simp [V.one] at h1x)
                        split at hst
                        · rename_i hp0
                          subst hp0
                          split at hst
                          · rename_i y
                            cases hst
                            have hy1 : y.cells = [y] := by
                              simp at hone
                              cases y <;> first | rfl | (simp [V.one] at hone)
                            refine turn ?_ (by rw [hy1, hx1]; rfl)
                            rw [hx1] at hx0l
                            simp at hx0l hvl
                            omega
                          · cases hst
                        · cases hst
                      · split at hst
                        · rename_i hpn
                          cases hst
                          exact turn (by omega) rfl
                        · cases hst
                    · cases hst
                  · cases hst
                · cases hst
            · cases hst
          · cases hst
        · cases hst
    · cases he
  · cases hc

end
end Go.Ev

/- The operations, ninth part: maps. -/
namespace Go.Ev

/-! ### Keys -/
def V.plain : V → Bool
  | .bool _ | .int _ _ | .str _ => true
  | _ => false

theorem eqF_true {k : FK} {a b : V} (h : eqF k a b = some true) : a = b ∧ a.plain = true := by
  unfold eqF at h
  split at h
  · simp at h; subst h; exact ⟨rfl, rfl⟩
  · split at h
    · rename_i hk; simp at h; subst hk h; exact ⟨rfl, rfl⟩
    · cases h
  · simp at h; subst h; exact ⟨rfl, rfl⟩
  · cases h

theorem eqL_true : ∀ {ks : List FK} {a b : List V}, eqL ks a b = some true → a = b ∧ a.all V.plain = true := by
  intro ks
  induction ks with
  | nil =>
    intro a b h
    cases a <;> cases b <;> simp [eqL] at h ⊢
  | cons k ks ih =>
    intro a b h
    cases a with
    | nil => simp [eqL] at h
    | cons x a =>
      cases b with
      | nil => simp [eqL] at h
      | cons y b =>
        simp only [eqL] at h
        split at h
        · rename_i he
          obtain ⟨h1, h2⟩ := eqF_true he
          obtain ⟨h3, h4⟩ := ih h
          subst h1 h3
          exact ⟨rfl, by simp [h2, h4]⟩
        · cases h
        · cases h

theorem keyEq_true {kt : KT} {x y : V} (h : keyEq kt x y = some true) : x = y ∧ ((∃ cs, x = .agg cs ∧ cs.all V.plain = true) ∨ x.plain = true) := by
  unfold keyEq at h
  split at h
  · rename_i a b h1 h2
    obtain ⟨h3, h4⟩ := eqL_true h
    subst h3
    unfold keyCells at h1 h2
    split at h1
    · rename_i cs
      split at h1
      · rename_i hc
        cases h1
        split at h2
        · split at h2
          · cases h2; exact ⟨rfl, .inl ⟨_, rfl, h4⟩⟩
          · cases h2
        · cases h2
        · split at h2
          · rename_i hc2; rw [hc.1] at hc2; cases hc2.1
          · cases h2
      · cases h1
    · cases h1
    · split at h1
      · rename_i hc
        cases h1
        split at h2
        · split at h2
          · rename_i hc2; rw [hc.1] at hc2; cases hc2.1
          · cases h2
        · cases h2
        · split at h2
          · cases h2
            exact ⟨rfl, .inr (by simpa using h4)⟩
          · exact absurd hc (by assumption)
      · cases h1
  · cases h

theorem bytes_beq (a b : List UInt8) : ((⟨a.toArray⟩ : ByteArray) == ⟨b.toArray⟩) = (a == b) := by
  rw [beq_toListBytes]
  simp

theorem plain_unique {S : Fz} {x : V} {v v' : Value} (hx : x.plain = true) (h : Rep S x v) (h' : Rep S x v') : v = v' ∧ ∀ n, Instr.sameBits n v v = true := by
  cases x <;> simp [V.plain] at hx
  · cases h; cases h'; exact ⟨rfl, fun n => by cases n <;> simp [Instr.sameBits]⟩
  · cases h; cases h'; exact ⟨rfl, fun n => by cases n <;> simp [Instr.sameBits]⟩
  · cases h; cases h'; exact ⟨rfl, fun n => by cases n <;> simp [Instr.sameBits, bytes_beq]⟩

/-- Two memory values of one key are one value. -/
theorem key_unique {S : Fz} {kt : KT} {x y : V} {v v' : Value} (hk : keyEq kt x y = some true) (h : Rep S x v) (h' : Rep S y v') : x = y ∧ v = v' ∧ Instr.sameBits 10000 v v' = true := by
  obtain ⟨rfl, hc⟩ := keyEq_true hk
  refine ⟨rfl, ?_⟩
  rcases hc with ⟨cs, rfl, hp⟩ | hp
  · obtain ⟨vs, rfl, h1⟩ := h.of_agg
    obtain ⟨us, rfl, h2⟩ := h'.of_agg
    have e : vs = us := by
      apply List.ext_getElem?
      intro j
      have e1 := h1.1
      have e2 := h2.1
      rcases Nat.lt_or_ge j cs.length with hj | hj
      · have hm := List.all_eq_true.1 hp _ (List.getElem_mem hj)
        have a1 := h1.2 j _ (vs[j]'(by omega)) (List.getElem?_eq_getElem hj) (List.getElem?_eq_getElem _)
        have a2 := h2.2 j _ (us[j]'(by omega)) (List.getElem?_eq_getElem hj) (List.getElem?_eq_getElem _)
        rw [List.getElem?_eq_getElem (by omega), List.getElem?_eq_getElem (by omega), (plain_unique hm a1 a2).1]
      · rw [List.getElem?_eq_none (by omega), List.getElem?_eq_none (by omega)]
    subst e
    refine ⟨rfl, ?_⟩
    have hall : ∀ (l : List V) (ws : List Value), Pw (Rep S) l ws → l.all V.plain = true → ∀ n, ((ws.zip ws).all fun p => Instr.sameBits n p.1 p.2) = true := by
      intro l
      induction l with
      | nil => intro ws hp _ n; rw [hp.nil_left]; rfl
      | cons a l ih =>
        intro ws hp ha n
        obtain ⟨w0, wr, rfl, h0, hr⟩ := hp.cons_left
        simp only [List.all_cons, Bool.and_eq_true] at ha
        simp only [List.zip_cons_cons, List.all_cons, Bool.and_eq_true]
        exact ⟨(plain_unique ha.1 h0 h0).2 n, ih wr hr ha.2 n⟩
    have := hall cs vs h1 hp 9999
    simp only [Instr.sameBits, beq_self_eq_true, Bool.true_and]
    exact this
  · exact ⟨(plain_unique hp h h').1, by rw [← (plain_unique hp h h').1]; exact (plain_unique hp h h).2 10000⟩

/-! ### Searching -/
def findR (kt : KT) (k : V) : List V → List MapEntry → Nat → Option (Option (Nat × Value))
  | [], [], _ => some none
  | x :: xs, e :: es, n => match keyEq kt k x with
    | some true => some (some (n, e.val))
    | some false => findR kt k xs es (n + 1)
    | none => none
  | _, _, _ => none

section
variable {P : Program} {w : World} {S : Fz} {σ : Locs} {os : Objs}

theorem sameNow_keyEq {d : TypeDesc} {kt : KT} {k k' : V} {v v' : Value} {b b' : Bool} (h1 : Rep S k v) (h2 : Rep S k' v') (hn : Instr.sameNow d v v' = some b) (hk : keyEq kt k k' = some b') : b = b' := by
  have key : ∀ {x y : V}, (∀ cs, x ≠ .agg cs) → (∀ cs, y ≠ .agg cs) → (∀ cs, x ≠ .tup cs) → (∀ cs, y ≠ .tup cs) → keyEq kt x y = some b' → ∃ f, eqF f x y = some b' := by
    intro x y hx hy hx2 hy2 h
    unfold keyEq at h
    split at h
    · rename_i a c ha hc
      unfold keyCells at ha hc
      split at ha
      · exact absurd rfl (hx _)
      · exact absurd rfl (hx2 _)
      · split at ha
        · rename_i hl
          cases ha
          split at hc
          · exact absurd rfl (hy _)
          · exact absurd rfl (hy2 _)
          · split at hc
            · cases hc
              have hks : ∃ f, kt.ks = [f] := by
                have := hl.2
                cases hq : kt.ks with
                | nil => rw [hq] at this; simp at this
                | cons f r => rw [hq] at this; cases r with
                  | nil => exact ⟨f, rfl⟩
                  | cons _ _ => simp at this
              obtain ⟨f, hf⟩ := hks
              rw [hf] at h
              simp only [eqL] at h
              refine ⟨f, ?_⟩
              split at h
              · rename_i he; simp at h; rw [he, h]
              · rename_i he; simp at h; rw [he, h]
              · cases h
            · exact absurd hl (by assumption)
        · cases ha
    · cases h
  unfold Instr.sameNow at hn
  split at hn
  · cases h1; cases h2
    split at hn
    · rename_i hkk
      cases hn
      obtain ⟨f, hf⟩ := key (by simp) (by simp) (by simp) (by simp) hk
      cases f <;> simp [eqF] at hf
      exact hf.2
    · cases hn
  · cases h1; cases h2
    rename_i s t
    cases hn
    obtain ⟨f, hf⟩ := key (by simp) (by simp) (by simp) (by simp) hk
    cases f <;> simp [eqF] at hf
    rw [bytes_beq]
    exact hf
  · cases h1; cases h2
    cases hn
    obtain ⟨f, hf⟩ := key (by simp) (by simp) (by simp) (by simp) hk
    cases f <;> simp [eqF] at hf
    exact hf
  · cases hn

theorem findNow_R {d : TypeDesc} {kt : KT} {k : V} {kv : Value} (hk : Rep S k kv) : ∀ (es : List MapEntry) (xs : List V) (n : Nat) (r q : Option (Nat × Value)), Pw (fun x (e : MapEntry) => Rep S x e.key) xs es → Instr.findNow d kv es n = some r → findR kt k xs es n = some q → r = q := by
  intro es
  induction es with
  | nil =>
    intro xs n r q hp h1 h2
    have : xs = [] := List.eq_nil_of_length_eq_zero hp.1
    subst this
    simp [Instr.findNow] at h1
    simp [findR] at h2
    rw [← h1, ← h2]
  | cons e es ih =>
    intro xs n r q hp h1 h2
    cases xs with
    | nil => have := hp.1; simp at this
    | cons x xs =>
      simp only [Instr.findNow] at h1
      simp only [findR] at h2
      cases hs : Instr.sameNow d kv e.key with
      | none => rw [hs] at h1; cases h1
      | some b =>
        rw [hs] at h1
        cases hq : keyEq kt k x with
        | none => rw [hq] at h2; cases h2
        | some b' =>
          rw [hq] at h2
          have := sameNow_keyEq hk hp.head hs hq
          subst this
          cases b with
          | true => simp at h1 h2; rw [← h1, ← h2]
          | false => exact ih xs (n + 1) r q hp.tail h1 h2

theorem findAsking_R {t : TypeId} {kt : KT} {k : V} {kv : Value} (hkt : flatKT P t = some kt) (hk : Rep S k kv) : ∀ (es : List MapEntry) (xs : List V) (n : Nat) (q : Option (Nat × Value)), Pw (fun x (e : MapEntry) => Rep S x e.key) xs es → findR kt k xs es n = some q → (Instr.findAsking t kv es n).run P w = .ok q w := by
  intro es
  induction es with
  | nil =>
    intro xs n q hp h2
    have : xs = [] := List.eq_nil_of_length_eq_zero hp.1
    subst this
    simp [findR] at h2
    subst h2
    simp [Instr.findAsking]
  | cons e es ih =>
    intro xs n q hp h2
    cases xs with
    | nil => have := hp.1; simp at this
    | cons x xs =>
      simp only [findR] at h2
      cases hq : keyEq kt k x with
      | none => rw [hq] at h2; cases h2
      | some b' =>
        rw [hq] at h2
        have hr := run_keyEq hkt hk hp.head hq w
        cases b' with
        | true => simp at h2; subst h2; simp [Instr.findAsking, hr]
        | false => simp [Instr.findAsking, hr]; exact ih xs (n + 1) q hp.tail h2

theorem findKey_R {t : TypeId} {d : TypeDesc} {kt : KT} {k : V} {kv : Value} {es : List MapEntry} {xs : List V} {q : Option (Nat × Value)} (hu : P.underlying t = some d) (hkt : flatKT P t = some kt) (hk : Rep S k kv) (hp : Pw (fun x (e : MapEntry) => Rep S x e.key) xs es) (h : findR kt k xs es 0 = some q) :
    (Instr.findKey t kv es).run P w = .ok q w := by
  simp only [Instr.findKey, Sem.run_bind, run_underlying hu, Result.andThen_ok]
  cases hn : Instr.findNow d kv es 0 with
  | none => exact findAsking_R hkt hk es xs 0 q hp h
  | some r => rw [findNow_R hk es xs 0 r q hp hn h]; rfl

theorem keyT_under {t : TypeId} {kt : KT} (h : flatKT P t = some kt) : ∃ d, P.underlying t = some d := by
  obtain ⟨h1, _⟩ := flatKT_some h
  unfold aggT at h1
  split at h1
  · exact ⟨_, by assumption⟩
  · exact ⟨_, by assumption⟩
  · exact ⟨_, by assumption⟩
  · cases h1

theorem run_checkKey_flat {t : TypeId} {kt : KT} {k : V} {kv : Value} (em : Bool) (hkt : flatKT P t = some kt) (hk : Rep S k kv) (hc : (keyCells kt k).isNone = false) : (Instr.checkKey em 10000 t kv).run P w = .ok () w := by
  cases h : keyCells kt k with
  | none => rw [h] at hc; cases hc
  | some cs =>
    obtain ⟨k1, k2⟩ := flatKT_some hkt
    obtain ⟨f1, l1⟩ := keyCells_FV h hk
    exact chkFlat em 8 t kt.ks k2 10000 (by omega) w kt.ag cs kv k1 l1 f1
theorem findR_pos {kt : KT} {k : V} : ∀ (es : List MapEntry) (xs : List V) (n : Nat) (i : Nat) (v : Value), findR kt k xs es n = some (some (i, v)) → n ≤ i ∧ ∃ e x, es[i - n]? = some e ∧ xs[i - n]? = some x ∧ v = e.val ∧ keyEq kt k x = some true := by
  intro es
  induction es with
  | nil => intro xs n i v h; cases xs <;> simp [findR] at h
  | cons e es ih =>
    intro xs n i v h
    cases xs with
    | nil => simp [findR] at h
    | cons x xs =>
      simp only [findR] at h
      split at h
      · rename_i hk
        simp at h
        obtain ⟨rfl, rfl⟩ := h
        exact ⟨Nat.le_refl _, e, x, by simp, by simp, rfl, hk⟩
      · obtain ⟨h1, e', x', h2, h3, h4, h5⟩ := ih xs (n + 1) i v h
        have : i - n = (i - (n + 1)) + 1 := by omega
        exact ⟨by omega, e', x', by rw [this]; simpa using h2, by rw [this]; simpa using h3, h4, h5⟩
      · cases h

/-- A map by value. -/
theorem findV_R {kt : KT} {k : V} : ∀ (es : List V) (ents : List MapEntry) (ks xs : Nat → V) (n : Nat) (q : Option V), es.length = ents.length → (∀ j, j < es.length → es[j]? = some (.tup [ks j, xs j])) → findV kt k es = some q →
    (q = none ∧ findR kt k ((List.range es.length).map ks) ents n = some none) ∨ ∃ j e, j < es.length ∧ ents[j]? = some e ∧ q = some (xs j) ∧ findR kt k ((List.range es.length).map ks) ents n = some (some (n + j, e.val)) := by
  intro es
  induction es with
  | nil =>
    intro ents ks xs n q hl _ h
    cases ents with
    | nil => simp [findV] at h; exact .inl ⟨h.symm, rfl⟩
    | cons _ _ => simp at hl
  | cons y es ih =>
    intro ents ks xs n q hl he h
    cases ents with
    | nil => simp at hl
    | cons e ents =>
      have h0 := he 0 (by simp)
      simp at h0
      subst h0
      have hr : (List.range (es.length + 1)).map ks = ks 0 :: (List.range es.length).map (fun j => ks (j + 1)) := by
        rw [List.range_succ_eq_map]; simp
      simp only [List.length_cons, hr, findR]
      simp only [findV] at h
      split at h
      · rename_i hk
        cases h
        rw [hk]
        exact .inr ⟨0, e, by omega, rfl, rfl, rfl⟩
      · rename_i hk
        rw [hk]
        rcases ih ents (fun j => ks (j + 1)) (fun j => xs (j + 1)) (n + 1) q (by simpa using hl) (fun j hj => by have := he (j + 1) (by simpa using hj); simpa using this) h with ⟨h1, h2⟩ | ⟨j, e', h1, h2, h3, h4⟩
        · exact .inl ⟨h1, h2⟩
        · exact .inr ⟨j + 1, e', Nat.succ_lt_succ h1, by simpa using h2, h3, by rw [h4, show n + 1 + j = n + (j + 1) by omega]⟩
      · cases h

/-- A map of the call's own. -/
def MapRel (S : Fz) (σ : Locs) (es : List (V × T2)) (ents : List MapEntry) : Prop := Pw (fun (a : V × T2) (e : MapEntry) => Rep S a.1 e.key ∧ relT S σ a.2 e.val) es ents

theorem MapRel.keys {es : List (V × T2)} {ents : List MapEntry} (h : MapRel S σ es ents) : Pw (fun x (e : MapEntry) => Rep S x e.key) (es.map (·.1)) ents := by
  refine ⟨by simp [h.1], fun j x e hx he => ?_⟩
  rw [List.getElem?_map] at hx
  obtain ⟨a, ha, rfl⟩ := Option.map_eq_some_iff.1 hx
  exact (h.2 j a e ha he).1

theorem findE_R {kt : KT} {k : V} : ∀ (es : List (V × T2)) (ents : List MapEntry) (n : Nat) (q : Option T2), es.length = ents.length → findE kt k es = some q →
    (q = none ∧ findR kt k (es.map (·.1)) ents n = some none) ∨ ∃ j e a, es[j]? = some a ∧ ents[j]? = some e ∧ q = some a.2 ∧ findR kt k (es.map (·.1)) ents n = some (some (n + j, e.val)) := by
  intro es
  induction es with
  | nil =>
    intro ents n q hl h
    cases ents with
    | nil => simp [findE] at h; exact .inl ⟨h.symm, rfl⟩
    | cons _ _ => simp at hl
  | cons y es ih =>
    intro ents n q hl h
    cases ents with
    | nil => simp at hl
    | cons e ents =>
      obtain ⟨k', x⟩ := y
      simp only [findE] at h
      simp only [List.map_cons, findR]
      split at h
      · rename_i hk
        cases h
        rw [hk]
        exact .inr ⟨0, e, (k', x), rfl, rfl, rfl, rfl⟩
      · rename_i hk
        rw [hk]
        rcases ih ents (n + 1) q (by simpa using hl) h with ⟨h1, h2⟩ | ⟨j, e', a, h1, h2, h3, h4⟩
        · exact .inl ⟨h1, h2⟩
        · exact .inr ⟨j + 1, e', a, by simpa using h1, by simpa using h2, h3, by simp only [h4]; congr 3; omega⟩
      · cases h

theorem putE_R {kt : KT} {k : V} {x : T2} : ∀ (es : List (V × T2)) (ents : List MapEntry) (n : Nat) (es' : List (V × T2)), es.length = ents.length → putE kt k x es = some es' →
    (es' = es ++ [(k, x)] ∧ findR kt k (es.map (·.1)) ents n = some none) ∨ ∃ j e, j < es.length ∧ ents[j]? = some e ∧ es' = es.set j (k, x) ∧ findR kt k (es.map (·.1)) ents n = some (some (n + j, e.val)) := by
  intro es
  induction es with
  | nil =>
    intro ents n q hl h
    cases ents with
    | nil => simp [putE] at h; exact .inl ⟨h.symm, rfl⟩
    | cons _ _ => simp at hl
  | cons y es ih =>
    intro ents n q hl h
    cases ents with
    | nil => simp at hl
    | cons e ents =>
      obtain ⟨k', x'⟩ := y
      simp only [putE] at h
      simp only [List.map_cons, findR]
      split at h
      · rename_i hk
        cases h
        rw [hk]
        exact .inr ⟨0, e, by simp, rfl, rfl, rfl⟩
      · rename_i hk
        rw [hk]
        split at h
        · rename_i r hr
          cases h
          rcases ih ents (n + 1) r (by simpa using hl) hr with ⟨h1, h2⟩ | ⟨j, e', h1, h2, h3, h4⟩
          · exact .inl ⟨by rw [h1]; rfl, h2⟩
          · exact .inr ⟨j + 1, e', Nat.succ_lt_succ h1, by simpa using h2, by rw [h3]; rfl, by simp only [h4]; congr 3; omega⟩
        · cases h
      · cases h

theorem keyAt_R {kt : KT} {k : V} : ∀ (es : List (V × T2)) (ents : List MapEntry) (n : Nat) (q : Option (Nat × T2)), es.length = ents.length → keyAt kt k es n = some q →
    (q = none ∧ findR kt k (es.map (·.1)) ents n = some none) ∨ ∃ j e a, es[j]? = some a ∧ ents[j]? = some e ∧ q = some (n + j, a.2) ∧ findR kt k (es.map (·.1)) ents n = some (some (n + j, e.val)) := by
  intro es
  induction es with
  | nil =>
    intro ents n q hl h
    cases ents with
    | nil => simp [keyAt] at h; exact .inl ⟨h.symm, rfl⟩
    | cons _ _ => simp at hl
  | cons y es ih =>
    intro ents n q hl h
    cases ents with
    | nil => simp at hl
    | cons e ents =>
      obtain ⟨k', x⟩ := y
      simp only [keyAt] at h
      simp only [List.map_cons, findR]
      split at h
      · rename_i hk
        cases h
        rw [hk]
        exact .inr ⟨0, e, (k', x), rfl, rfl, rfl, rfl⟩
      · rename_i hk
        rw [hk]
        rcases ih ents (n + 1) q (by simpa using hl) h with ⟨h1, h2⟩ | ⟨j, e', a, h1, h2, h3, h4⟩
        · exact .inl ⟨h1, h2⟩
        · exact .inr ⟨j + 1, e', a, by simpa using h1, by simpa using h2, by rw [h3]; congr 2; omega, by simp only [h4]; congr 3; omega⟩
      · cases h

end
end Go.Ev

/- The operations, tenth part: maps looked up, written. -/
namespace Go.Ev

section
variable {P : Program} {o : Oper} {ρ : Operand → Value} {w : World} {S : Fz} {σ : Locs} {os : Objs} {fr : List SV} {mm : Bool} {call : CallT} {s : SOp} {r : R}

def setB (w : World) (b : Nat) (x : Obj) : World := { w with heap := w.heap.setIfInBounds b x }

theorem setB_other (w : World) (b : Nat) (x : Obj) : ∀ k, k ≠ b → (setB w b x).heap[k]? = w.heap[k]? := fun k hk => by simp [setB, Ne.symm hk]
theorem setB_self {w : World} {b : Nat} {x y : Obj} (h : w.heap[b]? = some y) : (setB w b x).heap[b]? = some x := by
  have hlt : b < w.heap.size := (Array.getElem?_eq_some_iff.1 h).1
  simp [setB, hlt]
theorem setB_size (w : World) (b : Nat) (x : Obj) : (setB w b x).heap.size = w.heap.size := by simp [setB]

theorem run_setMap {b : Nat} {es : Array MapEntry} {c : Nat} (x : Obj) (h : w.heap[b]? = some (.map es c)) : (setObj b x).run P w = .ok () (setB w b x) := MapKept.run_setObj_map x h

theorem mapRel_of {es : List (V × T2)} {ents : Array MapEntry} (h2 : es.length = ents.size) (h4 : ∀ (j : Nat) (k : V) (x : T2) (e : MapEntry), es[j]? = some (k, x) → ents[j]? = some e → Rep S k e.key ∧ relT S σ x e.val) : MapRel S σ es ents.toList :=
  ⟨by simpa using h2, fun j a e ha he => h4 j a.1 a.2 e ha (by simpa using he)⟩

/-- A map of the call's own is written. -/
theorem post_map {j : Nat} {L : Loc} {z z' : Bool} {es es' : List (V × T2)} {ents ents' : Array MapEntry} {sv : SV} {v : Value} (hs : HeapSim S σ os w) (hob : obj os j = some (.map z es)) (hL : σ j = some L) (h1 : w.heap[L.b]? = some (.map ents ents.size)) (hb : ∀ (i : Nat) (e : MapEntry), ents'[i]? = some e → e.born = i)
    (hr : MapRel S σ es' ents'.toList) (hv : relS S σ sv v) (hz : z' = true → ∀ e ∈ es', e.2.frz = true) : Post os σ S w ⟨sv, os.set j (some (.map z' es'))⟩ v (setB w L.b (.map ents' ents'.size)) := by
  refine post_put hs hob hL (setB_other w L.b _) (by rw [setB_size]; exact Nat.le_refl _) rfl rfl rfl (fun i => (hs.loc hob hL).2.cell i (Nat.zero_le _)) ?_ rfl hv
  refine ⟨hz, ents', setB_self h1, by simpa using hr.1, hb, fun i k x e he he' => ?_⟩
  exact hr.2 i (k, x) e he (by simpa using he')

theorem putE_frz' {kt : KT} {k : V} {y : T2} (hy : y.frz = true) : ∀ {es es' : List (V × T2)}, (∀ e ∈ es, e.2.frz = true) → putE kt k y es = some es' → ∀ e ∈ es', e.2.frz = true := by
  intro es
  induction es with
  | nil =>
    intro es' _ h e he
    simp only [putE, Option.some.injEq] at h
    subst h
    simp only [List.mem_singleton] at he
    subst he
    exact hy
  | cons a es ih =>
    intro es' hz h e he
    obtain ⟨k', x⟩ := a
    simp only [putE] at h
    split at h
    · cases h
      rcases List.mem_cons.1 he with rfl | he
      · exact hy
      · exact hz _ (List.mem_cons_of_mem _ he)
    · split at h
      · rename_i r hr
        cases h
        rcases List.mem_cons.1 he with rfl | he
        · exact hz _ (List.mem_cons_self ..)
        · exact ih (fun e he => hz e (List.mem_cons_of_mem _ he)) hr e he
      · cases h
    · cases h
theorem putE_frz {kt : KT} {k : V} {y : T2} {z : Bool} {es es' : List (V × T2)} (hz : z = true → ∀ e ∈ es, e.2.frz = true) (h : putE kt k y es = some es') : (z && y.frz) = true → ∀ e ∈ es', e.2.frz = true := fun hb => by
  rw [Bool.and_eq_true] at hb
  exact putE_frz' hb.2 (hz hb.1) h
theorem frz_snoc {k x : V} {es : List (V × T2)} (h : ∀ e ∈ es, e.2.frz = true) : ∀ e ∈ es ++ [(k, T2.a (.v x))], e.2.frz = true := fun e he => by
  rcases List.mem_append.1 he with he | he
  · exact h e he
  · simp only [List.mem_singleton] at he; subst he; rfl
theorem set_frz {z : Bool} {y : T2} {k : V} {n : Nat} {es : List (V × T2)} (hz : z = true → ∀ e ∈ es, e.2.frz = true) : (z && y.frz) = true → ∀ e ∈ es.set n (k, y), e.2.frz = true := fun hb e he => by
  rw [Bool.and_eq_true] at hb
  rcases List.mem_or_eq_of_mem_set he with he | rfl
  · exact hz hb.1 e he
  · exact hb.2

def lookRes (ok : Bool) (zv : Value) : Option (Nat × Value) → Value
  | some (_, v) => if ok then .tuple #[v, .bool true] else v
  | none => if ok then .tuple #[zv, .bool false] else zv

theorem run_look {t kty ety : TypeId} {xv kv zv : Value} {ok : Bool} {es : Array MapEntry} {q : Option (Nat × Value)} (hu : P.underlying t = some (.map kty ety)) (hx : (xv = .map none ∧ es = #[]) ∨ ∃ r c, xv = .map (some r) ∧ w.heap[r]? = some (.map es c))
    (h1 : (Instr.checkKey es.isEmpty 10000 kty kv).run P w = .ok () w) (h2 : (Instr.findKey kty kv es.toList).run P w = .ok q w) (hz : (zeroValue ety).run P w = .ok zv w) :
    (Instr.lookup t xv kv ok).run P w = .ok (lookRes ok zv q) w := by
  rcases hx with ⟨rfl, rfl⟩ | ⟨r, c, rfl, hb⟩
  · simp at h1 h2
    cases q <;> simp [Instr.lookup, run_underlying hu, h1, h2, hz, lookRes]
  · cases q <;> simp [Instr.lookup, run_underlying hu, MapKept.run_getObj_map hb, h1, h2, hz, lookRes]

theorem rel_optTup {ok b : Bool} {x : T2} {v : Value} (h : relT S σ x v) : relS S σ (optTup ok x b) (if ok then .tuple #[v, .bool b] else v) := by
  cases ok with
  | true => exact rel_mkTup (vs := [v, .bool b]) (Pw.cons h (Pw.cons (Rep.bool b) Pw.nil))
  | false => exact rel_T2sv h

variable (hρ : ∀ x y, cOpd x = some y → relS S σ (opd fr y) (ρ x)) (hs : HeapSim S σ os w)
include hρ hs

theorem ok_look {t : TypeId} {x i : Operand} {ok : Bool} (ho : o.op = .lookup t x i ok) (hc : cOp P o.op = some s) (he : evOp mm call fr os s = some r) : OpDone P (execOp ρ o) w (Post os σ S w r) := by
  rw [ho] at hc
  simp only [cOp] at hc
  split at hc
  · rename_i kty ety hu
    split at hc
    · rename_i kt z hkt hz
      obtain ⟨a, b, ha, hb, hf⟩ := un2_some hc
      cases hf
      obtain ⟨zv, ii, hi, hzv, hzrun, hzr⟩ := zeroOf_run hz
      obtain ⟨kd, hkd⟩ := keyT_under hkt
      simp only [evOp] at he
      split at he
      · cases he
      · rename_i k os1 hfz
        obtain ⟨S1, k1, k2, k3, k4⟩ := freezeS_ok hfz hs (hρ i b hb)
        split at he
        · cases he
        · rename_i hkc
          rw [Bool.not_eq_true] at hkc
          have hx := relS.mono k3.le (.refl _) (hρ x a ha)
          have fin : ∀ {sv : SV} {v : Value}, (Instr.lookup t (ρ x) (ρ i) ok).run P w = .ok v w → relS S1 σ sv v → OpDone P (execOp ρ o) w (Post os σ S w ⟨sv, os1⟩) := fun {sv v} hr hv => by
            refine .inl ⟨v, w, by simp only [execOp, ho]; exact run_v hr, Post.after k3 k4 (Post.same k1 hv rfl)⟩
          have hnone : ∀ {xv : Value} {es : Array MapEntry}, ρ x = xv → ((xv = .map none ∧ es = #[]) ∨ ∃ r c, xv = .map (some r) ∧ w.heap[r]? = some (.map es c)) →
              ∀ {xs : List V} {q : Option (Nat × Value)}, Pw (fun x (e : MapEntry) => Rep S1 x e.key) xs es.toList → findR kt k xs es.toList 0 = some q → (Instr.lookup t (ρ x) (ρ i) ok).run P w = .ok (lookRes ok zv q) w := by
            intro xv es hxv hx xs q hp hq
            rw [hxv]
            exact run_look hu hx (run_checkKey_flat es.isEmpty hkt k2 hkc) (findKey_R hkd hkt k2 hp hq) (hzrun w)
          split at he
          · -- nil
            rename_i hox
            cases he
            rw [hox] at hx
            have hx : Rep S1 .nilm (ρ x) := hx
            generalize hxv : ρ x = xv at hx
            cases hx
            have := hnone (es := #[]) hxv (.inl ⟨rfl, rfl⟩) (xs := []) (q := none) ⟨rfl, fun j a b h => by simp at h⟩ rfl
            exact fin this (rel_optTup (hzr S1))
          · rename_i es hox
            rw [hox] at hx
            have hx : Rep S1 (.map es) (ρ x) := hx
            generalize hxv : ρ x = xv at hx
            cases hx with
            | map rr ents ks xs hm hl hent hks hxs =>
              obtain ⟨c, hbk⟩ := k1.frz.mp _ _ hm
              have hp : Pw (fun x (e : MapEntry) => Rep S1 x e.key) ((List.range es.length).map ks) ents.toList := by
                refine ⟨by simp [hl], fun j x e hx he => ?_⟩
                rw [List.getElem?_map] at hx
                obtain ⟨j', hj', rfl⟩ := Option.map_eq_some_iff.1 hx
                have : j' = j := by
                  rcases Nat.lt_or_ge j es.length with h | h
                  · rw [List.getElem?_range h] at hj'; cases hj'; rfl
                  · rw [List.getElem?_eq_none (by simpa using h)] at hj'; cases hj'
                subst this
                exact hks j' e (by simpa using he)
              have hrun := (Or.inr ⟨rr, c, rfl, hbk⟩ : (Value.map (some rr) = .map none ∧ ents = #[]) ∨ ∃ r c, Value.map (some rr) = .map (some r) ∧ w.heap[r]? = some (.map ents c))
              split at he
              · rename_i y hfv
                cases he
                rcases findV_R es ents.toList ks xs 0 _ (by simpa using hl) hent hfv with ⟨h1, h2⟩ | ⟨j, e, h1, h2, h3, h4⟩
                · cases h1
                · cases h3
                  refine fin (hnone hxv hrun hp h4) ?_
                  exact rel_optTup (hxs j e (by simpa using h2))
              · rename_i hfv
                cases he
                rcases findV_R es ents.toList ks xs 0 _ (by simpa using hl) hent hfv with ⟨h1, h2⟩ | ⟨j, e, h1, h2, h3, h4⟩
                · exact fin (hnone hxv hrun hp h2) (rel_optTup (hzr S1))
                · cases h3
              · cases he
          · rename_i j hox
            rw [hox] at hx
            obtain ⟨L, hL, hxv⟩ := hx
            split at he
            · rename_i z es hob
              obtain ⟨⟨hz, ents, h1, h2, h3, h4⟩, _⟩ := k1.loc hob hL
              have hmr := mapRel_of h2 h4
              have hrun := (Or.inr ⟨L.b, _, rfl, h1⟩ : (Value.map (some L.b) = .map none ∧ ents = #[]) ∨ ∃ r c, Value.map (some L.b) = .map (some r) ∧ w.heap[r]? = some (.map ents c))
              split at he
              · rename_i y hfv
                cases he
                rcases findE_R es ents.toList 0 _ (by simpa using h2) hfv with ⟨q1, q2⟩ | ⟨j', e, a', q1, q2, q3, q4⟩
                · cases q1
                · cases q3
                  exact fin (hnone hxv hrun hmr.keys q4) (rel_optTup (hmr.2 j' a' e q1 q2).2)
              · rename_i hfv
                cases he
                rcases findE_R es ents.toList 0 _ (by simpa using h2) hfv with ⟨q1, q2⟩ | ⟨j', e, a', q1, q2, q3, q4⟩
                · exact fin (hnone hxv hrun hmr.keys q2) (rel_optTup (hzr S1))
                · cases q3
              · cases he
            · cases he
          · cases he
    · cases hc
  · cases hc
theorem ok_mupd {t : TypeId} {x i v : Operand} (ho : o.op = .mapUpdate t x i v ∨ o.op = .insert t x i v) (hc : cOp P o.op = some s) (he : evOp mm call fr os s = some r) : OpDone P (execOp ρ o) w (Post os σ S w r) := by
  have hc : cOp P (.mapUpdate t x i v) = some s := by rcases ho with h | h <;> (rw [h] at hc; exact hc)
  have hex : ∀ {w1 : World}, (Instr.mapUpdate t (ρ x) (ρ i) (ρ v)).run P w = .ok () w1 → (execOp ρ o).run P w = .ok .skip w1 := fun {w1} h => by
    rcases ho with ho | ho <;> simp only [execOp, ho] <;> simp [h]
  simp only [cOp] at hc
  split at hc
  · rename_i kty ety hu
    split at hc
    · rename_i kt hkt
      split at hc
      · rename_i a b c ha hb hcv
        cases hc
        obtain ⟨kd, hkd⟩ := keyT_under hkt
        simp only [evOp] at he
        split at he
        · cases he
        · rename_i k os1 hfz
          obtain ⟨S1, k1, k2, k3, k4⟩ := freezeS_ok hfz hs (hρ i b hb)
          split at he
          · cases he
          · rename_i hkc
            rw [Bool.not_eq_true] at hkc
            have hx := relS.mono k3.le (.refl _) (hρ x a ha)
            have hv := relS.mono k3.le (.refl _) (hρ v c hcv)
            split at he
            · rename_i j y hox hyt
              rw [hox] at hx
              obtain ⟨L, hL, hxv⟩ := hx
              have hy := rel_toT2 hyt hv
              split at he
              · rename_i z es hob
                split at he
                · split at he
                  · rename_i es' hput
                    cases he
                    obtain ⟨⟨hz, ents, h1, h2, h3, h4⟩, _⟩ := k1.loc hob hL
                    have hmr := mapRel_of h2 h4
                    have hck := run_checkKey_flat (w := w) (P := P) false hkt k2 hkc
                    have hvoid : relS S1 σ .void undef := Rep.mk_tup (vs := []) Pw.nil
                    rcases putE_R es ents.toList 0 es' (by simpa using h2) hput with ⟨q1, q2⟩ | ⟨j', e, q1, q2, q3, q4⟩
                    · have hfk := findKey_R (w := w) (P := P) hkd hkt k2 hmr.keys q2
                      let ents' := ents.push { key := ρ i, val := ρ v, born := ents.size }
                      have hrun : (Instr.mapUpdate t (ρ x) (ρ i) (ρ v)).run P w = .ok () (setB w L.b (.map ents' ents'.size)) := by
                        rw [hxv]
                        simp [Instr.mapUpdate, run_underlying hu, MapKept.run_getObj_map h1, hck, hfk, run_setMap _ h1, ents']
                      refine .inr (.inl ⟨_, hex hrun, Post.after k3 k4 (post_map k1 hob hL h1 ?_ ?_ hvoid (putE_frz hz hput))⟩)
                      · intro n e hn
                        simp only [ents', Array.getElem?_push] at hn
                        split at hn
                        · rename_i hh; cases hn; exact hh.symm
                        · exact h3 n e hn
                      · rw [q1]
                        have : ents'.toList = ents.toList ++ [{ key := ρ i, val := ρ v, born := ents.size }] := by simp [ents']
                        rw [this]
                        exact Pw.append hmr (Pw.cons ⟨k2, hy⟩ Pw.nil)
                    · obtain ⟨_, e0, x0, p1, p2, p3, p4⟩ := findR_pos _ _ _ _ _ q4
                      have hfk := findKey_R (w := w) (P := P) hkd hkt k2 hmr.keys q4
                      simp only [Nat.zero_add, Nat.sub_zero] at p1 p2 hfk
                      have hkeys := hmr.keys
                      have hr0 := hkeys.2 j' x0 e0 p2 p1
                      obtain ⟨u1, u2, u3⟩ := key_unique p4 k2 hr0
                      have hkts : (Instr.keyThatStays (((ents[j']?).map (·.key)).getD (ρ i)) (ρ i)).run P w = .ok (ρ i) w := by
                        have : ents[j']? = some e0 := by simpa using p1
                        rw [this]
                        simp only [Option.map_some, Option.getD_some, ← u2]
                        rw [← u2] at u3
                        simp [Instr.keyThatStays, u3]
                      let ents' := ents.modify j' fun e => { e with key := ρ i, val := ρ v }
                      have hsz : ents'.size = ents.size := by simp [ents']
                      have hrun : (Instr.mapUpdate t (ρ x) (ρ i) (ρ v)).run P w = .ok () (setB w L.b (.map ents' ents'.size)) := by
                        rw [hxv, hsz]
                        simp [Instr.mapUpdate, run_underlying hu, MapKept.run_getObj_map h1, hck, hfk, hkts, run_setMap _ h1, ents']
                      refine .inr (.inl ⟨_, hex hrun, Post.after k3 k4 (post_map k1 hob hL h1 ?_ ?_ hvoid (putE_frz hz hput))⟩)
                      · intro n e hn
                        simp only [ents', Array.getElem?_modify] at hn
                        split at hn
                        · obtain ⟨e1, he1, rfl⟩ := Option.map_eq_some_iff.1 hn
                          exact h3 n e1 he1
                        · exact h3 n e hn
                      · rw [q3]
                        have : ents'.toList = ents.toList.set j' { e0 with key := ρ i, val := ρ v } := by
                          apply List.ext_getElem?
                          intro n
                          rw [Array.getElem?_toList, List.getElem?_set]
                          simp only [ents', Array.getElem?_modify]
                          have p1' : ents[j']? = some e0 := by simpa using p1
                          by_cases hn : j' = n
                          · subst hn
                            rw [if_pos rfl, if_pos rfl, p1', if_pos (by simpa using (Array.getElem?_eq_some_iff.1 p1').1)]
                            rfl
                          · rw [if_neg hn, if_neg hn]; simp
                        rw [this]
                        exact Pw.set hmr j' ⟨k2, hy⟩
                  · cases he
                · cases he
              · cases he
            · cases he
      · cases hc
    · cases hc
  · cases hc

theorem ok_ment {t : TypeId} {x i : Operand} (ho : o.op = .mapEntry t x i) (hc : cOp P o.op = some s) (he : evOp mm call fr os s = some r) : OpDone P (execOp ρ o) w (Post os σ S w r) := by
  rw [ho] at hc
  simp only [cOp] at hc
  split at hc
  · rename_i kty ety hu
    split at hc
    · rename_i kt z hkt hz
      obtain ⟨a, b, ha, hb, hf⟩ := un2_some hc
      cases hf
      obtain ⟨zv, ii, hi, hzv, hzrun, hzr⟩ := zeroOf_run hz
      obtain ⟨kd, hkd⟩ := keyT_under hkt
      simp only [evOp] at he
      split at he
      · cases he
      · rename_i k os1 hfz
        obtain ⟨S1, k1, k2, k3, k4⟩ := freezeS_ok hfz hs (hρ i b hb)
        split at he
        · cases he
        · rename_i hkc
          rw [Bool.not_eq_true] at hkc
          have hx := relS.mono k3.le (.refl _) (hρ x a ha)
          split at he
          · rename_i j hox
            rw [hox] at hx
            obtain ⟨L, hL, hxv⟩ := hx
            split at he
            · rename_i z es hob
              obtain ⟨⟨hz, ents, h1, h2, h3, h4⟩, _⟩ := k1.loc hob hL
              have hmr := mapRel_of h2 h4
              have hck := run_checkKey_flat (w := w) (P := P) false hkt k2 hkc
              have hkeys := hmr.keys
              split at he
              · rename_i n y hka
                cases he
                rcases keyAt_R es ents.toList 0 _ (by simpa using h2) hka with ⟨q1, q2⟩ | ⟨j', e, a', q1, q2, q3, q4⟩
                · cases q1
                · simp only [Nat.zero_add] at q3
                  cases q3
                  obtain ⟨_, e0, x0, p1, p2, p3, p4⟩ := findR_pos _ _ _ _ _ q4
                  have hfk := findKey_R (w := w) (P := P) hkd hkt k2 hmr.keys q4
                  simp only [Nat.zero_add, Nat.sub_zero] at p1 p2 hfk
                  have hr0 := hkeys.2 n x0 e0 p2 p1
                  obtain ⟨u1, u2, u3⟩ := key_unique p4 k2 hr0
                  have hee : e = e0 := by rw [q2] at p1; exact Option.some.inj p1
                  subst hee
                  have p1' : ents[n]? = some e := by simpa using p1
                  have hkts : (Instr.keyThatStays e.key (ρ i)).run P w = .ok (ρ i) w := by
                    rw [← u2] at u3 ⊢
                    simp [Instr.keyThatStays, u3]
                  have hmod : (ents.modify n fun e => { e with key := ρ i }) = ents := by
                    apply Array.ext_getElem?
                    intro m
                    rw [Array.getElem?_modify]
                    split
                    · rename_i hm
                      subst hm
                      rw [p1']
                      simp only [Option.map_some, u2]
                    · rfl
                  have hset : setB w L.b (.map ents ents.size) = w := by
                    unfold setB
                    have hlt : L.b < w.heap.size := (Array.getElem?_eq_some_iff.1 h1).1
                    have : w.heap.setIfInBounds L.b (.map ents ents.size) = w.heap := by
                      apply Array.ext_getElem?
                      intro m
                      by_cases hm : L.b = m
                      · subst hm; simp [hlt]; exact (Array.getElem?_eq_some_iff.1 h1).2.symm
                      · simp [hm]
                    rw [this]
                  have hrun : (Instr.mapEntry t (ρ x) (ρ i)).run P w = .ok (.tuple #[e.val, goInt n]) w := by
                    rw [hxv]
                    have hb0 : e.born = n := h3 n e p1'
                    have hs2 := run_setMap (P := P) (.map ents ents.size) h1
                    rw [hset] at hs2
                    simp [Instr.mapEntry, run_underlying hu, MapKept.run_getObj_map h1, hck, hfk, hkts, hmod, hs2, p1', hb0]
                  refine .inl ⟨_, w, by simp only [execOp, ho]; exact run_v hrun, Post.after k3 k4 (Post.same k1 ?_ rfl)⟩
                  exact rel_mkTup (vs := [e.val, goInt n]) (Pw.cons (hmr.2 n a' e q1 q2).2 (Pw.cons (Rep.int _ _) Pw.nil))
              · rename_i hka
                split at he
                · cases he
                  rcases keyAt_R es ents.toList 0 _ (by simpa using h2) hka with ⟨q1, q2⟩ | ⟨j', e, a', q1, q2, q3, q4⟩
                  · have hfk := findKey_R (w := w) (P := P) hkd hkt k2 hmr.keys q2
                    let ents' := ents.push { key := ρ i, val := zv, born := ents.size }
                    have hrun : (Instr.mapEntry t (ρ x) (ρ i)).run P w = .ok (.tuple #[zv, goInt ents.size]) (setB w L.b (.map ents' ents'.size)) := by
                      rw [hxv]
                      simp [Instr.mapEntry, run_underlying hu, MapKept.run_getObj_map h1, hck, hfk, hzrun, run_setMap _ h1, ents']
                    refine .inl ⟨_, _, by simp only [execOp, ho]; exact run_v hrun, Post.after k3 k4 (post_map k1 hob hL h1 ?_ ?_ ?_ fun h => frz_snoc (hz h))⟩
                    · intro n e hn
                      simp only [ents', Array.getElem?_push] at hn
                      split at hn
                      · rename_i hh; cases hn; exact hh.symm
                      · exact h3 n e hn
                    · have : ents'.toList = ents.toList ++ [{ key := ρ i, val := zv, born := ents.size }] := by simp [ents']
                      rw [this]
                      exact Pw.append hmr (Pw.cons ⟨k2, hzr S1⟩ Pw.nil)
                    · rw [h2]
                      exact rel_mkTup (vs := [zv, goInt ents.size]) (Pw.cons (hzr S1) (Pw.cons (Rep.int _ _) Pw.nil))
                  · cases q3
                · cases he
              · cases he
            · cases he
          · cases he
    · cases hc
  · cases hc

theorem ok_esto {t : TypeId} {x i v : Operand} (ho : o.op = .entryStore t x i v) (hc : cOp P o.op = some s) (he : evOp mm call fr os s = some r) : OpDone P (execOp ρ o) w (Post os σ S w r) := by
  rw [ho] at hc
  simp only [cOp] at hc
  split at hc
  · rename_i a b c ha hb hcv
    cases hc
    have hx := hρ x a ha
    have hv := hρ v c hcv
    simp only [evOp] at he
    split at he
    · rename_i j n y hox hn hyt
      rw [hox] at hx
      obtain ⟨L, hL, hxv⟩ := hx
      have hy := rel_toT2 hyt hv
      obtain ⟨ik, hiv⟩ := asInt_rel (hρ i b hb) hn
      split at he
      · cases he
      · rename_i h0
        split at he
        · rename_i z es hob
          split at he
          · rename_i k0 y0 hes
            cases he
            obtain ⟨⟨hz, ents, h1, h2, h3, h4⟩, _⟩ := hs.loc hob hL
            have hmr := mapRel_of h2 h4
            have hlt : n.toNat < ents.size := by
              rcases Nat.lt_or_ge n.toNat es.length with h | h
              · omega
              · rw [List.getElem?_eq_none h] at hes; cases hes
            have hfi : ents.findIdx? (fun e => (e.born : Int) == n) = some n.toNat := by
              rw [Array.findIdx?_eq_some_iff_getElem]
              refine ⟨hlt, ?_, fun j' hj' => ?_⟩
              · have := h3 n.toNat ents[n.toNat] (Array.getElem?_eq_getElem hlt)
                simp [this]; omega
              · have := h3 j' ents[j'] (Array.getElem?_eq_getElem (by omega))
                simp [this]; omega
            let ents' := ents.modify n.toNat fun e => { e with val := ρ v }
            have hsz : ents'.size = ents.size := by simp [ents']
            have hrun : (Instr.entryStore t (ρ x) (ρ i) (ρ v)).run P w = .ok () (setB w L.b (.map ents' ents'.size)) := by
              rw [hxv, hiv, hsz]
              simp [Instr.entryStore, MapKept.run_getObj_map h1, Go.asInt, Go.asIntOf, hfi, run_setMap _ h1, ents']
            refine .inr (.inl ⟨setB w L.b (.map ents' ents'.size), by simp only [execOp, ho]; simp [hrun], post_map (ents' := ents') hs hob hL h1 ?_ ?_ (Rep.mk_tup (vs := []) Pw.nil) (set_frz hz)⟩)
            · intro m e hm
              simp only [ents', Array.getElem?_modify] at hm
              split at hm
              · obtain ⟨e1, he1, rfl⟩ := Option.map_eq_some_iff.1 hm
                exact h3 m e1 he1
              · exact h3 m e hm
            · have e0 := hmr.2 n.toNat (k0, y0) ents[n.toNat] hes (by simp)
              have : ents'.toList = ents.toList.set n.toNat { ents[n.toNat] with val := ρ v } := by
                apply List.ext_getElem?
                intro m
                rw [Array.getElem?_toList, List.getElem?_set]
                simp only [ents', Array.getElem?_modify]
                by_cases hm : n.toNat = m
                · subst hm
                  rw [if_pos rfl, if_pos rfl, Array.getElem?_eq_getElem hlt, if_pos (by simpa using hlt)]
                  rfl
                · rw [if_neg hm, if_neg hm]; simp
              rw [this]
              exact Pw.set hmr n.toNat ⟨e0.1, hy⟩
          · cases he
        · cases he
    · cases he
  · cases hc

end
end Go.Ev

/- The operations, last part: the cut expressions, calls; all of them. -/
namespace Go.Ev

def HasBody (P : Program) (f : FuncId) : Prop := ∃ fn, P.funcs[f]? = some fn ∧ fn.body.isSome = true ∧ (fn.name == "runtime.NumGoroutine") = false


/-- What the evaluator says of a call is so, the package's variables being as they were laid (G). -/
def CallOK (P : Program) (G : Globs) (call : CallT) : Prop :=
  ∀ (f : FuncId) (args : List SV) (os : Objs) (r : R), call f args os = some r → HasBody P f ∧ ∀ (S : Fz) (σ : Locs) (w : World) (vals : List Value), S.g = G → HeapSim S σ os w → Pw (relS S σ) args vals →
    Calls P f vals.toArray w fun e w' => ∃ v, e = .returned v ∧ Post os σ S w r v w'

section
variable {P : Program} {o : Oper} {ρ : Operand → Value} {w : World} {S : Fz} {σ : Locs} {os : Objs} {fr : List SV} {mm : Bool} {call : CallT} {s : SOp} {r : R} {G : Globs}

theorem run_callFunc {f : FuncId} {args : Array Value} (h : HasBody P f) : (callFunc f args).run P w = .ok (.enter f args) w := by
  obtain ⟨fn, h1, h2, h3⟩ := h
  have h3' : ¬ fn.name = "runtime.NumGoroutine" := by simpa using h3
  have h4 : ¬ fn.body = none := by intro h; rw [h] at h2; cases h2
  simp [callFunc, h1, h3', h4]

theorem opds_rel (hρ : ∀ x y, cOpd x = some y → relS S σ (opd fr y) (ρ x)) {l : List Operand} {ys : List SOpd} (h : cOpds l = some ys) : Pw (relS S σ) (opds fr ys) (l.map ρ) := by
  have hp := cOpds_rel (R := fun y x => relS S σ (opd fr y) (ρ x)) hρ h
  rw [opds_eq]
  refine ⟨by simp [hp.1], fun j a b ha hb => ?_⟩
  rw [List.getElem?_map] at ha hb
  obtain ⟨y, hy, rfl⟩ := Option.map_eq_some_iff.1 ha
  obtain ⟨x, hx, rfl⟩ := Option.map_eq_some_iff.1 hb
  exact hp.2 j y x hy hx

variable (hρ : ∀ x y, cOpd x = some y → relS S σ (opd fr y) (ρ x)) (hs : HeapSim S σ os w)
include hρ hs

omit hρ in
theorem done_enter {c : Call} {x : Operand} {f : FuncId} {va vb vals : List Value} {args : List SV} (hG : S.g = G) (hcall : CallOK P G call) (ho : o.op = .call c) (hcal : c.callee = .value x) (hx : ρ x = .func (.func f) va.toArray vb.toArray) (hv : vals = va ++ c.args.toList.map ρ ++ vb)
    (hp : Pw (relS S σ) args vals) (he : call f args os = some r) : OpDone P (execOp ρ o) w (Post os σ S w r) := by
  obtain ⟨hb, hc⟩ := hcall f args os r he
  refine .inr (.inr ⟨f, vals.toArray, ?_, hc S σ w vals hG hs hp⟩)
  have e : va.toArray ++ c.args.map ρ ++ vb.toArray = vals.toArray := by
    rw [hv]
    apply Array.ext'
    simp
  simp only [execOp, ho, resolve, hcal, hx, Deferred.ofValue, Sem.run_bind, Sem.run_pure, Result.andThen_ok, invoke, e]
  exact run_callFunc hb

theorem ok_call {c : Call} (hG : S.g = G) (hcall : CallOK P G call) (ho : o.op = .call c) (hc : cOp P o.op = some s) (he : evOp mm call fr os s = some r) : OpDone P (execOp ρ o) w (Post os σ S w r) := by
  rw [ho] at hc
  simp only [cOp] at hc
  unfold cCall at hc
  split at hc
  · rename_i as has
    have hpa := opds_rel hρ has
    split at hc
    · rename_i f hcal
      split at hc
      · split at hc
        · cases hc
          simp only [evOp] at he
          have hf := hρ (.func f) (.f f) rfl
          obtain ⟨va, vb, h1, h2, h3⟩ := hf
          have e1 := h2.nil_left
          have e2 := h3.nil_left
          subst e1 e2
          exact done_enter hs hG hcall ho hcal h1 (by simp) hpa he
        · cases hc
      · cases hc
    · rename_i x hnf hcal
      split at hc
      · rename_i y hy
        cases hc
        have hx := hρ x y hy
        simp only [evOp] at he
        split at he
        · rename_i g a b hox
          rw [hox] at hx
          obtain ⟨va, vb, h1, h2, h3⟩ := hx
          refine done_enter hs hG hcall ho hcal h1 rfl ?_ he
          exact ((Pw.map_left (f := SV.a) (R := relS S σ) h2).append hpa).append (Pw.map_left (f := SV.a) (R := relS S σ) h3)
        · rename_i g a b hox
          rw [hox] at hx
          have hx : Rep S (.fn g a b) (ρ x) := hx
          generalize hxv : ρ x = xv at hx
          cases hx with
          | fn f va vb h1 h2 h3 h4 =>
            refine done_enter hs hG hcall ho hcal hxv rfl ?_ he
            exact ((Pw.map_left (f := fun x => SV.a (.v x)) (R := relS S σ) ⟨h1, h3⟩).append hpa).append (Pw.map_left (f := fun x => SV.a (.v x)) (R := relS S σ) ⟨h2, h4⟩)
        · cases he
      · cases hc
    · rename_i b hcal
      have hca : c = { callee := .builtin b, args := c.args, argTypes := c.argTypes } := by
        cases c; simp only at hcal; subst hcal; rfl
      have hcs : ∀ {l : List Operand} {ys : List SOpd}, cOpds l = some ys → ∀ a, ys = [a] → ∃ x, l = [x] ∧ cOpd x = some a := by
        intro l ys h a ha
        subst ha
        cases l with
        | nil => simp [cOpds] at h
        | cons x l =>
          simp only [cOpds] at h
          split at h
          · rename_i y l' h1 h2
            simp at h
            obtain ⟨rfl, rfl⟩ := h
            cases l with
            | nil => exact ⟨x, rfl, h1⟩
            | cons x' l => simp only [cOpds] at h2; split at h2 <;> cases h2
          · cases h
      have hcs2 : ∀ {l : List Operand} {ys : List SOpd}, cOpds l = some ys → ∀ a b, ys = [a, b] → ∃ x y, l = [x, y] ∧ cOpd x = some a ∧ cOpd y = some b := by
        intro l ys h a b ha
        subst ha
        cases l with
        | nil => simp [cOpds] at h
        | cons x l =>
          simp only [cOpds] at h
          split at h
          · rename_i y l' h1 h2
            simp at h
            obtain ⟨rfl, rfl⟩ := h
            obtain ⟨x', h3, h4⟩ := hcs h2 b rfl
            exact ⟨x, x', by rw [h3], h1, h4⟩
          · cases h
      have harr : ∀ {l : List Operand}, c.args.toList = l → c.args = l.toArray := fun h => by rw [← h]
      have harrt : ∀ {l : List TypeId}, c.argTypes.toList = l → c.argTypes = l.toArray := fun h => by rw [← h]
      unfold cBuiltin at hc
      split at hc
      · rename_i x t h2
        obtain ⟨x', hl, hx'⟩ := hcs has _ rfl
        refine ok_len hρ hs (x := x') (t := t) ?_ hx' (s := s) (a := x) ?_ he
        · rw [ho, hca, harr hl, harrt h2]
        · simpa only [cBuiltin] using hc
      · rename_i x y t u h2
        obtain ⟨x', y', hl, hx', hy'⟩ := hcs2 has _ _ rfl
        refine ok_app hρ hs (x := x') (y := y') (t := t) (u := u) ?_ hx' hy' (s := s) ?_ he
        · rw [ho, hca, harr hl, harrt h2]
        · simpa only [cBuiltin] using hc
      · rename_i x y
        cases hc
        obtain ⟨x', y', hl, hx', hy'⟩ := hcs2 has _ _ rfl
        refine ok_minmax hρ hs (mx := false) (x := x') (y := y') (ts := c.argTypes) ?_ hx' hy' he
        rw [ho, hca, harr hl]; rfl
      · rename_i x y
        cases hc
        obtain ⟨x', y', hl, hx', hy'⟩ := hcs2 has _ _ rfl
        refine ok_minmax hρ hs (mx := true) (x := x') (y := y') (ts := c.argTypes) ?_ hx' hy' he
        rw [ho, hca, harr hl]; rfl
      · cases hc
    · cases hc
  · cases hc

omit hρ hs in
theorem ba_extract (z : List UInt8) (l h : Nat) : (⟨z.toArray⟩ : ByteArray).extract l h = ⟨((z.drop l).take (h - l)).toArray⟩ := by
  have e : ((⟨z.toArray⟩ : ByteArray).extract l h).data = ((z.drop l).take (h - l)).toArray := by
    rw [ByteArray.data_extract]
    simp [List.extract_toArray, List.extract_eq_take_drop]
  cases hx : (⟨z.toArray⟩ : ByteArray).extract l h
  rw [hx] at e
  simp only at e
  rw [e]

omit hρ hs in
/-- A part of a frozen row. -/
theorem rep_cut {xs : List V} {v : Value} {l h sz : Nat} (hv : Rep S (.list xs) v) (hlh : l ≤ h) (hh : h ≤ xs.length) (hz : (xs.head?.all fun y => y.cells.length == sz) = true) :
    ∃ a cap, v = .slice a xs.length cap ∧ xs.length ≤ cap ∧ Rep S (.list ((xs.drop l).take (h - l))) (.slice (if cap = l then a else a.map (·.add (l * sz))) (h - l) (cap - l)) ∨ (∃ a cap, v = .slice a 0 cap ∧ xs = []) := by
  cases hv with
  | list0 a cap => exact ⟨none, 0, .inr ⟨a, cap, rfl, rfl⟩⟩
  | list b p cap sz' vs h1 h2 h3 h4 h5 =>
    refine ⟨some ⟨b, p, none⟩, cap, .inl ⟨rfl, h2, ?_⟩⟩
    by_cases he : h - l = 0
    · rw [he, List.take_zero]; exact .list0 _ _
    · have hne : xs ≠ [] := fun e => by subst e; simp at hh; omega
      have hz' : ∀ x ∈ xs, x.cells.length = sz := by
        cases xs with
        | nil => exact absurd rfl hne
        | cons y r =>
          simp at hz
          have := h1 y (by simp)
          intro x hx
          rw [h1 x hx]; omega
      have hcl : ¬ cap = l := by omega
      rw [if_neg hcl]
      simp only [Option.map_some, add_plain]
      have hlen : ((xs.drop l).take (h - l)).length = h - l := by simp; omega
      have hfl : flat ((xs.drop l).take (h - l)) = ((flat xs).drop (l * sz)).take ((h - l) * sz) := by
        have aux : ∀ (n : Nat) (ys : List V), (∀ y ∈ ys, y.cells.length = sz) → flat (ys.drop n) = (flat ys).drop (n * sz) ∧ flat (ys.take n) = (flat ys).take (n * sz) := by
          intro n
          induction n with
          | zero => intro ys _; simp [flat]
          | succ n ih =>
            intro ys hy
            cases ys with
            | nil => simp [flat]
            | cons y r =>
              have e : flat (y :: r) = y.cells ++ flat r := by simp [flat]
              have hyl := hy y (by simp)
              obtain ⟨i1, i2⟩ := ih r (fun a ha => hy a (by simp [ha]))
              have e2 : (n + 1) * sz = y.cells.length + n * sz := by rw [Nat.succ_mul, hyl, Nat.add_comm]
              refine ⟨by rw [List.drop_succ_cons, i1, e, e2, List.drop_length_add_append], ?_⟩
              have e3 : flat (y :: r.take n) = y.cells ++ flat (r.take n) := by simp [flat]
              rw [List.take_succ_cons, e3, i2, e, e2, List.take_length_add_append]
        rw [(aux (h - l) (xs.drop l) (fun a ha => hz' a (List.mem_of_mem_drop ha))).2, (aux l xs hz').1]
      have hpw : Pw (Rep S) (flat ((xs.drop l).take (h - l))) ((vs.drop (l * sz)).take ((h - l) * sz)) := by
        rw [hfl]; exact ((show Pw (Rep S) (flat xs) vs from ⟨h3, h5⟩).drop _).take _
      have := Rep.list (S := S) (xs := (xs.drop l).take (h - l)) b (p + l * sz) (cap - l) sz ((vs.drop (l * sz)).take ((h - l) * sz)) (fun x hx => hz' x (List.mem_of_mem_drop (List.mem_of_mem_take hx))) (by rw [hlen]; omega) hpw.1
        (fun j v hj => by
          rw [List.getElem?_take] at hj
          split at hj
          · rw [List.getElem?_drop] at hj
            rw [Nat.add_assoc]; exact h4 _ _ hj
          · cases hj) hpw.2
      rw [hlen] at this
      exact this

omit hρ in
theorem winOf_rel {sz : Nat} {sv : SV} {v : Value} {i o' n : Nat} (h : winOf os sz sv = some (i, o', n)) (hr : relS S σ sv v) : ∃ L, σ i = some L ∧ ∃ a c, v = .slice a n c ∧ n ≤ c ∧ (0 < n → a = some ⟨L.b, o' * sz, none⟩) := by
  unfold winOf at h
  split at h
  · rename_i j
    split at h
    · rename_i e sz' xs hob
      split at h
      · cases h
        obtain ⟨L, hL, hv⟩ := hr
        obtain ⟨⟨h1, h2, h3, vs, h4, h5⟩, _⟩ := hs.loc hob hL
        have hcap : L.len ≤ L.cap := by
          rcases h4.2 with ⟨hq, _⟩ | ⟨g, c, cur, hq, _, _, hc, _⟩
          · cases hq
          · cases hq; exact hc
        exact ⟨L, hL, _, _, by rw [hv, h2], by omega, fun _ => by rw [Nat.zero_mul]⟩
      · cases h
    · cases h
  · rename_i j sz' lo m
    split at h
    · rename_i hsz
      cases h
      obtain ⟨L, hL, a, c, hv, hq⟩ := hr
      exact ⟨L, hL, a, c, hv, by rw [← hsz]; exact hq⟩
    · cases h
  · cases h

theorem ok_slice {t : TypeId} {x : Operand} {lo hi : Option Operand} {mx : Option Operand} (ho : o.op = .slice t x lo hi mx) (hc : cOp P o.op = some s) (he : evOp mm call fr os s = some r) : OpDone P (execOp ρ o) w (Post os σ S w r) := by
  rw [ho] at hc
  cases mx with
  | some _ => simp [cOp] at hc
  | none =>
    simp only [cOp] at hc
    split at hc
    · rename_i y lo' hi' hy hlo hhi
      have hx := hρ x y hy
      unfold cSlice at hc
      split at hc
      · rename_i hu
        cases hc
        simp only [evOp] at he
        split at he
        · rename_i z hox
          split at he
          · rename_i l h hb
            cases he
            rw [hox] at hx
            have hx : Rep S (.str z) (ρ x) := hx
            generalize hxv : ρ x = xv at hx
            cases hx
            obtain ⟨hrun, h1, h2⟩ := run_bounds (P := P) (w := w) (isS := false) hρ hlo hhi hb (Nat.le_refl _)
            refine done_same hs ?_ (.str _)
            simp only [execOp, ho, hxv]
            refine run_v ?_
            have hsz : (⟨z.toArray⟩ : ByteArray).size = z.length := rfl
            simp only [Option.map_none, run_sliceAt_string w t _ _ _ _ hu, Instr.slice, Sem.run_bind, run_underlying hu, Result.andThen_ok, Option.isSome_none, Bool.false_eq_true, if_false, hsz]
            simp [hrun, ba_extract]
          · cases he
        · cases he
      · rename_i e hu
        split at hc
        · rename_i sz hsz
          cases hc
          have hsl : ∀ {a : Option Addr} {len cap l h : Nat}, ρ x = .slice a len cap → len ≤ cap → bounds fr lo' hi' len = some (l, h) →
              (execOp ρ o).run P w = .ok (.value (.slice (if cap = l then a else a.map (·.add (l * sz))) (h - l) (cap - l))) w ∧ l ≤ h ∧ h ≤ len := by
            intro a len cap l h hxv hlc hb
            obtain ⟨hrun, h1, h2⟩ := run_bounds (P := P) (w := w) (isS := true) hρ hlo hhi hb hlc
            refine ⟨?_, h1, h2⟩
            simp only [execOp, ho, hxv]
            refine run_v ?_
            simp only [Option.map_none, Instr.sliceAt, Instr.slice, Sem.run_bind, run_underlying hu, Result.andThen_ok, hrun, sizeT_run hsz]
            rfl
          simp only [evOp] at he
          split at he
          · rename_i i o n hwin
            split at he
            · rename_i l h hb
              cases he
              have hwin : winOf os sz (opd fr y) = some (i, o, n) := by
                split at hwin
                · exact hwin
                · cases hwin
              obtain ⟨L, hL, a, c, hxv, hnc, ha⟩ := winOf_rel hs hwin hx
              obtain ⟨h1, h2, h3⟩ := hsl hxv hnc hb
              refine done_same hs h1 ⟨L, hL, _, _, rfl, by omega, fun hpos => ?_⟩
              have ha := ha (by omega)
              subst ha
              have hcl : ¬ c = l := by omega
              rw [if_neg hcl]
              simp only [Option.map_some, add_plain]
              rw [Nat.add_mul]
            · cases he
          split at he
          · rename_i hox
            split at he
            · rename_i lh hb
              cases he
              rw [hox] at hx
              have hx : Rep S .nils (ρ x) := hx
              generalize hxv : ρ x = xv at hx
              cases hx
              obtain ⟨l, h⟩ := lh
              obtain ⟨h1, h2, h3⟩ := hsl hxv (Nat.le_refl _) hb
              have : l = 0 := by omega
              subst this
              have : h = 0 := by omega
              subst this
              exact done_same hs h1 .nils
            · cases he
          · rename_i sv hnn
            split at he
            · rename_i xs hxs
              split at he
              · rename_i l h hb
                split at he
                · rename_i v0 os1 hfz
                  split at he
                  · rename_i hhead
                    cases he
                    obtain ⟨S1, k1, k2, k3, k4⟩ := freezeS_ok hfz hs hx
                    rcases freeze_elems hxs hfz with rfl | ⟨rfl, rfl⟩
                    · generalize hxv : ρ x = xv at k2
                      cases k2 with
                      | list0 a cap =>
                        obtain ⟨h1, h2, h3⟩ := hsl hxv (Nat.zero_le _) hb
                        have : l = 0 := by simp at h3; omega
                        subst this
                        have : h = 0 := by simpa using h3
                        subst this
                        exact .inl ⟨_, w, h1, Post.after k3 k4 (Post.same k1 (.list0 _ _) rfl)⟩
                      | list b p cap sz' vs q1 q2 q3 q4 q5 =>
                        obtain ⟨h1, h2, h3⟩ := hsl hxv q2 hb
                        obtain ⟨a, cap', hh⟩ := rep_cut (S := S1) (sz := sz) (.list b p cap sz' vs q1 q2 q3 q4 q5) h2 h3 hhead
                        rcases hh with ⟨e1, _, e3⟩ | ⟨_, _, e1, e2⟩
                        · cases e1
                          exact .inl ⟨_, w, h1, Post.after k3 k4 (Post.same k1 e3 rfl)⟩
                        · subst e2
                          have : l = 0 := by simp at h3; omega
                          subst this
                          have : h = 0 := by simpa using h3
                          subst this
                          exact .inl ⟨_, w, h1, Post.after k3 k4 (Post.same k1 (.list0 _ _) rfl)⟩
                    · generalize hxv : ρ x = xv at k2
                      cases k2
                      obtain ⟨h1, h2, h3⟩ := hsl hxv (Nat.le_refl _) hb
                      have : l = 0 := by omega
                      subst this
                      have : h = 0 := by omega
                      subst this
                      exact .inl ⟨_, w, h1, Post.after k3 k4 (Post.same k1 (.list0 _ _) rfl)⟩
                  · cases he
                · cases he
              · cases he
            · cases he
        · cases hc
      · rename_i n e hu
        split at hc
        · rename_i sz g hsz hg
          cases hc
          have fin : ∀ {os1 : Objs} {S1 : Fz} {cs : List V} {l h : Nat}, HeapSim S1 σ os1 w → Rep S1 (.ptr cs) (ρ x) → Fr os.length os σ S w os1 σ S1 w → os1.length = os.length → cs.length = n * sz → sz = 1 → cs.all V.one = true → bounds fr lo' hi' n = some (l, h) →
              OpDone P (execOp ρ o) w (Post os σ S w ⟨.a (.v (.list ((cs.drop l).take (h - l)))), os1⟩) := by
            intro os1 S1 cs l h k1 k2 k3 k4 hcl hs1 hone hb
            subst hs1
            generalize hxv : ρ x = xv at k2
            cases k2 with
            | ptr b p vs q1 q2 q3 =>
              obtain ⟨hrun, h1, h2⟩ := run_bounds (P := P) (w := w) (isS := false) hρ hlo hhi hb (Nat.le_refl _)
              refine .inl ⟨.slice (some (if n = l then ⟨b, p, none⟩ else (⟨b, p, none⟩ : Addr).add (l * 1))) (h - l) (n - l), w, ?_, Post.after k3 k4 (Post.same k1 ?_ rfl)⟩
              · simp only [execOp, ho, hxv]
                refine run_v ?_
                simp only [Option.map_none, Instr.sliceAt, Instr.sureAddr, Sem.run_bind, Sem.run_pure, run_underlying hu, Result.andThen_ok, hrun, sizeT_run hsz]
              · by_cases he0 : h - l = 0
                · show Rep S1 (.list ((cs.drop l).take (h - l))) _
                  rw [he0, List.take_zero]; exact .list0 _ _
                · have hcl' : ¬ n = l := by omega
                  rw [if_neg hcl', add_plain, Nat.mul_one]
                  have hlen : ((cs.drop l).take (h - l)).length = h - l := by simp; omega
                  have hone' : ∀ c ∈ (cs.drop l).take (h - l), c.cells = [c] := fun c hc => by
                    have := List.all_eq_true.1 hone c (List.mem_of_mem_drop (List.mem_of_mem_take hc))
                    cases c <;> first | rfl | (simp [V.one] at this)
                  have hfl : flat ((cs.drop l).take (h - l)) = (cs.drop l).take (h - l) := by
                    have : ∀ (l : List V), (∀ c ∈ l, c.cells = [c]) → flat l = l := by
                      intro l
                      induction l with
                      | nil => intro _; rfl
                      | cons c l ih =>
                        intro hc
                        have e : flat (c :: l) = c.cells ++ flat l := by simp [flat]
                        rw [e, hc c (by simp), ih fun a ha => hc a (by simp [ha])]; rfl
                    exact this _ hone'
                  have hpw : Pw (Rep S1) (flat ((cs.drop l).take (h - l))) ((vs.drop l).take (h - l)) := by
                    rw [hfl]; exact ((show Pw (Rep S1) cs vs from ⟨q1, q3⟩).drop _).take _
                  have := Rep.list (S := S1) (xs := (cs.drop l).take (h - l)) b (p + l) (n - l) 1 ((vs.drop l).take (h - l)) (fun c hc => by rw [hone' c hc]; rfl) (by rw [hlen]; omega) hpw.1
                    (fun j v hj => by
                      rw [List.getElem?_take] at hj
                      split at hj
                      · rw [List.getElem?_drop] at hj
                        rw [Nat.add_assoc]; exact q2 _ _ hj
                      · cases hj) hpw.2
                  rw [hlen] at this
                  exact this
          simp only [evOp] at he
          split at he
          · rename_i i hox
            rw [hox] at hx
            split at he
            · rename_i cs os1 hfz
              obtain ⟨S1, k1, k2, k3, k4⟩ := freezeA_ok depth os _ _ _ S σ w _ hfz hs hx
              split at he
              · rename_i hcl
                split at he
                · rename_i l h hb
                  split at he
                  · rename_i hg2
                    cases he
                    exact fin k1 k2 k3 k4 hcl hg2.1 hg2.2 hb
                  · cases he
                · cases he
              · cases he
            · cases he
          · rename_i cs hox
            rw [hox] at hx
            split at he
            · rename_i hcl
              split at he
              · rename_i l h hb
                split at he
                · rename_i hg2
                  cases he
                  exact fin hs hx (.refl (Nat.le_refl _)) rfl hcl hg2.1 hg2.2 hb
                · cases he
              · cases he
            · cases he
          · cases he
        · cases hc
      · cases hc
    · cases hc

/-- All operations. -/
theorem ok_op (hG : S.g = G) (hcall : CallOK P G call) (he : evOp mm call fr os (cOpB P o.op) = some r) : OpDone P (execOp ρ o) w (Post os σ S w r) := by
  unfold cOpB at he
  cases hc : cOp P o.op with
  | none => rw [hc] at he; simp [evOp] at he
  | some s =>
    rw [hc] at he
    simp only [Option.getD_some] at he
    cases ho : o.op with
    | move x => exact ok_mv hρ hs (.inl ho) (by rw [ho] at hc; simpa only [cOp] using hc) he
    | assign x => exact ok_mv hρ hs (.inr ho) (by rw [ho] at hc; simpa only [cOp] using hc) he
    | pick a b c => exact ok_pick hρ hs ho hc he
    | alloc t => exact ok_alloc hs ho hc he
    | box t x => exact ok_box hρ hs ho hc he
    | build t ps => exact ok_build hρ hs ho hc he
    | buildSlice t n ps => exact ok_buildSlice hρ hs ho hc he
    | load t x => exact ok_ld hρ hs ho hc he
    | store t x v => exact ok_st hρ hs ho hc he
    | nilCheck x => exact ok_nchk hρ hs ho hc he
    | binOp op t x y u => exact ok_bin hρ hs ho hc he
    | unOp op t x => exact ok_un hρ hs ho hc he
    | convert a b x => exact ok_conv hρ hs ho hc he
    | sliceToArrayPointer t x => exact ok_s2a hρ hs ho hc he
    | makeInterface t x => exact ok_mkif hρ hs ho hc he
    | makeFunc f a b => exact ok_clo hρ hs ho hc he
    | makeMap t x => exact ok_mkmap hs ho hc he
    | makeSlice t a b => exact ok_mksl hρ hs ho hc he
    | slice t x lo hi mx => exact ok_slice hρ hs ho hc he
    | fieldAddr t x f => exact ok_fadr hρ hs ho hc he
    | field t x f => exact ok_fld hρ hs ho hc he
    | indexAddr t x i => exact ok_iadr hρ hs ho hc he
    | index t x i => exact ok_idx hρ hs ho hc he
    | lookup t x i ok => exact ok_look hρ hs ho hc he
    | mapUpdate t m k v => exact ok_mupd hρ hs (.inl ho) hc he
    | insert t m k v => exact ok_mupd hρ hs (.inr ho) hc he
    | mapEntry t m k => exact ok_ment hρ hs ho hc he
    | entryStore t m i v => exact ok_esto hρ hs ho hc he
    | range t x => exact ok_rng hρ hs ho hc he
    | next x b => exact ok_nxt hρ hs ho hc he
    | extract x i => exact ok_ext hρ hs ho hc he
    | call c => exact ok_call hρ hs hG hcall ho hc he
    | _ => rw [ho] at hc; simp [cOp] at hc

end
end Go.Ev
