/- Functions, calls. -/
import Derived.Test.YtmlhdhndjgdoaaaGreatDoorCuCode
namespace Go.Ev

section
variable {S : Fz} {σ σ' : Locs}

theorem relA_ids {x : At} {v : Value} (h : ∀ i ∈ x.ids, σ' i = σ i) (hr : relA S σ x v) : relA S σ' x v := by
  cases x with
  | v x => exact hr
  | fadr c o => exact hr
  | _ => obtain ⟨L, hL, hv⟩ := hr; exact ⟨L, (h _ (by simp [At.ids])).trans hL, hv⟩

theorem relL_ids {l : List At} {vs : List Value} (h : ∀ i ∈ l.flatMap At.ids, σ' i = σ i) (hp : Pw (relA S σ) l vs) : Pw (relA S σ') l vs :=
  ⟨hp.1, fun j a b ha hb => relA_ids (fun i hi => h i (List.mem_flatMap.2 ⟨a, List.mem_of_getElem? ha, hi⟩)) (hp.2 j a b ha hb)⟩

theorem relT_ids {x : T2} {v : Value} (h : ∀ i ∈ x.ids, σ' i = σ i) (hr : relT S σ x v) : relT S σ' x v := by
  cases x with
  | a x => exact relA_ids h hr
  | agg cs => obtain ⟨vs, hv, hp⟩ := hr; exact ⟨vs, hv, relL_ids h hp⟩

theorem relS_ids {x : SV} {v : Value} (h : ∀ i ∈ x.ids, σ' i = σ i) (hr : relS S σ x v) : relS S σ' x v := by
  cases x with
  | undef => trivial
  | a x => exact relA_ids h hr
  | agg cs => obtain ⟨vs, hv, hp⟩ := hr; exact ⟨vs, hv, relL_ids h hp⟩
  | tup cs =>
    obtain ⟨vs, hv, hp⟩ := hr
    exact ⟨vs, hv, hp.1, fun j a b ha hb => relT_ids (fun i hi => h i (List.mem_flatMap.2 ⟨a, List.mem_of_getElem? ha, hi⟩)) (hp.2 j a b ha hb)⟩
  | clo f a b =>
    obtain ⟨va, vb, hv, hp, hq⟩ := hr
    refine ⟨va, vb, hv, relL_ids (fun i hi => h i ?_) hp, relL_ids (fun i hi => h i ?_) hq⟩
    · simp only [SV.ids, List.flatMap_append, List.mem_append]; exact .inl hi
    · simp only [SV.ids, List.flatMap_append, List.mem_append]; exact .inr hi

theorem obj_ids {o : LObj} {L : Loc} {w : World} (h : ∀ i ∈ o.ids, σ' i = σ i) (ho : ObjSim S σ o L w) : ObjSim S σ' o L w := by
  cases o with
  | box ty cs => obtain ⟨c, h1, h2⟩ := ho; exact ⟨c, h1, relL_ids h h2⟩
  | map z es =>
    obtain ⟨hz, ents, h1, h2, h3, h4⟩ := ho
    refine ⟨hz, ents, h1, h2, h3, fun j k x e hj he => ⟨(h4 j k x e hj he).1, ?_⟩⟩
    cases z with
    | true => exact relT_frz (hz rfl _ (List.mem_of_getElem? hj)) (h4 j k x e hj he).2
    | false =>
      refine relT_ids (fun i hi => h i ?_) (h4 j k x e hj he).2
      simp only [LObj.ids, Bool.false_eq_true, if_false]
      exact List.mem_flatMap.2 ⟨(k, x), List.mem_of_getElem? hj, hi⟩
  | clos e cs =>
    obtain ⟨c, h1, h2, h3, h4⟩ := ho
    refine ⟨c, h1, h2, h3, h4.1, fun j a b ha hb => relS_ids (fun i hi => h i ?_) (h4.2 j a b ha hb)⟩
    exact List.mem_flatMap.2 ⟨a, List.mem_of_getElem? ha, hi⟩
  | ext e sz xs => exact ho
  | arr e sz xs => exact ho
  | iter s p => exact ho
  | bld b => exact ho
end

theorem obj_take {os : Objs} {n i : Nat} : obj (os.take n) i = if i < n then obj os i else none := by
  unfold obj
  rw [List.getElem?_take]
  by_cases h : i < n
  · rw [if_pos h, if_pos h]
  · rw [if_neg h, if_neg h]

theorem letGo_ok {S : Fz} {σ : Locs} {n0 : Nat} {r : R} {v : Value} {w : World} (hs : HeapSim S σ r.objs w) (hv : relS S σ r.sv v) (hn : n0 ≤ r.objs.length) :
    ∃ σ', HeapSim S σ' (letGo n0 r).objs w ∧ relS S σ' (letGo n0 r).sv v ∧ Fr n0 r.objs σ S w (letGo n0 r).objs σ' S w := by
  unfold letGo
  split
  · rename_i hall
    have hall' := List.all_eq_true.1 hall
    let σ' : Locs := fun i => if i < n0 then σ i else none
    have hlt : ∀ {i}, i < n0 → σ' i = σ i := fun {i} h => by simp [σ', h]
    have hsv : ∀ i ∈ r.sv.ids, σ' i = σ i := fun i hi => hlt (by simpa using hall' i (List.mem_append.2 (.inl hi)))
    have hob : ∀ {i : Nat} {o : LObj}, i < n0 → obj r.objs i = some o → ∀ k ∈ o.ids, σ' k = σ k := fun {i o} hi ho k hk => by
      refine hlt ?_
      have hm : (some o : Option LObj) ∈ r.objs.take n0 := by
        have : r.objs[i]? = some (some o) := by
          unfold obj at ho
          split at ho
          · rename_i o' h'; cases ho; exact h'
          · cases ho
        exact List.mem_of_getElem? (i := i) (by rw [List.getElem?_take, if_pos hi]; exact this)
      simpa using hall' k (List.mem_append.2 (.inr (List.mem_flatMap.2 ⟨some o, hm, hk⟩)))
    refine ⟨σ', ⟨hs.frz, fun i o ho => ?_, fun i j o o' L L' ho ho' hL hL' hb => ?_, fun i hi => ?_⟩, relS_ids hsv hv, ⟨.refl _, fun i hi => hlt hi, by simp; omega, fun i hi hd => ?_, Nat.le_refl _, rfl, rfl, rfl, fun _ _ _ => ⟨rfl, fun _ => rfl, rfl⟩, ?_⟩⟩
    · rw [obj_take] at ho
      split at ho
      · rename_i hi
        obtain ⟨L, h1, h2, h3⟩ := hs.ob i o ho
        exact ⟨L, (hlt hi).trans h1, obj_ids (hob hi ho) h2, h3⟩
      · cases ho
    · rw [obj_take] at ho ho'
      split at ho <;> split at ho'
      · rename_i hi hj
        rw [hlt hi] at hL
        rw [hlt hj] at hL'
        exact hs.inj i j o o' L L' ho ho' hL hL' hb
      all_goals first | (cases ho; done) | (cases ho'; done)
    · simp at hi
      simp only [σ']
      split
      · omega
      · rfl
    · rw [obj_take, if_pos hi]; exact hd
    · rintro b ⟨i, o, M, ho, hM, rfl⟩
      rw [obj_take] at ho
      split at ho
      · rename_i hi
        rw [hlt hi] at hM
        exact .inl ⟨i, o, M, ho, hM, rfl⟩
      · cases ho
  · exact ⟨σ, hs, hv, .refl hn⟩

section
variable {P : Program} {call : CallT} {F : Nat} {G : Globs}

theorem finish_ok {S : Fz} {σ : Locs} {n0 : Nat} {keep : Bool} {sv : SV} {os : Objs} {r : R} {v : Value} {w : World} (h : finish keep n0 sv os = some r) (hs : HeapSim S σ os w) (hv : relS S σ sv v) (hn : n0 ≤ os.length) :
    ∃ S' σ', HeapSim S' σ' r.objs w ∧ relS S' σ' r.sv v ∧ Fr n0 os σ S w r.objs σ' S' w := by
  unfold finish at h
  have go : ∀ {S1 : Fz} {sv1 : SV} {os1 : Objs}, HeapSim S1 σ os1 w → relS S1 σ sv1 v → Fr n0 os σ S w os1 σ S1 w → r = letGo n0 ⟨sv1, os1⟩ → ∃ S' σ', HeapSim S' σ' r.objs w ∧ relS S' σ' r.sv v ∧ Fr n0 os σ S w r.objs σ' S' w := by
    intro S1 sv1 os1 h1 h2 h3 hr
    subst hr
    obtain ⟨σ', k1, k2, k3⟩ := letGo_ok (r := ⟨sv1, os1⟩) h1 h2 h3.len
    exact ⟨S1, σ', k1, k2, h3.trans k3⟩
  split at h
  · cases h; exact go hs hv (.refl hn) rfl
  · split at h
    · rename_i x os1 hf
      cases h
      obtain ⟨S1, k1, k2, k3, k4⟩ := freezeS_ok hf hs hv
      exact go k1 (sv1 := .a (.v x)) k2 (k3.mono hn) rfl
    · cases h; exact go hs hv (.refl hn) rfl

theorem results_ok {S : Fz} {σ : Locs} {st : St} {a : Act} {w : World} (hs : Sim S σ st a w) : ∀ (rs : List ResultVar) (crs : List (Nat × Option (Nat × Bool))) (l : List T2), cResults P rs = some crs → results st crs = some l →
    ∃ vs, (rs.mapM fun
      | .tmp t => pure (a.tmps.getD t undef)
      | .cell x t => do loadVar t (← asAddr (a.tmps.getD x undef)) : Sem (List Value)).run P w = .ok vs w ∧ Pw (relT S σ) l vs := by
  intro rs
  induction rs with
  | nil =>
    intro crs l h1 h2
    simp only [cResults, Option.some.injEq] at h1
    subst h1
    simp only [results, Option.some.injEq] at h2
    subst h2
    exact ⟨[], rfl, Pw.nil⟩
  | cons r rs ih =>
    intro crs l h1 h2
    cases r with
    | tmp t =>
      simp only [cResults] at h1
      split at h1
      · rename_i cl hcl
        cases h1
        simp only [results] at h2
        split at h2
        · rename_i x l' hx hl'
          cases h2
          obtain ⟨vs, k1, k2⟩ := ih cl l' hcl hl'
          refine ⟨a.tmps.getD t undef :: vs, ?_, Pw.cons (rel_toT2 hx (hs.frame.rel t)) k2⟩
          simp only [List.mapM_cons, Sem.run_bind, Sem.run_pure, Result.andThen_ok, k1]
        · cases h2
      · cases h1
    | cell x t =>
      simp only [cResults] at h1
      split at h1
      · rename_i n g cl hn hg hcl
        cases h1
        simp only [results] at h2
        split at h2
        · rename_i sv hsv
          split at h2
          · rename_i y l' hy hl'
            cases h2
            obtain ⟨vs, k1, k2⟩ := ih cl l' hcl hl'
            obtain ⟨ad, v, q1, q2, q3⟩ := loadA_ok hs.heap (hs.frame.rel x) hg hn hsv
            refine ⟨v :: vs, ?_, Pw.cons (rel_toT2 hy q3) k2⟩
            have ha : (asAddr (a.tmps.getD x undef)).run P w = .ok ad w := by rw [q1]; rfl
            simp only [List.mapM_cons, Sem.run_bind, Sem.run_pure, Result.andThen_ok, k1, ha, q2]
          · cases h2
        · cases h2
      · cases h1

theorem rel_resSV {S : Fz} {σ : Locs} {l : List T2} {vs : List Value} (h : Pw (relT S σ) l vs) : relS S σ (resSV l) (if h : vs.toArray.size = 1 then vs.toArray[0] else .tuple vs.toArray) := by
  cases l with
  | nil =>
    have := h.nil_left
    subst this
    exact rel_mkTup (vs := []) Pw.nil
  | cons x l =>
    obtain ⟨v0, vr, rfl, h0, hr⟩ := h.cons_left
    cases l with
    | nil =>
      have := hr.nil_left
      subst this
      exact rel_T2sv h0
    | cons y l =>
      obtain ⟨v1, vr', rfl, h1, hr'⟩ := hr.cons_left
      have : ¬ (v0 :: v1 :: vr').toArray.size = 1 := by simp
      rw [dif_neg this]
      exact rel_mkTup h

theorem evFn_ok {f : FuncId} {fn : Func} {c : Code} {sfn : SFn} {args : List SV} {vals : List Value} {os : Objs} {r : R} {S : Fz} {σ : Locs} {w : World} (hG : S.g = G) (hreg : RegionOK P G sfn.mm call os.length) (hf : P.funcs[f]? = some fn) (hb : fn.body = some c) (hc : strip sfn.body = cCode P c)
    (hrs : cResults P fn.results.toList = some sfn.results) (hnt : sfn.ntmps = fn.ntmps) (he : evFn call F sfn args os = some r) (hs : HeapSim S σ os w) (hp : Pw (relS S σ) args vals) : Calls P f vals.toArray w fun e w' => ∃ v, e = .returned v ∧ Post os σ S w r v w' := by
  refine calls_of_wp hf hb ?_
  let a : Act := { tmps := vals.toArray ++ Array.replicate (fn.ntmps - vals.toArray.size) undef, defers := [] }
  let st : St := ⟨args ++ List.replicate (sfn.ntmps - args.length) .undef, os⟩
  have hsim : Sim S σ st a w := by
    refine ⟨hs, ⟨fun t => ?_, ?_, rfl⟩⟩
    · rw [nth_eq]
      show relS S σ ((args ++ List.replicate (sfn.ntmps - args.length) SV.undef).getD t SV.undef) ((vals.toArray ++ Array.replicate (fn.ntmps - vals.toArray.size) undef).getD t undef)
      rw [List.getD_eq_getElem?_getD, Array.getD_eq_getD_getElem?]
      rcases Nat.lt_or_ge t args.length with h | h
      · have hv : t < vals.length := by have := hp.1; omega
        rw [List.getElem?_append_left h, Array.getElem?_append_left (by simpa using hv)]
        have := hp.2 t _ _ (List.getElem?_eq_getElem h) (List.getElem?_eq_getElem hv)
        simp only [List.getElem?_eq_getElem h, List.getElem?_toArray, List.getElem?_eq_getElem hv, Option.getD_some]
        exact this
      · rw [List.getElem?_append_right h, List.getElem?_replicate]
        split <;> exact trivial
    · show (args ++ List.replicate (sfn.ntmps - args.length) SV.undef).length ≤ (vals.toArray ++ Array.replicate (fn.ntmps - vals.toArray.size) undef).size
      have := hp.1
      simp [hnt, this]
  unfold evFn at he
  have main : ∀ {x : X} {st' : St}, x.exit = .normal ∨ x.exit = .ret → evCode sfn.mm call F os.length sfn.body st = some (x, st') → (match results st' sfn.results with
      | some l => finish sfn.keep os.length (resSV l) st'.objs
      | none => none) = some r → c.wp P (bodyPost P fn fun e w' => ∃ v, e = .returned v ∧ Post os σ S w r v w') a w := by
    intro x st' hx hev hfin
    refine wp_mono (code_ok hreg c sfn.body st st' x S σ a w hc hev hG hsim (Nat.le_refl _)) fun e a' w' hq => ?_
    obtain ⟨rfl, hn, S1, σ1, h1, h2⟩ := hq
    split at hfin
    · rename_i l hl
      obtain ⟨vs, k1, k2⟩ := results_ok (P := P) h1 fn.results.toList sfn.results l hrs hl
      obtain ⟨S2, σ2, q1, q2, q3⟩ := finish_ok hfin h1.heap (rel_resSV k2) hn
      have hres : (Go.results fn a'.tmps).run P w' = .ok (if h : vs.toArray.size = 1 then vs.toArray[0] else .tuple vs.toArray) w' := by
        simp only [Go.results, Array.mapM_eq_mapM_toList, Sem.run_bind, Sem.run_map]
        erw [k1]
        rfl
      have hpost : Post os σ S w r (if h : vs.toArray.size = 1 then vs.toArray[0] else .tuple vs.toArray) w' := ⟨S2, σ2, q1, q2, h2.trans q3⟩
      rcases hx with hx | hx <;> rw [hx] <;> exact ⟨h1.frame.defers, _, hres, _, rfl, hpost⟩
    · cases hfin
  split at he
  · rename_i st' hev; exact main (.inl rfl) hev he
  · rename_i st' hev; exact main (.inr rfl) hev he
  · cases he

/-- What is told is so. -/
def ToldOK (P : Program) (G : Globs) (tab : Told) : Prop := ∀ f sp, tab f = some sp → CallOK P G fun g args os => if g = f then sp args os else none

def CodeOK (P : Program) (code : FuncId → Option SFn) : Prop := ∀ f sfn, code f = some sfn → ∃ fn keep mm, P.funcs[f]? = some fn ∧ (fn.name == "runtime.NumGoroutine") = false ∧ cFn P keep mm fn = some sfn

theorem callN_ok {tab : Told} {code : FuncId → Option SFn} (ht : ToldOK P G tab) (hc : CodeOK P code) (hreg : ∀ mm call n0, CallOK P G call → RegionOK P G mm call n0) : ∀ d, CallOK P G (callN tab code F d) := by
  have told : ∀ {f : FuncId} {sp : List SV → Objs → Option R} {args : List SV} {os : Objs} {r : R}, tab f = some sp → sp args os = some r → HasBody P f ∧ ∀ (S : Fz) (σ : Locs) (w : World) (vals : List Value), S.g = G → HeapSim S σ os w → Pw (relS S σ) args vals →
      Calls P f vals.toArray w fun e w' => ∃ v, e = .returned v ∧ Post os σ S w r v w' := fun {f sp args os r} h1 h2 => ht f sp h1 f args os r (by simpa using h2)
  intro d
  induction d with
  | zero =>
    intro f args os r h
    simp only [callN] at h
    split at h
    · rename_i sp hsp; exact told hsp h
    · cases h
  | succ d ih =>
    intro f args os r h
    simp only [callN] at h
    split at h
    · rename_i sp hsp; exact told hsp h
    · split at h
      · rename_i sfn hsfn
        obtain ⟨fn, keep, mm0, h1, h2, h3⟩ := hc f sfn hsfn
        unfold cFn at h3
        split at h3
        · rename_i c rs hb hrs
          simp only [Option.some.injEq] at h3
          refine ⟨⟨fn, h1, by rw [hb]; rfl, h2⟩, fun S σ w vals hG hs hp => ?_⟩
          subst h3
          exact evFn_ok hG (hreg _ _ _ ih) h1 hb (by simp only; rw [strip_annot, strip_cCode]) hrs rfl h hs hp
        · cases h3
      · cases h

theorem callM_ok {tab : CallT} {code : FuncId → Option SFn} (ht : CallOK P G tab) (hc : CodeOK P code) (hreg : ∀ mm call n0, CallOK P G call → RegionOK P G mm call n0) : ∀ d, CallOK P G (callM tab code F d) := by
  intro d
  induction d with
  | zero => exact ht
  | succ d ih =>
    intro f args os r h
    simp only [callM] at h
    split at h
    · rename_i r' hr
      cases h
      exact ht f args os r hr
    · split at h
      · rename_i sfn hsfn
        obtain ⟨fn, keep, mm0, h1, h2, h3⟩ := hc f sfn hsfn
        unfold cFn at h3
        split at h3
        · rename_i c rs hb hrs
          simp only [Option.some.injEq] at h3
          refine ⟨⟨fn, h1, by rw [hb]; rfl, h2⟩, fun S σ w vals hG hs hp => ?_⟩
          subst h3
          exact evFn_ok hG (hreg _ _ _ ih) h1 hb (by simp only; rw [strip_annot, strip_cCode]) hrs rfl h hs hp
        · cases h3
      · cases h
end
end Go.Ev
