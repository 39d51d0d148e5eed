/- The operations, tenth part: maps looked up, written. -/
import Derived.Test.YtmlhdhndjgdoaaaDoorCuOpsI
namespace Go.Ev

section
variable {P : Program} {o : Oper} {ρ : Operand → Value} {w : World} {S : Fz} {σ : Locs} {os : Objs} {fr : List SV} {mm : Bool} {call : CallT} {s : SOp} {r : R}

def setB (w : World) (b : Nat) (x : Obj) : World := { w with heap := w.heap.setIfInBounds b x }

theorem setB_other (w : World) (b : Nat) (x : Obj) : ∀ k, k ≠ b → (setB w b x).heap[k]? = w.heap[k]? := fun k hk => by simp [setB, Ne.symm hk]
theorem setB_self {w : World} {b : Nat} {x y : Obj} (h : w.heap[b]? = some y) : (setB w b x).heap[b]? = some x := by
  have hlt : b < w.heap.size := (Array.getElem?_eq_some_iff.1 h).1
  simp [setB, hlt]
theorem setB_size (w : World) (b : Nat) (x : Obj) : (setB w b x).heap.size = w.heap.size := by simp [setB]

theorem run_setMap {b : Nat} {es : Array MapEntry} {c : Nat} (x : Obj) (h : w.heap[b]? = some (.map es c)) : (setObj b x).run P w = .ok () (setB w b x) := MapKept.run_setObj_map x h

theorem mapRel_of {es : List (V × T2)} {ents : Array MapEntry} (h2 : es.length = ents.size) (h4 : ∀ (j : Nat) (k : V) (x : T2) (e : MapEntry), es[j]? = some (k, x) → ents[j]? = some e → Rep S k e.key ∧ relT S σ x e.val) : MapRel S σ es ents.toList :=
  ⟨by simpa using h2, fun j a e ha he => h4 j a.1 a.2 e ha (by simpa using he)⟩

/-- A map of the call's own is written. -/
theorem post_map {j : Nat} {L : Loc} {z z' : Bool} {es es' : List (V × T2)} {ents ents' : Array MapEntry} {sv : SV} {v : Value} (hs : HeapSim S σ os w) (hob : obj os j = some (.map z es)) (hL : σ j = some L) (h1 : w.heap[L.b]? = some (.map ents ents.size)) (hb : ∀ (i : Nat) (e : MapEntry), ents'[i]? = some e → e.born = i)
    (hr : MapRel S σ es' ents'.toList) (hv : relS S σ sv v) (hz : z' = true → ∀ e ∈ es', e.2.frz = true) : Post os σ S w ⟨sv, os.set j (some (.map z' es'))⟩ v (setB w L.b (.map ents' ents'.size)) := by
  refine post_put hs hob hL (setB_other w L.b _) (by rw [setB_size]; exact Nat.le_refl _) rfl rfl rfl (fun i => (hs.loc hob hL).2.cell i (Nat.zero_le _)) ?_ rfl hv
  refine ⟨hz, ents', setB_self h1, by simpa using hr.1, hb, fun i k x e he he' => ?_⟩
  exact hr.2 i (k, x) e he (by simpa using he')

theorem putE_frz' {kt : KT} {k : V} {y : T2} (hy : y.frz = true) : ∀ {es es' : List (V × T2)}, (∀ e ∈ es, e.2.frz = true) → putE kt k y es = some es' → ∀ e ∈ es', e.2.frz = true := by
  intro es
  induction es with
  | nil =>
    intro es' _ h e he
    simp only [putE, Option.some.injEq] at h
    subst h
    simp only [List.mem_singleton] at he
    subst he
    exact hy
  | cons a es ih =>
    intro es' hz h e he
    obtain ⟨k', x⟩ := a
    simp only [putE] at h
    split at h
    · cases h
      rcases List.mem_cons.1 he with rfl | he
      · exact hy
      · exact hz _ (List.mem_cons_of_mem _ he)
    · split at h
      · rename_i r hr
        cases h
        rcases List.mem_cons.1 he with rfl | he
        · exact hz _ (List.mem_cons_self ..)
        · exact ih (fun e he => hz e (List.mem_cons_of_mem _ he)) hr e he
      · cases h
    · cases h
theorem putE_frz {kt : KT} {k : V} {y : T2} {z : Bool} {es es' : List (V × T2)} (hz : z = true → ∀ e ∈ es, e.2.frz = true) (h : putE kt k y es = some es') : (z && y.frz) = true → ∀ e ∈ es', e.2.frz = true := fun hb => by
  rw [Bool.and_eq_true] at hb
  exact putE_frz' hb.2 (hz hb.1) h
theorem frz_snoc {k x : V} {es : List (V × T2)} (h : ∀ e ∈ es, e.2.frz = true) : ∀ e ∈ es ++ [(k, T2.a (.v x))], e.2.frz = true := fun e he => by
  rcases List.mem_append.1 he with he | he
  · exact h e he
  · simp only [List.mem_singleton] at he; subst he; rfl
theorem set_frz {z : Bool} {y : T2} {k : V} {n : Nat} {es : List (V × T2)} (hz : z = true → ∀ e ∈ es, e.2.frz = true) : (z && y.frz) = true → ∀ e ∈ es.set n (k, y), e.2.frz = true := fun hb e he => by
  rw [Bool.and_eq_true] at hb
  rcases List.mem_or_eq_of_mem_set he with he | rfl
  · exact hz hb.1 e he
  · exact hb.2

def lookRes (ok : Bool) (zv : Value) : Option (Nat × Value) → Value
  | some (_, v) => if ok then .tuple #[v, .bool true] else v
  | none => if ok then .tuple #[zv, .bool false] else zv

theorem run_look {t kty ety : TypeId} {xv kv zv : Value} {ok : Bool} {es : Array MapEntry} {q : Option (Nat × Value)} (hu : P.underlying t = some (.map kty ety)) (hx : (xv = .map none ∧ es = #[]) ∨ ∃ r c, xv = .map (some r) ∧ w.heap[r]? = some (.map es c))
    (h1 : (Instr.checkKey es.isEmpty 10000 kty kv).run P w = .ok () w) (h2 : (Instr.findKey kty kv es.toList).run P w = .ok q w) (hz : (zeroValue ety).run P w = .ok zv w) :
    (Instr.lookup t xv kv ok).run P w = .ok (lookRes ok zv q) w := by
  rcases hx with ⟨rfl, rfl⟩ | ⟨r, c, rfl, hb⟩
  · simp at h1 h2
    cases q <;> simp [Instr.lookup, run_underlying hu, h1, h2, hz, lookRes]
  · cases q <;> simp [Instr.lookup, run_underlying hu, MapKept.run_getObj_map hb, h1, h2, hz, lookRes]

theorem rel_optTup {ok b : Bool} {x : T2} {v : Value} (h : relT S σ x v) : relS S σ (optTup ok x b) (if ok then .tuple #[v, .bool b] else v) := by
  cases ok with
  | true => exact rel_mkTup (vs := [v, .bool b]) (Pw.cons h (Pw.cons (Rep.bool b) Pw.nil))
  | false => exact rel_T2sv h

variable (hρ : ∀ x y, cOpd x = some y → relS S σ (opd fr y) (ρ x)) (hs : HeapSim S σ os w)
include hρ hs

theorem ok_look {t : TypeId} {x i : Operand} {ok : Bool} (ho : o.op = .lookup t x i ok) (hc : cOp P o.op = some s) (he : evOp mm call fr os s = some r) : OpDone P (execOp ρ o) w (Post os σ S w r) := by
  rw [ho] at hc
  simp only [cOp] at hc
  split at hc
  · rename_i kty ety hu
    split at hc
    · rename_i kt z hkt hz
      obtain ⟨a, b, ha, hb, hf⟩ := un2_some hc
      cases hf
      obtain ⟨zv, ii, hi, hzv, hzrun, hzr⟩ := zeroOf_run hz
      obtain ⟨kd, hkd⟩ := keyT_under hkt
      simp only [evOp] at he
      split at he
      · cases he
      · rename_i k os1 hfz
        obtain ⟨S1, k1, k2, k3, k4⟩ := freezeS_ok hfz hs (hρ i b hb)
        split at he
        · cases he
        · rename_i hkc
          rw [Bool.not_eq_true] at hkc
          have hx := relS.mono k3.le (.refl _) (hρ x a ha)
          have fin : ∀ {sv : SV} {v : Value}, (Instr.lookup t (ρ x) (ρ i) ok).run P w = .ok v w → relS S1 σ sv v → OpDone P (execOp ρ o) w (Post os σ S w ⟨sv, os1⟩) := fun {sv v} hr hv => by
            refine .inl ⟨v, w, by simp only [execOp, ho]; exact run_v hr, Post.after k3 k4 (Post.same k1 hv rfl)⟩
          have hnone : ∀ {xv : Value} {es : Array MapEntry}, ρ x = xv → ((xv = .map none ∧ es = #[]) ∨ ∃ r c, xv = .map (some r) ∧ w.heap[r]? = some (.map es c)) →
              ∀ {xs : List V} {q : Option (Nat × Value)}, Pw (fun x (e : MapEntry) => Rep S1 x e.key) xs es.toList → findR kt k xs es.toList 0 = some q → (Instr.lookup t (ρ x) (ρ i) ok).run P w = .ok (lookRes ok zv q) w := by
            intro xv es hxv hx xs q hp hq
            rw [hxv]
            exact run_look hu hx (run_checkKey_flat es.isEmpty hkt k2 hkc) (findKey_R hkd hkt k2 hp hq) (hzrun w)
          split at he
          · -- nil
            rename_i hox
            cases he
            rw [hox] at hx
            have hx : Rep S1 .nilm (ρ x) := hx
            generalize hxv : ρ x = xv at hx
            cases hx
            have := hnone (es := #[]) hxv (.inl ⟨rfl, rfl⟩) (xs := []) (q := none) ⟨rfl, fun j a b h => by simp at h⟩ rfl
            exact fin this (rel_optTup (hzr S1))
          · rename_i es hox
            rw [hox] at hx
            have hx : Rep S1 (.map es) (ρ x) := hx
            generalize hxv : ρ x = xv at hx
            cases hx with
            | map rr ents ks xs hm hl hent hks hxs =>
              obtain ⟨c, hbk⟩ := k1.frz.mp _ _ hm
              have hp : Pw (fun x (e : MapEntry) => Rep S1 x e.key) ((List.range es.length).map ks) ents.toList := by
                refine ⟨by simp [hl], fun j x e hx he => ?_⟩
                rw [List.getElem?_map] at hx
                obtain ⟨j', hj', rfl⟩ := Option.map_eq_some_iff.1 hx
                have : j' = j := by
                  rcases Nat.lt_or_ge j es.length with h | h
                  · rw [List.getElem?_range h] at hj'; cases hj'; rfl
                  · rw [List.getElem?_eq_none (by simpa using h)] at hj'; cases hj'
                subst this
                exact hks j' e (by simpa using he)
              have hrun := (Or.inr ⟨rr, c, rfl, hbk⟩ : (Value.map (some rr) = .map none ∧ ents = #[]) ∨ ∃ r c, Value.map (some rr) = .map (some r) ∧ w.heap[r]? = some (.map ents c))
              split at he
              · rename_i y hfv
                cases he
                rcases findV_R es ents.toList ks xs 0 _ (by simpa using hl) hent hfv with ⟨h1, h2⟩ | ⟨j, e, h1, h2, h3, h4⟩
                · cases h1
                · cases h3
                  refine fin (hnone hxv hrun hp h4) ?_
                  exact rel_optTup (hxs j e (by simpa using h2))
              · rename_i hfv
                cases he
                rcases findV_R es ents.toList ks xs 0 _ (by simpa using hl) hent hfv with ⟨h1, h2⟩ | ⟨j, e, h1, h2, h3, h4⟩
                · exact fin (hnone hxv hrun hp h2) (rel_optTup (hzr S1))
                · cases h3
              · cases he
          · rename_i j hox
            rw [hox] at hx
            obtain ⟨L, hL, hxv⟩ := hx
            split at he
            · rename_i z es hob
              obtain ⟨⟨hz, ents, h1, h2, h3, h4⟩, _⟩ := k1.loc hob hL
              have hmr := mapRel_of h2 h4
              have hrun := (Or.inr ⟨L.b, _, rfl, h1⟩ : (Value.map (some L.b) = .map none ∧ ents = #[]) ∨ ∃ r c, Value.map (some L.b) = .map (some r) ∧ w.heap[r]? = some (.map ents c))
              split at he
              · rename_i y hfv
                cases he
                rcases findE_R es ents.toList 0 _ (by simpa using h2) hfv with ⟨q1, q2⟩ | ⟨j', e, a', q1, q2, q3, q4⟩
                · cases q1
                · cases q3
                  exact fin (hnone hxv hrun hmr.keys q4) (rel_optTup (hmr.2 j' a' e q1 q2).2)
              · rename_i hfv
                cases he
                rcases findE_R es ents.toList 0 _ (by simpa using h2) hfv with ⟨q1, q2⟩ | ⟨j', e, a', q1, q2, q3, q4⟩
                · exact fin (hnone hxv hrun hmr.keys q2) (rel_optTup (hzr S1))
                · cases q3
              · cases he
            · cases he
          · cases he
    · cases hc
  · cases hc
theorem ok_mupd {t : TypeId} {x i v : Operand} (ho : o.op = .mapUpdate t x i v ∨ o.op = .insert t x i v) (hc : cOp P o.op = some s) (he : evOp mm call fr os s = some r) : OpDone P (execOp ρ o) w (Post os σ S w r) := by
  have hc : cOp P (.mapUpdate t x i v) = some s := by rcases ho with h | h <;> (rw [h] at hc; exact hc)
  have hex : ∀ {w1 : World}, (Instr.mapUpdate t (ρ x) (ρ i) (ρ v)).run P w = .ok () w1 → (execOp ρ o).run P w = .ok .skip w1 := fun {w1} h => by
    rcases ho with ho | ho <;> simp only [execOp, ho] <;> simp [h]
  simp only [cOp] at hc
  split at hc
  · rename_i kty ety hu
    split at hc
    · rename_i kt hkt
      split at hc
      · rename_i a b c ha hb hcv
        cases hc
        obtain ⟨kd, hkd⟩ := keyT_under hkt
        simp only [evOp] at he
        split at he
        · cases he
        · rename_i k os1 hfz
          obtain ⟨S1, k1, k2, k3, k4⟩ := freezeS_ok hfz hs (hρ i b hb)
          split at he
          · cases he
          · rename_i hkc
            rw [Bool.not_eq_true] at hkc
            have hx := relS.mono k3.le (.refl _) (hρ x a ha)
            have hv := relS.mono k3.le (.refl _) (hρ v c hcv)
            split at he
            · rename_i j y hox hyt
              rw [hox] at hx
              obtain ⟨L, hL, hxv⟩ := hx
              have hy := rel_toT2 hyt hv
              split at he
              · rename_i z es hob
                split at he
                · split at he
                  · rename_i es' hput
                    cases he
                    obtain ⟨⟨hz, ents, h1, h2, h3, h4⟩, _⟩ := k1.loc hob hL
                    have hmr := mapRel_of h2 h4
                    have hck := run_checkKey_flat (w := w) (P := P) false hkt k2 hkc
                    have hvoid : relS S1 σ .void undef := Rep.mk_tup (vs := []) Pw.nil
                    rcases putE_R es ents.toList 0 es' (by simpa using h2) hput with ⟨q1, q2⟩ | ⟨j', e, q1, q2, q3, q4⟩
                    · have hfk := findKey_R (w := w) (P := P) hkd hkt k2 hmr.keys q2
                      let ents' := ents.push { key := ρ i, val := ρ v, born := ents.size }
                      have hrun : (Instr.mapUpdate t (ρ x) (ρ i) (ρ v)).run P w = .ok () (setB w L.b (.map ents' ents'.size)) := by
                        rw [hxv]
                        simp [Instr.mapUpdate, run_underlying hu, MapKept.run_getObj_map h1, hck, hfk, run_setMap _ h1, ents']
                      refine .inr (.inl ⟨_, hex hrun, Post.after k3 k4 (post_map k1 hob hL h1 ?_ ?_ hvoid (putE_frz hz hput))⟩)
                      · intro n e hn
                        simp only [ents', Array.getElem?_push] at hn
                        split at hn
                        · rename_i hh; cases hn; exact hh.symm
                        · exact h3 n e hn
                      · rw [q1]
                        have : ents'.toList = ents.toList ++ [{ key := ρ i, val := ρ v, born := ents.size }] := by simp [ents']
                        rw [this]
                        exact Pw.append hmr (Pw.cons ⟨k2, hy⟩ Pw.nil)
                    · obtain ⟨_, e0, x0, p1, p2, p3, p4⟩ := findR_pos _ _ _ _ _ q4
                      have hfk := findKey_R (w := w) (P := P) hkd hkt k2 hmr.keys q4
                      simp only [Nat.zero_add, Nat.sub_zero] at p1 p2 hfk
                      have hkeys := hmr.keys
                      have hr0 := hkeys.2 j' x0 e0 p2 p1
                      obtain ⟨u1, u2, u3⟩ := key_unique p4 k2 hr0
                      have hkts : (Instr.keyThatStays (((ents[j']?).map (·.key)).getD (ρ i)) (ρ i)).run P w = .ok (ρ i) w := by
                        have : ents[j']? = some e0 := by simpa using p1
                        rw [this]
                        simp only [Option.map_some, Option.getD_some, ← u2]
                        rw [← u2] at u3
                        simp [Instr.keyThatStays, u3]
                      let ents' := ents.modify j' fun e => { e with key := ρ i, val := ρ v }
                      have hsz : ents'.size = ents.size := by simp [ents']
                      have hrun : (Instr.mapUpdate t (ρ x) (ρ i) (ρ v)).run P w = .ok () (setB w L.b (.map ents' ents'.size)) := by
                        rw [hxv, hsz]
                        simp [Instr.mapUpdate, run_underlying hu, MapKept.run_getObj_map h1, hck, hfk, hkts, run_setMap _ h1, ents']
                      refine .inr (.inl ⟨_, hex hrun, Post.after k3 k4 (post_map k1 hob hL h1 ?_ ?_ hvoid (putE_frz hz hput))⟩)
                      · intro n e hn
                        simp only [ents', Array.getElem?_modify] at hn
                        split at hn
                        · obtain ⟨e1, he1, rfl⟩ := Option.map_eq_some_iff.1 hn
                          exact h3 n e1 he1
                        · exact h3 n e hn
                      · rw [q3]
                        have : ents'.toList = ents.toList.set j' { e0 with key := ρ i, val := ρ v } := by
                          apply List.ext_getElem?
                          intro n
                          rw [Array.getElem?_toList, List.getElem?_set]
                          simp only [ents', Array.getElem?_modify]
                          have p1' : ents[j']? = some e0 := by simpa using p1
                          by_cases hn : j' = n
                          · subst hn
                            rw [if_pos rfl, if_pos rfl, p1', if_pos (by simpa using (Array.getElem?_eq_some_iff.1 p1').1)]
                            rfl
                          · rw [if_neg hn, if_neg hn]; simp
                        rw [this]
                        exact Pw.set hmr j' ⟨k2, hy⟩
                  · cases he
                · cases he
              · cases he
            · cases he
      · cases hc
    · cases hc
  · cases hc

theorem ok_ment {t : TypeId} {x i : Operand} (ho : o.op = .mapEntry t x i) (hc : cOp P o.op = some s) (he : evOp mm call fr os s = some r) : OpDone P (execOp ρ o) w (Post os σ S w r) := by
  rw [ho] at hc
  simp only [cOp] at hc
  split at hc
  · rename_i kty ety hu
    split at hc
    · rename_i kt z hkt hz
      obtain ⟨a, b, ha, hb, hf⟩ := un2_some hc
      cases hf
      obtain ⟨zv, ii, hi, hzv, hzrun, hzr⟩ := zeroOf_run hz
      obtain ⟨kd, hkd⟩ := keyT_under hkt
      simp only [evOp] at he
      split at he
      · cases he
      · rename_i k os1 hfz
        obtain ⟨S1, k1, k2, k3, k4⟩ := freezeS_ok hfz hs (hρ i b hb)
        split at he
        · cases he
        · rename_i hkc
          rw [Bool.not_eq_true] at hkc
          have hx := relS.mono k3.le (.refl _) (hρ x a ha)
          split at he
          · rename_i j hox
            rw [hox] at hx
            obtain ⟨L, hL, hxv⟩ := hx
            split at he
            · rename_i z es hob
              obtain ⟨⟨hz, ents, h1, h2, h3, h4⟩, _⟩ := k1.loc hob hL
              have hmr := mapRel_of h2 h4
              have hck := run_checkKey_flat (w := w) (P := P) false hkt k2 hkc
              have hkeys := hmr.keys
              split at he
              · rename_i n y hka
                cases he
                rcases keyAt_R es ents.toList 0 _ (by simpa using h2) hka with ⟨q1, q2⟩ | ⟨j', e, a', q1, q2, q3, q4⟩
                · cases q1
                · simp only [Nat.zero_add] at q3
                  cases q3
                  obtain ⟨_, e0, x0, p1, p2, p3, p4⟩ := findR_pos _ _ _ _ _ q4
                  have hfk := findKey_R (w := w) (P := P) hkd hkt k2 hmr.keys q4
                  simp only [Nat.zero_add, Nat.sub_zero] at p1 p2 hfk
                  have hr0 := hkeys.2 n x0 e0 p2 p1
                  obtain ⟨u1, u2, u3⟩ := key_unique p4 k2 hr0
                  have hee : e = e0 := by rw [q2] at p1; exact Option.some.inj p1
                  subst hee
                  have p1' : ents[n]? = some e := by simpa using p1
                  have hkts : (Instr.keyThatStays e.key (ρ i)).run P w = .ok (ρ i) w := by
                    rw [← u2] at u3 ⊢
                    simp [Instr.keyThatStays, u3]
                  have hmod : (ents.modify n fun e => { e with key := ρ i }) = ents := by
                    apply Array.ext_getElem?
                    intro m
                    rw [Array.getElem?_modify]
                    split
                    · rename_i hm
                      subst hm
                      rw [p1']
                      simp only [Option.map_some, u2]
                    · rfl
                  have hset : setB w L.b (.map ents ents.size) = w := by
                    unfold setB
                    have hlt : L.b < w.heap.size := (Array.getElem?_eq_some_iff.1 h1).1
                    have : w.heap.setIfInBounds L.b (.map ents ents.size) = w.heap := by
                      apply Array.ext_getElem?
                      intro m
                      by_cases hm : L.b = m
                      · subst hm; simp [hlt]; exact (Array.getElem?_eq_some_iff.1 h1).2.symm
                      · simp [hm]
                    rw [this]
                  have hrun : (Instr.mapEntry t (ρ x) (ρ i)).run P w = .ok (.tuple #[e.val, goInt n]) w := by
                    rw [hxv]
                    have hb0 : e.born = n := h3 n e p1'
                    have hs2 := run_setMap (P := P) (.map ents ents.size) h1
                    rw [hset] at hs2
                    simp [Instr.mapEntry, run_underlying hu, MapKept.run_getObj_map h1, hck, hfk, hkts, hmod, hs2, p1', hb0]
                  refine .inl ⟨_, w, by simp only [execOp, ho]; exact run_v hrun, Post.after k3 k4 (Post.same k1 ?_ rfl)⟩
                  exact rel_mkTup (vs := [e.val, goInt n]) (Pw.cons (hmr.2 n a' e q1 q2).2 (Pw.cons (Rep.int _ _) Pw.nil))
              · rename_i hka
                split at he
                · cases he
                  rcases keyAt_R es ents.toList 0 _ (by simpa using h2) hka with ⟨q1, q2⟩ | ⟨j', e, a', q1, q2, q3, q4⟩
                  · have hfk := findKey_R (w := w) (P := P) hkd hkt k2 hmr.keys q2
                    let ents' := ents.push { key := ρ i, val := zv, born := ents.size }
                    have hrun : (Instr.mapEntry t (ρ x) (ρ i)).run P w = .ok (.tuple #[zv, goInt ents.size]) (setB w L.b (.map ents' ents'.size)) := by
                      rw [hxv]
                      simp [Instr.mapEntry, run_underlying hu, MapKept.run_getObj_map h1, hck, hfk, hzrun, run_setMap _ h1, ents']
                    refine .inl ⟨_, _, by simp only [execOp, ho]; exact run_v hrun, Post.after k3 k4 (post_map k1 hob hL h1 ?_ ?_ ?_ fun h => frz_snoc (hz h))⟩
                    · intro n e hn
                      simp only [ents', Array.getElem?_push] at hn
                      split at hn
                      · rename_i hh; cases hn; exact hh.symm
                      · exact h3 n e hn
                    · have : ents'.toList = ents.toList ++ [{ key := ρ i, val := zv, born := ents.size }] := by simp [ents']
                      rw [this]
                      exact Pw.append hmr (Pw.cons ⟨k2, hzr S1⟩ Pw.nil)
                    · rw [h2]
                      exact rel_mkTup (vs := [zv, goInt ents.size]) (Pw.cons (hzr S1) (Pw.cons (Rep.int _ _) Pw.nil))
                  · cases q3
                · cases he
              · cases he
            · cases he
          · cases he
    · cases hc
  · cases hc

theorem ok_esto {t : TypeId} {x i v : Operand} (ho : o.op = .entryStore t x i v) (hc : cOp P o.op = some s) (he : evOp mm call fr os s = some r) : OpDone P (execOp ρ o) w (Post os σ S w r) := by
  rw [ho] at hc
  simp only [cOp] at hc
  split at hc
  · rename_i a b c ha hb hcv
    cases hc
    have hx := hρ x a ha
    have hv := hρ v c hcv
    simp only [evOp] at he
    split at he
    · rename_i j n y hox hn hyt
      rw [hox] at hx
      obtain ⟨L, hL, hxv⟩ := hx
      have hy := rel_toT2 hyt hv
      obtain ⟨ik, hiv⟩ := asInt_rel (hρ i b hb) hn
      split at he
      · cases he
      · rename_i h0
        split at he
        · rename_i z es hob
          split at he
          · rename_i k0 y0 hes
            cases he
            obtain ⟨⟨hz, ents, h1, h2, h3, h4⟩, _⟩ := hs.loc hob hL
            have hmr := mapRel_of h2 h4
            have hlt : n.toNat < ents.size := by
              rcases Nat.lt_or_ge n.toNat es.length with h | h
              · omega
              · rw [List.getElem?_eq_none h] at hes; cases hes
            have hfi : ents.findIdx? (fun e => (e.born : Int) == n) = some n.toNat := by
              rw [Array.findIdx?_eq_some_iff_getElem]
              refine ⟨hlt, ?_, fun j' hj' => ?_⟩
              · have := h3 n.toNat ents[n.toNat] (Array.getElem?_eq_getElem hlt)
                simp [this]; omega
              · have := h3 j' ents[j'] (Array.getElem?_eq_getElem (by omega))
                simp [this]; omega
            let ents' := ents.modify n.toNat fun e => { e with val := ρ v }
            have hsz : ents'.size = ents.size := by simp [ents']
            have hrun : (Instr.entryStore t (ρ x) (ρ i) (ρ v)).run P w = .ok () (setB w L.b (.map ents' ents'.size)) := by
              rw [hxv, hiv, hsz]
              simp [Instr.entryStore, MapKept.run_getObj_map h1, Go.asInt, Go.asIntOf, hfi, run_setMap _ h1, ents']
            refine .inr (.inl ⟨setB w L.b (.map ents' ents'.size), by simp only [execOp, ho]; simp [hrun], post_map (ents' := ents') hs hob hL h1 ?_ ?_ (Rep.mk_tup (vs := []) Pw.nil) (set_frz hz)⟩)
            · intro m e hm
              simp only [ents', Array.getElem?_modify] at hm
              split at hm
              · obtain ⟨e1, he1, rfl⟩ := Option.map_eq_some_iff.1 hm
                exact h3 m e1 he1
              · exact h3 m e hm
            · have e0 := hmr.2 n.toNat (k0, y0) ents[n.toNat] hes (by simp)
              have : ents'.toList = ents.toList.set n.toNat { ents[n.toNat] with val := ρ v } := by
                apply List.ext_getElem?
                intro m
                rw [Array.getElem?_toList, List.getElem?_set]
                simp only [ents', Array.getElem?_modify]
                by_cases hm : n.toNat = m
                · subst hm
                  rw [if_pos rfl, if_pos rfl, Array.getElem?_eq_getElem hlt, if_pos (by simpa using hlt)]
                  rfl
                · rw [if_neg hm, if_neg hm]; simp
              rw [this]
              exact Pw.set hmr n.toNat ⟨e0.1, hy⟩
          · cases he
        · cases he
    · cases he
  · cases hc

end
end Go.Ev
