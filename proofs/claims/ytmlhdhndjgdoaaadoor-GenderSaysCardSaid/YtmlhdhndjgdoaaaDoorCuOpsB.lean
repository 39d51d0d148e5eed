/- The operations, second part: places, fields, elements, cuts. -/
import Derived.Test.YtmlhdhndjgdoaaaDoorCuOpsA
import Derived.Laws.Slices
namespace Go.Ev

theorem run_v {P : Program} {s : Sem Value} {w w' : World} {v : Value} (h : s.run P w = .ok v w') : (do pure (Next.value (← s)) : Sem Next).run P w = .ok (.value v) w' := by
  simp [h]

theorem relS.agg? {S : Fz} {σ : Locs} {x : SV} {cs : List At} {v : Value} (h : relS S σ x v) (hc : x.agg? = some cs) : ∃ vs, v = .agg vs.toArray ∧ Pw (relA S σ) cs vs := by
  cases x with
  | agg ds => simp [SV.agg?] at hc; subst hc; exact h
  | a y =>
    cases y with
    | v z =>
      cases z <;> simp [SV.agg?] at hc
      subst hc
      have h : Rep S (.agg _) v := h
      obtain ⟨vs, rfl, hp⟩ := h.of_agg
      exact ⟨vs, rfl, relAs_v hp⟩
    | _ => simp [SV.agg?] at hc
  | _ => simp [SV.agg?] at hc

theorem asInt_rel {S : Fz} {σ : Locs} {x : SV} {n : Int} {v : Value} (h : relS S σ x v) (hn : asInt x = some n) : ∃ k, v = .int k n := by
  unfold asInt at hn
  split at hn
  · cases hn
    have h : Rep S (.int _ n) v := h
    cases h
    exact ⟨_, rfl⟩
  · cases hn

section
variable {P : Program} {o : Oper} {ρ : Operand → Value} {w : World} {S : Fz} {σ : Locs} {os : Objs} {fr : List SV} {mm : Bool} {call : CallT} {s : SOp} {r : R}
variable (hρ : ∀ x y, cOpd x = some y → relS S σ (opd fr y) (ρ x)) (hs : HeapSim S σ os w)
include hρ hs

theorem ok_ld {t : TypeId} {x : Operand} (ho : o.op = .load t x) (hc : cOp P o.op = some s) (he : evOp mm call fr os s = some r) : OpDone P (execOp ρ o) w (Post os σ S w r) := by
  rw [ho] at hc
  simp only [cOp] at hc
  split at hc
  · rename_i g n hg hn
    obtain ⟨y, hy, hf⟩ := un1_some hc
    cases hf
    simp only [evOp] at he
    split at he
    · rename_i sv hl
      cases he
      obtain ⟨a, v, h1, h2, h3⟩ := loadA_ok hs (hρ x y hy) hg hn hl
      refine done_same hs ?_ h3
      simp only [execOp, ho, h1]
      exact run_v (by simpa [Instr.loadAt, Instr.sureAddr] using h2)
    · cases he
  · cases hc

theorem ok_nchk {x : Operand} (ho : o.op = .nilCheck x) (hc : cOp P o.op = some s) (he : evOp mm call fr os s = some r) : OpDone P (execOp ρ o) w (Post os σ S w r) := by
  rw [ho] at hc
  obtain ⟨y, hy, hf⟩ := un1_some hc
  cases hf
  have h := hρ x y hy
  simp only [evOp] at he
  split at he
  · cases he
  · cases he
  · cases he
  · cases he
  · rename_i c hx
    cases he
    rw [hx] at h
    have h' : Rep S (.ptr c) (ρ x) := h
    refine done_same (v := ρ x) hs ?_ h
    generalize hv : ρ x = v at h'
    cases h'
    simp only [execOp, ho, hv]
    rfl
  · rename_i i p hx
    cases he
    rw [hx] at h
    refine done_same (v := ρ x) hs ?_ h
    obtain ⟨L, _, hv⟩ := h
    simp only [execOp, ho, hv]
    rfl
  · rename_i i z k p hx
    cases he
    rw [hx] at h
    refine done_same (v := ρ x) hs ?_ h
    obtain ⟨L, _, hv⟩ := h
    simp only [execOp, ho, hv]
    rfl
  · rename_i c p hx
    cases he
    rw [hx] at h
    refine done_same (v := ρ x) hs ?_ h
    obtain ⟨_, _, _, _, _, hv⟩ := h
    simp only [execOp, ho, hv]
    rfl
  · rename_i f a b hx
    cases he
    rw [hx] at h
    refine done_same (v := ρ x) hs ?_ h
    obtain ⟨_, _, hv, _⟩ := h
    simp only [execOp, ho, hv]
    rfl
  · cases he

omit hρ hs in
theorem run_fieldAt {t : TypeId} {fs : Array Field} {f n : Nat} {fd : Field} {b q : Nat} (hu : P.underlying t = some (.struct fs)) (hf : fs[f]? = some fd) (hn : sizeT P fd.type = some n) (hz : n ≠ 0) :
    (Instr.fieldAt t (.pointer (some ⟨b, q, none⟩)) f).run P w = .ok (.pointer (some ⟨b, q + fd.offset, none⟩)) w := by
  simp [Instr.fieldAt, run_underlying hu, hf, Instr.sureAddr, fieldPlace, sizeT_run hn, hz, add_plain]

theorem ok_fadr {t : TypeId} {x : Operand} {f : Nat} (ho : o.op = .fieldAddr t x f) (hc : cOp P o.op = some s) (he : evOp mm call fr os s = some r) : OpDone P (execOp ρ o) w (Post os σ S w r) := by
  rw [ho] at hc
  obtain ⟨y, hy, hf⟩ := un1_some hc
  unfold cFieldAddr at hf
  split at hf
  · rename_i fs hu
    split at hf
    · rename_i fd hfd
      split at hf
      · rename_i n hn
        split at hf
        · cases hf
        · rename_i hz
          cases hf
          have h := hρ x y hy
          have fin : ∀ {b q : Nat} {sv : SV}, ρ x = .pointer (some ⟨b, q, none⟩) → relS S σ sv (.pointer (some ⟨b, q + fd.offset, none⟩)) → OpDone P (execOp ρ o) w (Post os σ S w ⟨sv, os⟩) := fun {b q sv} hv hr => by
            refine done_same hs ?_ hr
            simp only [execOp, ho, hv]
            exact run_v (run_fieldAt hu hfd hn hz)
          simp only [evOp] at he
          split at he
          · rename_i i p hx
            cases he
            rw [hx] at h
            obtain ⟨L, hL, hv⟩ := h
            exact fin hv ⟨L, hL, rfl⟩
          · rename_i i z k p hx
            cases he
            rw [hx] at h
            obtain ⟨L, hL, hv⟩ := h
            exact fin hv ⟨L, hL, by rw [Nat.add_assoc]⟩
          · rename_i c p hx
            cases he
            rw [hx] at h
            obtain ⟨b, q, vs, h1, h2, hv⟩ := h
            exact fin hv ⟨b, q, vs, h1, h2, by rw [Nat.add_assoc]⟩
          · rename_i c hx
            cases he
            rw [hx] at h
            have h : Rep S (.ptr c) (ρ x) := h
            generalize hv : ρ x = v at h
            cases h with
            | ptr b q vs hl hc hr => exact fin hv ⟨b, q, vs, ⟨hl, hr⟩, hc, rfl⟩
          · cases he
      · cases hf
    · cases hf
  · cases hf

omit hρ hs in
/-- A part of an aggregate's cells. -/
theorem run_part {t : TypeId} {g : Bool} {n q : Nat} {cs : List At} {vs : List Value} {sv : SV} (hg : aggT P t = some g) (hn : sizeT P t = some n) (hp : Pw (relA S σ) cs vs) (h : cutA g n cs q = some sv) :
    ∃ u, (part t vs.toArray q).run P w = .ok u w ∧ relS S σ sv u := by
  obtain ⟨u, h1, h2, h3⟩ := cutA_rel hp h
  refine ⟨u, ?_, h2⟩
  cases g with
  | true =>
    have hu := h1.1 rfl
    subst hu
    simp only [part, Sem.run_bind, aggT_run hg, Result.andThen_ok, if_true, sizeT_run hn]
    have e : vs.toArray.extract q (q + n) = ((vs.drop q).take n).toArray := by
      rw [List.extract_toArray, List.extract_eq_take_drop]
      simp
    simp [e]
  | false =>
    have hu := h1.2 rfl
    simp only [part, Sem.run_bind, aggT_run hg, Result.andThen_ok, Bool.false_eq_true, if_false, List.getElem?_toArray, hu]
    rfl

theorem ok_fld {t : TypeId} {x : Operand} {f : Nat} (ho : o.op = .field t x f) (hc : cOp P o.op = some s) (he : evOp mm call fr os s = some r) : OpDone P (execOp ρ o) w (Post os σ S w r) := by
  rw [ho] at hc
  obtain ⟨y, hy, hf⟩ := un1_some hc
  unfold cField at hf
  split at hf
  · rename_i fs hu
    split at hf
    · rename_i fd hfd
      split at hf
      · rename_i n g hn hg
        cases hf
        have h := hρ x y hy
        simp only [evOp] at he
        split at he
        · rename_i cs hcs
          split at he
          · rename_i sv hsv
            cases he
            obtain ⟨vs, hv, hp⟩ := h.agg? hcs
            obtain ⟨u, h1, h2⟩ := run_part (P := P) (w := w) hg hn hp hsv
            refine done_same hs ?_ h2
            simp only [execOp, ho, hv]
            exact run_v (by simp [Instr.field, run_underlying hu, hfd, asAgg, h1])
          · cases he
        · cases he
      · cases hf
    · cases hf
  · cases hf

omit hρ hs in
theorem run_indexAt_slice' {t e : TypeId} {sz b q len cap : Nat} {n : Int} {ik : IntKind} (hu : P.underlying t = some (.slice e)) (hz : sizeT P e = some sz) (h0 : 0 ≤ n) (h1 : n < len) :
    (Instr.indexAt t (.slice (some ⟨b, q, none⟩) len cap) (.int ik n)).run P w = .ok (.pointer (some ⟨b, q + n.toNat * sz, none⟩)) w := by
  simp [Instr.indexAt, asIntOf, run_underlying hu, h0, h1, sizeT_run hz, add_plain]

omit hρ hs in
theorem run_indexAt_array' {t e : TypeId} {sz b q len : Nat} {n : Int} {ik : IntKind} (hu : P.underlying t = some (.array len e)) (hz : sizeT P e = some sz) (h0 : 0 ≤ n) (h1 : n < len) :
    (Instr.indexAt t (.pointer (some ⟨b, q, none⟩)) (.int ik n)).run P w = .ok (.pointer (some ⟨b, q + n.toNat * sz, none⟩)) w := by
  simp [Instr.indexAt, asIntOf, run_underlying hu, h0, h1, sizeT_run hz, add_plain, Instr.sureAddr]

theorem ok_iadr {t : TypeId} {x i : Operand} (ho : o.op = .indexAddr t x i) (hc : cOp P o.op = some s) (he : evOp mm call fr os s = some r) : OpDone P (execOp ρ o) w (Post os σ S w r) := by
  rw [ho] at hc
  obtain ⟨y, j, hy, hj, hf⟩ := un2_some hc
  have h := hρ x y hy
  have hi := hρ i j hj
  unfold cIndexAddr at hf
  split at hf
  · rename_i e hu
    split at hf
    · rename_i sz hz
      split at hf
      · cases hf
      · rename_i hz0
        cases hf
        simp only [evOp] at he
        split at he
        · cases he
        · rename_i n hn
          obtain ⟨ik, hiv⟩ := asInt_rel hi hn
          split at he
          · cases he
          · rename_i h0
            have h0 : 0 ≤ n := by omega
            have fin : ∀ {b q len cap : Nat} {sv : SV}, ρ x = .slice (some ⟨b, q, none⟩) len cap → n.toNat < len → relS S σ sv (.pointer (some ⟨b, q + n.toNat * sz, none⟩)) → OpDone P (execOp ρ o) w (Post os σ S w ⟨sv, os⟩) := fun {b q len cap sv} hv hlt hr => by
              refine done_same hs ?_ hr
              simp only [execOp, ho, hv, hiv]
              exact run_v (run_indexAt_slice' hu hz h0 (by omega))
            have lst : ∀ {xs : List V} {y' : V}, Rep S (.list xs) (ρ x) → xs[n.toNat]? = some y' → y'.cells.length = sz → OpDone P (execOp ρ o) w (Post os σ S w ⟨.a (.fadr y'.cells 0), os⟩) := fun {xs y'} hr hx hl => by
              have hlt : n.toNat < xs.length := by
                rcases Nat.lt_or_ge n.toNat xs.length with h | h
                · exact h
                · rw [List.getElem?_eq_none h] at hx; cases hx
              generalize hv : ρ x = v at hr
              cases hr with
              | list0 => simp at hx
              | list b q cap sz' vs hz' hcap hl' hlie hr =>
                have e1 : sz' = sz := by rw [← hl]; exact (hz' _ (List.mem_of_getElem? hx)).symm
                subst e1
                refine fin hv hlt ?_
                refine ⟨b, q + n.toNat * sz', (vs.drop (n.toNat * sz')).take sz', flat_pw hz' ⟨hl', hr⟩ hx, fun j v hj => ?_, rfl⟩
                rw [List.getElem?_take] at hj
                split at hj
                · rw [List.getElem?_drop] at hj
                  rw [Nat.add_assoc]
                  exact hlie _ _ hj
                · cases hj
            split at he
            · rename_i xs hx
              split at he
              · rename_i y' hy'
                split at he
                · rename_i hl
                  cases he
                  rw [hx] at h
                  exact lst h hy' hl
                · cases he
              · cases he
            · rename_i jj sw ow mw hx
              rw [hx] at h
              obtain ⟨L, hL, a, c, hv, hmc, ha⟩ := h
              split at he
              · rename_i hc2
                obtain ⟨rfl, hlt⟩ := hc2
                cases he
                have ha' := ha (by omega)
                subst ha'
                exact fin hv hlt ⟨L, hL, by rw [Nat.add_mul]; simp⟩
              · cases he
            · rename_i jj hx
              rw [hx] at h
              obtain ⟨L, hL, hv⟩ := h
              split at he
              · rename_i e' sz' xs hob
                obtain ⟨⟨h1, h2, h3, vs, h4, h5, h6⟩, _⟩ := hs.loc hob hL
                split at he
                · rename_i y' hy'
                  split at he
                  · rename_i hl
                    cases he
                    exact lst (hv ▸ rep_row h2 h3 h4 h5 h6) hy' hl
                  · cases he
                · cases he
              · rename_i e' sz' xs hob
                obtain ⟨⟨h1, h2, h3, vs, h4, h5⟩, _⟩ := hs.loc hob hL
                split at he
                · rename_i hc2
                  obtain ⟨rfl, hlt⟩ := hc2
                  cases he
                  exact fin hv (by omega) ⟨L, hL, by simp⟩
                · cases he
              · rename_i e' cs hob
                obtain ⟨⟨c, h1, h2, h3, h4⟩, _⟩ := hs.loc hob hL
                split at he
                · rename_i hc2
                  obtain ⟨rfl, hlt⟩ := hc2
                  cases he
                  exact fin hv (by omega) ⟨L, hL, by simp⟩
                · cases he
              · cases he
            · cases he
    · cases hf
  · rename_i len e hu
    split at hf
    · rename_i sz hz
      split at hf
      · cases hf
      · cases hf
        simp only [evOp] at he
        split at he
        · cases he
        · rename_i n hn
          obtain ⟨ik, hiv⟩ := asInt_rel hi hn
          split at he
          · rename_i hb
            have fin : ∀ {b q : Nat} {sv : SV}, ρ x = .pointer (some ⟨b, q, none⟩) → relS S σ sv (.pointer (some ⟨b, q + n.toNat * sz, none⟩)) → OpDone P (execOp ρ o) w (Post os σ S w ⟨sv, os⟩) := fun {b q sv} hv hr => by
              refine done_same hs ?_ hr
              simp only [execOp, ho, hv, hiv]
              exact run_v (run_indexAt_array' hu hz hb.1 hb.2)
            split at he
            · rename_i i' p hx
              cases he
              rw [hx] at h
              obtain ⟨L, hL, hv⟩ := h
              exact fin hv ⟨L, hL, rfl⟩
            · rename_i i' z k p hx
              cases he
              rw [hx] at h
              obtain ⟨L, hL, hv⟩ := h
              exact fin hv ⟨L, hL, by rw [Nat.add_assoc]⟩
            · rename_i c p hx
              cases he
              rw [hx] at h
              obtain ⟨b, q, vs, h1, h2, hv⟩ := h
              exact fin hv ⟨b, q, vs, h1, h2, by rw [Nat.add_assoc]⟩
            · rename_i c hx
              cases he
              rw [hx] at h
              have h : Rep S (.ptr c) (ρ x) := h
              generalize hv : ρ x = v at h
              cases h with
              | ptr b q vs hl hc hr => exact fin hv ⟨b, q, vs, ⟨hl, hr⟩, hc, rfl⟩
            · cases he
          · cases he
    · cases hf
  · cases hf

theorem ok_idx {t : TypeId} {x i : Operand} (ho : o.op = .index t x i) (hc : cOp P o.op = some s) (he : evOp mm call fr os s = some r) : OpDone P (execOp ρ o) w (Post os σ S w r) := by
  rw [ho] at hc
  obtain ⟨y, j, hy, hj, hf⟩ := un2_some hc
  have h := hρ x y hy
  have hi := hρ i j hj
  unfold cIndex at hf
  split at hf
  · rename_i hu
    cases hf
    simp only [evOp] at he
    split at he
    · rename_i s' n hx hn
      obtain ⟨ik, hiv⟩ := asInt_rel hi hn
      split at he
      · cases he
      · rename_i h0
        split at he
        · rename_i b hb
          cases he
          rw [hx] at h
          have h : Rep S (.str s') (ρ x) := h
          generalize hv : ρ x = v at h
          cases h
          refine done_same hs ?_ (.int .u8 b.toNat)
          simp only [execOp, ho, hv, hiv]
          refine run_v ?_
          have hlt : n.toNat < s'.length := by
            rcases Nat.lt_or_ge n.toNat s'.length with h | h
            · exact h
            · rw [List.getElem?_eq_none h] at hb; cases hb
          have hb' : (⟨s'.toArray⟩ : ByteArray)[n.toNat]? = some b := by
            simp only [getElem?_def, ByteArray.size, List.size_toArray, hlt, dif_pos]
            rw [List.getElem?_eq_getElem hlt] at hb
            exact hb
          simp [Instr.index, asIntOf, run_underlying hu, show 0 ≤ n by omega, hb']
        · cases he
    · cases he
  · rename_i len e hu
    split at hf
    · rename_i sz g hz hg
      cases hf
      simp only [evOp] at he
      split at he
      · rename_i cs n hcs hn
        obtain ⟨ik, hiv⟩ := asInt_rel hi hn
        split at he
        · rename_i hb
          split at he
          · rename_i sv hsv
            cases he
            obtain ⟨vs, hv, hp⟩ := h.agg? hcs
            obtain ⟨u, h1, h2⟩ := run_part (P := P) (w := w) hg hz hp hsv
            refine done_same hs ?_ h2
            simp only [execOp, ho, hv, hiv]
            exact run_v (by simp [Instr.index, asIntOf, run_underlying hu, hb.1, hb.2, sizeT_run hz, h1])
          · cases he
        · cases he
      · cases he
    · cases hf
  · cases hf

end
end Go.Ev
