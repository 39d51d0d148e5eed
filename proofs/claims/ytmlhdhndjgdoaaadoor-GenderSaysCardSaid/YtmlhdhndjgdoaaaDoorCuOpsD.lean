/- The operations, fourth part: unary, conversions, cuts, tuples' parts, interfaces, functions. -/
import Derived.Test.YtmlhdhndjgdoaaaDoorCuOpsC
import Derived.Lib.ConvBytes
import Derived.Laws.BytesArg
import Derived.Laws.Build
import Derived.Laws.Cover3
namespace Go.Ev

theorem bytes_eq (s : List UInt8) : (⟨s.toArray⟩ : ByteArray).data.toList = s := rfl

theorem bytesOf_some {xs : List V} {s : List UInt8} (h : bytesOf xs = some s) : ∃ ns : List Int, xs = ns.map (V.int .u8) ∧ s = ns.map fun n => UInt8.ofNat n.toNat := by
  induction xs generalizing s with
  | nil => simp [bytesOf] at h; subst h; exact ⟨[], rfl, rfl⟩
  | cons x r ih =>
    unfold bytesOf at h
    split at h
    · rename_i hx; cases hx
    · rename_i n r' hx
      cases hx
      split at h
      · rename_i s' hs'
        cases h
        obtain ⟨ns, h1, h2⟩ := ih hs'
        exact ⟨n :: ns, by rw [h1]; rfl, by rw [h2]; rfl⟩
      · cases h
    · cases h

theorem flat_ints {k : IntKind} (ns : List Int) : flat (ns.map (V.int k)) = ns.map (V.int k) := by
  induction ns with
  | nil => rfl
  | cons n r ih => show V.cells (V.int k n) ++ flat (r.map (V.int k)) = _; rw [ih]; rfl

/-- A slice seen whole: nil, or a row of frozen or own cells. -/
theorem elems_ok {S : Fz} {σ : Locs} {os : Objs} {w : World} {x : SV} {xs : List V} {v : Value} (hs : HeapSim S σ os w) (hr : relS S σ x v) (h : elems os x = some xs) :
    (xs = [] ∧ (x = .a (.v .nils) ∧ v = .slice none 0 0)) ∨ (xs = [] ∧ ∃ a cap, v = .slice a 0 cap) ∨
    ∃ b o cap sz vs, v = .slice (some ⟨b, o, none⟩) xs.length cap ∧ xs.length ≤ cap ∧ (∀ x ∈ xs, x.cells.length = sz) ∧ Pw (Rep S) (flat xs) vs ∧ ∀ j u, vs[j]? = some u → w.cell? ⟨b, o + j, none⟩ = some u := by
  unfold elems at h
  split at h
  · cases h
    have hr : Rep S .nils v := hr
    cases hr
    exact .inl ⟨rfl, rfl, rfl⟩
  · rename_i ys
    cases h
    have hr : Rep S (.list xs) v := hr
    cases hr with
    | list0 a cap => exact .inr (.inl ⟨rfl, a, cap, rfl⟩)
    | list b o cap sz vs h1 h2 h3 h4 h5 => exact .inr (.inr ⟨b, o, cap, sz, vs, rfl, h2, h1, ⟨h3, h5⟩, fun j u hu => hs.frz.cell _ _ _ (h4 j u hu)⟩)
  · rename_i i
    obtain ⟨L, hL, rfl⟩ := hr
    split at h
    · rename_i e sz ys ho
      cases h
      obtain ⟨⟨h1, h2, h3, vs, h4, h5, h6⟩, _⟩ := hs.loc ho hL
      refine .inr (.inr ⟨L.b, 0, L.cap, sz, vs, by rw [h2], by rw [h2]; exact ownsRow_cap h4, h3, h5, fun j u hu => ?_⟩)
      rw [Nat.zero_add]; exact ownsRow_cell h4 hu
    · rename_i e sz ys ho
      cases h
      obtain ⟨⟨h1, h2, h3, vs, h4, h5⟩, _⟩ := hs.loc ho hL
      refine .inr (.inr ⟨L.b, 0, L.cap, sz, vs, by rw [h2], by rw [h2]; exact ownsRow_cap h4, h3, h5, fun j u hu => ?_⟩)
      rw [Nat.zero_add]; exact ownsRow_cell h4 hu
    · cases h
  · cases h

/-- Frozen: what a slot holds. -/
theorem freezeS_ok {x : SV} {os os' : Objs} {v : V} {S : Fz} {σ : Locs} {w : World} {val : Value} (h : freezeS os x = some (v, os')) (hs : HeapSim S σ os w) (hr : relS S σ x val) :
    ∃ S', HeapSim S' σ os' w ∧ Rep S' v val ∧ Fr os.length os σ S w os' σ S' w ∧ os'.length = os.length := by
  have tups : ∀ (l : List T2) (os : Objs) (vs : List V) (os' : Objs) (S : Fz) (vals : List Value), freezeTs os l = some (vs, os') → HeapSim S σ os w → Pw (relT S σ) l vals →
      ∃ S', HeapSim S' σ os' w ∧ Pw (Rep S') vs vals ∧ Fr os.length os σ S w os' σ S' w ∧ os'.length = os.length := by
    intro l
    induction l with
    | nil =>
      intro os vs os' S vals h hs hr
      simp only [freezeTs, Option.some.injEq, Prod.mk.injEq] at h
      obtain ⟨rfl, rfl⟩ := h
      rw [hr.nil_left]
      exact ⟨S, hs, Pw.nil, .refl (Nat.le_refl _), rfl⟩
    | cons x r ih =>
      intro os vs os' S vals h hs hr
      obtain ⟨v0, vr, rfl, h0, hr⟩ := hr.cons_left
      simp only [freezeTs] at h
      split at h
      · rename_i y os1 hy
        split at h
        · rename_i ys os2 hys
          cases h
          obtain ⟨S1, hs1, hr1, hf1, hl1⟩ := freezeT_ok (freezeA_ok depth) os x y os1 S σ w v0 hy hs h0
          obtain ⟨S2, hs2, hr2, hf2, hl2⟩ := ih os1 ys os' S1 vr hys hs1 (relTs.mono hf1.le (.refl _) hr)
          exact ⟨S2, hs2, Pw.cons (hr1.mono hf2.le) hr2, hf1.trans (hl1 ▸ hf2), hl2.trans hl1⟩
        · cases h
      · cases h
  cases x with
  | undef => simp [freezeS] at h
  | a x => exact freezeA_ok depth os x v os' S σ w val h hs hr
  | agg cs =>
    obtain ⟨vals, rfl, hp⟩ := hr
    simp only [freezeS] at h
    split at h
    · rename_i vs os1 hv
      cases h
      obtain ⟨S', h1, h2, h3, h4⟩ := freezeL_ok (freezeA_ok depth) cs os vs os' S σ w vals hv hs hp
      exact ⟨S', h1, Rep.mk_agg h2, h3, h4⟩
    · cases h
  | tup cs =>
    obtain ⟨vals, rfl, hp⟩ := hr
    simp only [freezeS] at h
    split at h
    · rename_i vs os1 hv
      cases h
      obtain ⟨S', h1, h2, h3, h4⟩ := tups cs os vs os' S vals hv hs hp
      exact ⟨S', h1, Rep.mk_tup h2, h3, h4⟩
    · cases h
  | clo f a b =>
    obtain ⟨va, vb, rfl, hpa, hpb⟩ := hr
    simp only [freezeS] at h
    split at h
    · rename_i as os1 ha
      split at h
      · rename_i bs os2 hb
        cases h
        obtain ⟨S1, h1, h2, h3, h4⟩ := freezeL_ok (freezeA_ok depth) a os as os1 S σ w va ha hs hpa
        obtain ⟨S2, k1, k2, k3, k4⟩ := freezeL_ok (freezeA_ok depth) b os1 bs os' S1 σ w vb hb h1 (relAs.mono h3.le (.refl _) hpb)
        have h2' := h2.mono fun a b => Rep.mono (S' := S2) k3.le (x := a) (v := b)
        exact ⟨S2, k1, .fn f va vb h2'.1 k2.1 h2'.2 k2.2, h3.trans (h4 ▸ k3), k4.trans h4⟩
      · cases h
    · cases h

section
variable {P : Program} {o : Oper} {ρ : Operand → Value} {w : World} {S : Fz} {σ : Locs} {os : Objs} {fr : List SV} {mm : Bool} {call : CallT} {s : SOp} {r : R}

theorem run_bounds {isS : Bool} {len cap : Nat} {lo hi : Option Operand} {lo' hi' : Option SOpd} {l h : Nat} (hρ : ∀ x y, cOpd x = some y → relS S σ (opd fr y) (ρ x)) (hl : cOpt lo = some lo') (hh : cOpt hi = some hi') (hb : bounds fr lo' hi' len = some (l, h)) (hc : len ≤ cap) :
    (Instr.sliceBounds isS len cap (lo.map ρ) (hi.map ρ) none).run P w = .ok (l, h, cap) w ∧ l ≤ h ∧ h ≤ len := by
  have one : ∀ {x : Operand} {y : Option SOpd} {n : Int}, cOpt (some x) = some y → (match y with | none => some (len : Int) | some h => asInt (opd fr h)) = some n → ∃ k, ρ x = .int k n := by
    intro x y n hx hy
    simp only [cOpt] at hx
    split at hx
    · rename_i z hz; cases hx; exact asInt_rel (hρ _ _ hz) hy
    · cases hx
  have one' : ∀ {x : Operand} {y : Option SOpd} {n : Int}, cOpt (some x) = some y → (match y with | none => some 0 | some h => asInt (opd fr h)) = some n → ∃ k, ρ x = .int k n := by
    intro x y n hx hy
    simp only [cOpt] at hx
    split at hx
    · rename_i z hz; cases hx; exact asInt_rel (hρ _ _ hz) hy
    · cases hx
  unfold bounds at hb
  split at hb
  · rename_i hn ln h1 h2
    split at hb
    · rename_i hg
      split at hb
      · rename_i hg2
        cases hb
        refine ⟨?_, by omega, by omega⟩
        have ehi : ((ln.toNat : Nat) : Int) = ln := by omega
        have ehh : ((hn.toNat : Nat) : Int) = hn := by omega
        cases lo with
        | none =>
          simp only [cOpt, Option.some.injEq] at hl
          subst hl
          simp only [Option.some.injEq] at h2
          subst h2
          cases hi with
          | none =>
            simp only [cOpt, Option.some.injEq] at hh
            subst hh
            simp only [Option.some.injEq] at h1
            subst h1
            simp [Instr.sliceBounds]
          | some x =>
            obtain ⟨k, hk⟩ := one hh h1
            simp [Instr.sliceBounds, hk, run_sliceBound, hg.1, show hn ≤ (cap : Int) by omega]
        | some y =>
          obtain ⟨kl, hkl⟩ := one' hl h2
          cases hi with
          | none =>
            simp only [cOpt, Option.some.injEq] at hh
            subst hh
            simp only [Option.some.injEq] at h1
            subst h1
            simp [Instr.sliceBounds, hkl, run_sliceBound, hg2.1, hg2.2]
          | some x =>
            obtain ⟨k, hk⟩ := one hh h1
            have e1 := run_sliceBound (P := P) w k hn cap (if isS then .sliceAcap else .sliceAlen) hg.1 (by omega)
            have e2 := run_sliceBound (P := P) w kl ln hn.toNat .sliceB hg2.1 (by omega)
            simp only [Instr.sliceBounds, Option.map_some, hk, hkl, Sem.run_bind, Sem.run_pure, Result.andThen_ok, e1, Option.isSome_none, Bool.false_eq_true, if_false, e2]
      · cases hb
    · cases hb
  · cases hb

variable (hρ : ∀ x y, cOpd x = some y → relS S σ (opd fr y) (ρ x)) (hs : HeapSim S σ os w)
include hρ hs

theorem ok_un {op : UnOp} {t : TypeId} {x : Operand} (ho : o.op = .unOp op t x) (hc : cOp P o.op = some s) (he : evOp mm call fr os s = some r) : OpDone P (execOp ρ o) w (Post os σ S w r) := by
  rw [ho] at hc
  obtain ⟨y, hy, hf⟩ := un1_some (by simpa only [cOp] using hc)
  cases hf
  have h := hρ x y hy
  simp only [evOp] at he
  split at he
  · rename_i v hv
    cases he
    unfold unV at hv
    split at hv
    · rename_i k n hx
      cases hv
      rw [hx] at h
      have h : Rep S (.int k n) (ρ x) := h
      generalize hvx : ρ x = vx at h
      cases h
      refine done_same hs ?_ (.int _ _)
      simp only [execOp, ho, hvx]
      exact run_v (by simp [Op.unary, Op.intArith])
    · rename_i k n hx
      rw [hx] at h
      have h : Rep S (.int k n) (ρ x) := h
      generalize hvx : ρ x = vx at h
      cases h
      simp only [ariI, Option.some.injEq] at hv
      subst hv
      refine done_same hs ?_ (.int _ _)
      simp only [execOp, ho, hvx]
      exact run_v (by simp [Op.unary, Op.intBits])
    · rename_i b hx
      cases hv
      rw [hx] at h
      have h : Rep S (.bool b) (ρ x) := h
      generalize hvx : ρ x = vx at h
      cases h
      refine done_same hs ?_ (.bool _)
      simp only [execOp, ho, hvx]
      exact run_v (by simp [Op.unary])
    · cases hv
  · cases he

theorem ok_ext {x : Operand} {i : Nat} (ho : o.op = .extract x i) (hc : cOp P o.op = some s) (he : evOp mm call fr os s = some r) : OpDone P (execOp ρ o) w (Post os σ S w r) := by
  rw [ho] at hc
  obtain ⟨y, hy, hf⟩ := un1_some (by simpa only [cOp] using hc)
  cases hf
  have h := hρ x y hy
  simp only [evOp] at he
  split at he
  · rename_i vs hx
    split at he
    · rename_i z hz
      cases he
      rw [hx] at h
      have h : Rep S (.tup vs) (ρ x) := h
      obtain ⟨us, hvx, hp⟩ := h.of_tup
      obtain ⟨u, hu, hr⟩ := hp.get hz
      refine done_same hs ?_ hr
      simp only [execOp, ho, hvx]
      exact run_v (by simp [Instr.extract, hu])
    · cases he
  · rename_i vs hx
    split at he
    · rename_i z hz
      cases he
      rw [hx] at h
      obtain ⟨us, hvx, hp⟩ := h
      obtain ⟨u, hu, hr⟩ := hp.get hz
      refine done_same hs ?_ (rel_T2sv hr)
      simp only [execOp, ho, hvx]
      exact run_v (by simp [Instr.extract, hu])
    · cases he
  · cases he

theorem ok_mkif {t : TypeId} {x : Operand} (ho : o.op = .makeInterface t x) (hc : cOp P o.op = some s) (he : evOp mm call fr os s = some r) : OpDone P (execOp ρ o) w (Post os σ S w r) := by
  rw [ho] at hc
  simp only [cOp] at hc
  split at hc
  · cases hc
  · rename_i d hnd hu
    obtain ⟨y, hy, hf⟩ := un1_some hc
    cases hf
    have h := hρ x y hy
    simp only [evOp] at he
    split at he
    · rename_i v os' hfz
      cases he
      obtain ⟨S', h1, h2, h3, h4⟩ := freezeS_ok hfz hs h
      refine .inl ⟨.iface t (ρ x), w, ?_, S', σ, h1, Rep.iface t h2, h3⟩
      simp only [execOp, ho]
      refine run_v (run_makeInterface w t (ρ x) ?_)
      unfold Program.concrete
      cases d <;> simp_all
    · cases he
  · cases hc

omit hs in
theorem flatA_rel {l : List Operand} {ys : List SOpd} {as : List At} (hl : cOpds l = some ys) (h : flatA (opds fr ys) = some as) : Pw (relA S σ) as (l.map ρ) := by
  have hp := cOpds_rel (R := fun y x => relS S σ (opd fr y) (ρ x)) hρ hl
  clear hl
  induction ys generalizing l as with
  | nil => simp [opds, flatA] at h; subst h; rw [hp.nil_left]; exact Pw.nil
  | cons y r ih =>
    obtain ⟨x, l', rfl, h0, hr⟩ := hp.cons_left
    simp only [opds] at h
    unfold flatA at h
    split at h
    · rename_i hx; cases hx
    · rename_i z r' hx
      simp only [List.cons.injEq] at hx
      obtain ⟨hx, rfl⟩ := hx
      split at h
      · rename_i l2 hl2
        cases h
        rw [hx] at h0
        exact Pw.cons h0 (ih hl2 hr)
      · cases h
    · cases h

theorem ok_clo {f : Fn} {a b : Array Operand} (ho : o.op = .makeFunc f a b) (hc : cOp P o.op = some s) (he : evOp mm call fr os s = some r) : OpDone P (execOp ρ o) w (Post os σ S w r) := by
  rw [ho] at hc
  cases f with
  | func f =>
    simp only [cOp] at hc
    split at hc
    · rename_i as bs ha hb
      cases hc
      simp only [evOp] at he
      split at he
      · rename_i a' b' ha' hb'
        cases he
        refine done_same (v := .func (.func f) (a.map ρ) (b.map ρ)) hs ?_ ⟨a.toList.map ρ, b.toList.map ρ, ?_, flatA_rel hρ ha ha', flatA_rel hρ hb hb'⟩
        · simp only [execOp, ho]
          exact run_v rfl
        · rw [← Array.toList_map, ← Array.toList_map]
      · cases he
    · cases hc
  | _ => simp [cOp] at hc

theorem ok_s2a {t : TypeId} {x : Operand} (ho : o.op = .sliceToArrayPointer t x) (hc : cOp P o.op = some s) (he : evOp mm call fr os s = some r) : OpDone P (execOp ρ o) w (Post os σ S w r) := by
  rw [ho] at hc
  simp only [cOp] at hc
  split at hc
  · rename_i n e hu
    obtain ⟨y, hy, hf⟩ := un1_some hc
    cases hf
    have h := hρ x y hy
    simp only [evOp] at he
    split at he
    · rename_i xs hxs
      split at he
      · rename_i hg
        obtain ⟨hn, hn0, hone⟩ := hg
        split at he
        · rename_i v os' hfz
          cases he
          obtain ⟨S', h1, h2, h3, h4⟩ := freezeS_ok hfz hs h
          -- the frozen slice is the same list
          have hv : v = .list xs := by
            generalize hox : opd fr y = ox at hfz hxs
            unfold elems at hxs
            split at hxs
            · cases hxs; simp at hn; omega
            · cases hxs; simp [freezeS, freezeA, depth] at hfz; exact hfz.1.symm
            · rename_i i
              split at hxs
              · rename_i hoo; cases hxs; simp [freezeS, freezeA, depth, hoo] at hfz; exact hfz.1.symm
              · rename_i hoo; cases hxs; simp [freezeS, freezeA, depth, hoo] at hfz; exact hfz.1.symm
              · cases hxs
            · cases hxs
          subst hv
          generalize hvx : ρ x = vx at h2
          have hflat : ∀ (l : List V), l.all V.one = true → flat l = l := by
            intro l
            induction l with
            | nil => intro _; rfl
            | cons a l ih =>
              intro hl
              simp only [List.all_cons, Bool.and_eq_true] at hl
              show V.cells a ++ flat l = a :: l
              rw [ih hl.2]
              cases a <;> first | rfl | (simp [V.one] at hl)
          cases h2 with
          | list0 => simp at hn; omega
          | list b p cap sz vs k1 k2 k3 k4 k5 =>
            refine .inl ⟨.pointer (some ⟨b, p, none⟩), w, ?_, S', σ, h1, ?_, h3⟩
            · simp only [execOp, ho, hvx]
              exact run_v (run_arrayAt w t e n _ _ _ hu hn)
            · rw [hflat xs hone] at k3 k5
              exact ⟨b, p, vs, ⟨k3, k5⟩, k4, by simp⟩
        · cases he
      · cases he
    · cases he
  · cases hc

theorem ok_conv {t d : TypeId} {x : Operand} (ho : o.op = .convert t d x) (hc : cOp P o.op = some s) (he : evOp mm call fr os s = some r) : OpDone P (execOp ρ o) w (Post os σ S w r) := by
  rw [ho] at hc
  obtain ⟨y, hy, hf⟩ := un1_some (by simpa only [cOp] using hc)
  have h := hρ x y hy
  unfold cConv at hf
  split at hf
  · -- int to int
    rename_i k0 k hu hd
    cases hf
    simp only [evOp] at he
    split at he
    · rename_i kk n hx
      cases he
      rw [hx] at h
      have h : Rep S (.int kk n) (ρ x) := h
      generalize hvx : ρ x = vx at h
      cases h
      refine done_same hs ?_ (.int _ _)
      simp only [execOp, ho, hvx]
      exact run_v (by simp [convert, run_underlying hu, run_underlying hd, Conv.intToInt])
    · cases he
  · rename_i hu hd
    cases hf
    simp only [evOp] at he
    split at he
    · rename_i z hx
      cases he
      rw [hx] at h
      have h : Rep S (.str z) (ρ x) := h
      generalize hvx : ρ x = vx at h
      cases h
      refine done_same hs ?_ (.str _)
      simp only [execOp, ho, hvx]
      exact run_v (by simp [convert, run_underlying hu, run_underlying hd])
    · cases he
  · -- string to bytes
    rename_i e hu hd
    split at hf
    · rename_i hue
      cases hf
      simp only [evOp] at he
      split at he
      · rename_i z hx
        split at he
        · cases he
          rw [hx] at h
          have h : Rep S (.str z) (ρ x) := h
          generalize hvx : ρ x = vx at h
          cases h
          have hrun := Lib.run_convert_string_bytes w t d e ⟨z.toArray⟩ hu hd hue
          have hfree : ∀ j, S.cell w.heap.size j = none := fun j => by
            cases hcj : S.cell w.heap.size j with
            | none => rfl
            | some v => have := hs.frz.lt (b := w.heap.size) (.inl ⟨j, v, hcj⟩); omega
          have hsz : (⟨z.toArray⟩ : ByteArray).size = z.length := by simp [ByteArray.size]
          let vs : List Value := z.map fun b => .int .u8 b.toNat
          have hle := addCells_le (vs := vs) hfree
          have hold := Lib.bytesWorld_at_old w e ⟨z.toArray⟩
          have hg := hs.grown (w' := Lib.bytesWorld w e ⟨z.toArray⟩) hold
          have hno : ¬ Own os σ w.heap.size := by
            rintro ⟨i, x, M, hx, hM, hb⟩
            have := (hs.loc hx hM).1.lt; omega
          have hcell : ∀ j v, vs[j]? = some v → (Lib.bytesWorld w e ⟨z.toArray⟩).cell? ⟨w.heap.size, j, none⟩ = some v := fun j v hv => by
            have hj : j < z.length := by
              rcases Nat.lt_or_ge j z.length with h | h
              · exact h
              · simp [vs, List.getElem?_eq_none h] at hv
            rw [Lib.bytesWorld_cell w e _ j (by omega)]
            simp only [vs, List.getElem?_map, List.getElem?_eq_getElem hj, Option.map_some, Option.some.injEq] at hv
            subst hv
            simp [List.getD, List.getElem?_eq_getElem hj]
          refine .inl ⟨_, _, by simp only [execOp, ho, hvx]; exact run_v hrun, addCells S w.heap.size vs, σ, hg.more hno hle (addCells_ok hg.frz hfree hcell) fun b hb => addCells_other hb, ?_, ?_⟩
          · have hflat : flat (z.map fun b => V.int .u8 b.toNat) = z.map fun b => V.int .u8 b.toNat := by
              have := flat_ints (k := .u8) (z.map fun b => (b.toNat : Int))
              simpa [List.map_map, Function.comp_def] using this
            have hcapz : z.length ≤ grownCap w (⟨z.toArray⟩ : ByteArray).size 0 e := by
              rw [hsz]
              exact grownCap_ge w z.length 0 e
            have hrep : Rep (addCells S w.heap.size vs) (.list (z.map fun b => V.int .u8 b.toNat)) (.slice (some ⟨w.heap.size, 0, none⟩) (z.map fun b => V.int .u8 b.toNat).length (grownCap w (⟨z.toArray⟩ : ByteArray).size 0 e)) := by
              refine .list w.heap.size 0 _ 1 vs ?_ (by simpa using hcapz) ?_ (addCells_lies _ _ _) ?_
              · intro x hx
                obtain ⟨b, _, rfl⟩ := List.mem_map.1 hx
                rfl
              · rw [hflat]; simp [vs]
              · intro j c v hc hv
                rw [hflat] at hc
                simp only [vs, List.getElem?_map] at hc hv
                obtain ⟨b, hb, rfl⟩ := Option.map_eq_some_iff.1 hc
                rw [hb] at hv
                cases hv
                exact .int _ _
            rw [List.length_map, ← hsz] at hrep
            exact hrep
          · have g := Fr.grown (os := os) (σ := σ) (S := S) (w := w) (w' := Lib.bytesWorld w e ⟨z.toArray⟩) hold (by rw [Lib.bytesWorld_size]; omega) rfl rfl rfl
            refine ⟨hle, g.loc, g.len, g.dead, g.size, g.so, g.tape, g.output, fun b hb hn => ?_, g.own⟩
            have hne : b ≠ w.heap.size := by omega
            exact ⟨hold b hb, (addCells_other hne).1, (addCells_other hne).2⟩
        · cases he
      · cases he
    · cases hf
  · -- bytes to string
    rename_i e hu hd
    split at hf
    · rename_i hue
      cases hf
      simp only [evOp] at he
      split at he
      · rename_i xs hxs
        split at he
        · rename_i z hz
          cases he
          obtain ⟨ns, rfl, rfl⟩ := bytesOf_some hz
          have fin : ∀ {v : Value}, ρ x = v → (convert t d v).run P w = .ok (.string (strOfNums ns)) w → OpDone P (execOp ρ o) w (Post os σ S w ⟨.a (.v (.str (ns.map fun n => UInt8.ofNat n.toNat))), os⟩) := fun {v} hv hr => by
            refine done_same hs ?_ (.str _)
            simp only [execOp, ho, hv]
            exact run_v hr
          rcases elems_ok hs h hxs with ⟨h0, _, hv⟩ | ⟨h0, a, cap, hv⟩ | ⟨b, p, cap, sz, vs, hv, h1, h2, h3, h4⟩
          · simp at h0
            subst h0
            exact fin hv (run_convert_bytes_nil w t e hu hue 0 0 d hd)
          · simp at h0
            subst h0
            cases a with
            | none => exact fin hv (run_convert_bytes_nil w t e hu hue 0 cap d hd)
            | some ad =>
              refine fin hv ?_
              rw [run_convert_bytes_string w t d e _ 0 cap hu hue hd]
              have hl := run_loadCells_list (P := P) w ad [] (fun j v hj => by simp at hj)
              rw [run_bytesToString w ad 0 cap [] hl]
              rfl
          · rw [flat_ints] at h3
            refine fin hv ?_
            rw [List.length_map]
            refine run_convert_bytes_arg w t e hu hue b p _ cap ns rfl (fun i hi => ?_) d hd
            obtain ⟨u, hu1, hu2⟩ := h3.get (j := i) (a := .int .u8 (ns.getD i 0)) (by simp [List.getD, List.getElem?_eq_getElem hi])
            rw [h4 i u hu1]
            cases hu2
            rfl
        · cases he
      · cases he
    · cases hf
  · rename_i k hu hd
    cases hf
    simp only [evOp] at he
    split at he
    · rename_i kk n hx
      cases he
      rw [hx] at h
      have h : Rep S (.int kk n) (ρ x) := h
      generalize hvx : ρ x = vx at h
      cases h
      refine done_same hs ?_ (.str _)
      simp only [execOp, ho, hvx]
      exact run_v (by simp [convert, run_underlying hu, run_underlying hd, Conv.intToString])
    · cases he
  · cases hf

end
end Go.Ev
