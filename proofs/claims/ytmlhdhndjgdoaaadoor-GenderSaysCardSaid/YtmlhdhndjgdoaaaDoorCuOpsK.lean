/- The operations, last part: the cut expressions, calls; all of them. -/
import Derived.Test.YtmlhdhndjgdoaaaDoorCuOpsJ
namespace Go.Ev

def HasBody (P : Program) (f : FuncId) : Prop := ∃ fn, P.funcs[f]? = some fn ∧ fn.body.isSome = true ∧ (fn.name == "runtime.NumGoroutine") = false


/-- What the evaluator says of a call is so, the package's variables being as they were laid (G). -/
def CallOK (P : Program) (G : Globs) (call : CallT) : Prop :=
  ∀ (f : FuncId) (args : List SV) (os : Objs) (r : R), call f args os = some r → HasBody P f ∧ ∀ (S : Fz) (σ : Locs) (w : World) (vals : List Value), S.g = G → HeapSim S σ os w → Pw (relS S σ) args vals →
    Calls P f vals.toArray w fun e w' => ∃ v, e = .returned v ∧ Post os σ S w r v w'

section
variable {P : Program} {o : Oper} {ρ : Operand → Value} {w : World} {S : Fz} {σ : Locs} {os : Objs} {fr : List SV} {mm : Bool} {call : CallT} {s : SOp} {r : R} {G : Globs}

theorem run_callFunc {f : FuncId} {args : Array Value} (h : HasBody P f) : (callFunc f args).run P w = .ok (.enter f args) w := by
  obtain ⟨fn, h1, h2, h3⟩ := h
  have h3' : ¬ fn.name = "runtime.NumGoroutine" := by simpa using h3
  have h4 : ¬ fn.body = none := by intro h; rw [h] at h2; cases h2
  simp [callFunc, h1, h3', h4]

theorem opds_rel (hρ : ∀ x y, cOpd x = some y → relS S σ (opd fr y) (ρ x)) {l : List Operand} {ys : List SOpd} (h : cOpds l = some ys) : Pw (relS S σ) (opds fr ys) (l.map ρ) := by
  have hp := cOpds_rel (R := fun y x => relS S σ (opd fr y) (ρ x)) hρ h
  rw [opds_eq]
  refine ⟨by simp [hp.1], fun j a b ha hb => ?_⟩
  rw [List.getElem?_map] at ha hb
  obtain ⟨y, hy, rfl⟩ := Option.map_eq_some_iff.1 ha
  obtain ⟨x, hx, rfl⟩ := Option.map_eq_some_iff.1 hb
  exact hp.2 j y x hy hx

variable (hρ : ∀ x y, cOpd x = some y → relS S σ (opd fr y) (ρ x)) (hs : HeapSim S σ os w)
include hρ hs

omit hρ in
theorem done_enter {c : Call} {x : Operand} {f : FuncId} {va vb vals : List Value} {args : List SV} (hG : S.g = G) (hcall : CallOK P G call) (ho : o.op = .call c) (hcal : c.callee = .value x) (hx : ρ x = .func (.func f) va.toArray vb.toArray) (hv : vals = va ++ c.args.toList.map ρ ++ vb)
    (hp : Pw (relS S σ) args vals) (he : call f args os = some r) : OpDone P (execOp ρ o) w (Post os σ S w r) := by
  obtain ⟨hb, hc⟩ := hcall f args os r he
  refine .inr (.inr ⟨f, vals.toArray, ?_, hc S σ w vals hG hs hp⟩)
  have e : va.toArray ++ c.args.map ρ ++ vb.toArray = vals.toArray := by
    rw [hv]
    apply Array.ext'
    simp
  simp only [execOp, ho, resolve, hcal, hx, Deferred.ofValue, Sem.run_bind, Sem.run_pure, Result.andThen_ok, invoke, e]
  exact run_callFunc hb

theorem ok_call {c : Call} (hG : S.g = G) (hcall : CallOK P G call) (ho : o.op = .call c) (hc : cOp P o.op = some s) (he : evOp mm call fr os s = some r) : OpDone P (execOp ρ o) w (Post os σ S w r) := by
  rw [ho] at hc
  simp only [cOp] at hc
  unfold cCall at hc
  split at hc
  · rename_i as has
    have hpa := opds_rel hρ has
    split at hc
    · rename_i f hcal
      split at hc
      · split at hc
        · cases hc
          simp only [evOp] at he
          have hf := hρ (.func f) (.f f) rfl
          obtain ⟨va, vb, h1, h2, h3⟩ := hf
          have e1 := h2.nil_left
          have e2 := h3.nil_left
          subst e1 e2
          exact done_enter hs hG hcall ho hcal h1 (by simp) hpa he
        · cases hc
      · cases hc
    · rename_i x hnf hcal
      split at hc
      · rename_i y hy
        cases hc
        have hx := hρ x y hy
        simp only [evOp] at he
        split at he
        · rename_i g a b hox
          rw [hox] at hx
          obtain ⟨va, vb, h1, h2, h3⟩ := hx
          refine done_enter hs hG hcall ho hcal h1 rfl ?_ he
          exact ((Pw.map_left (f := SV.a) (R := relS S σ) h2).append hpa).append (Pw.map_left (f := SV.a) (R := relS S σ) h3)
        · rename_i g a b hox
          rw [hox] at hx
          have hx : Rep S (.fn g a b) (ρ x) := hx
          generalize hxv : ρ x = xv at hx
          cases hx with
          | fn f va vb h1 h2 h3 h4 =>
            refine done_enter hs hG hcall ho hcal hxv rfl ?_ he
            exact ((Pw.map_left (f := fun x => SV.a (.v x)) (R := relS S σ) ⟨h1, h3⟩).append hpa).append (Pw.map_left (f := fun x => SV.a (.v x)) (R := relS S σ) ⟨h2, h4⟩)
        · cases he
      · cases hc
    · rename_i b hcal
      have hca : c = { callee := .builtin b, args := c.args, argTypes := c.argTypes } := by
        cases c; simp only at hcal; subst hcal; rfl
      have hcs : ∀ {l : List Operand} {ys : List SOpd}, cOpds l = some ys → ∀ a, ys = [a] → ∃ x, l = [x] ∧ cOpd x = some a := by
        intro l ys h a ha
        subst ha
        cases l with
        | nil => simp [cOpds] at h
        | cons x l =>
          simp only [cOpds] at h
          split at h
          · rename_i y l' h1 h2
            simp at h
            obtain ⟨rfl, rfl⟩ := h
            cases l with
            | nil => exact ⟨x, rfl, h1⟩
            | cons x' l => simp only [cOpds] at h2; split at h2 <;> cases h2
          · cases h
      have hcs2 : ∀ {l : List Operand} {ys : List SOpd}, cOpds l = some ys → ∀ a b, ys = [a, b] → ∃ x y, l = [x, y] ∧ cOpd x = some a ∧ cOpd y = some b := by
        intro l ys h a b ha
        subst ha
        cases l with
        | nil => simp [cOpds] at h
        | cons x l =>
          simp only [cOpds] at h
          split at h
          · rename_i y l' h1 h2
            simp at h
            obtain ⟨rfl, rfl⟩ := h
            obtain ⟨x', h3, h4⟩ := hcs h2 b rfl
            exact ⟨x, x', by rw [h3], h1, h4⟩
          · cases h
      have harr : ∀ {l : List Operand}, c.args.toList = l → c.args = l.toArray := fun h => by rw [← h]
      have harrt : ∀ {l : List TypeId}, c.argTypes.toList = l → c.argTypes = l.toArray := fun h => by rw [← h]
      unfold cBuiltin at hc
      split at hc
      · rename_i x t h2
        obtain ⟨x', hl, hx'⟩ := hcs has _ rfl
        refine ok_len hρ hs (x := x') (t := t) ?_ hx' (s := s) (a := x) ?_ he
        · rw [ho, hca, harr hl, harrt h2]
        · simpa only [cBuiltin] using hc
      · rename_i x y t u h2
        obtain ⟨x', y', hl, hx', hy'⟩ := hcs2 has _ _ rfl
        refine ok_app hρ hs (x := x') (y := y') (t := t) (u := u) ?_ hx' hy' (s := s) ?_ he
        · rw [ho, hca, harr hl, harrt h2]
        · simpa only [cBuiltin] using hc
      · rename_i x y
        cases hc
        obtain ⟨x', y', hl, hx', hy'⟩ := hcs2 has _ _ rfl
        refine ok_minmax hρ hs (mx := false) (x := x') (y := y') (ts := c.argTypes) ?_ hx' hy' he
        rw [ho, hca, harr hl]; rfl
      · rename_i x y
        cases hc
        obtain ⟨x', y', hl, hx', hy'⟩ := hcs2 has _ _ rfl
        refine ok_minmax hρ hs (mx := true) (x := x') (y := y') (ts := c.argTypes) ?_ hx' hy' he
        rw [ho, hca, harr hl]; rfl
      · cases hc
    · cases hc
  · cases hc

omit hρ hs in
theorem ba_extract (z : List UInt8) (l h : Nat) : (⟨z.toArray⟩ : ByteArray).extract l h = ⟨((z.drop l).take (h - l)).toArray⟩ := by
  have e : ((⟨z.toArray⟩ : ByteArray).extract l h).data = ((z.drop l).take (h - l)).toArray := by
    rw [ByteArray.data_extract]
    simp [List.extract_toArray, List.extract_eq_take_drop]
  cases hx : (⟨z.toArray⟩ : ByteArray).extract l h
  rw [hx] at e
  simp only at e
  rw [e]

omit hρ hs in
/-- A part of a frozen row. -/
theorem rep_cut {xs : List V} {v : Value} {l h sz : Nat} (hv : Rep S (.list xs) v) (hlh : l ≤ h) (hh : h ≤ xs.length) (hz : (xs.head?.all fun y => y.cells.length == sz) = true) :
    ∃ a cap, v = .slice a xs.length cap ∧ xs.length ≤ cap ∧ Rep S (.list ((xs.drop l).take (h - l))) (.slice (if cap = l then a else a.map (·.add (l * sz))) (h - l) (cap - l)) ∨ (∃ a cap, v = .slice a 0 cap ∧ xs = []) := by
  cases hv with
  | list0 a cap => exact ⟨none, 0, .inr ⟨a, cap, rfl, rfl⟩⟩
  | list b p cap sz' vs h1 h2 h3 h4 h5 =>
    refine ⟨some ⟨b, p, none⟩, cap, .inl ⟨rfl, h2, ?_⟩⟩
    by_cases he : h - l = 0
    · rw [he, List.take_zero]; exact .list0 _ _
    · have hne : xs ≠ [] := fun e => by subst e; simp at hh; omega
      have hz' : ∀ x ∈ xs, x.cells.length = sz := by
        cases xs with
        | nil => exact absurd rfl hne
        | cons y r =>
          simp at hz
          have := h1 y (by simp)
          intro x hx
          rw [h1 x hx]; omega
      have hcl : ¬ cap = l := by omega
      rw [if_neg hcl]
      simp only [Option.map_some, add_plain]
      have hlen : ((xs.drop l).take (h - l)).length = h - l := by simp; omega
      have hfl : flat ((xs.drop l).take (h - l)) = ((flat xs).drop (l * sz)).take ((h - l) * sz) := by
        have aux : ∀ (n : Nat) (ys : List V), (∀ y ∈ ys, y.cells.length = sz) → flat (ys.drop n) = (flat ys).drop (n * sz) ∧ flat (ys.take n) = (flat ys).take (n * sz) := by
          intro n
          induction n with
          | zero => intro ys _; simp [flat]
          | succ n ih =>
            intro ys hy
            cases ys with
            | nil => simp [flat]
            | cons y r =>
              have e : flat (y :: r) = y.cells ++ flat r := by simp [flat]
              have hyl := hy y (by simp)
              obtain ⟨i1, i2⟩ := ih r (fun a ha => hy a (by simp [ha]))
              have e2 : (n + 1) * sz = y.cells.length + n * sz := by rw [Nat.succ_mul, hyl, Nat.add_comm]
              refine ⟨by rw [List.drop_succ_cons, i1, e, e2, List.drop_length_add_append], ?_⟩
              have e3 : flat (y :: r.take n) = y.cells ++ flat (r.take n) := by simp [flat]
              rw [List.take_succ_cons, e3, i2, e, e2, List.take_length_add_append]
        rw [(aux (h - l) (xs.drop l) (fun a ha => hz' a (List.mem_of_mem_drop ha))).2, (aux l xs hz').1]
      have hpw : Pw (Rep S) (flat ((xs.drop l).take (h - l))) ((vs.drop (l * sz)).take ((h - l) * sz)) := by
        rw [hfl]; exact ((show Pw (Rep S) (flat xs) vs from ⟨h3, h5⟩).drop _).take _
      have := Rep.list (S := S) (xs := (xs.drop l).take (h - l)) b (p + l * sz) (cap - l) sz ((vs.drop (l * sz)).take ((h - l) * sz)) (fun x hx => hz' x (List.mem_of_mem_drop (List.mem_of_mem_take hx))) (by rw [hlen]; omega) hpw.1
        (fun j v hj => by
          rw [List.getElem?_take] at hj
          split at hj
          · rw [List.getElem?_drop] at hj
            rw [Nat.add_assoc]; exact h4 _ _ hj
          · cases hj) hpw.2
      rw [hlen] at this
      exact this

omit hρ in
theorem winOf_rel {sz : Nat} {sv : SV} {v : Value} {i o' n : Nat} (h : winOf os sz sv = some (i, o', n)) (hr : relS S σ sv v) : ∃ L, σ i = some L ∧ ∃ a c, v = .slice a n c ∧ n ≤ c ∧ (0 < n → a = some ⟨L.b, o' * sz, none⟩) := by
  unfold winOf at h
  split at h
  · rename_i j
    split at h
    · rename_i e sz' xs hob
      split at h
      · cases h
        obtain ⟨L, hL, hv⟩ := hr
        obtain ⟨⟨h1, h2, h3, vs, h4, h5⟩, _⟩ := hs.loc hob hL
        have hcap : L.len ≤ L.cap := by
          rcases h4.2 with ⟨hq, _⟩ | ⟨g, c, cur, hq, _, _, hc, _⟩
          · cases hq
          · cases hq; exact hc
        exact ⟨L, hL, _, _, by rw [hv, h2], by omega, fun _ => by rw [Nat.zero_mul]⟩
      · cases h
    · cases h
  · rename_i j sz' lo m
    split at h
    · rename_i hsz
      cases h
      obtain ⟨L, hL, a, c, hv, hq⟩ := hr
      exact ⟨L, hL, a, c, hv, by rw [← hsz]; exact hq⟩
    · cases h
  · cases h

theorem ok_slice {t : TypeId} {x : Operand} {lo hi : Option Operand} {mx : Option Operand} (ho : o.op = .slice t x lo hi mx) (hc : cOp P o.op = some s) (he : evOp mm call fr os s = some r) : OpDone P (execOp ρ o) w (Post os σ S w r) := by
  rw [ho] at hc
  cases mx with
  | some _ => simp [cOp] at hc
  | none =>
    simp only [cOp] at hc
    split at hc
    · rename_i y lo' hi' hy hlo hhi
      have hx := hρ x y hy
      unfold cSlice at hc
      split at hc
      · rename_i hu
        cases hc
        simp only [evOp] at he
        split at he
        · rename_i z hox
          split at he
          · rename_i l h hb
            cases he
            rw [hox] at hx
            have hx : Rep S (.str z) (ρ x) := hx
            generalize hxv : ρ x = xv at hx
            cases hx
            obtain ⟨hrun, h1, h2⟩ := run_bounds (P := P) (w := w) (isS := false) hρ hlo hhi hb (Nat.le_refl _)
            refine done_same hs ?_ (.str _)
            simp only [execOp, ho, hxv]
            refine run_v ?_
            have hsz : (⟨z.toArray⟩ : ByteArray).size = z.length := rfl
            simp only [Option.map_none, run_sliceAt_string w t _ _ _ _ hu, Instr.slice, Sem.run_bind, run_underlying hu, Result.andThen_ok, Option.isSome_none, Bool.false_eq_true, if_false, hsz]
            simp [hrun, ba_extract]
          · cases he
        · cases he
      · rename_i e hu
        split at hc
        · rename_i sz hsz
          cases hc
          have hsl : ∀ {a : Option Addr} {len cap l h : Nat}, ρ x = .slice a len cap → len ≤ cap → bounds fr lo' hi' len = some (l, h) →
              (execOp ρ o).run P w = .ok (.value (.slice (if cap = l then a else a.map (·.add (l * sz))) (h - l) (cap - l))) w ∧ l ≤ h ∧ h ≤ len := by
            intro a len cap l h hxv hlc hb
            obtain ⟨hrun, h1, h2⟩ := run_bounds (P := P) (w := w) (isS := true) hρ hlo hhi hb hlc
            refine ⟨?_, h1, h2⟩
            simp only [execOp, ho, hxv]
            refine run_v ?_
            simp only [Option.map_none, Instr.sliceAt, Instr.slice, Sem.run_bind, run_underlying hu, Result.andThen_ok, hrun, sizeT_run hsz]
            rfl
          simp only [evOp] at he
          split at he
          · rename_i i o n hwin
            split at he
            · rename_i l h hb
              cases he
              have hwin : winOf os sz (opd fr y) = some (i, o, n) := by
                split at hwin
                · exact hwin
                · cases hwin
              obtain ⟨L, hL, a, c, hxv, hnc, ha⟩ := winOf_rel hs hwin hx
              obtain ⟨h1, h2, h3⟩ := hsl hxv hnc hb
              refine done_same hs h1 ⟨L, hL, _, _, rfl, by omega, fun hpos => ?_⟩
              have ha := ha (by omega)
              subst ha
              have hcl : ¬ c = l := by omega
              rw [if_neg hcl]
              simp only [Option.map_some, add_plain]
              rw [Nat.add_mul]
            · cases he
          split at he
          · rename_i hox
            split at he
            · rename_i lh hb
              cases he
              rw [hox] at hx
              have hx : Rep S .nils (ρ x) := hx
              generalize hxv : ρ x = xv at hx
              cases hx
              obtain ⟨l, h⟩ := lh
              obtain ⟨h1, h2, h3⟩ := hsl hxv (Nat.le_refl _) hb
              have : l = 0 := by omega
              subst this
              have : h = 0 := by omega
              subst this
              exact done_same hs h1 .nils
            · cases he
          · rename_i sv hnn
            split at he
            · rename_i xs hxs
              split at he
              · rename_i l h hb
                split at he
                · rename_i v0 os1 hfz
                  split at he
                  · rename_i hhead
                    cases he
                    obtain ⟨S1, k1, k2, k3, k4⟩ := freezeS_ok hfz hs hx
                    rcases freeze_elems hxs hfz with rfl | ⟨rfl, rfl⟩
                    · generalize hxv : ρ x = xv at k2
                      cases k2 with
                      | list0 a cap =>
                        obtain ⟨h1, h2, h3⟩ := hsl hxv (Nat.zero_le _) hb
                        have : l = 0 := by simp at h3; omega
                        subst this
                        have : h = 0 := by simpa using h3
                        subst this
                        exact .inl ⟨_, w, h1, Post.after k3 k4 (Post.same k1 (.list0 _ _) rfl)⟩
                      | list b p cap sz' vs q1 q2 q3 q4 q5 =>
                        obtain ⟨h1, h2, h3⟩ := hsl hxv q2 hb
                        obtain ⟨a, cap', hh⟩ := rep_cut (S := S1) (sz := sz) (.list b p cap sz' vs q1 q2 q3 q4 q5) h2 h3 hhead
                        rcases hh with ⟨e1, _, e3⟩ | ⟨_, _, e1, e2⟩
                        · cases e1
                          exact .inl ⟨_, w, h1, Post.after k3 k4 (Post.same k1 e3 rfl)⟩
                        · subst e2
                          have : l = 0 := by simp at h3; omega
                          subst this
                          have : h = 0 := by simpa using h3
                          subst this
                          exact .inl ⟨_, w, h1, Post.after k3 k4 (Post.same k1 (.list0 _ _) rfl)⟩
                    · generalize hxv : ρ x = xv at k2
                      cases k2
                      obtain ⟨h1, h2, h3⟩ := hsl hxv (Nat.le_refl _) hb
                      have : l = 0 := by omega
                      subst this
                      have : h = 0 := by omega
                      subst this
                      exact .inl ⟨_, w, h1, Post.after k3 k4 (Post.same k1 (.list0 _ _) rfl)⟩
                  · cases he
                · cases he
              · cases he
            · cases he
        · cases hc
      · rename_i n e hu
        split at hc
        · rename_i sz g hsz hg
          cases hc
          have fin : ∀ {os1 : Objs} {S1 : Fz} {cs : List V} {l h : Nat}, HeapSim S1 σ os1 w → Rep S1 (.ptr cs) (ρ x) → Fr os.length os σ S w os1 σ S1 w → os1.length = os.length → cs.length = n * sz → sz = 1 → cs.all V.one = true → bounds fr lo' hi' n = some (l, h) →
              OpDone P (execOp ρ o) w (Post os σ S w ⟨.a (.v (.list ((cs.drop l).take (h - l)))), os1⟩) := by
            intro os1 S1 cs l h k1 k2 k3 k4 hcl hs1 hone hb
            subst hs1
            generalize hxv : ρ x = xv at k2
            cases k2 with
            | ptr b p vs q1 q2 q3 =>
              obtain ⟨hrun, h1, h2⟩ := run_bounds (P := P) (w := w) (isS := false) hρ hlo hhi hb (Nat.le_refl _)
              refine .inl ⟨.slice (some (if n = l then ⟨b, p, none⟩ else (⟨b, p, none⟩ : Addr).add (l * 1))) (h - l) (n - l), w, ?_, Post.after k3 k4 (Post.same k1 ?_ rfl)⟩
              · simp only [execOp, ho, hxv]
                refine run_v ?_
                simp only [Option.map_none, Instr.sliceAt, Instr.sureAddr, Sem.run_bind, Sem.run_pure, run_underlying hu, Result.andThen_ok, hrun, sizeT_run hsz]
              · by_cases he0 : h - l = 0
                · show Rep S1 (.list ((cs.drop l).take (h - l))) _
                  rw [he0, List.take_zero]; exact .list0 _ _
                · have hcl' : ¬ n = l := by omega
                  rw [if_neg hcl', add_plain, Nat.mul_one]
                  have hlen : ((cs.drop l).take (h - l)).length = h - l := by simp; omega
                  have hone' : ∀ c ∈ (cs.drop l).take (h - l), c.cells = [c] := fun c hc => by
                    have := List.all_eq_true.1 hone c (List.mem_of_mem_drop (List.mem_of_mem_take hc))
                    cases c <;> first | rfl | (simp [V.one] at this)
                  have hfl : flat ((cs.drop l).take (h - l)) = (cs.drop l).take (h - l) := by
                    have : ∀ (l : List V), (∀ c ∈ l, c.cells = [c]) → flat l = l := by
                      intro l
                      induction l with
                      | nil => intro _; rfl
                      | cons c l ih =>
                        intro hc
                        have e : flat (c :: l) = c.cells ++ flat l := by simp [flat]
                        rw [e, hc c (by simp), ih fun a ha => hc a (by simp [ha])]; rfl
                    exact this _ hone'
                  have hpw : Pw (Rep S1) (flat ((cs.drop l).take (h - l))) ((vs.drop l).take (h - l)) := by
                    rw [hfl]; exact ((show Pw (Rep S1) cs vs from ⟨q1, q3⟩).drop _).take _
                  have := Rep.list (S := S1) (xs := (cs.drop l).take (h - l)) b (p + l) (n - l) 1 ((vs.drop l).take (h - l)) (fun c hc => by rw [hone' c hc]; rfl) (by rw [hlen]; omega) hpw.1
                    (fun j v hj => by
                      rw [List.getElem?_take] at hj
                      split at hj
                      · rw [List.getElem?_drop] at hj
                        rw [Nat.add_assoc]; exact q2 _ _ hj
                      · cases hj) hpw.2
                  rw [hlen] at this
                  exact this
          simp only [evOp] at he
          split at he
          · rename_i i hox
            rw [hox] at hx
            split at he
            · rename_i cs os1 hfz
              obtain ⟨S1, k1, k2, k3, k4⟩ := freezeA_ok depth os _ _ _ S σ w _ hfz hs hx
              split at he
              · rename_i hcl
                split at he
                · rename_i l h hb
                  split at he
                  · rename_i hg2
                    cases he
                    exact fin k1 k2 k3 k4 hcl hg2.1 hg2.2 hb
                  · cases he
                · cases he
              · cases he
            · cases he
          · rename_i cs hox
            rw [hox] at hx
            split at he
            · rename_i hcl
              split at he
              · rename_i l h hb
                split at he
                · rename_i hg2
                  cases he
                  exact fin hs hx (.refl (Nat.le_refl _)) rfl hcl hg2.1 hg2.2 hb
                · cases he
              · cases he
            · cases he
          · cases he
        · cases hc
      · cases hc
    · cases hc

/-- All operations. -/
theorem ok_op (hG : S.g = G) (hcall : CallOK P G call) (he : evOp mm call fr os (cOpB P o.op) = some r) : OpDone P (execOp ρ o) w (Post os σ S w r) := by
  unfold cOpB at he
  cases hc : cOp P o.op with
  | none => rw [hc] at he; simp [evOp] at he
  | some s =>
    rw [hc] at he
    simp only [Option.getD_some] at he
    cases ho : o.op with
    | move x => exact ok_mv hρ hs (.inl ho) (by rw [ho] at hc; simpa only [cOp] using hc) he
    | assign x => exact ok_mv hρ hs (.inr ho) (by rw [ho] at hc; simpa only [cOp] using hc) he
    | pick a b c => exact ok_pick hρ hs ho hc he
    | alloc t => exact ok_alloc hs ho hc he
    | box t x => exact ok_box hρ hs ho hc he
    | build t ps => exact ok_build hρ hs ho hc he
    | buildSlice t n ps => exact ok_buildSlice hρ hs ho hc he
    | load t x => exact ok_ld hρ hs ho hc he
    | store t x v => exact ok_st hρ hs ho hc he
    | nilCheck x => exact ok_nchk hρ hs ho hc he
    | binOp op t x y u => exact ok_bin hρ hs ho hc he
    | unOp op t x => exact ok_un hρ hs ho hc he
    | convert a b x => exact ok_conv hρ hs ho hc he
    | sliceToArrayPointer t x => exact ok_s2a hρ hs ho hc he
    | makeInterface t x => exact ok_mkif hρ hs ho hc he
    | makeFunc f a b => exact ok_clo hρ hs ho hc he
    | makeMap t x => exact ok_mkmap hs ho hc he
    | makeSlice t a b => exact ok_mksl hρ hs ho hc he
    | slice t x lo hi mx => exact ok_slice hρ hs ho hc he
    | fieldAddr t x f => exact ok_fadr hρ hs ho hc he
    | field t x f => exact ok_fld hρ hs ho hc he
    | indexAddr t x i => exact ok_iadr hρ hs ho hc he
    | index t x i => exact ok_idx hρ hs ho hc he
    | lookup t x i ok => exact ok_look hρ hs ho hc he
    | mapUpdate t m k v => exact ok_mupd hρ hs (.inl ho) hc he
    | insert t m k v => exact ok_mupd hρ hs (.inr ho) hc he
    | mapEntry t m k => exact ok_ment hρ hs ho hc he
    | entryStore t m i v => exact ok_esto hρ hs ho hc he
    | range t x => exact ok_rng hρ hs ho hc he
    | next x b => exact ok_nxt hρ hs ho hc he
    | extract x i => exact ok_ext hρ hs ho hc he
    | call c => exact ok_call hρ hs hG hcall ho hc he
    | _ => rw [ho] at hc; simp [cOp] at hc

end
end Go.Ev
