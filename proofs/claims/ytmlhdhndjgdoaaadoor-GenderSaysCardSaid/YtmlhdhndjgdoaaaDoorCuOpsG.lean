/- The operations, seventh part: append, slice literals, make, stores. -/
import Derived.Test.YtmlhdhndjgdoaaaDoorCuOpsF
import Derived.Laws.MakeOwn
namespace Go.Ev

section
variable {P : Program} {o : Oper} {ρ : Operand → Value} {w : World} {S : Fz} {σ : Locs} {os : Objs} {fr : List SV} {mm : Bool} {call : CallT} {s : SOp} {r : R}

theorem Post.after {os1 : Objs} {S1 : Fz} {v : Value} {w1 : World} (hf : Fr os.length os σ S w os1 σ S1 w) (hl : os1.length = os.length) (h : Post os1 σ S1 w r v w1) : Post os σ S w r v w1 := by
  obtain ⟨S', σ', h1, h2, h3⟩ := h
  exact ⟨S', σ', h1, h2, hf.trans (hl ▸ h3)⟩

/-- A slice seen whole is, frozen, the list that was seen. -/
theorem freeze_elems {x : SV} {xs : List V} {v : V} {os' : Objs} (h : elems os x = some xs) (hf : freezeS os x = some (v, os')) : v = .list xs ∨ (v = .nils ∧ xs = []) := by
  unfold elems at h
  split at h
  · cases h; simp [freezeS, freezeA, depth] at hf; exact .inr ⟨hf.1.symm, rfl⟩
  · cases h; simp [freezeS, freezeA, depth] at hf; exact .inl hf.1.symm
  · split at h
    · rename_i ho; cases h; simp [freezeS, freezeA, depth, ho] at hf; exact .inl hf.1.symm
    · rename_i ho; cases h; simp [freezeS, freezeA, depth, ho] at hf; exact .inl hf.1.symm
    · cases h
  · cases h

/-- What a frozen list yields to append. -/
theorem src_list {xs : List V} {x : Value} {sz : Nat} {u : TypeId} (hs : S.ok w) (hu : ∃ e', P.underlying u = some (.slice e')) (h : Rep S (.list xs) x) :
    ∃ news, Pw (Rep S) (flat xs) news ∧ ((∀ y ∈ xs, y.cells.length = sz) → (flat xs).all V.one = true → Src P sz u x xs.length news w) := by
  obtain ⟨e', hu⟩ := hu
  cases h with
  | list0 a cap =>
    refine ⟨[], Pw.nil, fun _ _ => ?_⟩
    cases a with
    | none => exact Src.ofNil w hu cap
    | some ad => exact Src.ofSlice w hu ad 0 cap [] (by simp) (fun j u h => by simp at h) (fun u h => by cases h)
  | list b p cap sz' vs h1 h2 h3 h4 h5 =>
    refine ⟨vs, ⟨h3, h5⟩, fun hz hone => ?_⟩
    refine Src.ofSlice w hu ⟨b, p, none⟩ xs.length cap vs (by rw [← h3, flat_length hz]) (fun j u h => by rw [add_plain]; exact hs.cell _ _ _ (h4 j u h)) (reps_one ⟨h3, h5⟩ hone)

theorem src_nils {x : Value} {sz : Nat} {u : TypeId} (hu : ∃ e', P.underlying u = some (.slice e')) (h : Rep S .nils x) : Src P sz u x 0 [] w := by
  obtain ⟨e', hu⟩ := hu
  cases h
  exact Src.ofNil w hu 0

theorem src_str {t : List UInt8} {x : Value} {sz : Nat} {u : TypeId} (hu : (∃ e', P.underlying u = some (.slice e')) ∨ P.underlying u = some .string) (h : Rep S (.str t) x) :
    ∃ news, Pw (Rep S) (flat (t.map fun b => V.int .u8 b.toNat)) news ∧ ((∀ y ∈ t.map (fun b => V.int .u8 b.toNat), y.cells.length = sz) → Src P sz u x (t.map fun b => V.int .u8 b.toNat).length news w) := by
  have hflat : flat (t.map fun b => V.int .u8 b.toNat) = t.map fun b => V.int .u8 b.toNat := by
    have := flat_ints (k := .u8) (t.map fun b => (b.toNat : Int))
    simpa [List.map_map, Function.comp_def] using this
  cases h
  have hsz : (⟨t.toArray⟩ : ByteArray).size = t.length := rfl
  refine ⟨byteCells ⟨t.toArray⟩, ?_, fun hz => ?_⟩
  · rw [hflat]
    refine ⟨by rw [byteCells_length, hsz]; simp, fun j a b ha hb => ?_⟩
    simp only [byteCells, List.getElem?_map] at ha hb
    obtain ⟨c, hc, rfl⟩ := Option.map_eq_some_iff.1 ha
    rw [hc] at hb
    cases hb
    exact .int _ _
  · rw [List.length_map, ← hsz]
    have hfc : ∀ w' : World, (Builtin.firstCells sz (⟨t.toArray⟩ : ByteArray).size (.string ⟨t.toArray⟩)).run P w' = .ok (byteCells ⟨t.toArray⟩).toArray w' := fun w' => firstCells_string ⟨t.toArray⟩ w'
    refine ⟨hu, fun _ => rfl, hfc w, hfc w.drew, ?_, fun u hu => ?_⟩
    · rw [byteCells_length, hsz]
      cases t with
      | nil => simp
      | cons b r =>
        have := hz (.int .u8 b.toNat) (by simp)
        simp [V.cells] at this
        rw [← this, Nat.mul_one]
    · obtain ⟨_, _, rfl⟩ := List.mem_map.1 hu
      rfl

variable (hρ : ∀ x y, cOpd x = some y → relS S σ (opd fr y) (ρ x)) (hs : HeapSim S σ os w)
include hρ hs

theorem ok_app {x y : Operand} {t u : TypeId} {a b : SOpd} (ho : o.op = .call { callee := .builtin .append, args := #[x, y], argTypes := #[t, u] }) (hx : cOpd x = some a) (hy : cOpd y = some b) (hc : cBuiltin P .append [a, b] [t, u] = some s) (he : evOp mm call fr os s = some r) :
    OpDone P (execOp ρ o) w (Post os σ S w r) := by
  have main : ∀ {e : TypeId}, P.underlying t = some (.slice e) → ((∃ e', P.underlying u = some (.slice e')) ∨ P.underlying u = some .string) →
      (match sizeT P e, bytesT P e, zeroOf P e with
      | some n, some m, some z => if n = 0 ∨ m = 0 ∨ m > 65536 ∨ z.cells.length ≠ n then none else some (SOp.app e n a b)
      | _, _, _ => none) = some s → OpDone P (execOp ρ o) w (Post os σ S w r) := by
    intro e ht hu hc
    split at hc
    · rename_i n m z hn hm hz
      split at hc
      · cases hc
      · rename_i hg
        cases hc
        obtain ⟨zv, i, hi, hzv, _, hzr⟩ := zeroOf_run hz
        have hsize : i.size = n := by simp [sizeT, hi] at hn; exact hn
        have hbytes : i.bytes = m := by simp [bytesT, hi] at hm; exact hm
        have hzs : zv.cells.size = n := by
          have := (hzr S).cells.1
          simp only [Array.length_toList] at this
          omega
        have fin : ∀ {v : Value} {w' : World}, (Builtin.append_ #[t, u] o.type #[ρ x, ρ y]).run P w = .ok v w' → (execOp ρ o).run P w = .ok (.value v) w' := fun {v w'} hr => by
          refine run_builtin ho ?_
          simp only [builtin]
          exact run_v (by simpa using hr)
        have h1 := hρ x a hx
        have h2 := hρ y b hy
        simp only [evOp] at he
        split at he
        · rename_i t' hox
          rw [hox] at h2
          obtain ⟨news, hp, hS⟩ := src_str (P := P) (w := w) (sz := n) hu h2
          obtain ⟨v, w', hr, hpost⟩ := appendA_ok (ty := o.type) hs h1 ht hi hzv hsize (by omega) hzs (by omega) hp (fun hz _ => hS hz) he
          exact .inl ⟨v, w', fin hr, hpost⟩
        · rename_i sv hnstr
          split at he
          · rename_i ys hys
            split at he
            · rename_i v0 os1 hf
              obtain ⟨S1, k1, k2, k3, k4⟩ := freezeS_ok hf hs h2
              have h1' := relS.mono k3.le (.refl _) h1
              have conv : ∀ {m : Nat} {news : List Value}, Src P n t (ρ y) m news w → Src P n u (ρ y) m news w := fun h => ⟨hu, h.len, h.cells, h.cellsD, h.newsLen, h.one⟩
              rcases freeze_elems hys hf with rfl | ⟨rfl, rfl⟩
              · obtain ⟨news, hp, hS⟩ := src_list (P := P) (w := w) (sz := n) k1.frz ⟨_, ht⟩ k2
                obtain ⟨v, w', hr, hpost⟩ := appendA_ok (ty := o.type) k1 h1' ht hi hzv hsize (by omega) hzs (by omega) hp (fun a b => conv (hS a b)) he
                exact .inl ⟨v, w', fin hr, Post.after k3 k4 hpost⟩
              · have hS := src_nils (P := P) (w := w) (sz := n) ⟨_, ht⟩ k2
                obtain ⟨v, w', hr, hpost⟩ := appendA_ok (ty := o.type) k1 h1' ht hi hzv hsize (by omega) hzs (by omega) (ys := []) Pw.nil (fun _ _ => conv hS) he
                exact .inl ⟨v, w', fin hr, Post.after k3 k4 hpost⟩
            · cases he
          · cases he
    · cases hc
  simp only [cBuiltin] at hc
  split at hc
  · rename_i e e' hu1 hu2
    exact main hu1 (.inl ⟨_, hu2⟩) hc
  · rename_i e hu1 hu2
    exact main hu1 (.inr hu2) hc
  · cases hc

omit hρ hs in
theorem splice_right {α : Type} (a b xs : List α) (k : Nat) : Ev.splice (a ++ b) (a.length + k) xs = a ++ Ev.splice b k xs := by
  unfold Ev.splice
  rw [List.take_length_add_append, Nat.add_assoc, List.drop_length_add_append]
  simp only [List.append_assoc]

omit hρ hs in
theorem flat_set {sz : Nat} : ∀ {xs : List V} {i : Nat} {y : V}, (∀ x ∈ xs, x.cells.length = sz) → y.cells.length = sz → i < xs.length → flat (xs.set i y) = Ev.splice (flat xs) (i * sz) y.cells := by
  intro xs
  induction xs with
  | nil => intro i y _ _ h; simp at h
  | cons x r ih =>
    intro i y hz hy hi
    have hx : x.cells.length = sz := hz x (by simp)
    have e : ∀ (a : V) (l : List V), flat (a :: l) = a.cells ++ flat l := fun a l => by simp [flat]
    cases i with
    | zero =>
      simp only [List.set_cons_zero, e, Ev.splice, Nat.zero_mul, List.take_zero, List.nil_append, Nat.zero_add, hy]
      rw [List.drop_append, List.drop_eq_nil_of_le (by omega), hx]
      simp
    | succ i =>
      simp only [List.set_cons_succ, e]
      rw [ih (fun a ha => hz a (by simp [ha])) hy (by simpa using hi), Nat.succ_mul, Nat.add_comm, ← hx, splice_right]

omit hs in
theorem litP_ok {sz : Nat} : ∀ (parts : List (Nat × Operand)) (ps : List (Nat × SOpd)) (os : Objs) (xs ys : List V) (os' : Objs) (S1 : Fz) (cells : Array Value), cLit parts = some ps → litP fr sz os xs ps = some (ys, os') → S.le S1 → HeapSim S1 σ os w →
    (∀ x ∈ xs, x.cells.length = sz) → Pw (Rep S1) (flat xs) cells.toList →
    ∃ S2 cells', Instr.fill (fun i => some (i * sz, sz)) cells (parts.map fun (i, x) => (i, ρ x)) = some cells' ∧ HeapSim S2 σ os' w ∧ Pw (Rep S2) (flat ys) cells'.toList ∧ (∀ y ∈ ys, y.cells.length = sz) ∧ ys.length = xs.length ∧ Fr os.length os σ S1 w os' σ S2 w ∧ os'.length = os.length := by
  intro parts
  induction parts with
  | nil =>
    intro ps os xs ys os' S1 cells hc hl hle hs hz hp
    simp only [cLit, Option.some.injEq] at hc
    subst hc
    simp only [litP, Option.some.injEq, Prod.mk.injEq] at hl
    obtain ⟨rfl, rfl⟩ := hl
    exact ⟨S1, cells, rfl, hs, hp, hz, rfl, .refl (Nat.le_refl _), rfl⟩
  | cons p rest ih =>
    intro ps os xs ys os' S1 cells hc hl hle hs hz hp
    obtain ⟨i, x⟩ := p
    simp only [cLit] at hc
    split at hc
    · rename_i y l hy hl'
      cases hc
      simp only [litP] at hl
      split at hl
      · rename_i v os1 hf
        split at hl
        · rename_i hg
          obtain ⟨S2, k1, k2, k3, k4⟩ := freezeS_ok hf hs (relS.mono hle (.refl _) (hρ x y hy))
          have hcl := k2.cells
          have hlen := hcl.1
          have hlc := hp.1
          rw [flat_length hz] at hlc
          simp only [Array.length_toList] at hlen hlc
          have hfit : i * sz + sz ≤ xs.length * sz := by rw [← Nat.succ_mul]; exact Nat.mul_le_mul_right _ hg.2
          have hsp := fold_splice (i * sz) (ρ x) cells (by omega)
          have hfs := flat_set hz hg.1 hg.2
          obtain ⟨S3, cells', h1, h2, h3, h4, h5, h6, h7⟩ := ih l os1 (xs.set i v) ys os' S2 ((ρ x).cells.zipIdx.foldl (fun cs (x : Value × Nat) => cs.setIfInBounds (i * sz + x.2) x.1) cells) hl' hl (hle.trans k3.le) k1
            (fun a ha => by
              rcases List.mem_or_eq_of_mem_set ha with ha | ha
              · exact hz a ha
              · rw [ha]; exact hg.1)
            (by rw [hsp, hfs]; exact (hp.mono fun _ _ => Rep.mono k3.le).splice hcl _)
          refine ⟨S3, cells', ?_, h2, h3, h4, by rw [h5]; simp, k3.trans (k4 ▸ h6), h7.trans k4⟩
          simp only [List.map_cons]
          unfold Instr.fill
          simp only
          rw [if_neg (by simp; omega)]
          exact h1
        · cases hl
      · cases hl
    · cases hc

theorem ok_lit {t : TypeId} {n : Nat} {parts : Array (Nat × Operand)} (ho : o.op = .buildSlice t n parts) {e : TypeId} {sz : Nat} {z : V} {l : List (Nat × SOpd)} (hu : P.underlying t = some (.slice e)) (hsz : sizeT P e = some sz) (hz : zeroOf P e = some z) (hl : cLit parts.toList = some l)
    (hg : ¬ (sz = 0 ∨ n * sz > 16777216 ∨ z.cells.length ≠ sz)) (he : evOp mm call fr os (.lit e sz z n l) = some r) : OpDone P (execOp ρ o) w (Post os σ S w r) := by
  obtain ⟨zv, i, hi, hzv, hzrun, hzr⟩ := zeroOf_run hz
  have hsize : i.size = sz := by simp [sizeT, hi] at hsz; exact hsz
  have hzs : zv.cells.size = sz := by
    have := (hzr S).cells.1
    simp only [Array.length_toList] at this
    omega
  simp only [evOp] at he
  split at he
  · rename_i xs os1 hlit
    cases he
    let cells0 : Array Value := if n * sz = 0 then #[] else (Array.range (n * sz)).map (zv.cells[· % zv.cells.size]!)
    have hc0 : Pw (Rep S) (flat (List.replicate n z)) cells0.toList := by
      have hzf := zeros_flat (n := n) (show z.cells.length = sz by omega)
      by_cases hn0 : n * sz = 0
      · have : n = 0 := by
          rcases Nat.mul_eq_zero.1 hn0 with h | h
          · exact h
          · omega
        subst this
        simp [cells0, flat]
        exact Pw.nil
      · have e0 : cells0 = (Array.range (n * zv.cells.size)).map (zv.cells[· % zv.cells.size]!) := by simp only [cells0, if_neg hn0, hzs]
        rw [e0, range_zeros zv.cells n (by omega), hzf.1]
        have : ∀ m : Nat, Pw (Rep S) (List.replicate m z.cells).flatten (List.replicate m zv.cells.toList).flatten := by
          intro m
          induction m with
          | zero => exact Pw.nil
          | succ m ih => rw [List.replicate_succ, List.replicate_succ, List.flatten_cons, List.flatten_cons]; exact ((hzr S).cells).append ih
        exact this n
    obtain ⟨S2, cells', h1, h2, h3, h4, h5, h6, h7⟩ := litP_ok (w := w) hρ parts.toList l os (List.replicate n z) xs os1 S cells0 hl hlit (.refl S) hs (fun x hx => by rw [(List.mem_replicate.1 hx).2]; omega) hc0
    simp only [List.length_replicate] at h5
    have hrun : (Instr.buildSlice t n (parts.map fun (i, x) => (i, ρ x))).run P w = .ok (.slice (some ⟨w.heap.size, 0, none⟩) n n) (w.alloc (.cells cells' e)) := by
      have h1' : Instr.fill (fun i => some (i * sz, sz)) cells0 (parts.map fun (i, x) => (i, ρ x)).toList = some cells' := by rw [Array.toList_map]; exact h1
      generalize (parts.map fun (i, x) => (i, ρ x)) = pv at h1'
      by_cases hn0 : n * sz = 0
      · simp only [cells0, if_pos hn0] at h1'
        have hn1 : n = 0 := by
          rcases Nat.mul_eq_zero.1 hn0 with h | h
          · exact h
          · omega
        subst hn1
        have e0 : Array.map (fun (_ : Nat) => (default : Value)) (Array.range 0) = #[] := by simp
        simp [Instr.buildSlice, run_underlying hu, sizeT_run hsz, newRow, e0, h1']
      · simp only [cells0, if_neg hn0] at h1'
        exact run_buildSlice w t e n pv cells' i zv hu hi hzv (by rw [hsize]; omega) (by rw [hsize]; exact hn0) (by rw [hsize]; exact h1')
    refine .inl ⟨_, _, by simp only [execOp, ho]; exact run_v hrun, Post.after h6 h7 ?_⟩
    have hcl : cells'.size = n * sz := by
      have := h3.1
      rw [flat_length h4, h5] at this
      simpa using this.symm
    have hml : maxLen = 9223372036854775807 := rfl
    have hnle : n ≤ n * sz := Nat.le_mul_of_pos_right n (by omega)
    exact post_row h2 (by omega) h5 h4 h3 (fun b hb => heap_alloc_old w _ b hb) (by simp) rfl rfl rfl (heap_alloc_new w _) hcl (Nat.le_refl _) (by omega) (List.take_of_length_le (by simp [hcl]))
  · cases he

theorem ok_litF {t : TypeId} {n : Nat} {parts : Array (Nat × Operand)} (ho : o.op = .buildSlice t n parts) {e : TypeId} {xs : List SOpd} (hu : P.underlying t = some (.slice e))
    (hg : parts.toList.map (·.1) = List.range n ∧ 0 < n ∧ n ≤ 16777216 ∧ sizeT P e = some 1 ∧ (zeroOf P e).map (·.cells.length) = some 1) (hxs : cOpds (parts.toList.map (·.2)) = some xs)
    (he : evOp mm call fr os (.litF e xs) = some r) : OpDone P (execOp ρ o) w (Post os σ S w r) := by
  obtain ⟨hidx, hn0, hn, hsz, hz1⟩ := hg
  obtain ⟨z, hz, hzl⟩ := Option.map_eq_some_iff.1 hz1
  obtain ⟨zv, i, hi, hzv, hzrun, hzr⟩ := zeroOf_run hz
  have hsize : i.size = 1 := by simp [sizeT, hi] at hsz; exact hsz
  have hzs : zv.cells.size = 1 := by
    have := (hzr S).cells.1
    simp only [Array.length_toList] at this
    omega
  have hp := cOpds_rel (R := fun y x => relS S σ (opd fr y) (ρ x)) hρ hxs
  simp only [evOp] at he
  split at he
  · rename_i cs hcs
    split at he
    · rename_i hlim
      cases he
      -- the functions
      have key : ∀ (ys : List SOpd) (l : List Operand) (cs : List (FuncId × List At × List At)), Pw (fun y x => relS S σ (opd fr y) (ρ x)) ys l → closL (opds fr ys) = some cs → Pw (relC S σ) cs (l.map ρ) ∧ ∀ v ∈ l.map ρ, v.cells = #[v] := by
        intro ys
        induction ys with
        | nil => intro l cs hp h; simp [opds, closL] at h; subst h; rw [hp.nil_left]; exact ⟨Pw.nil, fun v hv => by cases hv⟩
        | cons y r ih =>
          intro l cs hp h
          obtain ⟨x, l', rfl, h0, hr⟩ := hp.cons_left
          simp only [opds] at h
          unfold closL at h
          split at h
          · rename_i hx; cases hx
          · rename_i f a b r' hx
            simp only [List.cons.injEq] at hx
            obtain ⟨hx, rfl⟩ := hx
            split at h
            · rename_i l2 hl2
              cases h
              rw [hx] at h0
              obtain ⟨i1, i2⟩ := ih l' l2 hr hl2
              refine ⟨Pw.cons h0 i1, fun v hv => ?_⟩
              simp only [List.map_cons, List.mem_cons] at hv
              rcases hv with rfl | hv
              · obtain ⟨va, vb, hv, _⟩ := h0
                rw [hv]; rfl
              · exact i2 v hv
            · cases h
          · cases h
      obtain ⟨k1, k2⟩ := key xs _ cs hp hcs
      have hvl : ((parts.toList.map (·.2)).map ρ).length = n := by
        have := congrArg List.length hidx
        simpa using this
      have hparts : (parts.map fun (i, x) => (i, ρ x)).toList = ((((parts.toList.map (·.2)).map ρ).zipIdx 0).map fun x => (x.2, x.1)) := by
        rw [Array.toList_map]
        apply List.ext_getElem?
        intro k
        have hk := congrArg (fun l => l[k]?) hidx
        simp only [List.getElem?_map, List.getElem?_zipIdx, Nat.zero_add] at hk ⊢
        cases hpk : parts.toList[k]? with
        | none => simp
        | some p =>
          rw [hpk] at hk
          have : k < n := by
            rcases Nat.lt_or_ge k n with h | h
            · exact h
            · rw [List.getElem?_eq_none (by simpa using h)] at hk; cases hk
          simp [this] at hk
          simp [hk]
      have hfill := Great.fill_flat ((parts.toList.map (·.2)).map ρ) ((Array.range (n * i.size)).map (zv.cells[· % zv.cells.size]!)) k2 (by rw [hvl, hsize]; simp)
      have hrun : (Instr.buildSlice t n (parts.map fun (i, x) => (i, ρ x))).run P w = .ok (.slice (some ⟨w.heap.size, 0, none⟩) n n) (w.alloc (.cells ((parts.toList.map (·.2)).map ρ).toArray e)) := by
        refine run_buildSlice w t e n _ _ i zv hu hi hzv (by rw [hsize]; omega) (by rw [hsize]; omega) ?_
        rw [hparts, hsize]
        rw [hsize] at hfill
        exact hfill
      have hcl : cs.length = n := k1.1.trans hvl
      refine .inl ⟨_, _, by simp only [execOp, ho]; exact run_v hrun, post_new (L := ⟨w.heap.size, n, n⟩) hs rfl rfl ⟨_, heap_alloc_new w _, hcl.symm, hcl.symm, ?_⟩ ⟨_, putLoc_self _ _ _, rfl⟩⟩
      exact k1.mono fun _ _ => relC.mono (.refl _) (putLoc_le _ (hs.fit _ (Nat.le_refl _)))
    · cases he
  · cases he

theorem ok_buildSlice {t : TypeId} {n : Nat} {parts : Array (Nat × Operand)} (ho : o.op = .buildSlice t n parts) (hc : cOp P o.op = some s) (he : evOp mm call fr os s = some r) : OpDone P (execOp ρ o) w (Post os σ S w r) := by
  rw [ho] at hc
  have gen : ∀ {e : TypeId}, P.underlying t = some (.slice e) → (match sizeT P e, zeroOf P e, cLit parts.toList with
        | some s, some z, some l => if s = 0 ∨ n * s > 16777216 ∨ z.cells.length ≠ s then none else some (SOp.lit e s z n l)
        | _, _, _ => none) = some s → OpDone P (execOp ρ o) w (Post os σ S w r) := by
    intro e hu h
    split at h
    · rename_i sz z l h1 h2 h3
      split at h
      · cases h
      · rename_i hg
        cases h
        exact ok_lit hρ hs ho hu h1 h2 h3 hg he
    · cases h
  simp only [cOp] at hc
  split at hc
  · rename_i e hu
    split at hc
    · split at hc
      · rename_i hg
        split at hc
        · rename_i xs hxs
          cases hc
          exact ok_litF hρ hs ho hu hg hxs he
        · cases hc
      · cases hc
    · exact gen hu hc
  · cases hc

theorem ok_mksl {t : TypeId} {l c : Operand} (ho : o.op = .makeSlice t l c) (hc : cOp P o.op = some s) (he : evOp mm call fr os s = some r) : OpDone P (execOp ρ o) w (Post os σ S w r) := by
  rw [ho] at hc
  simp only [cOp] at hc
  split at hc
  · rename_i e hu
    split at hc
    · rename_i sz m z hsz hm hz
      split at hc
      · cases hc
      · rename_i hg
        obtain ⟨a, b, ha, hb, hf⟩ := un2_some hc
        cases hf
        obtain ⟨zv, i, hi, hzv, hzrun, hzr⟩ := zeroOf_run hz
        have hsize : i.size = sz := by simp [sizeT, hi] at hsz; exact hsz
        have hbytes : i.bytes = m := by simp [bytesT, hi] at hm; exact hm
        have hzs : zv.cells.size = sz := by
          have := (hzr S).cells.1
          simp only [Array.length_toList] at this
          omega
        simp only [evOp] at he
        split at he
        · rename_i n k hn hk
          obtain ⟨kl, hlv⟩ := asInt_rel (hρ l a ha) hn
          obtain ⟨kc, hcv⟩ := asInt_rel (hρ c b hb) hk
          split at he
          · rename_i hb2
            cases he
            have hlim : lim = 2147483648 := rfl
            have hbk : (i.bytes : Int) * k ≤ 281474976710656 := by
              have h1 : i.bytes * k.toNat ≤ 65536 * 2147483648 := Nat.mul_le_mul (by omega) (by omega)
              have h2 : ((i.bytes * k.toNat : Nat) : Int) = (i.bytes : Int) * k := by rw [Int.natCast_mul, Int.toNat_of_nonneg (by omega)]
              omega
            have hrun := run_make (P := P) w t e i zv hu hi hzv kl kc n k hb2.1 hb2.2.1 hbk (by omega)
            rw [hsize] at hrun
            refine .inl ⟨_, _, by simp only [execOp, ho, hlv, hcv]; exact run_v hrun, ?_⟩
            have hzf := zeros_flat (n := n.toNat) (show z.cells.length = sz by omega)
            have hreps : ∀ m : Nat, Pw (Rep S) (List.replicate m z.cells).flatten (List.replicate m zv.cells.toList).flatten := by
              intro m
              induction m with
              | zero => exact Pw.nil
              | succ m ih => rw [List.replicate_succ, List.replicate_succ, List.flatten_cons, List.flatten_cons]; exact ((hzr S).cells).append ih
            have hml : maxLen = 9223372036854775807 := rfl
            have hpos : 0 < zv.cells.size := by omega
            have htake : (madeCells zv.cells (k.toNat * sz)).toList.take (n.toNat * sz) = (List.replicate n.toNat zv.cells.toList).flatten := by
              have e1 : madeCells zv.cells (k.toNat * sz) = (Array.range (k.toNat * zv.cells.size)).map (zv.cells[· % zv.cells.size]!) := by rw [hzs]; simp only [madeCells, hzs]
              rw [e1, range_zeros zv.cells k.toNat hpos]
              have e2 : k.toNat = n.toNat + (k.toNat - n.toNat) := by omega
              rw [e2, ← List.replicate_append_replicate, List.flatten_append]
              have hl : ((List.replicate n.toNat zv.cells.toList).flatten).length = n.toNat * sz := by simp [hzs]
              rw [List.take_append_of_le_length (by omega), List.take_of_length_le (by omega)]
            have := post_row (mm := true) (xs := List.replicate n.toNat z) hs (show 0 < sz by omega) (by simp) (fun x hx => by rw [(List.mem_replicate.1 hx).2]; omega) (by rw [hzf.1]; exact hreps n.toNat) (w1 := w.alloc (.cells (madeCells zv.cells (k.toNat * sz)) e))
              (fun b hb => heap_alloc_old w _ b hb) (by simp) rfl rfl rfl (heap_alloc_new w _) (cap := k.toNat) (size_madeCells _ _) (by omega) (by omega) htake
            simpa using this
          · cases he
        · cases he
    · cases hc
  · cases hc

end
end Go.Ev
