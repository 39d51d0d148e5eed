/- The operations, fifth part: built-ins that only compute; aggregates; new objects. -/
import Derived.Test.YtmlhdhndjgdoaaaDoorCuOpsD
import Derived.Great.BuildSlice
import Derived.Lib.MinMax
import Derived.Lib.OthersKept
import Derived.WideMake
namespace Go.Ev

section
variable {P : Program} {o : Oper} {ρ : Operand → Value} {w : World} {S : Fz} {σ : Locs} {os : Objs} {fr : List SV} {mm : Bool} {call : CallT} {s : SOp} {r : R}

theorem run_builtin {b : Builtin} {args : Array Operand} {ts : Array TypeId} {v : Value} {w' : World} (ho : o.op = .call { callee := .builtin b, args := args, argTypes := ts })
    (hr : (builtin b ts o.type (args.map fun | .const _ => true | _ => false) (args.map ρ)).run P w = .ok (.value v) w') : (execOp ρ o).run P w = .ok (.value v) w' := by
  simp only [execOp, ho, resolve, invoke, Sem.run_bind, Sem.run_pure, Result.andThen_ok]
  exact hr

theorem zeroOf_run {t : TypeId} {z : V} (h : zeroOf P t = some z) : ∃ zv i, P.info? t = some i ∧ i.zero = some zv ∧ (∀ w, (zeroValue t).run P w = .ok zv w) ∧ ∀ S, Rep S z zv := by
  unfold zeroOf at h
  split at h
  · rename_i i hi
    split at h
    · rename_i zv hz
      exact ⟨zv, i, hi, hz, fun w => by simp [zeroValue, typeInfo, hi, hz], fun S => ofValue_rep h⟩
    · cases h
  · cases h

/-- The cells of so many zeros. -/
theorem zeros_flat {z : V} {n sz : Nat} (hz : z.cells.length = sz) : flat (List.replicate n z) = (List.replicate n z.cells).flatten ∧ (flat (List.replicate n z)).length = n * sz := by
  constructor
  · simp [flat, List.flatMap]
  · rw [flat_length (sz := sz) (fun x hx => by rw [(List.mem_replicate.1 hx).2]; exact hz)]; simp

theorem range_zeros {α : Type} [Inhabited α] (zc : Array α) (n : Nat) (h : 0 < zc.size) : ((Array.range (n * zc.size)).map (zc[· % zc.size]!)).toList = (List.replicate n zc.toList).flatten := by
  induction n with
  | zero => simp
  | succ n ih =>
    rw [List.replicate_succ', List.flatten_append, ← ih]
    apply List.ext_getElem?
    intro k
    simp only [Array.toList_map, Array.toList_range, List.getElem?_map, List.flatten_cons, List.flatten_nil, List.append_nil, Nat.add_mul, Nat.one_mul]
    by_cases hk : k < n * zc.size
    · rw [List.getElem?_append_left (by simpa using hk)]
      simp [hk, show k < n * zc.size + zc.size by omega]
    · by_cases hk2 : k < n * zc.size + zc.size
      · rw [List.getElem?_append_right (by simpa using Nat.le_of_not_lt hk)]
        have e : k % zc.size = k - n * zc.size := by
          have : k = (k - n * zc.size) + n * zc.size := by omega
          rw [this, Nat.add_mul_mod_self_right, Nat.mod_eq_of_lt (by omega)]
          omega
        simp [hk2, e, show k - n * zc.size < zc.size by omega]
      · rw [List.getElem?_eq_none (by simpa using Nat.le_of_not_lt hk2), List.getElem?_eq_none (by simp; omega)]
        rfl

/-- A new object in the next block. -/
theorem post_new {x : Obj} {n : LObj} {sv : SV} {v : Value} {L : Loc} {w1 : World} (hs : HeapSim S σ os w) (hb : L.b = w.heap.size) (hw : w1 = w.alloc x) (hn : ObjSim S (putLoc σ os.length L) n L w1) (hv : relS S (putLoc σ os.length L) sv v) :
    Post os σ S w ⟨sv, os ++ [some n]⟩ v w1 := by
  subst hw
  have hk : ∀ b, b < w.heap.size → (w.alloc x).heap[b]? = w.heap[b]? := fun b hb => heap_alloc_old w x b hb
  exact ⟨S, _, hs.new hk (by omega) hn, hv, Fr.new hk (by omega) (by simp) rfl rfl rfl⟩

variable (hρ : ∀ x y, cOpd x = some y → relS S σ (opd fr y) (ρ x)) (hs : HeapSim S σ os w)
include hρ hs

omit hρ in
theorem ok_alloc {t : TypeId} (ho : o.op = .alloc t) (hc : cOp P o.op = some s) (he : evOp mm call fr os s = some r) : OpDone P (execOp ρ o) w (Post os σ S w r) := by
  rw [ho] at hc
  simp only [cOp] at hc
  split at hc
  · rename_i z hz
    cases hc
    simp only [evOp, Option.some.injEq] at he
    subst he
    obtain ⟨zv, i, h1, h2, h3, h4⟩ := zeroOf_run hz
    refine .inl ⟨.pointer (some ⟨w.heap.size, 0, none⟩), w.alloc (.cells zv.cells t), ?_, post_new (L := ⟨w.heap.size, 0, 0⟩) hs rfl rfl ⟨zv.cells, heap_alloc_new w _, ?_⟩ ⟨_, putLoc_self _ _ _, rfl⟩⟩
    · simp only [execOp, ho]
      exact run_v (by simp [Instr.alloc, h3, newVar, newRow])
    · exact relAs_v (h4 S).cells
  · cases hc

theorem ok_box {t : TypeId} {x : Operand} (ho : o.op = .box t x) (hc : cOp P o.op = some s) (he : evOp mm call fr os s = some r) : OpDone P (execOp ρ o) w (Post os σ S w r) := by
  rw [ho] at hc
  simp only [cOp] at hc
  split at hc
  · obtain ⟨y, hy, hf⟩ := un1_some hc
    cases hf
    simp only [evOp] at he
    split at he
    · rename_i cs hcs
      split at he
      · cases he
        have h := (hρ x y hy).cells hcs
        refine .inl ⟨.pointer (some ⟨w.heap.size, 0, none⟩), w.alloc (.cells (ρ x).cells t), ?_, post_new (L := ⟨w.heap.size, 0, 0⟩) hs rfl rfl ⟨(ρ x).cells, heap_alloc_new w _, ?_⟩ ⟨_, putLoc_self _ _ _, rfl⟩⟩
        · simp only [execOp, ho]
          exact run_v (by simp [Instr.box, newVar, newRow])
        · exact relAs.mono (.refl _) (putLoc_le _ (hs.fit _ (Nat.le_refl _))) h
      · cases he
    · cases he
  · cases hc

omit hρ in
theorem ok_mkmap {t : TypeId} {x : Option Operand} (ho : o.op = .makeMap t x) (hc : cOp P o.op = some s) (he : evOp mm call fr os s = some r) : OpDone P (execOp ρ o) w (Post os σ S w r) := by
  rw [ho] at hc
  cases x with
  | some x => simp [cOp] at hc
  | none =>
    simp only [cOp, Option.some.injEq] at hc
    subst hc
    simp only [evOp, Option.some.injEq] at he
    subst he
    refine .inl ⟨.map (some w.heap.size), w.alloc (.map #[] 0), ?_, post_new (L := ⟨w.heap.size, 0, 0⟩) hs rfl rfl ⟨fun _ e he => (by cases he), #[], heap_alloc_new w _, rfl, ?_, ?_⟩ ⟨_, putLoc_self _ _ _, rfl⟩⟩
    · simp only [execOp, ho]
      exact run_v (run_makeMap_plain w t)
    · intro j e h; simp at h
    · intro j k x e h; simp at h

theorem ok_rng {t : TypeId} {x : Operand} (ho : o.op = .range t x) (hc : cOp P o.op = some s) (he : evOp mm call fr os s = some r) : OpDone P (execOp ρ o) w (Post os σ S w r) := by
  rw [ho] at hc
  simp only [cOp] at hc
  split at hc
  · rename_i hu
    obtain ⟨y, hy, hf⟩ := un1_some hc
    cases hf
    have h := hρ x y hy
    simp only [evOp] at he
    split at he
    · rename_i z hx
      cases he
      rw [hx] at h
      have h : Rep S (.str z) (ρ x) := h
      generalize hv : ρ x = v at h
      cases h
      refine .inl ⟨.pointer (some ⟨w.heap.size, 0, none⟩), w.iter ⟨z.toArray⟩ 0, ?_, post_new (L := ⟨w.heap.size, 0, 0⟩) hs rfl rfl (World.iter_heap w _ 0) ⟨_, putLoc_self _ _ _, rfl⟩⟩
      simp only [execOp, ho, hv]
      exact run_v (run_range_string w t _ hu)
    · cases he
  · cases hc

theorem ok_nxt {x : Operand} {b : Bool} (ho : o.op = .next x b) (hc : cOp P o.op = some s) (he : evOp mm call fr os s = some r) : OpDone P (execOp ρ o) w (Post os σ S w r) := by
  rw [ho] at hc
  cases b with
  | false => simp [cOp] at hc
  | true =>
    obtain ⟨y, hy, hf⟩ := un1_some (by simpa only [cOp] using hc)
    cases hf
    have h := hρ x y hy
    simp only [evOp] at he
    split at he
    · rename_i i hx
      rw [hx] at h
      obtain ⟨L, hL, hv⟩ := h
      split at he
      · rename_i z pos hob
        have hit : w.heap[L.b]? = some (.stringIter ⟨z.toArray⟩ pos) := (hs.loc hob hL).1
        have hz : (⟨z.toArray⟩ : ByteArray).size = z.length := by simp [ByteArray.size]
        split at he
        · rename_i hlt
          cases he
          have hother : ∀ b, b ≠ L.b → (w.iterAt L.b ⟨z.toArray⟩ (pos + (Utf8.decode ⟨z.toArray⟩ pos).2)).heap[b]? = w.heap[b]? := fun b hb => by
            simp [World.iterAt, Ne.symm hb]
          refine .inl ⟨_, _, by simp only [execOp, ho, hv]; exact run_v (Lib.run_next_any_at w L.b _ pos o.type hit (by omega)), S, σ, ?_, ?_, ?_⟩
          · refine hs.put (o' := .iter z _) hob hL hother ?_ (Lib.iterAt_heap w L.b _ pos _ hit) rfl
            intro j v hj
            have := (hs.loc hob hL).2.cell j (Nat.zero_le _)
            rw [this] at hj; cases hj
          · exact Rep.mk_tup (Pw.cons (.bool _) (Pw.cons (.int _ _) (Pw.cons (.int _ _) Pw.nil)))
          · exact Fr.put hob hL hother (by simp [World.iterAt]) rfl rfl rfl
        · rename_i hlt
          cases he
          refine done_same hs (by simp only [execOp, ho, hv]; exact run_v (Lib.run_next_end_at w L.b _ pos o.type hit (by omega))) (Rep.mk_tup (Pw.cons (.bool _) Pw.nil))
      · cases he
    · cases he

omit hρ hs in
theorem fold_splice (off : Nat) (v : Value) (cells : Array Value) (h : off + v.cells.size ≤ cells.size) : (v.cells.zipIdx.foldl (fun cs (x : Value × Nat) => cs.setIfInBounds (off + x.2) x.1) cells).toList = splice cells.toList off v.cells.toList := by
  rw [← Array.foldl_toList, Array.toList_zipIdx]
  obtain ⟨h1, h2⟩ := Great.foldl_set off v.cells.toList 0 cells
  apply List.ext_getElem?
  intro k
  rw [Array.getElem?_toList, h2 k]
  unfold splice
  simp only [Nat.add_zero, Array.length_toList]
  by_cases hk : off ≤ k ∧ k < off + v.cells.size
  · rw [if_pos ⟨hk.1, hk.2, by omega⟩, List.append_assoc, List.getElem?_append_right (by simp; omega), List.getElem?_append_left (by simp; omega)]
    congr 1
    simp; omega
  · rw [if_neg (by omega), List.append_assoc]
    by_cases hlt : k < off
    · rw [List.getElem?_append_left (by simp; omega), List.getElem?_take, if_pos hlt]
      simp
    · rw [List.getElem?_append_right (by simp; omega), List.getElem?_append_right (by simp; omega), List.getElem?_drop]
      rw [← Array.getElem?_toList]
      congr 1
      simp; omega

omit hρ hs in
theorem Pw.splice {α β : Type} {R : α → β → Prop} {as xs : List α} {bs ys : List β} (h : Pw R as bs) (k : Pw R xs ys) (off : Nat) : Pw R (Ev.splice as off xs) (Ev.splice bs off ys) := by
  unfold Ev.splice
  rw [k.1]
  exact ((h.take off).append k).append (h.drop _)

omit hs in
theorem fill_ok {place : Nat → Option (Nat × Nat)} : ∀ (parts : List (Nat × Operand)) (ps : List (Nat × Nat × SOpd)) (cells : Array Value) (cs cs' : List At), cParts place parts = some ps → Pw (relA S σ) cs cells.toList → buildP fr cs ps = some cs' →
    ∃ cells', Instr.fill place cells (parts.map fun (i, x) => (i, ρ x)) = some cells' ∧ Pw (relA S σ) cs' cells'.toList := by
  intro parts
  induction parts with
  | nil =>
    intro ps cells cs cs' h hp hb
    simp only [cParts, Option.some.injEq] at h
    subst h
    simp only [buildP, Option.some.injEq] at hb
    subst hb
    exact ⟨cells, rfl, hp⟩
  | cons p rest ih =>
    intro ps cells cs cs' h hp hb
    obtain ⟨i, x⟩ := p
    simp only [cParts] at h
    split at h
    · rename_i off sz y l h1 h2 h3
      cases h
      simp only [buildP] at hb
      split at hb
      · rename_i ys hys
        split at hb
        · rename_i hg
          have hc := (hρ x y h2).cells hys
          have hl := hc.1
          have hl2 := hp.1
          simp only [Array.length_toList] at hl hl2
          have hsp := fold_splice off (ρ x) cells (by omega)
          obtain ⟨cells', h4, h5⟩ := ih l ((ρ x).cells.zipIdx.foldl (fun cs (x : Value × Nat) => cs.setIfInBounds (off + x.2) x.1) cells) (Ev.splice cs off ys) cs' h3 (by rw [hsp]; exact hp.splice hc off) hb
          refine ⟨cells', ?_, h5⟩
          simp only [List.map_cons]
          unfold Instr.fill
          simp only [h1]
          rw [if_neg (by simp; omega)]
          exact h4
        · cases hb
      · cases hb
    · cases h

theorem ok_build {t : TypeId} {parts : Array (Nat × Operand)} (ho : o.op = .build t parts) (hc : cOp P o.op = some s) (he : evOp mm call fr os s = some r) : OpDone P (execOp ρ o) w (Post os σ S w r) := by
  rw [ho] at hc
  simp only [cOp] at hc
  unfold cBuild at hc
  split at hc
  · rename_i z hz
    obtain ⟨zv, i, h1, h2, h3, h4⟩ := zeroOf_run hz
    have hzc := (h4 S).cells
    have fin : ∀ {place : Nat → Option (Nat × Nat)} {ps : List (Nat × Nat × SOpd)}, cParts place parts.toList = some ps → s = .build z ps → (∀ (pv : Array (Nat × Value)) (cells : Array Value), Instr.fill place zv.cells pv.toList = some cells → (Instr.build t pv).run P w = .ok (.agg cells) w) →
        OpDone P (execOp ρ o) w (Post os σ S w r) := by
      intro place ps hps hs' hrun
      subst hs'
      simp only [evOp] at he
      split at he
      · rename_i cs hcs
        cases he
        obtain ⟨cells, k1, k2⟩ := fill_ok hρ parts.toList ps zv.cells _ cs hps (relAs_v hzc) hcs
        refine done_same (v := .agg cells) hs ?_ ?_
        · simp only [execOp, ho]
          exact run_v (hrun _ cells (by rw [Array.toList_map]; exact k1))
        · have := rel_mkAgg k2
          simpa using this
      · cases he
    split at hc
    · rename_i fs hu
      split at hc
      · cases hc
      · rename_i hall
        rw [Bool.not_eq_false] at hall
        split at hc
        · rename_i ps hps
          cases hc
          refine fin hps rfl fun pv cells hf => ?_
          have hmap : fs.toList.mapM (fun f => (P.info? f.type).map fun i => (f.offset, i.size)) = some (fs.toList.map fun f => (f.offset, (sizeT P f.type).getD 0)) := by
            have : ∀ (l : List Field), (l.all fun f => (sizeT P f.type).isSome) = true → l.mapM (fun f => (P.info? f.type).map fun i => (f.offset, i.size)) = some (l.map fun f => (f.offset, (sizeT P f.type).getD 0)) := by
              intro l
              induction l with
              | nil => intro _; rfl
              | cons f l ih =>
                intro hl
                simp only [List.all_cons, Bool.and_eq_true] at hl
                obtain ⟨n, hn⟩ := Option.isSome_iff_exists.1 hl.1
                obtain ⟨i, hi, rfl⟩ := sizeT_info hn
                simp [List.mapM_cons, hi, ih hl.2, sizeT]
            exact this _ hall
          have hpl := run_places w _ _ hmap
          have hfun : placeT P fs = fun (x : Nat) => (fs.toList.map fun (f : Field) => (f.offset, (sizeT P f.type).getD 0))[x]? := by
            funext i
            rw [List.getElem?_map, Array.getElem?_toList]
            unfold placeT
            cases hfi : fs[i]? with
            | none => rfl
            | some f =>
              have : (sizeT P f.type).isSome = true := by
                have hm : f ∈ fs.toList := by
                  have := Array.mem_of_getElem? hfi
                  simpa using this
                exact List.all_eq_true.1 hall f hm
              obtain ⟨n, hn⟩ := Option.isSome_iff_exists.1 this
              simp [hn]
          rw [hfun] at hf
          simp [Instr.build, run_underlying hu, h3, Array.mapM_eq_mapM_toList]
          simp only [hpl, Result.andThen_ok]
          simp at hf
          simp [hf]
        · cases hc
    · rename_i n e hu
      split at hc
      · rename_i sz hsz
        split at hc
        · rename_i ps hps
          cases hc
          refine fin hps rfl fun pv cells hf => ?_
          simp [Instr.build, run_underlying hu, h3, sizeT_run hsz, hf]
        · cases hc
      · cases hc
    · cases hc
  · cases hc

theorem ok_len {x : Operand} {t : TypeId} {a : SOpd} (ho : o.op = .call { callee := .builtin .len, args := #[x], argTypes := #[t] }) (hx : cOpd x = some a) (hc : cBuiltin P .len [a] [t] = some s) (he : evOp mm call fr os s = some r) : OpDone P (execOp ρ o) w (Post os σ S w r) := by
  have h := hρ x a hx
  have fin : ∀ {n : Nat}, (Builtin.len_ #[t] o.type #[ρ x]).run P w = .ok (goInt n) w → OpDone P (execOp ρ o) w (Post os σ S w ⟨.a (.v (.int .i64 n)), os⟩) := fun {n} hr => by
    refine done_same hs (v := goInt n) ?_ (.int _ _)
    refine run_builtin ho ?_
    simp only [builtin]
    exact run_v (by simpa using hr)
  simp only [cBuiltin] at hc
  split at hc
  · rename_i n e hu
    cases hc
    simp only [evOp, Option.some.injEq] at he
    subst he
    exact fin (by simp [Builtin.len_, run_underlying hu])
  · rename_i pt hu
    split at hc
    · rename_i n e hu2
      cases hc
      simp only [evOp, Option.some.injEq] at he
      subst he
      exact fin (by simp [Builtin.len_, run_underlying hu, run_underlying hu2])
    · cases hc
  · rename_i hu
    cases hc
    simp only [evOp] at he
    split at he
    · rename_i n hn
      cases he
      simp only [lenV] at hn
      unfold lenS at hn
      split at hn
      · rename_i z hox
        cases hn
        rw [hox] at h
        have h : Rep S (.str z) (ρ x) := h
        generalize hv : ρ x = v at h fin
        cases h
        exact fin (run_len_string w t o.type ⟨z.toArray⟩ hu)
      · cases hn
    · cases he
  · rename_i e hu
    cases hc
    have fin2 : ∀ {n : Nat} {a : Option Addr} {c : Nat}, ρ x = .slice a n c → OpDone P (execOp ρ o) w (Post os σ S w ⟨.a (.v (.int .i64 n)), os⟩) := fun {n a c} hv => fin (by rw [hv]; simp [Builtin.len_, run_underlying hu])
    simp only [evOp] at he
    split at he
    · rename_i n hn
      cases he
      simp only [lenV] at hn
      unfold lenL at hn
      split at hn
      · rename_i hox
        cases hn
        rw [hox] at h
        have h : Rep S .nils (ρ x) := h
        generalize hv : ρ x = v at h
        cases h
        exact fin2 hv
      · rename_i xs hox
        cases hn
        rw [hox] at h
        have h : Rep S (.list xs) (ρ x) := h
        generalize hv : ρ x = v at h
        cases h with
        | list0 => exact fin2 hv
        | list => exact fin2 hv
      · rename_i i hox
        rw [hox] at h
        obtain ⟨L, hL, hv⟩ := h
        split at hn
        · rename_i e' sz xs hob
          cases hn
          rw [(hs.loc hob hL).1.2.1]
          exact fin2 hv
        · rename_i e' sz xs hob
          cases hn
          rw [(hs.loc hob hL).1.2.1]
          exact fin2 hv
        · rename_i e' cs hob
          cases hn
          obtain ⟨⟨c, h1, h2, h3, h4⟩, _⟩ := hs.loc hob hL
          rw [← h2]
          exact fin2 hv
        · cases hn
      · rename_i j sz lo m hox
        rw [hox] at h
        obtain ⟨L, hL, a, c, hv, _⟩ := h
        cases hn
        exact fin2 hv
      · cases hn
    · cases he
  · rename_i kt e hu
    cases hc
    simp only [evOp] at he
    split at he
    · rename_i n hn
      cases he
      simp only [lenV] at hn
      unfold lenM at hn
      split at hn
      · rename_i hox
        cases hn
        rw [hox] at h
        have h : Rep S .nilm (ρ x) := h
        generalize hv : ρ x = v at h fin
        cases h
        exact fin (by simp [Builtin.len_, run_underlying hu])
      · rename_i es hox
        cases hn
        rw [hox] at h
        have h : Rep S (.map es) (ρ x) := h
        generalize hv : ρ x = v at h fin
        cases h with
        | map r ents ks xs hm hl _ _ _ =>
          obtain ⟨c, hb⟩ := hs.frz.mp _ _ hm
          rw [hl]
          exact fin (by simp [Builtin.len_, run_underlying hu, getObj, Sem.run, hb])
      · rename_i i hox
        rw [hox] at h
        obtain ⟨L, hL, hv⟩ := h
        split at hn
        · rename_i es hob
          cases hn
          obtain ⟨⟨_, ents, h1, h2, h3, h4⟩, _⟩ := hs.loc hob hL
          rw [h2]
          rw [hv] at fin
          exact fin (by simp [Builtin.len_, run_underlying hu, getObj, Sem.run, h1])
        · cases hn
      · cases hn
    · cases he
  · cases hc

theorem ok_minmax {mx : Bool} {x y : Operand} {ts : Array TypeId} {a b : SOpd} (ho : o.op = .call { callee := .builtin (if mx then .max else .min), args := #[x, y], argTypes := ts }) (hx : cOpd x = some a) (hy : cOpd y = some b) (he : evOp mm call fr os (.minmax mx a b) = some r) :
    OpDone P (execOp ρ o) w (Post os σ S w r) := by
  have h := hρ x a hx
  have k := hρ y b hy
  simp only [evOp] at he
  split at he
  · rename_i kx n ky m h1 h2
    cases he
    rw [h1] at h
    rw [h2] at k
    have h : Rep S (.int kx n) (ρ x) := h
    have k : Rep S (.int ky m) (ρ y) := k
    generalize hvx : ρ x = vx at h
    generalize hvy : ρ y = vy at k
    cases h
    cases k
    refine done_same hs ?_ (.int _ _)
    refine run_builtin ho ?_
    cases mx with
    | true => simp [builtin, hvx, hvy, Builtin.max_, Builtin.max2]
    | false => simp [builtin, hvx, hvy, Builtin.min_, Builtin.min2]
  · cases he

end
end Go.Ev
