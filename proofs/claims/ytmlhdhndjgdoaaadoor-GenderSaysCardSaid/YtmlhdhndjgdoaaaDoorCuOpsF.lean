/- The operations, sixth part: rows made; stores. -/
import Derived.Test.YtmlhdhndjgdoaaaDoorCuOpsE
import Derived.Laws.CopyRow
import Derived.Deep.AppendSrc
import Derived.Deep.Upon
namespace Go.Ev

theorem relA_one {S : Fz} {σ : Locs} {x : At} {v : Value} (h : relA S σ x v) (hx : x.one = true) : v.oneCell' = true := by
  cases x with
  | v x => exact Rep.one h hx
  | fadr cs o => obtain ⟨_, _, _, _, _, rfl⟩ := h; rfl
  | win i sz lo n => obtain ⟨_, _, _, _, rfl, _⟩ := h; rfl
  | _ => obtain ⟨_, _, rfl⟩ := h; rfl

theorem relAs_one {S : Fz} {σ : Locs} {l : List At} {vs : List Value} (h : Pw (relA S σ) l vs) (hx : l.all At.one = true) : ∀ v ∈ vs, v.oneCell' = true := by
  intro v hv
  obtain ⟨j, hj⟩ := List.mem_iff_getElem?.1 hv
  have hlt : j < l.length := by
    rcases Nat.lt_or_ge j vs.length with h' | h'
    · have := h.1; omega
    · rw [List.getElem?_eq_none h'] at hj; cases hj
  exact relA_one (h.2 j _ v (List.getElem?_eq_getElem hlt) hj) (List.all_eq_true.1 hx _ (List.getElem_mem hlt))

theorem reps_one {S : Fz} {l : List V} {vs : List Value} (h : Pw (Rep S) l vs) (hx : l.all V.one = true) : ∀ v ∈ vs, v.oneCell' = true := by
  intro v hv
  obtain ⟨j, hj⟩ := List.mem_iff_getElem?.1 hv
  have hlt : j < l.length := by
    rcases Nat.lt_or_ge j vs.length with h' | h'
    · have := h.1; omega
    · rw [List.getElem?_eq_none h'] at hj; cases hj
  exact (h.2 j _ v (List.getElem?_eq_getElem hlt) hj).one (List.all_eq_true.1 hx _ (List.getElem_mem hlt))

/-- A new row in a new block: what the call may grow, or write. -/
theorem obj_row {S : Fz} {e : TypeId} {sz n cap b : Nat} {xs : List V} {vs : List Value} {w : World} {cur : Array Value} (hl : xs.length = n) (hz : ∀ x ∈ xs, x.cells.length = sz) (hp : Pw (Rep S) (flat xs) vs)
    (hb : w.heap[b]? = some (.cells cur e (0, 0))) (hc : cur.size = cap * sz) (hn : n ≤ cap) (hm : cap ≤ maxLen) (ht : cur.toList.take (n * sz) = vs) : w.ownsRow 0 e sz (.slice (some ⟨b, 0, none⟩) n cap) n vs := by
  refine ⟨?_, .inr ⟨b, cap, cur, rfl, Nat.zero_le _, hb, hn, hm, hc, ht⟩⟩
  rw [← hp.1, flat_length hz, hl]

/-- What is frozen in a new block. -/
theorem fz_new {S : Fz} {w : World} (h : S.ok w) {b : Nat} (hb : w.heap.size ≤ b) : (∀ j, S.cell b j = none) ∧ S.mp b = none := by
  refine ⟨fun j => ?_, ?_⟩
  · cases hc : S.cell b j with
    | none => rfl
    | some v => have := h.lt (b := b) (.inl ⟨j, v, hc⟩); omega
  · cases hc : S.mp b with
    | none => rfl
    | some v => have := h.lt (b := b) (.inr ⟨v, hc⟩); omega

/-- Cells that are frozen on, in a block of the call's own or a new one. -/
def addFrom (S : Fz) (b : Nat) (vs : List Value) : Fz := ⟨fun b' i => if b' = b then (match S.cell b i with | some v => some v | none => vs[i]?) else S.cell b' i, S.mp, S.g⟩

theorem addFrom_le (S : Fz) (b : Nat) (vs : List Value) : S.le (addFrom S b vs) :=
  ⟨fun b' i v hv => by
    unfold addFrom; simp only
    split
    · rename_i e; subst e; rw [hv]
    · exact hv, fun _ _ h => h, rfl⟩

theorem addFrom_other {S : Fz} {b b' : Nat} {vs : List Value} (h : b' ≠ b) : (∀ j, (addFrom S b vs).cell b' j = S.cell b' j) ∧ (addFrom S b vs).mp b' = S.mp b' := ⟨fun j => by simp [addFrom, h], rfl⟩

theorem addFrom_ok {S : Fz} {b : Nat} {vs : List Value} {w : World} (h : S.ok w) (hv : ∀ j v, vs[j]? = some v → w.cell? ⟨b, j, none⟩ = some v) : (addFrom S b vs).ok w :=
  ⟨fun b' i v hc => by
    unfold addFrom at hc; simp only at hc
    split at hc
    · rename_i e
      subst e
      split at hc
      · rename_i u hu; cases hc; exact h.cell _ _ _ hu
      · exact hv i v hc
    · exact h.cell b' i v hc, h.mp, fun b' i v hg => (addFrom_le S b vs).cell _ _ _ (h.g _ _ _ hg), h.gm⟩

theorem addFrom_lies {S : Fz} {b : Nat} {vs : List Value} {w : World} (h : S.ok w) (hv : ∀ j v, vs[j]? = some v → w.cell? ⟨b, j, none⟩ = some v) : (addFrom S b vs).lies b 0 vs := fun j v hj => by
  rw [Nat.zero_add]
  unfold addFrom
  simp only [if_true]
  split
  · rename_i u hu
    have := h.cell _ _ _ hu
    rw [hv j v hj] at this
    exact this.symm
  · exact hj

section
variable {P : Program} {w : World} {S : Fz} {σ : Locs} {os : Objs}

/-- A new row, whose elements are known, is the call's own: one that grows, or one that is written. -/
theorem post_row {mm : Bool} {e : TypeId} {sz n cap : Nat} {xs : List V} {vs : List Value} {w1 : World} {cur : Array Value} (hs : HeapSim S σ os w) (hsz : 0 < sz) (hl : xs.length = n) (hz : ∀ x ∈ xs, x.cells.length = sz) (hp : Pw (Rep S) (flat xs) vs)
    (hk : ∀ b, b < w.heap.size → w1.heap[b]? = w.heap[b]?) (hsize : w.heap.size ≤ w1.heap.size) (h1 : w1.os = w.os) (h2 : w1.tape = w.tape) (h3 : w1.output = w.output)
    (hb : w1.heap[w.heap.size]? = some (.cells cur e (0, 0))) (hc : cur.size = cap * sz) (hn : n ≤ cap) (hm : cap ≤ maxLen) (ht : cur.toList.take (n * sz) = vs) :
    Post os σ S w ⟨.a (.own os.length), os ++ [some (if mm then .arr e sz xs else .ext e sz xs)]⟩ (.slice (some ⟨w.heap.size, 0, none⟩) n cap) w1 := by
  have hrow := obj_row (S := S) hl hz hp hb hc hn hm ht
  have hfn := fz_new hs.frz (Nat.le_refl w.heap.size)
  cases mm with
  | true => exact ⟨S, _, hs.new (L := ⟨w.heap.size, n, cap⟩) hk (Nat.le_refl _) ⟨hsz, hl, hz, vs, hrow, hp⟩, ⟨_, putLoc_self _ _ _, rfl⟩, Fr.new hk (Nat.le_refl _) hsize h1 h2 h3⟩
  | false =>
    have hcell : ∀ j v, vs[j]? = some v → w1.cell? ⟨w.heap.size, j, none⟩ = some v := fun j v hv => ownsRow_cell hrow hv
    have hle := addFrom_le S w.heap.size vs
    have hno : ¬ Own os σ w.heap.size := by
      rintro ⟨i, x, M, hx, hM, hb⟩
      have := (hs.loc hx hM).1.lt; omega
    have hg := hs.grown hk
    have hm' := hg.more (S' := addFrom S w.heap.size vs) hno hle (addFrom_ok hg.frz hcell) fun b hb => addFrom_other hb
    refine ⟨addFrom S w.heap.size vs, putLoc σ os.length ⟨w.heap.size, n, cap⟩, ?_, ⟨_, putLoc_self _ _ _, rfl⟩, ?_⟩
    · -- the row itself is an own object now
      have hn' : σ os.length = none := hs.fit _ (Nat.le_refl _)
      have hlo := putLoc_le ⟨w.heap.size, n, cap⟩ hn'
      refine ⟨hm'.frz, fun i x hx => ?_, fun i j x y M M' hx hy hM hM' he => ?_, fun i hi => ?_⟩
      · rw [obj_append_one] at hx
        split at hx
        · rename_i hi; subst hi; cases hx
          refine ⟨_, putLoc_self _ _ _, ⟨hsz, hl, hz, vs, hrow, hp.mono fun _ _ => Rep.mono hle, addFrom_lies hg.frz hcell⟩, ⟨fun j hj => ?_, hfn.2⟩⟩
          simp only [addFrom, if_true, hfn.1]
          have : vs.length ≤ j := by rw [hrow.1]; exact hj
          exact List.getElem?_eq_none this
        · rename_i hi
          obtain ⟨M, h1, h2, h3⟩ := hm'.ob i x hx
          exact ⟨M, hlo _ _ h1, h2.mono (.refl _) hlo rfl, h3⟩
      · rw [obj_append_one] at hx hy
        split at hx <;> split at hy
        · omega
        · rename_i hi hj
          subst hi
          rw [putLoc_self] at hM; cases hM
          rw [putLoc_ne _ _ hj] at hM'
          have := (hs.loc hy hM').1.lt; simp at he; omega
        · rename_i hi hj
          subst hj
          rw [putLoc_self] at hM'; cases hM'
          rw [putLoc_ne _ _ hi] at hM
          have := (hs.loc hx hM).1.lt; simp at he; omega
        · rename_i hi hj
          rw [putLoc_ne _ _ hi] at hM
          rw [putLoc_ne _ _ hj] at hM'
          exact hs.inj i j x y M M' hx hy hM hM' he
      · simp at hi
        rw [putLoc_ne _ _ (by omega)]
        exact hs.fit i (by omega)
    · have g := Fr.new (S := S) (σ := σ) (os := os) (w := w) (w' := w1) (o := .ext e sz xs) (L := ⟨w.heap.size, n, cap⟩) hk (Nat.le_refl _) hsize h1 h2 h3
      refine ⟨hle, g.loc, g.len, g.dead, g.size, g.so, g.tape, g.output, fun b hb hn => ?_, g.own⟩
      have hne : b ≠ w.heap.size := by omega
      exact ⟨hk b hb, (addFrom_other hne).1, (addFrom_other hne).2⟩
/-- An own object goes over into another, in the same block. -/
theorem post_moved {S' : Fz} {i : Nat} {o o' : LObj} {L L' : Loc} {w1 : World} {sv : SV} {v : Value} (h : HeapSim S σ os w) (hi : obj os i = some o) (hL : σ i = some L) (hb : L'.b = L.b) (hk : ∀ b, b ≠ L.b → w1.heap[b]? = w.heap[b]?)
    (hsize : w.heap.size ≤ w1.heap.size) (h1 : w1.os = w.os) (h2 : w1.tape = w.tape) (h3 : w1.output = w.output)
    (hle : S.le S') (hother : ∀ b, b ≠ L.b → (∀ j, S'.cell b j = S.cell b j) ∧ S'.mp b = S.mp b) (hok : S'.ok w1) (ho : ObjSim S' (putLoc σ os.length L') o' L' w1) (hf : S'.free o' L') (hv : relS S' (putLoc σ os.length L') sv v) :
    Post os σ S w ⟨sv, os.set i none ++ [some o']⟩ v w1 := by
  have hlt := obj_lt hi
  have hn' : σ os.length = none := h.fit _ (Nat.le_refl _)
  have hlo := putLoc_le L' hn'
  have hlen : (os.set i none).length = os.length := by simp
  have key : ∀ {j x}, obj (os.set i none ++ [some o']) j = some x → (j = os.length ∧ x = o') ∨ (j ≠ os.length ∧ j ≠ i ∧ obj os j = some x) := fun {j x} hx => by
    rw [obj_append_one, hlen] at hx
    split at hx
    · rename_i e; cases hx; exact .inl ⟨e, rfl⟩
    · rename_i e; exact .inr ⟨e, (obj_set_none hx).1, (obj_set_none hx).2⟩
  refine ⟨S', putLoc σ os.length L', ⟨hok, fun j x hx => ?_, fun j k x y M M' hx hy hM hM' he => ?_, fun j hj => ?_⟩, hv, ⟨hle, fun j hj => putLoc_ne _ _ (by omega), by simp, fun j hj hd => ?_, hsize, h1, h2, h3, fun b hb2 hno => ?_, ?_⟩⟩
  · rcases key hx with ⟨rfl, rfl⟩ | ⟨h4, h5, hx⟩
    · exact ⟨L', putLoc_self _ _ _, ho, hf⟩
    · obtain ⟨M, h6, h7, h8⟩ := h.ob j x hx
      have hne : M.b ≠ L.b := fun hb => h5 (h.inj j i x o M L hx hi h6 hL hb)
      exact ⟨M, hlo _ _ h6, h7.mono hle hlo (hk _ hne), h8.mono (hother _ hne).1 (hother _ hne).2⟩
  · rcases key hx with ⟨e1, e2⟩ | ⟨h4, h5, hx2⟩ <;> rcases key hy with ⟨e3, e4⟩ | ⟨k4, k5, hy2⟩
    · omega
    · rw [e1, putLoc_self] at hM; cases hM
      rw [putLoc_ne _ _ k4] at hM'
      exact absurd (h.inj k i y o M' L hy2 hi hM' hL (he.symm.trans hb)) k5
    · rw [e3, putLoc_self] at hM'; cases hM'
      rw [putLoc_ne _ _ h4] at hM
      exact absurd (h.inj j i x o M L hx2 hi hM hL (he.trans hb)) h5
    · rw [putLoc_ne _ _ h4] at hM
      rw [putLoc_ne _ _ k4] at hM'
      exact h.inj j k x y M M' hx2 hy2 hM hM' he
  · simp at hj
    rw [putLoc_ne _ _ (by omega)]
    exact h.fit j (by omega)
  · rw [obj_append_left _ (by simpa using hj), obj_set hlt]
    split
    · rfl
    · exact hd
  · have hne : b ≠ L.b := fun e => hno ⟨i, o, L, hi, hL, e.symm⟩
    exact ⟨hk b hne, hother b hne⟩
  · rintro b ⟨j, x, M, hx, hM, rfl⟩
    rcases key hx with ⟨rfl, rfl⟩ | ⟨h4, h5, hx⟩
    · rw [putLoc_self] at hM; cases hM
      exact .inl ⟨i, o, L, hi, hL, hb.symm⟩
    · rw [putLoc_ne _ _ h4] at hM
      exact .inl ⟨j, x, M, hx, hM, rfl⟩

/-- Post, an own object first let go. -/
theorem post_kill {i : Nat} {o : LObj} {L : Loc} {r : R} {v : Value} {w1 : World} (hi : obj os i = some o) (hL : σ i = some L) (h : Post (os.set i none) σ S w r v w1) : Post os σ S w r v w1 := by
  obtain ⟨S', σ', h1, h2, h3⟩ := h
  refine ⟨S', σ', h1, h2, (Fr.kill (S' := S) hi hL (.refl S) fun b _ => ⟨fun _ => rfl, rfl⟩).trans ?_⟩
  simpa using h3

theorem all_one_flat {ys : List V} {sz : Nat} (h : ys.all (fun y => y.cells.length == sz && y.cells.all V.one) = true) : (∀ y ∈ ys, y.cells.length = sz) ∧ (flat ys).all V.one = true := by
  have h' := List.all_eq_true.1 h
  refine ⟨fun y hy => ?_, ?_⟩
  · have := h' y hy
    simp only [Bool.and_eq_true, beq_iff_eq] at this
    exact this.1
  · rw [List.all_eq_true]
    intro c hc
    obtain ⟨y, hy, hc⟩ := List.mem_flatMap.1 hc
    have := h' y hy
    simp only [Bool.and_eq_true, beq_iff_eq] at this
    exact List.all_eq_true.1 this.2 c hc

theorem flat_append (xs ys : List V) : flat (xs ++ ys) = flat xs ++ flat ys := by simp [flat]

/-- append: onto nil, onto an own row: there is room or a new row is made. -/
theorem appendA_ok {mm : Bool} {t u ty e : TypeId} {i : TypeInfo} {zv : Value} {sz : Nat} {s : SV} {sval x : Value} {ys : List V} {news : List Value} {r : R} (hs : HeapSim S σ os w) (hr : relS S σ s sval)
    (ht : P.underlying t = some (.slice e)) (hi : P.info? e = some i) (hz : i.zero = some zv) (hsize : i.size = sz) (hby : i.bytes ≤ 65536) (hzs : zv.cells.size = sz) (hsz : 0 < sz)
    (hp : Pw (Rep S) (flat ys) news) (hsrc : (∀ y ∈ ys, y.cells.length = sz) → (flat ys).all V.one = true → Src P sz u x ys.length news w) (h : appendA mm e sz os s ys = some r) :
    ∃ v w', (Builtin.append_ #[t, u] ty #[sval, x]).run P w = .ok v w' ∧ Post os σ S w r v w' := by
  subst hsize
  have hml : maxLen = 9223372036854775807 := rfl
  -- a new row
  have grow : ∀ {os : Objs} {base : Option Addr} {n cap : Nat} {xs : List V} {olds : List Value}, HeapSim S σ os w → sval = .slice base n cap → xs.length = n → (∀ x ∈ xs, x.cells.length = i.size) → Pw (Rep S) (flat xs) olds → n ≤ cap →
      (Builtin.firstCells i.size n (.slice base n cap)).run P w.drew = .ok olds.toArray w.drew → cap < n + ys.length → n + ys.length ≤ lim → (∀ y ∈ ys, y.cells.length = i.size) → (flat ys).all V.one = true →
      ∀ mm' : Bool, ∃ v w', (Builtin.append_ #[t, u] ty #[sval, x]).run P w = .ok v w' ∧ Post os σ S w ⟨.a (.own os.length), os ++ [some (if mm' then .arr e i.size (xs ++ ys) else .ext e i.size (xs ++ ys))]⟩ v w' := by
    intro os base n cap xs olds hs hv hxl hxz hxp hnc hold hlt hlim hyz hone mm'
    have hS := hsrc hyz hone
    have hb2 : (n + ys.length) * i.bytes ≤ 140737488355328 := by
      have : (n + ys.length) * i.bytes ≤ 2147483648 * 65536 := Nat.mul_le_mul hlim hby
      omega
    have hlim' : n + ys.length ≤ 2147483648 := hlim
    have hrun := run_append_grow_src (P := P) w t u ty e i zv ht hi hz base n cap olds hold x ys.length news hS hlt (by omega) (growslice_fits (by omega) hb2)
    subst hv
    refine ⟨_, _, hrun, ?_⟩
    have hge := grownCap_ge w (n + ys.length) cap e
    have hcm : grownCap w (n + ys.length) cap e ≤ maxLen := grownCap_le_maxLen w (n + ys.length) cap e (by omega)
    have hol : olds.length = n * i.size := by rw [← hxp.1, flat_length hxz, hxl]
    have hnl : news.length = ys.length * i.size := hS.newsLen
    refine post_row hs hsz (by simp [hxl]) ?_ (vs := olds ++ news) ?_ (fun b hb => heap_alloc_old w.drew _ b hb) ?_ rfl rfl rfl (heap_alloc_new w.drew _) ?_ hge hcm ?_
    · intro y hy
      rcases List.mem_append.1 hy with hy | hy
      · exact hxz y hy
      · exact hyz y hy
    · rw [flat_append]; exact hxp.append hp
    · simp
    · simp only [Array.size_append, List.size_toArray, List.length_append, size_zeroCells, hzs, hol, hnl, ← Nat.add_mul]
      congr 1
      omega
    · simp only [Array.toList_append]
      rw [List.take_append_of_le_length (by simp [hol, hnl, Nat.add_mul]), List.take_of_length_le (by simp [hol, hnl, Nat.add_mul])]
  -- onto an own row
  have onto : ∀ {k : Nat} {L : Loc} {o : LObj} {xs : List V} {vs : List Value}, obj os k = some o → σ k = some L → sval = .slice (some ⟨L.b, 0, none⟩) L.len L.cap → xs.length = L.len → (∀ x ∈ xs, x.cells.length = i.size) →
      w.ownsRow 0 e i.size (.slice (some ⟨L.b, 0, none⟩) L.len L.cap) L.len vs → Pw (Rep S) (flat xs) vs → (∀ j u, S.cell L.b j = some u → vs[j]? = some u) → xs.length + ys.length ≤ lim → (∀ y ∈ ys, y.cells.length = i.size) → (flat ys).all V.one = true →
      ∀ mm' : Bool, (mm' = true → ∀ j, S.cell L.b j = none) → ∃ v w', (Builtin.append_ #[t, u] ty #[sval, x]).run P w = .ok v w' ∧ Post os σ S w ⟨.a (.own os.length), os.set k none ++ [some (if mm' then .arr e i.size (xs ++ ys) else .ext e i.size (xs ++ ys))]⟩ v w' := by
    intro k L o xs vs hob hL hv hxl hxz hrow hxp hfr hlim hyz hone mm' hmm
    have hS := hsrc hyz hone
    have hnl : news.length = ys.length * i.size := hS.newsLen
    by_cases hroom : L.len + ys.length ≤ L.cap
    · rcases hrow.2 with ⟨hc, _⟩ | ⟨g, cap, cur, hc, _, hg, hnc, hcm, hcs, htake⟩
      · cases hc
      · cases hc
        have hvl : vs.length = L.len * i.size := hrow.1
        have hfit : L.len * i.size + news.length ≤ cur.size := by rw [hnl, hcs, ← Nat.add_mul]; exact Nat.mul_le_mul_right _ hroom
        have hst := run_storeCells_at P L.b (L.len * i.size) e news 0 cur w hg (by simpa using hfit) hS.one
        simp only [Nat.add_zero] at hst
        let cur' := (cur.toList.take (L.len * i.size) ++ news ++ cur.toList.drop (L.len * i.size + news.length)).toArray
        have hrun : (Builtin.append_ #[t, u] ty #[.slice (some ⟨L.b, 0, none⟩) L.len L.cap, x]).run P w = .ok (.slice (some ⟨L.b, 0, none⟩) (L.len + ys.length) L.cap) (w.setRow L.b cur') := by
          rcases hS.kind with ⟨e', hk⟩ | hk <;> simp [Builtin.append_, run_underlying ht, run_underlying hk, sizeOf, typeInfo, hi, hS.len, hroom, hS.cells, Addr.add_lit, hst, cur']
        subst hv
        refine ⟨_, _, hrun, ?_⟩
        have hg' : (w.setRow L.b cur').heap[L.b]? = some (.cells cur' e (0, 0)) := setRow_heap w L.b cur cur' e _ hg
        have htl : cur'.toList.take ((L.len + ys.length) * i.size) = vs ++ news := by
          simp only [cur', htake]
          rw [List.take_append_of_le_length (by simp [hvl, hnl, Nat.add_mul]), List.take_of_length_le (by simp [hvl, hnl, Nat.add_mul])]
        have hcs' : cur'.size = L.cap * i.size := by
          simp only [cur', List.size_toArray, List.length_append, List.length_take, List.length_drop, Array.length_toList]
          omega
        have hall : ∀ y ∈ xs ++ ys, y.cells.length = i.size := by
          intro y hy
          rcases List.mem_append.1 hy with hy | hy
          · exact hxz y hy
          · exact hyz y hy
        have hp2 : Pw (Rep S) (flat (xs ++ ys)) (vs ++ news) := by rw [flat_append]; exact hxp.append hp
        have hrow' : (w.setRow L.b cur').ownsRow 0 e i.size (.slice (some ⟨L.b, 0, none⟩) (L.len + ys.length) L.cap) (L.len + ys.length) (vs ++ news) := obj_row (S := S) (by simp [hxl]) hall hp2 hg' hcs' hroom hcm htl
        have hother : ∀ b, b ≠ L.b → (w.setRow L.b cur').heap[b]? = w.heap[b]? := fun b hb => setRow_other w L.b b _ hb
        have hokw : S.ok (w.setRow L.b cur') := by
          refine ⟨fun b j v hc => ?_, fun b es hm => ?_, hs.frz.g, hs.frz.gm⟩
          · by_cases hb : b = L.b
            · subst hb
              refine ownsRow_cell hrow' ?_
              have := hfr j v hc
              rw [List.getElem?_append_left]
              · exact this
              · rcases Nat.lt_or_ge j vs.length with h' | h'
                · exact h'
                · rw [List.getElem?_eq_none h'] at this; cases this
            · exact (cell?_same (hother b hb)).trans (hs.frz.cell b j v hc)
          · by_cases hb : b = L.b
            · subst hb
              rw [(hs.loc hob hL).2.mp] at hm; cases hm
            · exact Blk.at_same (hs.frz.mp b es hm) (hother b hb)
        have hcell : ∀ j v, (vs ++ news)[j]? = some v → (w.setRow L.b cur').cell? ⟨L.b, j, none⟩ = some v := fun j v hv => ownsRow_cell hrow' hv
        cases mm' with
        | true =>
          -- written in place: nothing of it may be frozen
          have hfz := hmm rfl
          exact post_moved (S' := S) (L' := ⟨L.b, L.len + ys.length, L.cap⟩) hs hob hL rfl hother (by simp) (by simp) (by simp) (by simp) (.refl S) (fun b _ => ⟨fun _ => rfl, rfl⟩) hokw ⟨hsz, by simp [hxl], hall, _, hrow', hp2⟩ ⟨fun j _ => hfz j, (hs.loc hob hL).2.mp⟩ ⟨_, putLoc_self _ _ _, rfl⟩
        | false =>
          refine post_moved (S' := addFrom S L.b (vs ++ news)) (L' := ⟨L.b, L.len + ys.length, L.cap⟩) hs hob hL rfl hother (by simp) (by simp) (by simp) (by simp) (addFrom_le _ _ _) (fun b hb => addFrom_other hb) (addFrom_ok hokw hcell)
            ⟨hsz, by simp [hxl], hall, _, hrow', hp2.mono fun _ _ => Rep.mono (addFrom_le _ _ _), addFrom_lies hokw hcell⟩ ⟨fun j hj => ?_, (hs.loc hob hL).2.mp⟩ ⟨_, putLoc_self _ _ _, rfl⟩
          have hle : (vs ++ news).length ≤ j := by rw [hrow'.1]; exact hj
          simp only [addFrom, if_true]
          cases hcj : S.cell L.b j with
          | none => exact List.getElem?_eq_none hle
          | some u' =>
            have := hfr j u' hcj
            rw [List.getElem?_eq_none (by simp at hle; omega)] at this
            cases this
    · have hnc := ownsRow_cap hrow
      have hold : (Builtin.firstCells i.size L.len (.slice (some ⟨L.b, 0, none⟩) L.len L.cap)).run P w.drew = .ok vs.toArray w.drew :=
        run_firstCells_some w.drew i.size L.len ⟨L.b, 0, none⟩ L.len L.cap vs hrow.1 (fun j v hj => by rw [add_plain, Nat.zero_add]; simpa using ownsRow_cell hrow hj)
      have hkill := hs.kill hob hL (.refl S) hs.frz fun b _ => ⟨fun _ => rfl, rfl⟩
      obtain ⟨v, w', h1, h2⟩ := grow hkill hv hxl hxz hxp hnc hold (by omega) (by omega) hyz hone mm'
      refine ⟨v, w', h1, post_kill hob hL ?_⟩
      simpa using h2
  unfold appendA at h
  split at h
  · have hr : Rep S .nils sval := hr
    cases hr
    split at h
    · cases h
      have hS := hsrc (fun y hy => by cases hy) rfl
      refine ⟨_, w, run_append_nothing w t u ty e i ht hi none 0 0 (Nat.le_refl _) x ?_, Post.same hs .nils rfl⟩
      have : news = [] := hp.nil_left
      subst this
      exact hS
    · rename_i y ys'
      split at h
      · rename_i hg
        cases h
        obtain ⟨hyz, hone⟩ := all_one_flat hg.2
        have hlim : (y :: ys').length ≤ lim := by simpa [fits] using hg.1
        have := grow (os := os) (base := none) (n := 0) (cap := 0) (xs := []) (olds := []) hs rfl rfl (fun x hx => by cases hx) Pw.nil (Nat.le_refl _) (run_firstCells_none w.drew i.size 0 0 0) (by simp) (by simpa using hlim) hyz hone mm
        simpa using this
      · cases h
  · rename_i k
    obtain ⟨L, hL, hv⟩ := hr
    split at h
    · rename_i e' sz' xs hob
      split at h
      · rename_i hg
        obtain ⟨rfl, rfl, hf, hall⟩ := hg
        cases h
        obtain ⟨hyz, hone⟩ := all_one_flat hall
        obtain ⟨⟨h1, h2, h3, vs, h4, h5, h6⟩, hfree⟩ := hs.loc hob hL
        refine onto hob hL hv h2 h3 h4 h5 (fun j u hc => ?_) (by simpa [fits] using hf) hyz hone false (fun h => by cases h)
        rcases Nat.lt_or_ge j vs.length with hj | hj
        · have := h6 j _ (List.getElem?_eq_getElem hj)
          rw [Nat.zero_add, hc] at this
          rw [List.getElem?_eq_getElem hj]
          exact this.symm
        · rw [hfree.cell j (by rw [h4.1] at hj; exact hj)] at hc; cases hc
      · cases h
    · rename_i e' sz' xs hob
      split at h
      · rename_i hg
        obtain ⟨rfl, rfl, hf, hall⟩ := hg
        cases h
        obtain ⟨hyz, hone⟩ := all_one_flat hall
        obtain ⟨⟨h1, h2, h3, vs, h4, h5⟩, hfree⟩ := hs.loc hob hL
        refine onto hob hL hv h2 h3 h4 h5 (fun j u hc => ?_) (by simpa [fits] using hf) hyz hone true (fun _ j => hfree.cell j (Nat.zero_le _))
        rw [hfree.cell j (Nat.zero_le _)] at hc; cases hc
      · cases h
    · cases h
  · cases h

end
end Go.Ev
