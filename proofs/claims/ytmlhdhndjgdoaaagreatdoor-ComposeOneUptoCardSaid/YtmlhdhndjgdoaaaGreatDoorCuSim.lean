/- Own objects in memory; steps that keep all else. -/
import Derived.Test.YtmlhdhndjgdoaaaGreatDoorCuRep
import Derived.Laws.AppendOwn
namespace Go.Ev

def relC (S : Fz) (σ : Locs) (c : FuncId × List At × List At) (v : Value) : Prop := relS S σ (.clo c.1 c.2.1 c.2.2) v

/-- What a Builder's variable holds. (Told later: until then nothing is one.) -/
def BldSim (_bs : List UInt8) (_L : Loc) (_w : World) : Prop := False

def ObjSim (S : Fz) (σ : Locs) : LObj → Loc → World → Prop
  | .box ty cs, L, w => ∃ c : Array Value, w.heap[L.b]? = some (.cells c ty (0, 0)) ∧ Pw (relA S σ) cs c.toList
  | .ext e sz xs, L, w => 0 < sz ∧ xs.length = L.len ∧ (∀ x ∈ xs, x.cells.length = sz) ∧ ∃ vs, w.ownsRow 0 e sz (.slice (some ⟨L.b, 0, none⟩) L.len L.cap) L.len vs ∧ Pw (Rep S) (flat xs) vs ∧ S.lies L.b 0 vs
  | .arr e sz xs, L, w => 0 < sz ∧ xs.length = L.len ∧ (∀ x ∈ xs, x.cells.length = sz) ∧ ∃ vs, w.ownsRow 0 e sz (.slice (some ⟨L.b, 0, none⟩) L.len L.cap) L.len vs ∧ Pw (Rep S) (flat xs) vs
  | .map z es, L, w => (z = true → ∀ e ∈ es, e.2.frz = true) ∧ ∃ ents : Array MapEntry, w.heap[L.b]? = some (.map ents ents.size) ∧ es.length = ents.size ∧ (∀ (j : Nat) (e : MapEntry), ents[j]? = some e → e.born = j) ∧
      ∀ (j : Nat) (k : V) (x : T2) (e : MapEntry), es[j]? = some (k, x) → ents[j]? = some e → Rep S k e.key ∧ relT S σ x e.val
  | .iter s pos, L, w => w.heap[L.b]? = some (.stringIter ⟨s.toArray⟩ pos)
  | .bld bs, L, w => BldSim bs L w
  | .clos e cs, L, w => ∃ c : Array Value, w.heap[L.b]? = some (.cells c e (0, 0)) ∧ L.len = cs.length ∧ L.cap = cs.length ∧ Pw (relC S σ) cs c.toList

/-- From where on an own object's block isn't frozen. -/
def LObj.edge : LObj → Loc → Nat
  | .ext _ sz _, L => L.len * sz
  | _, _ => 0

structure Fz.free (S : Fz) (o : LObj) (L : Loc) : Prop where
  cell : ∀ j, o.edge L ≤ j → S.cell L.b j = none
  mp : S.mp L.b = none

structure HeapSim (S : Fz) (σ : Locs) (os : Objs) (w : World) : Prop where
  frz : S.ok w
  ob : ∀ i o, obj os i = some o → ∃ L, σ i = some L ∧ ObjSim S σ o L w ∧ S.free o L
  inj : ∀ i j o o' L L', obj os i = some o → obj os j = some o' → σ i = some L → σ j = some L' → L.b = L'.b → i = j
  fit : ∀ i, os.length ≤ i → σ i = none

def Own (os : Objs) (σ : Locs) (b : Nat) : Prop := ∃ i o L, obj os i = some o ∧ σ i = some L ∧ L.b = b

/-- One step: what isn't own lives on; the objects below n keep their places. -/
structure Fr (n : Nat) (os : Objs) (σ : Locs) (S : Fz) (w : World) (os' : Objs) (σ' : Locs) (S' : Fz) (w' : World) : Prop where
  le : S.le S'
  loc : ∀ i, i < n → σ' i = σ i
  len : n ≤ os'.length
  dead : ∀ i, i < n → obj os i = none → obj os' i = none
  size : w.heap.size ≤ w'.heap.size
  so : w'.os = w.os
  tape : w'.tape = w.tape
  output : w'.output = w.output
  keep : ∀ b, b < w.heap.size → ¬ Own os σ b → w'.heap[b]? = w.heap[b]? ∧ (∀ j, S'.cell b j = S.cell b j) ∧ S'.mp b = S.mp b
  own : ∀ b, Own os' σ' b → Own os σ b ∨ w.heap.size ≤ b

theorem Fr.refl {n : Nat} {os : Objs} {σ : Locs} {S : Fz} {w : World} (h : n ≤ os.length) : Fr n os σ S w os σ S w :=
  ⟨.refl _, fun _ _ => rfl, h, fun _ _ h => h, Nat.le_refl _, rfl, rfl, rfl, fun _ _ _ => ⟨rfl, fun _ => rfl, rfl⟩, fun _ h => .inl h⟩

theorem Fr.trans {n : Nat} {os os1 os2 : Objs} {σ σ1 σ2 : Locs} {S S1 S2 : Fz} {w w1 w2 : World} (h : Fr n os σ S w os1 σ1 S1 w1) (k : Fr n os1 σ1 S1 w1 os2 σ2 S2 w2) : Fr n os σ S w os2 σ2 S2 w2 where
  le := h.le.trans k.le
  loc := fun i hi => (k.loc i hi).trans (h.loc i hi)
  len := k.len
  dead := fun i hi hd => k.dead i hi (h.dead i hi hd)
  size := Nat.le_trans h.size k.size
  so := k.so.trans h.so
  tape := k.tape.trans h.tape
  output := k.output.trans h.output
  keep := fun b hb hn => by
    have h1 := h.keep b hb hn
    have h2 := k.keep b (Nat.lt_of_lt_of_le hb h.size) (fun ho => by
      rcases h.own b ho with ho | ho
      · exact hn ho
      · omega)
    exact ⟨h2.1.trans h1.1, fun j => (h2.2.1 j).trans (h1.2.1 j), h2.2.2.trans h1.2.2⟩
  own := fun b hb => by
    rcases k.own b hb with ho | ho
    · exact h.own b ho
    · exact .inr (Nat.le_trans h.size ho)

theorem Fr.mono {n m : Nat} {os os1 : Objs} {σ σ1 : Locs} {S S1 : Fz} {w w1 : World} (h : Fr n os σ S w os1 σ1 S1 w1) (hm : m ≤ n) : Fr m os σ S w os1 σ1 S1 w1 :=
  ⟨h.le, fun i hi => h.loc i (by omega), by have := h.len; omega, fun i hi => h.dead i (by omega), h.size, h.so, h.tape, h.output, h.keep, h.own⟩

theorem obj_lt {os : Objs} {i : Nat} {o : LObj} (h : obj os i = some o) : i < os.length := by
  unfold obj at h
  split at h
  · rename_i o' ho
    rcases Nat.lt_or_ge i os.length with hl | hl
    · exact hl
    · rw [List.getElem?_eq_none hl] at ho; cases ho
  · cases h

theorem obj_append_left {os : Objs} {i : Nat} (x : Objs) (h : i < os.length) : obj (os ++ x) i = obj os i := by
  unfold obj; rw [List.getElem?_append_left h]
theorem obj_append_one {os : Objs} {i : Nat} {o : Option LObj} : obj (os ++ [o]) i = if i = os.length then o else obj os i := by
  unfold obj
  by_cases h : i = os.length
  · rw [if_pos h]; subst h; cases o <;> simp
  · rw [if_neg h]
    rcases Nat.lt_or_ge i os.length with hl | hl
    · rw [List.getElem?_append_left hl]
    · rw [List.getElem?_eq_none (by simp; omega), List.getElem?_eq_none hl]
theorem obj_set {os : Objs} {i j : Nat} {o : Option LObj} (hj : j < os.length) : obj (os.set j o) i = if i = j then o else obj os i := by
  unfold obj
  by_cases h : i = j
  · rw [if_pos h]; subst h; rw [List.getElem?_set_self hj]; cases o <;> rfl
  · rw [if_neg h, List.getElem?_set_ne (by omega)]
theorem obj_set_none {os : Objs} {i j : Nat} {o : LObj} (h : obj (os.set j none) i = some o) : i ≠ j ∧ obj os i = some o := by
  rcases Nat.lt_or_ge j os.length with hj | hj
  · rw [obj_set hj] at h
    split at h
    · cases h
    · exact ⟨by assumption, h⟩
  · rw [List.set_eq_of_length_le hj] at h
    exact ⟨fun e => by subst e; exact absurd (obj_lt h) (by omega), h⟩

theorem ObjSim.lt {S : Fz} {σ : Locs} {o : LObj} {L : Loc} {w : World} (h : ObjSim S σ o L w) : L.b < w.heap.size := by
  have key : ∀ {x : Obj}, w.heap[L.b]? = some x → L.b < w.heap.size := fun hx => by
    rcases Nat.lt_or_ge L.b w.heap.size with h | h
    · exact h
    · rw [Array.getElem?_eq_none h] at hx; cases hx
  cases o with
  | box ty cs => obtain ⟨c, h1, _⟩ := h; exact key h1
  | ext e sz xs => obtain ⟨_, _, _, vs, h1, _⟩ := h; exact (h1.lt _ rfl).2
  | arr e sz xs => obtain ⟨_, _, _, vs, h1, _⟩ := h; exact (h1.lt _ rfl).2
  | map z es => obtain ⟨_, _, h1, _⟩ := h; exact key h1
  | iter s pos => exact key h
  | bld bs => exact h.elim
  | clos e cs => obtain ⟨c, h1, _⟩ := h; exact key h1

theorem relC.mono {S S' : Fz} {σ σ' : Locs} (hs : S.le S') (hσ : Locs.le σ σ') {c : FuncId × List At × List At} {v : Value} (h : relC S σ c v) : relC S' σ' c v := relS.mono hs hσ h

theorem ownsRow_block {w w' : World} {base : Nat} {e : TypeId} {size n cap b : Nat} {xs : List Value} (h : w.ownsRow base e size (.slice (some ⟨b, 0, none⟩) n cap) n xs) (hb : w'.heap[b]? = w.heap[b]?) :
    w'.ownsRow base e size (.slice (some ⟨b, 0, none⟩) n cap) n xs := by
  refine ⟨h.1, ?_⟩
  rcases h.2 with ⟨hv, _⟩ | ⟨g, c, cur, hv, h1, h2, h3⟩
  · cases hv
  · cases hv
    exact .inr ⟨b, cap, cur, rfl, h1, hb.trans h2, h3⟩

/-- An own object whose block has not turned is what it was. -/
theorem ObjSim.mono {S S' : Fz} {σ σ' : Locs} {o : LObj} {L : Loc} {w w' : World} (h : ObjSim S σ o L w) (hs : S.le S') (hσ : Locs.le σ σ') (hb : w'.heap[L.b]? = w.heap[L.b]?) : ObjSim S' σ' o L w' := by
  cases o with
  | box ty cs => obtain ⟨c, h1, h2⟩ := h; exact ⟨c, hb.trans h1, relAs.mono hs hσ h2⟩
  | ext e sz xs => obtain ⟨h1, h2, h3, vs, h4, h5, h6⟩ := h; exact ⟨h1, h2, h3, vs, ownsRow_block h4 hb, h5.mono fun _ _ => Rep.mono hs, h6.mono hs⟩
  | arr e sz xs => obtain ⟨h1, h2, h3, vs, h4, h5⟩ := h; exact ⟨h1, h2, h3, vs, ownsRow_block h4 hb, h5.mono fun _ _ => Rep.mono hs⟩
  | map z es => obtain ⟨hz, ents, h1, h2, h3, h4⟩ := h; exact ⟨hz, ents, hb.trans h1, h2, h3, fun j k x e ha he => ⟨(h4 j k x e ha he).1.mono hs, (h4 j k x e ha he).2.mono hs hσ⟩⟩
  | iter s pos => exact hb.trans h
  | bld bs => exact h.elim
  | clos e cs => obtain ⟨c, h1, h2, h3, h4⟩ := h; exact ⟨c, hb.trans h1, h2, h3, h4.mono fun _ _ => relC.mono hs hσ⟩

theorem Fz.free.mono {S S' : Fz} {o : LObj} {L : Loc} (h : S.free o L) (hc : ∀ j, S'.cell L.b j = S.cell L.b j) (hm : S'.mp L.b = S.mp L.b) : S'.free o L :=
  ⟨fun j hj => (hc j).trans (h.cell j hj), hm.trans h.mp⟩

theorem cell?_same {w w' : World} {b i : Nat} (h : w'.heap[b]? = w.heap[b]?) : w'.cell? ⟨b, i, none⟩ = w.cell? ⟨b, i, none⟩ := by simp [World.cell?, h]

theorem Fz.ok.same {S : Fz} {w w' : World} (h : S.ok w) (hb : ∀ b, (∃ i v, S.cell b i = some v) ∨ (∃ es, S.mp b = some es) → w'.heap[b]? = w.heap[b]?) : S.ok w' :=
  ⟨fun b i v hc => (cell?_same (hb b (.inl ⟨i, v, hc⟩))).trans (h.cell b i v hc), fun b es hm => Blk.at_same (h.mp b es hm) (hb b (.inr ⟨es, hm⟩)), h.g, h.gm⟩

theorem Fz.ok.lt {S : Fz} {w : World} (h : S.ok w) {b : Nat} (hb : (∃ i v, S.cell b i = some v) ∨ (∃ es, S.mp b = some es)) : b < w.heap.size := by
  rcases hb with ⟨i, v, hc⟩ | ⟨es, hm⟩
  · exact World.block_lt_of_cell? w ⟨b, i, none⟩ (h.cell b i v hc)
  · have hx := h.mp b es hm
    rcases Nat.lt_or_ge b w.heap.size with h | h
    · exact h
    · cases es with
      | map es => obtain ⟨c, hx⟩ := hx; rw [Array.getElem?_eq_none h] at hx; cases hx
      | cells cs => obtain ⟨t, f, hx⟩ := hx; rw [Array.getElem?_eq_none h] at hx; cases hx

theorem HeapSim.loc {S : Fz} {σ : Locs} {os : Objs} {w : World} (h : HeapSim S σ os w) {i : Nat} {o : LObj} {L : Loc} (ho : obj os i = some o) (hL : σ i = some L) : ObjSim S σ o L w ∧ S.free o L := by
  obtain ⟨L', h1, h2⟩ := h.ob i o ho
  rw [hL] at h1
  cases h1
  exact h2

/-- The world alone has turned, in blocks that are new. -/
theorem HeapSim.grown {S : Fz} {σ : Locs} {os : Objs} {w w' : World} (h : HeapSim S σ os w) (hk : ∀ b, b < w.heap.size → w'.heap[b]? = w.heap[b]?) : HeapSim S σ os w' where
  frz := h.frz.same fun b hb => hk b (h.frz.lt hb)
  ob := fun i o ho => by
    obtain ⟨L, h1, h2, h3⟩ := h.ob i o ho
    exact ⟨L, h1, h2.mono (.refl _) (.refl _) (hk _ h2.lt), h3⟩
  inj := h.inj
  fit := h.fit

theorem Fr.grown {os : Objs} {σ : Locs} {S : Fz} {w w' : World} (hk : ∀ b, b < w.heap.size → w'.heap[b]? = w.heap[b]?) (hs : w.heap.size ≤ w'.heap.size) (ho : w'.os = w.os) (ht : w'.tape = w.tape) (hp : w'.output = w.output) :
    Fr os.length os σ S w os σ S w' :=
  ⟨.refl _, fun _ _ => rfl, Nat.le_refl _, fun _ _ h => h, hs, ho, ht, hp, fun b hb _ => ⟨hk b hb, fun _ => rfl, rfl⟩, fun _ h => .inl h⟩

def putLoc (σ : Locs) (i : Nat) (L : Loc) : Locs := fun j => if j = i then some L else σ j

theorem putLoc_self (σ : Locs) (i : Nat) (L : Loc) : putLoc σ i L i = some L := by simp [putLoc]
theorem putLoc_ne (σ : Locs) {i j : Nat} (L : Loc) (h : j ≠ i) : putLoc σ i L j = σ j := by simp [putLoc, h]
theorem putLoc_le {σ : Locs} {i : Nat} (L : Loc) (h : σ i = none) : Locs.le σ (putLoc σ i L) := fun j M hj => by
  rw [putLoc_ne σ L (fun e => by subst e; rw [h] at hj; cases hj)]; exact hj

/-- A new own object in a new block. -/
theorem HeapSim.new {S : Fz} {σ : Locs} {os : Objs} {w w' : World} {o : LObj} {L : Loc} (h : HeapSim S σ os w) (hk : ∀ b, b < w.heap.size → w'.heap[b]? = w.heap[b]?) (hb : w.heap.size ≤ L.b)
    (ho : ObjSim S (putLoc σ os.length L) o L w') : HeapSim S (putLoc σ os.length L) (os ++ [some o]) w' := by
  have hn : σ os.length = none := h.fit _ (Nat.le_refl _)
  have hle := putLoc_le L hn
  have free : ∀ b, w.heap.size ≤ b → (∀ j, S.cell b j = none) ∧ S.mp b = none := fun b hb => by
    refine ⟨fun j => ?_, ?_⟩
    · cases hc : S.cell b j with
      | none => rfl
      | some v => have := h.frz.lt (b := b) (.inl ⟨j, v, hc⟩); omega
    · cases hc : S.mp b with
      | none => rfl
      | some v => have := h.frz.lt (b := b) (.inr ⟨v, hc⟩); omega
  refine ⟨h.frz.same fun b hb => hk b (h.frz.lt hb), fun i x hx => ?_, fun i j x y M M' hx hy hM hM' he => ?_, fun i hi => ?_⟩
  · rw [obj_append_one] at hx
    split at hx
    · rename_i hi; subst hi; cases hx
      exact ⟨L, putLoc_self _ _ _, ho, ⟨fun j _ => (free _ hb).1 j, (free _ hb).2⟩⟩
    · rename_i hi
      obtain ⟨M, h1, h2, h3⟩ := h.ob i x hx
      exact ⟨M, hle _ _ h1, h2.mono (.refl _) hle (hk _ h2.lt), h3⟩
  · rw [obj_append_one] at hx hy
    split at hx <;> split at hy
    · omega
    · rename_i hi hj
      subst hi
      rw [putLoc_self] at hM; cases hM
      rw [putLoc_ne _ _ hj] at hM'
      have := (h.loc hy hM').1.lt; omega
    · rename_i hi hj
      subst hj
      rw [putLoc_self] at hM'; cases hM'
      rw [putLoc_ne _ _ hi] at hM
      have := (h.loc hx hM).1.lt; omega
    · rename_i hi hj
      rw [putLoc_ne _ _ hi] at hM
      rw [putLoc_ne _ _ hj] at hM'
      exact h.inj i j x y M M' hx hy hM hM' he
  · simp at hi
    rw [putLoc_ne _ _ (by omega)]
    exact h.fit i (by omega)

theorem Fr.new {S : Fz} {σ : Locs} {os : Objs} {w w' : World} {o : LObj} {L : Loc} (hk : ∀ b, b < w.heap.size → w'.heap[b]? = w.heap[b]?) (hb : w.heap.size ≤ L.b) (hs : w.heap.size ≤ w'.heap.size) (ho : w'.os = w.os) (ht : w'.tape = w.tape)
    (hp : w'.output = w.output) : Fr os.length os σ S w (os ++ [some o]) (putLoc σ os.length L) S w' :=
  ⟨.refl _, fun i hi => putLoc_ne _ _ (by omega), by simp, fun i hi h => by rw [obj_append_left _ hi]; exact h, hs, ho, ht, hp, fun b hb _ => ⟨hk b hb, fun _ => rfl, rfl⟩, by
    rintro b ⟨i, x, M, hx, hM, rfl⟩
    rw [obj_append_one] at hx
    split at hx
    · rename_i hi; subst hi; rw [putLoc_self] at hM; cases hM; exact .inr hb
    · rename_i hi
      rw [putLoc_ne _ _ hi] at hM
      exact .inl ⟨i, x, M, hx, hM, rfl⟩⟩

/-- An own object's block has been written. -/
theorem HeapSim.put {S : Fz} {σ : Locs} {os : Objs} {w w' : World} {i : Nat} {o o' : LObj} {L : Loc} (h : HeapSim S σ os w) (hi : obj os i = some o) (hL : σ i = some L) (hk : ∀ b, b ≠ L.b → w'.heap[b]? = w.heap[b]?)
    (hc : ∀ j v, S.cell L.b j = some v → w'.cell? ⟨L.b, j, none⟩ = some v) (ho : ObjSim S σ o' L w') (he : o'.edge L = o.edge L) : HeapSim S σ (os.set i (some o')) w' := by
  have hlt := obj_lt hi
  have hfree := (h.loc hi hL).2
  refine ⟨⟨fun b j v hv => ?_, fun b es hm => ?_, h.frz.g, h.frz.gm⟩, fun j x hx => ?_, fun j k x y M M' hx hy hM hM' hb => ?_, fun j hj => h.fit j (by simpa using hj)⟩
  · by_cases hb : b = L.b
    · subst hb; exact hc j v hv
    · exact (cell?_same (hk b hb)).trans (h.frz.cell b j v hv)
  · by_cases hb : b = L.b
    · subst hb; rw [hfree.mp] at hm; cases hm
    · exact Blk.at_same (h.frz.mp b es hm) (hk b hb)
  · rw [obj_set hlt] at hx
    split at hx
    · rename_i hj; subst hj; cases hx
      exact ⟨L, hL, ho, ⟨fun k hk => hfree.cell k (by rw [← he]; exact hk), hfree.mp⟩⟩
    · rename_i hj
      obtain ⟨M, h1, h2, h3⟩ := h.ob j x hx
      exact ⟨M, h1, h2.mono (.refl _) (.refl _) (hk _ fun hb => hj (h.inj j i x o M L hx hi h1 hL hb)), h3⟩
  · have key : ∀ k z, obj (os.set i (some o')) k = some z → ∃ z', obj os k = some z' := fun k z hz => by
      rw [obj_set hlt] at hz
      split at hz
      · rename_i hk; subst hk; exact ⟨o, hi⟩
      · exact ⟨z, hz⟩
    obtain ⟨x', hx'⟩ := key j x hx
    obtain ⟨y', hy'⟩ := key k y hy
    exact h.inj j k x' y' M M' hx' hy' hM hM' hb

theorem Fr.put {S : Fz} {σ : Locs} {os : Objs} {w w' : World} {i : Nat} {o : LObj} {o' : Option LObj} {L : Loc} (hi : obj os i = some o) (hL : σ i = some L) (hk : ∀ b, b ≠ L.b → w'.heap[b]? = w.heap[b]?) (hs : w.heap.size ≤ w'.heap.size)
    (ho : w'.os = w.os) (ht : w'.tape = w.tape) (hp : w'.output = w.output) : Fr os.length os σ S w (os.set i o') σ S w' := by
  have hlt := obj_lt hi
  refine ⟨.refl _, fun _ _ => rfl, by simp, fun j hj hd => ?_, hs, ho, ht, hp, fun b hb hn => ⟨hk b fun e => hn ⟨i, o, L, hi, hL, e.symm⟩, fun _ => rfl, rfl⟩, ?_⟩
  · rw [obj_set hlt]
    split
    · rename_i e; subst e; rw [hi] at hd; cases hd
    · exact hd
  · rintro b ⟨j, x, M, hx, hM, rfl⟩
    rw [obj_set hlt] at hx
    split at hx
    · rename_i e; subst e; exact .inl ⟨j, o, M, hi, hM, rfl⟩
    · exact .inl ⟨j, x, M, hx, hM, rfl⟩

/-- An own object is let go; its block may be frozen from now on. -/
theorem HeapSim.kill {S S' : Fz} {σ : Locs} {os : Objs} {w : World} {i : Nat} {o : LObj} {L : Loc} (h : HeapSim S σ os w) (hi : obj os i = some o) (hL : σ i = some L) (hs : S.le S') (hok : S'.ok w)
    (hk : ∀ b, b ≠ L.b → (∀ j, S'.cell b j = S.cell b j) ∧ S'.mp b = S.mp b) : HeapSim S' σ (os.set i none) w := by
  refine ⟨hok, fun j x hx => ?_, fun j k x y M M' hx hy => h.inj j k x y M M' (obj_set_none hx).2 (obj_set_none hy).2, fun j hj => h.fit j (by simpa using hj)⟩
  obtain ⟨hne, hx⟩ := obj_set_none hx
  obtain ⟨M, h1, h2, h3⟩ := h.ob j x hx
  have hb := hk M.b fun hb => hne (h.inj j i x o M L hx hi h1 hL hb)
  exact ⟨M, h1, h2.mono hs (.refl _) rfl, h3.mono hb.1 hb.2⟩

theorem Fr.kill {S S' : Fz} {σ : Locs} {os : Objs} {w : World} {i : Nat} {o : LObj} {L : Loc} (hi : obj os i = some o) (hL : σ i = some L) (hs : S.le S')
    (hk : ∀ b, b ≠ L.b → (∀ j, S'.cell b j = S.cell b j) ∧ S'.mp b = S.mp b) : Fr os.length os σ S w (os.set i none) σ S' w := by
  have hlt := obj_lt hi
  refine ⟨hs, fun _ _ => rfl, by simp, fun j hj hd => ?_, Nat.le_refl _, rfl, rfl, rfl, fun b hb hn => ⟨rfl, hk b fun e => hn ⟨i, o, L, hi, hL, e.symm⟩⟩, ?_⟩
  · rw [obj_set hlt]; split
    · rfl
    · exact hd
  · rintro b ⟨j, x, M, hx, hM, rfl⟩
    exact .inl ⟨j, x, M, (obj_set_none hx).2, hM, rfl⟩

end Go.Ev
