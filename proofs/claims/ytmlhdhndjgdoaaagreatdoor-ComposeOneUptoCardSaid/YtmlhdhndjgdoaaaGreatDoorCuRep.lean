/- What abstract values say of memory: frozen cells, representation, own objects; how these live on. -/
import Derived.Test.YtmlhdhndjgdoaaaGreatDoorCuComp
import Derived.Calls
import Derived.Laws.Sem
import Derived.Laws.Cells
import Derived.Laws.Entries
import Derived.Below
namespace Go.Ev

/-- Pairwise related. -/
def Pw {α β : Type} (R : α → β → Prop) (as : List α) (bs : List β) : Prop :=
  as.length = bs.length ∧ ∀ (j : Nat) (a : α) (b : β), as[j]? = some a → bs[j]? = some b → R a b

namespace Pw
variable {α β : Type} {R R' : α → β → Prop}
theorem nil : Pw R [] [] := ⟨rfl, fun j a b h => by simp at h⟩
theorem cons {a : α} {b : β} {as : List α} {bs : List β} (h : R a b) (t : Pw R as bs) : Pw R (a :: as) (b :: bs) := by
  refine ⟨by simp [t.1], fun j x y hx hy => ?_⟩
  cases j with
  | zero => simp at hx hy; subst hx hy; exact h
  | succ j => simp at hx hy; exact t.2 j x y hx hy
theorem head {a : α} {b : β} {as : List α} {bs : List β} (h : Pw R (a :: as) (b :: bs)) : R a b := h.2 0 a b rfl rfl
theorem tail {a : α} {b : β} {as : List α} {bs : List β} (h : Pw R (a :: as) (b :: bs)) : Pw R as bs :=
  ⟨by have := h.1; simpa using this, fun j x y hx hy => h.2 (j + 1) x y (by simpa using hx) (by simpa using hy)⟩
theorem mono {as : List α} {bs : List β} (h : Pw R as bs) (hr : ∀ a b, R a b → R' a b) : Pw R' as bs := ⟨h.1, fun j a b x y => hr a b (h.2 j a b x y)⟩
theorem nil_left {bs : List β} (h : Pw R [] bs) : bs = [] := List.eq_nil_of_length_eq_zero h.1.symm
theorem cons_left {a : α} {as : List α} {bs : List β} (h : Pw R (a :: as) bs) : ∃ b r, bs = b :: r ∧ R a b ∧ Pw R as r := by
  cases bs with
  | nil => have := h.1; simp at this
  | cons b r => exact ⟨b, r, rfl, h.head, h.tail⟩
theorem append {as as' : List α} {bs bs' : List β} (h : Pw R as bs) (h' : Pw R as' bs') : Pw R (as ++ as') (bs ++ bs') := by
  refine ⟨by simp [h.1, h'.1], fun j a b ha hb => ?_⟩
  have hl := h.1
  rcases Nat.lt_or_ge j as.length with hj | hj
  · rw [List.getElem?_append_left hj] at ha
    rw [List.getElem?_append_left (by omega)] at hb
    exact h.2 j a b ha hb
  · rw [List.getElem?_append_right hj] at ha
    rw [List.getElem?_append_right (by omega), ← hl] at hb
    exact h'.2 _ a b ha hb
theorem take {as : List α} {bs : List β} (h : Pw R as bs) (n : Nat) : Pw R (as.take n) (bs.take n) := by
  refine ⟨by simp [h.1], fun j a b ha hb => ?_⟩
  rw [List.getElem?_take] at ha hb
  split at ha <;> simp_all
  exact h.2 j a b ha hb
theorem drop {as : List α} {bs : List β} (h : Pw R as bs) (n : Nat) : Pw R (as.drop n) (bs.drop n) := by
  refine ⟨by simp [h.1], fun j a b ha hb => ?_⟩
  rw [List.getElem?_drop] at ha hb
  exact h.2 _ a b ha hb
theorem get {as : List α} {bs : List β} (h : Pw R as bs) {j : Nat} {a : α} (ha : as[j]? = some a) : ∃ b, bs[j]? = some b ∧ R a b := by
  have hj : j < as.length := by
    rcases Nat.lt_or_ge j as.length with h | h
    · exact h
    · rw [List.getElem?_eq_none h] at ha; cases ha
  have hb : j < bs.length := by have := h.1; omega
  exact ⟨bs[j], List.getElem?_eq_getElem hb, h.2 j a _ ha (List.getElem?_eq_getElem hb)⟩
theorem set {as : List α} {bs : List β} (h : Pw R as bs) (n : Nat) {a : α} {b : β} (hr : R a b) : Pw R (as.set n a) (bs.set n b) := by
  refine ⟨by simp [h.1], fun j x y hx hy => ?_⟩
  rw [List.getElem?_set] at hx hy
  have hl := h.1
  split at hx
  · rename_i hj
    rw [if_pos hj] at hy
    split at hx <;> split at hy <;> simp_all
  · rename_i hj
    rw [if_neg hj] at hy
    exact h.2 j x y hx hy
theorem replicate (n : Nat) {a : α} {b : β} (h : R a b) : Pw R (List.replicate n a) (List.replicate n b) := by
  refine ⟨by simp, fun j x y hx hy => ?_⟩
  rw [List.getElem?_replicate] at hx hy
  split at hx <;> simp_all
theorem map_left {γ : Type} {f : γ → α} {as : List γ} {bs : List β} (h : Pw (fun c b => R (f c) b) as bs) : Pw R (as.map f) bs := by
  refine ⟨by simp [h.1], fun j x y hx hy => ?_⟩
  rw [List.getElem?_map] at hx
  obtain ⟨c, hc, rfl⟩ := Option.map_eq_some_iff.1 hx
  exact h.2 j c y hc hy
theorem of_map_left {γ : Type} {f : γ → α} {as : List γ} {bs : List β} (h : Pw R (as.map f) bs) : Pw (fun c b => R (f c) b) as bs :=
  ⟨by have := h.1; simpa using this, fun j c b hc hb => h.2 j (f c) b (by rw [List.getElem?_map, hc]; rfl) hb⟩
end Pw

/-- A whole block: a map's entries, a row's cells. -/
inductive Blk where
  | map (es : Array MapEntry)
  | cells (cs : Array Value)

/-- The package's variables, laid and left: cells, whole blocks. -/
structure Globs where
  c : Nat → Nat → Option Value
  m : Nat → Option Blk

/-- What is frozen: cells by block and place, maps by block. -/
structure Fz where
  cell : Nat → Nat → Option Value
  mp : Nat → Option Blk
  g : Globs

def Blk.at (k : Blk) (w : World) (b : Nat) : Prop :=
  match k with
  | .map es => ∃ c, w.heap[b]? = some (.map es c)
  | .cells cs => ∃ ty fz, w.heap[b]? = some (.cells cs ty fz)
theorem Blk.at_same {k : Blk} {w w' : World} {b : Nat} (h : k.at w b) (hb : w'.heap[b]? = w.heap[b]?) : k.at w' b := by
  cases k with
  | map es => obtain ⟨c, h⟩ := h; exact ⟨c, hb.trans h⟩
  | cells cs => obtain ⟨t, f, h⟩ := h; exact ⟨t, f, hb.trans h⟩

structure Fz.le (S S' : Fz) : Prop where
  cell : ∀ b i v, S.cell b i = some v → S'.cell b i = some v
  mp : ∀ b es, S.mp b = some es → S'.mp b = some es
  g : S'.g = S.g

theorem Fz.le.refl (S : Fz) : S.le S := ⟨fun _ _ _ h => h, fun _ _ h => h, rfl⟩
theorem Fz.le.trans {S S' S'' : Fz} (h : S.le S') (h' : S'.le S'') : S.le S'' := ⟨fun b i v x => h'.cell b i v (h.cell b i v x), fun b es x => h'.mp b es (h.mp b es x), h'.g.trans h.g⟩

structure Fz.ok (S : Fz) (w : World) : Prop where
  cell : ∀ b i v, S.cell b i = some v → w.cell? ⟨b, i, none⟩ = some v
  mp : ∀ b k, S.mp b = some k → k.at w b
  g : ∀ b i v, S.g.c b i = some v → S.cell b i = some v
  gm : ∀ b k, S.g.m b = some k → S.mp b = some k

/-- Cells that lie frozen from a place on. -/
def Fz.lies (S : Fz) (b o : Nat) (vs : List Value) : Prop := ∀ (j : Nat) (v : Value), vs[j]? = some v → S.cell b (o + j) = some v

theorem Fz.lies.mono {S S' : Fz} {b o : Nat} {vs : List Value} (h : S.lies b o vs) (hs : S.le S') : S'.lies b o vs := fun j v hv => hs.cell _ _ _ (h j v hv)

def flat (xs : List V) : List V := xs.flatMap V.cells

inductive Rep (S : Fz) : V → Value → Prop
  | bool (b : Bool) : Rep S (.bool b) (.bool b)
  | int (k : IntKind) (n : Int) : Rep S (.int k n) (.int k n)
  | str (s : List UInt8) : Rep S (.str s) (.string ⟨s.toArray⟩)
  | nilp : Rep S .nilp (.pointer none)
  | ptr {cs : List V} (b o : Nat) (vs : List Value) (hl : cs.length = vs.length) (hc : S.lies b o vs)
      (hr : ∀ (j : Nat) (c : V) (v : Value), cs[j]? = some c → vs[j]? = some v → Rep S c v) : Rep S (.ptr cs) (.pointer (some ⟨b, o, none⟩))
  | nils : Rep S .nils (.slice none 0 0)
  | list0 (a : Option Addr) (cap : Nat) : Rep S (.list []) (.slice a 0 cap)
  | list {xs : List V} (b o cap sz : Nat) (vs : List Value) (hs : ∀ x ∈ xs, x.cells.length = sz) (hcap : xs.length ≤ cap) (hl : (flat xs).length = vs.length) (hc : S.lies b o vs)
      (hr : ∀ (j : Nat) (c : V) (v : Value), (flat xs)[j]? = some c → vs[j]? = some v → Rep S c v) : Rep S (.list xs) (.slice (some ⟨b, o, none⟩) xs.length cap)
  | nilm : Rep S .nilm (.map none)
  | map {es : List V} (r : Nat) (ents : Array MapEntry) (ks xs : Nat → V) (hm : S.mp r = some (.map ents)) (hl : es.length = ents.size)
      (he : ∀ j, j < es.length → es[j]? = some (.tup [ks j, xs j])) (hk : ∀ (j : Nat) (e : MapEntry), ents[j]? = some e → Rep S (ks j) e.key)
      (hx : ∀ (j : Nat) (e : MapEntry), ents[j]? = some e → Rep S (xs j) e.val) : Rep S (.map es) (.map (some r))
  | fn {a b : List V} (f : FuncId) (va vb : List Value) (hla : a.length = va.length) (hlb : b.length = vb.length)
      (ha : ∀ (j : Nat) (c : V) (v : Value), a[j]? = some c → va[j]? = some v → Rep S c v)
      (hb : ∀ (j : Nat) (c : V) (v : Value), b[j]? = some c → vb[j]? = some v → Rep S c v) : Rep S (.fn f a b) (.func (.func f) va.toArray vb.toArray)
  | nilf : Rep S .nilf .nilFunc
  | nili : Rep S .nili .nilIface
  | iface (t : TypeId) {x : V} {v : Value} (h : Rep S x v) : Rep S (.iface t x) (.iface t v)
  | agg {cs : List V} (vs : List Value) (hl : cs.length = vs.length) (hr : ∀ (j : Nat) (c : V) (v : Value), cs[j]? = some c → vs[j]? = some v → Rep S c v) : Rep S (.agg cs) (.agg vs.toArray)
  | tup {cs : List V} (vs : List Value) (hl : cs.length = vs.length) (hr : ∀ (j : Nat) (c : V) (v : Value), cs[j]? = some c → vs[j]? = some v → Rep S c v) : Rep S (.tup cs) (.tuple vs.toArray)

theorem Rep.mono {S S' : Fz} (hs : S.le S') {x : V} {v : Value} (h : Rep S x v) : Rep S' x v := by
  induction h with
  | bool b => exact .bool b
  | int k n => exact .int k n
  | str s => exact .str s
  | nilp => exact .nilp
  | ptr b o vs hl hc _ ih => exact .ptr b o vs hl (hc.mono hs) ih
  | nils => exact .nils
  | list0 a cap => exact .list0 a cap
  | list b o cap sz vs h1 h2 hl hc _ ih => exact .list b o cap sz vs h1 h2 hl (hc.mono hs) ih
  | nilm => exact .nilm
  | map r ents ks xs hm hl he _ _ ihk ihx => exact .map r ents ks xs (hs.mp _ _ hm) hl he ihk ihx
  | fn f va vb hla hlb _ _ iha ihb => exact .fn f va vb hla hlb iha ihb
  | nilf => exact .nilf
  | nili => exact .nili
  | iface t _ ih => exact .iface t ih
  | agg vs hl _ ih => exact .agg vs hl ih
  | tup vs hl _ ih => exact .tup vs hl ih

theorem Rep.mk_agg {S : Fz} {cs : List V} {vs : List Value} (h : Pw (Rep S) cs vs) : Rep S (.agg cs) (.agg vs.toArray) := .agg vs h.1 h.2
theorem Rep.mk_tup {S : Fz} {cs : List V} {vs : List Value} (h : Pw (Rep S) cs vs) : Rep S (.tup cs) (.tuple vs.toArray) := .tup vs h.1 h.2
theorem Rep.of_agg {S : Fz} {cs : List V} {v : Value} (h : Rep S (.agg cs) v) : ∃ vs, v = .agg vs.toArray ∧ Pw (Rep S) cs vs := by
  cases h with | agg vs hl hr => exact ⟨vs, rfl, hl, hr⟩
theorem Rep.of_tup {S : Fz} {cs : List V} {v : Value} (h : Rep S (.tup cs) v) : ∃ vs, v = .tuple vs.toArray ∧ Pw (Rep S) cs vs := by
  cases h with | tup vs hl hr => exact ⟨vs, rfl, hl, hr⟩

/-- A value's cells are what its abstract cells say. -/
theorem Rep.cells {S : Fz} {x : V} {v : Value} (h : Rep S x v) : Pw (Rep S) x.cells v.cells.toList := by
  cases h with
  | agg vs hl hr => simp only [V.cells, Value.cells, List.toList_toArray]; exact ⟨hl, hr⟩
  | _ => simp only [V.cells, Value.cells]; refine Pw.cons ?_ Pw.nil; constructor <;> assumption

theorem Rep.one {S : Fz} {x : V} {v : Value} (h : Rep S x v) (hx : x.one = true) : v.oneCell' = true := by
  cases h <;> first | (exact rfl) | (simp [V.one] at hx)

/-- Where an own object lies: its block; of a slice's row its length and capacity. -/
structure Loc where
  b : Nat
  len : Nat
  cap : Nat

abbrev Locs := Nat → Option Loc

def relA (S : Fz) (σ : Locs) : At → Value → Prop
  | .v x, v => Rep S x v
  | .loc i o, v => ∃ L, σ i = some L ∧ v = .pointer (some ⟨L.b, o, none⟩)
  | .el i sz k o, v => ∃ L, σ i = some L ∧ v = .pointer (some ⟨L.b, k * sz + o, none⟩)
  | .fadr cs o, v => ∃ b p vs, Pw (Rep S) cs vs ∧ S.lies b p vs ∧ v = .pointer (some ⟨b, p + o, none⟩)
  | .own i, v => ∃ L, σ i = some L ∧ v = .slice (some ⟨L.b, 0, none⟩) L.len L.cap
  | .win i sz lo n, v => ∃ L, σ i = some L ∧ ∃ a c, v = .slice a n c ∧ n ≤ c ∧ (0 < n → a = some ⟨L.b, lo * sz, none⟩)
  | .mapr i, v => ∃ L, σ i = some L ∧ v = .map (some L.b)
  | .itr i, v => ∃ L, σ i = some L ∧ v = .pointer (some ⟨L.b, 0, none⟩)

def relT (S : Fz) (σ : Locs) : T2 → Value → Prop
  | .a x, v => relA S σ x v
  | .agg cs, v => ∃ vs, v = .agg vs.toArray ∧ Pw (relA S σ) cs vs

def relS (S : Fz) (σ : Locs) : SV → Value → Prop
  | .undef, _ => True
  | .a x, v => relA S σ x v
  | .agg cs, v => ∃ vs, v = .agg vs.toArray ∧ Pw (relA S σ) cs vs
  | .tup xs, v => ∃ vs, v = .tuple vs.toArray ∧ Pw (relT S σ) xs vs
  | .clo f a b, v => ∃ va vb, v = .func (.func f) va.toArray vb.toArray ∧ Pw (relA S σ) a va ∧ Pw (relA S σ) b vb

def Locs.le (σ σ' : Locs) : Prop := ∀ i L, σ i = some L → σ' i = some L
theorem Locs.le.refl (σ : Locs) : Locs.le σ σ := fun _ _ h => h
theorem Locs.le.trans {σ σ' σ'' : Locs} (h : Locs.le σ σ') (h' : Locs.le σ' σ'') : Locs.le σ σ'' := fun i L x => h' i L (h i L x)

section
variable {S S' : Fz} {σ σ' : Locs}
theorem relA.mono (hs : S.le S') (hσ : Locs.le σ σ') {x : At} {v : Value} (h : relA S σ x v) : relA S' σ' x v := by
  cases x with
  | v x => exact Rep.mono hs h
  | fadr cs o => obtain ⟨b, p, vs, h1, h2, h3⟩ := h; exact ⟨b, p, vs, h1.mono fun _ _ => Rep.mono hs, h2.mono hs, h3⟩
  | _ => obtain ⟨L, h1, h2⟩ := h; exact ⟨L, hσ _ _ h1, h2⟩
theorem relAs.mono (hs : S.le S') (hσ : Locs.le σ σ') {cs : List At} {vs : List Value} (h : Pw (relA S σ) cs vs) : Pw (relA S' σ') cs vs := h.mono fun _ _ => relA.mono hs hσ
theorem relT.mono (hs : S.le S') (hσ : Locs.le σ σ') {x : T2} {v : Value} (h : relT S σ x v) : relT S' σ' x v := by
  cases x with
  | a x => exact relA.mono hs hσ h
  | agg cs => obtain ⟨vs, h1, h2⟩ := h; exact ⟨vs, h1, relAs.mono hs hσ h2⟩
theorem relTs.mono (hs : S.le S') (hσ : Locs.le σ σ') {cs : List T2} {vs : List Value} (h : Pw (relT S σ) cs vs) : Pw (relT S' σ') cs vs := h.mono fun _ _ => relT.mono hs hσ
theorem relS.mono (hs : S.le S') (hσ : Locs.le σ σ') {x : SV} {v : Value} (h : relS S σ x v) : relS S' σ' x v := by
  cases x with
  | undef => trivial
  | a x => exact relA.mono hs hσ h
  | agg cs => obtain ⟨vs, h1, h2⟩ := h; exact ⟨vs, h1, relAs.mono hs hσ h2⟩
  | tup cs => obtain ⟨vs, h1, h2⟩ := h; exact ⟨vs, h1, relTs.mono hs hσ h2⟩
  | clo f a b => obtain ⟨va, vb, h1, h2, h3⟩ := h; exact ⟨va, vb, h1, relAs.mono hs hσ h2, relAs.mono hs hσ h3⟩
end

theorem relAs_v {S : Fz} {σ : Locs} {cs : List V} {vs : List Value} (h : Pw (Rep S) cs vs) : Pw (relA S σ) (cs.map At.v) vs := Pw.map_left h

theorem allV_some {cs : List At} {xs : List V} (h : allV cs = some xs) : cs = xs.map At.v := by
  induction cs generalizing xs with
  | nil => simp [allV] at h; subst h; rfl
  | cons c r ih =>
    cases c with
    | v x =>
      simp only [allV] at h
      split at h
      · rename_i vs hv; cases h; rw [ih hv]; rfl
      · cases h
    | _ => simp [allV] at h

theorem rel_mkAgg {S : Fz} {σ : Locs} {cs : List At} {vs : List Value} (h : Pw (relA S σ) cs vs) : relS S σ (mkAgg cs) (.agg vs.toArray) := by
  unfold mkAgg
  split
  · rename_i xs hx
    rw [allV_some hx] at h
    exact Rep.mk_agg (Pw.of_map_left (R := relA S σ) (f := At.v) h)
  · exact ⟨vs, rfl, h⟩

theorem allT2V_some {cs : List T2} {xs : List V} (h : allT2V cs = some xs) : cs = xs.map fun x => .a (.v x) := by
  induction cs generalizing xs with
  | nil => simp [allT2V] at h; subst h; rfl
  | cons c r ih =>
    cases c with
    | agg cs => simp [allT2V] at h
    | a y =>
      cases y with
      | v x =>
        simp only [allT2V] at h
        split at h
        · rename_i vs hv; cases h; rw [ih hv]; rfl
        · cases h
      | _ => simp [allT2V] at h

theorem rel_mkTup {S : Fz} {σ : Locs} {cs : List T2} {vs : List Value} (h : Pw (relT S σ) cs vs) : relS S σ (mkTup cs) (.tuple vs.toArray) := by
  unfold mkTup
  split
  · rename_i xs hx
    rw [allT2V_some hx] at h
    exact Rep.mk_tup (Pw.of_map_left (R := relT S σ) (f := fun x => T2.a (At.v x)) h)
  · exact ⟨vs, rfl, h⟩

theorem rel_T2sv {S : Fz} {σ : Locs} {x : T2} {v : Value} (h : relT S σ x v) : relS S σ x.sv v := by
  cases x <;> exact h

theorem rel_toT2 {S : Fz} {σ : Locs} {x : SV} {y : T2} {v : Value} (h : toT2 x = some y) (hr : relS S σ x v) : relT S σ y v := by
  cases x <;> simp [toT2] at h <;> subst h <;> exact hr

/-- A slot's value's cells. -/
theorem relS.cells {S : Fz} {σ : Locs} {x : SV} {cs : List At} {v : Value} (h : relS S σ x v) (hc : x.cells = some cs) : Pw (relA S σ) cs v.cells.toList := by
  cases x with
  | undef => simp [SV.cells] at hc
  | tup _ => simp [SV.cells] at hc
  | clo _ _ _ => simp [SV.cells] at hc
  | agg ds =>
    simp [SV.cells] at hc
    subst hc
    obtain ⟨vs, rfl, hp⟩ := h
    simpa [Value.cells] using hp
  | a y =>
    cases y with
    | v z =>
      have hz : Rep S z v := h
      have hcs : cs = z.cells.map At.v := by
        cases z <;> simp [SV.cells] at hc <;> subst hc <;> rfl
      subst hcs
      exact relAs_v hz.cells
    | fadr cs' o =>
      simp [SV.cells] at hc
      subst hc
      obtain ⟨b, p, vs, h1, h2, rfl⟩ := h
      exact Pw.cons ⟨b, p, vs, h1, h2, rfl⟩ Pw.nil
    | win i sz lo n =>
      simp [SV.cells] at hc
      subst hc
      obtain ⟨L, h1, a, c, rfl, h2⟩ := h
      exact Pw.cons ⟨L, h1, a, c, rfl, h2⟩ Pw.nil
    | _ =>
      simp [SV.cells] at hc
      subst hc
      obtain ⟨L, h1, rfl⟩ := h
      exact Pw.cons ⟨L, h1, rfl⟩ Pw.nil

end Go.Ev
