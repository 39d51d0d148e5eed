/- A Builder is a variable of two cells over a row that grows: its check and its text, told; all else is the library's own code, evaluated. -/
import Derived.Test.YtmlhdhndjgdoaaaGreatDoorCuRet
import Derived.Test.YtmlhdhndjgdoaaaGreatDoorCuTl2
import Derived.Shelf.Strings.BuilderF
namespace Go.Ev
open Go.RowKit

section
variable {P : Program} {G : Globs} {tab : ToldK} {f : FuncId}

/-- What is to be shown of an entry that works on objects. -/
def ObjEntry (eT : List SV → Objs → Option R) (e : EntryT) : Prop :=
  ∀ args os t, e args os = some t → ∃ l : Option (SV × Objs), (∀ (β : Type) (K : SV → Objs → Option β), t β K = l.bind fun p => K p.1 p.2) ∧ ∀ p, l = some p → eT args os = some ⟨p.1, p.2⟩

theorem objE_binds {eT : List SV → Objs → Option R} {e : EntryT} (hb : Binds tab) (he : ObjEntry eT e) : Binds (addTo tab f e) := by
  intro g args os t h β K r hr
  simp only [addTo] at h
  split at h
  · split at h
    · rename_i t' ht
      cases h
      obtain ⟨l, h2, h3⟩ := he args os t ht
      rw [h2, Option.bind_eq_some_iff] at hr
      obtain ⟨p, hp, hk⟩ := hr
      exact ⟨⟨_, _⟩, by rw [h2, hp]; rfl, hk⟩
    · exact hb g args os t h K r hr
  · exact hb g args os t h K r hr

theorem objE_ok {eT : List SV → Objs → Option R} {e : EntryT} (hT : CallOK P G (toE tab)) (hf : CallOK P G fun g args os => if g = f then eT args os else none) (he : ObjEntry eT e) : CallOK P G (toE (addTo tab f e)) := by
  intro g args os r h
  simp only [toE, addTo] at h
  have old : ∀ {t}, tab g (viewL os args) os = some t → t R (fun sv os => some ⟨sv, os⟩) = some r → HasBody P g ∧ ∀ (S : Fz) (σ : Locs) (w : World) (vals : List Value), S.g = G → HeapSim S σ os w → Pw (relS S σ) args vals →
      Calls P g vals.toArray w fun e w' => ∃ v, e = .returned v ∧ Post os σ S w r v w' := fun {t} ht h => hT g args os r (by simp only [toE, ht]; exact h)
  split at h
  · rename_i t ht
    split at ht
    · rename_i hg
      split at ht
      · rename_i t' ht'
        cases ht
        subst hg
        obtain ⟨l, h2, h3⟩ := he _ os t ht'
        rw [h2, Option.bind_eq_some_iff] at h
        obtain ⟨p, hp, hk⟩ := h
        cases hk
        have h4 := h3 p hp
        obtain ⟨hbody, hcall⟩ := hf g (viewL os args) os ⟨p.1, p.2⟩ (by simp only [if_true]; exact h4)
        refine ⟨hbody, fun S σ w vals hG hs hp => ?_⟩
        obtain ⟨S1, k1, k2, k3⟩ := view_ok args S vals hs hp
        refine (hcall S1 σ w vals (k3.le.g.trans hG) k1 k2).mono fun e w' he => ?_
        obtain ⟨v, rfl, S2, σ2, q1, q2, q3⟩ := he
        exact ⟨v, rfl, S2, σ2, q1, q2, k3.trans q3⟩
      · exact old ht h
    · exact old ht h
  · cases h

/-! ### strings.Join of a row that is written: the row is frozen -/
noncomputable def jnE : EntryT
  | [.a (.own i), .a (.v (.str p))], os => match obj os i with
    | some (.arr _ _ xs) => some fun _ K => (sJoin (some xs) p).bind fun r => K (.a (.v (.str r))) (os.set i none)
    | _ => none
  | _, _ => none
theorem jn_l : ObjEntry (pureCall spJoin) jnE := by
  intro args os t h
  unfold jnE at h
  split at h
  · rename_i i p
    split at h
    · rename_i e sz xs ho
      cases h
      refine ⟨(sJoin (some xs) p).bind fun r => some (.a (.v (.str r)), os.set i none), fun β K => ?_, fun q hq => ?_⟩
      · cases sJoin (some xs) p <;> rfl
      · rw [Option.bind_eq_some_iff] at hq
        obtain ⟨r, h1, h2⟩ := hq
        cases h2
        have hf : freezeArgs os [SV.a (.own i), .a (.v (.str p))] = some ([.sl (some xs), .str p], os.set i none) := by
          simp [freezeArgs, freezeS, freezeA, depth, ho]
        simp [pureCall, hf, spJoin, h1]
    · cases h
  · cases h

/-- One own block's cells stand, its marks may turn; the objects in it are gone. -/
theorem HeapSim.mark {S : Fz} {σ : Locs} {os : Objs} {w w' : World} {g : Nat} (h : HeapSim S σ os w) (hno : ¬ Own os σ g) (hk : ∀ b, b ≠ g → w'.heap[b]? = w.heap[b]?) (hc : ∀ j v, w.cell? ⟨g, j, none⟩ = some v → w'.cell? ⟨g, j, none⟩ = some v) (hm : S.mp g = none) : HeapSim S σ os w' := by
  refine ⟨⟨fun b j v hv => ?_, fun b es hb => ?_, h.frz.g, h.frz.gm⟩, fun i o ho => ?_, h.inj, h.fit⟩
  · by_cases hb : b = g
    · subst hb; exact hc j v (h.frz.cell b j v hv)
    · exact (cell?_same (hk b hb)).trans (h.frz.cell b j v hv)
  · by_cases hbg : b = g
    · subst hbg; rw [hm] at hb; cases hb
    · exact Blk.at_same (h.frz.mp b es hb) (hk b hbg)
  · obtain ⟨L, h1, h2, h3⟩ := h.ob i o ho
    exact ⟨L, h1, h2.mono (.refl _) (.refl _) (hk _ fun e => hno ⟨i, o, L, ho, h1, e⟩), h3⟩

theorem rep_void {S : Fz} : Rep S (.tup []) (.tuple #[]) := Rep.mk_tup Pw.nil

/-! ### copyCheck -/
def ccT (tB : TypeId) : List SV → Objs → Option R
  | [.a (.loc i 0)], os => match obj os i with
    | some (.box ty [.v (.pt none), c]) => if ty = tB then some ⟨.void, os.set i (some (.box ty [.loc i 0, c]))⟩ else none
    | some (.box ty [.loc j 0, _]) => if ty = tB ∧ j = i then some ⟨.void, os⟩ else none
    | _ => none
  | _, _ => none
def ccE (tB : TypeId) : EntryT
  | [.a (.loc i 0)], os => match obj os i with
    | some (.box ty [.v (.pt none), c]) => if ty = tB then some fun _ K => K .void (os.set i (some (.box ty [.loc i 0, c]))) else none
    | some (.box ty [.loc j 0, _]) => if ty = tB ∧ j = i then some fun _ K => K .void os else none
    | _ => none
  | _, _ => none
theorem cc_l (tB : TypeId) : ObjEntry (ccT tB) (ccE tB) := by
  intro args os t h
  unfold ccE at h
  split at h
  · rename_i i
    split at h
    · rename_i ty c ho
      split at h
      · rename_i hty
        cases h
        exact ⟨some (.void, os.set i (some (.box ty [.loc i 0, c]))), fun _ _ => rfl, fun p hp => by cases hp; simp only [ccT, ho, if_pos hty]⟩
      · cases h
    · rename_i ty j c ho
      split at h
      · rename_i hty
        cases h
        exact ⟨some (.void, os), fun _ _ => rfl, fun p hp => by cases hp; simp only [ccT, ho, if_pos hty]⟩
      · cases h
    · cases h
  · cases h

theorem cc_ok {tB : TypeId} (hb : HasBody P f)
    (hfr : ∀ (b : Nat) (w : World), w.cell? ⟨b, 0, none⟩ = some (.pointer none) → w.shape? b = some (tB, 2) → w.frozen? ⟨b, 0, none⟩ = false → Calls P f #[.pointer (some ⟨b, 0, none⟩)] w fun e w' => e = .returned (.tuple #[]) ∧ w' = w.setCell ⟨b, 0, none⟩ (.pointer (some ⟨b, 0, none⟩)))
    (hus : ∀ (b : Nat) (w : World), w.cell? ⟨b, 0, none⟩ = some (.pointer (some ⟨b, 0, none⟩)) → Calls P f #[.pointer (some ⟨b, 0, none⟩)] w fun e w' => e = .returned (.tuple #[]) ∧ w' = w) :
    CallOK P G fun g args os => if g = f then ccT tB args os else none := by
  intro g args os r h
  simp only at h
  split at h
  · rename_i hg
    subst hg
    refine ⟨hb, fun S σ w vals hG hs hp => ?_⟩
    unfold ccT at h
    split at h
    · rename_i i
      obtain ⟨v0, vr, rfl, h0, hr⟩ := hp.cons_left
      have e2 := hr.nil_left
      subst e2
      obtain ⟨L, hL, rfl⟩ := h0
      split at h
      · rename_i ty c ho
        split at h
        · rename_i hty
          cases h
          subst hty
          obtain ⟨cc, hc1, hc2⟩ := (hs.loc ho hL).1
          obtain ⟨x0, xr, hx, hx0, hxr⟩ := hc2.cons_left
          obtain ⟨x1, xr1, rfl, hx1, hxr1⟩ := hxr.cons_left
          have e3 := hxr1.nil_left
          subst e3
          have hcc : cc = #[x0, x1] := by rw [← Array.toArray_toList (xs := cc), hx]
          subst hcc
          have hx0' : x0 = .pointer none := by
            have : Rep S (.pt none) x0 := hx0
            cases this; rfl
          subst hx0'
          have hcell : w.cell? ⟨L.b, 0, none⟩ = some (.pointer none) := by rw [Lib.cell_of_heap hc1]; rfl
          have hsh : w.shape? L.b = some (ty, 2) := by simp [World.shape?, hc1]
          have hfz := Lib.frozen_of_heap hc1 0
          refine (hfr L.b w hcell hsh hfz).mono fun e w' ⟨he, hw⟩ => ?_
          subst hw
          have hkeep : ∀ b, b ≠ L.b → (w.setCell ⟨L.b, 0, none⟩ (.pointer (some ⟨L.b, 0, none⟩))).heap[b]? = w.heap[b]? := fun b hne => by
            unfold World.setCell
            simp only [Array.getElem?_modify]
            rw [if_neg (fun e => hne e.symm)]
          have hnew : (w.setCell ⟨L.b, 0, none⟩ (.pointer (some ⟨L.b, 0, none⟩))).heap[L.b]? = some (.cells #[.pointer (some ⟨L.b, 0, none⟩), x1] ty (0, 0)) := by
            unfold World.setCell
            simp only [Array.getElem?_modify, if_true, hc1, Option.map_some]
            rfl
          have hsim : ObjSim S σ (.box ty [.loc i 0, c]) L (w.setCell ⟨L.b, 0, none⟩ (.pointer (some ⟨L.b, 0, none⟩))) :=
            ⟨_, hnew, Pw.cons ⟨L, hL, rfl⟩ (Pw.cons hx1 Pw.nil)⟩
          have hfree := (hs.loc ho hL).2
          refine ⟨_, he, S, σ, hs.put ho hL hkeep (fun j v hv => ?_) hsim rfl, rep_void, ?_⟩
          · have := hfree.cell j (Nat.zero_le _)
            rw [this] at hv; cases hv
          · exact Fr.put ho hL hkeep (by simp [World.setCell]) rfl rfl rfl
        · cases h
      · rename_i ty j c ho
        split at h
        · rename_i hty
          cases h
          obtain ⟨rfl, rfl⟩ := hty
          obtain ⟨cc, hc1, hc2⟩ := (hs.loc ho hL).1
          obtain ⟨x0, xr, hx, hx0, hxr⟩ := hc2.cons_left
          obtain ⟨L', hL', hx0'⟩ := hx0
          rw [hL] at hL'
          cases hL'
          have hcell : w.cell? ⟨L.b, 0, none⟩ = some (.pointer (some ⟨L.b, 0, none⟩)) := by
            rw [Lib.cell_of_heap hc1]
            rw [← Array.getElem?_toList, hx, hx0']; rfl
          refine (hus L.b w hcell).mono fun e w' ⟨he, hw⟩ => ?_
          subst hw
          exact ⟨_, he, S, σ, hs, rep_void, .refl (Nat.le_refl _)⟩
        · cases h
      · cases h
    · cases h
  · cases h

/-! ### String -/
/-- A byte. -/
def okB : V → Bool
  | .int .u8 n => decide (0 ≤ n ∧ n ≤ 255)
  | _ => false
def bsT (tB tU : TypeId) : List SV → Objs → Option R
  | [.a (.loc i 0)], os => match obj os i with
    | some (.box ty [_, .v (.sl none)]) => if ty = tB then some ⟨.a (.v (.str [])), os.set i none⟩ else none
    | some (.box ty [_, .own j]) => match obj os j with
      | some (.ext e sz xs) => if ty = tB ∧ e = tU ∧ sz = 1 then (bytesOf xs).bind fun s => chk (decide (0 < xs.length) && xs.all okB) (some ⟨.a (.v (.str s)), (os.set i none).set j none⟩) else none
      | some (.arr e sz xs) => if ty = tB ∧ e = tU ∧ sz = 1 then (bytesOf xs).bind fun s => chk (decide (0 < xs.length) && xs.all okB) (some ⟨.a (.v (.str s)), (os.set i none).set j none⟩) else none
      | _ => none
    | _ => none
  | _, _ => none
def bsE (tB tU : TypeId) : EntryT
  | [.a (.loc i 0)], os => match obj os i with
    | some (.box ty [_, .v (.sl none)]) => if ty = tB then some fun _ K => K (.a (.v (.str []))) (os.set i none) else none
    | some (.box ty [_, .own j]) => match obj os j with
      | some (.ext e sz xs) => if ty = tB ∧ e = tU ∧ sz = 1 then some fun _ K => (bytesOf xs).bind fun s => chk (decide (0 < xs.length) && xs.all okB) (K (.a (.v (.str s))) ((os.set i none).set j none)) else none
      | some (.arr e sz xs) => if ty = tB ∧ e = tU ∧ sz = 1 then some fun _ K => (bytesOf xs).bind fun s => chk (decide (0 < xs.length) && xs.all okB) (K (.a (.v (.str s))) ((os.set i none).set j none)) else none
      | _ => none
    | _ => none
  | _, _ => none

theorem bs_l (tB tU : TypeId) : ObjEntry (bsT tB tU) (bsE tB tU) := by
  intro args os t h
  unfold bsE at h
  have row : ∀ (xs : List V) (os' : Objs), ∃ l : Option (SV × Objs), (∀ (β : Type) (K : SV → Objs → Option β), ((bytesOf xs).bind fun s => chk (decide (0 < xs.length) && xs.all okB) (K (.a (.v (.str s))) os')) = l.bind fun p => K p.1 p.2) ∧
      ∀ p, l = some p → ((bytesOf xs).bind fun s => chk (decide (0 < xs.length) && xs.all okB) (some (R.mk (.a (.v (.str s))) os'))) = some ⟨p.1, p.2⟩ := by
    intro xs os'
    refine ⟨(bytesOf xs).bind fun s => chk (decide (0 < xs.length) && xs.all okB) (some (.a (.v (.str s)), os')), fun β K => ?_, fun p hp => ?_⟩
    · cases bytesOf xs with
      | none => rfl
      | some s =>
        simp only [Option.bind_some]
        cases (decide (0 < xs.length) && xs.all okB) <;> rfl
    · revert hp
      cases bytesOf xs with
      | none => intro hp; cases hp
      | some s =>
        simp only [Option.bind_some]
        cases (decide (0 < xs.length) && xs.all okB)
        · intro hp; cases hp
        · intro hp; cases hp; rfl
  split at h
  · rename_i i
    split at h
    · rename_i ty p ho
      split at h
      · rename_i hty
        cases h
        exact ⟨some (.a (.v (.str [])), os.set i none), fun _ _ => rfl, fun p hp => by cases hp; simp only [bsT, ho, if_pos hty]⟩
      · cases h
    · rename_i ty p j ho
      split at h
      · rename_i e sz xs ho2
        split at h
        · rename_i hty
          cases h
          obtain ⟨l, h1, h2⟩ := row xs ((os.set i none).set j none)
          exact ⟨l, h1, fun p hp => by simp only [bsT, ho, ho2, if_pos hty]; exact h2 p hp⟩
        · cases h
      · rename_i e sz xs ho2
        split at h
        · rename_i hty
          cases h
          obtain ⟨l, h1, h2⟩ := row xs ((os.set i none).set j none)
          exact ⟨l, h1, fun p hp => by simp only [bsT, ho, ho2, if_pos hty]; exact h2 p hp⟩
        · cases h
      · cases h
    · cases h
  · cases h

theorem bytes_cells {S : Fz} : ∀ {xs : List V} {s : List UInt8} {vs : List Value}, bytesOf xs = some s → xs.all okB = true → Pw (Rep S) (flat xs) vs → vs = Lib.byteCells s ∧ s.length = xs.length := by
  intro xs
  induction xs with
  | nil =>
    intro s vs h _ hp
    cases h
    have : vs = [] := hp.nil_left
    subst this
    exact ⟨rfl, rfl⟩
  | cons x r ih =>
    intro s vs h hok hp
    rw [List.all_cons, Bool.and_eq_true] at hok
    obtain ⟨h1, h2⟩ := hok
    unfold okB at h1
    split at h1
    · rename_i n
      rw [decide_eq_true_eq] at h1
      unfold bytesOf at h
      split at h
      · rename_i t ht
        cases h
        have hfl : flat (V.int .u8 n :: r) = V.int .u8 n :: flat r := rfl
        rw [hfl] at hp
        obtain ⟨v0, vr, rfl, h0, hr⟩ := hp.cons_left
        obtain ⟨e1, e2⟩ := ih ht h2 hr
        have : v0 = .int .u8 n := by cases h0; rfl
        subst this e1
        refine ⟨?_, by simp [e2]⟩
        have hn : ((UInt8.ofNat n.toNat).toNat : Int) = n := by
          have : (UInt8.ofNat n.toNat).toNat = n.toNat % 256 := UInt8.toNat_ofNat'
          rw [this]; omega
        show Value.int .u8 n :: Lib.byteCells t = Value.int .u8 ((UInt8.ofNat n.toNat).toNat : Int) :: Lib.byteCells t
        rw [hn]
      · cases h
    · cases h1

/-- What String does to a row that holds some bytes. -/
def RowText (P : Program) (f : FuncId) (tB tU : TypeId) : Prop :=
  ∀ (b g cap : Nat) (cur : Array Value) (p : Value) (l : List UInt8) (w : World), l ≠ [] → w.heap[b]? = some (.cells #[p, .slice (some ⟨g, 0, none⟩) l.length cap] tB (0, 0)) → w.heap[g]? = some (.cells cur tU (0, 0)) → l.length ≤ cap → cap ≤ maxLen → cur.size = cap → cur.toList.take l.length = Lib.byteCells l →
    Calls P f #[.pointer (some ⟨b, 0, none⟩)] w fun e w' => e = .returned (.string ⟨l.toArray⟩) ∧ w' = w.drew.freeze ⟨g, 0, none⟩ l.length

theorem freeze_facts (w : World) (g n : Nat) : (∀ b, b ≠ g → (w.drew.freeze ⟨g, 0, none⟩ n).heap[b]? = w.heap[b]?) ∧ (∀ j v, w.cell? ⟨g, j, none⟩ = some v → (w.drew.freeze ⟨g, 0, none⟩ n).cell? ⟨g, j, none⟩ = some v) ∧
    (w.drew.freeze ⟨g, 0, none⟩ n).heap.size = w.heap.size ∧ (w.drew.freeze ⟨g, 0, none⟩ n).os = w.os ∧ (w.drew.freeze ⟨g, 0, none⟩ n).tape = w.tape ∧ (w.drew.freeze ⟨g, 0, none⟩ n).output = w.output := by
  have hb := Lib.below_freeze (B := 0) (Below.drew (Below.refl 0 w)) (p := ⟨g, 0, none⟩) (Nat.zero_le _) n
  refine ⟨fun b hne => ?_, fun j v hv => ?_, ?_, hb.os, hb.tape, hb.output⟩
  · unfold World.freeze
    split
    · rfl
    · simp only [Array.getElem?_modify]
      rw [if_neg (fun e => hne e.symm)]
      rfl
  · unfold World.freeze
    split
    · exact hv
    · unfold World.cell? at hv ⊢
      simp only [Array.getElem?_modify, if_true]
      have hd : w.drew.heap[g]? = w.heap[g]? := rfl
      simp only [hd]
      cases hg : w.heap[g]? with
      | none => rw [hg] at hv; cases hv
      | some o =>
        rw [hg] at hv
        cases o with
        | cells c e fz => exact hv
        | _ => exact hv
  · unfold World.freeze
    split
    · rfl
    · simp only [Array.size_modify]; rfl

theorem bs_ok {tB tU : TypeId} (hb : HasBody P f) (hrow : RowText P f tB tU)
    (hnil : ∀ (b : Nat) (p : Value) (w : World), w.heap[b]? = some (.cells #[p, .slice none 0 0] tB (0, 0)) → Calls P f #[.pointer (some ⟨b, 0, none⟩)] w fun e w' => e = .returned (.string ⟨#[]⟩) ∧ Below w.heap.size w w') :
    CallOK P G fun g args os => if g = f then bsT tB tU args os else none := by
  intro g args os r h
  simp only at h
  split at h
  · rename_i hg
    subst hg
    refine ⟨hb, fun S σ w vals hG hs hp => ?_⟩
    unfold bsT at h
    split at h
    · rename_i i
      obtain ⟨v0, vr, rfl, h0, hr⟩ := hp.cons_left
      have e2 := hr.nil_left
      subst e2
      obtain ⟨L, hL, rfl⟩ := h0
      split at h
      · rename_i ty p0 ho
        split at h
        · rename_i hty
          cases h
          subst hty
          obtain ⟨cc, hc1, hc2⟩ := (hs.loc ho hL).1
          obtain ⟨x0, xr, hx, hx0, hxr⟩ := hc2.cons_left
          obtain ⟨x1, xr1, rfl, hx1, hxr1⟩ := hxr.cons_left
          have e3 := hxr1.nil_left
          subst e3
          have hcc : cc = #[x0, x1] := by rw [← Array.toArray_toList (xs := cc), hx]
          subst hcc
          have hx1' : x1 = .slice none 0 0 := by
            have : Rep S (.sl none) x1 := hx1
            cases this; rfl
          subst hx1'
          refine (hnil L.b x0 w hc1).mono fun e w' ⟨he, hbel⟩ => ?_
          have k1 := hs.kill (S' := S) ho hL (.refl S) hs.frz fun b _ => ⟨fun _ => rfl, rfl⟩
          have f1 := Fr.kill (S' := S) (w := w) ho hL (.refl S) fun b _ => ⟨fun _ => rfl, rfl⟩
          have k2 := k1.grown (w' := w') hbel.block
          have f2 := Fr.grown (os := os.set i none) (σ := σ) (S := S) (w := w) (w' := w') hbel.block hbel.size hbel.os hbel.tape hbel.output
          rw [List.length_set] at f2
          exact ⟨_, he, S, σ, k2, .str _, f1.trans f2⟩
        · cases h
      · rename_i ty p0 j ho
        have main : ∀ (xs : List V) (o : LObj), obj os j = some o → (o = .ext tU 1 xs ∨ o = .arr tU 1 xs) → ty = tB → ((bytesOf xs).bind fun s => chk (decide (0 < xs.length) && xs.all okB) (some (R.mk (.a (.v (.str s))) ((os.set i none).set j none)))) = some r →
            Calls P g #[.pointer (some ⟨L.b, 0, none⟩)] w fun e w' => ∃ v, e = .returned v ∧ Post os σ S w r v w' := by
          intro xs o hoj hor hty h5
          subst hty
          rw [Option.bind_eq_some_iff] at h5
          obtain ⟨s, hs1, h6⟩ := h5
          cases hck : (decide (0 < xs.length) && xs.all okB) with
          | false => rw [hck] at h6; cases h6
          | true =>
            rw [hck] at h6
            cases h6
            rw [Bool.and_eq_true, decide_eq_true_eq] at hck
            obtain ⟨hpos, hokb⟩ := hck
            obtain ⟨cc, hc1, hc2⟩ := (hs.loc ho hL).1
            obtain ⟨x0, xr, hx, hx0, hxr⟩ := hc2.cons_left
            obtain ⟨x1, xr1, rfl, hx1, hxr1⟩ := hxr.cons_left
            have e3 := hxr1.nil_left
            subst e3
            have hcc : cc = #[x0, x1] := by rw [← Array.toArray_toList (xs := cc), hx]
            subst hcc
            obtain ⟨M, hM, hx1'⟩ := hx1
            have hrowM : xs.length = M.len ∧ ∃ vs, w.ownsRow 0 tU 1 (.slice (some ⟨M.b, 0, none⟩) M.len M.cap) M.len vs ∧ Pw (Rep S) (flat xs) vs := by
              have := (hs.loc hoj hM).1
              rcases hor with rfl | rfl
              · obtain ⟨_, q1, _, vs, q2, q3, _⟩ := this; exact ⟨q1, vs, q2, q3⟩
              · obtain ⟨_, q1, _, vs, q2, q3⟩ := this; exact ⟨q1, vs, q2, q3⟩
            obtain ⟨hlen, vs, hown, hpw⟩ := hrowM
            obtain ⟨rfl, hsl⟩ := bytes_cells hs1 hokb hpw
            rcases hown.2 with ⟨hv, _⟩ | ⟨g', cap, cur, hv, _, hg, hn, hcm, hcs, htk⟩
            · cases hv
            · cases hv
              have hsM : s.length = M.len := by omega
              have hne : s ≠ [] := fun e => by subst e; simp at hsM; omega
              rw [hx1', ← hsM] at hc1
              rw [← hsM] at hn htk
              refine (hrow L.b M.b M.cap cur x0 s w hne hc1 hg hn hcm (by simpa using hcs) (by simpa using htk)).mono fun e w' ⟨he, hw⟩ => ?_
              subst hw
              obtain ⟨q1, q2, q3, q4, q5, q6⟩ := freeze_facts w M.b s.length
              have k1 := hs.kill (S' := S) ho hL (.refl S) hs.frz fun b _ => ⟨fun _ => rfl, rfl⟩
              have f1 := Fr.kill (S' := S) (w := w) ho hL (.refl S) fun b _ => ⟨fun _ => rfl, rfl⟩
              have hij : j ≠ i := fun e => by
                subst e
                rw [ho] at hoj
                rcases hor with rfl | rfl <;> cases hoj
              have hoj' : obj (os.set i none) j = some o := by
                rw [obj_set (obj_lt ho), if_neg hij]; exact hoj
              have k2 := k1.kill (S' := S) hoj' hM (.refl S) k1.frz fun b _ => ⟨fun _ => rfl, rfl⟩
              have f2 := Fr.kill (S' := S) (w := w) hoj' hM (.refl S) fun b _ => ⟨fun _ => rfl, rfl⟩
              rw [List.length_set] at f2
              have hmp : S.mp M.b = none := (hs.loc hoj hM).2.mp
              have hnoown : ¬ Own ((os.set i none).set j none) σ M.b := by
                rintro ⟨k, x, N, hk, hN, hNb⟩
                obtain ⟨hkj, hk⟩ := obj_set_none hk
                obtain ⟨hki, hk⟩ := obj_set_none hk
                exact hkj (hs.inj k j x o N M hk hoj hN hM hNb)
              have k3 := k2.mark hnoown q1 q2 hmp
              have f3 : Fr os.length os σ S w ((os.set i none).set j none) σ S (w.drew.freeze ⟨M.b, 0, none⟩ s.length) := by
                have f12 := f1.trans f2
                refine ⟨f12.le, f12.loc, f12.len, f12.dead, by rw [q3]; exact Nat.le_refl _, q4, q5, q6, fun b hb hno => ⟨q1 b fun e => hno ⟨j, o, M, hoj, hM, e.symm⟩, fun _ => rfl, rfl⟩, f12.own⟩
              exact ⟨_, he, S, σ, k3, .str _, f3⟩
        split at h
        · rename_i e sz xs hoj
          split at h
          · rename_i hty
            obtain ⟨rfl, rfl, rfl⟩ := hty
            exact main xs _ hoj (.inl rfl) rfl h
          · cases h
        · rename_i e sz xs hoj
          split at h
          · rename_i hty
            obtain ⟨rfl, rfl, rfl⟩ := hty
            exact main xs _ hoj (.inr rfl) rfl h
          · cases h
        · cases h
      · cases h
    · cases h
  · cases h
end
end Go.Ev

namespace Go.Proofs
open Go.Shelf Go.RowKit
variable {P : Program} {ρ : Ren}
set_option maxHeartbeats 2000000 in
set_option maxRecDepth 100000 in
/-- String of a row that holds some bytes, with the world behind it: these bytes are marked, nothing else is touched. (Turned from the shelf's own proof.) -/
theorem Builder_String_row (L : Lays.n169 P ρ) (X : Builder.Extra P ρ) : Go.Ev.RowText P (ρ.f 169) (ρ.t 72) (ρ.t 5) := by
  intro b g cap cur p l w h0 hbk hg hnc hcm hcs htake
  have hl0 : l.length ≠ 0 := by simpa using h0
  have c1 : w.drew.cell? ⟨b, 1, none⟩ = some (.slice (some ⟨g, 0, none⟩) l.length cap) := by
    have : w.drew.heap[b]? = some (.cells #[p, .slice (some ⟨g, 0, none⟩) l.length cap] (ρ.t 72) (0, 0)) := hbk
    rw [Lib.cell_of_heap this]; rfl
  have hSD : (Builtin.unsafeSliceData_ #[(ρ.t 37)] (ρ.t 127) #[.slice (some ⟨g, 0, none⟩) l.length cap]).run P w.drew = .ok (.pointer (some ⟨g, 0, none⟩)) w.drew :=
    Lib.run_unsafeSliceData_row _ _ _ _ _ _ (by omega)
  have hUS : (Builtin.unsafeString_ #[(ρ.t 127), (ρ.t 3)] (ρ.t 9) #[.pointer (some ⟨g, 0, none⟩), .int .i64 l.length]).run P w.drew = .ok (.string ⟨l.toArray⟩) (w.drew.freeze ⟨g, 0, none⟩ l.length) := by
    refine Lib.run_unsafeString_row w.drew (ρ.t 127) (ρ.t 3) (ρ.t 9) (ρ.t 5) L.t127 X.cellsByte g cur.size (by have hg' : w.drew.heap[g]? = some (.cells cur (ρ.t 5) (0, 0)) := hg; simp [World.shape?, hg']) l h0 (by omega) (by unfold maxLen at hcm; omega) ?_
    intro j x hx
    have hj : (cur.toList.take l.length)[j]? = some (.int .u8 x.toNat) := by rw [htake]; simp [Lib.byteCells, hx]
    have hj2 : cur[j]? = some (.int .u8 x.toNat) := by
      rw [← Array.getElem?_toList]
      rw [List.getElem?_take] at hj
      split at hj
      · exact hj
      · cases hj
    have hg' : w.drew.heap[g]? = some (.cells cur (ρ.t 5) (0, 0)) := hg
    have := Lib.cell_of_heap hg' j
    have ha : (⟨g, 0, none⟩ : Addr).add j = ⟨g, j, none⟩ := by
      unfold Addr.add
      by_cases h0 : j = 0
      · subst h0; rfl
      · simp [h0]
    rw [ha, this, hj2]
  have mixed := L.mixed
  have t72 := L.t72; have a72 := L.a72; have z72 := L.z72; have v72 := L.v72; have u72 := run_underlying L.t72
  have t70 := L.t70; have a70 := L.a70; have z70 := L.z70; have v70 := L.v70; have u70 := run_underlying L.t70
  have t37 := L.t37; have a37 := L.a37; have z37 := L.z37; have v37 := L.v37; have u37 := run_underlying L.t37
  have t127 := L.t127; have a127 := L.a127; have z127 := L.z127; have v127 := L.v127; have u127 := run_underlying L.t127
  have t3 := L.t3; have a3 := L.a3; have z3 := L.z3; have v3 := L.v3; have u3 := run_underlying L.t3
  have t9 := L.t9; have a9 := L.a9; have z9 := L.z9; have v9 := L.v9; have u9 := run_underlying L.t9
  have t5 := X.t5; have a5 := X.a5; have z5 := X.z5; have v5 := X.v5; have u5 := run_underlying X.t5
  go_enter L.f169, Body.n169_ntmps ρ
  go_wp2
  go_region_o
  all_goals (go_wp2; go_ret; exact ⟨rfl, rfl⟩)
end Go.Proofs
