/- Entries for the library's functions, told by contracts; a whole call, for a row. -/
import Derived.Test.YtmlhdhndjgdoaaaGreatDoorCuArg
namespace Go.Ev
open Go.RowKit

section
variable {P : Program} {G : Globs} {tab : ToldK} {code : FuncId → Option SFn} {ann : FuncId → Nat → Ann} {F d : Nat}

theorem viewL_v : ∀ {vs : List V} {os : Objs}, viewL os (vs.map fun v => SV.a (.v v)) = vs.map fun v => SV.a (.v v) := by
  intro vs os
  induction vs with
  | nil => rfl
  | cons v vs ih => simp only [List.map_cons, viewL, viewS, ih]

theorem freezeArgs_v : ∀ {vs : List V} {os : Objs}, freezeArgs os (vs.map fun v => SV.a (.v v)) = some (vs, os) := by
  intro vs
  induction vs with
  | nil => intro os; rfl
  | cons v vs ih => intro os; simp only [List.map_cons, freezeArgs, freezeS, freezeA_v, ih]

/-- What is to be shown of a library function's entry: it tells no more than 'sp'. -/
def LibEntry (sp : List V → Option V) (e : List SV → Objs → Option ((β : Type) → (SV → Objs → Option β) → Option β)) : Prop :=
  ∀ args os t, e args os = some t → ∃ (ρ : Type) (vs : List V) (l : Option ρ) (res : ρ → V), args = vs.map (fun v => SV.a (.v v)) ∧ (∀ (β : Type) (K : SV → Objs → Option β), t β K = l.bind fun p => K (.a (.v (res p))) os) ∧ ∀ p, l = some p → sp vs = some (res p)

theorem lib_binds {f : FuncId} {sp : List V → Option V} {e : List SV → Objs → Option ((β : Type) → (SV → Objs → Option β) → Option β)} (hb : Binds tab) (he : LibEntry sp e) : Binds (addTo tab f e) := by
  intro g args os t h β K r hr
  simp only [addTo] at h
  split at h
  · split at h
    · rename_i t' ht
      cases h
      obtain ⟨ρ, vs, l, res, h1, h2, h3⟩ := he args os t ht
      rw [h2, Option.bind_eq_some_iff] at hr
      obtain ⟨p, hp, hk⟩ := hr
      exact ⟨⟨_, _⟩, by rw [h2, hp]; rfl, hk⟩
    · exact hb g args os t h K r hr
  · exact hb g args os t h K r hr

theorem lib_ok {f : FuncId} {sp : List V → Option V} {e : List SV → Objs → Option ((β : Type) → (SV → Objs → Option β) → Option β)} (hT : CallOK P G (toE tab)) (hf : CallOK P G fun g args os => if g = f then pureCall sp args os else none) (he : LibEntry sp e) : CallOK P G (toE (addTo tab f e)) := by
  intro g args os r h
  simp only [toE, addTo] at h
  have old : ∀ {t}, tab g (viewL os args) os = some t → t R (fun sv os => some ⟨sv, os⟩) = some r → HasBody P g ∧ ∀ (S : Fz) (σ : Locs) (w : World) (vals : List Value), S.g = G → HeapSim S σ os w → Pw (relS S σ) args vals →
      Calls P g vals.toArray w fun e w' => ∃ v, e = .returned v ∧ Post os σ S w r v w' := fun {t} ht h => hT g args os r (by simp only [toE, ht]; exact h)
  split at h
  · rename_i t ht
    split at ht
    · rename_i hg
      split at ht
      · rename_i t' ht'
        cases ht
        subst hg
        obtain ⟨ρ, vs, l, res, h1, h2, h3⟩ := he _ os t ht'
        rw [h2, Option.bind_eq_some_iff] at h
        obtain ⟨p, hp, hk⟩ := h
        cases hk
        have hsp := h3 p hp
        obtain ⟨hbody, hcall⟩ := hf g (viewL os args) os ⟨.a (.v (res p)), os⟩ (by simp only [if_true]; rw [h1]; simp only [pureCall, freezeArgs_v, hsp])
        refine ⟨hbody, fun S σ w vals hG hs hp => ?_⟩
        obtain ⟨S1, k1, k2, k3⟩ := view_ok args S vals hs hp
        refine (hcall S1 σ w vals (k3.le.g.trans hG) k1 k2).mono fun e w' he => ?_
        obtain ⟨v, rfl, S2, σ2, q1, q2, q3⟩ := he
        exact ⟨v, rfl, S2, σ2, q1, q2, k3.trans q3⟩
      · exact old ht h
    · exact old ht h
  · cases h

/-- Nothing is told. -/
def noTold : ToldK := fun _ _ _ => none
theorem noTold_ok : CallOK P G (toE noTold) := by
  intro f args os r h
  simp [toE, noTold] at h
theorem noTold_binds : Binds noTold := by
  intro f args os t h
  simp [noTold] at h

/-- A whole call. -/
theorem calls_of_st (hm : P.follows .mixedOrders = true) (hT : CallOK P G (toE tab)) (hB : Binds tab) (hc : CodeOK P code) {f : FuncId} {args : List V} {ρ : Type} {K0 : SV → Objs → Option ρ} {p : ρ} {r : V} (he : stN tab code ann F d f (args.map fun x => .a (.v x)) [] K0 = some p) (hK : ∀ sv os, K0 sv os = some p → sv = .a (.v r) ∧ os = [])
    {W : World} {vals : List Value} (hG : G.ok W) (hp : Pw (Rep (allFz W G)) args vals) :
    Calls P f vals.toArray W fun e W' => ∃ v S', e = .returned v ∧ Rep S' r v ∧ Below W.heap.size W W' := by
  obtain ⟨y, h5, h6⟩ := stN_ok hB d _ _ _ _ _ he
  obtain ⟨h7, h8⟩ := hK _ _ h6
  obtain ⟨ysv, yobjs⟩ := y
  simp only at h7 h8
  subst h7 h8
  obtain ⟨_, h⟩ := callM_ok (F := F) hT hc (fun mm call n0 h => region_ok hm h) d _ _ _ _ h5
  have hs : HeapSim (allFz W G) (fun _ => none) [] W := ⟨allFz_ok hG, fun i o h => (by simp [obj] at h), fun i j o o' L L' h => (by simp [obj] at h), fun _ _ => rfl⟩
  have hpw : Pw (relS (allFz W G) fun _ => none) (args.map fun x => SV.a (.v x)) vals := Pw.map_left (f := fun x => SV.a (.v x)) (R := relS (allFz W G) fun _ => none) hp
  refine (h (allFz W G) (fun _ => none) W vals rfl hs hpw).mono fun e W' he' => ?_
  obtain ⟨v, rfl, S', σ', h1, h2, h3⟩ := he'
  refine ⟨v, S', rfl, h2, h3.so, h3.tape, h3.output, h3.size, fun b hb => (h3.keep b hb ?_).1⟩
  rintro ⟨i, o, L, ho, _⟩
  simp [obj] at ho
end
end Go.Ev
