/- A function of typed cells, held against the staged evaluator, tells a function's calls. -/
import Derived.Test.YtmlhdhndjgdoaaaGreatDoorCuStA
import Derived.Test.YtmlhdhndjgdoaaaGreatDoorCuTold
namespace Go.Ev
open Go.RowKit

section
variable {P : Program} {G : Globs}

theorem HeapSim.frz_more {S S' : Fz} {σ : Locs} {os : Objs} {w w' : World} (h : HeapSim S σ os w) (hk : ∀ b, b < w.heap.size → w'.heap[b]? = w.heap[b]?) (hs : S.le S') (hok : S'.ok w') (hb : ∀ b, b < w.heap.size → (∀ j, S'.cell b j = S.cell b j) ∧ S'.mp b = S.mp b) : HeapSim S' σ os w' := by
  have hg := h.grown hk
  refine ⟨hok, fun j x hx => ?_, h.inj, h.fit⟩
  obtain ⟨M, h1, h2, h3⟩ := h.ob j x hx
  obtain ⟨M', g1, g2, g3⟩ := hg.ob j x hx
  rw [h1] at g1
  cases g1
  have hlt := hb M.b h2.lt
  exact ⟨M, h1, g2.mono hs (.refl _) rfl, h3.mono hlt.1 hlt.2⟩

/-- What a call with frozen arguments does, whatever else is at hand. -/
theorem call_frame {f : FuncId} {vals : List Value} {S : Fz} {σ : Locs} {os : Objs} {w : World} {r : V} (hs : HeapSim S σ os w)
    (h : Calls P f vals.toArray w fun e w' => ∃ v, e = .returned v ∧ Post [] (fun _ => none) S w ⟨.a (.v r), []⟩ v w') :
    Calls P f vals.toArray w fun e w' => ∃ v, e = .returned v ∧ Post os σ S w ⟨.a (.v r), os⟩ v w' := by
  refine h.mono fun e w' he => ?_
  obtain ⟨v, rfl, S', σ', q1, q2, q3⟩ := he
  have hno : ∀ b, ¬ Own ([] : Objs) (fun _ => none) b := by
    rintro b ⟨i, o, L, ho, _⟩
    simp [obj] at ho
  refine ⟨v, rfl, S', σ, hs.frz_more (fun b hb => (q3.keep b hb (hno b)).1) q3.le q1.frz (fun b hb => (q3.keep b hb (hno b)).2), q2, ?_⟩
  exact ⟨q3.le, fun _ _ => rfl, Nat.le_refl _, fun _ _ h => h, q3.size, q3.so, q3.tape, q3.output, fun b hb _ => q3.keep b hb (hno b), fun _ h => .inl h⟩

theorem ids_none {S : Fz} {σ σ' : Locs} {l : List SV} {vals : List Value} (hl : ∀ a ∈ l, a.ids = []) (hp : Pw (relS S σ) l vals) : Pw (relS S σ') l vals :=
  ⟨hp.1, fun j a b ha hb => relS_ids (fun i hi => by rw [hl a (List.mem_of_getElem? ha)] at hi; cases hi) (hp.2 j a b ha hb)⟩

theorem viewAs_freeze {os : Objs} : ∀ {cs : List At} {vs : List V}, viewAs os cs = some vs → freezeL (freezeA depth) os cs = some (vs, os) := by
  intro cs
  induction cs with
  | nil => intro vs h; cases h; rfl
  | cons c cs ih =>
    intro vs h
    unfold viewAs at h
    split at h
    · rename_i v ws h1 h2
      cases h
      have hc : freezeA depth os c = some (v, os) := by
        unfold viewA at h1
        split at h1
        · cases h1; simp only [freezeA, depth]
        · rename_i i
          split at h1
          · rename_i e sz xs ho
            cases h1
            simp only [freezeA, depth, ho]
          · cases h1
        · cases h1
      simp only [freezeL, hc, ih h2]
    · cases h

/-- Rows that only grow, seen as they stand: frozen from now on. -/
theorem view_ok {σ : Locs} {os : Objs} {w : World} : ∀ (l : List SV) (S : Fz) (vals : List Value), HeapSim S σ os w → Pw (relS S σ) l vals → ∃ S', HeapSim S' σ os w ∧ Pw (relS S' σ) (viewL os l) vals ∧ Fr os.length os σ S w os σ S' w := by
  intro l
  induction l with
  | nil => intro S vals hs hp; exact ⟨S, hs, hp, .refl (Nat.le_refl _)⟩
  | cons x l ih =>
    intro S vals hs hp
    obtain ⟨v0, vr, rfl, h0, hr⟩ := hp.cons_left
    have key : ∃ S1, HeapSim S1 σ os w ∧ relS S1 σ (viewS os x) v0 ∧ Fr os.length os σ S w os σ S1 w := by
      have same : viewS os x = x → ∃ S1, HeapSim S1 σ os w ∧ relS S1 σ (viewS os x) v0 ∧ Fr os.length os σ S w os σ S1 w := fun e => ⟨S, hs, by rw [e]; exact h0, .refl (Nat.le_refl _)⟩
      cases x with
      | a y =>
        cases y with
        | own i =>
          cases ho : obj os i with
          | none => exact same (by simp only [viewS, ho])
          | some o =>
            cases o with
            | ext e sz xs =>
              have hf : freezeS os (.a (.own i)) = some (.list xs, os) := by simp only [freezeS, depth, freezeA, ho]
              obtain ⟨S1, k1, k2, k3, _⟩ := freezeS_ok hf hs h0
              exact ⟨S1, k1, by simp only [viewS, ho]; exact k2, k3⟩
            | _ => exact same (by simp only [viewS, ho])
        | _ => exact same rfl
      | agg cs =>
        cases hv : viewAs os cs with
        | none => exact same (by simp only [viewS, hv])
        | some vs =>
          have hf : freezeS os (.agg cs) = some (.agg vs, os) := by simp only [freezeS, viewAs_freeze hv]
          obtain ⟨S1, k1, k2, k3, _⟩ := freezeS_ok hf hs h0
          exact ⟨S1, k1, by simp only [viewS, hv]; exact k2, k3⟩
      | _ => exact same rfl
    obtain ⟨S1, k1, k2, k3⟩ := key
    obtain ⟨S2, q1, q2, q3⟩ := ih S1 vr k1 (hr.mono fun a b => relS.mono k3.le (.refl _))
    exact ⟨S2, q1, Pw.cons (relS.mono q3.le (.refl _) k2) q2, k3.trans q3⟩

variable {tab : ToldK} {code : FuncId → Option SFn} {ann : FuncId → Nat → Ann} {F d : Nat}

theorem ids_all : ∀ {l : List SV}, l.flatMap SV.ids = [] → ∀ a ∈ l, a.ids = [] := by
  intro l h a ha
  rw [List.flatMap_eq_nil_iff] at h
  exact h a ha

/-- Another entry ahead of a table. -/
def addTo (tab : ToldK) (f : FuncId) (e : List SV → Objs → Option ((β : Type) → (SV → Objs → Option β) → Option β)) : ToldK := fun g args os => if g = f then (match e args os with | some t => some t | none => tab g args os) else tab g args os

/-- What is to be shown of an entry. -/
def EntryOK (tab : ToldK) (code : FuncId → Option SFn) (ann : FuncId → Nat → Ann) (F d : Nat) (f : FuncId) (e : List SV → Objs → Option ((β : Type) → (SV → Objs → Option β) → Option β)) : Prop :=
  ∀ args os t, e args os = some t → ∃ (ρ : Type) (l : Option ρ) (res : ρ → V) (K0 : SV → Objs → Option ρ), (∀ a ∈ args, a.ids = []) ∧ (∀ (β : Type) (K : SV → Objs → Option β), t β K = l.bind fun p => K (.a (.v (res p))) os) ∧
    stN tab code ann F d f args [] K0 = l ∧ ∀ sv os p, K0 sv os = some p → sv = .a (.v (res p)) ∧ os = []

theorem entry_binds {f : FuncId} {e : List SV → Objs → Option ((β : Type) → (SV → Objs → Option β) → Option β)} (hb : Binds tab) (he : EntryOK tab code ann F d f e) : Binds (addTo tab f e) := by
  intro g args os t h β K r hr
  simp only [addTo] at h
  split at h
  · split at h
    · rename_i t' ht
      cases h
      obtain ⟨ρ, l, res, K0, h1, h2, h3, h4⟩ := he args os t ht
      rw [h2, Option.bind_eq_some_iff] at hr
      obtain ⟨p, hp, hk⟩ := hr
      exact ⟨⟨_, _⟩, by rw [h2, hp]; rfl, hk⟩
    · exact hb g args os t h K r hr
  · exact hb g args os t h K r hr

theorem entry_ok {f : FuncId} {e : List SV → Objs → Option ((β : Type) → (SV → Objs → Option β) → Option β)} (hm : P.follows .mixedOrders = true) (hT : CallOK P G (toE tab)) (hb : Binds tab) (hc : CodeOK P code) (he : EntryOK tab code ann F d f e) : CallOK P G (toE (addTo tab f e)) := by
  intro g args os r h
  simp only [toE, addTo] at h
  have old : ∀ {t}, tab g (viewL os args) os = some t → t R (fun sv os => some ⟨sv, os⟩) = some r → HasBody P g ∧ ∀ (S : Fz) (σ : Locs) (w : World) (vals : List Value), S.g = G → HeapSim S σ os w → Pw (relS S σ) args vals →
      Calls P g vals.toArray w fun e w' => ∃ v, e = .returned v ∧ Post os σ S w r v w' := fun {t} ht h => hT g args os r (by simp only [toE, ht]; exact h)
  split at h
  · rename_i t ht
    split at ht
    · rename_i hg
      split at ht
      · rename_i t' ht'
        cases ht
        subst hg
        obtain ⟨ρ, l, res, K0, h1, h2, h3, h4⟩ := he _ os t ht'
        rw [h2, Option.bind_eq_some_iff] at h
        obtain ⟨p, hp, hk⟩ := h
        cases hk
        rw [hp] at h3
        obtain ⟨y, h5, h6⟩ := stN_ok hb d _ _ _ _ _ h3
        obtain ⟨h7, h8⟩ := h4 _ _ _ h6
        obtain ⟨ysv, yobjs⟩ := y
        simp only at h7 h8
        subst h7 h8
        obtain ⟨hbody, hcall⟩ := callM_ok (F := F) hT hc (fun mm call n0 h => region_ok hm h) d _ _ _ _ h5
        refine ⟨hbody, fun S σ w vals hG hs hp => ?_⟩
        obtain ⟨S1, k1, k2, k3⟩ := view_ok args S vals hs hp
        have hs0 : HeapSim S1 (fun _ => none) [] w := ⟨k1.frz, fun i o h => (by simp [obj] at h), fun i j o o' L L' h => (by simp [obj] at h), fun _ _ => rfl⟩
        refine (call_frame k1 (hcall S1 (fun _ => none) w vals (k3.le.g.trans hG) hs0 (ids_none h1 k2))).mono fun e w' he => ?_
        obtain ⟨v, rfl, S2, σ2, q1, q2, q3⟩ := he
        exact ⟨v, rfl, S2, σ2, q1, q2, k3.trans q3⟩
      · exact old ht h
    · exact old ht h
  · cases h
end
end Go.Ev
