/- Entries that tell less than the code does: by a function of one's own; loops over lists. -/
import Derived.Test.YtmlhdhndjgdoaaaGreatDoorCuTl
import Derived.Test.YtmlhdhndjgdoaaaGreatDoorCuLp
namespace Go.Ev
open Go.RowKit
section
variable {P : Program} {G : Globs} {tab : ToldK} {code : FuncId → Option SFn} {ann : FuncId → Nat → Ann} {F d : Nat}
abbrev EntryT := List SV → Objs → Option ((β : Type) → (SV → Objs → Option β) → Option β)

/-- What is to be shown of an entry that tells less. -/
def EntryLe (tab : ToldK) (code : FuncId → Option SFn) (ann : FuncId → Nat → Ann) (F d : Nat) (f : FuncId) (e : EntryT) : Prop :=
  ∀ args os t, e args os = some t → ∃ (ρ : Type) (l : Option ρ) (res : ρ → V) (K0 : SV → Objs → Option ρ), (∀ a ∈ args, a.ids = []) ∧ (∀ (β : Type) (K : SV → Objs → Option β), t β K = l.bind fun p => K (.a (.v (res p))) os) ∧
    (∀ p, l = some p → stN tab code ann F d f args [] K0 = some p) ∧ ∀ sv os p, K0 sv os = some p → sv = .a (.v (res p)) ∧ os = []

theorem entryLe_binds {f : FuncId} {e : EntryT} (hb : Binds tab) (he : EntryLe tab code ann F d f e) : Binds (addTo tab f e) := by
  intro g args os t h β K r hr
  simp only [addTo] at h
  split at h
  · split at h
    · rename_i t' ht
      cases h
      obtain ⟨ρ, l, res, K0, h1, h2, h3, h4⟩ := he args os t ht
      rw [h2, Option.bind_eq_some_iff] at hr
      obtain ⟨p, hp, hk⟩ := hr
      exact ⟨⟨_, _⟩, by rw [h2, hp]; rfl, hk⟩
    · exact hb g args os t h K r hr
  · exact hb g args os t h K r hr

theorem entryLe_ok {f : FuncId} {e : EntryT} (hm : P.follows .mixedOrders = true) (hT : CallOK P G (toE tab)) (hb : Binds tab) (hc : CodeOK P code) (he : EntryLe tab code ann F d f e) : CallOK P G (toE (addTo tab f e)) := by
  intro g args os r h
  simp only [toE, addTo] at h
  have old : ∀ {t}, tab g (viewL os args) os = some t → t R (fun sv os => some ⟨sv, os⟩) = some r → HasBody P g ∧ ∀ (S : Fz) (σ : Locs) (w : World) (vals : List Value), S.g = G → HeapSim S σ os w → Pw (relS S σ) args vals →
      Calls P g vals.toArray w fun e w' => ∃ v, e = .returned v ∧ Post os σ S w r v w' := fun {t} ht h => hT g args os r (by simp only [toE, ht]; exact h)
  split at h
  · rename_i t ht
    split at ht
    · rename_i hg
      split at ht
      · rename_i t' ht'
        cases ht
        subst hg
        obtain ⟨ρ, l, res, K0, h1, h2, h3, h4⟩ := he _ os t ht'
        rw [h2, Option.bind_eq_some_iff] at h
        obtain ⟨p, hp, hk⟩ := h
        cases hk
        have h3 := h3 p hp
        obtain ⟨y, h5, h6⟩ := stN_ok hb d _ _ _ _ _ h3
        obtain ⟨h7, h8⟩ := h4 _ _ _ h6
        obtain ⟨ysv, yobjs⟩ := y
        simp only at h7 h8
        subst h7 h8
        obtain ⟨hbody, hcall⟩ := callM_ok (F := F) hT hc (fun mm call n0 h => region_ok hm h) d _ _ _ _ h5
        refine ⟨hbody, fun S σ w vals hG hs hp => ?_⟩
        obtain ⟨S1, k1, k2, k3⟩ := view_ok args S vals hs hp
        have hs0 : HeapSim S1 (fun _ => none) [] w := ⟨k1.frz, fun i o h => (by simp [obj] at h), fun i j o o' L L' h => (by simp [obj] at h), fun _ _ => rfl⟩
        refine (call_frame k1 (hcall S1 (fun _ => none) w vals (k3.le.g.trans hG) hs0 (ids_none h1 k2))).mono fun e w' he => ?_
        obtain ⟨v, rfl, S2, σ2, q1, q2, q3⟩ := he
        exact ⟨v, rfl, S2, σ2, q1, q2, k3.trans q3⟩
      · exact old ht h
    · exact old ht h
  · cases h
end

/-- What is to be shown of an entry for closed calls: the evaluator itself has answered. -/
def EntryEv (tab : ToldK) (code : FuncId → Option SFn) (F d : Nat) (f : FuncId) (e : EntryT) : Prop :=
  ∀ args os t, e args os = some t → ∃ r : V, (∀ a ∈ args, a.ids = []) ∧ (∀ (β : Type) (K : SV → Objs → Option β), t β K = K (.a (.v r)) os) ∧ callM (toE tab) code F d f args [] = some ⟨.a (.v r), []⟩

section
variable {P : Program} {G : Globs} {tab : ToldK} {code : FuncId → Option SFn} {F d : Nat}
theorem entryEv_binds {f : FuncId} {e : EntryT} (hb : Binds tab) (he : EntryEv tab code F d f e) : Binds (addTo tab f e) := by
  intro g args os t h β K r hr
  simp only [addTo] at h
  split at h
  · split at h
    · rename_i t' ht
      cases h
      obtain ⟨v, h1, h2, h3⟩ := he args os t ht
      rw [h2] at hr
      exact ⟨⟨_, _⟩, by rw [h2], hr⟩
    · exact hb g args os t h K r hr
  · exact hb g args os t h K r hr

theorem entryEv_ok {f : FuncId} {e : EntryT} (hm : P.follows .mixedOrders = true) (hT : CallOK P G (toE tab)) (hc : CodeOK P code) (he : EntryEv tab code F d f e) : CallOK P G (toE (addTo tab f e)) := by
  intro g args os r h
  simp only [toE, addTo] at h
  have old : ∀ {t}, tab g (viewL os args) os = some t → t R (fun sv os => some ⟨sv, os⟩) = some r → HasBody P g ∧ ∀ (S : Fz) (σ : Locs) (w : World) (vals : List Value), S.g = G → HeapSim S σ os w → Pw (relS S σ) args vals →
      Calls P g vals.toArray w fun e w' => ∃ v, e = .returned v ∧ Post os σ S w r v w' := fun {t} ht h => hT g args os r (by simp only [toE, ht]; exact h)
  split at h
  · rename_i t ht
    split at ht
    · rename_i hg
      split at ht
      · rename_i t' ht'
        cases ht
        subst hg
        obtain ⟨v0, h1, h2, h3⟩ := he _ os t ht'
        rw [h2] at h
        cases h
        obtain ⟨hbody, hcall⟩ := callM_ok (F := F) hT hc (fun mm call n0 h => region_ok hm h) d _ _ _ _ h3
        refine ⟨hbody, fun S σ w vals hG hs hp => ?_⟩
        obtain ⟨S1, k1, k2, k3⟩ := view_ok args S vals hs hp
        have hs0 : HeapSim S1 (fun _ => none) [] w := ⟨k1.frz, fun i o h => (by simp [obj] at h), fun i j o o' L L' h => (by simp [obj] at h), fun _ _ => rfl⟩
        refine (call_frame k1 (hcall S1 (fun _ => none) w vals (k3.le.g.trans hG) hs0 (ids_none h1 k2))).mono fun e w' he => ?_
        obtain ⟨v, rfl, S2, σ2, q1, q2, q3⟩ := he
        exact ⟨v, rfl, S2, σ2, q1, q2, k3.trans q3⟩
      · exact old ht h
    · exact old ht h
  · cases h
end

/-- What a closed call is held against. -/
def kV (sv : SV) (os : Objs) : Option V := match sv, os with
  | .a (.v v), [] => some v
  | _, _ => none
theorem kV_some {sv : SV} {os : Objs} {p : V} (h : kV sv os = some p) : sv = .a (.v p) ∧ os = [] := by
  unfold kV at h
  split at h
  · cases h; exact ⟨rfl, rfl⟩
  · cases h

/-! ### Loops over lists -/
/-- Goes on over a list until it is left. -/
def foldE {σ α ρ : Type} (f : σ → α → σ ⊕ ρ) : List α → σ → σ ⊕ ρ
  | [], s => .inl s
  | x :: r, s => match f s x with
    | .inl s' => foldE f r s'
    | .inr q => .inr q

/-- A loop over a list, one element a round: 'stt i s' its state at element i. -/
theorem loop_list {α σ ρ : Type} {body : Vs → Option (Vs ⊕ Vs)} (f : σ → α → σ ⊕ ρ) (stt : Nat → σ → Vs) (out : ρ → Vs) (fin : σ → Vs) (I : σ → Prop) (xs : List α)
    (step : ∀ i s x, xs[i]? = some x → I s → body (stt i s) = some (match f s x with | .inl s' => .inl (stt (i + 1) s') | .inr q => .inr (out q)) ∧ ∀ s', f s x = .inl s' → I s')
    (last : ∀ s, I s → body (stt xs.length s) = some (.inr (fin s))) :
    ∀ (n i : Nat) (s : σ), xs.length - i < n → i ≤ xs.length → I s → loopK body n (stt i s) = some (match foldE f (xs.drop i) s with | .inl s' => fin s' | .inr q => out q) := by
  intro n
  induction n with
  | zero => intro i s h; omega
  | succ n ih =>
    intro i s hn hi hI
    unfold loopK
    by_cases hlt : i < xs.length
    · obtain ⟨h1, h2⟩ := step i s xs[i] (List.getElem?_eq_getElem hlt) hI
      rw [List.drop_eq_getElem_cons hlt, foldE, h1]
      cases hf : f s xs[i] with
      | inl s' => simp only [Option.bind_some]; exact ih (i + 1) s' (by omega) (by omega) (h2 s' hf)
      | inr q => rfl
    · have : i = xs.length := by omega
      subst this
      rw [last s hI, List.drop_length]; rfl
/-- The whole list. -/
theorem loop_all {α σ ρ : Type} {body : Vs → Option (Vs ⊕ Vs)} (f : σ → α → σ ⊕ ρ) (stt : Nat → σ → Vs) (out : ρ → Vs) (fin : σ → Vs) (I : σ → Prop) (xs : List α) (n : Nat) (s : σ) (hn : xs.length < n) (hI : I s)
    (step : ∀ i s x, xs[i]? = some x → I s → body (stt i s) = some (match f s x with | .inl s' => .inl (stt (i + 1) s') | .inr q => .inr (out q)) ∧ ∀ s', f s x = .inl s' → I s')
    (last : ∀ s, I s → body (stt xs.length s) = some (.inr (fin s))) :
    loopK body n (stt 0 s) = some (match foldE f xs s with | .inl s' => fin s' | .inr q => out q) := by
  have := loop_list f stt out fin I xs step last n 0 s (by omega) (Nat.zero_le _) hI
  rwa [List.drop_zero] at this
end Go.Ev
