/- An own object handed on by value: frozen from then on. -/
import Derived.Test.YtmlhdhndjgdoaaaGreatDoorCuSim
namespace Go.Ev

def addCells (S : Fz) (b : Nat) (vs : List Value) : Fz := ⟨fun b' i => if b' = b then vs[i]? else S.cell b' i, S.mp, S.g⟩
def addMap (S : Fz) (b : Nat) (es : Array MapEntry) : Fz := ⟨S.cell, fun b' => if b' = b then some (.map es) else S.mp b', S.g⟩

theorem addCells_le {S : Fz} {b : Nat} {vs : List Value} (h : ∀ j, S.cell b j = none) : S.le (addCells S b vs) :=
  ⟨fun b' i v hv => by
    unfold addCells; simp only
    split
    · rename_i e; subst e; rw [h] at hv; cases hv
    · exact hv, fun _ _ h => h, rfl⟩
theorem addMap_le {S : Fz} {b : Nat} {es : Array MapEntry} (h : S.mp b = none) : S.le (addMap S b es) :=
  ⟨fun _ _ _ h => h, fun b' x hx => by
    unfold addMap; simp only
    split
    · rename_i e; subst e; rw [h] at hx; cases hx
    · exact hx, rfl⟩
theorem addCells_lies (S : Fz) (b : Nat) (vs : List Value) : (addCells S b vs).lies b 0 vs := fun j v hv => by simp [addCells, hv]
theorem addCells_other {S : Fz} {b b' : Nat} {vs : List Value} (h : b' ≠ b) : (∀ j, (addCells S b vs).cell b' j = S.cell b' j) ∧ (addCells S b vs).mp b' = S.mp b' := ⟨fun j => by simp [addCells, h], rfl⟩
theorem addMap_other {S : Fz} {b b' : Nat} {es : Array MapEntry} (h : b' ≠ b) : (∀ j, (addMap S b es).cell b' j = S.cell b' j) ∧ (addMap S b es).mp b' = S.mp b' := ⟨fun j => rfl, by simp [addMap, h]⟩
theorem addCells_ok {S : Fz} {b : Nat} {vs : List Value} {w : World} (h : S.ok w) (hn : ∀ j, S.cell b j = none) (hv : ∀ j v, vs[j]? = some v → w.cell? ⟨b, j, none⟩ = some v) : (addCells S b vs).ok w :=
  ⟨fun b' i v hc => by
    unfold addCells at hc; simp only at hc
    split at hc
    · rename_i e; subst e; exact hv i v hc
    · exact h.cell b' i v hc, h.mp, fun b' i v hg => (addCells_le hn).cell _ _ _ (h.g _ _ _ hg), h.gm⟩
theorem addMap_ok {S : Fz} {b : Nat} {es : Array MapEntry} {w : World} {c : Nat} (h : S.ok w) (hn : S.mp b = none) (hv : w.heap[b]? = some (.map es c)) : (addMap S b es).ok w :=
  ⟨h.cell, fun b' x hc => by
    unfold addMap at hc; simp only at hc
    split at hc
    · rename_i e; subst e; cases hc; exact ⟨c, hv⟩
    · exact h.mp b' x hc, h.g, fun b' k hk => (addMap_le hn).mp _ _ (h.gm _ _ hk)⟩

/-- Frozen too: a block that nobody owns. -/
theorem HeapSim.more {S S' : Fz} {σ : Locs} {os : Objs} {w : World} {b : Nat} (h : HeapSim S σ os w) (hn : ¬ Own os σ b) (hs : S.le S') (hok : S'.ok w) (hk : ∀ b', b' ≠ b → (∀ j, S'.cell b' j = S.cell b' j) ∧ S'.mp b' = S.mp b') :
    HeapSim S' σ os w := by
  refine ⟨hok, fun j x hx => ?_, h.inj, h.fit⟩
  obtain ⟨M, h1, h2, h3⟩ := h.ob j x hx
  have hb := hk M.b fun e => hn ⟨j, x, M, hx, h1, e⟩
  exact ⟨M, h1, h2.mono hs (.refl _) rfl, h3.mono hb.1 hb.2⟩

theorem Fr.more {n : Nat} {os os' : Objs} {σ σ' : Locs} {S S1 S2 : Fz} {w w' : World} {b : Nat} (h : Fr n os σ S w os' σ' S1 w') (hb : Own os σ b) (hs : S1.le S2) (hk : ∀ b', b' ≠ b → (∀ j, S2.cell b' j = S1.cell b' j) ∧ S2.mp b' = S1.mp b') :
    Fr n os σ S w os' σ' S2 w' :=
  ⟨h.le.trans hs, h.loc, h.len, h.dead, h.size, h.so, h.tape, h.output, fun c hc hn => by
    have h1 := h.keep c hc hn
    have h2 := hk c fun e => hn (e ▸ hb)
    exact ⟨h1.1, fun j => (h2.1 j).trans (h1.2.1 j), h2.2.trans h1.2.2⟩, h.own⟩

def FrzOK (f : Objs → At → Option (V × Objs)) : Prop :=
  ∀ (os : Objs) (x : At) (v : V) (os' : Objs) (S : Fz) (σ : Locs) (w : World) (val : Value), f os x = some (v, os') → HeapSim S σ os w → relA S σ x val →
    ∃ S', HeapSim S' σ os' w ∧ Rep S' v val ∧ Fr os.length os σ S w os' σ S' w ∧ os'.length = os.length

theorem freezeL_ok {f : Objs → At → Option (V × Objs)} (hf : FrzOK f) : ∀ (l : List At) (os : Objs) (vs : List V) (os' : Objs) (S : Fz) (σ : Locs) (w : World) (vals : List Value), freezeL f os l = some (vs, os') → HeapSim S σ os w → Pw (relA S σ) l vals →
    ∃ S', HeapSim S' σ os' w ∧ Pw (Rep S') vs vals ∧ Fr os.length os σ S w os' σ S' w ∧ os'.length = os.length := by
  intro l
  induction l with
  | nil =>
    intro os vs os' S σ w vals h hs hr
    simp only [freezeL, Option.some.injEq, Prod.mk.injEq] at h
    obtain ⟨rfl, rfl⟩ := h
    rw [hr.nil_left]
    exact ⟨S, hs, Pw.nil, .refl (Nat.le_refl _), rfl⟩
  | cons x r ih =>
    intro os vs os' S σ w vals h hs hr
    obtain ⟨v0, vr, rfl, h0, hr⟩ := hr.cons_left
    simp only [freezeL] at h
    split at h
    · rename_i y os1 hy
      split at h
      · rename_i ys os2 hys
        cases h
        obtain ⟨S1, hs1, hr1, hf1, hl1⟩ := hf os x y os1 S σ w v0 hy hs h0
        obtain ⟨S2, hs2, hr2, hf2, hl2⟩ := ih os1 ys os' S1 σ w vr hys hs1 (relAs.mono hf1.le (.refl _) hr)
        exact ⟨S2, hs2, Pw.cons (hr1.mono hf2.le) hr2, hf1.trans (hl1 ▸ hf2), hl2.trans hl1⟩
      · cases h
    · cases h

theorem freezeT_ok {f : Objs → At → Option (V × Objs)} (hf : FrzOK f) (os : Objs) (x : T2) (v : V) (os' : Objs) (S : Fz) (σ : Locs) (w : World) (val : Value) (h : freezeT f os x = some (v, os')) (hs : HeapSim S σ os w) (hr : relT S σ x val) :
    ∃ S', HeapSim S' σ os' w ∧ Rep S' v val ∧ Fr os.length os σ S w os' σ S' w ∧ os'.length = os.length := by
  cases x with
  | a x => exact hf os x v os' S σ w val h hs hr
  | agg cs =>
    obtain ⟨vals, rfl, hp⟩ := hr
    simp only [freezeT] at h
    split at h
    · rename_i vs os1 hv
      cases h
      obtain ⟨S', h1, h2, h3, h4⟩ := freezeL_ok hf cs os vs os' S σ w vals hv hs hp
      exact ⟨S', h1, Rep.mk_agg h2, h3, h4⟩
    · cases h

/-- A map's entries, by value. -/
theorem freezeM_ok {f : Objs → At → Option (V × Objs)} (hf : FrzOK f) : ∀ (l : List (V × T2)) (os : Objs) (vs : List V) (os' : Objs) (S : Fz) (σ : Locs) (w : World) (ents : List MapEntry), freezeM f os l = some (vs, os') → HeapSim S σ os w →
    Pw (fun (a : V × T2) (e : MapEntry) => Rep S a.1 e.key ∧ relT S σ a.2 e.val) l ents →
    ∃ S', HeapSim S' σ os' w ∧ Pw (fun (x : V) (e : MapEntry) => ∃ a b, x = .tup [a, b] ∧ Rep S' a e.key ∧ Rep S' b e.val) vs ents ∧ Fr os.length os σ S w os' σ S' w ∧ os'.length = os.length := by
  intro l
  induction l with
  | nil =>
    intro os vs os' S σ w vals h hs hr
    simp only [freezeM, Option.some.injEq, Prod.mk.injEq] at h
    obtain ⟨rfl, rfl⟩ := h
    rw [hr.nil_left]
    exact ⟨S, hs, Pw.nil, .refl (Nat.le_refl _), rfl⟩
  | cons x r ih =>
    intro os vs os' S σ w vals h hs hr
    obtain ⟨k, x⟩ := x
    obtain ⟨v0, vr, rfl, h0, hr⟩ := hr.cons_left
    simp only [freezeM] at h
    split at h
    · rename_i y os1 hy
      split at h
      · rename_i ys os2 hys
        cases h
        obtain ⟨S1, hs1, hr1, hf1, hl1⟩ := freezeT_ok hf os x y os1 S σ w v0.val hy hs h0.2
        obtain ⟨S2, hs2, hr2, hf2, hl2⟩ := ih os1 ys os' S1 σ w vr hys hs1 (hr.mono fun a e he => ⟨he.1.mono hf1.le, he.2.mono hf1.le (.refl _)⟩)
        exact ⟨S2, hs2, Pw.cons ⟨k, y, rfl, (h0.1.mono hf1.le).mono hf2.le, hr1.mono hf2.le⟩ hr2, hf1.trans (hl1 ▸ hf2), hl2.trans hl1⟩
      · cases h
    · cases h

theorem ownsRow_cell {w : World} {base : Nat} {e : TypeId} {size n cap b : Nat} {xs : List Value} (h : w.ownsRow base e size (.slice (some ⟨b, 0, none⟩) n cap) n xs) {j : Nat} {v : Value} (hv : xs[j]? = some v) : w.cell? ⟨b, j, none⟩ = some v := by
  have := h.cells (g := b) rfl j v hv
  have ha : (⟨b, 0, none⟩ : Addr).add j = ⟨b, j, none⟩ := by unfold Addr.add; split <;> simp_all
  rwa [ha] at this
theorem ownsRow_cap {w : World} {base : Nat} {e : TypeId} {size n cap b : Nat} {xs : List Value} (h : w.ownsRow base e size (.slice (some ⟨b, 0, none⟩) n cap) n xs) : n ≤ cap := by
  rcases h.2 with ⟨hv, _⟩ | ⟨g, c, cur, hv, h1, h2, h3, _⟩
  · cases hv
  · cases hv; exact h3

theorem rep_row {S : Fz} {w : World} {e : TypeId} {sz : Nat} {L : Loc} {xs : List V} {vs : List Value} (hl : xs.length = L.len) (hz : ∀ x ∈ xs, x.cells.length = sz) (hr : w.ownsRow 0 e sz (.slice (some ⟨L.b, 0, none⟩) L.len L.cap) L.len vs)
    (hp : Pw (Rep S) (flat xs) vs) (hi : S.lies L.b 0 vs) : Rep S (.list xs) (.slice (some ⟨L.b, 0, none⟩) L.len L.cap) := by
  have := ownsRow_cap hr
  rw [← hl]
  exact .list L.b 0 L.cap sz vs hz (by omega) hp.1 hi hp.2

theorem freezeA_ok : ∀ d, FrzOK (freezeA d) := by
  intro d
  induction d with
  | zero =>
    intro os x v os' S σ w val h hs hr
    cases x with
    | v x => simp only [freezeA, Option.some.injEq, Prod.mk.injEq] at h; obtain ⟨rfl, rfl⟩ := h; exact ⟨S, hs, hr, .refl (Nat.le_refl _), rfl⟩
    | own i =>
      simp only [freezeA] at h
      obtain ⟨L, hL, rfl⟩ := hr
      split at h
      · rename_i e sz xs ho
        cases h
        obtain ⟨⟨h1, h2, h3, vs, h4, h5, h6⟩, _⟩ := hs.loc ho hL
        exact ⟨S, hs, rep_row h2 h3 h4 h5 h6, .refl (Nat.le_refl _), rfl⟩
      · rename_i e sz xs ho
        cases h
        obtain ⟨⟨h1, h2, h3, vs, h4, h5⟩, hfree⟩ := hs.loc ho hL
        have hc : ∀ j, S.cell L.b j = none := fun j => hfree.cell j (Nat.zero_le _)
        have hle := addCells_le (vs := vs) hc
        refine ⟨addCells S L.b vs, hs.kill ho hL hle (addCells_ok hs.frz hc fun j v hv => ownsRow_cell h4 hv) fun b hb => addCells_other hb, ?_, Fr.kill ho hL hle fun b hb => addCells_other hb, by simp⟩
        exact rep_row h2 h3 h4 (h5.mono fun _ _ => Rep.mono hle) (addCells_lies _ _ _)
      · cases h
    | _ => simp [freezeA] at h
  | succ d ih =>
    intro os x v os' S σ w val h hs hr
    cases x with
    | v x => simp only [freezeA, Option.some.injEq, Prod.mk.injEq] at h; obtain ⟨rfl, rfl⟩ := h; exact ⟨S, hs, hr, .refl (Nat.le_refl _), rfl⟩
    | own i =>
      simp only [freezeA] at h
      obtain ⟨L, hL, rfl⟩ := hr
      split at h
      · rename_i e sz xs ho
        cases h
        obtain ⟨⟨h1, h2, h3, vs, h4, h5, h6⟩, _⟩ := hs.loc ho hL
        exact ⟨S, hs, rep_row h2 h3 h4 h5 h6, .refl (Nat.le_refl _), rfl⟩
      · rename_i e sz xs ho
        cases h
        obtain ⟨⟨h1, h2, h3, vs, h4, h5⟩, hfree⟩ := hs.loc ho hL
        have hc : ∀ j, S.cell L.b j = none := fun j => hfree.cell j (Nat.zero_le _)
        have hle := addCells_le (vs := vs) hc
        refine ⟨addCells S L.b vs, hs.kill ho hL hle (addCells_ok hs.frz hc fun j v hv => ownsRow_cell h4 hv) fun b hb => addCells_other hb, ?_, Fr.kill ho hL hle fun b hb => addCells_other hb, by simp⟩
        exact rep_row h2 h3 h4 (h5.mono fun _ _ => Rep.mono hle) (addCells_lies _ _ _)
      · cases h
    | loc i o =>
      cases o with
      | succ o => simp [freezeA] at h
      | zero =>
        simp only [freezeA] at h
        obtain ⟨L, hL, rfl⟩ := hr
        split at h
        · rename_i ty cs ho
          split at h
          · rename_i vs os1 hf
            cases h
            obtain ⟨⟨c, h1, h2⟩, hfree⟩ := hs.loc ho hL
            have hk := hs.kill ho hL (.refl S) hs.frz fun b _ => ⟨fun _ => rfl, rfl⟩
            have hlt := (hs.loc ho hL).1.lt
            have hno : ¬ Own (os.set i none) σ L.b := by
              rintro ⟨j, x, M, hx, hM, he⟩
              obtain ⟨hne, hx⟩ := obj_set_none hx
              exact hne (hs.inj j i x _ M L hx ho hM hL he)
            obtain ⟨S2, hs2, hr2, hf2, hl2⟩ := freezeL_ok ih cs _ vs os' S σ w c.toList hf hk h2
            have hkeep := hf2.keep L.b hlt hno
            have hc : ∀ j, S2.cell L.b j = none := fun j => (hkeep.2.1 j).trans (hfree.cell j (Nat.zero_le _))
            have hle := addCells_le (vs := c.toList) hc
            have hno2 : ¬ Own os' σ L.b := fun ho2 => by
              rcases hf2.own _ ho2 with h | h
              · exact hno h
              · omega
            have hcell : ∀ j v, c.toList[j]? = some v → w.cell? ⟨L.b, j, none⟩ = some v := fun j v hv => by
              simp [World.cell?, h1]; simpa using hv
            refine ⟨addCells S2 L.b c.toList, hs2.more hno2 hle (addCells_ok hs2.frz hc hcell) fun b hb => addCells_other hb, ?_, ?_, by simpa using hl2⟩
            · exact .ptr L.b 0 c.toList hr2.1 (addCells_lies _ _ _) fun j a b ha hb => (hr2.2 j a b ha hb).mono hle
            · exact ((Fr.kill (S' := S) ho hL (.refl S) fun b _ => ⟨fun _ => rfl, rfl⟩).trans (by simpa using hf2)).more ⟨i, _, L, ho, hL, rfl⟩ hle fun b hb => addCells_other hb
          · cases h
        · cases h
    | mapr i =>
      simp only [freezeA] at h
      obtain ⟨L, hL, rfl⟩ := hr
      split at h
      · rename_i z es ho
        split at h
        · rename_i vs os1 hf
          cases h
          obtain ⟨⟨hz, ents, h1, h2, h3, h4⟩, hfree⟩ := hs.loc ho hL
          have hk := hs.kill ho hL (.refl S) hs.frz fun b _ => ⟨fun _ => rfl, rfl⟩
          have hlt := (hs.loc ho hL).1.lt
          have hno : ¬ Own (os.set i none) σ L.b := by
            rintro ⟨j, x, M, hx, hM, he⟩
            obtain ⟨hne, hx⟩ := obj_set_none hx
            exact hne (hs.inj j i x _ M L hx ho hM hL he)
          obtain ⟨S2, hs2, hr2, hf2, hl2⟩ := freezeM_ok ih es _ vs os' S σ w ents.toList hf hk ⟨by simpa using h2, fun j a e ha he => h4 j a.1 a.2 e ha (by simpa using he)⟩
          have hkeep := hf2.keep L.b hlt hno
          have hc : S2.mp L.b = none := hkeep.2.2.trans hfree.mp
          have hle := addMap_le (es := ents) hc
          have hno2 : ¬ Own os' σ L.b := fun ho2 => by
            rcases hf2.own _ ho2 with h | h
            · exact hno h
            · omega
          refine ⟨addMap S2 L.b ents, hs2.more hno2 hle (addMap_ok hs2.frz hc h1) fun b hb => addMap_other hb, ?_, ?_, by simpa using hl2⟩
          · have hsz : vs.length = ents.size := by simpa using hr2.1
            have he : ∀ j, ∃ a b, j < vs.length → vs[j]? = some (.tup [a, b]) ∧ ∀ e, ents[j]? = some e → Rep (addMap S2 L.b ents) a e.key ∧ Rep (addMap S2 L.b ents) b e.val := fun j => by
              by_cases hj : j < vs.length
              · obtain ⟨e, hee, a, b, hx, ha, hb⟩ := hr2.get (List.getElem?_eq_getElem hj)
                refine ⟨a, b, fun _ => ⟨by rw [List.getElem?_eq_getElem hj, hx], fun e' he' => ?_⟩⟩
                have : e' = e := by
                  have := hee
                  simp at this
                  rw [he'] at this
                  exact Option.some.inj this
                subst this
                exact ⟨ha.mono hle, hb.mono hle⟩
              · exact ⟨.nilp, .nilp, fun h => absurd h hj⟩
            have hlt2 : ∀ {j e}, ents[j]? = some e → j < vs.length := fun {j e} hj => by
              rw [hsz]
              rcases Nat.lt_or_ge j ents.size with h | h
              · exact h
              · rw [Array.getElem?_eq_none h] at hj; cases hj
            refine .map L.b ents (fun j => (he j).choose) (fun j => (he j).choose_spec.choose) (by simp [addMap]) hsz ?_ ?_ ?_
            · exact fun j hj => ((he j).choose_spec.choose_spec hj).1
            · exact fun j e hj => (((he j).choose_spec.choose_spec (hlt2 hj)).2 e hj).1
            · exact fun j e hj => (((he j).choose_spec.choose_spec (hlt2 hj)).2 e hj).2
          · exact ((Fr.kill (S' := S) ho hL (.refl S) fun b _ => ⟨fun _ => rfl, rfl⟩).trans (by simpa using hf2)).more ⟨i, _, L, ho, hL, rfl⟩ hle fun b hb => addMap_other hb
        · cases h
      · cases h
    | _ => simp [freezeA] at h

end Go.Ev
