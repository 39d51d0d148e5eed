/- Callees that are told by a function of values; the whole call, for a row. -/
import Derived.Test.YtmlhdhndjgdoaaaGreatDoorCuDraw
import Derived.ChangeSame
namespace Go.Ev
open Go.RowKit

section
variable {P : Program} {G : Globs}

theorem freezeArgs_ok {σ : Locs} {w : World} : ∀ (l : List SV) (os : Objs) (vs : List V) (os' : Objs) (S : Fz) (vals : List Value), freezeArgs os l = some (vs, os') → HeapSim S σ os w → Pw (relS S σ) l vals →
    ∃ S', HeapSim S' σ os' w ∧ Pw (Rep S') vs vals ∧ Fr os.length os σ S w os' σ S' w ∧ os'.length = os.length := by
  intro l
  induction l with
  | nil =>
    intro os vs os' S vals h hs hr
    simp only [freezeArgs, Option.some.injEq, Prod.mk.injEq] at h
    obtain ⟨rfl, rfl⟩ := h
    rw [hr.nil_left]
    exact ⟨S, hs, Pw.nil, .refl (Nat.le_refl _), rfl⟩
  | cons x r ih =>
    intro os vs os' S vals h hs hr
    obtain ⟨v0, vr, rfl, h0, hr⟩ := hr.cons_left
    simp only [freezeArgs] at h
    split at h
    · rename_i y os1 hy
      split at h
      · rename_i ys os2 hys
        cases h
        obtain ⟨S1, hs1, hr1, hf1, hl1⟩ := freezeS_ok hy hs h0
        obtain ⟨S2, hs2, hr2, hf2, hl2⟩ := ih os1 ys os' S1 vr hys hs1 (hr.mono fun a b => relS.mono hf1.le (.refl _))
        exact ⟨S2, hs2, Pw.cons (hr1.mono hf2.le) hr2, hf1.trans (hl1 ▸ hf2), hl2.trans hl1⟩
      · cases h
    · cases h

/-- What a told function's contract gives: its answer stands, with what it made (some cells in a new block) left alone. -/
def Answers (S : Fz) (w : World) (r : V) (e : Ending) (w' : World) : Prop :=
  ∃ v, e = .returned v ∧ Below w.heap.size w w' ∧ ∃ (b : Nat) (cells : List Value), w.heap.size ≤ b ∧ (∀ j u, cells[j]? = some u → w'.cell? ⟨b, j, none⟩ = some u) ∧ ∀ S', S.le S' → S'.lies b 0 cells → Rep S' r v

theorem told_pure {f : FuncId} {sp : List V → Option V} (hb : HasBody P f) (h : ∀ (vs : List V) (r : V), sp vs = some r → ∀ (S : Fz) (w : World) (vals : List Value), S.g = G → S.ok w → Pw (Rep S) vs vals → Calls P f vals.toArray w (Answers S w r)) :
    CallOK P G fun g args os => if g = f then pureCall sp args os else none := by
  intro g args os r hr
  simp only at hr
  split at hr
  · rename_i hg
    subst hg
    refine ⟨hb, fun S σ w vals hG hs hp => ?_⟩
    unfold pureCall at hr
    split at hr
    · rename_i vs os1 hf
      split at hr
      · rename_i x hx
        cases hr
        obtain ⟨S1, k1, k2, k3, k4⟩ := freezeArgs_ok args os vs os1 S vals hf hs hp
        refine (h vs x hx S1 w vals (k3.le.g.trans hG) k1.frz k2).mono fun e w' he => ?_
        obtain ⟨v, rfl, hbel, b, cells, hb1, hc, hrep⟩ := he
        have hfn := fz_new k1.frz hb1
        have hg1 := k1.grown (w' := w') hbel.block
        have hle := addCells_le (vs := cells) hfn.1
        have hno : ¬ Own os1 σ b := by
          rintro ⟨i, o, L, ho, hL, e⟩
          have := (k1.loc ho hL).1.lt
          omega
        refine ⟨v, rfl, addCells S1 b cells, σ, hg1.more hno hle (addCells_ok hg1.frz hfn.1 hc) fun b' hb' => addCells_other hb', hrep _ hle (addCells_lies _ _ _), ?_⟩
        have hf2 := Fr.grown (os := os1) (σ := σ) (S := S1) (w := w) (w' := w') hbel.block hbel.size hbel.os hbel.tape hbel.output
        refine k3.trans (k4 ▸ ⟨hle, hf2.loc, hf2.len, hf2.dead, hf2.size, hf2.so, hf2.tape, hf2.output, fun c hc hn => ?_, hf2.own⟩)
        have hne : c ≠ b := by omega
        exact ⟨hbel.block c hc, (addCells_other hne).1, (addCells_other hne).2⟩
      · cases hr
    · cases hr
  · cases hr

end
end Go.Ev

namespace Go.ChangeShapes
open Go.RowKit
/-- As 'post_of_same': what lay below stands. -/
theorem post_of_below {H : Type} {enc : TypeId × Value → H} {P : Program} {f : Func} {s : ChangeSpec} {apart fresh handsOn again : Bool} {W W' : World} {args : Array Value} {v : Value} {ds gs : List (DataW H)} {before pa pv : List MemPlace}
    (hW : DataW.Whole enc P f.params.toList s.vars apart W args.toList ds gs before)
    (hres : ∀ (b : Nat) (sp : Nat → Bool) (hd : Bool), DataW.TrodAll enc P W' b sp hd f.resultTypes.toList (v.resultList f.resultTypes.size) (s.fn H (ds ++ gs)).results [])
    (hargs : ∀ sp : Nat → Bool, (∀ p ∈ before, sp p.block = true) → DataW.TrodAll enc P W' 0 sp true f.params.toList args.toList (s.fn H (ds ++ gs)).args pa)
    (hvars : ∀ sp : Nat → Bool, (∀ p ∈ before, sp p.block = true) → DataW.TrodVars enc P W' sp s.vars (s.fn H (ds ++ gs)).vars pv)
    (hps : before = pa ++ pv) (hb : Below W.heap.size W W')
    (hok : ∀ (j : Nat) (t : TypeId) (r : Value), f.resultTypes[j]? = some t → (v.resultList f.resultTypes.size)[j]? = some r → Value.okWide P W' .any 0 t r) :
    s.post enc P f apart fresh handsOn again W args v W' := by
  have hold : ∀ p ∈ before, (fun b => decide (b < W.heap.size)) p.block = true := fun p hp => by simpa using hW.lt p hp
  refine ⟨ds, gs, before, [], pa, pv, hW, hres _ _ _, hargs _ hold, hvars _ hold, World.keptBut_mono (fun p hp => ⟨hp, ?_⟩) (hb.frame (· ∈ before)), fun _ => ?_⟩
  · rw [hps, List.mem_append] at hp
    exact Or.inr hp
  · have hlt := hW.lt
    obtain ⟨_, _, _, _, _, hz, hn⟩ := hW
    refine ⟨hok, _, _, ([] ++ pa) ++ pv, ⟨[] ++ pa, pv, trodAll_append (hargs _ (fun _ _ => rfl)) (hres _ _ _), hvars _ (fun _ _ => rfl), rfl, ?_, ?_⟩, ?_⟩
    · intro b off hp
      have hm : MemPlace.cell b off ∈ before := by rw [hps]; simpa using hp
      rw [hb.frozen (by exact hlt _ hm)]
      exact hz b off hm
    · intro ha
      have := hn ha
      rw [hps] at this
      simpa using this
    · intro p hp _
      rw [hps]
      simpa using hp
end Go.ChangeShapes

namespace Go.Ev
open Go.RowKit
/-! ### What has been evaluated once -/
def eqArg : V → V → Bool
  | .str a, .str b => a == b
  | .int k a, .int k' b => decide (k = k') && a == b
  | _, _ => false

theorem eqArg_eq {x y : V} (h : eqArg x y = true) : x = y := by
  unfold eqArg at h
  split at h
  · simp at h; rw [h]
  · simp at h; rw [h.1, h.2]
  · cases h

def sameArgs : List V → List V → Bool
  | [], [] => true
  | a :: r, b :: s => eqArg a b && sameArgs r s
  | _, _ => false

theorem sameArgs_eq : ∀ {x y : List V}, sameArgs x y = true → x = y := by
  intro x
  induction x with
  | nil => intro y h; cases y <;> simp [sameArgs] at h ⊢
  | cons a r ih =>
    intro y h
    cases y with
    | nil => simp [sameArgs] at h
    | cons b s =>
      simp only [sameArgs, Bool.and_eq_true] at h
      rw [eqArg_eq h.1, ih h.2]

def memo : List (List V × Bool) → List V → Option V
  | [], _ => none
  | e :: r, vs => if sameArgs e.1 vs then some (.bool e.2) else memo r vs

def MemoOK (tab : Told) (code : FuncId → Option SFn) (F d : Nat) (f : FuncId) : List (List V × Bool) → Prop
  | [] => True
  | e :: r => callN tab code F d f (e.1.map fun x => .a (.v x)) [] = some ⟨.a (.v (.bool e.2)), []⟩ ∧ MemoOK tab code F d f r

theorem memo_some {tab : Told} {code : FuncId → Option SFn} {F d : Nat} {f : FuncId} : ∀ {m : List (List V × Bool)} {vs : List V} {r : V}, MemoOK tab code F d f m → memo m vs = some r → ∃ b, r = .bool b ∧ callN tab code F d f (vs.map fun x => .a (.v x)) [] = some ⟨.a (.v (.bool b)), []⟩ := by
  intro m
  induction m with
  | nil => intro vs r _ h; simp [memo] at h
  | cons e m ih =>
    intro vs r hm h
    simp only [memo] at h
    split at h
    · rename_i hs
      cases h
      have := sameArgs_eq hs
      subst this
      exact ⟨e.2, rfl, hm.1⟩
    · exact ih hm.2 h

theorem told_memo {P : Program} {G : Globs} {tab : Told} {code : FuncId → Option SFn} {F d : Nat} {f : FuncId} {m : List (List V × Bool)} (hb : HasBody P f) (hm : P.follows .mixedOrders = true) (ht : ToldOK P G tab) (hc : CodeOK P code) (h : MemoOK tab code F d f m) :
    CallOK P G fun g args os => if g = f then pureCall (memo m) args os else none := by
  refine told_pure hb fun vs r hr S w vals hG hok hp => ?_
  obtain ⟨b, rfl, he⟩ := memo_some h hr
  have hcall := callN_ok (F := F) ht hc (fun mm call n0 h => region_ok hm h) d
  obtain ⟨_, hc2⟩ := hcall f _ [] _ he
  have hs : HeapSim S (fun _ => none) [] w := ⟨hok, fun i o h => (by simp [obj] at h), fun i j o o' L L' h => (by simp [obj] at h), fun _ _ => rfl⟩
  have hpw : Pw (relS S fun _ => none) (vs.map fun x => SV.a (.v x)) vals := Pw.map_left (f := fun x => SV.a (.v x)) (R := relS S fun _ => none) hp
  refine (hc2 S (fun _ => none) w vals hG hs hpw).mono fun e W' he' => ?_
  obtain ⟨v, rfl, S', σ', h1, h2, h3⟩ := he'
  have h2 : Rep S' (.bool b) v := h2
  cases h2
  refine ⟨_, rfl, ⟨h3.so, h3.tape, h3.output, h3.size, fun k hk => (h3.keep k hk ?_).1⟩, w.heap.size, [], Nat.le_refl _, fun j u hj => by simp at hj, fun _ _ _ => .bool b⟩
  rintro ⟨i, o, L, ho, _⟩
  simp [obj] at ho
end Go.Ev
