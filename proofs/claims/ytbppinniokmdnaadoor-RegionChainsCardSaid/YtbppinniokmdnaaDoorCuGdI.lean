/- THE TIED CARD OF RegionChains: true, whatever comes in; what comes in reads as it did. What the row lists of the library's tables is laid as its initialisers lay it. -/
import Derived.Test.YtbppinniokmdnaaDoorCuGdW
import Derived.Test.YtbppinniokmdnaaDoorCuGdH
namespace Go.Proofs.YtbppinniokmdnaaDoor.gd
set_option maxRecDepth 1000000
set_option linter.unnecessarySimpa false
set_option linter.unusedSimpArgs false
open Go.ChangeShapes Go.WideShapes Go.ChangeAt Go.RowKit
open Go.Ev (Rep allFz TyL TyAll elOfs elOf ty_slice ty_struct ty_int ty_str args_rep plainT structTs TyTs)

namespace RChains
theorem params : Tryd.f5.params.toList = [22, 9] := by kernel_rfl
theorem k_true : ∀ sv os, lchains_k sv os = some true → sv = .a (.v (.bool true)) ∧ os = [] := by
  intro sv os h
  unfold lchains_k at h
  split at h
  · have h := Ev.dTy_ok h
    split at h
    · cases h; exact ⟨rfl, rfl⟩
    · cases h
  · cases h

theorem contract (H : Type) (enc : TypeId × Value → H) (W : World) (base : Nat) (r : Reach) (args : Array Value) (ds gs : List (DataW H)) (before : List MemPlace) (hL : Laid W)
    (hval : ∀ (j : Nat) t v, Tryd.f5.params.toList[j]? = some t → args.toList[j]? = some v → Value.okWide Tryd.prog W r base t v)
    (hW : DataW.Whole enc Tryd.prog Tryd.f5.params.toList Rows.regionChainsSpec.vars false W args.toList ds gs before) :
    Calls Tryd.prog 5 args W fun e W' => ∃ v, e = .returned v ∧ Rows.regionChainsSpec.post enc Tryd.prog Tryd.f5 false true false false W args v W' := by
  have hW' := hW
  obtain ⟨p, q, hA, hV, rfl, _, _⟩ := hW
  obtain ⟨rfl, rfl⟩ := trodVars_none hV
  have hpl : ∀ t ∈ Tryd.f5.params.toList, plainT Tryd.prog 8 t = true := by
    have : (Tryd.f5.params.toList.all fun t => plainT Tryd.prog 8 t) = true := by kernel_rfl
    exact List.all_eq_true.1 this
  have hsz : ∀ t ∈ Tryd.f5.params.toList, t < Tryd.prog.types.size := by
    have : (Tryd.f5.params.toList.all fun t => decide (t < Tryd.prog.types.size)) = true := by kernel_rfl
    exact fun t ht => by simpa using List.all_eq_true.1 this t ht
  obtain ⟨vss, h1, h2, h3⟩ := args_rep (G := Gw W) 8 _ _ _ _ hpl hval hA
  rw [params] at h1 h2 h3
  obtain ⟨a0, r0, rfl, t0, h1⟩ := Ev.ty_cons h1
  obtain ⟨a1, r1, rfl, t1, h1⟩ := Ev.ty_cons h1
  obtain rfl := Ev.ty_nil h1
  obtain ⟨x0, rfl, ho0⟩ := rows_in t0
  obtain ⟨x1, rfl, _⟩ := ty_str u9 t1
  have hargs : elOfs Tryd.prog [22, 9] [[.sl x0], [.str x1]] = [.sl x0, .str x1] := by
    simp only [elOfs, elOf, a22, a9]; rfl
  rw [hargs] at h2
  have hq := congrFun (congrFun (lchains_q) x0) x1
  have ht := lchains_true ho0 x1
  have hq := hq.trans ht
  have hc := Ev.calls_of_st (G := Gw W) (args := [.sl x0, .str x1]) mixed (tab0_33_ok hL) tab0_33_binds code_ok hq k_true (Gw_ok W) h2
  have ha : args.toList.toArray = args := by simp
  rw [ha] at hc
  refine hc.mono fun e W' he => ?_
  obtain ⟨v, S', rfl, hr, hb⟩ := he
  rw [rep_true hr]
  refine ⟨_, rfl, ?_⟩
  match ds, h3 with
  | [d0, d1], _ =>
    exact law_post hW' kids full hsz rfl (by kernel_rfl) u4 rfl rfl rfl hb

theorem laid_met (os : Os) : laidMet Tryd.prog Rows.regionChainsRow.laid ((World.laidAll Tryd.prog os Rows.regionChainsRow.laid).forCall (fun _ _ => 0) ⟨#[], #[.slice none 0 0, .string ⟨#[]⟩], []⟩).memory :=
  laidMet_laidAll _ (by kernel_rfl) (by kernel_rfl)
theorem reads (os : Os) {H : Type} (enc : TypeId × Value → H) : ∃ places, DataW.whole enc Tryd.prog ((World.laidAll Tryd.prog os Rows.regionChainsRow.laid).forCall (fun _ _ => 0) ⟨#[], #[.slice none 0 0, .string ⟨#[]⟩], []⟩).memory Tryd.f5.params.toList Rows.regionChainsSpec.vars false (#[.slice none 0 0, .string ⟨#[]⟩] : Array Value).toList 8 = some ([.nil, .lit (.string [])], [], places) :=
  ⟨[], by kernel_rfl⟩

theorem laid_of {W : World} (hsh : W.ShapedOpen Tryd.prog) (hL : laidMet Tryd.prog Rows.regionChainsRow.laid W) : Laid W :=
  ⟨maxLen_cell hsh, utf8Tabs_of_readsT (ρ := Tryd.lays271_ren) { Tryd.lays271 with } ⟨by kernel_rfl, by kernel_rfl, by kernel_rfl, by kernel_rfl, by kernel_rfl, by kernel_rfl, by kernel_rfl⟩ (Lib.laidMet.reads hL (.tail _ (.head _))) (Lib.laidMet.reads hL (.head _))⟩

set_option maxRecDepth 1000000 in
theorem lifted (os : Os) (started : os.Started) (H : Type) (enc : TypeId × Value → H) (F : Stop.Interp) :
    ReturnsInHanded {} Tryd.checked os 5 .any ((OpenSpec.ofChange Rows.regionChainsSpec).preRow enc Tryd.prog Tryd.f5 Rows.regionChainsRow.domain false Rows.regionChainsRow.laid) (((OpenSpec.ofChange Rows.regionChainsSpec).at F).post enc Tryd.prog Tryd.f5 false true false false) := by
  obtain ⟨places, hx⟩ := reads os enc
  refine returnsInHanded_of_row (C := Tryd.checked) (s := OpenSpec.ofChange Rows.regionChainsSpec) own started (by kernel_rfl) Tryd.func5
    ⟨World.laidAll Tryd.prog os Rows.regionChainsRow.laid, fun _ _ => 0, ⟨#[], #[.slice none 0 0, .string ⟨#[]⟩], []⟩, World.laidAll_os _ _ _, World.shaped_of_ZipB (by kernel_rfl) (by kernel_rfl), rfl,
      (Input.okWide_of_okWideB (by kernel_rfl)).2, OpenSpec.preRow_of_cond 8 hx (by kernel_rfl) (fun k hk => by cases hk) (by kernel_rfl) (laid_met os), by
        simp only [Assume.holds]
        exact ⟨by simp, by simp, by simp, by simp, by simp⟩⟩ ?_
  intro W base args ds gs before hval hW _ _ _ hL hsh _
  exact contract H enc W base .any args ds gs before (laid_of hsh hL) (fun j t v ht hv => hval j t v (by simpa using ht) (by simpa using hv)) hW

theorem said : Rows.RegionChainsSaid :=
  OpenClaim.holds_of_cond 5 Tryd.f5 rfl rfl rfl rfl rfl rfl rfl ⟨rfl, rfl, rfl, rfl, rfl⟩ rfl rfl rfl rfl rfl (by kernel_rfl) Tryd.func5 (by kernel_rfl)
    (of_decide_eq_true (by kernel_rfl)) (by unfold Func.isWrapper; first | (rw [if_pos (by decide +kernel)]; kernel_rfl) | (rw [if_neg (by decide +kernel)]; exact ⟨rfl, rfl⟩))
    (fun os started H enc _ F => by rw [OpenClaim.pre_eq_preRow]; exact lifted os started H enc F)

theorem plain (f : FuncId) (fn : Func) (hf : Tryd.pinned.checked.prog.funcNamed "cubit/cubitlaw15.RegionChains" = some f) (hfn : Tryd.pinned.checked.prog.funcs[f]? = some fn) :
    false = Tryd.pinned.checked.prog.looks [] ∧ ∀ (j : Nat) t, fn.params[j]? = some t → Tryd.pinned.checked.prog.wantsStandIn t = false := by
  obtain rfl : f = 5 := Option.some.inj ((show Tryd.prog.funcNamed "cubit/cubitlaw15.RegionChains" = some 5 by kernel_rfl).symm.trans hf) |>.symm
  obtain rfl : fn = Tryd.f5 := (Option.some.inj (Tryd.func5.symm.trans hfn)).symm
  refine ⟨by kernel_rfl, fun j t ht => ?_⟩
  have key : (Tryd.f5.params.toList.all fun t => !Tryd.pinned.checked.prog.wantsStandIn t) = true := by kernel_rfl
  have hm : t ∈ Tryd.f5.params.toList := by
    rw [← Array.getElem?_toList] at ht
    exact List.mem_of_getElem? ht
  simpa using List.all_eq_true.1 key t hm

/-- ████ THE CARD OF RegionChains ████ -/
theorem card : Rows.RegionChainsCardSaid :=
  Claim7.holds_tied_plain_at .later [] _ _ _ _ said (fun _ h => by cases h) (by kernel_rfl) (fun _ h => by cases h) regionChains_row_tie rfl ⟨rfl, rfl⟩ (by kernel_rfl) rfl plain (by kernel_rfl)
end RChains
end Go.Proofs.YtbppinniokmdnaaDoor.gd
#print axioms Go.Proofs.YtbppinniokmdnaaDoor.gd.RChains.card
