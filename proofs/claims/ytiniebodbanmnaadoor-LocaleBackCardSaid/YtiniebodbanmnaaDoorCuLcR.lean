/- THE TIED CARD OF LocaleBack: true, whatever comes in; what comes in reads as it did. What the row lists of the library's tables is laid as its initialisers lay it. -/
import Derived.Test.YtiniebodbanmnaaDoorCuLcX
import Derived.Test.YtiniebodbanmnaaDoorCuLcH
namespace Go.Proofs.YtiniebodbanmnaaDoor.lc
set_option maxRecDepth 1000000
set_option linter.unnecessarySimpa false
set_option linter.unusedSimpArgs false
open Go.ChangeShapes Go.WideShapes Go.ChangeAt Go.RowKit
open Go.Ev (Gw Gw_ok Rep allFz TyL TyAll elOfs elOf ty_slice ty_struct ty_int ty_str args_rep plainT structTs TyTs)

namespace LBack
theorem params : Tryd.f4.params.toList = [9] := by kernel_rfl
theorem k_true : ∀ sv os, lback_k sv os = some true → sv = .a (.v (.bool true)) ∧ os = [] := by
  intro sv os h
  unfold lback_k at h
  split at h
  · have h := Ev.dTy_ok h
    split at h
    · cases h; exact ⟨rfl, rfl⟩
    · cases h
  · cases h

theorem contract (H : Type) (enc : TypeId × Value → H) (W : World) (base : Nat) (r : Reach) (args : Array Value) (ds gs : List (DataW H)) (before : List MemPlace) (hL : Laid W)
    (hval : ∀ (j : Nat) t v, Tryd.f4.params.toList[j]? = some t → args.toList[j]? = some v → Value.okWide Tryd.prog W r base t v)
    (hW : DataW.Whole enc Tryd.prog Tryd.f4.params.toList Rows.localeBackSpec.vars false W args.toList ds gs before) :
    Calls Tryd.prog 4 args W fun e W' => ∃ v, e = .returned v ∧ Rows.localeBackSpec.post enc Tryd.prog Tryd.f4 false true false false W args v W' := by
  have hW' := hW
  obtain ⟨p, q, hA, hV, rfl, _, _⟩ := hW
  obtain ⟨rfl, rfl⟩ := trodVars_none hV
  have hpl : ∀ t ∈ Tryd.f4.params.toList, plainT Tryd.prog 8 t = true := by
    have : (Tryd.f4.params.toList.all fun t => plainT Tryd.prog 8 t) = true := by kernel_rfl
    exact List.all_eq_true.1 this
  have hsz : ∀ t ∈ Tryd.f4.params.toList, t < Tryd.prog.types.size := by
    have : (Tryd.f4.params.toList.all fun t => decide (t < Tryd.prog.types.size)) = true := by kernel_rfl
    exact fun t ht => by simpa using List.all_eq_true.1 this t ht
  obtain ⟨vss, h1, h2, h3⟩ := args_rep (G := Gw W) 8 _ _ _ _ hpl hval hA
  rw [params] at h1 h2 h3
  obtain ⟨a0, r0, rfl, t0, h1⟩ := Ev.ty_cons h1
  obtain rfl := Ev.ty_nil h1
  obtain ⟨x0, rfl, _⟩ := ty_str u9 t0
  have hargs : elOfs Tryd.prog [9] [[.str x0]] = [.str x0] := by
    simp only [elOfs, elOf, a9]; rfl
  rw [hargs] at h2
  have hq := congrFun (lback_q) x0
  have ht := lback_true  x0
  have hq := hq.trans ht
  have hc := Ev.calls_of_st (G := Gw W) (args := [.str x0]) mixed (tab0_11_ok hL) tab0_11_binds code_ok hq k_true (Gw_ok W) h2
  have ha : args.toList.toArray = args := by simp
  rw [ha] at hc
  refine hc.mono fun e W' he => ?_
  obtain ⟨v, S', rfl, hr, hb⟩ := he
  rw [rep_true hr]
  refine ⟨_, rfl, ?_⟩
  match ds, h3 with
  | [d0], _ =>
    exact law_post hW' kids full hsz rfl (by kernel_rfl) u4 rfl rfl rfl hb

theorem laid_met (os : Os) : laidMet Tryd.prog Rows.localeBackRow.laid ((World.laidAll Tryd.prog os Rows.localeBackRow.laid).forCall (fun _ _ => 0) ⟨#[], #[.string ⟨#[]⟩], []⟩).memory :=
  laidMet_laidAll _ (by kernel_rfl) (by kernel_rfl)
theorem reads (os : Os) {H : Type} (enc : TypeId × Value → H) : ∃ places, DataW.whole enc Tryd.prog ((World.laidAll Tryd.prog os Rows.localeBackRow.laid).forCall (fun _ _ => 0) ⟨#[], #[.string ⟨#[]⟩], []⟩).memory Tryd.f4.params.toList Rows.localeBackSpec.vars false (#[.string ⟨#[]⟩] : Array Value).toList 8 = some ([.lit (.string [])], [], places) :=
  ⟨[], by kernel_rfl⟩

theorem laid_of {W : World} (hsh : W.ShapedOpen Tryd.prog) (hL : laidMet Tryd.prog Rows.localeBackRow.laid W) : Laid W :=
  ⟨maxLen_cell hsh, utf8Tabs_of_readsT (ρ := Tryd.lays271_ren) { Tryd.lays271 with } ⟨by kernel_rfl, by kernel_rfl, by kernel_rfl, by kernel_rfl, by kernel_rfl, by kernel_rfl, by kernel_rfl⟩ (Lib.laidMet.reads hL (.tail _ (.tail _ (.head _)))) (Lib.laidMet.reads hL (.head _))⟩

set_option maxRecDepth 1000000 in
theorem lifted (os : Os) (started : os.Started) (H : Type) (enc : TypeId × Value → H) (F : Stop.Interp) :
    ReturnsInHanded {} Tryd.checked os 4 .any ((OpenSpec.ofChange Rows.localeBackSpec).preRow enc Tryd.prog Tryd.f4 Rows.localeBackRow.domain false Rows.localeBackRow.laid) (((OpenSpec.ofChange Rows.localeBackSpec).at F).post enc Tryd.prog Tryd.f4 false true false false) := by
  obtain ⟨places, hx⟩ := reads os enc
  refine returnsInHanded_of_row (C := Tryd.checked) (s := OpenSpec.ofChange Rows.localeBackSpec) own started (by kernel_rfl) Tryd.func4
    ⟨World.laidAll Tryd.prog os Rows.localeBackRow.laid, fun _ _ => 0, ⟨#[], #[.string ⟨#[]⟩], []⟩, World.laidAll_os _ _ _, World.shaped_of_ZipB (by kernel_rfl) (by kernel_rfl), rfl,
      (Input.okWide_of_okWideB (by kernel_rfl)).2, OpenSpec.preRow_of_cond 8 hx (by kernel_rfl) (fun k hk => by cases hk) (by kernel_rfl) (laid_met os), by
        simp only [Assume.holds]
        exact ⟨by simp, by simp, by simp, by simp, by simp⟩⟩ ?_
  intro W base args ds gs before hval hW _ _ _ hL hsh _
  exact contract H enc W base .any args ds gs before (laid_of hsh hL) (fun j t v ht hv => hval j t v (by simpa using ht) (by simpa using hv)) hW

theorem said : Rows.LocaleBackSaid :=
  OpenClaim.holds_of_cond 4 Tryd.f4 rfl rfl rfl rfl rfl rfl rfl ⟨rfl, rfl, rfl, rfl, rfl⟩ rfl rfl rfl rfl rfl (by kernel_rfl) Tryd.func4 (by kernel_rfl)
    (of_decide_eq_true (by kernel_rfl)) (by unfold Func.isWrapper; first | (rw [if_pos (by decide +kernel)]; kernel_rfl) | (rw [if_neg (by decide +kernel)]; exact ⟨rfl, rfl⟩))
    (fun os started H enc _ F => by rw [OpenClaim.pre_eq_preRow]; exact lifted os started H enc F)

theorem plain (f : FuncId) (fn : Func) (hf : Tryd.pinned.checked.prog.funcNamed "cubit/cubitlaw14.LocaleBack" = some f) (hfn : Tryd.pinned.checked.prog.funcs[f]? = some fn) :
    false = Tryd.pinned.checked.prog.looks [] ∧ ∀ (j : Nat) t, fn.params[j]? = some t → Tryd.pinned.checked.prog.wantsStandIn t = false := by
  obtain rfl : f = 4 := Option.some.inj ((show Tryd.prog.funcNamed "cubit/cubitlaw14.LocaleBack" = some 4 by kernel_rfl).symm.trans hf) |>.symm
  obtain rfl : fn = Tryd.f4 := (Option.some.inj (Tryd.func4.symm.trans hfn)).symm
  refine ⟨by kernel_rfl, fun j t ht => ?_⟩
  have key : (Tryd.f4.params.toList.all fun t => !Tryd.pinned.checked.prog.wantsStandIn t) = true := by kernel_rfl
  have hm : t ∈ Tryd.f4.params.toList := by
    rw [← Array.getElem?_toList] at ht
    exact List.mem_of_getElem? ht
  simpa using List.all_eq_true.1 key t hm

/-- ████ THE CARD OF LocaleBack ████ -/
theorem card : Rows.LocaleBackCardSaid :=
  Claim7.holds_tied_plain_at .later [] _ _ _ _ said (fun _ h => by cases h) (by kernel_rfl) (fun _ h => by cases h) localeBack_row_tie rfl ⟨rfl, rfl⟩ (by kernel_rfl) rfl plain (by kernel_rfl)
end LBack
end Go.Proofs.YtiniebodbanmnaaDoor.lc
#print axioms Go.Proofs.YtiniebodbanmnaaDoor.lc.LBack.card
