/- THE TIED CARD OF GenderSays: true, whatever comes in; what comes in reads as it did. What the row lists of the library's tables is laid as its initialisers lay it. -/
import Derived.Test.YtmlhdhndjgdoaaaDoorCuGsH
namespace Go.Proofs.YtmlhdhndjgdoaaaDoor.gs
set_option maxRecDepth 1000000
set_option linter.unnecessarySimpa false
set_option linter.unusedSimpArgs false
open Go.ChangeShapes Go.WideShapes Go.ChangeAt Go.RowKit
open Go.Ev (Gw Gw_ok Rep allFz TyL TyAll elOfs elOf ty_slice ty_struct ty_int ty_str args_rep plainT structTs TyTs)

namespace GSays
theorem params : Tryd.f3.params.toList = [22, 9, 28, 30] := by kernel_rfl
theorem k_true : ∀ sv os, lsays_k sv os = some true → sv = .a (.v (.bool true)) ∧ os = [] := by
  intro sv os h
  unfold lsays_k at h
  split at h
  · have h := Ev.dTy_ok h
    split at h
    · cases h; exact ⟨rfl, rfl⟩
    · cases h
  · cases h

theorem contract (H : Type) (enc : TypeId × Value → H) (W : World) (base : Nat) (r : Reach) (args : Array Value) (ds gs : List (DataW H)) (before : List MemPlace) (hL : Laid W)
    (hval : ∀ (j : Nat) t v, Tryd.f3.params.toList[j]? = some t → args.toList[j]? = some v → Value.okWide Tryd.prog W r base t v)
    (hW : DataW.Whole enc Tryd.prog Tryd.f3.params.toList Rows.genderSaysSpec.vars false W args.toList ds gs before) :
    Calls Tryd.prog 3 args W fun e W' => ∃ v, e = .returned v ∧ Rows.genderSaysSpec.post enc Tryd.prog Tryd.f3 false true false false W args v W' := by
  have hW' := hW
  obtain ⟨p, q, hA, hV, rfl, _, _⟩ := hW
  obtain ⟨rfl, rfl⟩ := trodVars_none hV
  have hpl : ∀ t ∈ Tryd.f3.params.toList, plainT Tryd.prog 8 t = true := by
    have : (Tryd.f3.params.toList.all fun t => plainT Tryd.prog 8 t) = true := by kernel_rfl
    exact List.all_eq_true.1 this
  have hsz : ∀ t ∈ Tryd.f3.params.toList, t < Tryd.prog.types.size := by
    have : (Tryd.f3.params.toList.all fun t => decide (t < Tryd.prog.types.size)) = true := by kernel_rfl
    exact fun t ht => by simpa using List.all_eq_true.1 this t ht
  obtain ⟨vss, h1, h2, h3⟩ := args_rep (G := Gw W) 8 _ _ _ _ hpl hval hA
  rw [params] at h1 h2 h3
  obtain ⟨a0, r0, rfl, t0, h1⟩ := Ev.ty_cons h1
  obtain ⟨a1, r1, rfl, t1, h1⟩ := Ev.ty_cons h1
  obtain ⟨a2, r2, rfl, t2, h1⟩ := Ev.ty_cons h1
  obtain ⟨a3, r3, rfl, t3, h1⟩ := Ev.ty_cons h1
  obtain rfl := Ev.ty_nil h1
  obtain ⟨x0, rfl, ho0⟩ := rows_in t0
  obtain ⟨x1, rfl, _⟩ := ty_str u9 t1
  obtain ⟨x2, y2, z2, rfl, hz2⟩ := part_in t2
  obtain ⟨x3, y3, z3, rfl⟩ := atom_in t3
  have hargs : elOfs Tryd.prog [22, 9, 28, 30] [[.sl x0], [.str x1], [.sl (Ev.encAs x2), .sl (Ev.encAs y2), .sl z2], [.str x3, .str y3, .int .i64 z3]] = [.sl x0, .str x1, .agg [.sl (Ev.encAs x2), .sl (Ev.encAs y2), .sl z2], .agg [.str x3, .str y3, .int .i64 z3]] := by
    simp only [elOfs, elOf, a22, a28, a30, a9]; rfl
  rw [hargs] at h2
  have hq := congrFun (congrFun (congrFun (congrFun (congrFun (congrFun (congrFun (congrFun (lsays_q) x0) x1) (Ev.encAs x2)) (Ev.encAs y2)) z2) x3) y3) z3
  have ht := lsays_true ho0 x1 x2 y2 z2 hz2 x3 y3 z3
  have hq := hq.trans ht
  have hc := Ev.calls_of_st (G := Gw W) (args := [.sl x0, .str x1, .agg [.sl (Ev.encAs x2), .sl (Ev.encAs y2), .sl z2], .agg [.str x3, .str y3, .int .i64 z3]]) mixed (tab0_31_ok hL) tab0_31_binds code_ok hq k_true (Gw_ok W) h2
  have ha : args.toList.toArray = args := by simp
  rw [ha] at hc
  refine hc.mono fun e W' he => ?_
  obtain ⟨v, S', rfl, hr, hb⟩ := he
  rw [rep_true hr]
  refine ⟨_, rfl, ?_⟩
  match ds, h3 with
  | [d0, d1, d2, d3], _ =>
    exact law_post hW' kids full hsz rfl (by kernel_rfl) u4 rfl rfl rfl hb

theorem laid_met (os : Os) : laidMet Tryd.prog Rows.genderSaysRow.laid ((World.laidAll Tryd.prog os Rows.genderSaysRow.laid).forCall (fun _ _ => 0) ⟨#[], #[.slice none 0 0, .string ⟨#[]⟩, .agg #[.slice none 0 0, .slice none 0 0, .slice none 0 0], .agg #[.string ⟨#[]⟩, .string ⟨#[]⟩, .int .i64 0]], []⟩).memory :=
  laidMet_laidAll _ (by kernel_rfl) (by kernel_rfl)
theorem reads (os : Os) {H : Type} (enc : TypeId × Value → H) : ∃ places, DataW.whole enc Tryd.prog ((World.laidAll Tryd.prog os Rows.genderSaysRow.laid).forCall (fun _ _ => 0) ⟨#[], #[.slice none 0 0, .string ⟨#[]⟩, .agg #[.slice none 0 0, .slice none 0 0, .slice none 0 0], .agg #[.string ⟨#[]⟩, .string ⟨#[]⟩, .int .i64 0]], []⟩).memory Tryd.f3.params.toList Rows.genderSaysSpec.vars false (#[.slice none 0 0, .string ⟨#[]⟩, .agg #[.slice none 0 0, .slice none 0 0, .slice none 0 0], .agg #[.string ⟨#[]⟩, .string ⟨#[]⟩, .int .i64 0]] : Array Value).toList 8 = some ([.nil, .lit (.string []), .agg [.nil, .nil, .agg [.nil]], .agg [.lit (.string []), .lit (.string []), .lit (.int .i64 0)]], [], places) :=
  ⟨[], by kernel_rfl⟩

theorem laid_of {W : World} (hsh : W.ShapedOpen Tryd.prog) (hL : laidMet Tryd.prog Rows.genderSaysRow.laid W) : Laid W :=
  laid_from hsh hL (.tail _ (.tail _ (.tail _ (.tail _ (.head _))))) (.tail _ (.tail _ (.tail _ (.head _)))) (.tail _ (.tail _ (.head _)))

set_option maxRecDepth 1000000 in
theorem lifted (os : Os) (started : os.Started) (H : Type) (enc : TypeId × Value → H) (F : Stop.Interp) :
    ReturnsInHanded {} Tryd.checked os 3 .any ((OpenSpec.ofChange Rows.genderSaysSpec).preRow enc Tryd.prog Tryd.f3 Rows.genderSaysRow.domain false Rows.genderSaysRow.laid) (((OpenSpec.ofChange Rows.genderSaysSpec).at F).post enc Tryd.prog Tryd.f3 false true false false) := by
  obtain ⟨places, hx⟩ := reads os enc
  refine returnsInHanded_of_row (C := Tryd.checked) (s := OpenSpec.ofChange Rows.genderSaysSpec) own started (by kernel_rfl) Tryd.func3
    ⟨World.laidAll Tryd.prog os Rows.genderSaysRow.laid, fun _ _ => 0, ⟨#[], #[.slice none 0 0, .string ⟨#[]⟩, .agg #[.slice none 0 0, .slice none 0 0, .slice none 0 0], .agg #[.string ⟨#[]⟩, .string ⟨#[]⟩, .int .i64 0]], []⟩, World.laidAll_os _ _ _, World.shaped_of_ZipB (by kernel_rfl) (by kernel_rfl), rfl,
      (Input.okWide_of_okWideB (by kernel_rfl)).2, OpenSpec.preRow_of_cond 8 hx (by kernel_rfl) (fun k hk => by cases hk) (by kernel_rfl) (laid_met os), by
        simp only [Assume.holds]
        exact ⟨by simp, by simp, by simp, by simp, by simp⟩⟩ ?_
  intro W base args ds gs before hval hW _ _ _ hL hsh _
  exact contract H enc W base .any args ds gs before (laid_of hsh hL) (fun j t v ht hv => hval j t v (by simpa using ht) (by simpa using hv)) hW

theorem said : Rows.GenderSaysSaid :=
  OpenClaim.holds_of_cond 3 Tryd.f3 rfl rfl rfl rfl rfl rfl rfl ⟨rfl, rfl, rfl, rfl, rfl⟩ rfl rfl rfl rfl rfl (by kernel_rfl) Tryd.func3 (by kernel_rfl)
    (of_decide_eq_true (by kernel_rfl)) (by unfold Func.isWrapper; first | (rw [if_pos (by decide +kernel)]; kernel_rfl) | (rw [if_neg (by decide +kernel)]; exact ⟨rfl, rfl⟩))
    (fun os started H enc _ F => by rw [OpenClaim.pre_eq_preRow]; exact lifted os started H enc F)

theorem plain (f : FuncId) (fn : Func) (hf : Tryd.pinned.checked.prog.funcNamed "cubit/cubitlaw23.GenderSays" = some f) (hfn : Tryd.pinned.checked.prog.funcs[f]? = some fn) :
    false = Tryd.pinned.checked.prog.looks [] ∧ ∀ (j : Nat) t, fn.params[j]? = some t → Tryd.pinned.checked.prog.wantsStandIn t = false := by
  obtain rfl : f = 3 := Option.some.inj ((show Tryd.prog.funcNamed "cubit/cubitlaw23.GenderSays" = some 3 by kernel_rfl).symm.trans hf) |>.symm
  obtain rfl : fn = Tryd.f3 := (Option.some.inj (Tryd.func3.symm.trans hfn)).symm
  refine ⟨by kernel_rfl, fun j t ht => ?_⟩
  have key : (Tryd.f3.params.toList.all fun t => !Tryd.pinned.checked.prog.wantsStandIn t) = true := by kernel_rfl
  have hm : t ∈ Tryd.f3.params.toList := by
    rw [← Array.getElem?_toList] at ht
    exact List.mem_of_getElem? ht
  simpa using List.all_eq_true.1 key t hm

/-- ████ THE CARD OF GenderSays ████ -/
theorem card : Rows.GenderSaysCardSaid :=
  Claim7.holds_tied_plain_at .later [] _ _ _ _ said (fun _ h => by cases h) (by kernel_rfl) (fun _ h => by cases h) genderSays_row_tie rfl ⟨rfl, rfl⟩ (by kernel_rfl) rfl plain (by kernel_rfl)
end GSays
end Go.Proofs.YtmlhdhndjgdoaaaDoor.gs
#print axioms Go.Proofs.YtmlhdhndjgdoaaaDoor.gs.GSays.card
