/- THE TIED CARD OF ComposeOne: true, whatever comes in; what comes in reads as it did. What the row lists of the library's tables is laid as its initialisers lay it. -/
import Derived.Test.YtmlhdhndjgdoaaaGreatDoorCuCpI
namespace Go.Proofs.YtmlhdhndjgdoaaaGreatDoor.cp
set_option maxRecDepth 1000000
set_option linter.unnecessarySimpa false
set_option linter.unusedSimpArgs false
open Go.ChangeShapes Go.WideShapes Go.ChangeAt Go.RowKit
open Go.Ev (Gw Gw_ok Rep allFz TyL TyAll elOfs elOf ty_slice ty_struct ty_int ty_str args_rep plainT structTs TyTs)

namespace COne
theorem params : Tryz.f5.params.toList = [31, 33, 27] := by kernel_rfl
theorem k_true : ∀ sv os, lone_k sv os = some true → sv = .a (.v (.bool true)) ∧ os = [] := by
  intro sv os h
  unfold lone_k at h
  split at h
  · have h := Ev.dTy_ok h
    split at h
    · cases h; exact ⟨rfl, rfl⟩
    · cases h
  · cases h

theorem contract (H : Type) (enc : TypeId × Value → H) (W : World) (base : Nat) (r : Reach) (args : Array Value) (ds gs : List (DataW H)) (before : List MemPlace) (hL : Laid W) (hsm : Rows.uptoBulkAll (ds ++ gs) ≤ 1048576)
    (hval : ∀ (j : Nat) t v, Tryz.f5.params.toList[j]? = some t → args.toList[j]? = some v → Value.okWide Tryz.prog W r base t v)
    (hW : DataW.Whole enc Tryz.prog Tryz.f5.params.toList Rows.composeOneSpec.vars false W args.toList ds gs before) :
    Calls Tryz.prog 5 args W fun e W' => ∃ v, e = .returned v ∧ Rows.composeOneSpec.post enc Tryz.prog Tryz.f5 false true false false W args v W' := by
  have hW' := hW
  obtain ⟨p, q, hA, hV, rfl, _, _⟩ := hW
  obtain ⟨rfl, rfl⟩ := trodVars_none hV
  have hpl : ∀ t ∈ Tryz.f5.params.toList, plainT Tryz.prog 8 t = true := by
    have : (Tryz.f5.params.toList.all fun t => plainT Tryz.prog 8 t) = true := by kernel_rfl
    exact List.all_eq_true.1 this
  have hsz : ∀ t ∈ Tryz.f5.params.toList, t < Tryz.prog.types.size := by
    have : (Tryz.f5.params.toList.all fun t => decide (t < Tryz.prog.types.size)) = true := by kernel_rfl
    exact fun t ht => by simpa using List.all_eq_true.1 this t ht
  obtain ⟨vss, h1, h2, h3, h4⟩ := args_rep (G := Gw W) 8 _ _ _ _ hpl hval hA
  rw [params] at h1 h2 h3 h4
  obtain ⟨a0, r0, rfl, t0, h1⟩ := Ev.ty_cons h1
  obtain ⟨a1, r1, rfl, t1, h1⟩ := Ev.ty_cons h1
  obtain ⟨a2, r2, rfl, t2, h1⟩ := Ev.ty_cons h1
  obtain rfl := Ev.ty_nil h1
  obtain ⟨x0, rfl, ho0⟩ := rows_in t0
  obtain ⟨x1, y1, z1, w1, rfl⟩ := how_in t1
  obtain ⟨x2, y2, z2, rfl, hz2⟩ := atom_in t2
  have hargs : elOfs Tryz.prog [31, 33, 27] [[.sl x0], [.str x1, .str y1, .str z1, .str w1], [.str x2, .str y2, .int .i64 z2]] = [.sl x0, .agg [.str x1, .str y1, .str z1, .str w1], .agg [.str x2, .str y2, .int .i64 z2]] := by
    simp only [elOfs, elOf, a27, a31, a33]; rfl
  rw [hargs] at h2 h4
  have hbk := Nat.le_trans h4 (show Ev.bulkDs ds ≤ 1048576 by rw [List.append_nil, bulks_eq] at hsm; exact hsm)
  have hq := congrFun (congrFun (congrFun (congrFun (congrFun (congrFun (congrFun (congrFun (lone_q) x0) x1) y1) z1) w1) x2) y2) z2
  have ht := one_small ho0 x1 y1 z1 w1 x2 y2 z2 hz2 hbk
  have hq := hq.trans ht
  have hc := Ev.calls_of_st (G := Gw W) (args := [.sl x0, .agg [.str x1, .str y1, .str z1, .str w1], .agg [.str x2, .str y2, .int .i64 z2]]) mixed (tab0_49_ok hL) tab0_49_binds code_ok hq k_true (Gw_ok W) h2
  have ha : args.toList.toArray = args := by simp
  rw [ha] at hc
  refine hc.mono fun e W' he => ?_
  obtain ⟨v, S', rfl, hr, hb⟩ := he
  rw [rep_true hr]
  refine ⟨_, rfl, ?_⟩
  match ds, h3 with
  | [d0, d1, d2], _ =>
    exact law_post hW' kids full hsz rfl (by kernel_rfl) u4 rfl rfl rfl hb

theorem laid_met (os : Os) : laidMet Tryz.prog Rows.composeOneUptoRow.laid ((World.laidAll Tryz.prog os Rows.composeOneUptoRow.laid).forCall (fun _ _ => 0) ⟨#[], #[.slice none 0 0, .agg #[.string ⟨#[]⟩, .string ⟨#[]⟩, .string ⟨#[]⟩, .string ⟨#[]⟩], .agg #[.string ⟨#[]⟩, .string ⟨#[]⟩, .int .i64 0]], []⟩).memory :=
  laidMet_laidAll _ (by kernel_rfl) (by kernel_rfl)
theorem reads (os : Os) {H : Type} (enc : TypeId × Value → H) : ∃ places, DataW.whole enc Tryz.prog ((World.laidAll Tryz.prog os Rows.composeOneUptoRow.laid).forCall (fun _ _ => 0) ⟨#[], #[.slice none 0 0, .agg #[.string ⟨#[]⟩, .string ⟨#[]⟩, .string ⟨#[]⟩, .string ⟨#[]⟩], .agg #[.string ⟨#[]⟩, .string ⟨#[]⟩, .int .i64 0]], []⟩).memory Tryz.f5.params.toList Rows.composeOneSpec.vars false (#[.slice none 0 0, .agg #[.string ⟨#[]⟩, .string ⟨#[]⟩, .string ⟨#[]⟩, .string ⟨#[]⟩], .agg #[.string ⟨#[]⟩, .string ⟨#[]⟩, .int .i64 0]] : Array Value).toList 8 = some ([.nil, .agg [.lit (.string []), .lit (.string []), .lit (.string []), .lit (.string [])], .agg [.lit (.string []), .lit (.string []), .lit (.int .i64 0)]], [], places) :=
  ⟨[], by kernel_rfl⟩

theorem laid_of {W : World} (hsh : W.ShapedOpen Tryz.prog) (hL : laidMet Tryz.prog Rows.composeOneUptoRow.laid W) : Laid W :=
  laid_from hsh hL (.tail _ (.tail _ (.tail _ (.tail _ (.tail _ (.tail _ (.head _))))))) (.tail _ (.tail _ (.tail _ (.head _)))) (.tail _ (.tail _ (.head _))) (.tail _ (.tail _ (.tail _ (.tail _ (.tail _ (.head _)))))) (.tail _ (.tail _ (.tail _ (.tail _ (.head _)))))

set_option maxRecDepth 1000000 in
theorem lifted (os : Os) (started : os.Started) (H : Type) (enc : TypeId × Value → H) (F : Stop.Interp) :
    ReturnsInHanded {} Tryz.checked os 5 .any ((Rows.OpenSpec.upto Rows.composeOneSpec).preRow enc Tryz.prog Tryz.f5 Rows.composeOneUptoRow.domain false Rows.composeOneUptoRow.laid) (((Rows.OpenSpec.upto Rows.composeOneSpec).at F).post enc Tryz.prog Tryz.f5 false true false false) := by
  obtain ⟨places, hx⟩ := reads os enc
  refine returnsInHanded_of_row (C := Tryz.checked) (s := Rows.OpenSpec.upto Rows.composeOneSpec) own started (by kernel_rfl) Tryz.func5
    ⟨World.laidAll Tryz.prog os Rows.composeOneUptoRow.laid, fun _ _ => 0, ⟨#[], #[.slice none 0 0, .agg #[.string ⟨#[]⟩, .string ⟨#[]⟩, .string ⟨#[]⟩, .string ⟨#[]⟩], .agg #[.string ⟨#[]⟩, .string ⟨#[]⟩, .int .i64 0]], []⟩, World.laidAll_os _ _ _, World.shaped_of_ZipB (by kernel_rfl) (by kernel_rfl), rfl,
      (Input.okWide_of_okWideB (by kernel_rfl)).2, OpenSpec.preRow_of_cond 8 hx (by kernel_rfl) (fun k hk => by cases hk; kernel_rfl) (by kernel_rfl) (laid_met os), by
        simp only [Assume.holds]
        exact ⟨by simp, by simp, by simp, by simp, by simp⟩⟩ ?_
  intro W base args ds gs before hval hW _ hc _ hL hsh _
  exact contract H enc W base .any args ds gs before (laid_of hsh hL) (of_decide_eq_true (hc _ rfl)) (fun j t v ht hv => hval j t v (by simpa using ht) (by simpa using hv)) hW

theorem said : Rows.ComposeOneUptoSaid :=
  OpenClaim.holds_of_cond 5 Tryz.f5 rfl rfl rfl rfl rfl rfl rfl ⟨rfl, rfl, rfl, rfl, rfl⟩ rfl rfl rfl rfl rfl (by kernel_rfl) Tryz.func5 (by kernel_rfl)
    (of_decide_eq_true (by kernel_rfl)) (by unfold Func.isWrapper; first | (rw [if_pos (by decide +kernel)]; kernel_rfl) | (rw [if_neg (by decide +kernel)]; exact ⟨rfl, rfl⟩))
    (fun os started H enc _ F => by rw [OpenClaim.pre_eq_preRow]; exact lifted os started H enc F)

theorem plain (f : FuncId) (fn : Func) (hf : Tryz.pinned.checked.prog.funcNamed "cubit/cubitlaw24.ComposeOne" = some f) (hfn : Tryz.pinned.checked.prog.funcs[f]? = some fn) :
    true = Tryz.pinned.checked.prog.looks [] ∧ ∀ (j : Nat) t, fn.params[j]? = some t → Tryz.pinned.checked.prog.wantsStandIn t = false := by
  obtain rfl : f = 5 := Option.some.inj ((show Tryz.prog.funcNamed "cubit/cubitlaw24.ComposeOne" = some 5 by kernel_rfl).symm.trans hf) |>.symm
  obtain rfl : fn = Tryz.f5 := (Option.some.inj (Tryz.func5.symm.trans hfn)).symm
  refine ⟨by kernel_rfl, fun j t ht => ?_⟩
  have key : (Tryz.f5.params.toList.all fun t => !Tryz.pinned.checked.prog.wantsStandIn t) = true := by kernel_rfl
  have hm : t ∈ Tryz.f5.params.toList := by
    rw [← Array.getElem?_toList] at ht
    exact List.mem_of_getElem? ht
  simpa using List.all_eq_true.1 key t hm

/-- ████ THE CARD OF ComposeOne ████ -/
theorem card : Rows.ComposeOneUptoCardSaid :=
  Claim7.holds_tied_plain_at .later [] _ _ _ _ said (fun _ h => by cases h) (by kernel_rfl) (fun _ h => by cases h) composeOneUpto_row_tie rfl ⟨rfl, rfl⟩ (by kernel_rfl) rfl plain (by kernel_rfl)
end COne
end Go.Proofs.YtmlhdhndjgdoaaaGreatDoor.cp
#print axioms Go.Proofs.YtmlhdhndjgdoaaaGreatDoor.cp.COne.card
