/- THE TIED CARD OF GenderName: prefix and power do not count: true whatever the rows, the language, the atom; what comes in reads as it did. What the row lists of the library's tables is laid as its initialisers lay it. -/
import Derived.Test.YtbppinniokmdnaaDoorCuGdN
import Derived.Test.YtbppinniokmdnaaDoorCuGdT
import Derived.Test.YtbppinniokmdnaaDoorCuRow
import Derived.Test.YtbppinniokmdnaaDoorCards
import Derived.Test.YtbppinniokmdnaaDoorTie
import Derived.WalkKit
import Derived.ProofKit
import Derived.Deep.DeepHandedRow
import Derived.Lay
import Derived.Lib.LaidU8T
namespace Go.Proofs.YtbppinniokmdnaaDoor.gd
set_option maxRecDepth 1000000
open Go.ChangeShapes Go.WideShapes Go.ChangeAt Go.RowKit
open Go.Ev (Rep allFz TyL TyAll elOfs elOf ty_slice ty_struct ty_int ty_str args_rep plainT structTs TyTs)

theorem own : ownKnob Tryd.prog.godebug = none := by kernel_rfl
theorem maxLen_cell {W : World} (h : W.ShapedOpen Tryd.prog) : ∃ m, W.cell? ⟨0, 0, none⟩ = some (.int .i64 m) := Tryd.laysM146.s1_3 W h
theorem kids : Kids Tryd.prog (· < Tryd.prog.types.size) := kids_rows (by kernel_rfl) (by kernel_rfl)
theorem full : ∀ t e, t < Tryd.prog.types.size → Tryd.prog.underlying t = some (.slice e) → 0 < Tryd.prog.cellsOf e := slices_full_of Tryd.prog (by kernel_rfl)
theorem u3 : Tryd.prog.underlying 3 = some (.int .i64) := by kernel_rfl
theorem u4 : Tryd.prog.underlying 4 = some .bool := by kernel_rfl
theorem u9 : Tryd.prog.underlying 9 = some .string := by kernel_rfl
theorem u22 : Tryd.prog.underlying 22 = some (.slice 74) := by kernel_rfl
theorem u49 : Tryd.prog.underlying 49 = some (.slice 9) := by kernel_rfl
theorem s74 : structTs Tryd.prog 74 = some [3, 49] := by kernel_rfl
theorem s24 : structTs Tryd.prog 24 = some [9, 9, 3] := by kernel_rfl
theorem a74 : Ev.aggT Tryd.prog 74 = some true := by kernel_rfl
theorem a24 : Ev.aggT Tryd.prog 24 = some true := by kernel_rfl
theorem a9 : Ev.aggT Tryd.prog 9 = some false := by kernel_rfl
theorem a3 : Ev.aggT Tryd.prog 3 = some false := by kernel_rfl
theorem a22 : Ev.aggT Tryd.prog 22 = some false := by kernel_rfl

/-- Rows that came in. -/
theorem rows_in {d : Nat} {vs : List Ev.V} (h : TyL Tryd.prog (d + 5) 22 vs) : ∃ o, vs = [.sl o] ∧ RowsT big big big o := by
  obtain ⟨o, rfl, h1⟩ := ty_slice u22 h
  refine ⟨o, rfl, fun xs hx => ?_⟩
  obtain ⟨h2, h3⟩ := h1 xs hx
  refine ⟨h2, fun x hx => ?_⟩
  obtain ⟨ys, rfl, _, h4⟩ := h3 x hx
  obtain ⟨a, b, rfl, h5, c, e, rfl, h6, rfl⟩ := ty_struct s74 h4
  obtain ⟨n, rfl, _⟩ := ty_int u3 h5
  obtain ⟨w, rfl, h7⟩ := ty_slice u49 h6
  refine ⟨n, w, by unfold elOf; rw [if_pos a74]; rfl, fun ws hw => ?_⟩
  obtain ⟨h8, h9⟩ := h7 ws hw
  refine ⟨h8, fun y hy => ?_⟩
  obtain ⟨zs, rfl, _, h10⟩ := h9 y hy
  obtain ⟨s, rfl, hs⟩ := ty_str u9 h10
  exact ⟨s, by unfold elOf; rw [if_neg (by rw [a9]; decide)]; rfl, hs⟩

theorem rep_true {S : Ev.Fz} {v : Value} (h : Rep S (.bool true) v) : v = .bool true := by cases h; rfl

namespace Name
theorem params : Tryd.f3.params.toList = [22, 9, 24, 9, 3] := by kernel_rfl
theorem k_true : ∀ sv os, gname_k sv os = some true → sv = .a (.v (.bool true)) ∧ os = [] := by
  intro sv os h
  unfold gname_k at h
  split at h
  · have h := Ev.dTy_ok h
    split at h
    · cases h; exact ⟨rfl, rfl⟩
    · cases h
  · cases h

theorem contract (H : Type) (enc : TypeId × Value → H) (W : World) (base : Nat) (r : Reach) (args : Array Value) (ds gs : List (DataW H)) (before : List MemPlace) (hL : Laid W)
    (hval : ∀ (j : Nat) t v, Tryd.f3.params.toList[j]? = some t → args.toList[j]? = some v → Value.okWide Tryd.prog W r base t v)
    (hW : DataW.Whole enc Tryd.prog Tryd.f3.params.toList Rows.genderNameSpec.vars false W args.toList ds gs before) :
    Calls Tryd.prog 3 args W fun e W' => ∃ v, e = .returned v ∧ Rows.genderNameSpec.post enc Tryd.prog Tryd.f3 false true false false W args v W' := by
  have hW' := hW
  obtain ⟨p, q, hA, hV, rfl, _, _⟩ := hW
  obtain ⟨rfl, rfl⟩ := trodVars_none hV
  have hpl : ∀ t ∈ Tryd.f3.params.toList, plainT Tryd.prog 8 t = true := by
    have : (Tryd.f3.params.toList.all fun t => plainT Tryd.prog 8 t) = true := by kernel_rfl
    exact List.all_eq_true.1 this
  have hsz : ∀ t ∈ Tryd.f3.params.toList, t < Tryd.prog.types.size := by
    have : (Tryd.f3.params.toList.all fun t => decide (t < Tryd.prog.types.size)) = true := by kernel_rfl
    exact fun t ht => by simpa using List.all_eq_true.1 this t ht
  obtain ⟨vss, h1, h2, h3⟩ := args_rep (G := Gw W) 8 _ _ _ _ hpl hval hA
  rw [params] at h1 h2 h3
  obtain ⟨a0, r0, rfl, t0, h1⟩ := Ev.ty_cons h1
  obtain ⟨a1, r1, rfl, t1, h1⟩ := Ev.ty_cons h1
  obtain ⟨a2, r2, rfl, t2, h1⟩ := Ev.ty_cons h1
  obtain ⟨a3, r3, rfl, t3, h1⟩ := Ev.ty_cons h1
  obtain ⟨a4, r4, rfl, t4, h1⟩ := Ev.ty_cons h1
  obtain rfl := Ev.ty_nil h1
  obtain ⟨o, rfl, ho⟩ := rows_in t0
  obtain ⟨lang, rfl, _⟩ := ty_str u9 t1
  obtain ⟨x, y, rfl, t21, z, y2, rfl, t22, k1, y3, rfl, t23, rfl⟩ := ty_struct s24 t2
  obtain ⟨pre, rfl, _⟩ := ty_str u9 t21
  obtain ⟨name, rfl, _⟩ := ty_str u9 t22
  obtain ⟨pw, rfl, _⟩ := ty_int u3 t23
  obtain ⟨pre', rfl, _⟩ := ty_str u9 t3
  obtain ⟨pw', rfl, _⟩ := ty_int u3 t4
  have hargs : elOfs Tryd.prog [22, 9, 24, 9, 3] [[.sl o], [.str lang], [.str pre] ++ ([.str name] ++ ([.int .i64 pw] ++ [])), [.str pre'], [.int .i64 pw']] = [.sl o, .str lang, .agg [.str pre, .str name, .int .i64 pw], .str pre', .int .i64 pw'] := by
    simp only [elOfs, elOf, a22, a9, a24, a3]; rfl
  rw [hargs] at h2
  have hq := congrFun (congrFun (congrFun (congrFun (congrFun (congrFun (congrFun gname_q o) lang) pre) name) pw) pre') pw'
  rw [gname_true ho] at hq
  have hc := Ev.calls_of_st (G := Gw W) (args := [.sl o, .str lang, .agg [.str pre, .str name, .int .i64 pw], .str pre', .int .i64 pw']) mixed (tab0_15_ok hL) tab0_15_binds code_ok hq k_true (Gw_ok W) h2
  have ha : args.toList.toArray = args := by simp
  rw [ha] at hc
  refine hc.mono fun e W' he => ?_
  obtain ⟨v, S', rfl, hr, hb⟩ := he
  rw [rep_true hr]
  refine ⟨_, rfl, ?_⟩
  match ds, h3 with
  | [d0, d1, d2, d3, d4], _ =>
    exact law_post hW' kids full hsz rfl (by kernel_rfl) u4 rfl rfl rfl hb

theorem laid_met (os : Os) : laidMet Tryd.prog Rows.genderNameRow.laid ((World.laidAll Tryd.prog os Rows.genderNameRow.laid).forCall (fun _ _ => 0) ⟨#[], #[.slice none 0 0, .string ⟨#[]⟩, .agg #[.string ⟨#[]⟩, .string ⟨#[]⟩, .int .i64 0], .string ⟨#[]⟩, .int .i64 0], []⟩).memory :=
  laidMet_laidAll _ (by kernel_rfl) (by kernel_rfl)
theorem reads (os : Os) {H : Type} (enc : TypeId × Value → H) : ∃ places, DataW.whole enc Tryd.prog ((World.laidAll Tryd.prog os Rows.genderNameRow.laid).forCall (fun _ _ => 0) ⟨#[], #[.slice none 0 0, .string ⟨#[]⟩, .agg #[.string ⟨#[]⟩, .string ⟨#[]⟩, .int .i64 0], .string ⟨#[]⟩, .int .i64 0], []⟩).memory Tryd.f3.params.toList Rows.genderNameSpec.vars false (#[.slice none 0 0, .string ⟨#[]⟩, .agg #[.string ⟨#[]⟩, .string ⟨#[]⟩, .int .i64 0], .string ⟨#[]⟩, .int .i64 0] : Array Value).toList 8 = some ([.nil, .lit (.string []), .agg [.lit (.string []), .lit (.string []), .lit (.int .i64 0)], .lit (.string []), .lit (.int .i64 0)], [], places) :=
  ⟨[], by kernel_rfl⟩

theorem laid_of {W : World} (hsh : W.ShapedOpen Tryd.prog) (hL : laidMet Tryd.prog Rows.genderNameRow.laid W) : Laid W :=
  ⟨maxLen_cell hsh, utf8Tabs_of_readsT (ρ := Tryd.lays271_ren) { Tryd.lays271 with } ⟨by kernel_rfl, by kernel_rfl, by kernel_rfl, by kernel_rfl, by kernel_rfl, by kernel_rfl, by kernel_rfl⟩ (Lib.laidMet.reads hL (.tail _ (.head _))) (Lib.laidMet.reads hL (.head _))⟩

set_option maxRecDepth 1000000 in
theorem lifted (os : Os) (started : os.Started) (H : Type) (enc : TypeId × Value → H) (F : Stop.Interp) :
    ReturnsInHanded {} Tryd.checked os 3 .any ((OpenSpec.ofChange Rows.genderNameSpec).preRow enc Tryd.prog Tryd.f3 Rows.genderNameRow.domain false Rows.genderNameRow.laid) (((OpenSpec.ofChange Rows.genderNameSpec).at F).post enc Tryd.prog Tryd.f3 false true false false) := by
  obtain ⟨places, hx⟩ := reads os enc
  refine returnsInHanded_of_row (C := Tryd.checked) (s := OpenSpec.ofChange Rows.genderNameSpec) own started (by kernel_rfl) Tryd.func3
    ⟨World.laidAll Tryd.prog os Rows.genderNameRow.laid, fun _ _ => 0, ⟨#[], #[.slice none 0 0, .string ⟨#[]⟩, .agg #[.string ⟨#[]⟩, .string ⟨#[]⟩, .int .i64 0], .string ⟨#[]⟩, .int .i64 0], []⟩, World.laidAll_os _ _ _, World.shaped_of_ZipB (by kernel_rfl) (by kernel_rfl), rfl,
      (Input.okWide_of_okWideB (by kernel_rfl)).2, OpenSpec.preRow_of_cond 8 hx (by kernel_rfl) (fun k hk => by cases hk) (by kernel_rfl) (laid_met os), by
        simp only [Assume.holds]
        exact ⟨by simp, by simp, by simp, by simp, by simp⟩⟩ ?_
  intro W base args ds gs before hval hW _ _ _ hL hsh _
  exact contract H enc W base .any args ds gs before (laid_of hsh hL) (fun j t v ht hv => hval j t v (by simpa using ht) (by simpa using hv)) hW

theorem said : Rows.GenderNameSaid :=
  OpenClaim.holds_of_cond 3 Tryd.f3 rfl rfl rfl rfl rfl rfl rfl ⟨rfl, rfl, rfl, rfl, rfl⟩ rfl rfl rfl rfl rfl (by kernel_rfl) Tryd.func3 (by kernel_rfl)
    (of_decide_eq_true (by kernel_rfl)) (by unfold Func.isWrapper; first | (rw [if_pos (by decide +kernel)]; kernel_rfl) | (rw [if_neg (by decide +kernel)]; exact ⟨rfl, rfl⟩))
    (fun os started H enc _ F => by rw [OpenClaim.pre_eq_preRow]; exact lifted os started H enc F)

theorem plain (f : FuncId) (fn : Func) (hf : Tryd.pinned.checked.prog.funcNamed "cubit/cubitlaw23.GenderName" = some f) (hfn : Tryd.pinned.checked.prog.funcs[f]? = some fn) :
    false = Tryd.pinned.checked.prog.looks [] ∧ ∀ (j : Nat) t, fn.params[j]? = some t → Tryd.pinned.checked.prog.wantsStandIn t = false := by
  obtain rfl : f = 3 := Option.some.inj ((show Tryd.prog.funcNamed "cubit/cubitlaw23.GenderName" = some 3 by kernel_rfl).symm.trans hf) |>.symm
  obtain rfl : fn = Tryd.f3 := (Option.some.inj (Tryd.func3.symm.trans hfn)).symm
  refine ⟨by kernel_rfl, fun j t ht => ?_⟩
  have key : (Tryd.f3.params.toList.all fun t => !Tryd.pinned.checked.prog.wantsStandIn t) = true := by kernel_rfl
  have hm : t ∈ Tryd.f3.params.toList := by
    rw [← Array.getElem?_toList] at ht
    exact List.mem_of_getElem? ht
  simpa using List.all_eq_true.1 key t hm

/-- ████ THE CARD OF GenderName ████ -/
theorem card : Rows.GenderNameCardSaid :=
  Claim7.holds_tied_plain_at .later [] _ _ _ _ said (fun _ h => by cases h) (by kernel_rfl) (fun _ h => by cases h) genderName_row_tie rfl ⟨rfl, rfl⟩ (by kernel_rfl) rfl plain (by kernel_rfl)
end Name
end Go.Proofs.YtbppinniokmdnaaDoor.gd
#print axioms Go.Proofs.YtbppinniokmdnaaDoor.gd.Name.card
