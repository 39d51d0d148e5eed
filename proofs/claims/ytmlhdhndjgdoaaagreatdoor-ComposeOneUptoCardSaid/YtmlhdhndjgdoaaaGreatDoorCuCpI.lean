/- What comes in: rows, How, an atom. -/
import Derived.Test.YtmlhdhndjgdoaaaGreatDoorCuCpH
import Derived.Test.YtmlhdhndjgdoaaaGreatDoorCuCpO
namespace Go.Proofs.YtmlhdhndjgdoaaaGreatDoor.cp
set_option maxRecDepth 1000000
open Go.ChangeShapes Go.WideShapes Go.ChangeAt Go.RowKit
open Go.Ev (Rep allFz TyL TyAll elOfs elOf ty_slice ty_struct ty_int ty_str args_rep plainT structTs TyTs RowsT big)
theorem u3 : Tryz.prog.underlying 3 = some (.int .i64) := by kernel_rfl
theorem u31 : Tryz.prog.underlying 31 = some (.slice 64) := by kernel_rfl
theorem u62 : Tryz.prog.underlying 62 = some (.slice 9) := by kernel_rfl
theorem s64 : structTs Tryz.prog 64 = some [3, 62] := by kernel_rfl
theorem s33 : structTs Tryz.prog 33 = some [9, 9, 9, 9] := by kernel_rfl
theorem s27 : structTs Tryz.prog 27 = some [9, 9, 3] := by kernel_rfl
theorem a64 : Ev.aggT Tryz.prog 64 = some true := by kernel_rfl
theorem a33 : Ev.aggT Tryz.prog 33 = some true := by kernel_rfl
theorem a27 : Ev.aggT Tryz.prog 27 = some true := by kernel_rfl
theorem a31 : Ev.aggT Tryz.prog 31 = some false := by kernel_rfl
theorem rows_in {d : Nat} {vs : List Ev.V} (h : TyL Tryz.prog (d + 5) 31 vs) : ∃ o, vs = [.sl o] ∧ RowsT big big big o := by
  obtain ⟨o, rfl, h1⟩ := ty_slice u31 h
  refine ⟨o, rfl, fun xs hx => ?_⟩
  obtain ⟨h2, h3⟩ := h1 xs hx
  refine ⟨h2, fun x hx => ?_⟩
  obtain ⟨ys, rfl, _, h4⟩ := h3 x hx
  obtain ⟨a, b, rfl, h5, c, e, rfl, h6, rfl⟩ := ty_struct s64 h4
  obtain ⟨n, rfl, _⟩ := ty_int u3 h5
  obtain ⟨w, rfl, h7⟩ := ty_slice u62 h6
  refine ⟨n, w, by unfold elOf; rw [if_pos a64]; rfl, fun ws hw => ?_⟩
  obtain ⟨h8, h9⟩ := h7 ws hw
  refine ⟨h8, fun y hy => ?_⟩
  obtain ⟨zs, rfl, _, h10⟩ := h9 y hy
  obtain ⟨s, rfl, hs⟩ := ty_str u9 h10
  exact ⟨s, by unfold elOf; rw [if_neg (by rw [a9]; decide)]; rfl, hs⟩
theorem atom_in {d : Nat} {vs : List Ev.V} (h : TyL Tryz.prog (d + 2) 27 vs) : ∃ p n k, vs = [.str p, .str n, .int .i64 k] ∧ (-9223372036854775808 ≤ k ∧ k ≤ 9223372036854775807) := by
  obtain ⟨a, b, rfl, h1, c, e, rfl, h2, f, g, rfl, h3, rfl⟩ := ty_struct s27 h
  obtain ⟨p, rfl, _⟩ := ty_str u9 h1
  obtain ⟨n, rfl, _⟩ := ty_str u9 h2
  obtain ⟨k, rfl, hk⟩ := ty_int u3 h3
  refine ⟨p, n, k, rfl, ?_⟩
  have e0 : IntKind.min .i64 = -9223372036854775808 := rfl
  have e1 : IntKind.max .i64 = 9223372036854775807 := rfl
  simp only [Lit.wf, Bool.and_eq_true, decide_eq_true_eq, e0, e1] at hk
  exact hk
theorem how_in {d : Nat} {vs : List Ev.V} (h : TyL Tryz.prog (d + 2) 33 vs) : ∃ a b c e, vs = [.str a, .str b, .str c, .str e] := by
  obtain ⟨a, b, rfl, h1, c, e, rfl, h2, f, g, rfl, h3, i, j, rfl, h4, rfl⟩ := ty_struct s33 h
  obtain ⟨p, rfl, _⟩ := ty_str u9 h1
  obtain ⟨n, rfl, _⟩ := ty_str u9 h2
  obtain ⟨q, rfl, _⟩ := ty_str u9 h3
  obtain ⟨r, rfl, _⟩ := ty_str u9 h4
  exact ⟨p, n, q, r, rfl⟩
/-! The bulk of what is read. -/
section
variable {H : Type}
mutual
theorem bulk_eq : ∀ d : DataW H, Rows.uptoBulk d = Ev.bulkD d
  | .lit (.string bytes) => rfl
  | .lit (.bool _) => rfl
  | .lit (.int _ _) => rfl
  | .lit (.float _ _) => rfl
  | .lit .nil => rfl
  | .nil => rfl
  | .ptr d => congrArg (· + 1) (bulk_eq d)
  | .slice elems spare => by simp only [Rows.uptoBulk, Ev.bulkD, bulks_eq elems, bulks_eq spare]
  | .agg parts => congrArg (· + 1) (bulks_eq parts)
  | .iface _ d => congrArg (· + 1) (bulk_eq d)
  | .map entries => congrArg (· + 1) (bulkEs_eq entries)
  | .held _ => rfl
theorem bulks_eq : ∀ ds : List (DataW H), Rows.uptoBulkAll ds = Ev.bulkDs ds
  | [] => rfl
  | d :: r => by simp only [Rows.uptoBulkAll, Ev.bulkDs, bulk_eq d, bulks_eq r]
theorem bulkEs_eq : ∀ es : List (Lit × DataW H), Rows.uptoBulkEntries es = Ev.bulkEs es
  | [] => rfl
  | x :: r => by simp only [Rows.uptoBulkEntries, Ev.bulkEs, bulkE_eq x, bulkEs_eq r]
theorem bulkE_eq : ∀ x : Lit × DataW H, Rows.uptoBulkEntry x = Ev.bulkE x
  | (.string bytes, d) => by simp only [Rows.uptoBulkEntry, Ev.bulkE, bulk_eq d]
  | (.bool _, d) => by simp only [Rows.uptoBulkEntry, Ev.bulkE, bulk_eq d]
  | (.int _ _, d) => by simp only [Rows.uptoBulkEntry, Ev.bulkE, bulk_eq d]
  | (.float _ _, d) => by simp only [Rows.uptoBulkEntry, Ev.bulkE, bulk_eq d]
  | (.nil, d) => by simp only [Rows.uptoBulkEntry, Ev.bulkE, bulk_eq d]
end
end
/-- ComposeOne is true of what is of no greater bulk. -/
theorem one_small {o : Option (List Ev.V)} (ho : RowsT big big big o) (l wd c k a5 a6 : List UInt8) (a7 : Int) (h7 : -9223372036854775808 ≤ a7 ∧ a7 ≤ 9223372036854775807)
    (hbk : Ev.vszs [.sl o, .agg [.str l, .str wd, .str c, .str k], .agg [.str a5, .str a6, .int .i64 a7]] ≤ 1048576) : lone o l wd c k a5 a6 a7 = some true := by
  simp only [Ev.vszs, Ev.vsz] at hbk
  exact lone_true o ho l wd c k a5 a6 a7 h7 (by omega)
end Go.Proofs.YtmlhdhndjgdoaaaGreatDoor.cp
