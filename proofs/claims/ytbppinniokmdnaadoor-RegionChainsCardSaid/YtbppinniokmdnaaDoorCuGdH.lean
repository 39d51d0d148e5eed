/- What the rows share. -/
import Derived.Test.YtbppinniokmdnaaDoorCuGdT
import Derived.Test.YtbppinniokmdnaaDoorCuGdN
import Derived.Test.YtbppinniokmdnaaDoorCuRow
import Derived.Test.YtbppinniokmdnaaDoorCards
import Derived.Test.YtbppinniokmdnaaDoorTie
import Derived.WalkKit
import Derived.ProofKit
import Derived.Deep.DeepHandedRow
import Derived.Lay
import Derived.Lib.LaidU8T
namespace Go.Proofs.YtbppinniokmdnaaDoor.gd
set_option maxRecDepth 1000000
open Go.ChangeShapes Go.WideShapes Go.ChangeAt Go.RowKit
open Go.Ev (Rep allFz TyL TyAll elOfs elOf ty_slice ty_struct ty_int ty_str args_rep plainT structTs TyTs)

theorem own : ownKnob Tryd.prog.godebug = none := by kernel_rfl
theorem maxLen_cell {W : World} (h : W.ShapedOpen Tryd.prog) : ∃ m, W.cell? ⟨0, 0, none⟩ = some (.int .i64 m) := Tryd.laysM146.s1_3 W h
theorem kids : Kids Tryd.prog (· < Tryd.prog.types.size) := kids_rows (by kernel_rfl) (by kernel_rfl)
theorem full : ∀ t e, t < Tryd.prog.types.size → Tryd.prog.underlying t = some (.slice e) → 0 < Tryd.prog.cellsOf e := slices_full_of Tryd.prog (by kernel_rfl)
theorem u3 : Tryd.prog.underlying 3 = some (.int .i64) := by kernel_rfl
theorem u4 : Tryd.prog.underlying 4 = some .bool := by kernel_rfl
theorem u9 : Tryd.prog.underlying 9 = some .string := by kernel_rfl
theorem u22 : Tryd.prog.underlying 22 = some (.slice 74) := by kernel_rfl
theorem u49 : Tryd.prog.underlying 49 = some (.slice 9) := by kernel_rfl
theorem s74 : structTs Tryd.prog 74 = some [3, 49] := by kernel_rfl
theorem s24 : structTs Tryd.prog 24 = some [9, 9, 3] := by kernel_rfl
theorem a74 : Ev.aggT Tryd.prog 74 = some true := by kernel_rfl
theorem a24 : Ev.aggT Tryd.prog 24 = some true := by kernel_rfl
theorem a9 : Ev.aggT Tryd.prog 9 = some false := by kernel_rfl
theorem a3 : Ev.aggT Tryd.prog 3 = some false := by kernel_rfl
theorem a22 : Ev.aggT Tryd.prog 22 = some false := by kernel_rfl

/-- Rows that came in. -/
theorem rows_in {d : Nat} {vs : List Ev.V} (h : TyL Tryd.prog (d + 5) 22 vs) : ∃ o, vs = [.sl o] ∧ RowsT big big big o := by
  obtain ⟨o, rfl, h1⟩ := ty_slice u22 h
  refine ⟨o, rfl, fun xs hx => ?_⟩
  obtain ⟨h2, h3⟩ := h1 xs hx
  refine ⟨h2, fun x hx => ?_⟩
  obtain ⟨ys, rfl, _, h4⟩ := h3 x hx
  obtain ⟨a, b, rfl, h5, c, e, rfl, h6, rfl⟩ := ty_struct s74 h4
  obtain ⟨n, rfl, _⟩ := ty_int u3 h5
  obtain ⟨w, rfl, h7⟩ := ty_slice u49 h6
  refine ⟨n, w, by unfold elOf; rw [if_pos a74]; rfl, fun ws hw => ?_⟩
  obtain ⟨h8, h9⟩ := h7 ws hw
  refine ⟨h8, fun y hy => ?_⟩
  obtain ⟨zs, rfl, _, h10⟩ := h9 y hy
  obtain ⟨s, rfl, hs⟩ := ty_str u9 h10
  exact ⟨s, by unfold elOf; rw [if_neg (by rw [a9]; decide)]; rfl, hs⟩

theorem rep_true {S : Ev.Fz} {v : Value} (h : Rep S (.bool true) v) : v = .bool true := by cases h; rfl

end Go.Proofs.YtbppinniokmdnaaDoor.gd
