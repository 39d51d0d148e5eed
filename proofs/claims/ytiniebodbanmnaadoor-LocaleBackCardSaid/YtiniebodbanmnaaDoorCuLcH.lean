/- What the rows share. -/
import Derived.Test.YtiniebodbanmnaaDoorCuLcT
import Derived.Test.YtiniebodbanmnaaDoorCuRow
import Derived.Test.YtiniebodbanmnaaDoorCards
import Derived.Test.YtiniebodbanmnaaDoorTie
import Derived.WalkKit
import Derived.ProofKit
import Derived.Deep.DeepHandedRow
import Derived.Lay
import Derived.Lib.LaidU8T
namespace Go.Proofs.YtiniebodbanmnaaDoor.lc
set_option maxRecDepth 1000000
open Go.ChangeShapes Go.WideShapes Go.ChangeAt Go.RowKit
open Go.Ev (Rep allFz TyL TyAll elOfs elOf ty_slice ty_struct ty_int ty_str args_rep plainT structTs TyTs)

theorem own : ownKnob Tryd.prog.godebug = none := by kernel_rfl
theorem maxLen_cell {W : World} (h : W.ShapedOpen Tryd.prog) : ∃ m, W.cell? ⟨0, 0, none⟩ = some (.int .i64 m) := Tryd.laysM146.s1_3 W h
theorem kids : Kids Tryd.prog (· < Tryd.prog.types.size) := kids_rows (by kernel_rfl) (by kernel_rfl)
theorem full : ∀ t e, t < Tryd.prog.types.size → Tryd.prog.underlying t = some (.slice e) → 0 < Tryd.prog.cellsOf e := slices_full_of Tryd.prog (by kernel_rfl)
theorem u4 : Tryd.prog.underlying 4 = some .bool := by kernel_rfl
theorem u9 : Tryd.prog.underlying 9 = some .string := by kernel_rfl
theorem a9 : Ev.aggT Tryd.prog 9 = some false := by kernel_rfl
theorem rep_true {S : Ev.Fz} {v : Value} (h : Rep S (.bool true) v) : v = .bool true := by cases h; rfl
end Go.Proofs.YtiniebodbanmnaaDoor.lc
