/- What the rows share. -/
import Derived.Test.YtmlhdhndjgdoaaaGreatDoorCuCpT
import Derived.Test.YtmlhdhndjgdoaaaGreatDoorCuRow
import Derived.Test.YtmlhdhndjgdoaaaGreatDoorCuRe2
import Derived.Test.YtmlhdhndjgdoaaaGreatDoorCuRw
import Derived.Test.YtmlhdhndjgdoaaaGreatDoorCards
import Derived.Test.YtmlhdhndjgdoaaaGreatDoorTie
import Derived.WalkKit
import Derived.ProofKit
import Derived.Deep.DeepHandedRow
import Derived.Lay
import Derived.Lib.LaidU8T
namespace Go.Proofs.YtmlhdhndjgdoaaaGreatDoor.cp
set_option maxRecDepth 1000000
open Go.ChangeShapes Go.WideShapes Go.ChangeAt Go.RowKit
open Go.Ev (Rep allFz TyL TyAll elOfs elOf ty_slice ty_struct ty_int ty_str args_rep plainT structTs TyTs)

theorem own : ownKnob Tryz.prog.godebug = none := by kernel_rfl
theorem maxLen_cell {W : World} (h : W.ShapedOpen Tryz.prog) : ∃ m, W.cell? ⟨0, 0, none⟩ = some (.int .i64 m) := Tryz.laysM146.s1_3 W h
theorem kids : Kids Tryz.prog (· < Tryz.prog.types.size) := kids_rows (by kernel_rfl) (by kernel_rfl)
theorem full : ∀ t e, t < Tryz.prog.types.size → Tryz.prog.underlying t = some (.slice e) → 0 < Tryz.prog.cellsOf e := slices_full_of Tryz.prog (by kernel_rfl)
theorem u4 : Tryz.prog.underlying 4 = some .bool := by kernel_rfl
theorem u9 : Tryz.prog.underlying 9 = some .string := by kernel_rfl
theorem a9 : Ev.aggT Tryz.prog 9 = some false := by kernel_rfl
theorem rep_true {S : Ev.Fz} {v : Value} (h : Rep S (.bool true) v) : v = .bool true := by cases h; rfl

/-- The list that all rows of this seat bear. -/
theorem laid_from {W : World} {l : List (String × DataW Unit)} (hsh : W.ShapedOpen Tryz.prog) (hL : laidMet Tryz.prog l W)
    (h1 : ("unicode/utf8.first", Rows.laid_unicode_utf8_first) ∈ l) (h2 : ("unicode/utf8.acceptRanges", Rows.laid_unicode_utf8_acceptRanges) ∈ l) (h3 : ("internal/strconv.uint64pow10", Rows.laid_internal_strconv_uint64pow10) ∈ l)
    (h4 : ("strconv.ErrSyntax", Rows.laid_strconv_ErrSyntax) ∈ l) (h5 : ("strconv.ErrRange", Rows.laid_strconv_ErrRange) ∈ l) : Laid W :=
  ⟨maxLen_cell hsh, utf8Tabs_of_readsT (ρ := Tryz.lays271_ren) { Tryz.lays271 with } ⟨by kernel_rfl, by kernel_rfl, by kernel_rfl, by kernel_rfl, by kernel_rfl, by kernel_rfl, by kernel_rfl⟩ (Lib.laidMet.reads hL h1) (Lib.laidMet.reads hL h2),
    Ev.tabIs_of_reads (g := 3) (t := 165) (e := 30) (n := 20) (by kernel_rfl) (by kernel_rfl) (by kernel_rfl) (by kernel_rfl) (by kernel_rfl) (by kernel_rfl) (Lib.laidMet.reads hL h3) (by kernel_rfl),
    Ev.errVar_of_reads (by kernel_rfl) (by kernel_rfl) (Lib.laidMet.reads hL h4), Ev.errVar_of_reads (by kernel_rfl) (by kernel_rfl) (Lib.laidMet.reads hL h5)⟩
end Go.Proofs.YtmlhdhndjgdoaaaGreatDoor.cp
