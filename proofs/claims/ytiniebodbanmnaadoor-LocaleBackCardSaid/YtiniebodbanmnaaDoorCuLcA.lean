/- The library's functions that the laws of locales meet, told by their contracts. -/
import Derived.Test.YtiniebodbanmnaaDoorCuCut
import Derived.Test.YtiniebodbanmnaaDoorShelf
import Derived.KernelRfl
namespace Go.Proofs.YtiniebodbanmnaaDoor.lc
open Go Go.Ev Go.RowKit

/-- What must be laid. -/
structure Laid (W : World) : Prop where
  maxLen : ∃ m, W.cell? ⟨0, 0, none⟩ = some (.int .i64 m)
  tabs : Lib.Utf8Tabs 2 3 W
noncomputable def tab0 : ToldK := addTo (addTo (addTo (addTo noTold 11 spl_e) 38 dlr_e) 19 upr_e) 20 lwr_e
theorem tab0_binds : Binds tab0 := lib_binds (lib_binds (lib_binds (lib_binds noTold_binds spl_l) dlr_l) upr_l) lwr_l
theorem tab0_ok {W : World} (hL : Laid W) : CallOK Tryd.prog (Gw W) (toE tab0) :=
  lib_ok (lib_ok (lib_ok (lib_ok noTold_ok
    (split_ok (body_of 11 Tryd.f11 Tryd.func11 (by kernel_rfl)) (by decide) hL.maxLen Tryd.strings_Split) spl_l)
    (dlr_ok (body_of 38 Tryd.f38 Tryd.func38 (by kernel_rfl)) (by decide) (by decide) hL.tabs Tryd.utf8_DecodeLastRuneInString) dlr_l)
    (upr_ok (body_of 19 Tryd.f19 Tryd.func19 (by kernel_rfl)) Tryd.strings_ToUpper_ascii) upr_l)
    (lwr_ok (body_of 20 Tryd.f20 Tryd.func20 (by kernel_rfl)) Tryd.strings_ToLower_ascii) lwr_l
end Go.Proofs.YtiniebodbanmnaaDoor.lc
