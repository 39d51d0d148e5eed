/- The library's functions that the laws of genders meet, told by their contracts. -/
import Derived.Test.YtmlhdhndjgdoaaaDoorCuCut
import Derived.Test.YtmlhdhndjgdoaaaDoorCuTl2
import Derived.Test.YtmlhdhndjgdoaaaDoorCuGsB
import Derived.Test.YtmlhdhndjgdoaaaDoorCuNat
import Derived.Test.YtmlhdhndjgdoaaaDoorCuGend
namespace Go.Proofs.YtmlhdhndjgdoaaaDoor.gs
open Go Go.Ev Go.RowKit

/-- What must be laid. -/
structure Laid (W : World) : Prop where
  maxLen : ∃ m, W.cell? ⟨1, 0, none⟩ = some (.int .i64 m)
  tabs : Lib.Utf8Tabs 2 3 W
  pow : Lib.TabIs Tryd.prog W "internal/strconv.uint64pow10" .u64 Lib.pow10Tab
noncomputable def tab0 : ToldK := addTo (addTo (addTo (addTo (addTo (addTo (addTo (addTo noTold 35 spl_e) 50 dlr_e) 34 sJoin_e) 32 sRepeat_e) 31 itoa_e) 55 (ccE 99)) 47 (bsE 99 5)) 34 jnE
theorem tab0_binds : Binds tab0 :=
  objE_binds (objE_binds (objE_binds (lib_binds (lib_binds (lib_binds (lib_binds (lib_binds noTold_binds spl_l) dlr_l) sJoin_l) sRepeat_l) itoa_l) (cc_l 99)) (bs_l 99 5)) jn_l
theorem tab0_ok {W : World} (hL : Laid W) : CallOK Tryd.prog (Gw W) (toE tab0) :=
  objE_ok (objE_ok (objE_ok (lib_ok (lib_ok (lib_ok (lib_ok (lib_ok noTold_ok
    (split_ok (body_of 35 Tryd.f35 Tryd.func35 (by kernel_rfl)) (by decide) hL.maxLen Tryd.strings_Split) spl_l)
    (dlr_ok (body_of 50 Tryd.f50 Tryd.func50 (by kernel_rfl)) (by decide) (by decide) hL.tabs Tryd.utf8_DecodeLastRuneInString) dlr_l)
    (sJoin_ok (body_of 34 Tryd.f34 Tryd.func34 (by kernel_rfl)) Tryd.strings_Join_none Tryd.strings_Join) sJoin_l)
    (sRepeat_ok (body_of 32 Tryd.f32 Tryd.func32 (by kernel_rfl)) Tryd.strings_Repeat) sRepeat_l)
    (itoa_ok (body_of 31 Tryd.f31 Tryd.func31 (by kernel_rfl)) (nm := "internal/strconv.uint64pow10") (g0 := 0) (by kernel_rfl) (by decide) hL.pow fun n w h0 h1 h2 => Tryd.strconv_Itoa n h0 h1 w h2) itoa_l)
    (cc_ok (body_of 55 Tryd.f55 Tryd.func55 (by kernel_rfl)) cc_fresh cc_used) (cc_l 99))
    (bs_ok (body_of 47 Tryd.f47 Tryd.func47 (by kernel_rfl)) (Builder_String_row Tryd.lays169 Tryd.Builder_Extra_169) fun b p w h => Any.Builder_String_nil Tryd.lays169 Tryd.Builder_Extra_169 w.heap.size b p w h) (bs_l 99 5))
    (sJoin_ok (body_of 34 Tryd.f34 Tryd.func34 (by kernel_rfl)) Tryd.strings_Join_none Tryd.strings_Join) jn_l
end Go.Proofs.YtmlhdhndjgdoaaaDoor.gs
