/- The library's functions that the laws of names put together meet, told by their contracts. -/
import Derived.Test.YtmlhdhndjgdoaaaGreatDoorCuCut
import Derived.Test.YtmlhdhndjgdoaaaGreatDoorCuCmpD
import Derived.Test.YtmlhdhndjgdoaaaGreatDoorCuCpB
namespace Go.Proofs.YtmlhdhndjgdoaaaGreatDoor.cp
open Go Go.Ev Go.RowKit

/-- What must be laid. -/
structure Laid (W : World) : Prop where
  maxLen : ∃ m, W.cell? ⟨0, 0, none⟩ = some (.int .i64 m)
  tabs : Lib.Utf8Tabs 1 2 W
  pow : Lib.TabIs Tryz.prog W "internal/strconv.uint64pow10" .u64 Lib.pow10Tab
  errS : ErrVar W 4
  errR : ErrVar W 5
theorem atoi_bad (s : ByteArray) (ev : Value) (w : World) (h1 : s.size ≤ 281474976710656) (n1 : ∀ v, Lib.atoiAll s.data.toList ≠ .ok v) (n2 : Lib.atoiAll s.data.toList ≠ .range) (h3 : w.cell? ⟨4, 0, none⟩ = some ev) (h4 : ev = .nilIface ∨ ∃ te pe, ev = .iface te pe) :
    Calls Tryz.prog 86 #[.string s] w fun e w' => ∃ N, e = .returned (.tuple #[.int .i64 (0), .iface 172 (.pointer (some ⟨N, 0, none⟩))]) ∧ w.heap.size ≤ N ∧ w'.heap[N]? = some (.cells #[.string ⟨#[65, 116, 111, 105]⟩, .string s, ev] 179 (0, 0)) ∧ Below w.heap.size w w' := by
  cases h : Lib.atoiAll s.data.toList with
  | ok v => exact absurd h (n1 v)
  | range => exact absurd h n2
  | _ => exact Any.strconv_Atoi_syntax Tryz.laysC172 s h1 h ev w h3 h4
noncomputable abbrev atoi := atoiT 172
noncomputable abbrev pkey172 := Go.Ev.pkeyT 172
noncomputable abbrev pload172 := Go.Ev.ploadT 172
noncomputable def tab0 : ToldK := addTo (addTo (addTo (addTo (addTo (addTo (addTo (addTo (addTo (addTo (addTo (addTo (addTo noTold 68 spl_e) 74 dlr_e) 21 repl_e) 87 replAll_e) 32 sContains_e) 48 sCount_e) 62 sJoin_e) 65 sRepeat_e) 22 itoa_e) 86 (atoi_e 172)) 77 (ccE 101)) 53 (bsE 101 5)) 62 jnE
theorem tab0_binds : Binds tab0 :=
  objE_binds (objE_binds (objE_binds (lib_binds (lib_binds (lib_binds (lib_binds (lib_binds (lib_binds (lib_binds (lib_binds (lib_binds (lib_binds noTold_binds spl_l) dlr_l) repl_l) replAll_l) sContains_l) sCount_l) sJoin_l) sRepeat_l) itoa_l) (atoi_l 172)) (cc_l 101)) (bs_l 101 5)) jn_l
theorem tab0_ok {W : World} (hL : Laid W) : CallOK Tryz.prog (Gw W) (toE tab0) :=
  objE_ok (objE_ok (objE_ok (lib_ok (lib_ok (lib_ok (lib_ok (lib_ok (lib_ok (lib_ok (lib_ok (lib_ok (lib_ok noTold_ok
    (split_ok (body_of 68 Tryz.f68 Tryz.func68 (by kernel_rfl)) (by decide) hL.maxLen Tryz.strings_Split) spl_l)
    (dlr_ok (body_of 74 Tryz.f74 Tryz.func74 (by kernel_rfl)) (by decide) (by decide) hL.tabs Tryz.utf8_DecodeLastRuneInString) dlr_l)
    (repl_ok (body_of 21 Tryz.f21 Tryz.func21 (by kernel_rfl)) (by decide) hL.maxLen Tryz.strings_Replace) repl_l)
    (replAll_ok (body_of 87 Tryz.f87 Tryz.func87 (by kernel_rfl)) (by decide) hL.maxLen Tryz.strings_ReplaceAll) replAll_l)
    (sContains_ok (body_of 32 Tryz.f32 Tryz.func32 (by kernel_rfl)) (by decide) hL.maxLen Tryz.strings_Contains) sContains_l)
    (sCount_ok (body_of 48 Tryz.f48 Tryz.func48 (by kernel_rfl)) (by decide) hL.maxLen Tryz.strings_Count_any) sCount_l)
    (sJoin_ok (body_of 62 Tryz.f62 Tryz.func62 (by kernel_rfl)) Tryz.strings_Join_none Tryz.strings_Join) sJoin_l)
    (sRepeat_ok (body_of 65 Tryz.f65 Tryz.func65 (by kernel_rfl)) Tryz.strings_Repeat) sRepeat_l)
    (itoa_ok (body_of 22 Tryz.f22 Tryz.func22 (by kernel_rfl)) (nm := "internal/strconv.uint64pow10") (g0 := 3) (by kernel_rfl) (by decide) hL.pow fun n w h0 h1 h2 => Tryz.strconv_Itoa n h0 h1 w h2) itoa_l)
    (atoi_ok (body_of 86 Tryz.f86 Tryz.func86 (by kernel_rfl)) (by decide) (by decide) hL.errS hL.errR (fun s v w h1 h2 => Any.strconv_Atoi_ok Tryz.laysC172 s h1 v h2 w) atoi_bad (fun s ev w h1 h2 h3 h4 => Any.strconv_Atoi_range Tryz.laysC172 s h1 h2 ev w h3 h4)) (atoi_l 172))
    (cc_ok (body_of 77 Tryz.f77 Tryz.func77 (by kernel_rfl)) cc_fresh cc_used) (cc_l 101))
    (bs_ok (body_of 53 Tryz.f53 Tryz.func53 (by kernel_rfl)) (Builder_String_row Tryz.lays169 Tryz.Builder_Extra_169) fun b p w h => Any.Builder_String_nil Tryz.lays169 Tryz.Builder_Extra_169 w.heap.size b p w h) (bs_l 101 5))
    (sJoin_ok (body_of 62 Tryz.f62 Tryz.func62 (by kernel_rfl)) Tryz.strings_Join_none Tryz.strings_Join) jn_l
end Go.Proofs.YtmlhdhndjgdoaaaGreatDoor.cp
