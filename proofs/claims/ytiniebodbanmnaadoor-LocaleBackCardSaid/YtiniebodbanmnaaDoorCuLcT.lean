/- What the tables tell is so. -/
import Derived.Test.YtiniebodbanmnaaDoorCuLcL
namespace Go.Proofs.YtiniebodbanmnaaDoor.lc
open Go Go.Ev
theorem mixed : Tryd.prog.follows .mixedOrders = true := by kernel_rfl
theorem tab0_1_binds : Binds tab0_1 := entry_binds tab0_binds cutLeft_h
theorem tab0_1_ok {W : World} (hL : Laid W) : CallOK Tryd.prog (Gw W) (toE tab0_1) := entry_ok mixed (tab0_ok hL) tab0_binds code_ok cutLeft_h
theorem tab0_2_binds : Binds tab0_2 := entry_binds tab0_1_binds cutRight_h
theorem tab0_2_ok {W : World} (hL : Laid W) : CallOK Tryd.prog (Gw W) (toE tab0_2) := entry_ok mixed (tab0_1_ok hL) tab0_1_binds code_ok cutRight_h
theorem tab0_3_binds : Binds tab0_3 := entry_binds tab0_2_binds rof_h
theorem tab0_3_ok {W : World} (hL : Laid W) : CallOK Tryd.prog (Gw W) (toE tab0_3) := entry_ok mixed (tab0_2_ok hL) tab0_2_binds code_ok rof_h
theorem tab0_4_binds : Binds tab0_4 := entry_binds tab0_3_binds llang_h
theorem tab0_4_ok {W : World} (hL : Laid W) : CallOK Tryd.prog (Gw W) (toE tab0_4) := entry_ok mixed (tab0_3_ok hL) tab0_3_binds code_ok llang_h
theorem tab0_5_binds : Binds tab0_5 := entry_binds tab0_4_binds lregion_h
theorem tab0_5_ok {W : World} (hL : Laid W) : CallOK Tryd.prog (Gw W) (toE tab0_5) := entry_ok mixed (tab0_4_ok hL) tab0_4_binds code_ok lregion_h
theorem tab0_6_binds : Binds tab0_6 := entry_binds tab0_5_binds lparse_h
theorem tab0_6_ok {W : World} (hL : Laid W) : CallOK Tryd.prog (Gw W) (toE tab0_6) := entry_ok mixed (tab0_5_ok hL) tab0_5_binds code_ok lparse_h
theorem tab0_7_binds : Binds tab0_7 := entry_binds tab0_6_binds lwrite_h
theorem tab0_7_ok {W : World} (hL : Laid W) : CallOK Tryd.prog (Gw W) (toE tab0_7) := entry_ok mixed (tab0_6_ok hL) tab0_6_binds code_ok lwrite_h
theorem tab0_8_binds : Binds tab0_8 := entry_binds tab0_7_binds lgood_h
theorem tab0_8_ok {W : World} (hL : Laid W) : CallOK Tryd.prog (Gw W) (toE tab0_8) := entry_ok mixed (tab0_7_ok hL) tab0_7_binds code_ok lgood_h
theorem tab0_9_binds : Binds tab0_9 := entry_binds tab0_8_binds lshow_h
theorem tab0_9_ok {W : World} (hL : Laid W) : CallOK Tryd.prog (Gw W) (toE tab0_9) := entry_ok mixed (tab0_8_ok hL) tab0_8_binds code_ok lshow_h
theorem tab0_10_binds : Binds tab0_10 := entry_binds tab0_9_binds lplace_h
theorem tab0_10_ok {W : World} (hL : Laid W) : CallOK Tryd.prog (Gw W) (toE tab0_10) := entry_ok mixed (tab0_9_ok hL) tab0_9_binds code_ok lplace_h
theorem tab0_11_binds : Binds tab0_11 := entry_binds tab0_10_binds awake14_h
theorem tab0_11_ok {W : World} (hL : Laid W) : CallOK Tryd.prog (Gw W) (toE tab0_11) := entry_ok mixed (tab0_10_ok hL) tab0_10_binds code_ok awake14_h
theorem tab0_12_binds : Binds tab0_12 := entry_binds tab0_11_binds lback_h
theorem tab0_12_ok {W : World} (hL : Laid W) : CallOK Tryd.prog (Gw W) (toE tab0_12) := entry_ok mixed (tab0_11_ok hL) tab0_11_binds code_ok lback_h
end Go.Proofs.YtiniebodbanmnaaDoor.lc
