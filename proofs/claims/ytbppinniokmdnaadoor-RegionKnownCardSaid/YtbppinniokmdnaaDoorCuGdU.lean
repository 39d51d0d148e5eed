/- What the tables tell is so. -/
import Derived.Test.YtbppinniokmdnaaDoorCuGdT
import Derived.Test.YtbppinniokmdnaaDoorCuGdM
namespace Go.Proofs.YtbppinniokmdnaaDoor.gd
open Go Go.Ev
theorem tabM_1_binds : Binds tabM_1 := entry_binds tab0_35_binds lcutLeft_h
theorem tabM_1_ok {W : World} (hL : Laid W) : CallOK Tryd.prog (Gw W) (toE tabM_1) := entry_ok mixed (tab0_35_ok hL) tab0_35_binds code_ok lcutLeft_h
theorem tabM_2_binds : Binds tabM_2 := entry_binds tabM_1_binds lcutRight_h
theorem tabM_2_ok {W : World} (hL : Laid W) : CallOK Tryd.prog (Gw W) (toE tabM_2) := entry_ok mixed (tabM_1_ok hL) tabM_1_binds code_ok lcutRight_h
theorem tabM_3_binds : Binds tabM_3 := entry_binds tabM_2_binds lof_h
theorem tabM_3_ok {W : World} (hL : Laid W) : CallOK Tryd.prog (Gw W) (toE tabM_3) := entry_ok mixed (tabM_2_ok hL) tabM_2_binds code_ok lof_h
theorem tabM_4_binds : Binds tabM_4 := entry_binds tabM_3_binds llang_h
theorem tabM_4_ok {W : World} (hL : Laid W) : CallOK Tryd.prog (Gw W) (toE tabM_4) := entry_ok mixed (tabM_3_ok hL) tabM_3_binds code_ok llang_h
theorem tabM_5_binds : Binds tabM_5 := entry_binds tabM_4_binds lregion_h
theorem tabM_5_ok {W : World} (hL : Laid W) : CallOK Tryd.prog (Gw W) (toE tabM_5) := entry_ok mixed (tabM_4_ok hL) tabM_4_binds code_ok lregion_h
theorem tabM_6_binds : Binds tabM_6 := entry_binds tabM_5_binds lparse_h
theorem tabM_6_ok {W : World} (hL : Laid W) : CallOK Tryd.prog (Gw W) (toE tabM_6) := entry_ok mixed (tabM_5_ok hL) tabM_5_binds code_ok lparse_h
theorem tabM_7_binds : Binds tabM_7 := entry_binds tabM_6_binds lplace_h
theorem tabM_7_ok {W : World} (hL : Laid W) : CallOK Tryd.prog (Gw W) (toE tabM_7) := entry_ok mixed (tabM_6_ok hL) tabM_6_binds code_ok lplace_h
theorem tabM_8_binds : Binds tabM_8 := entry_binds tabM_7_binds rwhere_h
theorem tabM_8_ok {W : World} (hL : Laid W) : CallOK Tryd.prog (Gw W) (toE tabM_8) := entry_ok mixed (tabM_7_ok hL) tabM_7_binds code_ok rwhere_h
end Go.Proofs.YtbppinniokmdnaaDoor.gd
