/- One function at the arguments that the closed laws meet, evaluated by the kernel. -/
import Derived.Test.YtbppinniokmdnaaDoorCuGenC
namespace Go.Proofs.YtbppinniokmdnaaDoor.gen
open Go Go.Ev
set_option maxRecDepth 1000000
def ofA0 : List V := [V.str [68, 69], V.str [97, 98, 99, 100, 101, 102, 103, 104, 105, 106, 107, 108, 109, 110, 111, 112, 113, 114, 115, 116, 117, 118, 119, 120, 121, 122]]
theorem of0 : callN tab code 100000 20 49 (ofA0.map fun x => .a (.v x)) [] = some ⟨.a (.v (.bool false)), []⟩ := by kernel_rfl
def ofA1 : List V := [V.str [100, 101], V.str [97, 98, 99, 100, 101, 102, 103, 104, 105, 106, 107, 108, 109, 110, 111, 112, 113, 114, 115, 116, 117, 118, 119, 120, 121, 122]]
theorem of1 : callN tab code 100000 20 49 (ofA1.map fun x => .a (.v x)) [] = some ⟨.a (.v (.bool true)), []⟩ := by kernel_rfl
def ofA2 : List V := [V.str [102], V.str [97, 98, 99, 100, 101, 102, 103, 104, 105, 106, 107, 108, 109, 110, 111, 112, 113, 114, 115, 116, 117, 118, 119, 120, 121, 122, 48, 49, 50, 51, 52, 53, 54, 55, 56, 57]]
theorem of2 : callN tab code 100000 20 49 (ofA2.map fun x => .a (.v x)) [] = some ⟨.a (.v (.bool true)), []⟩ := by kernel_rfl
def ofA3 : List V := [V.str [102, 114], V.str [97, 98, 99, 100, 101, 102, 103, 104, 105, 106, 107, 108, 109, 110, 111, 112, 113, 114, 115, 116, 117, 118, 119, 120, 121, 122]]
theorem of3 : callN tab code 100000 20 49 (ofA3.map fun x => .a (.v x)) [] = some ⟨.a (.v (.bool true)), []⟩ := by kernel_rfl
def ofA4 : List V := [V.str [109], V.str [97, 98, 99, 100, 101, 102, 103, 104, 105, 106, 107, 108, 109, 110, 111, 112, 113, 114, 115, 116, 117, 118, 119, 120, 121, 122, 48, 49, 50, 51, 52, 53, 54, 55, 56, 57]]
theorem of4 : callN tab code 100000 20 49 (ofA4.map fun x => .a (.v x)) [] = some ⟨.a (.v (.bool true)), []⟩ := by kernel_rfl
def ofA5 : List V := [V.str [109, 97, 115, 99, 117, 108, 105, 110, 101], V.str [97, 98, 99, 100, 101, 102, 103, 104, 105, 106, 107, 108, 109, 110, 111, 112, 113, 114, 115, 116, 117, 118, 119, 120, 121, 122, 48, 49, 50, 51, 52, 53, 54, 55, 56, 57]]
theorem of5 : callN tab code 100000 20 49 (ofA5.map fun x => .a (.v x)) [] = some ⟨.a (.v (.bool true)), []⟩ := by kernel_rfl
def ofA6 : List V := [V.str [109, 101, 45, 116, 101, 114], V.str [97, 98, 99, 100, 101, 102, 103, 104, 105, 106, 107, 108, 109, 110, 111, 112, 113, 114, 115, 116, 117, 118, 119, 120, 121, 122, 48, 49, 50, 51, 52, 53, 54, 55, 56, 57]]
theorem of6 : callN tab code 100000 20 49 (ofA6.map fun x => .a (.v x)) [] = some ⟨.a (.v (.bool false)), []⟩ := by kernel_rfl
def ofA7 : List V := [V.str [109, 101, 116, 101, 114], V.str [97, 98, 99, 100, 101, 102, 103, 104, 105, 106, 107, 108, 109, 110, 111, 112, 113, 114, 115, 116, 117, 118, 119, 120, 121, 122, 48, 49, 50, 51, 52, 53, 54, 55, 56, 57]]
theorem of7 : callN tab code 100000 20 49 (ofA7.map fun x => .a (.v x)) [] = some ⟨.a (.v (.bool true)), []⟩ := by kernel_rfl
def ofA8 : List V := [V.str [110], V.str [97, 98, 99, 100, 101, 102, 103, 104, 105, 106, 107, 108, 109, 110, 111, 112, 113, 114, 115, 116, 117, 118, 119, 120, 121, 122, 48, 49, 50, 51, 52, 53, 54, 55, 56, 57]]
theorem of8 : callN tab code 100000 20 49 (ofA8.map fun x => .a (.v x)) [] = some ⟨.a (.v (.bool true)), []⟩ := by kernel_rfl
def ofA9 : List V := [V.str [115, 101, 99, 111, 110, 100], V.str [97, 98, 99, 100, 101, 102, 103, 104, 105, 106, 107, 108, 109, 110, 111, 112, 113, 114, 115, 116, 117, 118, 119, 120, 121, 122, 48, 49, 50, 51, 52, 53, 54, 55, 56, 57]]
theorem of9 : callN tab code 100000 20 49 (ofA9.map fun x => .a (.v x)) [] = some ⟨.a (.v (.bool true)), []⟩ := by kernel_rfl
def ofs : List (List V × Bool) := [(ofA0, false), (ofA1, true), (ofA2, true), (ofA3, true), (ofA4, true), (ofA5, true), (ofA6, false), (ofA7, true), (ofA8, true), (ofA9, true)]
theorem ofs_ok : MemoOK tab code 100000 20 49 ofs := ⟨of0, of1, of2, of3, of4, of5, of6, of7, of8, of9, trivial⟩
def tab2 : Ev.Told := fun f => if f = 49 then some (pureCall (memo ofs)) else tab f
theorem tab2_ok (m : Int) : ToldOK Tryd.prog (G m) tab2 := by
  intro f sp h
  unfold tab2 at h
  split at h
  · rename_i hf
    cases h
    subst hf
    exact told_memo (body 49 Tryd.f49 Tryd.func49 (by kernel_rfl)) (by kernel_rfl) (tab_ok m) code_ok ofs_ok
  · exact tab_ok m f sp h
end Go.Proofs.YtbppinniokmdnaaDoor.gen
