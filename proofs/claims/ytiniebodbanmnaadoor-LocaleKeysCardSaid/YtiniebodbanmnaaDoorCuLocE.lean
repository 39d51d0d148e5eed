/- locale.of at the texts that the closed laws meet, evaluated by the kernel. -/
import Derived.Test.YtiniebodbanmnaaDoorCuLocC
namespace Go.Proofs.YtiniebodbanmnaaDoor.loc
open Go Go.Ev
set_option maxRecDepth 1000000
def small : List UInt8 := [97, 98, 99, 100, 101, 102, 103, 104, 105, 106, 107, 108, 109, 110, 111, 112, 113, 114, 115, 116, 117, 118, 119, 120, 121, 122]
def great : List UInt8 := [65, 66, 67, 68, 69, 70, 71, 72, 73, 74, 75, 76, 77, 78, 79, 80, 81, 82, 83, 84, 85, 86, 87, 88, 89, 90]
def digits : List UInt8 := [48, 49, 50, 51, 52, 53, 54, 55, 56, 57]
def arg (s signs : List UInt8) (least most : Int) : List V := [.str s, .str signs, .int .i64 least, .int .i64 most]
theorem of0 : callN tab code 100000 20 17 ((arg [] small 2 3).map fun x => .a (.v x)) [] = some ⟨.a (.v (.bool false)), []⟩ := by kernel_rfl
theorem of1 : callN tab code 100000 20 17 ((arg [48, 48, 49] digits 3 3).map fun x => .a (.v x)) [] = some ⟨.a (.v (.bool true)), []⟩ := by kernel_rfl
theorem of2 : callN tab code 100000 20 17 ((arg [48, 48, 49] small 2 2).map fun x => .a (.v x)) [] = some ⟨.a (.v (.bool false)), []⟩ := by kernel_rfl
theorem of3 : callN tab code 100000 20 17 ((arg [49, 122] digits 3 3).map fun x => .a (.v x)) [] = some ⟨.a (.v (.bool false)), []⟩ := by kernel_rfl
theorem of4 : callN tab code 100000 20 17 ((arg [49, 122] small 2 2).map fun x => .a (.v x)) [] = some ⟨.a (.v (.bool false)), []⟩ := by kernel_rfl
theorem of5 : callN tab code 100000 20 17 ((arg [52, 49, 57] digits 3 3).map fun x => .a (.v x)) [] = some ⟨.a (.v (.bool true)), []⟩ := by kernel_rfl
theorem of6 : callN tab code 100000 20 17 ((arg [52, 49, 57] great 2 2).map fun x => .a (.v x)) [] = some ⟨.a (.v (.bool false)), []⟩ := by kernel_rfl
theorem of7 : callN tab code 100000 20 17 ((arg [67, 65] great 2 2).map fun x => .a (.v x)) [] = some ⟨.a (.v (.bool true)), []⟩ := by kernel_rfl
theorem of8 : callN tab code 100000 20 17 ((arg [69, 78] small 2 3).map fun x => .a (.v x)) [] = some ⟨.a (.v (.bool false)), []⟩ := by kernel_rfl
theorem of9 : callN tab code 100000 20 17 ((arg [71, 66] great 2 2).map fun x => .a (.v x)) [] = some ⟨.a (.v (.bool true)), []⟩ := by kernel_rfl
theorem of10 : callN tab code 100000 20 17 ((arg [85, 83] digits 3 3).map fun x => .a (.v x)) [] = some ⟨.a (.v (.bool false)), []⟩ := by kernel_rfl
theorem of11 : callN tab code 100000 20 17 ((arg [85, 83] small 2 2).map fun x => .a (.v x)) [] = some ⟨.a (.v (.bool false)), []⟩ := by kernel_rfl
theorem of12 : callN tab code 100000 20 17 ((arg [100, 101, 117] small 2 3).map fun x => .a (.v x)) [] = some ⟨.a (.v (.bool true)), []⟩ := by kernel_rfl
theorem of13 : callN tab code 100000 20 17 ((arg [101] small 2 3).map fun x => .a (.v x)) [] = some ⟨.a (.v (.bool false)), []⟩ := by kernel_rfl
theorem of14 : callN tab code 100000 20 17 ((arg [101, 110] small 2 3).map fun x => .a (.v x)) [] = some ⟨.a (.v (.bool true)), []⟩ := by kernel_rfl
theorem of15 : callN tab code 100000 20 17 ((arg [101, 110, 103, 108] small 2 3).map fun x => .a (.v x)) [] = some ⟨.a (.v (.bool false)), []⟩ := by kernel_rfl
theorem of16 : callN tab code 100000 20 17 ((arg [103, 98] digits 3 3).map fun x => .a (.v x)) [] = some ⟨.a (.v (.bool false)), []⟩ := by kernel_rfl
theorem of17 : callN tab code 100000 20 17 ((arg [103, 98] great 2 2).map fun x => .a (.v x)) [] = some ⟨.a (.v (.bool false)), []⟩ := by kernel_rfl
theorem of18 : callN tab code 100000 20 17 ((arg [103, 98] small 2 2).map fun x => .a (.v x)) [] = some ⟨.a (.v (.bool true)), []⟩ := by kernel_rfl
theorem of19 : callN tab code 100000 20 17 ((arg [117] digits 3 3).map fun x => .a (.v x)) [] = some ⟨.a (.v (.bool false)), []⟩ := by kernel_rfl
theorem of20 : callN tab code 100000 20 17 ((arg [117] great 2 2).map fun x => .a (.v x)) [] = some ⟨.a (.v (.bool false)), []⟩ := by kernel_rfl
theorem of21 : callN tab code 100000 20 17 ((arg [117, 115] small 2 2).map fun x => .a (.v x)) [] = some ⟨.a (.v (.bool true)), []⟩ := by kernel_rfl
def ofs : List (List V × Bool) := [(arg [] small 2 3, false), (arg [48, 48, 49] digits 3 3, true), (arg [48, 48, 49] small 2 2, false), (arg [49, 122] digits 3 3, false), (arg [49, 122] small 2 2, false), (arg [52, 49, 57] digits 3 3, true), (arg [52, 49, 57] great 2 2, false), (arg [67, 65] great 2 2, true), (arg [69, 78] small 2 3, false), (arg [71, 66] great 2 2, true), (arg [85, 83] digits 3 3, false), (arg [85, 83] small 2 2, false), (arg [100, 101, 117] small 2 3, true), (arg [101] small 2 3, false), (arg [101, 110] small 2 3, true), (arg [101, 110, 103, 108] small 2 3, false), (arg [103, 98] digits 3 3, false), (arg [103, 98] great 2 2, false), (arg [103, 98] small 2 2, true), (arg [117] digits 3 3, false), (arg [117] great 2 2, false), (arg [117, 115] small 2 2, true)]
theorem ofs_ok : MemoOK tab code 100000 20 17 ofs := ⟨of0, of1, of2, of3, of4, of5, of6, of7, of8, of9, of10, of11, of12, of13, of14, of15, of16, of17, of18, of19, of20, of21, trivial⟩
def tab2 : Ev.Told := fun f => if f = 17 then some (pureCall (memo ofs)) else tab f
theorem tab2_ok (m : Int) : ToldOK Tryd.prog (G m) tab2 := by
  intro f sp h
  unfold tab2 at h
  split at h
  · rename_i hf
    cases h
    subst hf
    exact told_memo (body 17 Tryd.f17 Tryd.func17 (by kernel_rfl)) (by kernel_rfl) (tab_ok m) code_ok ofs_ok
  · exact tab_ok m f sp h
end Go.Proofs.YtiniebodbanmnaaDoor.loc
