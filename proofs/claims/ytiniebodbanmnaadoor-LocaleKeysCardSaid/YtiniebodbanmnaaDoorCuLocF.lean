/- The closed laws of locales, evaluated by the kernel. -/
import Derived.Test.YtiniebodbanmnaaDoorCuLocE
namespace Go.Proofs.YtiniebodbanmnaaDoor.loc
open Go Go.Ev
set_option maxRecDepth 1000000
theorem known : callN tab2 code 100000 20 3 [] [] = some ⟨.a (.v (.bool true)), []⟩ := by kernel_rfl
theorem keys_true_true : callN tab2 code 100000 20 5 [.a (.v (.bool true)), .a (.v (.bool true))] [] = some ⟨.a (.v (.bool true)), []⟩ := by kernel_rfl
theorem keys_true_false : callN tab2 code 100000 20 5 [.a (.v (.bool true)), .a (.v (.bool false))] [] = some ⟨.a (.v (.bool true)), []⟩ := by kernel_rfl
theorem keys_false_true : callN tab2 code 100000 20 5 [.a (.v (.bool false)), .a (.v (.bool true))] [] = some ⟨.a (.v (.bool true)), []⟩ := by kernel_rfl
theorem keys_false_false : callN tab2 code 100000 20 5 [.a (.v (.bool false)), .a (.v (.bool false))] [] = some ⟨.a (.v (.bool true)), []⟩ := by kernel_rfl
end Go.Proofs.YtiniebodbanmnaaDoor.loc
