/- The closed law of genders, evaluated by the kernel. -/
import Derived.Test.YtbppinniokmdnaaDoorCuGenE
namespace Go.Proofs.YtbppinniokmdnaaDoor.gen
open Go Go.Ev
set_option maxRecDepth 1000000
theorem known : callN tab2 code 100000 20 4 [] [] = some ⟨.a (.v (.bool true)), []⟩ := by kernel_rfl
end Go.Proofs.YtbppinniokmdnaaDoor.gen
