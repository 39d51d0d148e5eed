/- The closed law of regions, evaluated by the kernel. -/
import Derived.Test.YtbppinniokmdnaaDoorCuGdU
namespace Go.Proofs.YtbppinniokmdnaaDoor.gd
open Go Go.Ev
set_option maxRecDepth 1000000
noncomputable def lknown_k (sv : SV) (os : Objs) : Option Bool := match sv, os with
  | .a (.v v), [] => dTy (.t1 (.k .bool)) v fun v => (match v with | (.bool r0) => some (r0) | _ => none)
  | _, _ => none
theorem lknown_true : stN tabM_8 code (fun _ _ => ⟨[], [], false⟩) FU 24 7 [] [] lknown_k = some true := by kernel_rfl
end Go.Proofs.YtbppinniokmdnaaDoor.gd
