/-
  THE KERNEL's RUN of TablingNone, whatever the two arguments are.
-/
import Derived.Test.YtodlhchgpmgeeaaGreatDoorTn1
namespace Go.Proofs
open Go.Ev
set_option maxRecDepth 1000000 in
theorem Tryz.run4 (x y : AV) : goK Tryz.E 1000000 4 [x, y] (heap0 Tryz.gvs) (fun v _ => AV.bK v (fun b => b)) = true := by kernel_rfl
end Go.Proofs
