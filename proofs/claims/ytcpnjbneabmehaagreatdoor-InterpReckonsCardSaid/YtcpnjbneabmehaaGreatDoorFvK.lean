/-
  InterpReckons: the runs, reckoned by the kernel.
-/
import Derived.Test.YtcpnjbneabmehaaGreatDoorFvJ
namespace Go.Proofs.YtcpnjbneabmehaaGreatDoor
open Go Go.RowKit Go.Viv Go.Eva Go.Fv
set_option maxHeartbeats 8000000 in
theorem rk0 : rkAll (base 0 ++ ruV) [] = true := by kernel_rfl
set_option maxHeartbeats 8000000 in
theorem rk1 : rkAll (base 1 ++ ruA) [] = true := by kernel_rfl
set_option maxHeartbeats 8000000 in
theorem rk2 : rkAll (base 2 ++ ruS) [] = true := by kernel_rfl
end Go.Proofs.YtcpnjbneabmehaaGreatDoor
