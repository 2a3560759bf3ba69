/-
  InterpReckons: the runs, reckoned by the kernel.
-/
import Derived.Test.YtcpnjbneabmehaaGreatDoorFvJ
namespace Go.Proofs.YtcpnjbneabmehaaGreatDoor
open Go Go.RowKit Go.Viv Go.Eva Go.Fv
set_option maxHeartbeats 8000000 in
theorem rk3 : rkAll (base 3 ++ ruM) [] = true := by kernel_rfl
set_option maxHeartbeats 8000000 in
theorem rk4 : rkAll (base 4 ++ ru0) [] = true := by kernel_rfl
set_option maxHeartbeats 8000000 in
theorem rk5 : rkAll (base 4 ++ ruD true true 0) [⟨.neg, tk 0, tk 0⟩] = true := by kernel_rfl
end Go.Proofs.YtcpnjbneabmehaaGreatDoor
