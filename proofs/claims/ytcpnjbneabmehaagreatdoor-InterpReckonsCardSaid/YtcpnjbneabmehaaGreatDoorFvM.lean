/-
  InterpReckons: the runs, reckoned by the kernel.
-/
import Derived.Test.YtcpnjbneabmehaaGreatDoorFvJ
namespace Go.Proofs.YtcpnjbneabmehaaGreatDoor
open Go Go.RowKit Go.Viv Go.Eva Go.Fv
set_option maxHeartbeats 8000000 in
theorem rk6 : rkAll (base 4 ++ (ruD false true 4 ++ ruQ)) [⟨.neg, tk 0, tk 4⟩] = true := by kernel_rfl
set_option maxHeartbeats 8000000 in
theorem rk7 : rkAll (base 4 ++ (ruD false false 4 ++ ruQ)) [⟨.neg, tk 0, tk 5⟩] = true := by kernel_rfl
set_option maxHeartbeats 8000000 in
theorem rk8 : rkAll (base 4 ++ (ruD true false 4 ++ ruQ)) [⟨.neg, tk 0, tk 5⟩] = true := by kernel_rfl
end Go.Proofs.YtcpnjbneabmehaaGreatDoor
