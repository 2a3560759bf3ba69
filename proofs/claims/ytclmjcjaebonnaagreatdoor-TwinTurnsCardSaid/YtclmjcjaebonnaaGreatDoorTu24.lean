/-
  What the document fixes of worlds that are kept otherwise: reckoned by the kernel.
-/
import Derived.Test.YtclmjcjaebonnaaGreatDoorTu09
namespace Go.Proofs.YtclmjcjaebonnaaGreatDoor
open Go.RowKit Go.Viv Go.Eva
theorem awake27_any {W : World} (hE : EnvT W) : Calls Tryz.prog 7 #[] W fun e w' => e = .returned (.bool true) ∧ Fr (fun _ => False) W w' :=
  closed_true hE _ 100000 100 (by kernel_rfl)
end Go.Proofs.YtclmjcjaebonnaaGreatDoor
