/-
  No cell of these rows narrows 'for every input' (looked for: loops, veiled, ifaces, maps, wideKeys, modest, calm, conditions, laid).
  DERIVED. THE GIVEN ROWS OF THIS SEAT. 4 by the template 'for every input the law returns true; each argument reads behind the call as it read before'; 0 by the template 'total and deterministic' (their statements: YtbcaajgomekjaaaTotals.lean).
  GIVEN WITH THE SEED: the statements are not yours to turn. If you find one false, say at which input.
  Laid BY PROGRAM, IN A SANDBOX (cutbox-rows.mjs): the forced cells as the released guide's own fill.sh prints them over the translation f596e7bb04965084… (all of the seat's roots in one cut). By AI agents, Wed Nov 11 2026. No macro, syntax, notation, axiom, sorry.
-/
import Derived.Test.YtbcaajgomekjaaaChecked
import GoSem.Claim
import GoSem.ClaimJoined
import GoSem.ClaimMapViews
import Derived.JoinedTies
import Derived.KernelRfl
namespace Go.Proofs.Ytbcaajgomekjaaa
/- THE CELL 'sum', in the pinned program and in every row, IS THE sha256 OF THE DUMP (.gsa) THAT YtbcaajgomekjaaaProg.lean LOADS. Nothing in Lean hashes anything: it is a label: what it is worth is what the hold of that sum in a sandbox is worth. -/
noncomputable def Try.pinned : Pinned := { name := "ytbcaajgomekjaaa", sum := "f596e7bb0496508414c47ef48119d89d5b0a2dfeb5910898a350af5a8cb6bc2d", checked := Try.checked }
namespace Rows
def none {H : Type} : Left H := { results := [], args := [] }

/-- 'vivariumlaw7.DenseBounds': WHATEVER THE INPUT: true; the input reads as it did. -/
def denseBoundsSpec : ChangeSpec := { name := "denseBounds", fn := fun _ => fun
  | [d1, d2] => { results := [.lit (.bool true)], args := [d1, d2] }
  | _ => none }
def denseBoundsRow : OpenClaim := { program := "ytbcaajgomekjaaa", sum := "f596e7bb0496508414c47ef48119d89d5b0a2dfeb5910898a350af5a8cb6bc2d", func := "vivarium/vivariumlaw7.DenseBounds", spec := "denseBounds", apart := false }
def DenseBoundsSaid : Prop := denseBoundsRow.holds Try.pinned (OpenSpec.ofChange denseBoundsSpec)

/-- ITS FALSE NEIGHBOUR: 'it returns false'. Refute it at one input. -/
def denseBoundsWrong : ChangeSpec := { name := "denseBounds", fn := fun _ => fun
  | [d1, d2] => { results := [.lit (.bool false)], args := [d1, d2] }
  | _ => none }
def DenseBoundsWrongFalsely : Prop := denseBoundsRow.holds Try.pinned (OpenSpec.ofChange denseBoundsWrong)

/-- 'vivariumlaw7.DenseBack': WHATEVER THE INPUT: true; the input reads as it did. -/
def denseBackSpec : ChangeSpec := { name := "denseBack", fn := fun _ => fun
  | [d1, d2, d3, d4, d5] => { results := [.lit (.bool true)], args := [d1, d2, d3, d4, d5] }
  | _ => none }
def denseBackRow : OpenClaim := { program := "ytbcaajgomekjaaa", sum := "f596e7bb0496508414c47ef48119d89d5b0a2dfeb5910898a350af5a8cb6bc2d", func := "vivarium/vivariumlaw7.DenseBack", spec := "denseBack", apart := false }
def DenseBackSaid : Prop := denseBackRow.holds Try.pinned (OpenSpec.ofChange denseBackSpec)

/-- ITS FALSE NEIGHBOUR: 'it returns false'. Refute it at one input. -/
def denseBackWrong : ChangeSpec := { name := "denseBack", fn := fun _ => fun
  | [d1, d2, d3, d4, d5] => { results := [.lit (.bool false)], args := [d1, d2, d3, d4, d5] }
  | _ => none }
def DenseBackWrongFalsely : Prop := denseBackRow.holds Try.pinned (OpenSpec.ofChange denseBackWrong)

/-- 'vivariumlaw7.DensePlays': WHATEVER THE INPUT: true; the input reads as it did. -/
def densePlaysSpec : ChangeSpec := { name := "densePlays", fn := fun _ => fun
  | [d1, d2] => { results := [.lit (.bool true)], args := [d1, d2] }
  | _ => none }
def densePlaysRow : OpenClaim := { program := "ytbcaajgomekjaaa", sum := "f596e7bb0496508414c47ef48119d89d5b0a2dfeb5910898a350af5a8cb6bc2d", func := "vivarium/vivariumlaw7.DensePlays", spec := "densePlays", apart := false }
def DensePlaysSaid : Prop := densePlaysRow.holds Try.pinned (OpenSpec.ofChange densePlaysSpec)

/-- ITS FALSE NEIGHBOUR: 'it returns false'. Refute it at one input. -/
def densePlaysWrong : ChangeSpec := { name := "densePlays", fn := fun _ => fun
  | [d1, d2] => { results := [.lit (.bool false)], args := [d1, d2] }
  | _ => none }
def DensePlaysWrongFalsely : Prop := densePlaysRow.holds Try.pinned (OpenSpec.ofChange densePlaysWrong)

/-- 'vivariumlaw7.DenseHoles': WHATEVER THE INPUT: true; the input reads as it did. -/
def denseHolesSpec : ChangeSpec := { name := "denseHoles", fn := fun _ => fun
  | [d] => { results := [.lit (.bool true)], args := [d] }
  | _ => none }
def denseHolesRow : OpenClaim := { program := "ytbcaajgomekjaaa", sum := "f596e7bb0496508414c47ef48119d89d5b0a2dfeb5910898a350af5a8cb6bc2d", func := "vivarium/vivariumlaw7.DenseHoles", spec := "denseHoles", apart := false }
def DenseHolesSaid : Prop := denseHolesRow.holds Try.pinned (OpenSpec.ofChange denseHolesSpec)

/-- ITS FALSE NEIGHBOUR: 'it returns false'. Refute it at one input. -/
def denseHolesWrong : ChangeSpec := { name := "denseHoles", fn := fun _ => fun
  | [d] => { results := [.lit (.bool false)], args := [d] }
  | _ => none }
def DenseHolesWrongFalsely : Prop := denseHolesRow.holds Try.pinned (OpenSpec.ofChange denseHolesWrong)

/- THE SECOND FORM. 'bulk': how many values and letters a reading holds, each counted each time it is reached (what is shared counts as often as it is met; a slice's spare places count too). A statement '..UptoSaid' is the law's where the arguments, and the package variables that the reading takes, are together of bulk at most 1048576: NARROWER than '..Said'. Prove '..Said' where nothing that the law and all that it calls make is longer than what came in: it says more and counts as full. Else prove '..UptoSaid'. A law counts once. -/
mutual
def uptoBulk {H : Type} : DataW H → Nat
  | .lit (.string bytes) => bytes.length + 1
  | .lit _ => 1
  | .nil => 1
  | .ptr d => uptoBulk d + 1
  | .slice elems spare => uptoBulkAll elems + uptoBulkAll spare + 1
  | .agg parts => uptoBulkAll parts + 1
  | .iface _ d => uptoBulk d + 1
  | .map entries => uptoBulkEntries entries + 1
  | .held _ => 1
def uptoBulkAll {H : Type} : List (DataW H) → Nat
  | [] => 0
  | d :: r => uptoBulk d + uptoBulkAll r
def uptoBulkEntries {H : Type} : List (Lit × DataW H) → Nat
  | [] => 0
  | x :: r => uptoBulkEntry x + uptoBulkEntries r
def uptoBulkEntry {H : Type} : Lit × DataW H → Nat
  | (.string bytes, d) => bytes.length + uptoBulk d + 1
  | (_, d) => uptoBulk d + 1
 end
def uptoSmall : (H : Type) → List (DataW H) → Bool := fun _ ds => decide (uptoBulkAll ds ≤ 1048576)
def OpenSpec.upto (s : _root_.Go.ChangeSpec) : _root_.Go.OpenSpec := { _root_.Go.OpenSpec.ofChange s with cond := some uptoSmall }

/-- 'vivariumlaw7.DenseBounds', WHERE WHAT IT READS IS OF BULK AT MOST 1048576: true; the input reads as it did. -/
def denseBoundsUptoRow : OpenClaim := { program := "ytbcaajgomekjaaa", sum := "f596e7bb0496508414c47ef48119d89d5b0a2dfeb5910898a350af5a8cb6bc2d", func := "vivarium/vivariumlaw7.DenseBounds", spec := "denseBounds", apart := false, narrowed := true }
def DenseBoundsUptoSaid : Prop := denseBoundsUptoRow.holds Try.pinned (OpenSpec.upto denseBoundsSpec)

/-- 'vivariumlaw7.DenseBack', WHERE WHAT IT READS IS OF BULK AT MOST 1048576: true; the input reads as it did. -/
def denseBackUptoRow : OpenClaim := { program := "ytbcaajgomekjaaa", sum := "f596e7bb0496508414c47ef48119d89d5b0a2dfeb5910898a350af5a8cb6bc2d", func := "vivarium/vivariumlaw7.DenseBack", spec := "denseBack", apart := false, narrowed := true }
def DenseBackUptoSaid : Prop := denseBackUptoRow.holds Try.pinned (OpenSpec.upto denseBackSpec)

/-- 'vivariumlaw7.DensePlays', WHERE WHAT IT READS IS OF BULK AT MOST 1048576: true; the input reads as it did. -/
def densePlaysUptoRow : OpenClaim := { program := "ytbcaajgomekjaaa", sum := "f596e7bb0496508414c47ef48119d89d5b0a2dfeb5910898a350af5a8cb6bc2d", func := "vivarium/vivariumlaw7.DensePlays", spec := "densePlays", apart := false, narrowed := true }
def DensePlaysUptoSaid : Prop := densePlaysUptoRow.holds Try.pinned (OpenSpec.upto densePlaysSpec)

/-- 'vivariumlaw7.DenseHoles', WHERE WHAT IT READS IS OF BULK AT MOST 1048576: true; the input reads as it did. -/
def denseHolesUptoRow : OpenClaim := { program := "ytbcaajgomekjaaa", sum := "f596e7bb0496508414c47ef48119d89d5b0a2dfeb5910898a350af5a8cb6bc2d", func := "vivarium/vivariumlaw7.DenseHoles", spec := "denseHoles", apart := false, narrowed := true }
def DenseHolesUptoSaid : Prop := denseHolesUptoRow.holds Try.pinned (OpenSpec.upto denseHolesSpec)

end Rows
end Go.Proofs.Ytbcaajgomekjaaa
