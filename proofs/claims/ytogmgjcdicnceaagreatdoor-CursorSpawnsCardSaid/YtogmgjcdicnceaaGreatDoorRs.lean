/-
  Whole structures, in plain words. No program in sight.
-/
import Derived.Test.YtogmgjcdicnceaaGreatDoorWld
namespace Go.Eva
open Go Go.Viv
/-- What a whole structure in memory holds, in plain words. -/
inductive Rs where
  | set (l : List Nat)
  | alloc (a : Als)
  | place (v : Nat) (l : SM)
  | flag (f : Fls)
  | slot (s : Sls)
  | nums (l : List Int)
  | queue (l : List Ops)
  | world (w : Wls)
  | arena (l : List (Int × List Nat)) (s : List (List Nat))
  | ralloc (a : Als)
  | rslot (s : Sls)
  | other (k : Nat) (l : List (List Int))
/-- The plain cells at a structure's head that may be read as they are. -/
def viewRs : Rs → List Value
  | .rslot s => [.int .i64 s.d.k, .int .i64 s.d.v, .int .i64 s.d.b]
  | .ralloc a => [.int .i64 a.st.length, .int .i64 a.top]
  | _ => []
end Go.Eva
