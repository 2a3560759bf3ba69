/-
  ScriptKinds is true, whatever the numbers are.
-/
import Derived.Test.YtogmgjcdicnceaaGreatDoorFxF
import Derived.Test.YtogmgjcdicnceaaGreatDoorFxG
namespace Go.Proofs.YtogmgjcdicnceaaGreatDoor
open Go Go.RowKit Go.Viv Go.Eva Go.Fv
/-- What the open numbers are. -/
def nuK (a b : Int) : Nat → Int
  | 0 => a
  | _ => b
section
variable {ν : Nat → Int} {x : Nat} {m : Int} {c : Bool}
theorem rk_eql (h : decide (ν x = m) = c) : Rl.ok ν ⟨.eql, .chan (some x), .int .i64 m, .bool c⟩ := ⟨ν x, m, rfl, rfl, fun t => by rw [s_eql, h]; rfl, rfl⟩
theorem rk_lss (h : decide (ν x < m) = c) : Rl.ok ν ⟨.lss, .chan (some x), .int .i64 m, .bool c⟩ := ⟨ν x, m, rfl, rfl, fun t => by rw [s_lss, h]; rfl, rfl⟩
theorem rk_leq (h : decide (ν x ≤ m) = c) : Rl.ok ν ⟨.leq, .chan (some x), .int .i64 m, .bool c⟩ := ⟨ν x, m, rfl, rfl, fun t => by rw [s_leq, h]; rfl, rfl⟩
theorem rk_gtr (h : decide (m < ν x) = c) : Rl.ok ν ⟨.gtr, .chan (some x), .int .i64 m, .bool c⟩ := ⟨ν x, m, rfl, rfl, fun t => by rw [s_gtr, h]; rfl, rfl⟩
theorem rk_geq (h : decide (m ≤ ν x) = c) : Rl.ok ν ⟨.geq, .chan (some x), .int .i64 m, .bool c⟩ := ⟨ν x, m, rfl, rfl, fun t => by rw [s_geq, h]; rfl, rfl⟩
theorem rk1 {r : Rl} {l : List Rl} (h1 : r.ok ν) (h2 : ∀ q ∈ l, q.ok ν) : ∀ q ∈ r :: l, q.ok ν := fun q h => by
  rcases List.mem_cons.1 h with rfl | h
  · exact h1
  · exact h2 q h
theorem rk0 : ∀ q ∈ ([] : List Rl), q.ok ν := fun _ h => by cases h
theorem rks {l k : List Rl} (h1 : ∀ q ∈ l, q.ok ν) (h2 : ∀ q ∈ k, q.ok ν) : ∀ q ∈ l ++ k, q.ok ν := fun q h => (List.mem_append.1 h).elim (h1 q) (h2 q)
end
theorem scriptKinds_any (a b : Int) : True_ 4 [.int .i64 a, .int .i64 b] := by
  have aw : ∀ x, some 18 = some x → True_ x [] := fun x h => by cases h; exact awakeS_true
  have fin : ∀ {l k : List Rl}, (∀ q ∈ l, q.ok (nuK a b)) → (∀ q ∈ k, q.ok (nuK a b)) → skAll l k = true → True_ 4 [.int .i64 a, .int .i64 b] := fun h1 h2 h =>
    fastW_any (rks h1 h2) (fun _ h => by cases h) aw (args := [.chan (some 0), .chan (some 1)]) (by simp [Fv.okV]) h
  have d : ∀ {p : Prop} [Decidable p], p → decide p = true := fun h => decide_eq_true h
  have n : ∀ {p : Prop} [Decidable p], ¬ p → decide p = false := fun h => decide_eq_false h
  have kA : a < 1 → ∀ q ∈ kdA, q.ok (nuK a b) := fun h => rk1 (rk_geq (n (show ¬ (1 : Int) ≤ a by omega))) (rk1 (rk_lss (d (show a < 1 from h))) rk0)
  have kB : ¬ a < 1 → ¬ a ≤ 21 → ∀ q ∈ kdB, q.ok (nuK a b) := fun h h2 => rk1 (rk_geq (d (show (1 : Int) ≤ a by omega))) (rk1 (rk_leq (n (show ¬ a ≤ 21 from h2))) (rk1 (rk_lss (n (show ¬ a < 1 from h))) (rk1 (rk_gtr (d (show (21 : Int) < a by omega))) rk0)))
  have kC : ¬ a < 1 → a ≤ 21 → ∀ q ∈ kdC, q.ok (nuK a b) := fun h h2 => rk1 (rk_geq (d (show (1 : Int) ≤ a by omega))) (rk1 (rk_leq (d (show a ≤ 21 from h2))) rk0)
  have hA : b = 0 → ∀ q ∈ hnA, q.ok (nuK a b) := fun h => rk1 (rk_eql (d (show b = 0 from h))) rk0
  have hB : b < 0 → ∀ q ∈ hnB, q.ok (nuK a b) := fun h => rk1 (rk_eql (n (show ¬ b = 0 by omega))) (rk1 (rk_lss (d (show b < 0 from h))) rk0)
  have hC : ¬ b = 0 → ¬ b < 0 → ∀ q ∈ hnC, q.ok (nuK a b) := fun h h2 => rk1 (rk_eql (n (show ¬ b = 0 from h))) (rk1 (rk_lss (n (show ¬ b < 0 from h2))) (rk1 (rk_geq (d (show (1 : Int) ≤ b by omega))) rk0))
  by_cases a1 : a < 1
  · by_cases b1 : b = 0
    · exact fin (kA a1) (hA b1) skAA
    · by_cases b2 : b < 0
      · exact fin (kA a1) (hB b2) skAB
      · exact fin (kA a1) (hC b1 b2) skAC
  · by_cases a2 : a ≤ 21
    · by_cases b1 : b = 0
      · exact fin (kC a1 a2) (hA b1) skCA
      · by_cases b2 : b < 0
        · exact fin (kC a1 a2) (hB b2) skCB
        · exact fin (kC a1 a2) (hC b1 b2) skCC
    · by_cases b1 : b = 0
      · exact fin (kB a1 a2) (hA b1) skBA
      · by_cases b2 : b < 0
        · exact fin (kB a1 a2) (hB b2) skBB
        · exact fin (kB a1 a2) (hC b1 b2) skBC
end Go.Proofs.YtogmgjcdicnceaaGreatDoor
