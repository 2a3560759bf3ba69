/-
  InterpReckons is true, whatever the numbers are.
-/
import Derived.Test.YtcpnjbneabmehaaGreatDoorFvI
import Derived.Test.YtcpnjbneabmehaaGreatDoorFvK
import Derived.Test.YtcpnjbneabmehaaGreatDoorFvL
import Derived.Test.YtcpnjbneabmehaaGreatDoorFvM
import Derived.Test.YtcpnjbneabmehaaGreatDoorMasks
namespace Go.Proofs.YtcpnjbneabmehaaGreatDoor
open Go Go.RowKit Go.Viv Go.Eva Go.Fv
/-- What the open numbers are. -/
def nuR (a b op r o : Int) : Nat → Int
  | 0 => a
  | 1 => b
  | 2 => op
  | 3 => op % 256
  | 4 => r
  | _ => o
theorem rl_and {a b op r o : Int} : Rl.ok (nuR a b op r o) ⟨.and, tk 2, i64 255, tk 3⟩ := ⟨op, 255, rfl, rfl, fun t => by
  rw [s_and]
  have h := i64_mask op 255 8 (by decide) (by decide)
  exact congrArg (fun z => some (Value.int .i64 z)) h, rfl⟩
theorem rl_rem {a b op r o : Int} (c : Int) (h : op % 256 % 5 = c) : Rl.ok (nuR a b op r o) ⟨.rem, tk 3, i64 5, i64 c⟩ := ⟨op % 256, 5, rfl, rfl, fun t => by
  rw [s_rem (by decide), Int.tmod_eq_emod_of_nonneg (by omega), h]
  rfl, rfl⟩
theorem rl_eq {ν : Nat → Int} {x : Nat} {y : Value} {m : Int} (hy : valT ν y = .int .i64 m) {c : Bool} (h : decide (ν x = m) = c) : Rl.ok ν ⟨.eql, tk x, y, .bool c⟩ := ⟨ν x, m, rfl, hy, fun t => by rw [s_eql, h]; rfl, rfl⟩
theorem rl_ne {ν : Nat → Int} {x : Nat} {y : Value} {m : Int} (hy : valT ν y = .int .i64 m) {c : Bool} (h : (!decide (ν x = m)) = c) : Rl.ok ν ⟨.neq, tk x, y, .bool c⟩ := ⟨ν x, m, rfl, hy, fun t => by rw [s_neq, h]; rfl, rfl⟩
theorem rl_same {ν : Nat → Int} {x : Nat} : Rl.ok ν ⟨.eql, tk x, tk x, .bool true⟩ := rl_eq (m := ν x) rfl (by simp)
theorem oks {ν : Nat → Int} {l k : List Rl} (h1 : ∀ r ∈ l, r.ok ν) (h2 : ∀ r ∈ k, r.ok ν) : ∀ r ∈ l ++ k, r.ok ν := fun r h => (List.mem_append.1 h).elim (h1 r) (h2 r)
theorem ok1 {ν : Nat → Int} {r : Rl} {l : List Rl} (h1 : r.ok ν) (h2 : ∀ r ∈ l, r.ok ν) : ∀ q ∈ r :: l, q.ok ν := fun q h => by
  rcases List.mem_cons.1 h with rfl | h
  · exact h1
  · exact h2 q h
theorem ok0 {ν : Nat → Int} : ∀ r ∈ ([] : List Rl), r.ok ν := fun _ h => by cases h
theorem base_ok {a b op r o : Int} (c : Int) (h : op % 256 % 5 = c) : ∀ q ∈ base c, q.ok (nuR a b op r o) := ok1 rl_and (ok1 (rl_rem c h) ok0)
theorem u0 {ν : Nat → Int} : ∀ r ∈ ([] : List Ru), r.ok ν := fun _ h => by cases h
theorem u1 {ν : Nat → Int} {y : Nat} (h : IntKind.i64.wrap (0 - ν 0) = ν y) : ∀ r ∈ ([⟨.neg, tk 0, tk y⟩] : List Ru), r.ok ν := fun r hr => by
  obtain rfl := List.mem_singleton.1 hr
  refine ⟨ν 0, rfl, ?_, rfl⟩
  have e : semV (Op.unary .neg (.int .i64 (ν 0))) = some (.int .i64 (IntKind.i64.wrap (0 - ν 0))) := rfl
  rw [e, h]
  rfl
theorem ruD_ok {ν : Nat → Int} {m1 m2 : Bool} {x : Nat} (h0 : ν 1 ≠ 0) (h1 : decide (ν 0 = mn) = m1) (h2 : decide (ν 1 = -1) = m2) : ∀ r ∈ ruD m1 m2 x, r.ok ν :=
  ok1 (rl_eq (m := 0) rfl (by simp [h0])) (ok1 (rl_eq (m := mn) rfl h1) (ok1 (rl_eq (m := -1) rfl h2) (ok1 (rl_ne (m := -1) rfl (by rw [h2])) (ok1 rl_same ok0))))
theorem reckons_any (a b op : Int) : True_ 3 [i64 a, i64 b, i64 op] := by
  have aw : ∀ x, some 15 = some x → True_ x [] := fun x h => by cases h; exact awake_true
  have fin : ∀ {r o : Int} {l : List Rl} {u : List Ru}, (∀ q ∈ l, q.ok (nuR a b op r o)) → (∀ q ∈ u, q.ok (nuR a b op r o)) → rkAll l u = true → True_ 3 [i64 a, i64 b, i64 op] := fun h1 h2 h =>
    fast_any h1 h2 aw (args := [tk 0, tk 1, tk 2]) (by simp [tk, Fv.okV]) h
  have hc : op % 256 % 5 = 0 ∨ op % 256 % 5 = 1 ∨ op % 256 % 5 = 2 ∨ op % 256 % 5 = 3 ∨ op % 256 % 5 = 4 := by omega
  rcases hc with hc | hc | hc | hc | hc
  · exact fin (r := 0) (o := 0) (oks (base_ok 0 hc) (ok1 rl_same ok0)) u0 rk0
  · exact fin (r := IntKind.i64.wrap (a + b)) (o := 0) (oks (base_ok 1 hc) (ok1 ⟨a, b, rfl, rfl, fun t => s_add, rfl⟩ (ok1 rl_same ok0))) u0 rk1
  · exact fin (r := IntKind.i64.wrap (a - b)) (o := 0) (oks (base_ok 2 hc) (ok1 ⟨a, b, rfl, rfl, fun t => s_sub, rfl⟩ (ok1 rl_same ok0))) u0 rk2
  · exact fin (r := IntKind.i64.wrap (a * b)) (o := 0) (oks (base_ok 3 hc) (ok1 ⟨a, b, rfl, rfl, fun t => s_mul, rfl⟩ (ok1 rl_same ok0))) u0 rk3
  · by_cases h0 : b = 0
    · exact fin (r := 0) (o := 0) (oks (base_ok 4 hc) (ok1 (rl_eq (m := 0) rfl (by simp [nuR, h0])) (ok1 rl_same ok0))) u0 rk4
    · have quo : ∀ {o : Int}, Rl.ok (nuR a b op (IntKind.i64.wrap (a.tdiv b)) o) ⟨.quo, tk 0, tk 1, tk 4⟩ := ⟨a, b, rfl, rfl, fun t => s_quo h0, rfl⟩
      by_cases h1 : b = -1
      · by_cases h2 : a = mn
        · refine fin (r := 0) (o := 0) (oks (base_ok 4 hc) (ruD_ok h0 (by simp [nuR, h2]) (by simp [nuR, h1]))) (u1 ?_) rk5
          simp only [nuR, h2]
          decide
        · refine fin (r := IntKind.i64.wrap (a.tdiv b)) (o := 0) (oks (base_ok 4 hc) (oks (ruD_ok h0 (by simp [nuR, h2]) (by simp [nuR, h1])) (ok1 quo ok0))) (u1 ?_) rk6
          simp only [nuR, h1]
          rw [Int.tdiv_neg, Int.tdiv_one, Int.zero_sub]
      · by_cases h2 : a = mn
        · exact fin (r := IntKind.i64.wrap (a.tdiv b)) (o := IntKind.i64.wrap (0 - a)) (oks (base_ok 4 hc) (oks (ruD_ok h0 (by simp [nuR, h2]) (by simp [nuR, h1])) (ok1 quo ok0))) (u1 rfl) rk8
        · exact fin (r := IntKind.i64.wrap (a.tdiv b)) (o := IntKind.i64.wrap (0 - a)) (oks (base_ok 4 hc) (oks (ruD_ok h0 (by simp [nuR, h2]) (by simp [nuR, h1])) (ok1 quo ok0))) (u1 rfl) rk7
end Go.Proofs.YtcpnjbneabmehaaGreatDoor
