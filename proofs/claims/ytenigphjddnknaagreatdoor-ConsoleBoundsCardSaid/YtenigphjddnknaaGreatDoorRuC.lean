/-
  Rules on open values: slices that are handed in. No program in sight.
-/
import Derived.Test.YtenigphjddnknaaGreatDoorRuB
import Derived.Test.YtenigphjddnknaaGreatDoorRowC
namespace Go.Fv
open Go Go.Eva Go.RowKit Go.Viv
section
variable {P : Program} {W0 : Begin} {ν : Toks}
theorem rx_len {t e : TypeId} (hu : P.underlying t = some (.slice e)) {x y : Value} {A : Option Addr} {n c : Nat} (hx : valT ν x = .slice A n c) (hy : valT ν y = n6 n) (ho : okV y = true) : Rx.ok P W0 ν ⟨isLen t, [x], y⟩ := ⟨ho, fun o ρ hop hargs w hf => by
  have hop : isLen t o.op = true := hop
  unfold isLen at hop
  split at hop <;> try (cases hop; done)
  rename_i cl hoc
  split at hop <;> try (cases hop; done)
  rename_i u hcal hts
  have hu' := beq_iff hop
  subst hu'
  rw [hoc] at hargs
  have hargs : cl.args.toList.map ρ = [valT ν x] := by simpa [Op.operands, Call.operands, hcal] using hargs
  have hmap : cl.args.map ρ = #[.slice A n c] := by
    apply Array.ext'
    simp [hargs, hx]
  have ht : cl.argTypes[0]? = some u := by rw [← Array.getElem?_toList, hts]; rfl
  have h1 : (Builtin.len_ cl.argTypes o.type #[.slice A n c]).run P w = .ok (.int .i64 n) w := by
    simp [Builtin.len_, ht, run_underlying hu, goInt]
  simp only [execOp, hoc, resolve, hcal, Sem.run_bind, Sem.run_pure, Result.andThen_ok, invoke, builtin, hmap, h1, hy]
  rfl⟩
theorem rx_min {x : Value} {n m r : Nat} (hx : valT ν x = n6 n) (hr : min n m = r) : Rx.ok P W0 ν ⟨isMin, [x, n6 m], n6 r⟩ := ⟨rfl, fun o ρ hop hargs w hf => by
  have hop : isMin o.op = true := hop
  unfold isMin at hop
  split at hop <;> try (cases hop; done)
  rename_i cl hoc
  split at hop <;> try (cases hop; done)
  rename_i hcal
  rw [hoc] at hargs
  have hargs : cl.args.toList.map ρ = [valT ν x, n6 m] := by simpa [Op.operands, Call.operands, hcal, valT] using hargs
  have hmap : cl.args.map ρ = #[n6 n, n6 m] := by
    apply Array.ext'
    simp [hargs, hx]
  have h1 : Builtin.min2 (n6 n) (n6 m) = .pure (n6 r) := by
    have e : (if Int.ofNat m < Int.ofNat n then Int.ofNat m else Int.ofNat n) = Int.ofNat r := by
      rw [← hr]
      split
      · rename_i h; rw [Nat.min_eq_right (Nat.le_of_lt (Int.ofNat_lt.1 h))]
      · rename_i h; rw [Nat.min_eq_left (Nat.le_of_not_lt fun q => h (Int.ofNat_lt.2 q))]
    show (pure (.int .i64 (if Int.ofNat m < Int.ofNat n then Int.ofNat m else Int.ofNat n)) : Sem Value) = _
    rw [e]
    rfl
  simp only [execOp, hoc, resolve, hcal, Sem.run_bind, Sem.run_pure, Result.andThen_ok, invoke, builtin, hmap, Builtin.min_, List.foldlM, h1]
  rfl⟩
theorem rx_idx {t e : TypeId} (hu : P.underlying t = some (.slice e)) (hz : sizeB P e = some 1) {x y : Value} {b o' n c i : Nat} (hx : valT ν x = .slice (some ⟨b, o', none⟩) n c) (hi : i < n) (hy : valT ν y = .pointer (some ⟨b, o' + i, none⟩)) (ho : okV y = true) : Rx.ok P W0 ν ⟨isIdx t, [x, n6 i], y⟩ := ⟨ho, fun o ρ hop hargs w hf => by
  have hop : isIdx t o.op = true := hop
  unfold isIdx at hop
  split at hop <;> try (cases hop; done)
  rename_i u a1 a2 hoc
  have hu' := beq_iff hop
  subst hu'
  rw [hoc] at hargs
  have hargs : ρ a1 = valT ν x ∧ ρ a2 = n6 i := by simpa [Op.operands, valT] using hargs
  have h1 : (Instr.indexAt u (.slice (some ⟨b, o', none⟩) n c) (n6 i)).run P w = .ok (.pointer (some ⟨b, o' + i, none⟩)) w := by
    simp [Instr.indexAt, asIntOf, run_underlying hu, run_size (w := w) hz, add_off, hi]
  simp only [execOp, hoc, hargs.1, hargs.2, hx, hy]
  simp only [Sem.run_bind, h1, Result.andThen_ok, Sem.run_pure]⟩
theorem rx_ld {t : TypeId} (ha : isAggB P t = some false) {x y : Value} {b o' : Nat} {v : Value} (hx : valT ν x = .pointer (some ⟨b, o', none⟩)) (hb : b < W0.w.heap.size) (hm : ¬ W0.may b) (hc : W0.w.cell? ⟨b, o', none⟩ = some v) (hy : valT ν y = v) (ho : okV y = true) : Rx.ok P W0 ν ⟨isLd t, [x], y⟩ := ⟨ho, fun o ρ hop hargs w hf => by
  have hop : isLd t o.op = true := hop
  unfold isLd at hop
  split at hop <;> try (cases hop; done)
  rename_i u a1 hoc
  have hu' := beq_iff hop
  subst hu'
  rw [hoc] at hargs
  have hargs : ρ a1 = valT ν x := by simpa [Op.operands] using hargs
  have hcell : w.cell? ⟨b, o', none⟩ = some v := by rw [hf.cell (p := ⟨b, o', none⟩) hb hm]; exact hc
  have h1 : (Instr.loadAt u (.pointer (some ⟨b, o', none⟩))).run P w = .ok v w := by
    simp [Instr.loadAt, Instr.sureAddr, loadVar, run_agg (w := w) ha, load, Sem.run, hcell]
  simp only [execOp, hoc, hargs, hx, hy]
  simp only [Sem.run_bind, h1, Result.andThen_ok, Sem.run_pure]⟩
theorem flat_map (xs : List Int) : (xs.flatMap fun n => [Value.int .i64 n]) = xs.map (Value.int .i64) := by
  induction xs with
  | nil => rfl
  | cons x l ih => rw [List.flatMap_cons, ih]; rfl
theorem row_get {xs : List Int} {i : Nat} (h : i < xs.length) : ((xs.flatMap fun n => [Value.int .i64 n])[i]?) = some (.int .i64 (xs.getD i 0)) := by
  rw [flat_map, List.getElem?_map, List.getD_eq_getElem?_getD, List.getElem?_eq_getElem h]
  rfl
/-- A slice without its first element. -/
def tailS : Value → Value
  | .slice (some ⟨b, o, none⟩) (n + 1) (c + 1) => .slice (some ⟨b, if c = 0 then o else o + 1, none⟩) n c
  | v => v
theorem rx_sl {t e : TypeId} (hu : P.underlying t = some (.slice e)) (hz : sizeB P e = some 1) {x y : Value} {b o' n c : Nat} (hx : valT ν x = .slice (some ⟨b, o', none⟩) (n + 1) (c + 1)) (hn : n ≤ c) (hy : valT ν y = .slice (some ⟨b, if c = 0 then o' else o' + 1, none⟩) n c) (ho : okV y = true) : Rx.ok P W0 ν ⟨isSl t, [x, n6 1], y⟩ := ⟨ho, fun o ρ hop hargs w hf => by
  have hop : isSl t o.op = true := hop
  unfold isSl at hop
  split at hop <;> try (cases hop; done)
  rename_i u a1 a2 hoc
  have hu' := beq_iff hop
  subst hu'
  rw [hoc] at hargs
  have hargs : ρ a1 = valT ν x ∧ ρ a2 = n6 1 := by simpa [Op.operands, valT] using hargs
  have hbn := bounds_ok (P := P) (w := w) (ν := noToks) (φ := fun _ => none) (sl := true) (len := n + 1) (cap := c + 1) (l := 1) (h := n + 1) (m := c + 1) (lo := some (n6 1)) (lo' := some (n6 1)) (hi := none) (hi' := none) (mx := none) (mx' := none) (.int _ _) trivial trivial rfl rfl rfl (by omega) (by omega) (Nat.le_refl _) rfl
  have h1 : (Instr.sliceAt u (.slice (some ⟨b, o', none⟩) (n + 1) (c + 1)) (some (n6 1)) none none).run P w = .ok (.slice (some ⟨b, if c = 0 then o' else o' + 1, none⟩) n c) w := by
    by_cases hc : c = 0
    · subst hc
      simp [Instr.sliceAt, run_underlying hu, Instr.slice, hbn, run_size (w := w) hz]
    · simp [Instr.sliceAt, run_underlying hu, Instr.slice, hbn, run_size (w := w) hz, hc, add_off]
  simp only [execOp, hoc, hargs.1, hargs.2, hx, hy, Option.map_some, Option.map_none]
  simp only [Sem.run_bind, h1, Result.andThen_ok, Sem.run_pure]⟩
/-- Sums and products that wrap. -/
theorem rl_addW {x y z : Value} {a b : Int} (hx : valT ν x = .int .i64 a) (hy : valT ν y = .int .i64 b) (hz : valT ν z = .int .i64 (IntKind.i64.wrap (a + b))) (ho : okV z = true) : Rl.ok ν ⟨.add, x, y, z⟩ := ⟨.i64, a, .i64, b, hx, hy, fun t => by rw [s_add, hz], ho⟩
theorem rl_mulW {x y z : Value} {a b : Int} (hx : valT ν x = .int .i64 a) (hy : valT ν y = .int .i64 b) (hz : valT ν z = .int .i64 (IntKind.i64.wrap (a * b))) (ho : okV z = true) : Rl.ok ν ⟨.mul, x, y, z⟩ := ⟨.i64, a, .i64, b, hx, hy, fun t => by rw [s_mul, hz], ho⟩
end
end Go.Fv
