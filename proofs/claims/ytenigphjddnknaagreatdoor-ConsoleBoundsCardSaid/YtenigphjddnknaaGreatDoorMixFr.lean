/-
  The walks of regions by footprints. No program in sight.
-/
import Derived.Test.YtenigphjddnknaaGreatDoorBase
import Derived.Test.YtenigphjddnknaaGreatDoorMix
namespace Go.Viv
open Go.RowKit Go.Sort

theorem fr_two {w w1 w2 : World} (h1 : Fr (fun _ => False) w w1) (h2 : Fr (fun _ => False) w1 w2) : Fr (fun _ => False) w w2 := h1.trans h2 (fun _ h => h.elim)
theorem reg_of_fr {W w' : World} (h : Fr (fun _ => False) W w') : ∃ p : Regrown, w' = grow (redrawn W p.d) p.os := regrown_of_below (h.below (Nat.le_refl _) (fun _ h => h.elim))
theorem fr_regrown {V W : World} (h : Fr (fun _ => False) V W) (d : Nat) (os : Array Obj) : Fr (fun _ => False) V (grow (redrawn W d) os) :=
  fr_two h (Fr.of_below (below_regrown W d os))
/-- A contract of a callee that leaves what was there as it was, met in the walk of a region. -/
theorem calls_reg {P : Program} {f : FuncId} {args : Array Value} {W : World} {d : Nat} {os : Array Obj} {v : Value}
    (h : Calls P f args (grow (redrawn W d) os) fun e w' => e = .returned v ∧ Fr (fun _ => False) (grow (redrawn W d) os) w') : Calls P f args (grow (redrawn W d) os) fun e w'' => e = .returned v ∧ ∃ p : Regrown, w'' = grow (redrawn W p.d) p.os :=
  Calls.regrown_of (h.mono fun _ _ ⟨h1, h2⟩ => ⟨h1, h2.below (Nat.le_refl _) (fun _ h => h.elim)⟩)
/-- Behind an operation that a region carries out. -/
theorem behind {K : Act → World → Prop} {a : Act} {W w' : World} (h : Fr (fun _ => False) W w') (hk : K a w') : Mix.Behind (fun w' => ∃ p : Regrown, w' = grow (redrawn W p.d) p.os) K .normal a w' := ⟨rfl, reg_of_fr h, hk⟩
/-- The worlds that are W but for the blocks of S, and new ones. -/
structure Cl (S : Nat → Prop) (W : World) where
  w : World
  fr : Fr S W w
instance (S : Nat → Prop) (W : World) : Inhabited (Cl S W) := ⟨⟨W, Fr.refl _ _⟩⟩
theorem cell_cl {S : Nat → Prop} {W : World} {a : Addr} {v : Value} (h : W.cell? a = some v) (hn : ¬ S a.block) (p : Cl S W) : p.w.cell? a = some v := by
  rw [p.fr.cell (World.block_lt_of_cell? W a h) hn]; exact h
theorem cl_drew (S : Nat → Prop) (W : World) : ∃ p : Cl S W, W.drew = p.w := ⟨⟨W.drew, (Fr.refl _ _).drew⟩, rfl⟩
/-- A contract of a callee, met in a world of the class. -/
theorem calls_cl {P : Program} {f : FuncId} {args : Array Value} {S : Nat → Prop} {W : World} {p : Cl S W} {v : Value} {T : Nat → Prop} (hT : ∀ i, T i → S i ∨ W.heap.size ≤ i)
    (h : Calls P f args p.w fun e w' => e = .returned v ∧ Fr T p.w w') : Calls P f args p.w fun e w'' => e = .returned v ∧ ∃ q : Cl S W, w'' = q.w :=
  h.mono fun _ w' ⟨h1, h2⟩ => ⟨h1, ⟨w', p.fr.trans h2 hT⟩, rfl⟩
/-- Behind an operation that a region carries out. -/
theorem behind_cl {S : Nat → Prop} {K : Act → World → Prop} {a : Act} {W w' : World} (h : Fr S W w') (hk : K a w') : Mix.Behind (fun w' => ∃ p : Cl S W, w' = p.w) K .normal a w' := ⟨rfl, ⟨⟨w', h⟩, rfl⟩, hk⟩
/-- A region that only reads, by its class. -/
theorem wp_region_quiet_cl (S : Nat → Prop) {P : Program} {id : Nat} {Q : Exit → Act → World → Prop} {a : Act} {w : World} {l : List Oper} (hm : P.follows .mixedOrders = true) (hB : Region.lexB .any l.toArray = true)
    (h : wpQuiet P l.toArray (fun w' => ∃ p : Cl S w, w' = p.w) (fun a' => ∀ w', (∃ p : Cl S w, w' = p.w) → Q .normal a' w') l a) : (Code.region id l.toArray true).wp P Q a w :=
  wp_region_quiet (C := fun w' => ∃ p : Cl S w, w' = p.w) hm hB (cl_drew S w) (by simpa using h)
end Go.Viv
