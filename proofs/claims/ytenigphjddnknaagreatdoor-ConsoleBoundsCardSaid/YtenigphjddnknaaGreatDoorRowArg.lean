/-
  An argument that is a slice, opened to a row of cells. No program in sight.
-/
import Derived.Test.YtenigphjddnknaaGreatDoorRowC
import Derived.Deep.Slices
import Derived.Deep.Fields
import Derived.ChangeSame
namespace Go.Viv
open Go.ChangeShapes Go.WideShapes Go.Deep Go.RowKit

theorem add_none {a : Addr} (h : a.spot = none) (n : Nat) : a.add n = ⟨a.block, a.off + n, none⟩ := by
  unfold Addr.add
  obtain ⟨b, o, s⟩ := a
  simp only at h
  subst h
  split
  · rename_i hn
    subst hn
    rfl
  · rfl
theorem spot_of_cell {w : World} {a : Addr} {v : Value} (h : w.cell? a = some v) : a.spot = none ∧ a.block < w.heap.size := by
  refine ⟨?_, World.block_lt_of_cell? w a h⟩
  unfold World.cell? at h
  split at h
  · split at h
    · cases h
    · rename_i hs
      simpa using hs
  · cases h

/-- Elements read one by one. -/
theorem each_row {α : Type} {inv : α → Prop} {f : α → List Value} {C : Nat → Value → Prop} {m : Nat} : ∀ (k : Nat), (∀ i, i < k → ∃ v, inv v ∧ ∀ j u, (f v)[j]? = some u → C (i * m + j) u) → ∃ vs : List α, vs.length = k ∧ (∀ v ∈ vs, inv v) ∧ ∀ (i : Nat) (v : α), vs[i]? = some v → ∀ (j : Nat) (u : Value), (f v)[j]? = some u → C (i * m + j) u
  | 0, _ => ⟨[], rfl, by simp, by simp⟩
  | k + 1, h => by
    obtain ⟨vs, h1, h2, h3⟩ := each_row k (fun i hi => h i (by omega))
    obtain ⟨v, hv, hc⟩ := h k (by omega)
    refine ⟨vs ++ [v], by simp [h1], fun x hx => ?_, fun i x hi => ?_⟩
    · rcases List.mem_append.1 hx with hx | hx
      · exact h2 x hx
      · rw [List.mem_singleton.1 hx]; exact hv
    · by_cases hik : i < k
      · rw [List.getElem?_append_left (by omega)] at hi
        exact h3 i x hi
      · rw [List.getElem?_append_right (by omega)] at hi
        have h0 : i - vs.length = 0 := by
          rcases Nat.eq_zero_or_pos (i - vs.length) with h0 | h0
          · exact h0
          · rw [List.getElem?_eq_none (by simp; omega)] at hi; cases hi
        rw [h0] at hi
        obtain rfl : v = x := by simpa using hi
        obtain rfl : i = k := by omega
        exact hc

theorem open_row {H : Type} {enc : TypeId × Value → H} {P : Program} {w : World} {base : Nat} {spare : Nat → Bool} {held : Bool} {α : Type} {inv : α → Prop} {t e : TypeId} {fuel : Nat} {cs : List Value} {x : DataW H × List MemPlace}
    (f : α → List Value) (m : Nat) (hf : ∀ v, (f v).length = m) (hm : 0 < m) (hC : P.cellsOf e = m) (hel : ∀ n cs x, DataW.trod enc P w base spare held n e cs = some x → ∃ v, cs = f v ∧ inv v)
    (ht : P.underlying t = some (.slice e)) (h : DataW.trod enc P w base spare held fuel t cs = some x) :
    ∃ (A : Option Addr) (vs : List α) (cap : Nat), cs = [.slice A vs.length cap] ∧ vs.length ≤ cap ∧ cap ≤ maxLen ∧ RowC w A (vs.flatMap f) ∧ ∀ v ∈ vs, inv v := by
  rcases open_slice ht h with ⟨rfl, _⟩ | ⟨a, len, cap, q, n, D, Pl, rfl, _, hl, hcap, hq, _, hi⟩
  · exact ⟨none, [], 0, rfl, Nat.le_refl _, Nat.zero_le _, .inl rfl, by simp⟩
  · have hlq : len ≤ q := by rw [hq]; split <;> omega
    obtain ⟨vs, h1, h2, h3⟩ := each_row (inv := inv) (f := f) (C := fun k u => w.cell? (a.add k) = some u) (m := m) len (fun i hlt => by
      obtain ⟨cs', hc, ht'⟩ := hi i (by omega)
      obtain ⟨v, rfl, hv⟩ := hel _ _ _ ht'
      rw [hC] at hc
      obtain ⟨_, _, hat⟩ := World.cells?_some hc
      refine ⟨v, hv, fun j u hj => ?_⟩
      have hjm : j < m := by
        rcases Nat.lt_or_ge j m with h | h
        · exact h
        · rw [List.getElem?_eq_none (by rw [hf]; exact h)] at hj; cases hj
      rw [← Go.Deep.add_add, hat j hjm, hj])
    subst h1
    refine ⟨some a, vs, cap, rfl, hl, hcap, ?_, h2⟩
    cases vs with
    | nil => exact .inl rfl
    | cons v0 r =>
      have hu : ∃ u, (f v0)[0]? = some u := ⟨_, List.getElem?_eq_getElem (by rw [hf]; exact hm)⟩
      obtain ⟨u, hu⟩ := hu
      have h0 := h3 0 v0 rfl 0 u hu
      rw [show 0 * m + 0 = 0 by omega, show a.add 0 = a from rfl] at h0
      obtain ⟨hs, hb⟩ := spot_of_cell h0
      refine .inr ⟨a.block, a.off, by cases a; simp only at hs; rw [hs], hb, fun k y hk => ?_⟩
      have hk2 := chunk_get f m hf (v0 :: r) (k / m) (k % m) (Nat.mod_lt _ hm)
      rw [show k / m * m + k % m = k by rw [Nat.mul_comm]; exact Nat.div_add_mod k m, hk] at hk2
      cases hv : (v0 :: r)[k / m]? with
      | none => rw [hv] at hk2; cases hk2
      | some v =>
        rw [hv] at hk2
        have h4 := h3 (k / m) v hv (k % m) y hk2.symm
        rw [show k / m * m + k % m = k by rw [Nat.mul_comm]; exact Nat.div_add_mod k m, add_none hs] at h4
        exact h4
end Go.Viv
namespace Go.Viv
open Go.ChangeShapes Go.WideShapes Go.Deep Go.RowKit

theorem cells_ints : ∀ (cs : List Value), (∀ j, j < cs.length → ∃ n, cs[j]? = some (.int .i64 n) ∧ (Lit.int .i64 n).wf = true) → ∃ ns : List Int, cs = ns.map (Value.int .i64) ∧ ∀ n ∈ ns, (Lit.int .i64 n).wf = true
  | [], _ => ⟨[], rfl, by simp⟩
  | c :: r, h => by
    obtain ⟨n, h1, h2⟩ := h 0 (by simp)
    obtain ⟨ns, h3, h4⟩ := cells_ints r (fun j hj => by
      obtain ⟨n, h1, h2⟩ := h (j + 1) (by simp; omega)
      exact ⟨n, by simpa using h1, h2⟩)
    obtain rfl : c = .int .i64 n := by simpa using h1
    refine ⟨n :: ns, by rw [h3]; rfl, fun x hx => ?_⟩
    rcases List.mem_cons.1 hx with rfl | hx
    · exact h2
    · exact h4 x hx

/-- A struct of whole numbers, cell by cell. -/
theorem elem_ints {H : Type} {enc : TypeId × Value → H} {P : Program} {w : World} {base : Nat} {spare : Nat → Bool} {held : Bool} {t : TypeId} {fs : Array Field} (hs : P.underlying t = some (.struct fs))
    (hone : ∀ (j : Nat) (f : Field), fs[j]? = some f → f.offset = j ∧ P.cellsOf f.type = 1 ∧ P.underlying f.type = some (.int .i64)) (hC : P.cellsOf t = fs.size) {n : Nat} {cs : List Value} {x : DataW H × List MemPlace}
    (h : DataW.trod enc P w base spare held n t cs = some x) : ∃ ns : List Int, cs = ns.map (Value.int .i64) ∧ ns.length = fs.size ∧ ∀ n ∈ ns, (Lit.int .i64 n).wf = true := by
  obtain ⟨xs, m, _, _, hlen, hxl, hf⟩ := DataW.trod_struct hs h
  rw [hC] at hlen
  obtain ⟨ns, h1, h2⟩ := cells_ints cs (fun j hj => by
    have hfj : fs[j]? = some fs[j] := Array.getElem?_eq_getElem (by omega)
    obtain ⟨o, c, u⟩ := hone j _ hfj
    have h1 := hf j _ hfj
    rw [o, c] at h1
    have hx : xs[j]? = some (xs[j]'(by omega)) := List.getElem?_eq_getElem (by omega)
    rw [hx] at h1
    obtain ⟨k, g, _, wf⟩ := DataW.trod_int u h1
    refine ⟨k, ?_, wf⟩
    have h3 : ((cs.drop j).take 1)[0]? = some (.int .i64 k) := by rw [g]; rfl
    rw [List.getElem?_take, if_pos (by decide), List.getElem?_drop, Nat.add_zero] at h3
    exact h3)
  exact ⟨ns, h1, by rw [← hlen, h1, List.length_map], h2⟩
end Go.Viv
