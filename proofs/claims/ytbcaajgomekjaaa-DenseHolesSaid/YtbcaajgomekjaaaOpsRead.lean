/-
  A slice of ops that came in, read.
-/
import Derived.Test.YtbcaajgomekjaaaRowKit
import Derived.Test.YtbcaajgomekjaaaPlayC
import Derived.Deep.Slices
namespace Go.Viv
open Go.ChangeShapes Go.WideShapes Go.ChangeAt Go.RowKit Go.Joins Go.Deep

/-- The cells of a slice that was read. -/
theorem slice_read {H : Type} {enc : TypeId × Value → H} {P : Program} {w : World} {base : Nat} {spare : Nat → Bool} {held : Bool} {t e : TypeId} {fuel : Nat} {A : Option Addr} {n c : Nat} {x : DataW H × List MemPlace} (ht : P.underlying t = some (.slice e)) (hC : 0 < P.cellsOf e)
    (h : DataW.trod enc P w base spare held fuel t [.slice A n c] = some x) :
    (n = 0) ∨ ∃ (b off m : Nat), A = some ⟨b, off, none⟩ ∧ b < w.heap.size ∧ n ≤ maxLen ∧ ∀ i, i < n → ∃ cs' y, cs'.length = P.cellsOf e ∧ (∀ j u, cs'[j]? = some u → w.cell? ⟨b, off + i * P.cellsOf e + j, none⟩ = some u) ∧ DataW.trod enc P w base spare held m e cs' = some y := by
  rcases open_slice ht h with ⟨h0, _⟩ | ⟨a, len, cap, m, n', D, Pl, hcs, hb, hl, hm, hmm, hx, hi⟩
  · left
    injection h0 with h0
    injection h0
  · injection hcs with hcs
    injection hcs with e1 e2 e3
    subst e1 e2 e3
    rcases Nat.eq_zero_or_pos n with h0 | h0
    · exact .inl h0
    · right
      have hmn : n ≤ m := by rw [hmm]; split <;> omega
      obtain ⟨b, off, spot⟩ := a
      have key : ∀ i, i < n → ∃ cs', cs'.length = P.cellsOf e ∧ (∀ j u, cs'[j]? = some u → w.cell? ((Addr.mk b off spot).add (i * P.cellsOf e + j)) = some u) ∧ DataW.trod enc P w base spare held n' e cs' = some (D i, Pl i) := by
        intro i hin
        obtain ⟨cs', hc, ht'⟩ := hi i (by omega)
        obtain ⟨_, hcl, hat⟩ := World.cells?_some hc
        refine ⟨cs', hcl, fun j u hu => ?_, ht'⟩
        have hj : j < cs'.length := (List.getElem?_eq_some_iff.1 hu).1
        rw [← Go.Deep.add_add, hat j (by omega), hu]
      have hsp : spot = none ∧ b < w.heap.size := by
        obtain ⟨cs', hcl, hat, _⟩ := key 0 h0
        have h1 := hat 0 (cs'[0]'(by omega)) (List.getElem?_eq_getElem (by omega))
        have hadd : (Addr.mk b off spot).add (0 * P.cellsOf e + 0) = Addr.mk b off spot := by simp [Addr.add]
        rw [hadd] at h1
        have hlt := World.block_lt_of_cell? w _ h1
        refine ⟨?_, hlt⟩
        unfold World.cell? at h1
        split at h1
        · split at h1
          · cases h1
          · rename_i hs
            cases spot with
            | none => rfl
            | some _ => exact absurd rfl hs
        · cases h1
      obtain ⟨rfl, hlt⟩ := hsp
      refine ⟨b, off, n', rfl, hlt, by omega, fun i hin => ?_⟩
      obtain ⟨cs', hcl, hat, htt⟩ := key i hin
      refine ⟨cs', _, hcl, fun j u hu => ?_, htt⟩
      have h1 := hat j u hu
      have hadd : (Addr.mk b off none).add (i * P.cellsOf e + j) = ⟨b, off + i * P.cellsOf e + j, none⟩ := by
        unfold Addr.add
        split
        · rename_i h
          rw [show off + i * P.cellsOf e + j = off by omega]
        · simp only [Addr.mk.injEq, and_true, true_and]; omega
      rw [hadd] at h1
      exact h1
end Go.Viv

namespace Go.Proofs.Ytbcaajgomekjaaa
open Go.ChangeShapes Go.WideShapes Go.ChangeAt Go.RowKit Go.Joins Go.Viv

theorem cells40 : Try.prog.cellsOf 40 = 5 := by kernel_rfl
theorem cells3 : Try.prog.cellsOf 3 = 1 := by kernel_rfl
theorem cells2 : Try.prog.cellsOf 2 = 1 := by kernel_rfl

theorem read_op {H : Type} {enc : TypeId × Value → H} {w : World} {base : Nat} {spare : Nat → Bool} {held : Bool} {fuel : Nat} {cs : List Value} {x : DataW H × List MemPlace} (h : DataW.trod enc Try.prog w base spare held fuel 40 cs = some x) :
    ∃ o : OpD, cs = [.int .i64 o.kd, .int .i64 o.i, .int .i64 o.v.k, .int .i64 o.v.a, .int .i64 o.v.b] ∧ (Lit.int .i64 o.i).wf = true := by
  obtain ⟨xs, n, _, _, hl, hxl, hf⟩ := DataW.trod_struct Try.underlying40 h
  rw [cells40] at hl
  match cs, hl with
  | [c0, c1, c2, c3, c4], _ =>
    have f0 := hf 0 _ rfl
    have f1 := hf 1 _ rfl
    have f2 := hf 2 _ rfl
    match xs, hxl with
    | [x0, x1, x2], _ =>
      simp [cells3, cells23] at f0 f1 f2
      obtain ⟨a0, e0, _, _⟩ := DataW.trod_int Try.underlying3 f0
      obtain ⟨a1, e1, _, w1⟩ := DataW.trod_int Try.underlying3 f1
      obtain ⟨ys, m, _, _, _, hyl, hg⟩ := DataW.trod_struct Try.underlying23 f2
      match ys, hyl with
      | [y0, y1, y2], _ =>
        have g0 := hg 0 _ rfl
        have g1 := hg 1 _ rfl
        have g2 := hg 2 _ rfl
        simp [cells3, cells2] at g0 g1 g2
        obtain ⟨b0, d0, _, _⟩ := DataW.trod_int Try.underlying3 g0
        obtain ⟨b1, d1, _, _⟩ := DataW.trod_int Try.underlying2 g1
        obtain ⟨b2, d2, _, _⟩ := DataW.trod_int Try.underlying2 g2
        simp at e0 e1 d0 d1 d2
        subst e0 e1 d0 d1 d2
        exact ⟨⟨a0, a1, ⟨b0, b1, b2⟩⟩, rfl, w1⟩

/-- The list of what a function tells of the numbers below n. -/
theorem list_of {α : Type} (n : Nat) (Q : Nat → α → Prop) (h : ∀ i, i < n → ∃ a, Q i a) : ∃ l : List α, l.length = n ∧ ∀ i a, l[i]? = some a → Q i a := by
  induction n with
  | zero => exact ⟨[], rfl, fun i a hi => by simp at hi⟩
  | succ n ih =>
    obtain ⟨l, hl, hq⟩ := ih (fun i hi => h i (by omega))
    obtain ⟨a, ha⟩ := h n (by omega)
    refine ⟨l ++ [a], by simp [hl], fun i b hb => ?_⟩
    rcases Nat.lt_or_ge i n with hlt | hge
    · rw [List.getElem?_append_left (by omega)] at hb
      exact hq i b hb
    · rw [List.getElem?_append_right (by omega)] at hb
      have : i - l.length = 0 := by
        rcases Nat.eq_zero_or_pos (i - l.length) with h0 | h0
        · exact h0
        · rw [List.getElem?_eq_none (by simp; omega)] at hb; cases hb
      rw [this] at hb
      simp at hb
      obtain rfl : i = n := by omega
      subst hb
      exact ha

theorem read_ops {H : Type} {enc : TypeId × Value → H} {w : World} {base : Nat} {spare : Nat → Bool} {held : Bool} {A : Option Addr} {n c : Nat} {d : DataW H} {ps : List MemPlace} (h : DataW.Trod enc Try.prog w base spare held 33 (.slice A n c) d ps) : ∃ os, SlOps w A n os := by
  obtain ⟨fuel, hf⟩ := h
  rcases slice_read Try.underlying33 (by rw [cells40]; omega) hf with h0 | ⟨b, off, m, rfl, hb, _, hi⟩
  · subst h0
    exact ⟨[], rfl, by simp, fun h => by omega⟩
  · obtain ⟨l, hl, hq⟩ := list_of n (fun k (o : OpD) => (Lit.int .i64 o.i).wf = true ∧ w.cell? ⟨b, off + k * 5, none⟩ = some (.int .i64 o.kd) ∧ w.cell? ⟨b, off + k * 5 + 1, none⟩ = some (.int .i64 o.i) ∧ w.cell? ⟨b, off + k * 5 + 2, none⟩ = some (.int .i64 o.v.k) ∧ w.cell? ⟨b, off + k * 5 + 3, none⟩ = some (.int .i64 o.v.a) ∧ w.cell? ⟨b, off + k * 5 + 4, none⟩ = some (.int .i64 o.v.b)) (fun k hk => by
      obtain ⟨cs', y, hcl, hat, htt⟩ := hi k hk
      obtain ⟨o, rfl, hw⟩ := read_op htt
      rw [cells40] at hat
      exact ⟨o, hw, hat 0 _ rfl, hat 1 _ rfl, hat 2 _ rfl, hat 3 _ rfl, hat 4 _ rfl⟩)
    refine ⟨l, hl, fun o ho => ?_, fun _ => ⟨b, off, rfl, hb, fun k o ho => (hq k o ho).2⟩⟩
    obtain ⟨k, hk⟩ := List.mem_iff_getElem?.1 ho
    exact (hq k o hk).1
end Go.Proofs.Ytbcaajgomekjaaa
