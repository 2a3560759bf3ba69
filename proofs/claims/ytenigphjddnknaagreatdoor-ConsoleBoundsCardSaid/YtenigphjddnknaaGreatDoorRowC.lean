/-
  Rows of cells behind slices; one element appended to a row of one's own. No program in sight.
-/
import Derived.Test.YtenigphjddnknaaGreatDoorBase
import Derived.Maps.AppendAt
namespace Go.Viv
open Go.RowKit Go.Maps

/-- The cells cs lie at A, one behind the other. -/
def RowC (w : World) (A : Option Addr) (cs : List Value) : Prop := cs = [] ∨ ∃ b o, A = some ⟨b, o, none⟩ ∧ b < w.heap.size ∧ ∀ i u, cs[i]? = some u → w.cell? ⟨b, o + i, none⟩ = some u
theorem RowC.fr {w w' : World} {A : Option Addr} {cs : List Value} (h : RowC w A cs) (hf : Fr (fun _ => False) w w') : RowC w' A cs := by
  rcases h with h | ⟨b, o, h1, h2, h3⟩
  · exact .inl h
  · exact .inr ⟨b, o, h1, Nat.lt_of_lt_of_le h2 hf.size, fun i u hi => by rw [hf.cell (p := ⟨b, o + i, none⟩) h2 (fun h => h)]; exact h3 i u hi⟩
theorem rowC_of_own {w : World} {base : Nat} {e : TypeId} {size n : Nat} {v : Value} {xs : List Value} (h : w.ownsRow base e size v n xs) :
    ∃ A cap, v = .slice A n cap ∧ n ≤ cap ∧ cap ≤ maxLen ∧ RowC w A xs := by
  rcases h.2 with ⟨rfl, rfl⟩ | ⟨g, cap, cur, hv, _, hh, h1, h2, h3, h4⟩
  · have h0 : xs = [] := by have := h.1; simp at this; exact this
    exact ⟨none, 0, rfl, Nat.le_refl _, Nat.zero_le _, .inl h0⟩
  · refine ⟨_, cap, hv, h1, h2, .inr ⟨g, 0, rfl, Blk.lt (t := e) hh, fun i u hi => ?_⟩⟩
    rw [Nat.zero_add, Blk.cell (t := e) hh, ← Array.getElem?_toList]
    rw [← h4, List.getElem?_take] at hi
    split at hi
    · exact hi
    · cases hi
theorem RowC.blk {w : World} {g : Nat} {t : TypeId} {cs : Array Value} (h : Blk w g t cs) : RowC w (some ⟨g, 0, none⟩) cs.toList :=
  .inr ⟨g, 0, rfl, h.lt, fun i u hi => by rw [Nat.zero_add, h.cell, ← Array.getElem?_toList]; exact hi⟩

/-- One element is appended. -/
theorem app_one {P : Program} {T E : TypeId} {z : Value} {size bytes : Nat} (hT : P.underlying T = some (.slice E)) (hE : (P.info? E).map (fun i => (i.zero, i.size, i.bytes)) = some (some z, size, bytes)) (hz : z.cells.size = size) (hs : 0 < size)
    {W : World} {base n : Nat} {v : Value} {xs : List Value} (hown : W.ownsRow base E size v n xs) {g : Nat} {cs : Array Value} (hg : Blk W g E cs) (hc : cs.size = size) (h1 : ∀ u ∈ cs.toList, u.oneCell' = true)
    (hn : n + 1 ≤ maxLen) (hb : (n + 1) * bytes ≤ 140737488355328) (hbase : base ≤ W.heap.size) :
    ∃ v' w', appendV P T T v (.slice (some ⟨g, 0, none⟩) 1 1) W = .ok v' w' ∧ w'.ownsRow base E size v' (n + 1) (xs ++ cs.toList) ∧ ∀ V, Fr (fun _ => False) V W → V.heap.size ≤ base → Fr (fun _ => False) V w' := by
  obtain ⟨i0, hi, hz0, hz1, hz2⟩ := info_parts hE
  obtain ⟨v', w', h, ho, hgr, _⟩ := run_append_own_at (P := P) W base T T E i0 z size bytes hT hi hz0 hz1 hz2 hz hs v n xs hown ⟨g, 0, none⟩ 1 1 cs.toList (by simp [hc]) (fun j u hj => by
    rw [show (⟨g, 0, none⟩ : Addr).add j = ⟨g, 0 + j, none⟩ by simp [Addr.add]; omega, Nat.zero_add, hg.cell, ← Array.getElem?_toList]; exact hj) h1 hn hb hbase
  refine ⟨v', w', h, ho, fun V hV hle => hV.grown hgr (fun k hk => .inr ?_)⟩
  have := (hown.lt k hk).1
  omega
end Go.Viv
