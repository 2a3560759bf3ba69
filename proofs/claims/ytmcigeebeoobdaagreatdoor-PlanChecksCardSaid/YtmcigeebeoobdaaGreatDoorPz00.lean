/-
  Several texts in one. Frames by footprints, blocks known whole, and maps of ints as partial functions: helpers without a program in sight.
-/
import Derived.WalkKit
import Derived.Maps.OwnSet
import Derived.Deep.AppendLies
import Derived.Deep.Draws
import Derived.Laws.Rows
import Derived.Maps.AppendAt
import Derived.Deep.Slices
import Derived.Deep.Fields
import Derived.ChangeSame
import Derived.Test.YtmcigeebeoobdaaGreatDoorRows
import Derived.ProofKit
import Derived.OpenShut
import Derived.Lib.SmallJoins
import Derived.Lay
import Derived.LaidMore
import Derived.Lib.LaidTab
import Derived.Stop.LaidErr
import Derived.Stop.Joined
import Derived.MakeChecks
import Derived.HandedShaped
import Derived.Shelf.Vars
import Derived.SevenTiedAt
import Derived.SizedLaws
import Derived.ChangeMaps5
import Derived.Deep.DeepHandedRow
import Derived.OrdersHeld
import Derived.Lib.QuietBelow
import Derived.BigQuiet
import Derived.KernelRfl
section
namespace Go.Viv
open Go.RowKit Go.Maps

/-- w' is w but for the blocks of S, and new ones. -/
structure Fr (S : Nat → Prop) (w w' : World) : Prop where
  os : w'.os = w.os
  tape : w'.tape = w.tape
  output : w'.output = w.output
  size : w.heap.size ≤ w'.heap.size
  block : ∀ k, k < w.heap.size → ¬ S k → w'.heap[k]? = w.heap[k]?

theorem Fr.refl (S : Nat → Prop) (w : World) : Fr S w w := ⟨rfl, rfl, rfl, Nat.le_refl _, fun _ _ _ => rfl⟩
theorem Fr.trans {S T : Nat → Prop} {a b c : World} (h : Fr S a b) (k : Fr T b c) (hT : ∀ i, T i → S i ∨ a.heap.size ≤ i) : Fr S a c :=
  ⟨k.os.trans h.os, k.tape.trans h.tape, k.output.trans h.output, Nat.le_trans h.size k.size, fun i hi hn =>
    (k.block i (Nat.lt_of_lt_of_le hi h.size) (fun ht => by rcases hT i ht with h1 | h1; exact hn h1; omega)).trans (h.block i hi hn)⟩
theorem Fr.mono {S T : Nat → Prop} {a b : World} (h : Fr S a b) (hST : ∀ i, i < a.heap.size → S i → T i) : Fr T a b :=
  ⟨h.os, h.tape, h.output, h.size, fun i hi hn => h.block i hi (fun hs => hn (hST i hi hs))⟩
theorem Fr.drew {S : Nat → Prop} {a b : World} (h : Fr S a b) : Fr S a b.drew := ⟨h.os, h.tape, h.output, h.size, h.block⟩
theorem Fr.drewN {S : Nat → Prop} {a b : World} (h : Fr S a b) (n : Nat) : Fr S a (b.drewN n) := ⟨h.os, h.tape, h.output, h.size, h.block⟩
theorem Fr.alloc {S : Nat → Prop} {a b : World} (h : Fr S a b) (o : Obj) : Fr S a (b.alloc o) :=
  ⟨h.os, h.tape, h.output, Nat.le_trans h.size (by simp), fun i hi hn => (Below.heap_alloc b o i (Nat.lt_of_lt_of_le hi h.size)).trans (h.block i hi hn)⟩
theorem Fr.setCell {S : Nat → Prop} {a b : World} (h : Fr S a b) {p : Addr} (hp : S p.block ∨ a.heap.size ≤ p.block) (u : Value) : Fr S a (b.setCell p u) :=
  ⟨h.os, h.tape, h.output, by simpa [World.setCell] using h.size, fun i hi hn => (Below.heap_setCell b p u i (by
    rintro rfl
    rcases hp with hp | hp
    · exact hn hp
    · omega)).trans (h.block i hi hn)⟩
theorem Fr.grown {S : Nat → Prop} {a b c : World} {row : Option Nat} (h : Fr S a b) (hg : b.grownBy c row) (hr : ∀ k, row = some k → S k ∨ a.heap.size ≤ k) : Fr S a c :=
  ⟨hg.os.trans h.os, hg.tape.trans h.tape, hg.output.trans h.output, Nat.le_trans h.size hg.size, fun i hi hn =>
    (hg.block i (Nat.lt_of_lt_of_le hi h.size) (fun e => by rcases hr i e.symm with h1 | h1; exact hn h1; omega)).trans (h.block i hi hn)⟩
theorem Fr.below {S : Nat → Prop} {a b : World} {B : Nat} (h : Fr S a b) (hB : B ≤ a.heap.size) (hS : ∀ i, S i → B ≤ i) : Below B a b :=
  ⟨h.os, h.tape, h.output, h.size, fun k hk => h.block k (by omega) (fun hs => by have := hS k hs; omega)⟩
theorem Fr.of_below {S : Nat → Prop} {a b : World} (h : Below a.heap.size a b) : Fr S a b := ⟨h.os, h.tape, h.output, h.size, fun k hk _ => h.block k hk⟩
theorem Fr.cell {S : Nat → Prop} {a b : World} (h : Fr S a b) {p : Addr} (hp : p.block < a.heap.size) (hn : ¬ S p.block) : b.cell? p = a.cell? p :=
  World.cell?_of_block (h.block p.block hp hn)

/-- Block g is just the cells cs of element type t, none frozen. -/
def Blk (w : World) (g : Nat) (t : TypeId) (cs : Array Value) : Prop := w.heap[g]? = some (.cells cs t (0, 0))

section
variable {w w' : World} {g : Nat} {t : TypeId} {cs : Array Value}
theorem Blk.lt (h : Blk w g t cs) : g < w.heap.size := by
  rcases Nat.lt_or_ge g w.heap.size with hlt | hge
  · exact hlt
  · unfold Blk at h; rw [Array.getElem?_eq_none hge] at h; cases h
theorem Blk.cell (h : Blk w g t cs) (i : Nat) : w.cell? ⟨g, i, none⟩ = cs[i]? := cell_of_row w g i cs t (0, 0) h
theorem Blk.frozen (h : Blk w g t cs) (i : Nat) : w.frozen? ⟨g, i, none⟩ = false := by
  unfold Blk at h
  simp [World.frozen?, h]
theorem Blk.new (w : World) (t : TypeId) (cs : Array Value) : Blk (w.alloc (.cells cs t)) w.heap.size t cs := heap_alloc_new w _
theorem Blk.drew (h : Blk w g t cs) : Blk w.drew g t cs := h
theorem Blk.drewN (h : Blk w g t cs) (n : Nat) : Blk (w.drewN n) g t cs := h
theorem Blk.alloc (h : Blk w g t cs) (o : Obj) : Blk (w.alloc o) g t cs := (Below.heap_alloc w o g h.lt).trans h
theorem Blk.set_ (h : Blk w g t cs) (i : Nat) (u : Value) : Blk (w.setCell ⟨g, i, none⟩ u) g t (cs.setIfInBounds i u) := by
  unfold Blk at h ⊢
  simp [World.setCell, Array.getElem?_modify, h]
theorem Blk.far (h : Blk w g t cs) {p : Addr} (hp : g ≠ p.block) (u : Value) : Blk (w.setCell p u) g t cs := (Below.heap_setCell w p u g hp).trans h
theorem Blk.below {B : Nat} (h : Blk w g t cs) (hb : Below B w w') (hg : g < B) : Blk w' g t cs := (hb.block g hg).trans h
theorem Blk.grown {row : Option Nat} (h : Blk w g t cs) (hb : w.grownBy w' row) (hg : some g ≠ row) : Blk w' g t cs := (hb.block g h.lt hg).trans h
theorem Blk.fr {S : Nat → Prop} (h : Blk w g t cs) (hb : Fr S w w') (hg : ¬ S g) : Blk w' g t cs := (hb.block g h.lt hg).trans h
theorem Blk.ne_ {g' : Nat} {t' : TypeId} {cs' : Array Value} (h : Blk w g t cs) (h' : Blk w g' t' cs') (hne : t ≠ t') : g ≠ g' := by
  rintro rfl
  unfold Blk at h h'
  rw [h] at h'
  injection h' with h'
  injection h' with _ ht
  exact hne ht
end

/-- Block b is a map of ints to ints, of at most n entries, that holds just f. -/
def IMap (w : World) (P : Program) (k e : TypeId) (b n : Nat) (f : Int → Option Int) : Prop :=
  ∃ D : DataW Unit, w.ownsMap P k (plainElem P e) b n D ∧ ∀ i : Int, match f i with
    | some v => Maps.has D (.int .i64 i) = true ∧ ∀ z, D.atKey (.int .i64 i) z = .lit (.int .i64 v)
    | none => Maps.has D (.int .i64 i) = false

section
variable {w w' : World} {P : Program} {k e : TypeId} {b n : Nat} {f : Int → Option Int}
theorem IMap.lt (h : IMap w P k e b n f) : b < w.heap.size := let ⟨_, h1, _⟩ := h; h1.lt
theorem IMap.heap (h : IMap w P k e b n f) : ∃ es clock, w.heap[b]? = some (.map es clock) := let ⟨_, ⟨es, c, h1, _⟩, _⟩ := h; ⟨es, c, h1⟩
theorem IMap.of_block (h : IMap w P k e b n f) (hb : w'.heap[b]? = w.heap[b]?) : IMap w' P k e b n f := by
  obtain ⟨D, ⟨es, c, h1, r⟩, h2⟩ := h
  exact ⟨D, ⟨es, c, hb.trans h1, r⟩, h2⟩
theorem IMap.fr {S : Nat → Prop} (h : IMap w P k e b n f) (hf : Fr S w w') (hn : ¬ S b) : IMap w' P k e b n f := h.of_block (hf.block b h.lt hn)
theorem IMap.mono (h : IMap w P k e b n f) {m : Nat} (hm : n ≤ m) : IMap w P k e b m f := let ⟨D, h1, h2⟩ := h; ⟨D, h1.mono hm, h2⟩
theorem IMap.made (w : World) (P : Program) (k e : TypeId) : IMap (w.alloc (.map #[] 0)) P k e w.heap.size 0 (fun _ => none) :=
  ⟨_, World.ownsMap_made w P k _, fun _ => rfl⟩
theorem IMap.ne_blk {g : Nat} {t : TypeId} {cs : Array Value} (h : IMap w P k e b n f) (hg : Blk w g t cs) : b ≠ g := by
  rintro rfl
  obtain ⟨es, c, h1⟩ := h.heap
  unfold Blk at hg
  rw [hg] at h1
  cases h1

theorem IMap.look {t : TypeId} (h : IMap w P k e b n f) (hk : P.underlying k = some (.int .i64)) (he : P.underlying e = some (.int .i64)) (ht : P.underlying t = some (.map k e))
    (hz : ∀ w, (zeroValue e).run P w = .ok (.int .i64 0) w) {i : Int} (hi : (Lit.int .i64 i).wf = true) :
    (Instr.lookup t (.map (some b)) (.int .i64 i) true).run P w = .ok (.tuple #[.int .i64 ((f i).getD 0), .bool (f i).isSome]) w := by
  obtain ⟨D, h1, h2⟩ := h
  obtain ⟨v, ps, hr, hv⟩ := h1.look_ok (int_keyed hk) ht (hz w) (plainElem_int he (a := 0) (by decide)) (keyOf_int_mk hk hi)
  have h3 := h2 i
  obtain ⟨c, rfl, hc, hwc⟩ := plainElem_int_inv he hv
  cases hf : f i with
  | none =>
    rw [hf] at h3
    have h4 := Maps.atKey_of_not_has h3 (.lit (.int .i64 0))
    have h5 := congrArg Prod.fst hc
    simp only at h5
    rw [h4] at h5
    injection h5 with h5
    injection h5 with _ h5
    rw [hr, h3]
    simp [← h5]
  | some u =>
    rw [hf] at h3
    have h5 := congrArg Prod.fst hc
    simp only at h5
    rw [h3.2] at h5
    injection h5 with h5
    injection h5 with _ h5
    rw [hr, h3.1]
    simp [← h5]

theorem IMap.store {t : TypeId} (h : IMap w P k e b n f) (hk : P.underlying k = some (.int .i64)) (he : P.underlying e = some (.int .i64)) (ht : P.underlying t = some (.map k e))
    (hn : n < maxLen) {i v : Int} (hi : (Lit.int .i64 i).wf = true) (hv : (Lit.int .i64 v).wf = true) :
    ∃ w', (Instr.mapUpdate t (.map (some b)) (.int .i64 i) (.int .i64 v)).run P w = .ok () w' ∧ IMap w' P k e b (n + 1) (fun j => if j = i then some v else f j) ∧ w.grownBy w' (some b) := by
  obtain ⟨D, h1, h2⟩ := h
  obtain ⟨w', hr, ho, hm⟩ := h1.store (int_keyed hk) ht hn (keyOf_int_mk hk hi) (plainElem_int he hv)
  refine ⟨w', hr, ⟨_, ho, fun j => ?_⟩, hm.grown⟩
  by_cases hj : j = i
  · subst hj
    simp only [if_true]
    exact ⟨Maps.has_put_same h1.isMap (by simp [WideAt.IsKeyLit]) _, fun z => Maps.atKey_put_same h1.isMap (by simp [WideAt.IsKeyLit]) _ z⟩
  · simp only [if_neg hj]
    have hne : (Lit.int .i64 j) ≠ .int .i64 i := fun hh => hj (by injection hh)
    have h3 := h2 j
    cases hf : f j with
    | none => rw [hf] at h3; simp only at h3 ⊢; rw [Maps.has_put_other hne]; exact h3
    | some u =>
      rw [hf] at h3
      simp only at h3 ⊢
      exact ⟨by rw [Maps.has_put_other hne]; exact h3.1, fun z => by rw [Maps.atKey_put_other hne]; exact h3.2 z⟩

theorem IMap.drop {t : TypeId} (h : IMap w P k e b n f) (hk : P.underlying k = some (.int .i64)) (ht : P.underlying t = some (.map k e))
    {i : Int} (hi : (Lit.int .i64 i).wf = true) (ty : TypeId) :
    ∃ w', (Builtin.delete_ #[t, k] ty #[.map (some b), .int .i64 i]).run P w = .ok (.tuple #[]) w' ∧ IMap w' P k e b n (fun j => if j = i then none else f j) ∧ w.grownBy w' (some b) := by
  obtain ⟨D, h1, h2⟩ := h
  obtain ⟨w', hr, ho, hm⟩ := h1.drop (int_keyed hk) ht (keyOf_int_mk hk hi) ty
  refine ⟨w', hr, ⟨_, ho, fun j => ?_⟩, hm.grown⟩
  by_cases hj : j = i
  · subst hj
    simp only [if_true]
    exact Maps.has_del_same
  · simp only [if_neg hj]
    have hne : (Lit.int .i64 j) ≠ .int .i64 i := fun hh => hj (by injection hh)
    have h3 := h2 j
    cases hf : f j with
    | none => rw [hf] at h3; simp only at h3 ⊢; rw [Maps.has_del_other hne]; exact h3
    | some u =>
      rw [hf] at h3
      simp only at h3 ⊢
      exact ⟨by rw [Maps.has_del_other hne]; exact h3.1, fun z => by rw [Maps.atKey_del_other hne]; exact h3.2 z⟩
end

end Go.Viv

namespace Go.Viv
open Go.RowKit Go.Maps

/-- A row of m cells each. -/
theorem chunk_get {α : Type} (f : α → List Value) (m : Nat) (hf : ∀ x, (f x).length = m) : ∀ (l : List α) (k c : Nat), c < m → (l.flatMap f)[k * m + c]? = (l[k]?).bind (fun x => (f x)[c]?)
  | [], k, c, _ => by simp
  | x :: r, 0, c, hc => by simp [List.getElem?_append_left (show c < (f x).length by rw [hf]; exact hc)]
  | x :: r, k + 1, c, hc => by
    rw [List.flatMap_cons, List.getElem?_append_right (by rw [hf, Nat.succ_mul]; omega), hf, show (k + 1) * m + c - m = k * m + c by rw [Nat.succ_mul]; omega, chunk_get f m hf r k c hc]
    simp
theorem chunk_len {α : Type} (f : α → List Value) (m : Nat) (hf : ∀ x, (f x).length = m) : ∀ (l : List α), (l.flatMap f).length = l.length * m
  | [] => by simp
  | x :: r => by rw [List.flatMap_cons, List.length_append, chunk_len f m hf r, hf, List.length_cons, Nat.succ_mul, Nat.add_comm]

/-- A row that is nobody's but one's own lies in one block, or is nil. -/
theorem own_cases {w : World} {base : Nat} {e : TypeId} {size n : Nat} {v : Value} {xs : List Value} (h : w.ownsRow base e size v n xs) (hn : 0 < n) :
    ∃ g cap cur, v = .slice (some ⟨g, 0, none⟩) n cap ∧ n ≤ cap ∧ cap ≤ maxLen ∧ Blk w g e cur ∧ cur.size = cap * size ∧ cur.toList.take (n * size) = xs := by
  rcases h.2 with ⟨_, h0⟩ | ⟨g, cap, cur, hv, _, hh, h1, h2, h3, h4⟩
  · omega
  · exact ⟨g, cap, cur, hv, h1, h2, hh, h3, h4⟩
theorem own_len {w : World} {base : Nat} {e : TypeId} {size n : Nat} {v : Value} {xs : List Value} (h : w.ownsRow base e size v n xs) : ∃ A cap, v = .slice A n cap ∧ n ≤ cap := by
  rcases h.2 with ⟨rfl, rfl⟩ | ⟨g, cap, cur, rfl, _, _, h1, _⟩
  · exact ⟨none, 0, rfl, Nat.le_refl _⟩
  · exact ⟨_, cap, rfl, h1⟩
theorem own_fr {w w' : World} {S : Nat → Prop} {base : Nat} {e : TypeId} {size n : Nat} {v : Value} {xs : List Value} (h : w.ownsRow base e size v n xs) (hf : Fr S w w') (hS : ∀ k, v.ownBlock = some k → ¬ S k) : w'.ownsRow base e size v n xs := by
  obtain ⟨h1, h2⟩ := h
  refine ⟨h1, ?_⟩
  rcases h2 with h2 | ⟨g, cap, cur, hv, hb, hh, r⟩
  · exact .inl h2
  · refine .inr ⟨g, cap, cur, hv, hb, ?_, r⟩
    subst hv
    rw [hf.block g (Blk.lt (t := e) hh) (hS g rfl)]
    exact hh
theorem own_blk_ne {w : World} {base g : Nat} {e t : TypeId} {size n : Nat} {v : Value} {xs : List Value} {cs : Array Value} (h : w.ownsRow base e size v n xs) (hg : Blk w g t cs) (hne : e ≠ t) : v.ownBlock ≠ some g := by
  rcases h.2 with ⟨rfl, _⟩ | ⟨g', cap, cur, rfl, _, hh, _⟩
  · simp [Value.ownBlock]
  · intro he
    have : g' = g := by simpa [Value.ownBlock] using he
    subst this
    exact Blk.ne_ (t := e) hh hg hne rfl
theorem own_map_ne {w : World} {base b m : Nat} {e : TypeId} {size n : Nat} {v : Value} {xs : List Value} {P : Program} {k' e' : TypeId} {f : Int → Option Int} (h : w.ownsRow base e size v n xs) (hm : IMap w P k' e' b m f) : v.ownBlock ≠ some b := by
  rcases h.2 with ⟨rfl, _⟩ | ⟨g', cap, cur, rfl, _, hh, _⟩
  · simp [Value.ownBlock]
  · intro he
    have : g' = b := by simpa [Value.ownBlock] using he
    subst this
    exact (hm.ne_blk (t := e) hh) rfl

theorem nodup_le {α : Type} [DecidableEq α] : ∀ (l m : List α), l.Nodup → (∀ x ∈ l, x ∈ m) → l.length ≤ m.length
  | [], _, _, _ => by simp
  | x :: r, m, hn, hs => by
    have hx : x ∈ m := hs x (by simp)
    have h1 := nodup_le r (m.erase x) (List.nodup_cons.1 hn).2 (fun y hy => (List.mem_erase_of_ne (fun e => (List.nodup_cons.1 hn).1 (by rw [← e]; exact hy))).2 (hs y (by simp [hy])))
    have h2 := List.length_erase_of_mem hx
    have h3 := List.length_pos_of_mem hx
    simp only [List.length_cons]
    omega

/-- A map holds no more entries than the keys that it may have. -/
theorem IMap.shrink {w : World} {P : Program} {k e : TypeId} {b n : Nat} {f : Int → Option Int} (h : IMap w P k e b n f) (hk : P.underlying k = some (.int .i64)) (l : List Int) (hl : ∀ i v, f i = some v → i ∈ l) : IMap w P k e b l.length f := by
  obtain ⟨D, ⟨es, c, h1, F, hs, hD⟩, h2⟩ := h
  refine ⟨D, ⟨es, c, h1, F, ?_, hD⟩, h2⟩
  have K := int_keyed (P := P) hk
  have hap := Maps.fit_apart K F
  have hlen : (es.toList.map (WideElems.rg P k (plainElem (H := Unit) P e))).length = es.size := by simp
  have hmem : ∀ p ∈ es.toList.map (WideElems.rg P k (plainElem (H := Unit) P e)), ∃ i : Int, p.1 = Lit.int .i64 i ∧ i ∈ l := by
    intro p hp
    obtain ⟨x, hx, rfl⟩ := List.mem_map.1 hp
    obtain ⟨y, hy⟩ := F.reads x hx
    have hk' : ∃ i : Int, y.1 = Lit.int .i64 i := by
      have hkey := WideElems.rd_key hy
      unfold keyOf mapKey at hkey
      rw [hk] at hkey
      simp only at hkey
      cases hx' : x.key <;> simp [hx'] at hkey
      all_goals exact ⟨_, hkey.2.symm⟩
    obtain ⟨i, hi⟩ := hk'
    have hrg := WideElems.rg_of hy
    refine ⟨i, by rw [hrg, hi], ?_⟩
    have hh : Maps.has D (.int .i64 i) = true := by
      rw [hD]
      refine List.any_eq_true.2 ⟨y, (WideShapes.sorted_perm _).mem_iff.2 (by rw [← hrg]; exact hp), ?_⟩
      rw [hi]
      exact WideAt.sameKey_self (by simp [WideAt.IsKeyLit])
    have h3 := h2 i
    cases hf : f i with
    | none => rw [hf] at h3; simp only at h3; rw [h3] at hh; cases hh
    | some v => exact hl i v hf
  have hgo : ∀ L : List (Lit × DataW Unit), L.Pairwise (fun p q => p.1 ≠ q.1) → (∀ p ∈ L, ∃ i : Int, p.1 = Lit.int .i64 i ∧ i ∈ l) → ∃ m : List Int, m.length = L.length ∧ m.Nodup ∧ (∀ i ∈ m, i ∈ l) ∧ ∀ i ∈ m, ∃ p ∈ L, p.1 = Lit.int .i64 i := by
    intro L
    induction L with
    | nil => intro _ _; exact ⟨[], rfl, List.nodup_nil, by simp, by simp⟩
    | cons p r ih =>
      intro hp hq
      obtain ⟨hp1, hp2⟩ := List.pairwise_cons.1 hp
      obtain ⟨m, m1, m2, m3, m4⟩ := ih hp2 (fun q hq' => hq q (by simp [hq']))
      obtain ⟨i, hi, hil⟩ := hq p (by simp)
      refine ⟨i :: m, by simp [m1], List.nodup_cons.2 ⟨fun him => ?_, m2⟩, ?_, ?_⟩
      · obtain ⟨q, hq1, hq2⟩ := m4 i him
        exact hp1 q hq1 (by rw [hi, hq2])
      · intro j hj
        rcases List.mem_cons.1 hj with rfl | hj
        · exact hil
        · exact m3 j hj
      · intro j hj
        rcases List.mem_cons.1 hj with rfl | hj
        · exact ⟨p, by simp, hi⟩
        · obtain ⟨q, hq1, hq2⟩ := m4 j hj
          exact ⟨q, by simp [hq1], hq2⟩
  obtain ⟨m, m1, m2, m3, _⟩ := hgo _ hap hmem
  have := nodup_le m l m2 m3
  omega
end Go.Viv

namespace Go.Viv
open Go.RowKit Go.Maps

theorem chunk_set {α : Type} (f : α → List Value) (m : Nat) (hf : ∀ x, (f x).length = m) : ∀ (l : List α) (k : Nat) (x : α), k < l.length → (l.set k x).flatMap f = (l.flatMap f).take (k * m) ++ f x ++ (l.flatMap f).drop (k * m + m)
  | [], k, x, h => by simp at h
  | y :: r, 0, x, _ => by
    rw [List.set_cons_zero, List.flatMap_cons, List.flatMap_cons, Nat.zero_mul, List.take_zero, Nat.zero_add, ← hf y, List.drop_left, List.nil_append]
  | y :: r, k + 1, x, h => by
    have ih := chunk_set f m hf r k x (by simpa using h)
    have e1 : (k + 1) * m = (f y).length + k * m := by rw [hf, Nat.succ_mul, Nat.add_comm]
    have e2 : (k + 1) * m + m = (f y).length + (k * m + m) := by rw [e1, Nat.add_assoc]
    rw [List.set_cons_succ, List.flatMap_cons, ih, List.flatMap_cons, e2, e1, List.take_length_add_append, List.drop_length_add_append]
    simp [List.append_assoc]

theorem Fr.alloc1 (S : Nat → Prop) (w : World) (o : Obj) : Fr S w (w.alloc o) := (Fr.refl S w).alloc o
theorem own_in {w : World} {base : Nat} {e : TypeId} {size n : Nat} {v : Value} {xs : List Value} (h : w.ownsRow base e size v n xs) : ∀ k, v.ownBlock = some k → k < w.heap.size := fun k hk => (h.lt k hk).2
end Go.Viv

namespace Go.Viv
open Go.RowKit Go.Maps

/-- What append does, as one word. -/
def appendV (P : Program) (t ty : TypeId) (s x : Value) (w : World) : Result Value := (Builtin.append_ #[t, t] ty #[s, x]).run P w

theorem wp_appendV (P : Program) (dst : Option Tmp) (s x : Operand) (t ty : TypeId) (ps : String) (af : Array Edge) (gd : Option (Nat × Bool)) (a : Act) (w : World) (K : Act → World → Prop) (Q : Exit → Act → World → Prop) :
    Oper.wp P { dst := dst, op := .call { callee := .builtin .append, args := #[s, x], argTypes := #[t, t] }, type := ty, pos := ps, after := af, guard := gd } a w K Q =
      Oper.upon P { dst := dst, op := .call { callee := .builtin .append, args := #[s, x], argTypes := #[t, t] }, type := ty, pos := ps, after := af, guard := gd } a K Q ((appendV P t ty (a.eval s) (a.eval x) w).andThen fun v w' => .ok (.value v) w') := by
  unfold Oper.wp execOp appendV
  simp only [resolve, invoke, builtin, Sem.run_bind, Sem.run_pure, Result.andThen_ok, List.map_toArray, List.map_cons, List.map_nil]
/-- What delete does, as one word. -/
def deleteV (P : Program) (t k ty : TypeId) (s x : Value) (w : World) : Result Value := (Builtin.delete_ #[t, k] ty #[s, x]).run P w

theorem wp_deleteV (P : Program) (dst : Option Tmp) (s x : Operand) (t k ty : TypeId) (ps : String) (af : Array Edge) (gd : Option (Nat × Bool)) (a : Act) (w : World) (K : Act → World → Prop) (Q : Exit → Act → World → Prop) :
    Oper.wp P { dst := dst, op := .call { callee := .builtin .delete, args := #[s, x], argTypes := #[t, k] }, type := ty, pos := ps, after := af, guard := gd } a w K Q =
      Oper.upon P { dst := dst, op := .call { callee := .builtin .delete, args := #[s, x], argTypes := #[t, k] }, type := ty, pos := ps, after := af, guard := gd } a K Q ((deleteV P t k ty (a.eval s) (a.eval x) w).andThen fun v w' => .ok (.value v) w') := by
  unfold Oper.wp execOp deleteV
  simp only [resolve, invoke, builtin, Sem.run_bind, Sem.run_pure, Result.andThen_ok, List.map_toArray, List.map_cons, List.map_nil]

/-- Cells laid one behind the other. -/
def setAll : List Value → Nat → List Value → List Value
  | xs, _, [] => xs
  | xs, o, y :: ys => setAll (xs.set o y) (o + 1) ys
theorem setAll_eq : ∀ (ys xs : List Value) (o : Nat), o + ys.length ≤ xs.length → setAll xs o ys = xs.take o ++ ys ++ xs.drop (o + ys.length)
  | [], xs, o, _ => by simp [setAll]
  | y :: ys, xs, o, h => by
    have h' : o + ys.length + 1 ≤ xs.length := by simpa [Nat.add_assoc] using h
    rw [setAll, setAll_eq ys (xs.set o y) (o + 1) (by simp; omega)]
    have ho : o < xs.length := by omega
    have hA : (xs.take o).length = o := by simp; omega
    rw [List.set_eq_take_append_cons_drop, if_pos ho]
    have e1 : (xs.take o ++ y :: xs.drop (o + 1)).take (o + 1) = xs.take o ++ [y] := by
      rw [List.take_append, hA, show o + 1 - o = 1 by omega, List.take_of_length_le (by omega)]
      simp
    have e2 : (xs.take o ++ y :: xs.drop (o + 1)).drop (o + 1 + ys.length) = xs.drop (o + (y :: ys).length) := by
      rw [List.drop_append, hA, show o + 1 + ys.length - o = ys.length + 1 by omega, List.drop_of_length_le (by omega), List.drop_succ_cons, List.drop_drop, List.nil_append, List.length_cons]
      congr 1
      omega
    rw [e1, e2]
    simp
def setCells (w : World) (g : Nat) : Nat → List Value → World
  | _, [] => w
  | o, y :: ys => setCells (w.setCell ⟨g, o, none⟩ y) g (o + 1) ys
theorem own_setCells {base : Nat} {e : TypeId} {size n g cap : Nat} : ∀ (ys : List Value) (w : World) (xs : List Value) (o : Nat), w.ownsRow base e size (.slice (some ⟨g, 0, none⟩) n cap) n xs → (setCells w g o ys).ownsRow base e size (.slice (some ⟨g, 0, none⟩) n cap) n (setAll xs o ys)
  | [], _, _, _, h => h
  | y :: ys, _, _, o, h => own_setCells ys _ _ (o + 1) (h.stored o y).1
theorem fr_setCells {g : Nat} : ∀ (ys : List Value) (w : World) (o : Nat), Fr (fun x => x = g) w (setCells w g o ys)
  | [], w, _ => Fr.refl _ w
  | y :: ys, w, o => (Fr.setCell (S := fun x => x = g) (Fr.refl _ w) (.inl rfl) y).trans (fr_setCells ys _ (o + 1)) (fun _ h => .inl h)
/-- One row of m cells stored anew. -/
theorem own_set_row {α : Type} {f : α → List Value} {m : Nat} (hf : ∀ x, (f x).length = m) {w : World} {base : Nat} {e : TypeId} {g cap : Nat} {l : List α} (h : w.ownsRow base e m (.slice (some ⟨g, 0, none⟩) l.length cap) l.length (l.flatMap f)) {k : Nat} (hk : k < l.length) (x : α) :
    (setCells w g (k * m) (f x)).ownsRow base e m (.slice (some ⟨g, 0, none⟩) l.length cap) l.length ((l.set k x).flatMap f) := by
  have h1 := own_setCells (f x) w _ (k * m) h
  have hle : (k + 1) * m ≤ l.length * m := Nat.mul_le_mul_right m hk
  rw [Nat.succ_mul] at hle
  rw [setAll_eq _ _ _ (by rw [hf, chunk_len f m hf]; exact hle), hf, ← chunk_set f m hf l k x hk] at h1
  exact h1
end Go.Viv
end

/-
  Rows of cells behind slices; one element appended to a row of one's own. No program in sight.
-/
section
namespace Go.Viv
open Go.RowKit Go.Maps

/-- The cells cs lie at A, one behind the other. -/
def RowC (w : World) (A : Option Addr) (cs : List Value) : Prop := cs = [] ∨ ∃ b o, A = some ⟨b, o, none⟩ ∧ b < w.heap.size ∧ ∀ i u, cs[i]? = some u → w.cell? ⟨b, o + i, none⟩ = some u
theorem RowC.fr {w w' : World} {A : Option Addr} {cs : List Value} (h : RowC w A cs) (hf : Fr (fun _ => False) w w') : RowC w' A cs := by
  rcases h with h | ⟨b, o, h1, h2, h3⟩
  · exact .inl h
  · exact .inr ⟨b, o, h1, Nat.lt_of_lt_of_le h2 hf.size, fun i u hi => by rw [hf.cell (p := ⟨b, o + i, none⟩) h2 (fun h => h)]; exact h3 i u hi⟩
theorem rowC_of_own {w : World} {base : Nat} {e : TypeId} {size n : Nat} {v : Value} {xs : List Value} (h : w.ownsRow base e size v n xs) :
    ∃ A cap, v = .slice A n cap ∧ n ≤ cap ∧ cap ≤ maxLen ∧ RowC w A xs := by
  rcases h.2 with ⟨rfl, rfl⟩ | ⟨g, cap, cur, hv, _, hh, h1, h2, h3, h4⟩
  · have h0 : xs = [] := by have := h.1; simp at this; exact this
    exact ⟨none, 0, rfl, Nat.le_refl _, Nat.zero_le _, .inl h0⟩
  · refine ⟨_, cap, hv, h1, h2, .inr ⟨g, 0, rfl, Blk.lt (t := e) hh, fun i u hi => ?_⟩⟩
    rw [Nat.zero_add, Blk.cell (t := e) hh, ← Array.getElem?_toList]
    rw [← h4, List.getElem?_take] at hi
    split at hi
    · exact hi
    · cases hi
theorem RowC.blk {w : World} {g : Nat} {t : TypeId} {cs : Array Value} (h : Blk w g t cs) : RowC w (some ⟨g, 0, none⟩) cs.toList :=
  .inr ⟨g, 0, rfl, h.lt, fun i u hi => by rw [Nat.zero_add, h.cell, ← Array.getElem?_toList]; exact hi⟩

/-- One element is appended. -/
theorem app_one {P : Program} {T E : TypeId} {z : Value} {size bytes : Nat} (hT : P.underlying T = some (.slice E)) (hE : (P.info? E).map (fun i => (i.zero, i.size, i.bytes)) = some (some z, size, bytes)) (hz : z.cells.size = size) (hs : 0 < size)
    {W : World} {base n : Nat} {v : Value} {xs : List Value} (hown : W.ownsRow base E size v n xs) {g : Nat} {cs : Array Value} (hg : Blk W g E cs) (hc : cs.size = size) (h1 : ∀ u ∈ cs.toList, u.oneCell' = true)
    (hn : n + 1 ≤ maxLen) (hb : (n + 1) * bytes ≤ 140737488355328) (hbase : base ≤ W.heap.size) :
    ∃ v' w', appendV P T T v (.slice (some ⟨g, 0, none⟩) 1 1) W = .ok v' w' ∧ w'.ownsRow base E size v' (n + 1) (xs ++ cs.toList) ∧ ∀ V, Fr (fun _ => False) V W → V.heap.size ≤ base → Fr (fun _ => False) V w' := by
  obtain ⟨i0, hi, hz0, hz1, hz2⟩ := info_parts hE
  obtain ⟨v', w', h, ho, hgr, _⟩ := run_append_own_at (P := P) W base T T E i0 z size bytes hT hi hz0 hz1 hz2 hz hs v n xs hown ⟨g, 0, none⟩ 1 1 cs.toList (by simp [hc]) (fun j u hj => by
    rw [show (⟨g, 0, none⟩ : Addr).add j = ⟨g, 0 + j, none⟩ by simp [Addr.add]; omega, Nat.zero_add, hg.cell, ← Array.getElem?_toList]; exact hj) h1 hn hb hbase
  refine ⟨v', w', h, ho, fun V hV hle => hV.grown hgr (fun k hk => .inr ?_)⟩
  have := (hown.lt k hk).1
  omega
end Go.Viv
end

/-
  An argument that is a slice, opened to a row of cells. No program in sight.
-/
section
namespace Go.Viv
open Go.ChangeShapes Go.WideShapes Go.Deep Go.RowKit

theorem add_none {a : Addr} (h : a.spot = none) (n : Nat) : a.add n = ⟨a.block, a.off + n, none⟩ := by
  unfold Addr.add
  obtain ⟨b, o, s⟩ := a
  simp only at h
  subst h
  split
  · rename_i hn
    subst hn
    rfl
  · rfl
theorem spot_of_cell {w : World} {a : Addr} {v : Value} (h : w.cell? a = some v) : a.spot = none ∧ a.block < w.heap.size := by
  refine ⟨?_, World.block_lt_of_cell? w a h⟩
  unfold World.cell? at h
  split at h
  · split at h
    · cases h
    · rename_i hs
      simpa using hs
  · cases h

/-- Elements read one by one. -/
theorem each_row {α : Type} {inv : α → Prop} {f : α → List Value} {C : Nat → Value → Prop} {m : Nat} : ∀ (k : Nat), (∀ i, i < k → ∃ v, inv v ∧ ∀ j u, (f v)[j]? = some u → C (i * m + j) u) → ∃ vs : List α, vs.length = k ∧ (∀ v ∈ vs, inv v) ∧ ∀ (i : Nat) (v : α), vs[i]? = some v → ∀ (j : Nat) (u : Value), (f v)[j]? = some u → C (i * m + j) u
  | 0, _ => ⟨[], rfl, by simp, by simp⟩
  | k + 1, h => by
    obtain ⟨vs, h1, h2, h3⟩ := each_row k (fun i hi => h i (by omega))
    obtain ⟨v, hv, hc⟩ := h k (by omega)
    refine ⟨vs ++ [v], by simp [h1], fun x hx => ?_, fun i x hi => ?_⟩
    · rcases List.mem_append.1 hx with hx | hx
      · exact h2 x hx
      · rw [List.mem_singleton.1 hx]; exact hv
    · by_cases hik : i < k
      · rw [List.getElem?_append_left (by omega)] at hi
        exact h3 i x hi
      · rw [List.getElem?_append_right (by omega)] at hi
        have h0 : i - vs.length = 0 := by
          rcases Nat.eq_zero_or_pos (i - vs.length) with h0 | h0
          · exact h0
          · rw [List.getElem?_eq_none (by simp; omega)] at hi; cases hi
        rw [h0] at hi
        obtain rfl : v = x := by simpa using hi
        obtain rfl : i = k := by omega
        exact hc

theorem open_row {H : Type} {enc : TypeId × Value → H} {P : Program} {w : World} {base : Nat} {spare : Nat → Bool} {held : Bool} {α : Type} {inv : α → Prop} {t e : TypeId} {fuel : Nat} {cs : List Value} {x : DataW H × List MemPlace}
    (f : α → List Value) (m : Nat) (hf : ∀ v, (f v).length = m) (hm : 0 < m) (hC : P.cellsOf e = m) (hel : ∀ n cs x, DataW.trod enc P w base spare held n e cs = some x → ∃ v, cs = f v ∧ inv v)
    (ht : P.underlying t = some (.slice e)) (h : DataW.trod enc P w base spare held fuel t cs = some x) :
    ∃ (A : Option Addr) (vs : List α) (cap : Nat), cs = [.slice A vs.length cap] ∧ vs.length ≤ cap ∧ cap ≤ maxLen ∧ RowC w A (vs.flatMap f) ∧ ∀ v ∈ vs, inv v := by
  rcases open_slice ht h with ⟨rfl, _⟩ | ⟨a, len, cap, q, n, D, Pl, rfl, _, hl, hcap, hq, _, hi⟩
  · exact ⟨none, [], 0, rfl, Nat.le_refl _, Nat.zero_le _, .inl rfl, by simp⟩
  · have hlq : len ≤ q := by rw [hq]; split <;> omega
    obtain ⟨vs, h1, h2, h3⟩ := each_row (inv := inv) (f := f) (C := fun k u => w.cell? (a.add k) = some u) (m := m) len (fun i hlt => by
      obtain ⟨cs', hc, ht'⟩ := hi i (by omega)
      obtain ⟨v, rfl, hv⟩ := hel _ _ _ ht'
      rw [hC] at hc
      obtain ⟨_, _, hat⟩ := World.cells?_some hc
      refine ⟨v, hv, fun j u hj => ?_⟩
      have hjm : j < m := by
        rcases Nat.lt_or_ge j m with h | h
        · exact h
        · rw [List.getElem?_eq_none (by rw [hf]; exact h)] at hj; cases hj
      rw [← Go.Deep.add_add, hat j hjm, hj])
    subst h1
    refine ⟨some a, vs, cap, rfl, hl, hcap, ?_, h2⟩
    cases vs with
    | nil => exact .inl rfl
    | cons v0 r =>
      have hu : ∃ u, (f v0)[0]? = some u := ⟨_, List.getElem?_eq_getElem (by rw [hf]; exact hm)⟩
      obtain ⟨u, hu⟩ := hu
      have h0 := h3 0 v0 rfl 0 u hu
      rw [show 0 * m + 0 = 0 by omega, show a.add 0 = a from rfl] at h0
      obtain ⟨hs, hb⟩ := spot_of_cell h0
      refine .inr ⟨a.block, a.off, by cases a; simp only at hs; rw [hs], hb, fun k y hk => ?_⟩
      have hk2 := chunk_get f m hf (v0 :: r) (k / m) (k % m) (Nat.mod_lt _ hm)
      rw [show k / m * m + k % m = k by rw [Nat.mul_comm]; exact Nat.div_add_mod k m, hk] at hk2
      cases hv : (v0 :: r)[k / m]? with
      | none => rw [hv] at hk2; cases hk2
      | some v =>
        rw [hv] at hk2
        have h4 := h3 (k / m) v hv (k % m) y hk2.symm
        rw [show k / m * m + k % m = k by rw [Nat.mul_comm]; exact Nat.div_add_mod k m, add_none hs] at h4
        exact h4
end Go.Viv
namespace Go.Viv
open Go.ChangeShapes Go.WideShapes Go.Deep Go.RowKit

theorem cells_ints : ∀ (cs : List Value), (∀ j, j < cs.length → ∃ n, cs[j]? = some (.int .i64 n) ∧ (Lit.int .i64 n).wf = true) → ∃ ns : List Int, cs = ns.map (Value.int .i64) ∧ ∀ n ∈ ns, (Lit.int .i64 n).wf = true
  | [], _ => ⟨[], rfl, by simp⟩
  | c :: r, h => by
    obtain ⟨n, h1, h2⟩ := h 0 (by simp)
    obtain ⟨ns, h3, h4⟩ := cells_ints r (fun j hj => by
      obtain ⟨n, h1, h2⟩ := h (j + 1) (by simp; omega)
      exact ⟨n, by simpa using h1, h2⟩)
    obtain rfl : c = .int .i64 n := by simpa using h1
    refine ⟨n :: ns, by rw [h3]; rfl, fun x hx => ?_⟩
    rcases List.mem_cons.1 hx with rfl | hx
    · exact h2
    · exact h4 x hx

/-- A struct of whole numbers, cell by cell. -/
theorem elem_ints {H : Type} {enc : TypeId × Value → H} {P : Program} {w : World} {base : Nat} {spare : Nat → Bool} {held : Bool} {t : TypeId} {fs : Array Field} (hs : P.underlying t = some (.struct fs))
    (hone : ∀ (j : Nat) (f : Field), fs[j]? = some f → f.offset = j ∧ P.cellsOf f.type = 1 ∧ P.underlying f.type = some (.int .i64)) (hC : P.cellsOf t = fs.size) {n : Nat} {cs : List Value} {x : DataW H × List MemPlace}
    (h : DataW.trod enc P w base spare held n t cs = some x) : ∃ ns : List Int, cs = ns.map (Value.int .i64) ∧ ns.length = fs.size ∧ ∀ n ∈ ns, (Lit.int .i64 n).wf = true := by
  obtain ⟨xs, m, _, _, hlen, hxl, hf⟩ := DataW.trod_struct hs h
  rw [hC] at hlen
  obtain ⟨ns, h1, h2⟩ := cells_ints cs (fun j hj => by
    have hfj : fs[j]? = some fs[j] := Array.getElem?_eq_getElem (by omega)
    obtain ⟨o, c, u⟩ := hone j _ hfj
    have h1 := hf j _ hfj
    rw [o, c] at h1
    have hx : xs[j]? = some (xs[j]'(by omega)) := List.getElem?_eq_getElem (by omega)
    rw [hx] at h1
    obtain ⟨k, g, _, wf⟩ := DataW.trod_int u h1
    refine ⟨k, ?_, wf⟩
    have h3 : ((cs.drop j).take 1)[0]? = some (.int .i64 k) := by rw [g]; rfl
    rw [List.getElem?_take, if_pos (by decide), List.getElem?_drop, Nat.add_zero] at h3
    exact h3)
  exact ⟨ns, h1, by rw [← hlen, h1, List.length_map], h2⟩
end Go.Viv
end

/-
  From a walk to the given row. No program in sight.
-/
section
namespace Go.Viv
open Go.ChangeShapes Go.WideShapes Go.ChangeAt Go.RowKit Go.Joins

/-- Arguments read behind the call as they did before it. -/
theorem trodAll_stays {H : Type} {enc : TypeId × Value → H} {P : Program} (hl : laidOutB P = true) {W W' : World} (hb : Below W.heap.size W W') : ∀ (ts : List TypeId) (vs : List Value) (ds : List (DataW H)) (ps : List MemPlace),
    (ts.all fun t => P.readableRec t && decide (t < P.types.size)) = true → DataW.TrodAll enc P W 0 (fun _ => true) true ts vs ds ps → (∀ x ∈ ps, x.block < W.heap.size) → DataW.TrodAll enc P W' 0 (fun b => decide (b < W.heap.size)) true ts vs ds ps
  | [], vs, ds, ps, _, h, _ => by
    obtain ⟨rfl, rfl, rfl⟩ := trodAll_nil h
    exact trodAll_mk0
  | t :: ts, vs, ds, ps, ht, h, hp => by
    obtain ⟨v0, vs0, d0, ds0, p0, q0, rfl, rfl, rfl, h0, r0⟩ := trodAll_cons h
    simp only [List.all_cons, Bool.and_eq_true, decide_eq_true_eq] at ht
    exact trodAll_cons_mk (Below.trod hl ht.1.1 ht.1.2 h0 hb (fun x hx => hp x (by simp [hx]))) (trodAll_stays hl hb ts vs0 ds0 q0 ht.2 r0 (fun x hx => hp x (by simp [hx])))

theorem trodAll_lt {H : Type} {enc : TypeId × Value → H} {P : Program} {W : World} {base : Nat} {sp : Nat → Bool} {held : Bool} : ∀ (ts : List TypeId) (vs : List Value) (ds : List (DataW H)) (ps : List MemPlace),
    DataW.TrodAll enc P W base sp held ts vs ds ps → ∀ x ∈ ps, x.block < W.heap.size
  | [], vs, ds, ps, h => by
    obtain ⟨rfl, rfl, rfl⟩ := trodAll_nil h
    simp
  | t :: ts, vs, ds, ps, h => by
    obtain ⟨v0, vs0, d0, ds0, p0, q0, rfl, rfl, rfl, h0, r0⟩ := trodAll_cons h
    intro x hx
    rcases List.mem_append.1 hx with hx | hx
    · obtain ⟨m, hm⟩ := h0
      exact DataW.trod_lt m _ _ _ hm x hx
    · exact trodAll_lt ts vs0 ds0 q0 r0 x hx
end Go.Viv

namespace Go.Viv
open Go.ChangeShapes Go.WideShapes Go.ChangeAt Go.RowKit Go.Joins
variable {H : Type} {enc : TypeId × Value → H}
/-- The wrap of a tied row, the world's shape kept for the walk. -/
theorem returnsIn_shaped_and {a : Assume} {C : Checked} {os : Os} {f : FuncId} {fn : Func} {s : ChangeSpec} {conds : List PathCond} {apart fresh handsOn again : Bool} {X : World → Array Value → Prop}
    (hX : ∀ (w w' : World) (args : Array Value), w.heap = w'.heap → X w args → X w' args)
    (own : ownKnob C.prog.godebug = none) (started : os.Started) (noInit : C.prog.inits.idxOf? f = none) (hfn : C.prog.funcs[f]? = some fn)
    (witness : ∃ (w : World) (tape : Tape) (i : Input), w.os = os ∧ (w.forCall tape i).Shaped C.prog ∧ i.vars = [] ∧ Input.okWide C.prog (w.forCall tape i) .any w.heap.size f i ∧
      ((s.pre enc C.prog fn conds apart (w.forCall tape i).memory i.args ∧ X (w.forCall tape i).memory i.args) ∧ sizedMet enc C.prog fn (OpenSpec.ofChange s) apart (w.forCall tape i).memory i.args) ∧ a.holds C.prog (lone (Frame.enter C.prog f i.args .normal) [] (w.forCall tape i)))
    (contract : ∀ (W : World) (base : Nat) (args : Array Value) (ds gs : List (DataW H)) (before : List MemPlace), W.ShapedOpen C.prog →
      (∀ (j : Nat) t v, fn.params[j]? = some t → args[j]? = some v → Value.okWide C.prog W .any base t v) →
      DataW.Whole enc C.prog fn.params.toList s.vars apart W args.toList ds gs before →
      (DataW.weightsEach C.prog (fn.params.toList ++ s.plain.varTypes C.prog) (ds ++ gs)).all (· ≤ reachBytes) = true → X W args →
      Calls C.prog f args W fun e W' => ∃ v, e = .returned v ∧ s.post enc C.prog fn apart fresh handsOn again W args v W') :
    ReturnsInHanded a C os f .any (fun w args => (s.pre enc C.prog fn conds apart w args ∧ X w args) ∧ sizedMet enc C.prog fn (OpenSpec.ofChange s) apart w args) (s.post enc C.prog fn apart fresh handsOn again) := by
  refine returnsInHanded_of_calls own started noInit witness ?_
  intro w tape i _ hsh _ hok hpre _
  obtain ⟨_, _, _, fn', hfn', _, _, _, _, hval⟩ := hok
  obtain rfl : fn' = fn := Option.some.inj (hfn'.symm.trans hfn)
  obtain ⟨⟨⟨ds, gs, before, hw, _⟩, hx⟩, hz⟩ := hpre
  refine (contract (w.forCall tape i) w.heap.size i.args ds gs before hsh hval (DataW.Whole.of_heap (w' := w.forCall tape i) (by rfl) hw) (hz.weights hw) (hX _ _ _ (by rfl) hx)).mono fun e W' ⟨v, he, hp⟩ => ?_
  subst he
  exact ChangeSpec.post_blind hp
end Go.Viv
namespace Go.Viv
/-- There is an input that fits, at a world whose shape is shown. -/
theorem witness_row_shaped {H : Type} {enc : TypeId × Value → H} {C : Checked} {os : Os} {f : FuncId} {fn : Func} {s : OpenSpec} {conds : List PathCond} {apart : Bool} {laid : List (String × DataW Unit)} (modest : Bool) (w0 : World) (args : Array Value) (hos : w0.os = os)
    (hsh : (w0.forCall (fun _ _ => 0) ⟨#[], args, []⟩).Shaped C.prog)
    (hok : Input.okWideB C.prog (w0.forCall (fun _ _ => 0) ⟨#[], args, []⟩) f ⟨#[], args, []⟩ = true)
    (hrow : s.preRow enc C.prog fn conds apart laid (w0.forCall (fun _ _ => 0) ⟨#[], args, []⟩).memory args) :
    ∃ (w : World) (tape : Tape) (i : Input), w.os = os ∧ (w.forCall tape i).Shaped C.prog ∧ i.vars = [] ∧ Input.okWide C.prog (w.forCall tape i) .any w.heap.size f i ∧
      s.preRow enc C.prog fn conds apart laid (w.forCall tape i).memory i.args ∧ ({ modest := modest } : Assume).holds C.prog (lone (Frame.enter C.prog f i.args .normal) [] (w.forCall tape i)) :=
  ⟨w0, fun _ _ => 0, ⟨#[], args, []⟩, hos, hsh, (Input.okWide_of_okWideB (base := 0) hok).1, (Input.okWide_of_okWideB hok).2, hrow, by
    simp only [Assume.holds]
    exact ⟨by simp, by simp, fun _ => Modest.zero, by simp, by simp⟩⟩
end Go.Viv
end

/-
  Rows of whole numbers, rising ones, and a number laid into one; a row appended to a row of one's own. No program in sight.
-/
section
namespace Go.Viv
open Go.RowKit Go.Maps

/-- The cells of whole numbers. -/
def ints (l : List Int) : List Value := l.map (Value.int .i64)
theorem ints_len (l : List Int) : (ints l).length = l.length := by simp [ints]
theorem ints_one (l : List Int) : ∀ u ∈ ints l, u.oneCell' = true := by
  intro u hu
  obtain ⟨x, _, rfl⟩ := List.mem_map.1 hu
  rfl
theorem ints_app (a b : List Int) : ints (a ++ b) = ints a ++ ints b := by simp [ints]
theorem rowN_at {w : World} {A : Option Addr} {l : List Int} (h : RowC w A (ints l)) {k : Nat} {x : Int} (hk : l[k]? = some x) : ∃ b o, A = some ⟨b, o, none⟩ ∧ b < w.heap.size ∧ w.cell? ⟨b, o + k, none⟩ = some (.int .i64 x) := by
  rcases h with h | ⟨b, o, h1, h2, h3⟩
  · cases l with
    | nil => simp at hk
    | cons x r => simp [ints] at h
  · exact ⟨b, o, h1, h2, h3 k _ (by simp [ints, hk])⟩
theorem RowC.take {w : World} {A : Option Addr} {cs : List Value} (h : RowC w A cs) (k : Nat) : RowC w A (cs.take k) := by
  rcases h with h | ⟨b, o, h1, h2, h3⟩
  · exact .inl (by rw [h]; simp)
  · refine .inr ⟨b, o, h1, h2, fun i u hi => h3 i u ?_⟩
    rw [List.getElem?_take] at hi
    split at hi
    · exact hi
    · cases hi
theorem RowC.drop {w : World} {b o : Nat} {cs : List Value} (h : RowC w (some ⟨b, o, none⟩) cs) (k : Nat) : RowC w (some ⟨b, o + k, none⟩) (cs.drop k) := by
  rcases h with h | ⟨b', o', h1, h2, h3⟩
  · exact .inl (by rw [h]; simp)
  · injection h1 with h1
    injection h1 with e1 e2
    subst e1 e2
    refine .inr ⟨b, o + k, rfl, h2, fun i u hi => ?_⟩
    rw [Nat.add_assoc]
    exact h3 (k + i) u (by rw [← hi, List.getElem?_drop])
theorem RowC.nil_of_none {w : World} {cs : List Value} (h : RowC w none cs) : cs = [] := by
  rcases h with h | ⟨b, o, h1, _⟩
  · exact h
  · cases h1

/-- A row of ints, wherever its source lies, appended to a row of one's own. -/
theorem app_any {P : Program} {T E : TypeId} {z : Value} {size bytes : Nat} (hT : P.underlying T = some (.slice E)) (hE : (P.info? E).map (fun i => (i.zero, i.size, i.bytes)) = some (some z, size, bytes)) (hz : z.cells.size = size) (hs : 0 < size)
    {W : World} {base n : Nat} {v : Value} {xs : List Value} (hown : W.ownsRow base E size v n xs) {A : Option Addr} {m c : Nat} {news : List Value} (hsrc : RowC W A news) (hA : ∀ a, A = some a → ∃ b o, a = ⟨b, o, none⟩) (hl : news.length = m * size) (h1 : ∀ u ∈ news, u.oneCell' = true)
    (hn : n + m ≤ maxLen) (hb : (n + m) * bytes ≤ 140737488355328) (hbase : base ≤ W.heap.size) :
    ∃ v' w', appendV P T T v (.slice A m c) W = .ok v' w' ∧ w'.ownsRow base E size v' (n + m) (xs ++ news) ∧ ∀ V, Fr (fun _ => False) V W → V.heap.size ≤ base → Fr (fun _ => False) V w' := by
  obtain ⟨i0, hi, hz0, hz1, hz2⟩ := info_parts hE
  rcases A with _ | a
  · have hnil := hsrc.nil_of_none
    subst hnil
    have hm : m = 0 := by
      rcases Nat.eq_zero_or_pos m with h | h
      · exact h
      · have : 0 < m * size := Nat.mul_pos h hs
        simp at hl
        omega
    subst hm
    refine ⟨v, W, ?_, by simpa using hown, fun V hV _ => hV⟩
    unfold appendV
    rcases hown.2 with ⟨rfl, rfl⟩ | ⟨g, cap, cur, rfl, _, _, hnc, _⟩
    · simp [Builtin.append_, run_underlying hT, sizeOf, typeInfo, hi, Builtin.lenOf, Builtin.firstCells]
    · simp [Builtin.append_, run_underlying hT, sizeOf, typeInfo, hi, Builtin.lenOf, Builtin.firstCells, hnc, storeCells]
  · obtain ⟨b, o, rfl⟩ := hA a rfl
    obtain ⟨v', w', h, ho, hgr, _⟩ := run_append_own_at (P := P) W base T T E i0 z size bytes hT hi hz0 hz1 hz2 hz hs v n xs hown ⟨b, o, none⟩ m c news hl (fun j u hj => by
      rw [show (⟨b, o, none⟩ : Addr).add j = ⟨b, o + j, none⟩ from by unfold Addr.add; split <;> simp_all]
      rcases hsrc with hn0 | ⟨b', o', hA, _, hc⟩
      · rw [hn0] at hj; simp at hj
      · injection hA with hA
        injection hA with hA1 hA2
        subst hA1 hA2
        exact hc j u hj) h1 hn hb hbase
    refine ⟨v', w', h, ho, fun V hV hle => hV.grown hgr (fun k hk => .inr ?_)⟩
    have := (hown.lt k hk).1
    omega

/-- Rising, each once. -/
def Rises : List Int → Prop
  | [] => True
  | [_] => True
  | a :: b :: r => a < b ∧ Rises (b :: r)
theorem Rises.tail {a : Int} {r : List Int} (h : Rises (a :: r)) : Rises r := by
  cases r with
  | nil => trivial
  | cons b r => exact h.2
theorem Rises.lt {a : Int} : ∀ {r : List Int}, Rises (a :: r) → ∀ x ∈ r, a < x
  | [], _, x, hx => by simp at hx
  | b :: r, h, x, hx => by
    rcases List.mem_cons.1 hx with rfl | hx
    · exact h.1
    · exact Int.lt_trans h.1 (Rises.lt (a := b) (r := r) h.2 x hx)
theorem Rises.cons {a : Int} {r : List Int} (h : Rises r) (hl : ∀ x ∈ r, a < x) : Rises (a :: r) := by
  cases r with
  | nil => trivial
  | cons b r => exact ⟨hl b (by simp), h⟩
/-- A number laid into a rising row. -/
def insS (i : Int) : List Int → List Int
  | [] => [i]
  | a :: r => if a < i then a :: insS i r else if a = i then a :: r else i :: a :: r
/-- Where it stands, or would. -/
def posS (i : Int) : List Int → Nat
  | [] => 0
  | a :: r => if a < i then posS i r + 1 else 0
theorem posS_le (i : Int) : ∀ l, posS i l ≤ l.length
  | [] => by simp [posS]
  | a :: r => by
    have := posS_le i r
    unfold posS
    split <;> simp <;> omega
theorem posS_lt {i : Int} : ∀ {l : List Int}, Rises l → ∀ {m : Nat} {x : Int}, l[m]? = some x → (x < i ↔ m < posS i l)
  | [], _, m, x, h => by simp at h
  | a :: r, hr, 0, x, h => by
    have e : a = x := by simpa using h
    subst e
    unfold posS
    split <;> simp [*]
  | a :: r, hr, m + 1, x, h => by
    have hx : r[m]? = some x := by simpa using h
    have ih := posS_lt (i := i) hr.tail hx
    unfold posS
    split
    · rw [ih]; omega
    · have := hr.lt x (List.mem_of_getElem? hx)
      constructor
      · intro h; omega
      · intro h; omega
theorem mem_insS {i x : Int} : ∀ {l : List Int}, x ∈ insS i l ↔ x = i ∨ x ∈ l
  | [] => by simp [insS]
  | a :: r => by
    unfold insS
    split
    · simp [mem_insS (l := r)]; constructor <;> (rintro (h | h | h) <;> simp [h])
    · split
      · rename_i h; subst h; simp
      · simp
theorem rises_insS {i : Int} : ∀ {l : List Int}, Rises l → Rises (insS i l)
  | [], _ => trivial
  | a :: r, h => by
    unfold insS
    split
    · rename_i hlt
      refine Rises.cons (rises_insS h.tail) (fun x hx => ?_)
      rcases mem_insS.1 hx with rfl | hx
      · exact hlt
      · exact h.lt x hx
    · split
      · exact h
      · exact ⟨by omega, h⟩
/-- It is there already. -/
theorem insS_there {i : Int} : ∀ {l : List Int}, l[posS i l]? = some i → insS i l = l
  | [], h => by simp at h
  | a :: r, h => by
    unfold insS posS at *
    split
    · rename_i hlt
      rw [if_pos hlt] at h
      rw [insS_there (l := r) (by simpa using h)]
    · rename_i hlt
      rw [if_neg hlt] at h
      have e : a = i := by simpa using h
      rw [if_pos e]
/-- It is laid in. -/
theorem insS_new {i : Int} : ∀ {l : List Int}, l[posS i l]? ≠ some i → insS i l = l.take (posS i l) ++ [i] ++ l.drop (posS i l)
  | [], _ => by simp [insS, posS]
  | a :: r, h => by
    unfold insS
    by_cases hlt : a < i
    · have e : posS i (a :: r) = posS i r + 1 := by simp [posS, hlt]
      rw [e] at h ⊢
      rw [if_pos hlt, insS_new (l := r) (by simpa using h)]
      simp
    · have e : posS i (a :: r) = 0 := by simp [posS, hlt]
      rw [e] at h ⊢
      rw [if_neg hlt, if_neg (fun e => h (by simp [e]))]
      simp
/-- Two rising rows with the same numbers are the same. -/
theorem rises_ext : ∀ {a b : List Int}, Rises a → Rises b → (∀ x, x ∈ a ↔ x ∈ b) → a = b
  | [], [], _, _, _ => rfl
  | [], y :: b, _, _, h => by have := (h y).2 (by simp); simp at this
  | x :: a, [], _, _, h => by have := (h x).1 (by simp); simp at this
  | x :: a, y :: b, ha, hb, h => by
    have e : x = y := by
      rcases List.mem_cons.1 ((h x).1 (by simp)) with e | h1
      · exact e
      · rcases List.mem_cons.1 ((h y).2 (by simp)) with e | h2
        · exact e.symm
        · have := ha.lt y h2
          have := hb.lt x h1
          omega
    subst e
    congr 1
    refine rises_ext ha.tail hb.tail (fun z => ?_)
    constructor
    · intro hz
      rcases List.mem_cons.1 ((h z).1 (by simp [hz])) with e | h1
      · subst e; have := ha.lt z hz; omega
      · exact h1
    · intro hz
      rcases List.mem_cons.1 ((h z).2 (by simp [hz])) with e | h1
      · subst e; have := hb.lt z hz; omega
      · exact h1
end Go.Viv
end

/-
  A region that draws its order, walked once by a list of its operations: what only reads is taken as soon as it may come up; what is left comes up in one order alone. No program in sight.
-/
section
namespace Go.Mix
open Go

/-- Operations that yield a value, and are no call of a function. -/
def valueOp (o : Oper) : Bool :=
  match o.op with
  | .move _ | .assign _ | .pick .. | .load .. | .build .. | .binOp .. | .unOp .. | .convert .. | .fieldAddr .. | .field .. | .indexAddr .. | .index .. | .extract .. | .slice .. | .lookup .. | .makeInterface .. => true
  | .call { callee := .builtin .len, .. } | .call { callee := .builtin .cap, .. } | .call { callee := .builtin .min, .. } | .call { callee := .builtin .max, .. } => true
  | _ => false

theorem valueOp_spec {o : Oper} (h : valueOp o = true) (ρ : Operand → Value) : ∃ s : Sem Value, execOp ρ o = Sem.bind s (fun v => .pure (.value v)) := by
  obtain ⟨dst, op, type, pos, after, guard⟩ := o
  cases op <;> simp only [valueOp, Bool.false_eq_true] at h
  case move x => exact ⟨.pure (ρ x), rfl⟩
  case assign x => exact ⟨.pure (ρ x), rfl⟩
  case pick c a b =>
    refine ⟨(asBool (ρ c)).bind fun t => .pure (if t then ρ a else ρ b), ?_⟩
    show Sem.bind (asBool (ρ c)) (fun t => Sem.pure (Next.value (if t = true then ρ a else ρ b))) = _
    generalize ρ c = vc
    cases vc <;> rfl
  case call c =>
    obtain ⟨callee, args, argTypes⟩ := c
    cases callee with
    | builtin b => cases b <;> simp at h <;> exact ⟨_, rfl⟩
    | _ => simp at h
  all_goals exact ⟨_, rfl⟩

theorem run_bind_value (P : Program) (s : Sem Value) (w : World) : (Sem.bind s (fun v => .pure (.value v)) : Sem Next).run P w = (s.run P w).andThen (fun v w' => .ok (.value v) w') := by
  have := Sem.run_bind P w s (fun v => (Sem.pure (.value v) : Sem Next))
  exact this

section
variable {P : Program} {ops : Array Oper} {Q : Exit → Act → World → Prop} {md : Region.Mode} {S : World → Prop}

/-- What is asked behind an operation that is carried out. -/
structure Behind (S : World → Prop) (K : Act → World → Prop) (e : Exit) (a : Act) (w : World) : Prop where
  normal : e = .normal
  keeps : S w
  next : K a w

/-- The walk, by a list of numbers: true: it only reads. -/
def wpMix (P : Program) (ops : Array Oper) (Q : Exit → Act → World → Prop) (S : World → Prop) : List (Nat × Bool) → Act → World → Prop
  | [], a, w => Q .normal a w
  | (i, true) :: rest, a, w => match ops[i]? with
    | some o => valueOp o = true ∧ wpQuiet P ops S (fun a' => wpMix P ops Q S rest a' w) [o] a
    | none => False
  | (i, false) :: rest, a, w => match ops[i]? with
    | some o => wpList P ops (Behind S (wpMix P ops Q S rest)) [o] a w
    | none => False

/-- Whether the list may serve. -/
def orderB (md : Region.Mode) (ops : Array Oper) : List (Nat × Bool) → Array Bool → Bool
  | [], listed => (Region.ready md ops listed).isEmpty
  | (i, true) :: rest, listed => (Region.ready md ops listed).contains i && Region.free md ops listed i && orderB md ops rest (listed.setIfInBounds i true)
  | (i, false) :: rest, listed => decide (Region.ready md ops listed = [i]) && orderB md ops rest (listed.setIfInBounds i true)

theorem yields_of_quiet {o : Oper} {a : Act} {v : Value} (hv : valueOp o = true) (hw : Region.wanted o (yielded ops a.tmps) = true) (h : ∀ w, S w → o.quietAt P a S w v) : YieldsIf P ops S o v a := by
  refine .inl ⟨hw, fun w hS => ?_⟩
  have h1 := h w hS
  obtain ⟨s, hs⟩ := valueOp_spec hv a.eval
  unfold Oper.quietAt at h1
  rw [hs, run_bind_value] at h1 ⊢
  cases hr : s.run P w with
  | ok x w' =>
    rw [hr] at h1
    simp only [Result.andThen_ok, Oper.quietUpon] at h1
    simp only [Result.andThen_ok, h1.1, h1.2]
  | halt x w' =>
    rw [hr] at h1
    simp only [Result.andThen, Oper.quietUpon] at h1

theorem upon_mono {o : Oper} {a : Act} {K K' : Act → World → Prop} {Q' : Exit → Act → World → Prop} (hk : ∀ a w, K a w → K' a w) (hp : ∀ c a w, ¬ Q' (.panic c) a w) (ho : ¬ LetsOut Q') {r : Result Next} (h : o.upon P a K Q' r) : o.upon P a K' Q r := by
  cases r with
  | ok n w' =>
    cases n <;> simp only [Oper.upon] at h ⊢ <;>
      first
        | exact hk _ _ h
        | exact Calls.mono h (fun e w'' he => by
            cases e with
            | returned v => exact hk _ _ he
            | panicked c => exact absurd he (hp _ _ _)
            | outgrown => exact absurd he ho)
        | exact Rows.mono h (fun _ _ he => hk _ _ he)
  | halt x w' =>
    cases x <;> simp only [Oper.upon] at h ⊢
    case panic v => exact absurd h (hp _ _ _)

theorem wpAnyH_of_mix (hs : Region.noSelect ops = true) (hQ : ∀ c d v a w, Q (.panic c) (Act.put a d v) w → Q (.panic c) a w) : ∀ (l : List (Nat × Bool)) (listed : Array Bool) (a : Act) (w : World), orderB md ops l listed = true → S w → wpMix P ops Q S l a w → wpAnyH P md ops Q S l.length listed a w
  | [], listed, a, w, hB, _, h => ⟨by simpa [orderB] using hB, h⟩
  | (i, true) :: rest, listed, a, w, hB, hS, h => by
    simp only [orderB, Bool.and_eq_true] at hB
    simp only [wpMix] at h
    cases ho : ops[i]? with
    | none => rw [ho] at h; exact h.elim
    | some o =>
      rw [ho] at h
      obtain ⟨hv, h⟩ := h
      simp only [wpQuiet] at h
      by_cases hw : Region.wanted o (yielded ops a.tmps) = true
      · rw [if_pos hw] at h
        obtain ⟨v, h1, h2⟩ := h
        exact wpAnyH_take ho hs hB.1.2 hB.1.1 (fun c a w => hQ c _ _ a w) (yields_of_quiet hv hw h1) hS (wpAnyH_of_mix hs hQ rest _ _ w hB.2 hS h2)
      · rw [if_neg hw] at h
        exact wpAnyH_take ho hs hB.1.2 hB.1.1 (fun c a w => hQ c _ _ a w) (v := undef) (.inr ⟨by simpa using hw, rfl⟩) hS (wpAnyH_of_mix hs hQ rest _ _ w hB.2 hS h)
  | (i, false) :: rest, listed, a, w, hB, hS, h => by
    simp only [orderB, Bool.and_eq_true, decide_eq_true_eq] at hB
    simp only [wpMix] at h
    cases ho : ops[i]? with
    | none => rw [ho] at h; exact h.elim
    | some o =>
      rw [ho] at h
      simp only [wpList] at h
      refine wpAnyH_all hB.1 (by simp) (fun j hj => ?_)
      obtain rfl : j = i := by simpa using hj
      have nolet : ¬ LetsOut (Behind S (wpMix P ops Q S rest)) := by
        rintro ⟨a0, w0, hb⟩
        exact absurd hb.normal (by simp)
      unfold wpOp
      simp only [ho]
      by_cases hw : Region.wanted o (yielded ops a.tmps) = true
      · rw [if_pos hw] at h ⊢
        rcases h with h | ⟨_, h⟩
        · refine .inl (upon_mono (fun a' w' hb => ⟨hb.keeps, wpAnyH_of_mix hs hQ rest _ a' w' hB.2 hb.keeps hb.next⟩) (fun c a' w' hb => ?_) nolet h)
          exact absurd hb.normal (by simp)
        · exact absurd h nolet
      · rw [if_neg hw] at h ⊢
        exact ⟨h.keeps, wpAnyH_of_mix hs hQ rest _ _ w hB.2 h.keeps h.next⟩

/-- The class of worlds that are w with blocks laid behind. -/
def Reg (w : World) (w' : World) : Prop := ∃ p : Regrown, w' = Go.Sort.grow (redrawn w p.d) p.os

/-- THE REGION. -/
theorem wp_region_mix {id : Nat} {a : Act} {w : World} (order : List (Nat × Bool)) (hm : P.follows .mixedOrders = true) (hB : (Region.noSelect ops && (order.length == ops.size) && orderB .any ops order (Array.replicate ops.size false)) = true)
    (hQ : ∀ c d v a w, Q (.panic c) (Act.put a d v) w → Q (.panic c) a w)
    (h : wpMix P ops Q (fun w' => ∃ p : Regrown, w' = Go.Sort.grow (redrawn w p.d) p.os) order a w.drew) : (Code.region id ops true).wp P Q a w := by
  simp only [Bool.and_eq_true, beq_iff_eq] at hB
  have h1 := wpAnyH_of_mix (md := .any) hB.1.1 hQ order (Array.replicate ops.size false) a w.drew hB.2 ⟨⟨w.drawn + 1, #[]⟩, by rw [Go.Sort.grow_empty]; rfl⟩ h
  rw [hB.1.2] at h1
  exact wp_region_held hm h1

/-- THE REGION, over whatever class of worlds. -/
theorem wp_region_mixS {id : Nat} {a : Act} {w : World} (order : List (Nat × Bool)) (hm : P.follows .mixedOrders = true) (hB : (Region.noSelect ops && (order.length == ops.size) && orderB .any ops order (Array.replicate ops.size false)) = true)
    (hQ : ∀ c d v a w, Q (.panic c) (Act.put a d v) w → Q (.panic c) a w) (hS : S w.drew)
    (h : wpMix P ops Q S order a w.drew) : (Code.region id ops true).wp P Q a w := by
  simp only [Bool.and_eq_true, beq_iff_eq] at hB
  have h1 := wpAnyH_of_mix (md := .any) hB.1.1 hQ order (Array.replicate ops.size false) a w.drew hB.2 hS h
  rw [hB.1.2] at h1
  exact wp_region_held hm h1

theorem mix_read {i : Nat} {o : Oper} {rest : List (Nat × Bool)} {a : Act} {w : World} (ho : ops[i]? = some o) (hv : valueOp o = true) (h : wpQuiet P ops S (fun a' => wpMix P ops Q S rest a' w) [o] a) : wpMix P ops Q S ((i, true) :: rest) a w := by
  simp only [wpMix, ho]
  exact ⟨hv, h⟩
theorem mix_does {i : Nat} {o : Oper} {rest : List (Nat × Bool)} {a : Act} {w : World} (ho : ops[i]? = some o) (h : wpList P ops (Behind S (wpMix P ops Q S rest)) [o] a w) : wpMix P ops Q S ((i, false) :: rest) a w := by
  simp only [wpMix, ho]
  exact h
theorem mix_nil {a : Act} {w : World} (h : Q .normal a w) : wpMix P ops Q S [] a w := h
/-- A walk of a region where now and then two operations may come up. -/
inductive Tr where
  | nil : Tr
  | read (i : Nat) (t : Tr) : Tr
  | one (i : Nat) (t : Tr) : Tr
  | two (i : Nat) (t : Tr) (j : Nat) (s : Tr) : Tr
def Tr.len : Tr → Nat
  | .nil => 0
  | .read _ t => t.len + 1
  | .one _ t => t.len + 1
  | .two _ t _ _ => t.len + 1
/-- The first steps of a walk by a list, then by a tree. -/
def Tr.of : List (Nat × Bool) → Tr → Tr
  | [], t => t
  | (i, true) :: r, t => .read i (Tr.of r t)
  | (i, false) :: r, t => .one i (Tr.of r t)
def wpTr (P : Program) (ops : Array Oper) (Q : Exit → Act → World → Prop) (S : World → Prop) : Tr → Act → World → Prop
  | .nil, a, w => Q .normal a w
  | .read i t, a, w => match ops[i]? with
    | some o => valueOp o = true ∧ wpQuiet P ops S (fun a' => wpTr P ops Q S t a' w) [o] a
    | none => False
  | .one i t, a, w => match ops[i]? with
    | some o => wpList P ops (Behind S (wpTr P ops Q S t)) [o] a w
    | none => False
  | .two i t j s, a, w => (match ops[i]? with
    | some o => wpList P ops (Behind S (wpTr P ops Q S t)) [o] a w
    | none => False) ∧ (match ops[j]? with
    | some o => wpList P ops (Behind S (wpTr P ops Q S s)) [o] a w
    | none => False)
def orderT (md : Region.Mode) (ops : Array Oper) : Tr → Array Bool → Bool
  | .nil, listed => (Region.ready md ops listed).isEmpty
  | .read i t, listed => (Region.ready md ops listed).contains i && Region.free md ops listed i && orderT md ops t (listed.setIfInBounds i true)
  | .one i t, listed => decide (Region.ready md ops listed = [i]) && orderT md ops t (listed.setIfInBounds i true)
  | .two i t j s, listed => decide (Region.ready md ops listed = [i, j]) && (t.len == s.len) && orderT md ops t (listed.setIfInBounds i true) && orderT md ops s (listed.setIfInBounds j true)
theorem wpOp_of_list {i : Nat} {o : Oper} {a : Act} {w : World} {K : Act → World → Prop} {K' : Act → World → Prop} (hK : ∀ a w, K a w → S w → K' a w) (ho : ops[i]? = some o) (h : wpList P ops (Behind S K) [o] a w) : wpOp P ops Q i K' a w := by
  simp only [wpList] at h
  have nolet : ¬ LetsOut (Behind S K) := by
    rintro ⟨a0, w0, hb⟩
    exact absurd hb.normal (by simp)
  unfold wpOp
  simp only [ho]
  by_cases hw : Region.wanted o (yielded ops a.tmps) = true
  · rw [if_pos hw] at h ⊢
    rcases h with h | ⟨_, h⟩
    · exact .inl (upon_mono (fun a' w' hb => hK a' w' hb.next hb.keeps) (fun c a' w' hb => absurd hb.normal (by simp)) nolet h)
    · exact absurd h nolet
  · rw [if_neg hw] at h ⊢
    exact hK _ _ h.next h.keeps
theorem wpAnyH_of_tr (hs : Region.noSelect ops = true) (hQ : ∀ c d v a w, Q (.panic c) (Act.put a d v) w → Q (.panic c) a w) : ∀ (l : Tr) (listed : Array Bool) (a : Act) (w : World), orderT md ops l listed = true → S w → wpTr P ops Q S l a w → wpAnyH P md ops Q S l.len listed a w
  | .nil, listed, a, w, hB, _, h => ⟨by simpa [orderT] using hB, h⟩
  | .read i rest, listed, a, w, hB, hS, h => by
    simp only [orderT, Bool.and_eq_true] at hB
    simp only [wpTr] at h
    cases ho : ops[i]? with
    | none => rw [ho] at h; exact h.elim
    | some o =>
      rw [ho] at h
      obtain ⟨hv, h⟩ := h
      simp only [wpQuiet] at h
      by_cases hw : Region.wanted o (yielded ops a.tmps) = true
      · rw [if_pos hw] at h
        obtain ⟨v, h1, h2⟩ := h
        exact wpAnyH_take ho hs hB.1.2 hB.1.1 (fun c a w => hQ c _ _ a w) (yields_of_quiet hv hw h1) hS (wpAnyH_of_tr hs hQ rest _ _ w hB.2 hS h2)
      · rw [if_neg hw] at h
        exact wpAnyH_take ho hs hB.1.2 hB.1.1 (fun c a w => hQ c _ _ a w) (v := undef) (.inr ⟨by simpa using hw, rfl⟩) hS (wpAnyH_of_tr hs hQ rest _ _ w hB.2 hS h)
  | .one i rest, listed, a, w, hB, hS, h => by
    simp only [orderT, Bool.and_eq_true, decide_eq_true_eq] at hB
    simp only [wpTr] at h
    cases ho : ops[i]? with
    | none => rw [ho] at h; exact h.elim
    | some o =>
      rw [ho] at h
      refine wpAnyH_all hB.1 (by simp) (fun j hj => ?_)
      obtain rfl : j = i := by simpa using hj
      exact wpOp_of_list (fun a' w' hk hs' => ⟨hs', wpAnyH_of_tr hs hQ rest _ a' w' hB.2 hs' hk⟩) ho h
  | .two i t k s, listed, a, w, hB, hS, h => by
    simp only [orderT, Bool.and_eq_true, decide_eq_true_eq, beq_iff_eq] at hB
    simp only [wpTr] at h
    refine wpAnyH_all hB.1.1.1 (by simp) (fun j hj => ?_)
    rcases List.mem_cons.1 hj with rfl | hj
    · cases ho : ops[j]? with
      | none => rw [ho] at h; exact h.1.elim
      | some o =>
        rw [ho] at h
        exact wpOp_of_list (fun a' w' hk hs' => ⟨hs', wpAnyH_of_tr hs hQ t _ a' w' hB.1.2 hs' hk⟩) ho h.1
    · obtain rfl : j = k := by simpa using hj
      cases ho : ops[j]? with
      | none => rw [ho] at h; exact h.2.elim
      | some o =>
        rw [ho] at h
        exact wpOp_of_list (fun a' w' hk hs' => ⟨hs', by rw [hB.1.1.2]; exact wpAnyH_of_tr hs hQ s _ a' w' hB.2 hs' hk⟩) ho h.2
/-- THE REGION, by a tree, over whatever class of worlds. -/
theorem wp_region_tr {id : Nat} {a : Act} {w : World} (tr : Tr) (hm : P.follows .mixedOrders = true) (hB : (Region.noSelect ops && (tr.len == ops.size) && orderT .any ops tr (Array.replicate ops.size false)) = true)
    (hQ : ∀ c d v a w, Q (.panic c) (Act.put a d v) w → Q (.panic c) a w) (hS : S w.drew)
    (h : wpTr P ops Q S tr a w.drew) : (Code.region id ops true).wp P Q a w := by
  simp only [Bool.and_eq_true, beq_iff_eq] at hB
  have h1 := wpAnyH_of_tr (md := .any) hB.1.1 hQ tr (Array.replicate ops.size false) a w.drew hB.2 hS h
  rw [hB.1.2] at h1
  exact wp_region_held hm h1
theorem tr_read {i : Nat} {o : Oper} {rest : Tr} {a : Act} {w : World} (ho : ops[i]? = some o) (hv : valueOp o = true) (h : wpQuiet P ops S (fun a' => wpTr P ops Q S rest a' w) [o] a) : wpTr P ops Q S (.read i rest) a w := by
  simp only [wpTr, ho]
  exact ⟨hv, h⟩
theorem tr_does {i : Nat} {o : Oper} {rest : Tr} {a : Act} {w : World} (ho : ops[i]? = some o) (h : wpList P ops (Behind S (wpTr P ops Q S rest)) [o] a w) : wpTr P ops Q S (.one i rest) a w := by
  simp only [wpTr, ho]
  exact h
theorem tr_two {i j : Nat} {o o' : Oper} {t s : Tr} {a : Act} {w : World} (ho : ops[i]? = some o) (ho' : ops[j]? = some o') (h : wpList P ops (Behind S (wpTr P ops Q S t)) [o] a w) (h' : wpList P ops (Behind S (wpTr P ops Q S s)) [o'] a w) : wpTr P ops Q S (.two i t j s) a w := by
  simp only [wpTr, ho, ho']
  exact ⟨h, h'⟩
theorem tr_nil {a : Act} {w : World} (h : Q .normal a w) : wpTr P ops Q S .nil a w := h
end
end Go.Mix
end
