/-
  Several texts in one. Frames by footprints, blocks known whole, and maps of ints as partial functions: helpers without a program in sight.
-/
import Derived.WalkKit
import Derived.Maps.OwnSet
import Derived.Deep.AppendLies
import Derived.Deep.Draws
import Derived.Laws.Rows
import Derived.Maps.AppendAt
import Derived.Deep.Slices
import Derived.Deep.Fields
import Derived.ChangeSame
import Derived.Test.YtclmjcjaebonnaaGreatDoorRows
import Derived.ProofKit
import Derived.OpenShut
import Derived.Lib.SmallJoins
import Derived.Lay
import Derived.LaidMore
import Derived.Lib.LaidTab
import Derived.Stop.LaidErr
import Derived.Stop.Joined
import Derived.MakeChecks
import Derived.HandedShaped
import Derived.Shelf.Vars
import Derived.SevenTiedAt
import Derived.SizedLaws
import Derived.ChangeMaps5
import Derived.Deep.DeepHandedRow
section
namespace Go.Viv
open Go.RowKit Go.Maps

/-- w' is w but for the blocks of S, and new ones. -/
structure Fr (S : Nat → Prop) (w w' : World) : Prop where
  os : w'.os = w.os
  tape : w'.tape = w.tape
  output : w'.output = w.output
  size : w.heap.size ≤ w'.heap.size
  block : ∀ k, k < w.heap.size → ¬ S k → w'.heap[k]? = w.heap[k]?

theorem Fr.refl (S : Nat → Prop) (w : World) : Fr S w w := ⟨rfl, rfl, rfl, Nat.le_refl _, fun _ _ _ => rfl⟩
theorem Fr.trans {S T : Nat → Prop} {a b c : World} (h : Fr S a b) (k : Fr T b c) (hT : ∀ i, T i → S i ∨ a.heap.size ≤ i) : Fr S a c :=
  ⟨k.os.trans h.os, k.tape.trans h.tape, k.output.trans h.output, Nat.le_trans h.size k.size, fun i hi hn =>
    (k.block i (Nat.lt_of_lt_of_le hi h.size) (fun ht => by rcases hT i ht with h1 | h1; exact hn h1; omega)).trans (h.block i hi hn)⟩
theorem Fr.mono {S T : Nat → Prop} {a b : World} (h : Fr S a b) (hST : ∀ i, i < a.heap.size → S i → T i) : Fr T a b :=
  ⟨h.os, h.tape, h.output, h.size, fun i hi hn => h.block i hi (fun hs => hn (hST i hi hs))⟩
theorem Fr.drew {S : Nat → Prop} {a b : World} (h : Fr S a b) : Fr S a b.drew := ⟨h.os, h.tape, h.output, h.size, h.block⟩
theorem Fr.drewN {S : Nat → Prop} {a b : World} (h : Fr S a b) (n : Nat) : Fr S a (b.drewN n) := ⟨h.os, h.tape, h.output, h.size, h.block⟩
theorem Fr.alloc {S : Nat → Prop} {a b : World} (h : Fr S a b) (o : Obj) : Fr S a (b.alloc o) :=
  ⟨h.os, h.tape, h.output, Nat.le_trans h.size (by simp), fun i hi hn => (Below.heap_alloc b o i (Nat.lt_of_lt_of_le hi h.size)).trans (h.block i hi hn)⟩
theorem Fr.setCell {S : Nat → Prop} {a b : World} (h : Fr S a b) {p : Addr} (hp : S p.block ∨ a.heap.size ≤ p.block) (u : Value) : Fr S a (b.setCell p u) :=
  ⟨h.os, h.tape, h.output, by simpa [World.setCell] using h.size, fun i hi hn => (Below.heap_setCell b p u i (by
    rintro rfl
    rcases hp with hp | hp
    · exact hn hp
    · omega)).trans (h.block i hi hn)⟩
theorem Fr.grown {S : Nat → Prop} {a b c : World} {row : Option Nat} (h : Fr S a b) (hg : b.grownBy c row) (hr : ∀ k, row = some k → S k ∨ a.heap.size ≤ k) : Fr S a c :=
  ⟨hg.os.trans h.os, hg.tape.trans h.tape, hg.output.trans h.output, Nat.le_trans h.size hg.size, fun i hi hn =>
    (hg.block i (Nat.lt_of_lt_of_le hi h.size) (fun e => by rcases hr i e.symm with h1 | h1; exact hn h1; omega)).trans (h.block i hi hn)⟩
theorem Fr.below {S : Nat → Prop} {a b : World} {B : Nat} (h : Fr S a b) (hB : B ≤ a.heap.size) (hS : ∀ i, S i → B ≤ i) : Below B a b :=
  ⟨h.os, h.tape, h.output, h.size, fun k hk => h.block k (by omega) (fun hs => by have := hS k hs; omega)⟩
theorem Fr.of_below {S : Nat → Prop} {a b : World} (h : Below a.heap.size a b) : Fr S a b := ⟨h.os, h.tape, h.output, h.size, fun k hk _ => h.block k hk⟩
theorem Fr.cell {S : Nat → Prop} {a b : World} (h : Fr S a b) {p : Addr} (hp : p.block < a.heap.size) (hn : ¬ S p.block) : b.cell? p = a.cell? p :=
  World.cell?_of_block (h.block p.block hp hn)

/-- Block g is just the cells cs of element type t, none frozen. -/
def Blk (w : World) (g : Nat) (t : TypeId) (cs : Array Value) : Prop := w.heap[g]? = some (.cells cs t (0, 0))

section
variable {w w' : World} {g : Nat} {t : TypeId} {cs : Array Value}
theorem Blk.lt (h : Blk w g t cs) : g < w.heap.size := by
  rcases Nat.lt_or_ge g w.heap.size with hlt | hge
  · exact hlt
  · unfold Blk at h; rw [Array.getElem?_eq_none hge] at h; cases h
theorem Blk.cell (h : Blk w g t cs) (i : Nat) : w.cell? ⟨g, i, none⟩ = cs[i]? := cell_of_row w g i cs t (0, 0) h
theorem Blk.frozen (h : Blk w g t cs) (i : Nat) : w.frozen? ⟨g, i, none⟩ = false := by
  unfold Blk at h
  simp [World.frozen?, h]
theorem Blk.new (w : World) (t : TypeId) (cs : Array Value) : Blk (w.alloc (.cells cs t)) w.heap.size t cs := heap_alloc_new w _
theorem Blk.drew (h : Blk w g t cs) : Blk w.drew g t cs := h
theorem Blk.drewN (h : Blk w g t cs) (n : Nat) : Blk (w.drewN n) g t cs := h
theorem Blk.alloc (h : Blk w g t cs) (o : Obj) : Blk (w.alloc o) g t cs := (Below.heap_alloc w o g h.lt).trans h
theorem Blk.set_ (h : Blk w g t cs) (i : Nat) (u : Value) : Blk (w.setCell ⟨g, i, none⟩ u) g t (cs.setIfInBounds i u) := by
  unfold Blk at h ⊢
  simp [World.setCell, Array.getElem?_modify, h]
theorem Blk.far (h : Blk w g t cs) {p : Addr} (hp : g ≠ p.block) (u : Value) : Blk (w.setCell p u) g t cs := (Below.heap_setCell w p u g hp).trans h
theorem Blk.below {B : Nat} (h : Blk w g t cs) (hb : Below B w w') (hg : g < B) : Blk w' g t cs := (hb.block g hg).trans h
theorem Blk.grown {row : Option Nat} (h : Blk w g t cs) (hb : w.grownBy w' row) (hg : some g ≠ row) : Blk w' g t cs := (hb.block g h.lt hg).trans h
theorem Blk.fr {S : Nat → Prop} (h : Blk w g t cs) (hb : Fr S w w') (hg : ¬ S g) : Blk w' g t cs := (hb.block g h.lt hg).trans h
theorem Blk.ne_ {g' : Nat} {t' : TypeId} {cs' : Array Value} (h : Blk w g t cs) (h' : Blk w g' t' cs') (hne : t ≠ t') : g ≠ g' := by
  rintro rfl
  unfold Blk at h h'
  rw [h] at h'
  injection h' with h'
  injection h' with _ ht
  exact hne ht
end

/-- Block b is a map of ints to ints, of at most n entries, that holds just f. -/
def IMap (w : World) (P : Program) (k e : TypeId) (b n : Nat) (f : Int → Option Int) : Prop :=
  ∃ D : DataW Unit, w.ownsMap P k (plainElem P e) b n D ∧ ∀ i : Int, match f i with
    | some v => Maps.has D (.int .i64 i) = true ∧ ∀ z, D.atKey (.int .i64 i) z = .lit (.int .i64 v)
    | none => Maps.has D (.int .i64 i) = false

section
variable {w w' : World} {P : Program} {k e : TypeId} {b n : Nat} {f : Int → Option Int}
theorem IMap.lt (h : IMap w P k e b n f) : b < w.heap.size := let ⟨_, h1, _⟩ := h; h1.lt
theorem IMap.heap (h : IMap w P k e b n f) : ∃ es clock, w.heap[b]? = some (.map es clock) := let ⟨_, ⟨es, c, h1, _⟩, _⟩ := h; ⟨es, c, h1⟩
theorem IMap.of_block (h : IMap w P k e b n f) (hb : w'.heap[b]? = w.heap[b]?) : IMap w' P k e b n f := by
  obtain ⟨D, ⟨es, c, h1, r⟩, h2⟩ := h
  exact ⟨D, ⟨es, c, hb.trans h1, r⟩, h2⟩
theorem IMap.fr {S : Nat → Prop} (h : IMap w P k e b n f) (hf : Fr S w w') (hn : ¬ S b) : IMap w' P k e b n f := h.of_block (hf.block b h.lt hn)
theorem IMap.mono (h : IMap w P k e b n f) {m : Nat} (hm : n ≤ m) : IMap w P k e b m f := let ⟨D, h1, h2⟩ := h; ⟨D, h1.mono hm, h2⟩
theorem IMap.made (w : World) (P : Program) (k e : TypeId) : IMap (w.alloc (.map #[] 0)) P k e w.heap.size 0 (fun _ => none) :=
  ⟨_, World.ownsMap_made w P k _, fun _ => rfl⟩
theorem IMap.ne_blk {g : Nat} {t : TypeId} {cs : Array Value} (h : IMap w P k e b n f) (hg : Blk w g t cs) : b ≠ g := by
  rintro rfl
  obtain ⟨es, c, h1⟩ := h.heap
  unfold Blk at hg
  rw [hg] at h1
  cases h1

theorem IMap.look {t : TypeId} (h : IMap w P k e b n f) (hk : P.underlying k = some (.int .i64)) (he : P.underlying e = some (.int .i64)) (ht : P.underlying t = some (.map k e))
    (hz : ∀ w, (zeroValue e).run P w = .ok (.int .i64 0) w) {i : Int} (hi : (Lit.int .i64 i).wf = true) :
    (Instr.lookup t (.map (some b)) (.int .i64 i) true).run P w = .ok (.tuple #[.int .i64 ((f i).getD 0), .bool (f i).isSome]) w := by
  obtain ⟨D, h1, h2⟩ := h
  obtain ⟨v, ps, hr, hv⟩ := h1.look_ok (int_keyed hk) ht (hz w) (plainElem_int he (a := 0) (by decide)) (keyOf_int_mk hk hi)
  have h3 := h2 i
  obtain ⟨c, rfl, hc, hwc⟩ := plainElem_int_inv he hv
  cases hf : f i with
  | none =>
    rw [hf] at h3
    have h4 := Maps.atKey_of_not_has h3 (.lit (.int .i64 0))
    have h5 := congrArg Prod.fst hc
    simp only at h5
    rw [h4] at h5
    injection h5 with h5
    injection h5 with _ h5
    rw [hr, h3]
    simp [← h5]
  | some u =>
    rw [hf] at h3
    have h5 := congrArg Prod.fst hc
    simp only at h5
    rw [h3.2] at h5
    injection h5 with h5
    injection h5 with _ h5
    rw [hr, h3.1]
    simp [← h5]

theorem IMap.store {t : TypeId} (h : IMap w P k e b n f) (hk : P.underlying k = some (.int .i64)) (he : P.underlying e = some (.int .i64)) (ht : P.underlying t = some (.map k e))
    (hn : n < maxLen) {i v : Int} (hi : (Lit.int .i64 i).wf = true) (hv : (Lit.int .i64 v).wf = true) :
    ∃ w', (Instr.mapUpdate t (.map (some b)) (.int .i64 i) (.int .i64 v)).run P w = .ok () w' ∧ IMap w' P k e b (n + 1) (fun j => if j = i then some v else f j) ∧ w.grownBy w' (some b) := by
  obtain ⟨D, h1, h2⟩ := h
  obtain ⟨w', hr, ho, hm⟩ := h1.store (int_keyed hk) ht hn (keyOf_int_mk hk hi) (plainElem_int he hv)
  refine ⟨w', hr, ⟨_, ho, fun j => ?_⟩, hm.grown⟩
  by_cases hj : j = i
  · subst hj
    simp only [if_true]
    exact ⟨Maps.has_put_same h1.isMap (by simp [WideAt.IsKeyLit]) _, fun z => Maps.atKey_put_same h1.isMap (by simp [WideAt.IsKeyLit]) _ z⟩
  · simp only [if_neg hj]
    have hne : (Lit.int .i64 j) ≠ .int .i64 i := fun hh => hj (by injection hh)
    have h3 := h2 j
    cases hf : f j with
    | none => rw [hf] at h3; simp only at h3 ⊢; rw [Maps.has_put_other hne]; exact h3
    | some u =>
      rw [hf] at h3
      simp only at h3 ⊢
      exact ⟨by rw [Maps.has_put_other hne]; exact h3.1, fun z => by rw [Maps.atKey_put_other hne]; exact h3.2 z⟩

theorem IMap.drop {t : TypeId} (h : IMap w P k e b n f) (hk : P.underlying k = some (.int .i64)) (ht : P.underlying t = some (.map k e))
    {i : Int} (hi : (Lit.int .i64 i).wf = true) (ty : TypeId) :
    ∃ w', (Builtin.delete_ #[t, k] ty #[.map (some b), .int .i64 i]).run P w = .ok (.tuple #[]) w' ∧ IMap w' P k e b n (fun j => if j = i then none else f j) ∧ w.grownBy w' (some b) := by
  obtain ⟨D, h1, h2⟩ := h
  obtain ⟨w', hr, ho, hm⟩ := h1.drop (int_keyed hk) ht (keyOf_int_mk hk hi) ty
  refine ⟨w', hr, ⟨_, ho, fun j => ?_⟩, hm.grown⟩
  by_cases hj : j = i
  · subst hj
    simp only [if_true]
    exact Maps.has_del_same
  · simp only [if_neg hj]
    have hne : (Lit.int .i64 j) ≠ .int .i64 i := fun hh => hj (by injection hh)
    have h3 := h2 j
    cases hf : f j with
    | none => rw [hf] at h3; simp only at h3 ⊢; rw [Maps.has_del_other hne]; exact h3
    | some u =>
      rw [hf] at h3
      simp only at h3 ⊢
      exact ⟨by rw [Maps.has_del_other hne]; exact h3.1, fun z => by rw [Maps.atKey_del_other hne]; exact h3.2 z⟩
end

end Go.Viv

namespace Go.Viv
open Go.RowKit Go.Maps

/-- A row of m cells each. -/
theorem chunk_get {α : Type} (f : α → List Value) (m : Nat) (hf : ∀ x, (f x).length = m) : ∀ (l : List α) (k c : Nat), c < m → (l.flatMap f)[k * m + c]? = (l[k]?).bind (fun x => (f x)[c]?)
  | [], k, c, _ => by simp
  | x :: r, 0, c, hc => by simp [List.getElem?_append_left (show c < (f x).length by rw [hf]; exact hc)]
  | x :: r, k + 1, c, hc => by
    rw [List.flatMap_cons, List.getElem?_append_right (by rw [hf, Nat.succ_mul]; omega), hf, show (k + 1) * m + c - m = k * m + c by rw [Nat.succ_mul]; omega, chunk_get f m hf r k c hc]
    simp
theorem chunk_len {α : Type} (f : α → List Value) (m : Nat) (hf : ∀ x, (f x).length = m) : ∀ (l : List α), (l.flatMap f).length = l.length * m
  | [] => by simp
  | x :: r => by rw [List.flatMap_cons, List.length_append, chunk_len f m hf r, hf, List.length_cons, Nat.succ_mul, Nat.add_comm]

/-- A row that is nobody's but one's own lies in one block, or is nil. -/
theorem own_cases {w : World} {base : Nat} {e : TypeId} {size n : Nat} {v : Value} {xs : List Value} (h : w.ownsRow base e size v n xs) (hn : 0 < n) :
    ∃ g cap cur, v = .slice (some ⟨g, 0, none⟩) n cap ∧ n ≤ cap ∧ cap ≤ maxLen ∧ Blk w g e cur ∧ cur.size = cap * size ∧ cur.toList.take (n * size) = xs := by
  rcases h.2 with ⟨_, h0⟩ | ⟨g, cap, cur, hv, _, hh, h1, h2, h3, h4⟩
  · omega
  · exact ⟨g, cap, cur, hv, h1, h2, hh, h3, h4⟩
theorem own_len {w : World} {base : Nat} {e : TypeId} {size n : Nat} {v : Value} {xs : List Value} (h : w.ownsRow base e size v n xs) : ∃ A cap, v = .slice A n cap ∧ n ≤ cap := by
  rcases h.2 with ⟨rfl, rfl⟩ | ⟨g, cap, cur, rfl, _, _, h1, _⟩
  · exact ⟨none, 0, rfl, Nat.le_refl _⟩
  · exact ⟨_, cap, rfl, h1⟩
theorem own_fr {w w' : World} {S : Nat → Prop} {base : Nat} {e : TypeId} {size n : Nat} {v : Value} {xs : List Value} (h : w.ownsRow base e size v n xs) (hf : Fr S w w') (hS : ∀ k, v.ownBlock = some k → ¬ S k) : w'.ownsRow base e size v n xs := by
  obtain ⟨h1, h2⟩ := h
  refine ⟨h1, ?_⟩
  rcases h2 with h2 | ⟨g, cap, cur, hv, hb, hh, r⟩
  · exact .inl h2
  · refine .inr ⟨g, cap, cur, hv, hb, ?_, r⟩
    subst hv
    rw [hf.block g (Blk.lt (t := e) hh) (hS g rfl)]
    exact hh
theorem own_blk_ne {w : World} {base g : Nat} {e t : TypeId} {size n : Nat} {v : Value} {xs : List Value} {cs : Array Value} (h : w.ownsRow base e size v n xs) (hg : Blk w g t cs) (hne : e ≠ t) : v.ownBlock ≠ some g := by
  rcases h.2 with ⟨rfl, _⟩ | ⟨g', cap, cur, rfl, _, hh, _⟩
  · simp [Value.ownBlock]
  · intro he
    have : g' = g := by simpa [Value.ownBlock] using he
    subst this
    exact Blk.ne_ (t := e) hh hg hne rfl
theorem own_map_ne {w : World} {base b m : Nat} {e : TypeId} {size n : Nat} {v : Value} {xs : List Value} {P : Program} {k' e' : TypeId} {f : Int → Option Int} (h : w.ownsRow base e size v n xs) (hm : IMap w P k' e' b m f) : v.ownBlock ≠ some b := by
  rcases h.2 with ⟨rfl, _⟩ | ⟨g', cap, cur, rfl, _, hh, _⟩
  · simp [Value.ownBlock]
  · intro he
    have : g' = b := by simpa [Value.ownBlock] using he
    subst this
    exact (hm.ne_blk (t := e) hh) rfl

theorem nodup_le {α : Type} [DecidableEq α] : ∀ (l m : List α), l.Nodup → (∀ x ∈ l, x ∈ m) → l.length ≤ m.length
  | [], _, _, _ => by simp
  | x :: r, m, hn, hs => by
    have hx : x ∈ m := hs x (by simp)
    have h1 := nodup_le r (m.erase x) (List.nodup_cons.1 hn).2 (fun y hy => (List.mem_erase_of_ne (fun e => (List.nodup_cons.1 hn).1 (by rw [← e]; exact hy))).2 (hs y (by simp [hy])))
    have h2 := List.length_erase_of_mem hx
    have h3 := List.length_pos_of_mem hx
    simp only [List.length_cons]
    omega

/-- A map holds no more entries than the keys that it may have. -/
theorem IMap.shrink {w : World} {P : Program} {k e : TypeId} {b n : Nat} {f : Int → Option Int} (h : IMap w P k e b n f) (hk : P.underlying k = some (.int .i64)) (l : List Int) (hl : ∀ i v, f i = some v → i ∈ l) : IMap w P k e b l.length f := by
  obtain ⟨D, ⟨es, c, h1, F, hs, hD⟩, h2⟩ := h
  refine ⟨D, ⟨es, c, h1, F, ?_, hD⟩, h2⟩
  have K := int_keyed (P := P) hk
  have hap := Maps.fit_apart K F
  have hlen : (es.toList.map (WideElems.rg P k (plainElem (H := Unit) P e))).length = es.size := by simp
  have hmem : ∀ p ∈ es.toList.map (WideElems.rg P k (plainElem (H := Unit) P e)), ∃ i : Int, p.1 = Lit.int .i64 i ∧ i ∈ l := by
    intro p hp
    obtain ⟨x, hx, rfl⟩ := List.mem_map.1 hp
    obtain ⟨y, hy⟩ := F.reads x hx
    have hk' : ∃ i : Int, y.1 = Lit.int .i64 i := by
      have hkey := WideElems.rd_key hy
      unfold keyOf mapKey at hkey
      rw [hk] at hkey
      simp only at hkey
      cases hx' : x.key <;> simp [hx'] at hkey
      all_goals exact ⟨_, hkey.2.symm⟩
    obtain ⟨i, hi⟩ := hk'
    have hrg := WideElems.rg_of hy
    refine ⟨i, by rw [hrg, hi], ?_⟩
    have hh : Maps.has D (.int .i64 i) = true := by
      rw [hD]
      refine List.any_eq_true.2 ⟨y, (WideShapes.sorted_perm _).mem_iff.2 (by rw [← hrg]; exact hp), ?_⟩
      rw [hi]
      exact WideAt.sameKey_self (by simp [WideAt.IsKeyLit])
    have h3 := h2 i
    cases hf : f i with
    | none => rw [hf] at h3; simp only at h3; rw [h3] at hh; cases hh
    | some v => exact hl i v hf
  have hgo : ∀ L : List (Lit × DataW Unit), L.Pairwise (fun p q => p.1 ≠ q.1) → (∀ p ∈ L, ∃ i : Int, p.1 = Lit.int .i64 i ∧ i ∈ l) → ∃ m : List Int, m.length = L.length ∧ m.Nodup ∧ (∀ i ∈ m, i ∈ l) ∧ ∀ i ∈ m, ∃ p ∈ L, p.1 = Lit.int .i64 i := by
    intro L
    induction L with
    | nil => intro _ _; exact ⟨[], rfl, List.nodup_nil, by simp, by simp⟩
    | cons p r ih =>
      intro hp hq
      obtain ⟨hp1, hp2⟩ := List.pairwise_cons.1 hp
      obtain ⟨m, m1, m2, m3, m4⟩ := ih hp2 (fun q hq' => hq q (by simp [hq']))
      obtain ⟨i, hi, hil⟩ := hq p (by simp)
      refine ⟨i :: m, by simp [m1], List.nodup_cons.2 ⟨fun him => ?_, m2⟩, ?_, ?_⟩
      · obtain ⟨q, hq1, hq2⟩ := m4 i him
        exact hp1 q hq1 (by rw [hi, hq2])
      · intro j hj
        rcases List.mem_cons.1 hj with rfl | hj
        · exact hil
        · exact m3 j hj
      · intro j hj
        rcases List.mem_cons.1 hj with rfl | hj
        · exact ⟨p, by simp, hi⟩
        · obtain ⟨q, hq1, hq2⟩ := m4 j hj
          exact ⟨q, by simp [hq1], hq2⟩
  obtain ⟨m, m1, m2, m3, _⟩ := hgo _ hap hmem
  have := nodup_le m l m2 m3
  omega
end Go.Viv

namespace Go.Viv
open Go.RowKit Go.Maps

theorem chunk_set {α : Type} (f : α → List Value) (m : Nat) (hf : ∀ x, (f x).length = m) : ∀ (l : List α) (k : Nat) (x : α), k < l.length → (l.set k x).flatMap f = (l.flatMap f).take (k * m) ++ f x ++ (l.flatMap f).drop (k * m + m)
  | [], k, x, h => by simp at h
  | y :: r, 0, x, _ => by
    rw [List.set_cons_zero, List.flatMap_cons, List.flatMap_cons, Nat.zero_mul, List.take_zero, Nat.zero_add, ← hf y, List.drop_left, List.nil_append]
  | y :: r, k + 1, x, h => by
    have ih := chunk_set f m hf r k x (by simpa using h)
    have e1 : (k + 1) * m = (f y).length + k * m := by rw [hf, Nat.succ_mul, Nat.add_comm]
    have e2 : (k + 1) * m + m = (f y).length + (k * m + m) := by rw [e1, Nat.add_assoc]
    rw [List.set_cons_succ, List.flatMap_cons, ih, List.flatMap_cons, e2, e1, List.take_length_add_append, List.drop_length_add_append]
    simp [List.append_assoc]

theorem Fr.alloc1 (S : Nat → Prop) (w : World) (o : Obj) : Fr S w (w.alloc o) := (Fr.refl S w).alloc o
theorem own_in {w : World} {base : Nat} {e : TypeId} {size n : Nat} {v : Value} {xs : List Value} (h : w.ownsRow base e size v n xs) : ∀ k, v.ownBlock = some k → k < w.heap.size := fun k hk => (h.lt k hk).2
end Go.Viv

namespace Go.Viv
open Go.RowKit Go.Maps

/-- What append does, as one word. -/
def appendV (P : Program) (t ty : TypeId) (s x : Value) (w : World) : Result Value := (Builtin.append_ #[t, t] ty #[s, x]).run P w

theorem wp_appendV (P : Program) (dst : Option Tmp) (s x : Operand) (t ty : TypeId) (ps : String) (af : Array Edge) (gd : Option (Nat × Bool)) (a : Act) (w : World) (K : Act → World → Prop) (Q : Exit → Act → World → Prop) :
    Oper.wp P { dst := dst, op := .call { callee := .builtin .append, args := #[s, x], argTypes := #[t, t] }, type := ty, pos := ps, after := af, guard := gd } a w K Q =
      Oper.upon P { dst := dst, op := .call { callee := .builtin .append, args := #[s, x], argTypes := #[t, t] }, type := ty, pos := ps, after := af, guard := gd } a K Q ((appendV P t ty (a.eval s) (a.eval x) w).andThen fun v w' => .ok (.value v) w') := by
  unfold Oper.wp execOp appendV
  simp only [resolve, invoke, builtin, Sem.run_bind, Sem.run_pure, Result.andThen_ok, List.map_toArray, List.map_cons, List.map_nil]
/-- What delete does, as one word. -/
def deleteV (P : Program) (t k ty : TypeId) (s x : Value) (w : World) : Result Value := (Builtin.delete_ #[t, k] ty #[s, x]).run P w

theorem wp_deleteV (P : Program) (dst : Option Tmp) (s x : Operand) (t k ty : TypeId) (ps : String) (af : Array Edge) (gd : Option (Nat × Bool)) (a : Act) (w : World) (K : Act → World → Prop) (Q : Exit → Act → World → Prop) :
    Oper.wp P { dst := dst, op := .call { callee := .builtin .delete, args := #[s, x], argTypes := #[t, k] }, type := ty, pos := ps, after := af, guard := gd } a w K Q =
      Oper.upon P { dst := dst, op := .call { callee := .builtin .delete, args := #[s, x], argTypes := #[t, k] }, type := ty, pos := ps, after := af, guard := gd } a K Q ((deleteV P t k ty (a.eval s) (a.eval x) w).andThen fun v w' => .ok (.value v) w') := by
  unfold Oper.wp execOp deleteV
  simp only [resolve, invoke, builtin, Sem.run_bind, Sem.run_pure, Result.andThen_ok, List.map_toArray, List.map_cons, List.map_nil]

/-- Cells laid one behind the other. -/
def setAll : List Value → Nat → List Value → List Value
  | xs, _, [] => xs
  | xs, o, y :: ys => setAll (xs.set o y) (o + 1) ys
theorem setAll_eq : ∀ (ys xs : List Value) (o : Nat), o + ys.length ≤ xs.length → setAll xs o ys = xs.take o ++ ys ++ xs.drop (o + ys.length)
  | [], xs, o, _ => by simp [setAll]
  | y :: ys, xs, o, h => by
    have h' : o + ys.length + 1 ≤ xs.length := by simpa [Nat.add_assoc] using h
    rw [setAll, setAll_eq ys (xs.set o y) (o + 1) (by simp; omega)]
    have ho : o < xs.length := by omega
    have hA : (xs.take o).length = o := by simp; omega
    rw [List.set_eq_take_append_cons_drop, if_pos ho]
    have e1 : (xs.take o ++ y :: xs.drop (o + 1)).take (o + 1) = xs.take o ++ [y] := by
      rw [List.take_append, hA, show o + 1 - o = 1 by omega, List.take_of_length_le (by omega)]
      simp
    have e2 : (xs.take o ++ y :: xs.drop (o + 1)).drop (o + 1 + ys.length) = xs.drop (o + (y :: ys).length) := by
      rw [List.drop_append, hA, show o + 1 + ys.length - o = ys.length + 1 by omega, List.drop_of_length_le (by omega), List.drop_succ_cons, List.drop_drop, List.nil_append, List.length_cons]
      congr 1
      omega
    rw [e1, e2]
    simp
def setCells (w : World) (g : Nat) : Nat → List Value → World
  | _, [] => w
  | o, y :: ys => setCells (w.setCell ⟨g, o, none⟩ y) g (o + 1) ys
theorem own_setCells {base : Nat} {e : TypeId} {size n g cap : Nat} : ∀ (ys : List Value) (w : World) (xs : List Value) (o : Nat), w.ownsRow base e size (.slice (some ⟨g, 0, none⟩) n cap) n xs → (setCells w g o ys).ownsRow base e size (.slice (some ⟨g, 0, none⟩) n cap) n (setAll xs o ys)
  | [], _, _, _, h => h
  | y :: ys, _, _, o, h => own_setCells ys _ _ (o + 1) (h.stored o y).1
theorem fr_setCells {g : Nat} : ∀ (ys : List Value) (w : World) (o : Nat), Fr (fun x => x = g) w (setCells w g o ys)
  | [], w, _ => Fr.refl _ w
  | y :: ys, w, o => (Fr.setCell (S := fun x => x = g) (Fr.refl _ w) (.inl rfl) y).trans (fr_setCells ys _ (o + 1)) (fun _ h => .inl h)
/-- One row of m cells stored anew. -/
theorem own_set_row {α : Type} {f : α → List Value} {m : Nat} (hf : ∀ x, (f x).length = m) {w : World} {base : Nat} {e : TypeId} {g cap : Nat} {l : List α} (h : w.ownsRow base e m (.slice (some ⟨g, 0, none⟩) l.length cap) l.length (l.flatMap f)) {k : Nat} (hk : k < l.length) (x : α) :
    (setCells w g (k * m) (f x)).ownsRow base e m (.slice (some ⟨g, 0, none⟩) l.length cap) l.length ((l.set k x).flatMap f) := by
  have h1 := own_setCells (f x) w _ (k * m) h
  have hle : (k + 1) * m ≤ l.length * m := Nat.mul_le_mul_right m hk
  rw [Nat.succ_mul] at hle
  rw [setAll_eq _ _ _ (by rw [hf, chunk_len f m hf]; exact hle), hf, ← chunk_set f m hf l k x hk] at h1
  exact h1
end Go.Viv
end

/-
  Rows of cells behind slices; one element appended to a row of one's own. No program in sight.
-/
section
namespace Go.Viv
open Go.RowKit Go.Maps

/-- The cells cs lie at A, one behind the other. -/
def RowC (w : World) (A : Option Addr) (cs : List Value) : Prop := cs = [] ∨ ∃ b o, A = some ⟨b, o, none⟩ ∧ b < w.heap.size ∧ ∀ i u, cs[i]? = some u → w.cell? ⟨b, o + i, none⟩ = some u
theorem RowC.fr {w w' : World} {A : Option Addr} {cs : List Value} (h : RowC w A cs) (hf : Fr (fun _ => False) w w') : RowC w' A cs := by
  rcases h with h | ⟨b, o, h1, h2, h3⟩
  · exact .inl h
  · exact .inr ⟨b, o, h1, Nat.lt_of_lt_of_le h2 hf.size, fun i u hi => by rw [hf.cell (p := ⟨b, o + i, none⟩) h2 (fun h => h)]; exact h3 i u hi⟩
theorem rowC_of_own {w : World} {base : Nat} {e : TypeId} {size n : Nat} {v : Value} {xs : List Value} (h : w.ownsRow base e size v n xs) :
    ∃ A cap, v = .slice A n cap ∧ n ≤ cap ∧ cap ≤ maxLen ∧ RowC w A xs := by
  rcases h.2 with ⟨rfl, rfl⟩ | ⟨g, cap, cur, hv, _, hh, h1, h2, h3, h4⟩
  · have h0 : xs = [] := by have := h.1; simp at this; exact this
    exact ⟨none, 0, rfl, Nat.le_refl _, Nat.zero_le _, .inl h0⟩
  · refine ⟨_, cap, hv, h1, h2, .inr ⟨g, 0, rfl, Blk.lt (t := e) hh, fun i u hi => ?_⟩⟩
    rw [Nat.zero_add, Blk.cell (t := e) hh, ← Array.getElem?_toList]
    rw [← h4, List.getElem?_take] at hi
    split at hi
    · exact hi
    · cases hi
theorem RowC.blk {w : World} {g : Nat} {t : TypeId} {cs : Array Value} (h : Blk w g t cs) : RowC w (some ⟨g, 0, none⟩) cs.toList :=
  .inr ⟨g, 0, rfl, h.lt, fun i u hi => by rw [Nat.zero_add, h.cell, ← Array.getElem?_toList]; exact hi⟩

/-- One element is appended. -/
theorem app_one {P : Program} {T E : TypeId} {z : Value} {size bytes : Nat} (hT : P.underlying T = some (.slice E)) (hE : (P.info? E).map (fun i => (i.zero, i.size, i.bytes)) = some (some z, size, bytes)) (hz : z.cells.size = size) (hs : 0 < size)
    {W : World} {base n : Nat} {v : Value} {xs : List Value} (hown : W.ownsRow base E size v n xs) {g : Nat} {cs : Array Value} (hg : Blk W g E cs) (hc : cs.size = size) (h1 : ∀ u ∈ cs.toList, u.oneCell' = true)
    (hn : n + 1 ≤ maxLen) (hb : (n + 1) * bytes ≤ 140737488355328) (hbase : base ≤ W.heap.size) :
    ∃ v' w', appendV P T T v (.slice (some ⟨g, 0, none⟩) 1 1) W = .ok v' w' ∧ w'.ownsRow base E size v' (n + 1) (xs ++ cs.toList) ∧ ∀ V, Fr (fun _ => False) V W → V.heap.size ≤ base → Fr (fun _ => False) V w' := by
  obtain ⟨i0, hi, hz0, hz1, hz2⟩ := info_parts hE
  obtain ⟨v', w', h, ho, hgr, _⟩ := run_append_own_at (P := P) W base T T E i0 z size bytes hT hi hz0 hz1 hz2 hz hs v n xs hown ⟨g, 0, none⟩ 1 1 cs.toList (by simp [hc]) (fun j u hj => by
    rw [show (⟨g, 0, none⟩ : Addr).add j = ⟨g, 0 + j, none⟩ by simp [Addr.add]; omega, Nat.zero_add, hg.cell, ← Array.getElem?_toList]; exact hj) h1 hn hb hbase
  refine ⟨v', w', h, ho, fun V hV hle => hV.grown hgr (fun k hk => .inr ?_)⟩
  have := (hown.lt k hk).1
  omega
end Go.Viv
end

/-
  An argument that is a slice, opened to a row of cells. No program in sight.
-/
section
namespace Go.Viv
open Go.ChangeShapes Go.WideShapes Go.Deep Go.RowKit

theorem add_none {a : Addr} (h : a.spot = none) (n : Nat) : a.add n = ⟨a.block, a.off + n, none⟩ := by
  unfold Addr.add
  obtain ⟨b, o, s⟩ := a
  simp only at h
  subst h
  split
  · rename_i hn
    subst hn
    rfl
  · rfl
theorem spot_of_cell {w : World} {a : Addr} {v : Value} (h : w.cell? a = some v) : a.spot = none ∧ a.block < w.heap.size := by
  refine ⟨?_, World.block_lt_of_cell? w a h⟩
  unfold World.cell? at h
  split at h
  · split at h
    · cases h
    · rename_i hs
      simpa using hs
  · cases h

/-- Elements read one by one. -/
theorem each_row {α : Type} {inv : α → Prop} {f : α → List Value} {C : Nat → Value → Prop} {m : Nat} : ∀ (k : Nat), (∀ i, i < k → ∃ v, inv v ∧ ∀ j u, (f v)[j]? = some u → C (i * m + j) u) → ∃ vs : List α, vs.length = k ∧ (∀ v ∈ vs, inv v) ∧ ∀ (i : Nat) (v : α), vs[i]? = some v → ∀ (j : Nat) (u : Value), (f v)[j]? = some u → C (i * m + j) u
  | 0, _ => ⟨[], rfl, by simp, by simp⟩
  | k + 1, h => by
    obtain ⟨vs, h1, h2, h3⟩ := each_row k (fun i hi => h i (by omega))
    obtain ⟨v, hv, hc⟩ := h k (by omega)
    refine ⟨vs ++ [v], by simp [h1], fun x hx => ?_, fun i x hi => ?_⟩
    · rcases List.mem_append.1 hx with hx | hx
      · exact h2 x hx
      · rw [List.mem_singleton.1 hx]; exact hv
    · by_cases hik : i < k
      · rw [List.getElem?_append_left (by omega)] at hi
        exact h3 i x hi
      · rw [List.getElem?_append_right (by omega)] at hi
        have h0 : i - vs.length = 0 := by
          rcases Nat.eq_zero_or_pos (i - vs.length) with h0 | h0
          · exact h0
          · rw [List.getElem?_eq_none (by simp; omega)] at hi; cases hi
        rw [h0] at hi
        obtain rfl : v = x := by simpa using hi
        obtain rfl : i = k := by omega
        exact hc

theorem open_row {H : Type} {enc : TypeId × Value → H} {P : Program} {w : World} {base : Nat} {spare : Nat → Bool} {held : Bool} {α : Type} {inv : α → Prop} {t e : TypeId} {fuel : Nat} {cs : List Value} {x : DataW H × List MemPlace}
    (f : α → List Value) (m : Nat) (hf : ∀ v, (f v).length = m) (hm : 0 < m) (hC : P.cellsOf e = m) (hel : ∀ n cs x, DataW.trod enc P w base spare held n e cs = some x → ∃ v, cs = f v ∧ inv v)
    (ht : P.underlying t = some (.slice e)) (h : DataW.trod enc P w base spare held fuel t cs = some x) :
    ∃ (A : Option Addr) (vs : List α) (cap : Nat), cs = [.slice A vs.length cap] ∧ vs.length ≤ cap ∧ cap ≤ maxLen ∧ RowC w A (vs.flatMap f) ∧ ∀ v ∈ vs, inv v := by
  rcases open_slice ht h with ⟨rfl, _⟩ | ⟨a, len, cap, q, n, D, Pl, rfl, _, hl, hcap, hq, _, hi⟩
  · exact ⟨none, [], 0, rfl, Nat.le_refl _, Nat.zero_le _, .inl rfl, by simp⟩
  · have hlq : len ≤ q := by rw [hq]; split <;> omega
    obtain ⟨vs, h1, h2, h3⟩ := each_row (inv := inv) (f := f) (C := fun k u => w.cell? (a.add k) = some u) (m := m) len (fun i hlt => by
      obtain ⟨cs', hc, ht'⟩ := hi i (by omega)
      obtain ⟨v, rfl, hv⟩ := hel _ _ _ ht'
      rw [hC] at hc
      obtain ⟨_, _, hat⟩ := World.cells?_some hc
      refine ⟨v, hv, fun j u hj => ?_⟩
      have hjm : j < m := by
        rcases Nat.lt_or_ge j m with h | h
        · exact h
        · rw [List.getElem?_eq_none (by rw [hf]; exact h)] at hj; cases hj
      rw [← Go.Deep.add_add, hat j hjm, hj])
    subst h1
    refine ⟨some a, vs, cap, rfl, hl, hcap, ?_, h2⟩
    cases vs with
    | nil => exact .inl rfl
    | cons v0 r =>
      have hu : ∃ u, (f v0)[0]? = some u := ⟨_, List.getElem?_eq_getElem (by rw [hf]; exact hm)⟩
      obtain ⟨u, hu⟩ := hu
      have h0 := h3 0 v0 rfl 0 u hu
      rw [show 0 * m + 0 = 0 by omega, show a.add 0 = a from rfl] at h0
      obtain ⟨hs, hb⟩ := spot_of_cell h0
      refine .inr ⟨a.block, a.off, by cases a; simp only at hs; rw [hs], hb, fun k y hk => ?_⟩
      have hk2 := chunk_get f m hf (v0 :: r) (k / m) (k % m) (Nat.mod_lt _ hm)
      rw [show k / m * m + k % m = k by rw [Nat.mul_comm]; exact Nat.div_add_mod k m, hk] at hk2
      cases hv : (v0 :: r)[k / m]? with
      | none => rw [hv] at hk2; cases hk2
      | some v =>
        rw [hv] at hk2
        have h4 := h3 (k / m) v hv (k % m) y hk2.symm
        rw [show k / m * m + k % m = k by rw [Nat.mul_comm]; exact Nat.div_add_mod k m, add_none hs] at h4
        exact h4
end Go.Viv
namespace Go.Viv
open Go.ChangeShapes Go.WideShapes Go.Deep Go.RowKit

theorem cells_ints : ∀ (cs : List Value), (∀ j, j < cs.length → ∃ n, cs[j]? = some (.int .i64 n) ∧ (Lit.int .i64 n).wf = true) → ∃ ns : List Int, cs = ns.map (Value.int .i64) ∧ ∀ n ∈ ns, (Lit.int .i64 n).wf = true
  | [], _ => ⟨[], rfl, by simp⟩
  | c :: r, h => by
    obtain ⟨n, h1, h2⟩ := h 0 (by simp)
    obtain ⟨ns, h3, h4⟩ := cells_ints r (fun j hj => by
      obtain ⟨n, h1, h2⟩ := h (j + 1) (by simp; omega)
      exact ⟨n, by simpa using h1, h2⟩)
    obtain rfl : c = .int .i64 n := by simpa using h1
    refine ⟨n :: ns, by rw [h3]; rfl, fun x hx => ?_⟩
    rcases List.mem_cons.1 hx with rfl | hx
    · exact h2
    · exact h4 x hx

/-- A struct of whole numbers, cell by cell. -/
theorem elem_ints {H : Type} {enc : TypeId × Value → H} {P : Program} {w : World} {base : Nat} {spare : Nat → Bool} {held : Bool} {t : TypeId} {fs : Array Field} (hs : P.underlying t = some (.struct fs))
    (hone : ∀ (j : Nat) (f : Field), fs[j]? = some f → f.offset = j ∧ P.cellsOf f.type = 1 ∧ P.underlying f.type = some (.int .i64)) (hC : P.cellsOf t = fs.size) {n : Nat} {cs : List Value} {x : DataW H × List MemPlace}
    (h : DataW.trod enc P w base spare held n t cs = some x) : ∃ ns : List Int, cs = ns.map (Value.int .i64) ∧ ns.length = fs.size ∧ ∀ n ∈ ns, (Lit.int .i64 n).wf = true := by
  obtain ⟨xs, m, _, _, hlen, hxl, hf⟩ := DataW.trod_struct hs h
  rw [hC] at hlen
  obtain ⟨ns, h1, h2⟩ := cells_ints cs (fun j hj => by
    have hfj : fs[j]? = some fs[j] := Array.getElem?_eq_getElem (by omega)
    obtain ⟨o, c, u⟩ := hone j _ hfj
    have h1 := hf j _ hfj
    rw [o, c] at h1
    have hx : xs[j]? = some (xs[j]'(by omega)) := List.getElem?_eq_getElem (by omega)
    rw [hx] at h1
    obtain ⟨k, g, _, wf⟩ := DataW.trod_int u h1
    refine ⟨k, ?_, wf⟩
    have h3 : ((cs.drop j).take 1)[0]? = some (.int .i64 k) := by rw [g]; rfl
    rw [List.getElem?_take, if_pos (by decide), List.getElem?_drop, Nat.add_zero] at h3
    exact h3)
  exact ⟨ns, h1, by rw [← hlen, h1, List.length_map], h2⟩
end Go.Viv
end

/-
  From a walk to the given row. No program in sight.
-/
section
namespace Go.Viv
open Go.ChangeShapes Go.WideShapes Go.ChangeAt Go.RowKit Go.Joins

/-- Arguments read behind the call as they did before it. -/
theorem trodAll_stays {H : Type} {enc : TypeId × Value → H} {P : Program} (hl : laidOutB P = true) {W W' : World} (hb : Below W.heap.size W W') : ∀ (ts : List TypeId) (vs : List Value) (ds : List (DataW H)) (ps : List MemPlace),
    (ts.all fun t => P.readableRec t && decide (t < P.types.size)) = true → DataW.TrodAll enc P W 0 (fun _ => true) true ts vs ds ps → (∀ x ∈ ps, x.block < W.heap.size) → DataW.TrodAll enc P W' 0 (fun b => decide (b < W.heap.size)) true ts vs ds ps
  | [], vs, ds, ps, _, h, _ => by
    obtain ⟨rfl, rfl, rfl⟩ := trodAll_nil h
    exact trodAll_mk0
  | t :: ts, vs, ds, ps, ht, h, hp => by
    obtain ⟨v0, vs0, d0, ds0, p0, q0, rfl, rfl, rfl, h0, r0⟩ := trodAll_cons h
    simp only [List.all_cons, Bool.and_eq_true, decide_eq_true_eq] at ht
    exact trodAll_cons_mk (Below.trod hl ht.1.1 ht.1.2 h0 hb (fun x hx => hp x (by simp [hx]))) (trodAll_stays hl hb ts vs0 ds0 q0 ht.2 r0 (fun x hx => hp x (by simp [hx])))

theorem trodAll_lt {H : Type} {enc : TypeId × Value → H} {P : Program} {W : World} {base : Nat} {sp : Nat → Bool} {held : Bool} : ∀ (ts : List TypeId) (vs : List Value) (ds : List (DataW H)) (ps : List MemPlace),
    DataW.TrodAll enc P W base sp held ts vs ds ps → ∀ x ∈ ps, x.block < W.heap.size
  | [], vs, ds, ps, h => by
    obtain ⟨rfl, rfl, rfl⟩ := trodAll_nil h
    simp
  | t :: ts, vs, ds, ps, h => by
    obtain ⟨v0, vs0, d0, ds0, p0, q0, rfl, rfl, rfl, h0, r0⟩ := trodAll_cons h
    intro x hx
    rcases List.mem_append.1 hx with hx | hx
    · obtain ⟨m, hm⟩ := h0
      exact DataW.trod_lt m _ _ _ hm x hx
    · exact trodAll_lt ts vs0 ds0 q0 r0 x hx
end Go.Viv

namespace Go.Viv
open Go.ChangeShapes Go.WideShapes Go.ChangeAt Go.RowKit Go.Joins
variable {H : Type} {enc : TypeId × Value → H}
/-- The wrap of a tied row, the world's shape kept for the walk. -/
theorem returnsIn_shaped_and {a : Assume} {C : Checked} {os : Os} {f : FuncId} {fn : Func} {s : ChangeSpec} {conds : List PathCond} {apart fresh handsOn again : Bool} {X : World → Array Value → Prop}
    (hX : ∀ (w w' : World) (args : Array Value), w.heap = w'.heap → X w args → X w' args)
    (own : ownKnob C.prog.godebug = none) (started : os.Started) (noInit : C.prog.inits.idxOf? f = none) (hfn : C.prog.funcs[f]? = some fn)
    (witness : ∃ (w : World) (tape : Tape) (i : Input), w.os = os ∧ (w.forCall tape i).Shaped C.prog ∧ i.vars = [] ∧ Input.okWide C.prog (w.forCall tape i) .any w.heap.size f i ∧
      ((s.pre enc C.prog fn conds apart (w.forCall tape i).memory i.args ∧ X (w.forCall tape i).memory i.args) ∧ sizedMet enc C.prog fn (OpenSpec.ofChange s) apart (w.forCall tape i).memory i.args) ∧ a.holds C.prog (lone (Frame.enter C.prog f i.args .normal) [] (w.forCall tape i)))
    (contract : ∀ (W : World) (base : Nat) (args : Array Value) (ds gs : List (DataW H)) (before : List MemPlace), W.ShapedOpen C.prog →
      (∀ (j : Nat) t v, fn.params[j]? = some t → args[j]? = some v → Value.okWide C.prog W .any base t v) →
      DataW.Whole enc C.prog fn.params.toList s.vars apart W args.toList ds gs before →
      (DataW.weightsEach C.prog (fn.params.toList ++ s.plain.varTypes C.prog) (ds ++ gs)).all (· ≤ reachBytes) = true → X W args →
      Calls C.prog f args W fun e W' => ∃ v, e = .returned v ∧ s.post enc C.prog fn apart fresh handsOn again W args v W') :
    ReturnsInHanded a C os f .any (fun w args => (s.pre enc C.prog fn conds apart w args ∧ X w args) ∧ sizedMet enc C.prog fn (OpenSpec.ofChange s) apart w args) (s.post enc C.prog fn apart fresh handsOn again) := by
  refine returnsInHanded_of_calls own started noInit witness ?_
  intro w tape i _ hsh _ hok hpre _
  obtain ⟨_, _, _, fn', hfn', _, _, _, _, hval⟩ := hok
  obtain rfl : fn' = fn := Option.some.inj (hfn'.symm.trans hfn)
  obtain ⟨⟨⟨ds, gs, before, hw, _⟩, hx⟩, hz⟩ := hpre
  refine (contract (w.forCall tape i) w.heap.size i.args ds gs before hsh hval (DataW.Whole.of_heap (w' := w.forCall tape i) (by rfl) hw) (hz.weights hw) (hX _ _ _ (by rfl) hx)).mono fun e W' ⟨v, he, hp⟩ => ?_
  subst he
  exact ChangeSpec.post_blind hp
end Go.Viv
namespace Go.Viv
/-- There is an input that fits, at a world whose shape is shown. -/
theorem witness_row_shaped {H : Type} {enc : TypeId × Value → H} {C : Checked} {os : Os} {f : FuncId} {fn : Func} {s : OpenSpec} {conds : List PathCond} {apart : Bool} {laid : List (String × DataW Unit)} (modest : Bool) (w0 : World) (args : Array Value) (hos : w0.os = os)
    (hsh : (w0.forCall (fun _ _ => 0) ⟨#[], args, []⟩).Shaped C.prog)
    (hok : Input.okWideB C.prog (w0.forCall (fun _ _ => 0) ⟨#[], args, []⟩) f ⟨#[], args, []⟩ = true)
    (hrow : s.preRow enc C.prog fn conds apart laid (w0.forCall (fun _ _ => 0) ⟨#[], args, []⟩).memory args) :
    ∃ (w : World) (tape : Tape) (i : Input), w.os = os ∧ (w.forCall tape i).Shaped C.prog ∧ i.vars = [] ∧ Input.okWide C.prog (w.forCall tape i) .any w.heap.size f i ∧
      s.preRow enc C.prog fn conds apart laid (w.forCall tape i).memory i.args ∧ ({ modest := modest } : Assume).holds C.prog (lone (Frame.enter C.prog f i.args .normal) [] (w.forCall tape i)) :=
  ⟨w0, fun _ _ => 0, ⟨#[], args, []⟩, hos, hsh, (Input.okWide_of_okWideB (base := 0) hok).1, (Input.okWide_of_okWideB hok).2, hrow, by
    simp only [Assume.holds]
    exact ⟨by simp, by simp, fun _ => Modest.zero, by simp, by simp⟩⟩
end Go.Viv
end

/-
  A part's value: its cells; whether it may be. No program in sight.
-/
section
namespace Go.Viv
open Go.RowKit

structure Val where
  k : Int
  a : Int
  b : Int
  deriving DecidableEq
def Val.cells (v : Val) : List Value := [.int .i64 v.k, .int .i64 v.a, .int .i64 v.b]
def Val.agg (v : Val) : Value := .agg #[.int .i64 v.k, .int .i64 v.a, .int .i64 v.b]
def Val.zero : Val := ⟨0, 0, 0⟩
/-- Whether a value may be. -/
def okV (v : Val) : Bool := if v.k = 1 then v.b == 0 else if v.k = 2 then true else if v.k = 3 then v.a == 0 && v.b == 0 else false
/-- A footprint, with what was made since. -/
def Ext (S : Nat → Prop) (w w' : World) (k : Nat) : Prop := S k ∨ (w.heap.size ≤ k ∧ k < w'.heap.size)
end Go.Viv
end

/-
  A world in plain words: handles, slots, what waits. No program in sight.
-/
section
namespace Go.Viv

structure Hnd where
  i : Int
  g : Int
  deriving DecidableEq
def Hnd.zero : Hnd := ⟨0, 0⟩
def Hnd.agg (h : Hnd) : Value := .agg #[.int .i64 h.i, .int .i64 h.g]
def Hnd.cells (h : Hnd) : List Value := [.int .i64 h.i, .int .i64 h.g]

/-- Handles: of each index its generation, and its state: 0 free, 1 live, 2 raised, 9 retired. -/
structure Als where
  top : Int
  gen : List Int
  st : List Nat
def Als.new (n : Nat) (top : Int) : Als := ⟨top, List.replicate n 0, List.replicate n 0⟩
def Als.size (a : Als) : Nat := a.st.length
/-- The least index of a state. -/
def Als.least (a : Als) : Option Nat := a.st.findIdx? (· == 0)
def Als.err (a : Als) : Int := if a.st.any (fun s => s != 9) then 6 else 7
def Als.genAt (a : Als) (i : Nat) : Int := a.gen.getD i 0
def Als.stAt (a : Als) (i : Nat) : Nat := a.st.getD i 0
def Als.give (a : Als) (i s : Nat) : Als := { a with gen := a.gen.set i (a.genAt i + 1), st := a.st.set i s }
/-- Create, Raise: the answer. -/
def Als.tookH (a : Als) : Hnd := match a.least with | some i => ⟨i, a.genAt i + 1⟩ | none => Hnd.zero
def Als.tookE (a : Als) : Int := match a.least with | some _ => 0 | none => a.err
def Als.took (a : Als) (s : Nat) : Als := match a.least with | some i => a.give i s | none => a
/-- State. -/
def Als.of (a : Als) (h : Hnd) : Nat :=
  if h.i < 0 ∨ (a.st.length : Int) ≤ h.i then 0 else if a.genAt h.i.toNat ≠ h.g then 0 else if a.stAt h.i.toNat = 1 ∨ a.stAt h.i.toNat = 2 then a.stAt h.i.toNat else 0
/-- The error of a handle that must be live. -/
def Als.may (a : Als) (h : Hnd) : Int := if a.of h = 0 then 4 else if a.of h = 2 then 5 else 0
def Als.gone (a : Als) (h : Hnd) : Als := { a with st := a.st.set h.i.toNat (if a.top ≤ h.g then 9 else 0) }
def Als.inSt (a : Als) (s : Nat) : List Hnd := ((List.range a.st.length).filter (fun i => a.stAt i == s)).map fun (i : Nat) => ⟨i, a.genAt i⟩
def Als.merged (a : Als) : Als := { a with st := a.st.map fun s => if s = 2 then 1 else s }
def Als.hasAt (a : Als) (i : Int) : Bool := decide (0 ≤ i) && decide (i < a.st.length) && (a.stAt i.toNat == 1 || a.stAt i.toNat == 2)
def Als.atH (a : Als) (i : Int) : Hnd := if a.hasAt i then ⟨i, a.genAt i.toNat⟩ else Hnd.zero

/-- What befell, all of it; where each reader stands. -/
structure Fls where
  bound : Nat
  evs : List (Int × Int)
  rd : List Nat
structure Dsc where
  k : Int
  v : Int
  b : Int
  deriving DecidableEq
def Dsc.cells (d : Dsc) : List Value := [.int .i64 d.k, .int .i64 d.v, .int .i64 d.b]
def Dsc.agg (d : Dsc) : Value := .agg #[.int .i64 d.k, .int .i64 d.v, .int .i64 d.b]
/-- Whether a component may be. -/
def Dsc.may (d : Dsc) : Int := if d.k < 1 ∨ 3 < d.k ∨ d.v < 1 ∨ 4 < d.v ∨ d.b < 0 ∨ 1000 < d.b then 1 else if d.v = 4 ∧ d.k ≠ 3 then 9 else 0
/-- A row of values by their indexes, rising. -/
abbrev SM := List (Nat × Val)
def SM.keys (l : SM) : List Nat := l.map (·.1)
def SM.lk (l : SM) (i : Int) : Option Val := (l.find? fun p => decide ((p.1 : Int) = i)).map (·.2)
def SM.put (i : Nat) (v : Val) : SM → SM
  | [] => [(i, v)]
  | p :: l => if i < p.1 then (i, v) :: p :: l else if i = p.1 then (i, v) :: l else p :: SM.put i v l
def SM.del (i : Int) (l : SM) : SM := l.filter fun p => decide ((p.1 : Int) ≠ i)
/-- A component: what it is, its values, what befell. -/
structure Sls where
  d : Dsc
  l : SM
  fl : Option Fls
def Sls.new (d : Dsc) : Sls := ⟨d, [], if 0 < d.b then some ⟨d.b.toNat, [], []⟩ else none⟩
def Sls.note (s : Sls) (k i : Int) : Sls := { s with fl := s.fl.map fun f => { f with evs := f.evs ++ [(k, i)] } }
def Sls.get (s : Sls) (i : Int) : Option Val := s.l.lk i
def Sls.val (s : Sls) (i : Int) : Val := (s.get i).getD Val.zero
def Sls.has (s : Sls) (i : Int) : Bool := (s.get i).isSome
def Sls.may (s : Sls) (i : Int) (v : Val) : Int := if i < 0 ∨ 65536 ≤ i then 1 else if okV v = false ∨ v.k ≠ s.d.k then 9 else 0
def Sls.lay (s : Sls) (i : Int) (v : Val) : Sls := { s with l := s.l.put i.toNat v }
/-- Put, of what may be; Take; Set, of what is there. -/
def Sls.put (s : Sls) (i : Int) (v : Val) : Sls := (s.lay i v).note (if s.has i then 2 else 1) i
def Sls.take (s : Sls) (i : Int) : Sls := if s.has i then { s with l := s.l.del i }.note 3 i else s
def Sls.setE (s : Sls) (i : Int) (v : Val) : Int := if s.may i v ≠ 0 then s.may i v else if s.has i then 0 else 10
def Sls.set (s : Sls) (i : Int) (v : Val) : Sls := if s.setE i v = 0 then (s.lay i v).note 2 i else s

structure Ops where
  k : Int
  h : Hnd
  c : Int
  v : Val
  deriving DecidableEq
def Ops.ok (o : Ops) : Bool := if o.k = 1 then o.c == 0 && o.v == Val.zero else if o.k = 2 then decide (0 ≤ o.c) && okV o.v else if o.k = 3 then decide (0 ≤ o.c) && o.v == Val.zero else false

/-- Things with parts. -/
structure Els where
  al : Als
  sl : List Sls
def Els.comp (w : Els) (c : Int) : Bool := decide (0 ≤ c) && decide (c < w.sl.length)
def Sls.no : Sls := ⟨⟨0, 0, 0⟩, [], none⟩
def Els.at_ (w : Els) (c : Int) : Sls := w.sl.getD c.toNat Sls.no
def Els.upd (w : Els) (c : Int) (s : Sls) : Els := { w with sl := w.sl.set c.toNat s }
def Els.parts (w : Els) (i : Int) : List Nat := (List.range w.sl.length).filter fun (c : Nat) => (w.at_ c).has i
/-- The error of a call on a part of a thing that must be live. -/
def Els.onE (w : Els) (h : Hnd) (c : Int) : Int := if w.al.may h ≠ 0 then w.al.may h else if w.comp c = false then 11 else 0
def Els.delN (w : Els) (h : Hnd) : Nat := if w.al.may h = 0 then (w.parts h.i).length else 0
def Els.del (w : Els) (h : Hnd) : Els := if w.al.may h = 0 then { al := w.al.gone h, sl := w.sl.map fun s => s.take h.i } else w
def Els.insE (w : Els) (h : Hnd) (c : Int) (v : Val) : Int := if w.onE h c ≠ 0 then w.onE h c else (w.at_ c).may h.i v
def Els.insV (w : Els) (h : Hnd) (c : Int) (v : Val) : Val := if w.insE h c v = 0 then (w.at_ c).val h.i else Val.zero
def Els.insB (w : Els) (h : Hnd) (c : Int) (v : Val) : Bool := if w.insE h c v = 0 then (w.at_ c).has h.i else false
def Els.ins (w : Els) (h : Hnd) (c : Int) (v : Val) : Els := if w.insE h c v = 0 then w.upd c ((w.at_ c).put h.i v) else w
def Els.getE (w : Els) (h : Hnd) (c : Int) : Int := if w.onE h c ≠ 0 then w.onE h c else if (w.at_ c).has h.i then 0 else 10
def Els.getV (w : Els) (h : Hnd) (c : Int) : Val := if w.getE h c = 0 then (w.at_ c).val h.i else Val.zero
def Els.rem (w : Els) (h : Hnd) (c : Int) : Els := if w.getE h c = 0 then w.upd c ((w.at_ c).take h.i) else w
def Els.setE (w : Els) (h : Hnd) (c : Int) (v : Val) : Int := if w.onE h c ≠ 0 then w.onE h c else (w.at_ c).setE h.i v
def Els.set (w : Els) (h : Hnd) (c : Int) (v : Val) : Els := if w.setE h c v = 0 then w.upd c ((w.at_ c).set h.i v) else w
structure Wls extends Els where
  res : List Int
  q : List Ops
  held : Bool
/-- The error of a call that is refused while the world is held. -/
def Wls.mayE (w : Wls) (h : Hnd) : Int := if w.al.of h = 0 then 4 else if w.held then 13 else 0
def Wls.createE (w : Wls) : Int := if w.held then 13 else w.al.tookE
def Wls.createH (w : Wls) : Hnd := if w.held then Hnd.zero else w.al.tookH
def Wls.create (w : Wls) : Wls := if w.held then w else { w with al := w.al.took 1 }
def Wls.delE (w : Wls) (h : Hnd) : Int := if w.mayE h ≠ 0 then w.mayE h else w.al.may h
def Wls.delN (w : Wls) (h : Hnd) : Nat := if w.mayE h ≠ 0 then 0 else w.toEls.delN h
def Wls.del (w : Wls) (h : Hnd) : Wls := if w.mayE h ≠ 0 then w else { w with toEls := w.toEls.del h }
def Wls.insE (w : Wls) (h : Hnd) (c : Int) (v : Val) : Int := if w.mayE h ≠ 0 then w.mayE h else w.toEls.insE h c v
def Wls.insV (w : Wls) (h : Hnd) (c : Int) (v : Val) : Val := if w.mayE h ≠ 0 then Val.zero else w.toEls.insV h c v
def Wls.insB (w : Wls) (h : Hnd) (c : Int) (v : Val) : Bool := if w.mayE h ≠ 0 then false else w.toEls.insB h c v
def Wls.ins (w : Wls) (h : Hnd) (c : Int) (v : Val) : Wls := if w.mayE h ≠ 0 then w else { w with toEls := w.toEls.ins h c v }
def Wls.remE (w : Wls) (h : Hnd) (c : Int) : Int := if w.mayE h ≠ 0 then w.mayE h else w.toEls.getE h c
def Wls.remV (w : Wls) (h : Hnd) (c : Int) : Val := if w.mayE h ≠ 0 then Val.zero else w.toEls.getV h c
def Wls.rem (w : Wls) (h : Hnd) (c : Int) : Wls := if w.mayE h ≠ 0 then w else { w with toEls := w.toEls.rem h c }
/-- What waits is done: how many ops are done, how many are passed over. -/
def Els.opE (w : Els) (o : Ops) : Int := if o.k = 1 then w.al.may o.h else if o.k = 2 then w.insE o.h o.c o.v else w.getE o.h o.c
def Els.op (w : Els) (o : Ops) : Els := if o.k = 1 then w.del o.h else if o.k = 2 then w.ins o.h o.c o.v else w.rem o.h o.c
def Els.ops : Els → List Ops → Els
  | w, [] => w
  | w, o :: l => (w.op o).ops l
def Els.done : Els → List Ops → Nat
  | _, [] => 0
  | w, o :: l => (if w.opE o = 0 then 1 else 0) + (w.op o).done l
def Wls.raisedN (w : Wls) : Nat := (w.al.inSt 2).length
def Wls.merged (w : Wls) : Els := { w.toEls with al := w.al.merged }
def Wls.maint (w : Wls) : Wls := if w.held then w else { w with toEls := w.merged.ops w.q, q := [] }
end Go.Viv
end

/-
  Whole structures, in plain words. No program in sight.
-/
section
namespace Go.Eva
open Go Go.Viv
/-- What a whole structure in memory holds, in plain words. -/
inductive Rs where
  | set (l : List Nat)
  | alloc (a : Als)
  | place (v : Nat) (l : SM)
  | flag (f : Fls)
  | slot (s : Sls)
  | nums (l : List Int)
  | queue (l : List Ops)
  | world (w : Wls)
  | arena (l : List (Int × List Nat)) (s : List (List Nat))
  | ralloc (a : Als)
  | rslot (s : Sls)
  | other (k : Nat) (l : List (List Int))
/-- The plain cells at a structure's head that may be read as they are. -/
def viewRs : Rs → List Value
  | .rslot s => [.int .i64 s.d.k, .int .i64 s.d.v, .int .i64 s.d.b]
  | .ralloc a => [.int .i64 a.st.length, .int .i64 a.top]
  | _ => []
end Go.Eva
end
