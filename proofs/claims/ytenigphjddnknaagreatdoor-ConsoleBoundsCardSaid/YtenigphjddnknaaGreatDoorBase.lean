/-
  Frames by footprints, blocks known whole, and maps of ints as partial functions: helpers without a program in sight.
-/
import Derived.WalkKit
import Derived.Maps.OwnSet
import Derived.Deep.AppendLies
import Derived.Deep.Draws
import Derived.Laws.Rows
namespace Go.Viv
open Go.RowKit Go.Maps

/-- w' is w but for the blocks of S, and new ones. -/
structure Fr (S : Nat → Prop) (w w' : World) : Prop where
  os : w'.os = w.os
  tape : w'.tape = w.tape
  output : w'.output = w.output
  size : w.heap.size ≤ w'.heap.size
  block : ∀ k, k < w.heap.size → ¬ S k → w'.heap[k]? = w.heap[k]?

theorem Fr.refl (S : Nat → Prop) (w : World) : Fr S w w := ⟨rfl, rfl, rfl, Nat.le_refl _, fun _ _ _ => rfl⟩
theorem Fr.trans {S T : Nat → Prop} {a b c : World} (h : Fr S a b) (k : Fr T b c) (hT : ∀ i, T i → S i ∨ a.heap.size ≤ i) : Fr S a c :=
  ⟨k.os.trans h.os, k.tape.trans h.tape, k.output.trans h.output, Nat.le_trans h.size k.size, fun i hi hn =>
    (k.block i (Nat.lt_of_lt_of_le hi h.size) (fun ht => by rcases hT i ht with h1 | h1; exact hn h1; omega)).trans (h.block i hi hn)⟩
theorem Fr.mono {S T : Nat → Prop} {a b : World} (h : Fr S a b) (hST : ∀ i, i < a.heap.size → S i → T i) : Fr T a b :=
  ⟨h.os, h.tape, h.output, h.size, fun i hi hn => h.block i hi (fun hs => hn (hST i hi hs))⟩
theorem Fr.drew {S : Nat → Prop} {a b : World} (h : Fr S a b) : Fr S a b.drew := ⟨h.os, h.tape, h.output, h.size, h.block⟩
theorem Fr.drewN {S : Nat → Prop} {a b : World} (h : Fr S a b) (n : Nat) : Fr S a (b.drewN n) := ⟨h.os, h.tape, h.output, h.size, h.block⟩
theorem Fr.alloc {S : Nat → Prop} {a b : World} (h : Fr S a b) (o : Obj) : Fr S a (b.alloc o) :=
  ⟨h.os, h.tape, h.output, Nat.le_trans h.size (by simp), fun i hi hn => (Below.heap_alloc b o i (Nat.lt_of_lt_of_le hi h.size)).trans (h.block i hi hn)⟩
theorem Fr.setCell {S : Nat → Prop} {a b : World} (h : Fr S a b) {p : Addr} (hp : S p.block ∨ a.heap.size ≤ p.block) (u : Value) : Fr S a (b.setCell p u) :=
  ⟨h.os, h.tape, h.output, by simpa [World.setCell] using h.size, fun i hi hn => (Below.heap_setCell b p u i (by
    rintro rfl
    rcases hp with hp | hp
    · exact hn hp
    · omega)).trans (h.block i hi hn)⟩
theorem Fr.grown {S : Nat → Prop} {a b c : World} {row : Option Nat} (h : Fr S a b) (hg : b.grownBy c row) (hr : ∀ k, row = some k → S k ∨ a.heap.size ≤ k) : Fr S a c :=
  ⟨hg.os.trans h.os, hg.tape.trans h.tape, hg.output.trans h.output, Nat.le_trans h.size hg.size, fun i hi hn =>
    (hg.block i (Nat.lt_of_lt_of_le hi h.size) (fun e => by rcases hr i e.symm with h1 | h1; exact hn h1; omega)).trans (h.block i hi hn)⟩
theorem Fr.below {S : Nat → Prop} {a b : World} {B : Nat} (h : Fr S a b) (hB : B ≤ a.heap.size) (hS : ∀ i, S i → B ≤ i) : Below B a b :=
  ⟨h.os, h.tape, h.output, h.size, fun k hk => h.block k (by omega) (fun hs => by have := hS k hs; omega)⟩
theorem Fr.of_below {S : Nat → Prop} {a b : World} (h : Below a.heap.size a b) : Fr S a b := ⟨h.os, h.tape, h.output, h.size, fun k hk _ => h.block k hk⟩
theorem Fr.cell {S : Nat → Prop} {a b : World} (h : Fr S a b) {p : Addr} (hp : p.block < a.heap.size) (hn : ¬ S p.block) : b.cell? p = a.cell? p :=
  World.cell?_of_block (h.block p.block hp hn)

/-- Block g is just the cells cs of element type t, none frozen. -/
def Blk (w : World) (g : Nat) (t : TypeId) (cs : Array Value) : Prop := w.heap[g]? = some (.cells cs t (0, 0))

section
variable {w w' : World} {g : Nat} {t : TypeId} {cs : Array Value}
theorem Blk.lt (h : Blk w g t cs) : g < w.heap.size := by
  rcases Nat.lt_or_ge g w.heap.size with hlt | hge
  · exact hlt
  · unfold Blk at h; rw [Array.getElem?_eq_none hge] at h; cases h
theorem Blk.cell (h : Blk w g t cs) (i : Nat) : w.cell? ⟨g, i, none⟩ = cs[i]? := cell_of_row w g i cs t (0, 0) h
theorem Blk.frozen (h : Blk w g t cs) (i : Nat) : w.frozen? ⟨g, i, none⟩ = false := by
  unfold Blk at h
  simp [World.frozen?, h]
theorem Blk.new (w : World) (t : TypeId) (cs : Array Value) : Blk (w.alloc (.cells cs t)) w.heap.size t cs := heap_alloc_new w _
theorem Blk.drew (h : Blk w g t cs) : Blk w.drew g t cs := h
theorem Blk.drewN (h : Blk w g t cs) (n : Nat) : Blk (w.drewN n) g t cs := h
theorem Blk.alloc (h : Blk w g t cs) (o : Obj) : Blk (w.alloc o) g t cs := (Below.heap_alloc w o g h.lt).trans h
theorem Blk.set_ (h : Blk w g t cs) (i : Nat) (u : Value) : Blk (w.setCell ⟨g, i, none⟩ u) g t (cs.setIfInBounds i u) := by
  unfold Blk at h ⊢
  simp [World.setCell, Array.getElem?_modify, h]
theorem Blk.far (h : Blk w g t cs) {p : Addr} (hp : g ≠ p.block) (u : Value) : Blk (w.setCell p u) g t cs := (Below.heap_setCell w p u g hp).trans h
theorem Blk.below {B : Nat} (h : Blk w g t cs) (hb : Below B w w') (hg : g < B) : Blk w' g t cs := (hb.block g hg).trans h
theorem Blk.grown {row : Option Nat} (h : Blk w g t cs) (hb : w.grownBy w' row) (hg : some g ≠ row) : Blk w' g t cs := (hb.block g h.lt hg).trans h
theorem Blk.fr {S : Nat → Prop} (h : Blk w g t cs) (hb : Fr S w w') (hg : ¬ S g) : Blk w' g t cs := (hb.block g h.lt hg).trans h
theorem Blk.ne_ {g' : Nat} {t' : TypeId} {cs' : Array Value} (h : Blk w g t cs) (h' : Blk w g' t' cs') (hne : t ≠ t') : g ≠ g' := by
  rintro rfl
  unfold Blk at h h'
  rw [h] at h'
  injection h' with h'
  injection h' with _ ht
  exact hne ht
end

/-- Block b is a map of ints to ints, of at most n entries, that holds just f. -/
def IMap (w : World) (P : Program) (k e : TypeId) (b n : Nat) (f : Int → Option Int) : Prop :=
  ∃ D : DataW Unit, w.ownsMap P k (plainElem P e) b n D ∧ ∀ i : Int, match f i with
    | some v => Maps.has D (.int .i64 i) = true ∧ ∀ z, D.atKey (.int .i64 i) z = .lit (.int .i64 v)
    | none => Maps.has D (.int .i64 i) = false

section
variable {w w' : World} {P : Program} {k e : TypeId} {b n : Nat} {f : Int → Option Int}
theorem IMap.lt (h : IMap w P k e b n f) : b < w.heap.size := let ⟨_, h1, _⟩ := h; h1.lt
theorem IMap.heap (h : IMap w P k e b n f) : ∃ es clock, w.heap[b]? = some (.map es clock) := let ⟨_, ⟨es, c, h1, _⟩, _⟩ := h; ⟨es, c, h1⟩
theorem IMap.of_block (h : IMap w P k e b n f) (hb : w'.heap[b]? = w.heap[b]?) : IMap w' P k e b n f := by
  obtain ⟨D, ⟨es, c, h1, r⟩, h2⟩ := h
  exact ⟨D, ⟨es, c, hb.trans h1, r⟩, h2⟩
theorem IMap.fr {S : Nat → Prop} (h : IMap w P k e b n f) (hf : Fr S w w') (hn : ¬ S b) : IMap w' P k e b n f := h.of_block (hf.block b h.lt hn)
theorem IMap.mono (h : IMap w P k e b n f) {m : Nat} (hm : n ≤ m) : IMap w P k e b m f := let ⟨D, h1, h2⟩ := h; ⟨D, h1.mono hm, h2⟩
theorem IMap.made (w : World) (P : Program) (k e : TypeId) : IMap (w.alloc (.map #[] 0)) P k e w.heap.size 0 (fun _ => none) :=
  ⟨_, World.ownsMap_made w P k _, fun _ => rfl⟩
theorem IMap.ne_blk {g : Nat} {t : TypeId} {cs : Array Value} (h : IMap w P k e b n f) (hg : Blk w g t cs) : b ≠ g := by
  rintro rfl
  obtain ⟨es, c, h1⟩ := h.heap
  unfold Blk at hg
  rw [hg] at h1
  cases h1

theorem IMap.look {t : TypeId} (h : IMap w P k e b n f) (hk : P.underlying k = some (.int .i64)) (he : P.underlying e = some (.int .i64)) (ht : P.underlying t = some (.map k e))
    (hz : ∀ w, (zeroValue e).run P w = .ok (.int .i64 0) w) {i : Int} (hi : (Lit.int .i64 i).wf = true) :
    (Instr.lookup t (.map (some b)) (.int .i64 i) true).run P w = .ok (.tuple #[.int .i64 ((f i).getD 0), .bool (f i).isSome]) w := by
  obtain ⟨D, h1, h2⟩ := h
  obtain ⟨v, ps, hr, hv⟩ := h1.look_ok (int_keyed hk) ht (hz w) (plainElem_int he (a := 0) (by decide)) (keyOf_int_mk hk hi)
  have h3 := h2 i
  obtain ⟨c, rfl, hc, hwc⟩ := plainElem_int_inv he hv
  cases hf : f i with
  | none =>
    rw [hf] at h3
    have h4 := Maps.atKey_of_not_has h3 (.lit (.int .i64 0))
    have h5 := congrArg Prod.fst hc
    simp only at h5
    rw [h4] at h5
    injection h5 with h5
    injection h5 with _ h5
    rw [hr, h3]
    simp [← h5]
  | some u =>
    rw [hf] at h3
    have h5 := congrArg Prod.fst hc
    simp only at h5
    rw [h3.2] at h5
    injection h5 with h5
    injection h5 with _ h5
    rw [hr, h3.1]
    simp [← h5]

theorem IMap.store {t : TypeId} (h : IMap w P k e b n f) (hk : P.underlying k = some (.int .i64)) (he : P.underlying e = some (.int .i64)) (ht : P.underlying t = some (.map k e))
    (hn : n < maxLen) {i v : Int} (hi : (Lit.int .i64 i).wf = true) (hv : (Lit.int .i64 v).wf = true) :
    ∃ w', (Instr.mapUpdate t (.map (some b)) (.int .i64 i) (.int .i64 v)).run P w = .ok () w' ∧ IMap w' P k e b (n + 1) (fun j => if j = i then some v else f j) ∧ w.grownBy w' (some b) := by
  obtain ⟨D, h1, h2⟩ := h
  obtain ⟨w', hr, ho, hm⟩ := h1.store (int_keyed hk) ht hn (keyOf_int_mk hk hi) (plainElem_int he hv)
  refine ⟨w', hr, ⟨_, ho, fun j => ?_⟩, hm.grown⟩
  by_cases hj : j = i
  · subst hj
    simp only [if_true]
    exact ⟨Maps.has_put_same h1.isMap (by simp [WideAt.IsKeyLit]) _, fun z => Maps.atKey_put_same h1.isMap (by simp [WideAt.IsKeyLit]) _ z⟩
  · simp only [if_neg hj]
    have hne : (Lit.int .i64 j) ≠ .int .i64 i := fun hh => hj (by injection hh)
    have h3 := h2 j
    cases hf : f j with
    | none => rw [hf] at h3; simp only at h3 ⊢; rw [Maps.has_put_other hne]; exact h3
    | some u =>
      rw [hf] at h3
      simp only at h3 ⊢
      exact ⟨by rw [Maps.has_put_other hne]; exact h3.1, fun z => by rw [Maps.atKey_put_other hne]; exact h3.2 z⟩

theorem IMap.drop {t : TypeId} (h : IMap w P k e b n f) (hk : P.underlying k = some (.int .i64)) (ht : P.underlying t = some (.map k e))
    {i : Int} (hi : (Lit.int .i64 i).wf = true) (ty : TypeId) :
    ∃ w', (Builtin.delete_ #[t, k] ty #[.map (some b), .int .i64 i]).run P w = .ok (.tuple #[]) w' ∧ IMap w' P k e b n (fun j => if j = i then none else f j) ∧ w.grownBy w' (some b) := by
  obtain ⟨D, h1, h2⟩ := h
  obtain ⟨w', hr, ho, hm⟩ := h1.drop (int_keyed hk) ht (keyOf_int_mk hk hi) ty
  refine ⟨w', hr, ⟨_, ho, fun j => ?_⟩, hm.grown⟩
  by_cases hj : j = i
  · subst hj
    simp only [if_true]
    exact Maps.has_del_same
  · simp only [if_neg hj]
    have hne : (Lit.int .i64 j) ≠ .int .i64 i := fun hh => hj (by injection hh)
    have h3 := h2 j
    cases hf : f j with
    | none => rw [hf] at h3; simp only at h3 ⊢; rw [Maps.has_del_other hne]; exact h3
    | some u =>
      rw [hf] at h3
      simp only at h3 ⊢
      exact ⟨by rw [Maps.has_del_other hne]; exact h3.1, fun z => by rw [Maps.atKey_del_other hne]; exact h3.2 z⟩
end

end Go.Viv

namespace Go.Viv
open Go.RowKit Go.Maps

/-- A row of m cells each. -/
theorem chunk_get {α : Type} (f : α → List Value) (m : Nat) (hf : ∀ x, (f x).length = m) : ∀ (l : List α) (k c : Nat), c < m → (l.flatMap f)[k * m + c]? = (l[k]?).bind (fun x => (f x)[c]?)
  | [], k, c, _ => by simp
  | x :: r, 0, c, hc => by simp [List.getElem?_append_left (show c < (f x).length by rw [hf]; exact hc)]
  | x :: r, k + 1, c, hc => by
    rw [List.flatMap_cons, List.getElem?_append_right (by rw [hf, Nat.succ_mul]; omega), hf, show (k + 1) * m + c - m = k * m + c by rw [Nat.succ_mul]; omega, chunk_get f m hf r k c hc]
    simp
theorem chunk_len {α : Type} (f : α → List Value) (m : Nat) (hf : ∀ x, (f x).length = m) : ∀ (l : List α), (l.flatMap f).length = l.length * m
  | [] => by simp
  | x :: r => by rw [List.flatMap_cons, List.length_append, chunk_len f m hf r, hf, List.length_cons, Nat.succ_mul, Nat.add_comm]

/-- A row that is nobody's but one's own lies in one block, or is nil. -/
theorem own_cases {w : World} {base : Nat} {e : TypeId} {size n : Nat} {v : Value} {xs : List Value} (h : w.ownsRow base e size v n xs) (hn : 0 < n) :
    ∃ g cap cur, v = .slice (some ⟨g, 0, none⟩) n cap ∧ n ≤ cap ∧ cap ≤ maxLen ∧ Blk w g e cur ∧ cur.size = cap * size ∧ cur.toList.take (n * size) = xs := by
  rcases h.2 with ⟨_, h0⟩ | ⟨g, cap, cur, hv, _, hh, h1, h2, h3, h4⟩
  · omega
  · exact ⟨g, cap, cur, hv, h1, h2, hh, h3, h4⟩
theorem own_len {w : World} {base : Nat} {e : TypeId} {size n : Nat} {v : Value} {xs : List Value} (h : w.ownsRow base e size v n xs) : ∃ A cap, v = .slice A n cap ∧ n ≤ cap := by
  rcases h.2 with ⟨rfl, rfl⟩ | ⟨g, cap, cur, rfl, _, _, h1, _⟩
  · exact ⟨none, 0, rfl, Nat.le_refl _⟩
  · exact ⟨_, cap, rfl, h1⟩
theorem own_fr {w w' : World} {S : Nat → Prop} {base : Nat} {e : TypeId} {size n : Nat} {v : Value} {xs : List Value} (h : w.ownsRow base e size v n xs) (hf : Fr S w w') (hS : ∀ k, v.ownBlock = some k → ¬ S k) : w'.ownsRow base e size v n xs := by
  obtain ⟨h1, h2⟩ := h
  refine ⟨h1, ?_⟩
  rcases h2 with h2 | ⟨g, cap, cur, hv, hb, hh, r⟩
  · exact .inl h2
  · refine .inr ⟨g, cap, cur, hv, hb, ?_, r⟩
    subst hv
    rw [hf.block g (Blk.lt (t := e) hh) (hS g rfl)]
    exact hh
theorem own_blk_ne {w : World} {base g : Nat} {e t : TypeId} {size n : Nat} {v : Value} {xs : List Value} {cs : Array Value} (h : w.ownsRow base e size v n xs) (hg : Blk w g t cs) (hne : e ≠ t) : v.ownBlock ≠ some g := by
  rcases h.2 with ⟨rfl, _⟩ | ⟨g', cap, cur, rfl, _, hh, _⟩
  · simp [Value.ownBlock]
  · intro he
    have : g' = g := by simpa [Value.ownBlock] using he
    subst this
    exact Blk.ne_ (t := e) hh hg hne rfl
theorem own_map_ne {w : World} {base b m : Nat} {e : TypeId} {size n : Nat} {v : Value} {xs : List Value} {P : Program} {k' e' : TypeId} {f : Int → Option Int} (h : w.ownsRow base e size v n xs) (hm : IMap w P k' e' b m f) : v.ownBlock ≠ some b := by
  rcases h.2 with ⟨rfl, _⟩ | ⟨g', cap, cur, rfl, _, hh, _⟩
  · simp [Value.ownBlock]
  · intro he
    have : g' = b := by simpa [Value.ownBlock] using he
    subst this
    exact (hm.ne_blk (t := e) hh) rfl

theorem nodup_le {α : Type} [DecidableEq α] : ∀ (l m : List α), l.Nodup → (∀ x ∈ l, x ∈ m) → l.length ≤ m.length
  | [], _, _, _ => by simp
  | x :: r, m, hn, hs => by
    have hx : x ∈ m := hs x (by simp)
    have h1 := nodup_le r (m.erase x) (List.nodup_cons.1 hn).2 (fun y hy => (List.mem_erase_of_ne (fun e => (List.nodup_cons.1 hn).1 (by rw [← e]; exact hy))).2 (hs y (by simp [hy])))
    have h2 := List.length_erase_of_mem hx
    have h3 := List.length_pos_of_mem hx
    simp only [List.length_cons]
    omega

/-- A map holds no more entries than the keys that it may have. -/
theorem IMap.shrink {w : World} {P : Program} {k e : TypeId} {b n : Nat} {f : Int → Option Int} (h : IMap w P k e b n f) (hk : P.underlying k = some (.int .i64)) (l : List Int) (hl : ∀ i v, f i = some v → i ∈ l) : IMap w P k e b l.length f := by
  obtain ⟨D, ⟨es, c, h1, F, hs, hD⟩, h2⟩ := h
  refine ⟨D, ⟨es, c, h1, F, ?_, hD⟩, h2⟩
  have K := int_keyed (P := P) hk
  have hap := Maps.fit_apart K F
  have hlen : (es.toList.map (WideElems.rg P k (plainElem (H := Unit) P e))).length = es.size := by simp
  have hmem : ∀ p ∈ es.toList.map (WideElems.rg P k (plainElem (H := Unit) P e)), ∃ i : Int, p.1 = Lit.int .i64 i ∧ i ∈ l := by
    intro p hp
    obtain ⟨x, hx, rfl⟩ := List.mem_map.1 hp
    obtain ⟨y, hy⟩ := F.reads x hx
    have hk' : ∃ i : Int, y.1 = Lit.int .i64 i := by
      have hkey := WideElems.rd_key hy
      unfold keyOf mapKey at hkey
      rw [hk] at hkey
      simp only at hkey
      cases hx' : x.key <;> simp [hx'] at hkey
      all_goals exact ⟨_, hkey.2.symm⟩
    obtain ⟨i, hi⟩ := hk'
    have hrg := WideElems.rg_of hy
    refine ⟨i, by rw [hrg, hi], ?_⟩
    have hh : Maps.has D (.int .i64 i) = true := by
      rw [hD]
      refine List.any_eq_true.2 ⟨y, (WideShapes.sorted_perm _).mem_iff.2 (by rw [← hrg]; exact hp), ?_⟩
      rw [hi]
      exact WideAt.sameKey_self (by simp [WideAt.IsKeyLit])
    have h3 := h2 i
    cases hf : f i with
    | none => rw [hf] at h3; simp only at h3; rw [h3] at hh; cases hh
    | some v => exact hl i v hf
  have hgo : ∀ L : List (Lit × DataW Unit), L.Pairwise (fun p q => p.1 ≠ q.1) → (∀ p ∈ L, ∃ i : Int, p.1 = Lit.int .i64 i ∧ i ∈ l) → ∃ m : List Int, m.length = L.length ∧ m.Nodup ∧ (∀ i ∈ m, i ∈ l) ∧ ∀ i ∈ m, ∃ p ∈ L, p.1 = Lit.int .i64 i := by
    intro L
    induction L with
    | nil => intro _ _; exact ⟨[], rfl, List.nodup_nil, by simp, by simp⟩
    | cons p r ih =>
      intro hp hq
      obtain ⟨hp1, hp2⟩ := List.pairwise_cons.1 hp
      obtain ⟨m, m1, m2, m3, m4⟩ := ih hp2 (fun q hq' => hq q (by simp [hq']))
      obtain ⟨i, hi, hil⟩ := hq p (by simp)
      refine ⟨i :: m, by simp [m1], List.nodup_cons.2 ⟨fun him => ?_, m2⟩, ?_, ?_⟩
      · obtain ⟨q, hq1, hq2⟩ := m4 i him
        exact hp1 q hq1 (by rw [hi, hq2])
      · intro j hj
        rcases List.mem_cons.1 hj with rfl | hj
        · exact hil
        · exact m3 j hj
      · intro j hj
        rcases List.mem_cons.1 hj with rfl | hj
        · exact ⟨p, by simp, hi⟩
        · obtain ⟨q, hq1, hq2⟩ := m4 j hj
          exact ⟨q, by simp [hq1], hq2⟩
  obtain ⟨m, m1, m2, m3, _⟩ := hgo _ hap hmem
  have := nodup_le m l m2 m3
  omega
end Go.Viv

namespace Go.Viv
open Go.RowKit Go.Maps

theorem chunk_set {α : Type} (f : α → List Value) (m : Nat) (hf : ∀ x, (f x).length = m) : ∀ (l : List α) (k : Nat) (x : α), k < l.length → (l.set k x).flatMap f = (l.flatMap f).take (k * m) ++ f x ++ (l.flatMap f).drop (k * m + m)
  | [], k, x, h => by simp at h
  | y :: r, 0, x, _ => by
    rw [List.set_cons_zero, List.flatMap_cons, List.flatMap_cons, Nat.zero_mul, List.take_zero, Nat.zero_add, ← hf y, List.drop_left, List.nil_append]
  | y :: r, k + 1, x, h => by
    have ih := chunk_set f m hf r k x (by simpa using h)
    have e1 : (k + 1) * m = (f y).length + k * m := by rw [hf, Nat.succ_mul, Nat.add_comm]
    have e2 : (k + 1) * m + m = (f y).length + (k * m + m) := by rw [e1, Nat.add_assoc]
    rw [List.set_cons_succ, List.flatMap_cons, ih, List.flatMap_cons, e2, e1, List.take_length_add_append, List.drop_length_add_append]
    simp [List.append_assoc]

theorem Fr.alloc1 (S : Nat → Prop) (w : World) (o : Obj) : Fr S w (w.alloc o) := (Fr.refl S w).alloc o
theorem own_in {w : World} {base : Nat} {e : TypeId} {size n : Nat} {v : Value} {xs : List Value} (h : w.ownsRow base e size v n xs) : ∀ k, v.ownBlock = some k → k < w.heap.size := fun k hk => (h.lt k hk).2
end Go.Viv

namespace Go.Viv
open Go.RowKit Go.Maps

/-- What append does, as one word. -/
def appendV (P : Program) (t ty : TypeId) (s x : Value) (w : World) : Result Value := (Builtin.append_ #[t, t] ty #[s, x]).run P w

theorem wp_appendV (P : Program) (dst : Option Tmp) (s x : Operand) (t ty : TypeId) (ps : String) (af : Array Edge) (gd : Option (Nat × Bool)) (a : Act) (w : World) (K : Act → World → Prop) (Q : Exit → Act → World → Prop) :
    Oper.wp P { dst := dst, op := .call { callee := .builtin .append, args := #[s, x], argTypes := #[t, t] }, type := ty, pos := ps, after := af, guard := gd } a w K Q =
      Oper.upon P { dst := dst, op := .call { callee := .builtin .append, args := #[s, x], argTypes := #[t, t] }, type := ty, pos := ps, after := af, guard := gd } a K Q ((appendV P t ty (a.eval s) (a.eval x) w).andThen fun v w' => .ok (.value v) w') := by
  unfold Oper.wp execOp appendV
  simp only [resolve, invoke, builtin, Sem.run_bind, Sem.run_pure, Result.andThen_ok, List.map_toArray, List.map_cons, List.map_nil]
/-- What delete does, as one word. -/
def deleteV (P : Program) (t k ty : TypeId) (s x : Value) (w : World) : Result Value := (Builtin.delete_ #[t, k] ty #[s, x]).run P w

theorem wp_deleteV (P : Program) (dst : Option Tmp) (s x : Operand) (t k ty : TypeId) (ps : String) (af : Array Edge) (gd : Option (Nat × Bool)) (a : Act) (w : World) (K : Act → World → Prop) (Q : Exit → Act → World → Prop) :
    Oper.wp P { dst := dst, op := .call { callee := .builtin .delete, args := #[s, x], argTypes := #[t, k] }, type := ty, pos := ps, after := af, guard := gd } a w K Q =
      Oper.upon P { dst := dst, op := .call { callee := .builtin .delete, args := #[s, x], argTypes := #[t, k] }, type := ty, pos := ps, after := af, guard := gd } a K Q ((deleteV P t k ty (a.eval s) (a.eval x) w).andThen fun v w' => .ok (.value v) w') := by
  unfold Oper.wp execOp deleteV
  simp only [resolve, invoke, builtin, Sem.run_bind, Sem.run_pure, Result.andThen_ok, List.map_toArray, List.map_cons, List.map_nil]

/-- Cells laid one behind the other. -/
def setAll : List Value → Nat → List Value → List Value
  | xs, _, [] => xs
  | xs, o, y :: ys => setAll (xs.set o y) (o + 1) ys
theorem setAll_eq : ∀ (ys xs : List Value) (o : Nat), o + ys.length ≤ xs.length → setAll xs o ys = xs.take o ++ ys ++ xs.drop (o + ys.length)
  | [], xs, o, _ => by simp [setAll]
  | y :: ys, xs, o, h => by
    have h' : o + ys.length + 1 ≤ xs.length := by simpa [Nat.add_assoc] using h
    rw [setAll, setAll_eq ys (xs.set o y) (o + 1) (by simp; omega)]
    have ho : o < xs.length := by omega
    have hA : (xs.take o).length = o := by simp; omega
    rw [List.set_eq_take_append_cons_drop, if_pos ho]
    have e1 : (xs.take o ++ y :: xs.drop (o + 1)).take (o + 1) = xs.take o ++ [y] := by
      rw [List.take_append, hA, show o + 1 - o = 1 by omega, List.take_of_length_le (by omega)]
      simp
    have e2 : (xs.take o ++ y :: xs.drop (o + 1)).drop (o + 1 + ys.length) = xs.drop (o + (y :: ys).length) := by
      rw [List.drop_append, hA, show o + 1 + ys.length - o = ys.length + 1 by omega, List.drop_of_length_le (by omega), List.drop_succ_cons, List.drop_drop, List.nil_append, List.length_cons]
      congr 1
      omega
    rw [e1, e2]
    simp
def setCells (w : World) (g : Nat) : Nat → List Value → World
  | _, [] => w
  | o, y :: ys => setCells (w.setCell ⟨g, o, none⟩ y) g (o + 1) ys
theorem own_setCells {base : Nat} {e : TypeId} {size n g cap : Nat} : ∀ (ys : List Value) (w : World) (xs : List Value) (o : Nat), w.ownsRow base e size (.slice (some ⟨g, 0, none⟩) n cap) n xs → (setCells w g o ys).ownsRow base e size (.slice (some ⟨g, 0, none⟩) n cap) n (setAll xs o ys)
  | [], _, _, _, h => h
  | y :: ys, _, _, o, h => own_setCells ys _ _ (o + 1) (h.stored o y).1
theorem fr_setCells {g : Nat} : ∀ (ys : List Value) (w : World) (o : Nat), Fr (fun x => x = g) w (setCells w g o ys)
  | [], w, _ => Fr.refl _ w
  | y :: ys, w, o => (Fr.setCell (S := fun x => x = g) (Fr.refl _ w) (.inl rfl) y).trans (fr_setCells ys _ (o + 1)) (fun _ h => .inl h)
/-- One row of m cells stored anew. -/
theorem own_set_row {α : Type} {f : α → List Value} {m : Nat} (hf : ∀ x, (f x).length = m) {w : World} {base : Nat} {e : TypeId} {g cap : Nat} {l : List α} (h : w.ownsRow base e m (.slice (some ⟨g, 0, none⟩) l.length cap) l.length (l.flatMap f)) {k : Nat} (hk : k < l.length) (x : α) :
    (setCells w g (k * m) (f x)).ownsRow base e m (.slice (some ⟨g, 0, none⟩) l.length cap) l.length ((l.set k x).flatMap f) := by
  have h1 := own_setCells (f x) w _ (k * m) h
  have hle : (k + 1) * m ≤ l.length * m := Nat.mul_le_mul_right m hk
  rw [Nat.succ_mul] at hle
  rw [setAll_eq _ _ _ (by rw [hf, chunk_len f m hf]; exact hle), hf, ← chunk_set f m hf l k x hk] at h1
  exact h1
end Go.Viv
