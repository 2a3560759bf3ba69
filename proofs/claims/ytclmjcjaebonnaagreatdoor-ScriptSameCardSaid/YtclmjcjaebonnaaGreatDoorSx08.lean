/-
  Several texts in one. Contracts of package hibit: Len, New, Add.
-/
import Derived.Test.YtclmjcjaebonnaaGreatDoorSx07
section
namespace Go.Viv
open Go.RowKit
def zeroNode : Array Value := (Value.int .u64 0 :: List.replicate 64 (Value.pointer none)).toArray
def zeroSet : Array Value := (Value.int .u64 0 :: List.replicate 64 (Value.pointer none) ++ [Value.int .i64 0]).toArray
theorem zeroNode_c {w : World} {g : Nat} {t : TypeId} (h : Blk w g t zeroNode) : NodeC w g 0 (fun _ => none) := by
  refine ⟨t, _, h, rfl, fun d hd => ?_⟩
  show (Value.int .u64 0 :: List.replicate 64 (Value.pointer none)).toArray[1 + d]? = _
  rw [List.getElem?_toArray, Nat.add_comm, List.getElem?_cons_succ, List.getElem?_replicate, if_pos hd]
  rfl
theorem zeroSet_c {w : World} {g : Nat} {t : TypeId} (h : Blk w g t zeroSet) : NodeC w g 0 (fun _ => none) ∧ w.cell? ⟨g, 65, none⟩ = some (.int .i64 0) := by
  refine ⟨⟨t, _, h, rfl, fun d hd => ?_⟩, by rw [h.cell]; rfl⟩
  show (Value.int .u64 0 :: List.replicate 64 (Value.pointer none) ++ [Value.int .i64 0]).toArray[1 + d]? = _
  rw [List.getElem?_toArray, Nat.add_comm, List.cons_append, List.getElem?_cons_succ, List.getElem?_append_left (by simpa using hd), List.getElem?_replicate, if_pos hd]
  rfl
/-- The set of no number. -/
theorem empty_tree {w : World} {p : Nat} {S : Nat → Prop} (h : NodeC w p 0 (fun _ => none)) (hS : S p) : Tree w p [] S (fun L a => if L = 3 ∧ a = 0 then some p else none) := by
  refine ⟨by simp, fun a b h => ?_, fun L a b h => ?_, fun L a b hb => ?_, fun L a L' a' b h1 h2 => ?_, fun L a b hL h => ?_, by simp, by simp⟩
  · split at h
    · omega
    · cases h
  · split at h
    · omega
    · cases h
  · split at hb
    · rename_i he
      obtain ⟨rfl, rfl⟩ := he
      obtain rfl := Option.some.inj hb
      refine ⟨hS, 0, by decide, h.kids (fun d _ => ?_), fun d _ => ?_⟩
      · show (if 2 = 3 ∧ 0 * 64 + d = 0 then some p else none) = none
        simp
      · rw [Nat.zero_testBit]
        show false = (if 2 = 3 ∧ 0 * 64 + d = 0 then some p else none : Option Nat).isSome
        simp
    · cases hb
  · split at h1
    · split at h2
      · omega
      · cases h2
    · cases h1
  · split at h
    · omega
    · cases h
/-- A set while it is changed: its tree, its count. -/
structure HibSt (w wr : World) (p : Nat) (l : List Nat) (S : Nat → Prop) (nb : Nat → Nat → Option Nat) (n : Nat) : Prop where
  tree : Tree wr p l (Ext S w wr) nb
  fr : Fr S w wr
  count : wr.cell? ⟨p, 65, none⟩ = some (.int .i64 (n : Int))
  inb : ∀ k, S k → k < w.heap.size
theorem HibSt.lt {w a : World} {p : Nat} {l : List Nat} {S : Nat → Prop} {nb : Nat → Nat → Option Nat} {n : Nat} (h : HibSt w a p l S nb n) {k : Nat} (hk : Ext S w a k) : k < a.heap.size := by
  have := h.fr.size
  rcases hk with h1 | ⟨_, h1⟩
  · have := h.inb k h1; omega
  · exact h1
theorem Ext.le {S : Nat → Prop} {w a b : World} (h : a.heap.size ≤ b.heap.size) {k : Nat} (hk : Ext S w a k) : Ext S w b k := by
  rcases hk with h1 | ⟨h1, h2⟩
  · exact .inl h1
  · exact .inr ⟨h1, by omega⟩
theorem HibSt.on {w a b : World} {p : Nat} {l : List Nat} {S : Nat → Prop} {nb : Nat → Nat → Option Nat} {n : Nat} (h : HibSt w a p l S nb n) (hf : Fr (fun _ => False) a b) : HibSt w b p l S nb n := by
  obtain ⟨_, _, _, h2, _⟩ := h.tree.node 3 0 p h.tree.top
  exact ⟨(h.tree.frF hf).mono (fun k hk => Ext.le hf.size hk), h.fr.trans hf (fun _ h => h.elim), by rw [hf.cell h2.lt (fun h => h)]; exact h.count, h.inb⟩
theorem HibSt.start {w : World} {p : Nat} {l : List Nat} {S : Nat → Prop} {nb : Nat → Nat → Option Nat} (h : Tree w p l S nb) {n : Nat} (hc : w.cell? ⟨p, 65, none⟩ = some (.int .i64 (n : Int))) (hb : ∀ k, S k → k < w.heap.size) : HibSt w w p l S nb n :=
  ⟨h.mono (fun _ h => .inl h), Fr.refl _ _, hc, hb⟩
theorem Ext.in_ {S : Nat → Prop} {w a : World} {k : Nat} (hk : Ext S w a k) : S k ∨ w.heap.size ≤ k := by
  rcases hk with h | ⟨h, _⟩
  · exact .inl h
  · exact .inr h
theorem HibSt.fr_set {w a : World} {p : Nat} {l : List Nat} {S : Nat → Prop} {nb : Nat → Nat → Option Nat} {n : Nat} (h : HibSt w a p l S nb n) {L x b : Nat} (hb : nb L x = some b) (o : Nat) (u : Value) : Fr S w (a.setCell ⟨b, o, none⟩ u) :=
  h.fr.setCell (Ext.in_ (h.tree.node L x b hb).1) u
theorem cell_setne {w : World} {b o c q : Nat} (u : Value) (h : ¬ (b = c ∧ o = q)) : (w.setCell ⟨c, q, none⟩ u).cell? ⟨b, o, none⟩ = w.cell? ⟨b, o, none⟩ :=
  by
  rw [World.cell?_setCell_other]
  intro e
  injection e with e1 e2
  exact h ⟨e1.symm, e2.symm⟩
theorem setCell_size (w : World) (a : Addr) (u : Value) : (w.setCell a u).heap.size = w.heap.size := by simp [World.setCell]
theorem alloc_size (w : World) (o : Obj) : (w.alloc o).heap.size = w.heap.size + 1 := by simp
theorem NodeC.word_eq {w : World} {b x y : Nat} {k k' : Nat → Option Nat} (h : NodeC w b x k) (h' : NodeC w b y k') : x = y := by
  have h1 := h.cell0
  rw [h'.cell0] at h1
  injection h1 with h1
  injection h1 with _ h1
  omega
theorem HibSt.word {w a : World} {p : Nat} {l : List Nat} {S : Nat → Prop} {nb : Nat → Nat → Option Nat} {n : Nat} (h : HibSt w a p l S nb n) {L x b word : Nat} {kid : Nat → Option Nat} (hb : nb L x = some b) (hn : NodeC a b word kid) : HibSt w (a.setCell ⟨b, 0, none⟩ (.int .u64 (word : Int))) p l S nb n := by
  refine ⟨?_, h.fr_set hb _ _, ?_, h.inb⟩
  · refine (h.tree.same (b := b) (fun k _ hk => Below.heap_setCell a _ _ k hk) (fun word' kid' hn' => ?_)).mono (fun k hk => Ext.le (by rw [setCell_size]; exact Nat.le_refl _) hk)
    rw [hn.word_eq hn']
    exact hn'.setWord word'
  · rw [cell_setne _ (by omega)]; exact h.count
theorem or_bit (x d e : Nat) (hd : d < 64) : (x ||| oneN (d : Int)).testBit e = (decide (e = d) || x.testBit e) := by
  rw [Nat.testBit_or, oneN_bit]
  by_cases he : e = d
  · subst he
    rw [decide_eq_true rfl, decide_eq_true hd, decide_eq_true rfl]
    simp
  · rw [decide_eq_false he, decide_eq_false (by omega)]
    simp
theorem HibSt.growTo {w a : World} {p : Nat} {l : List Nat} {S : Nat → Prop} {nb : Nat → Nat → Option Nat} {n : Nat} (h : HibSt w a p l S nb n) {L x b word d : Nat} {t : TypeId} {zc : Array Value} (hzc : zc = zeroNode) (o : Obj) (hb : nb (L + 1) x = some b) (hn : NodeC a b word (kidsOf nb (L + 1) x)) (hw : word < 18446744073709551616) (hbit : ∀ e, e < 64 → word.testBit e = bitOf nb l (L + 1) x e) (hd : d < 64) (hno : nb L (x * 64 + d) = none) :
    HibSt w ((((a.setCell ⟨b, 0, none⟩ (.int .u64 ((word ||| oneN (d : Int) : Nat) : Int))).setCell ⟨b, 1 + d, none⟩ (.pointer (some ⟨a.heap.size + 1, 0, none⟩))).alloc o).alloc (.cells zc t)) p l S (upN nb L (x * 64 + d) (some (a.heap.size + 1))) n := by
  subst hzc
  have hbS := (h.tree.node _ _ _ hb).1
  obtain ⟨a2, ha2⟩ : ∃ a2, (a.setCell ⟨b, 0, none⟩ (.int .u64 ((word ||| oneN (d : Int) : Nat) : Int))).setCell ⟨b, 1 + d, none⟩ (.pointer (some ⟨a.heap.size + 1, 0, none⟩)) = a2 := ⟨_, rfl⟩
  have hsz : a2.heap.size = a.heap.size := by rw [← ha2, setCell_size, setCell_size]
  have hN : NodeC a2 b (word ||| oneN (d : Int)) (fun e => if e = d then some (a.heap.size + 1) else kidsOf nb (L + 1) x e) := by
    rw [← ha2]
    exact (hn.setWord (word ||| oneN (d : Int))).setKid hd (some (a.heap.size + 1))
  have hfr : Fr S w a2 := by
    rw [← ha2]
    exact (h.fr_set hb _ _).setCell (Ext.in_ hbS) _
  have hO : ∀ k, k ≠ b → a2.heap[k]? = a.heap[k]? := fun k hk => by
    rw [← ha2, Below.heap_setCell _ _ _ k hk, Below.heap_setCell _ _ _ k hk]
  have hcnt : a2.cell? ⟨p, 65, none⟩ = some (.int .i64 (n : Int)) := by
    rw [← ha2, cell_setne _ (by omega), cell_setne _ (by omega)]
    exact h.count
  rw [ha2]
  obtain ⟨_, _, _, h2, _⟩ := h.tree.node 3 0 p h.tree.top
  have hplt := h2.lt
  refine ⟨?_, (hfr.alloc _).alloc _, ?_, h.inb⟩
  · refine (h.tree.grow hb hd hno (fun hx => by have := h.lt hx; omega) (show word ||| oneN (d : Int) < 2 ^ 64 from Nat.or_lt_two_pow hw (oneN_lt _)) (fun e he => by rw [or_bit word d e hd, hbit e he]) ((hN.alloc _).alloc _) ?_ ?_).mono (fun k hk => ?_)
    · have := Blk.new (a2.alloc o) t zeroNode
      rw [alloc_size, hsz] at this
      exact zeroNode_c this
    · intro k hk hkb
      have := h.lt hk
      rw [Below.heap_alloc _ _ _ (by rw [alloc_size]; omega), Below.heap_alloc _ _ _ (by omega), hO k hkb]
    · rcases hk with hk | rfl
      · exact Ext.le (by rw [alloc_size, alloc_size]; omega) hk
      · exact .inr ⟨by have := h.fr.size; omega, by rw [alloc_size, alloc_size]; omega⟩
  · rw [World.cell?_of_block (Below.heap_alloc _ _ _ (by rw [alloc_size]; show p < _; omega)), World.cell?_of_block (Below.heap_alloc _ _ _ (by show p < _; omega))]
    exact hcnt
end Go.Viv
end

/-
  Contracts of package hibit: Len, New, Add.
-/
section
namespace Go.Viv
open Go.RowKit
theorem cell_sethere {w : World} {b o : Nat} {u : Value} (v : Value) (h : w.cell? ⟨b, o, none⟩ = some u) : (w.setCell ⟨b, o, none⟩ v).cell? ⟨b, o, none⟩ = some v := World.cell?_setCell_same w ⟨b, o, none⟩ v h
theorem rise_len {l : List Nat} (hr : RiseN l) {N : Nat} (hl : ∀ x, x ∈ l → x < N) : l.length ≤ N := by
  have hn : l.Nodup := by
    clear hl
    induction l with
    | nil => exact List.nodup_nil
    | cons a r ih => exact List.nodup_cons.2 ⟨fun h => Nat.lt_irrefl _ (hr.1 a h), ih hr.2⟩
  have := nodup_le l (List.range N) hn (fun x hx => List.mem_range.2 (hl x hx))
  simpa using this
theorem SetIs.later {w a b : World} {p : Nat} {l : List Nat} {S : Nat → Prop} (h : SetIs a p l (Ext S w a)) (hf : Fr (fun _ => False) a b) : SetIs b p l (Ext S w b) :=
  (h.keep hf (fun _ _ h => h)).mono (fun _ hk => Ext.le hf.size hk) (fun k hk => by
    rcases hk with hk | ⟨_, hk⟩
    · exact Nat.lt_of_lt_of_le (h.inb k (.inl hk)) hf.size
    · exact hk)
theorem or_same {x d : Nat} (hd : d < 64) (h : x.testBit d = true) : x ||| oneN (d : Int) = x := by
  apply Nat.eq_of_testBit_eq
  intro e
  rw [or_bit x d e hd]
  by_cases he : e = d
  · subst he; rw [h]; simp
  · rw [decide_eq_false he]; rfl
theorem HibSt.put {w a : World} {p : Nat} {l : List Nat} {S : Nat → Prop} {nb : Nat → Nat → Option Nat} {n : Nat} (h : HibSt w a p l S nb n) (hr : RiseN l) {i b word : Nat} (hi : i < 16777216) (hb : nb 0 (i / 64) = some b) (hn : NodeC a b word (fun _ => none)) (hw : word < 18446744073709551616) (hbit : ∀ d, d < 64 → word.testBit d = decide (i / 64 * 64 + d ∈ l)) (hni : i ∉ l) (hnl : n = l.length) :
    SetIs ((a.setCell ⟨b, 0, none⟩ (.int .u64 ((word ||| oneN ((i % 64 : Nat) : Int) : Nat) : Int))).setCell ⟨p, 65, none⟩ (.int .i64 ((n : Int) + 1))) p (insN i l) (Ext S w ((a.setCell ⟨b, 0, none⟩ (.int .u64 ((word ||| oneN ((i % 64 : Nat) : Int) : Nat) : Int))).setCell ⟨p, 65, none⟩ (.int .i64 ((n : Int) + 1)))) ∧
    Fr S w ((a.setCell ⟨b, 0, none⟩ (.int .u64 ((word ||| oneN ((i % 64 : Nat) : Int) : Nat) : Int))).setCell ⟨p, 65, none⟩ (.int .i64 ((n : Int) + 1))) := by
  have hlt := hn.lt
  have hm : i % 64 < 64 := Nat.mod_lt _ (by decide)
  obtain ⟨htS, wt, hwt, hnt, _⟩ := h.tree.node 3 0 p h.tree.top
  have h1 : Tree (a.setCell ⟨b, 0, none⟩ (.int .u64 ((word ||| oneN ((i % 64 : Nat) : Int) : Nat) : Int))) p (insN i l) (Ext S w a) nb := by
    refine h.tree.leaf hb (show word ||| oneN _ < 2 ^ 64 from Nat.or_lt_two_pow hw (oneN_lt _)) (fun d hd => ?_) (hn.setWord _) (fun k _ hk => Below.heap_setCell a _ _ k hk) (fun j hj => ?_) (by omega)
    · rw [or_bit word _ d hm, hbit d hd]
      by_cases hdi : d = i % 64
      · subst hdi
        rw [show i / 64 * 64 + i % 64 = i by omega, decide_eq_true rfl, decide_eq_true (mem_insN.2 (.inl rfl))]
        rfl
      · rw [decide_eq_false hdi, Bool.false_or, decide_eq_decide, mem_insN]
        constructor
        · exact .inr
        · rintro (h2 | h2)
          · omega
          · exact h2
    · rw [mem_insN]
      constructor
      · rintro (h2 | h2)
        · subst h2; exact absurd rfl hj
        · exact h2
      · exact .inr
  have hsz : (a.setCell ⟨b, 0, none⟩ (.int .u64 ((word ||| oneN ((i % 64 : Nat) : Int) : Nat) : Int))).heap.size = a.heap.size := setCell_size _ _ _
  have hsz2 : ((a.setCell ⟨b, 0, none⟩ (.int .u64 ((word ||| oneN ((i % 64 : Nat) : Int) : Nat) : Int))).setCell ⟨p, 65, none⟩ (.int .i64 ((n : Int) + 1))).heap.size = a.heap.size := by rw [setCell_size, hsz]
  refine ⟨⟨riseN_ins hr, ?_, ⟨nb, ?_⟩, ?_⟩, (h.fr_set hb _ _).setCell (Ext.in_ htS) _⟩
  · rw [cell_sethere _ ((cell_setne _ (by omega)).trans h.count), insN_len hr hni, hnl]
    simp
  · refine (h1.same (b := p) (fun k _ hk => Below.heap_setCell _ _ _ k hk) (fun word' kid' hn' => ?_)).mono (fun k hk => Ext.le (by rw [hsz2]; exact Nat.le_refl _) hk)
    obtain ⟨t, cs, g1, g2, g3⟩ := hn'
    refine ⟨t, _, g1.set_ 65 _, ?_, fun d hd => ?_⟩
    · rw [Array.getElem?_setIfInBounds_ne (by omega)]; exact g2
    · rw [Array.getElem?_setIfInBounds_ne (by omega)]; exact g3 d hd
  · intro k hk
    rcases hk with hk | ⟨_, hk⟩
    · have := h.inb k hk; have := h.fr.size; omega
    · exact hk
end Go.Viv
namespace Go.Viv
open Go.RowKit
theorem reg_drew (w : World) : ∃ p : Regrown, w.drew = Go.Sort.grow (redrawn w p.d) p.os := reg_of_fr (Fr.refl _ _).drew
end Go.Viv
namespace Go.Proofs.YtclmjcjaebonnaaGreatDoor
open Go.RowKit Go.Viv
theorem len_hib (p : Nat) (l : List Nat) (S : Nat → Prop) (w : World) (h : SetIs w p l S) :
    Calls Tryz.prog 141 #[.pointer (some ⟨p, 0, none⟩)] w fun e w' => e = .returned (.int .i64 (l.length : Int)) ∧ w' = w := by
  have hc := h.count
  clear h
  go_enter Tryz.func141, Tryz.ntmps141
  go_wp2
  go_ret
  exact ⟨rfl, rfl⟩
theorem zc_node : Tryz.zeroCells184 = zeroNode := by kernel_rfl
theorem zc_set : Tryz.zeroCells186 = zeroSet := by kernel_rfl
theorem build_set (w : World) : (Instr.build 186 #[]).run Tryz.prog w = .ok (.agg zeroSet) w := by kernel_rfl
theorem build_node (w : World) : (Instr.build 184 #[]).run Tryz.prog w = .ok (.agg zeroNode) w := by kernel_rfl
set_option maxRecDepth 100000 in
theorem new_hib (w : World) :
    Calls Tryz.prog 59 #[.slice none 0 0] w fun e w' => e = .returned (.pointer (some ⟨w.heap.size, 0, none⟩)) ∧ SetIs w' w.heap.size [] (fun k => k = w.heap.size) ∧ Fr (fun _ => False) w w' := by
  have hb := build_set
  have HZ := Lib.hid (Blk.new w 186 zeroSet)
  go_enter Tryz.func59, Tryz.ntmps59
  go_wp2_with fail
  go_loopw [10] (fun t wr => t = .int .i64 0 ∧ wr = w.alloc (.cells zeroSet 186)) (fun _ _ => 0)
  case atStart => exact ⟨rfl, rfl⟩
  case round =>
    obtain ⟨rfl, rfl⟩ := hrel
    go_wp2
    go_ret
    have h := zeroSet_c HZ.out
    exact ⟨rfl, ⟨trivial, h.2, ⟨_, empty_tree h.1 rfl⟩, fun k hk => by rw [hk, alloc_size]; omega⟩, Fr.alloc1 _ _ _⟩
set_option maxRecDepth 100000 in
set_option maxHeartbeats 2000000 in
theorem add_new (p i : Nat) (hi : i < 16777216) (l : List Nat) (S : Nat → Prop) (w : World) (h : SetIs w p l S) (hni : i ∉ l) :
    Calls Tryz.prog 60 #[.pointer (some ⟨p, 0, none⟩), .int .i64 (i : Int)] w fun e w' => e = .returned (.tuple #[.bool true, .int .i64 0]) ∧ SetIs w' p (insN i l) (Ext S w w') ∧ Fr S w w' := by
  have HH := Lib.hid (has_nat p i hi l S w h)
  rw [decide_eq_false hni] at HH
  have HO := Lib.hid (ok_any (i : Int) w)
  rw [decide_eq_true (by omega : 0 ≤ (i : Int)), decide_eq_true (by omega : (i : Int) < 16777216)] at HO
  obtain ⟨nb0, ht0'⟩ := h.tree
  have HS := Lib.hid (fun W (hW : Fr (fun _ => False) w W) => (HibSt.start ht0' h.count h.inb).on hW)
  have HR := Lib.hid (And.intro h.rise hni)
  clear h ht0' hni
  go_enter Tryz.func60, Tryz.ntmps60
  go_wp2_with fail
  refine HO.out.mono ?_
  rintro e w1 ⟨rfl, rfl⟩
  go_wp2_with fail
  refine HH.out.mono ?_
  rintro e w2 ⟨rfl, hf2⟩
  have hst := HS.out _ hf2
  have H2 := Lib.hid (And.intro hst hf2)
  clear hst hf2
  go_wp2_with fail
  go_loopw [6, 7, 8] (fun u t _ wr => ∃ (L b : Nat) (nb : Nat → Nat → Option Nat), L ≤ 3 ∧ t = .int .i64 L ∧ u = .pointer (some ⟨b, 0, none⟩) ∧ nb L (i / 64 ^ (L + 1)) = some b ∧ HibSt w wr p l S nb l.length) (fun _ t _ _ => (intOf t).toNat)
  case atStart =>
    refine ⟨3, p, nb0, by omega, rfl, rfl, ?_, H2.out.1⟩
    rw [show (64 : Nat) ^ (3 + 1) = 16777216 from by decide, Nat.div_eq_of_lt hi]
    exact H2.out.1.tree.top
  case round =>
    obtain ⟨L, b, nb, hL3, rfl, rfl, hb, hst⟩ := hrel
    by_cases hlt : 0 < L
    · have hlt' : (0 : Int) < L := by omega
      obtain ⟨M, rfl⟩ : ∃ M, L = M + 1 := ⟨L - 1, by omega⟩
      obtain ⟨_, word, hw, hN, hbit⟩ := hst.tree.node _ _ _ hb
      have hd : i / 64 ^ (M + 1) % 64 < 64 := Nat.mod_lt _ (by decide)
      have c0 := hN.cell0
      have ck := hN.cellK hd
      rw [kids_at] at ck
      have f0 := hN.frozen 0
      have f1 := hN.frozen (1 + i / 64 ^ (M + 1) % 64)
      have hbl := hN.lt
      have HD := Lib.hid (fun W => digit_any i (M + 1) hi hL3 W)
      have he : i / 64 ^ (M + 1 + 1) * 64 + i / 64 ^ (M + 1) % 64 = i / 64 ^ (M + 1) := by
        rw [show i / 64 ^ (M + 1 + 1) = i / 64 ^ (M + 1) / 64 from by rw [Nat.div_div_eq_div_mul, ← Nat.pow_succ]]
        omega
      have HX := Lib.hid (And.intro hst (And.intro hb (And.intro hN (And.intro hbit he))))
      obtain ⟨d, hdd⟩ : ∃ d, i / 64 ^ (M + 1) % 64 = d := ⟨_, rfl⟩
      rw [hdd] at hd ck HD f1
      have hd' : (d : Int) < 64 := by omega
      have HW := Lib.hid (with_w word hw [(d : Int)] (some ⟨wr.heap.size, 0, none⟩) 1 (wr.alloc (.cells #[.int .i64 d] 3)) (RowC.blk (Blk.new wr 3 #[.int .i64 (d : Int)])) (by simp) (by omega))
      rw [allN_one] at HW
      have HDD := Lib.hid hdd
      have hbn := build_node
      clear hst hb hN hbit he hdd
      cases hc : nb M (i / 64 ^ (M + 1)) with
      | some c =>
        rw [hc] at ck
        simp only [ptrV] at ck
        have HC := Lib.hid hc
        clear hc
        go_wp2_with fail
        refine (HD.out _).mono ?_
        rintro e w3 ⟨rfl, rfl⟩
        go_wp2_with fail
        refine HW.out.mono ?_
        rintro e w4 ⟨rfl, rfl⟩
        go_wp2
        go_roundw
        case rel =>
          refine ⟨M, c, nb, by omega, rfl, rfl, HC.out, ?_⟩
          have hbt := HX.out.2.2.2.1 d hd
          have e2 : bitOf nb l (M + 1) (i / 64 ^ (M + 1 + 1)) d = true := by
            show (nb M (i / 64 ^ (M + 1 + 1) * 64 + d)).isSome = true
            have h5 := HX.out.2.2.2.2
            rw [HDD.out] at h5
            rw [h5, HC.out]
            rfl
          rw [or_same hd (hbt.trans e2)]
          exact (HX.out.1.word HX.out.2.1 HX.out.2.2.1).on (Fr.alloc1 _ _ _)
        case measure => simp [intOf]
      | none =>
        rw [hc] at ck
        simp only [ptrV] at ck
        have HC := Lib.hid hc
        clear hc
        go_wp2_with fail
        refine (HD.out _).mono ?_
        rintro e w3 ⟨rfl, rfl⟩
        go_wp2_with fail
        refine HW.out.mono ?_
        rintro e w4 ⟨rfl, rfl⟩
        go_wp2
        go_roundw
        case rel =>
          have h5 := HX.out.2.2.2.2
          rw [HDD.out] at h5
          refine ⟨M, _, _, by omega, rfl, rfl, ?_, HX.out.1.growTo zc_node _ HX.out.2.1 HX.out.2.2.1 hw HX.out.2.2.2.1 hd (by rw [h5]; exact HC.out)⟩
          rw [h5, upN_same]
        case measure => simp [intOf]
    · obtain rfl : L = 0 := by omega
      obtain ⟨_, word, hw, hN, hbit⟩ := ht0 hst.tree hb
      have hd : i % 64 < 64 := Nat.mod_lt _ (by decide)
      simp only [Nat.zero_add, Nat.pow_one] at hb hbit
      have c1 := hN.cell0
      have c0 := cell_regrown c1
      have cp := hst.count
      have f0 := hN.frozen 0
      have hbl := hN.lt
      obtain ⟨_, _, _, hNp, _⟩ := hst.tree.node 3 0 p hst.tree.top
      have fp := hNp.frozen 65
      have hpl := hNp.lt
      have HD := Lib.hid (fun W => digit_any i 0 hi (by omega) W)
      have hll := rise_len HR.out.1 hst.tree.lt
      simp only [Nat.pow_zero, Nat.div_one] at HD
      have HP := Lib.hid (hst.put HR.out.1 hi hb hN hw hbit HR.out.2 rfl)
      have HW := Lib.hid (with_w word hw [((i % 64 : Nat) : Int)] (some ⟨wr.heap.size, 0, none⟩) 1 (wr.alloc (.cells #[.int .i64 ((i % 64 : Nat) : Int)] 3)).drew (RowC.blk ((Blk.new wr 3 #[.int .i64 ((i % 64 : Nat) : Int)]).drew)) (by simp) (by omega))
      rw [allN_one] at HW
      obtain ⟨d, hdd⟩ : ∃ d, i % 64 = d := ⟨_, rfl⟩
      rw [hdd] at hd HP HW HD
      have hsz := hst.fr.size
      clear hst hb hN hbit hNp hdd
      obtain ⟨wB, hwB⟩ : ∃ wB, wB = wr := ⟨wr, rfl⟩
      subst hwB
      go_wp2_with fail
      refine Ord.wp_region_cls (S := fun w' => ∃ p : Regrown, w' = Go.Sort.grow (redrawn wB p.d) p.os) #[0, 0, 2, 6, 14, 0, 32, 96, 254, 511, 1023, 2047] [(0, true), (1, true), (2, true), (3, true), (4, true), (5, true), (6, true), (7, false), (8, false), (9, true), (10, true), (11, false)] [11] (by kernel_rfl) (by kernel_rfl) (by intro c d v a w h; cases d <;> exact h) (reg_drew wB) ?_
      simp only [Ord.pick, List.map_cons, List.map_nil, List.getElem?_toArray, List.getElem?_cons_succ, List.getElem?_cons_zero]
      iterate 7 (apply Ord.c_step; intro K hK; go_simp; first | (refine hK _ ?_; clear hK K) | (apply Exists.intro; refine ⟨?_, hK _ ?_⟩; (intro pw; go_at_call 89; exact calls_sym (HD.out _)); clear hK K))
      apply Ord.c_does (k := true) rfl
      go_wp2_with fail
      refine Ord.behind_cls (reg_of_fr ((Fr.refl _ _).drew.alloc _)) ?_
      apply Ord.c_does (k := true) rfl
      go_wp2_with fail
      refine HW.out.mono ?_
      rintro e w4 ⟨rfl, rfl⟩
      go_wp2_with fail
      refine Ord.behind_cls (reg_of_fr ((Fr.refl _ _).drew.alloc _)) ?_
      iterate 2 (apply Ord.c_step; intro K hK; go_simp; first | (refine hK _ ?_; clear hK K))
      apply Ord.c_does (k := false) rfl
      go_wp2_with fail
      refine Ord.behind_last ?_
      refine Ord.c_nil ?_
      go_wp2
      go_ret2
      exact ⟨rfl, SetIs.later HP.out.1 ((Fr.alloc1 _ _ _).drew), HP.out.2.trans (T := fun _ => False) ((Fr.alloc1 _ _ _).drew) (fun _ h => False.elim h)⟩
theorem add_old (p i : Nat) (hi : i < 16777216) (l : List Nat) (S : Nat → Prop) (w : World) (h : SetIs w p l S) (hm : i ∈ l) :
    Calls Tryz.prog 60 #[.pointer (some ⟨p, 0, none⟩), .int .i64 (i : Int)] w fun e w' => e = .returned (.tuple #[.bool false, .int .i64 0]) ∧ Fr (fun _ => False) w w' := by
  have HH := Lib.hid (has_nat p i hi l S w h)
  rw [decide_eq_true hm] at HH
  have HO := Lib.hid (ok_any (i : Int) w)
  rw [decide_eq_true (by omega : 0 ≤ (i : Int)), decide_eq_true (by omega : (i : Int) < 16777216)] at HO
  clear h hm
  go_enter Tryz.func60, Tryz.ntmps60
  go_wp2_with fail
  refine HO.out.mono ?_
  rintro e w1 ⟨rfl, rfl⟩
  go_wp2_with fail
  refine HH.out.mono ?_
  rintro e w2 ⟨rfl, hf2⟩
  have H2 := Lib.hid hf2
  clear hf2
  go_wp2
  go_ret2
  exact ⟨rfl, H2.out⟩
theorem add_nat (p i : Nat) (hi : i < 16777216) (l : List Nat) (S : Nat → Prop) (w : World) (h : SetIs w p l S) :
    Calls Tryz.prog 60 #[.pointer (some ⟨p, 0, none⟩), .int .i64 (i : Int)] w fun e w' => e = .returned (.tuple #[.bool (!decide (i ∈ l)), .int .i64 0]) ∧ SetIs w' p (insN i l) (Ext S w w') ∧ Fr S w w' := by
  by_cases hm : i ∈ l
  · rw [decide_eq_true hm, insN_there h.rise hm]
    refine (add_old p i hi l S w h hm).mono fun e w' ⟨he, hf⟩ => ⟨he, ?_, hf.mono (fun _ _ h => False.elim h)⟩
    exact (h.mono (fun _ hk => .inl hk) (fun k hk => (by
      rcases hk with hk | ⟨h1, h2⟩
      · exact h.inb k hk
      · omega)) : SetIs w p l (Ext S w w)).later hf
  · rw [decide_eq_false hm]
    exact add_new p i hi l S w h hm
end Go.Proofs.YtclmjcjaebonnaaGreatDoor
end

/-
  Contracts of package hibit: Remove.
-/
section
namespace Go.Viv
open Go.RowKit
theorem andn_bit (x d e : Nat) (_hd : d < 64) (he : e < 64) : (x &&& (18446744073709551615 - oneN (d : Int))).testBit e = (!decide (e = d) && x.testBit e) := by
  rw [Nat.testBit_and]
  have h : (18446744073709551615 - oneN (d : Int)).testBit e = !decide (e = d) := by
    have hlt : oneN (d : Int) < 2 ^ 64 := oneN_lt _
    rw [show 18446744073709551615 - oneN (d : Int) = 2 ^ 64 - (oneN (d : Int) + 1) from by omega, Nat.testBit_two_pow_sub_succ hlt, oneN_bit, decide_eq_true he, Bool.true_and, Bool.and_true]
    congr 1
    rw [decide_eq_decide]
    omega
  rw [h, Bool.and_comm]
theorem andn_lt (x d : Nat) : x &&& (18446744073709551615 - oneN (d : Int)) < 18446744073709551616 := by
  have : x &&& (18446744073709551615 - oneN (d : Int)) ≤ 18446744073709551615 - oneN (d : Int) := Nat.and_le_right
  omega
/-- The path's node of a level, after what lies below it was dealt with. -/
structure RemSt (w wr : World) (p : Nat) (l : List Nat) (S : Nat → Prop) (i L : Nat) (nb : Nat → Nat → Option Nat) : Prop where
  tree : Tree wr p (if L = 0 then l else remN i l) (Ext S w wr) nb
  fr : Fr S w wr
  inb : ∀ k, S k → k < w.heap.size
  low : ∀ M, L = M + 1 → ∃ g, nb M (i / 64 ^ L) = some g ∧ ∀ kid word, NodeC wr g word kid → word = 0
theorem RemSt.on {w a b : World} {p : Nat} {l : List Nat} {S : Nat → Prop} {i L : Nat} {nb : Nat → Nat → Option Nat} (h : RemSt w a p l S i L nb) (hf : Fr (fun _ => False) a b) : RemSt w b p l S i L nb :=
  ⟨(h.tree.frF hf).mono (fun k hk => Ext.le hf.size hk), h.fr.trans hf (fun _ h => h.elim), h.inb, fun M hM => by
    obtain ⟨g, h1, h2⟩ := h.low M hM
    refine ⟨g, h1, fun kid word hn => ?_⟩
    obtain ⟨_, word', _, h3, _⟩ := h.tree.node _ _ _ h1
    have h4 := h3.fr hf (fun h => h)
    rw [hn.word_eq h4]
    exact h2 _ _ h3⟩
theorem path_div (i L : Nat) : i / 64 ^ (L + 1) = i / 64 ^ L / 64 := by rw [Nat.div_div_eq_div_mul, ← Nat.pow_succ]
/-- One level dealt with. -/
theorem RemSt.step {w a : World} {p : Nat} {l : List Nat} {S : Nat → Prop} {i L : Nat} {nb : Nat → Nat → Option Nat} (h : RemSt w a p l S i L nb) (hi : i ∈ l) {b word : Nat} (hb : nb L (i / 64 ^ (L + 1)) = some b) (hn : NodeC a b word (kidsOf nb L (i / 64 ^ (L + 1)))) :
    ∃ nb', Tree ((a.setCell ⟨b, 0, none⟩ (.int .u64 ((word &&& (18446744073709551615 - oneN ((i / 64 ^ L % 64 : Nat) : Int)) : Nat) : Int))).setCell ⟨b, 1 + i / 64 ^ L % 64, none⟩ (.pointer none)) p (remN i l) (Ext S w ((a.setCell ⟨b, 0, none⟩ (.int .u64 ((word &&& (18446744073709551615 - oneN ((i / 64 ^ L % 64 : Nat) : Int)) : Nat) : Int))).setCell ⟨b, 1 + i / 64 ^ L % 64, none⟩ (.pointer none))) nb' ∧
      Fr S w ((a.setCell ⟨b, 0, none⟩ (.int .u64 ((word &&& (18446744073709551615 - oneN ((i / 64 ^ L % 64 : Nat) : Int)) : Nat) : Int))).setCell ⟨b, 1 + i / 64 ^ L % 64, none⟩ (.pointer none)) ∧
      nb' L (i / 64 ^ (L + 1)) = some b ∧ (∀ M, L < M → nb' M (i / 64 ^ (M + 1)) = nb M (i / 64 ^ (M + 1))) ∧
      NodeC ((a.setCell ⟨b, 0, none⟩ (.int .u64 ((word &&& (18446744073709551615 - oneN ((i / 64 ^ L % 64 : Nat) : Int)) : Nat) : Int))).setCell ⟨b, 1 + i / 64 ^ L % 64, none⟩ (.pointer none)) b (word &&& (18446744073709551615 - oneN ((i / 64 ^ L % 64 : Nat) : Int))) (kidsOf nb' L (i / 64 ^ (L + 1))) := by
  have hd : i / 64 ^ L % 64 < 64 := Nat.mod_lt _ (by decide)
  obtain ⟨hbS, word', hw, hn', hbit⟩ := h.tree.node _ _ _ hb
  obtain rfl := hn.word_eq hn'
  have hN := (hn.setWord (word &&& (18446744073709551615 - oneN ((i / 64 ^ L % 64 : Nat) : Int)))).setKid hd none
  have hO : ∀ k, k ≠ b → ((a.setCell ⟨b, 0, none⟩ (.int .u64 ((word &&& (18446744073709551615 - oneN ((i / 64 ^ L % 64 : Nat) : Int)) : Nat) : Int))).setCell ⟨b, 1 + i / 64 ^ L % 64, none⟩ (.pointer none)).heap[k]? = a.heap[k]? := fun k hk => by
    rw [Below.heap_setCell _ _ _ k hk, Below.heap_setCell _ _ _ k hk]
  have hsz : ((a.setCell ⟨b, 0, none⟩ (.int .u64 ((word &&& (18446744073709551615 - oneN ((i / 64 ^ L % 64 : Nat) : Int)) : Nat) : Int))).setCell ⟨b, 1 + i / 64 ^ L % 64, none⟩ (.pointer none)).heap.size = a.heap.size := by rw [setCell_size, setCell_size]
  have hfr : Fr S w ((a.setCell ⟨b, 0, none⟩ (.int .u64 ((word &&& (18446744073709551615 - oneN ((i / 64 ^ L % 64 : Nat) : Int)) : Nat) : Int))).setCell ⟨b, 1 + i / 64 ^ L % 64, none⟩ (.pointer none)) := by
    refine (h.fr.setCell ?_ _).setCell ?_ _ <;> exact Ext.in_ hbS
  have hT := h.tree
  have hL3 := hT.high _ _ _ hb
  cases L with
  | zero =>
    rw [if_pos rfl] at hT
    simp only [Nat.zero_add, Nat.pow_one, Nat.pow_zero, Nat.div_one] at *
    have h1 := hT.leaf (l' := remN i l) hb (andn_lt word (i % 64)) (fun d hd' => by
      rw [andn_bit word _ d hd hd', hbit d hd']
      show (!decide (d = i % 64) && decide (i / 64 * 64 + d ∈ l)) = _
      by_cases hdi : d = i % 64
      · rw [decide_eq_true hdi, decide_eq_false (fun hm => (mem_remN.1 hm).2 (by omega))]; rfl
      · rw [decide_eq_false hdi, Bool.not_false, Bool.true_and, decide_eq_decide, mem_remN]
        exact ⟨fun h => ⟨h, by omega⟩, fun h => h.1⟩) (hN.kids (fun d hd' => by split <;> rfl)) (fun k _ hk => hO k hk) (fun j hj => by
        rw [mem_remN]
        exact ⟨fun h => h.1, fun h => ⟨h, fun e => hj (by rw [e])⟩⟩) (by have := hT.lt i hi; omega)
    exact ⟨nb, h1.mono (fun k hk => Ext.le (by rw [hsz]; exact Nat.le_refl _) hk), hfr, hb, fun _ _ => rfl, hN.kids (fun d hd' => by split <;> rfl)⟩
  | succ M =>
    rw [if_neg (by omega)] at hT
    obtain ⟨g, hg, hg0⟩ := h.low M rfl
    have hdiv := path_div i (M + 1)
    rw [hdiv] at hb hn hbit hN
    have h1 := hT.prune hb hg hg0 (andn_lt word (i / 64 ^ (M + 1) % 64)) (fun e he => by rw [andn_bit word _ e hd he, hbit e he]; rfl) hN (fun k _ hk => hO k hk)
    have hne : ∀ M', M + 1 < M' + 1 → ¬ (M' = M ∧ i / 64 ^ (M' + 1) = i / 64 ^ (M + 1)) := fun M' h1 h2 => by omega
    refine ⟨_, h1.mono (fun k hk => Ext.le (by rw [hsz]; exact Nat.le_refl _) hk), hfr, ?_, fun M' hM' => upN_ne (by omega), ?_⟩
    · rw [hdiv, upN_ne (by omega)]; exact hb
    · rw [hdiv]
      refine hN.kids (fun e he => ?_)
      show upN nb M (i / 64 ^ (M + 1)) none M (i / 64 ^ (M + 1) / 64 * 64 + e) = _
      by_cases hed : e = i / 64 ^ (M + 1) % 64
      · rw [if_pos hed, hed, show i / 64 ^ (M + 1) / 64 * 64 + i / 64 ^ (M + 1) % 64 = i / 64 ^ (M + 1) by omega, upN_same]
      · rw [if_neg hed, upN_ne (by omega)]
        rfl
/-- The count behind. -/
theorem rem_fin {w a : World} {p : Nat} {l : List Nat} {S : Nat → Prop} {i : Nat} {nb : Nat → Nat → Option Nat} (hr : RiseN l) (him : i ∈ l) (ht : Tree a p (remN i l) (Ext S w a) nb) (hf : Fr S w a) (hib : ∀ k, S k → k < w.heap.size) (hc : a.cell? ⟨p, 65, none⟩ = some (.int .i64 (l.length : Int))) :
    SetIs (a.setCell ⟨p, 65, none⟩ (.int .i64 ((l.length : Int) - 1))) p (remN i l) (Ext S w (a.setCell ⟨p, 65, none⟩ (.int .i64 ((l.length : Int) - 1)))) ∧ Fr S w (a.setCell ⟨p, 65, none⟩ (.int .i64 ((l.length : Int) - 1))) := by
  obtain ⟨htS, wt, hwt, hnt, _⟩ := ht.node 3 0 p ht.top
  have hl := remN_len hr him
  have hsz : (a.setCell ⟨p, 65, none⟩ (.int .i64 ((l.length : Int) - 1))).heap.size = a.heap.size := setCell_size _ _ _
  refine ⟨⟨riseN_filter hr, ?_, ⟨nb, ?_⟩, ?_⟩, by refine hf.setCell ?_ _; exact Ext.in_ htS⟩
  · rw [cell_sethere _ hc]
    congr 2
    omega
  · refine (ht.same (b := p) (fun k _ hk => Below.heap_setCell _ _ _ k hk) (fun word' kid' hn' => ?_)).mono (fun k hk => Ext.le (by rw [hsz]; exact Nat.le_refl _) hk)
    obtain ⟨t, cs, g1, g2, g3⟩ := hn'
    refine ⟨t, _, g1.set_ 65 _, ?_, fun d hd => ?_⟩
    · rw [Array.getElem?_setIfInBounds_ne (by omega)]; exact g2
    · rw [Array.getElem?_setIfInBounds_ne (by omega)]; exact g3 d hd
  · intro k hk
    rcases hk with hk | ⟨_, hk⟩
    · have := hib k hk; have := hf.size; omega
    · exact hk
/-- The way down: the nodes met, by levels. -/
structure WayIs (w wr : World) (y : Nat) (t : TypeId) (i L : Nat) (nb : Nat → Nat → Option Nat) : Prop where
  blk : ∃ cs, Blk wr y t cs ∧ cs.size = 4 ∧ ∀ j, L < j + 1 → j ≤ 3 → ∃ b, nb j (i / 64 ^ (j + 1)) = some b ∧ cs[j]? = some (.pointer (some ⟨b, 0, none⟩))
  new : w.heap.size ≤ y
theorem WayIs.at_ {w wr : World} {y : Nat} {t : TypeId} {i L : Nat} {nb : Nat → Nat → Option Nat} (h : WayIs w wr y t i L nb) {j : Nat} (h1 : L < j + 1) (h2 : j ≤ 3) {b : Nat} (hb : nb j (i / 64 ^ (j + 1)) = some b) : wr.cell? ⟨y, j, none⟩ = some (.pointer (some ⟨b, 0, none⟩)) := by
  obtain ⟨cs, g1, _, g3⟩ := h.blk
  obtain ⟨b', e1, e2⟩ := g3 j h1 h2
  rw [hb] at e1
  cases e1
  rw [g1.cell]
  exact e2
theorem WayIs.on {w a b : World} {y : Nat} {t : TypeId} {i L : Nat} {nb : Nat → Nat → Option Nat} (h : WayIs w a y t i L nb) {T : Nat → Prop} (hf : Fr T a b) (hy : ¬ T y) : WayIs w b y t i L nb := by
  obtain ⟨cs, g1, g2, g3⟩ := h.blk
  exact ⟨⟨cs, g1.fr hf hy, g2, g3⟩, h.new⟩
theorem WayIs.put {w a : World} {y : Nat} {t : TypeId} {i L : Nat} {nb : Nat → Nat → Option Nat} (h : WayIs w a y t i (L + 1) nb) (hL : L ≤ 3) {b : Nat} (hb : nb L (i / 64 ^ (L + 1)) = some b) : WayIs w (a.setCell ⟨y, L, none⟩ (.pointer (some ⟨b, 0, none⟩))) y t i L nb := by
  obtain ⟨cs, g1, g2, g3⟩ := h.blk
  refine ⟨⟨_, g1.set_ L _, by simpa using g2, fun j h1 h2 => ?_⟩, h.new⟩
  by_cases hj : j = L
  · subst hj
    exact ⟨b, hb, by rw [Array.getElem?_setIfInBounds_self_of_lt (by omega)]⟩
  · obtain ⟨c, e1, e2⟩ := g3 j (by omega) h2
    exact ⟨c, e1, by rw [Array.getElem?_setIfInBounds_ne (by omega)]; exact e2⟩
end Go.Viv
namespace Go.Proofs.YtclmjcjaebonnaaGreatDoor
open Go.RowKit Go.Viv
set_option maxRecDepth 100000 in
set_option maxHeartbeats 4000000 in
theorem remove_there (p i : Nat) (hi : i < 16777216) (l : List Nat) (S : Nat → Prop) (w : World) (h : SetIs w p l S) (him : i ∈ l) :
    Calls Tryz.prog 142 #[.pointer (some ⟨p, 0, none⟩), .int .i64 (i : Int)] w fun e w' => e = .returned (.tuple #[.bool true, .int .i64 0]) ∧ SetIs w' p (remN i l) (Ext S w w') ∧ Fr S w w' := by
  have HH := Lib.hid (has_nat p i hi l S w h)
  rw [decide_eq_true him] at HH
  have HO := Lib.hid (ok_any (i : Int) w)
  rw [decide_eq_true (by omega : 0 ≤ (i : Int)), decide_eq_true (by omega : (i : Int) < 16777216)] at HO
  obtain ⟨nb, ht⟩ := h.tree
  have HT := Lib.hid (And.intro ht (And.intro h him))
  clear h ht him
  go_enter Tryz.func142, Tryz.ntmps142
  go_wp2_with fail
  refine HO.out.mono ?_
  rintro e w1 ⟨rfl, rfl⟩
  go_wp2_with fail
  refine HH.out.mono ?_
  rintro e w2 ⟨rfl, hf2⟩
  have H2 := Lib.hid hf2
  clear hf2
  go_wp2_with fail
  obtain ⟨y, hy⟩ : ∃ y, w2.heap.size = y := ⟨_, rfl⟩
  have hyw : w.heap.size ≤ y := by rw [← hy]; exact H2.out.size
  have HY := Lib.hid (show WayIs w (w2.alloc (.cells #[.pointer none, .pointer none, .pointer none, .pointer none] 298)) y 298 i 4 nb from by
    refine ⟨⟨_, by rw [← hy]; exact Blk.new _ _ _, rfl, fun j h1 h2 => by omega⟩, hyw⟩)
  have H3 := Lib.hid ((H2.out.alloc (.cells #[.pointer none, .pointer none, .pointer none, .pointer none] 298)))
  rw [hy]
  clear hy
  go_loopw [7, 8] (fun u t wr => ∃ L b : Nat, L ≤ 3 ∧ t = .int .i64 L ∧ u = .pointer (some ⟨b, 0, none⟩) ∧ nb L (i / 64 ^ (L + 1)) = some b ∧ WayIs w wr y 298 i (L + 1) nb ∧ Fr (fun _ => False) w wr) (fun _ t _ => (intOf t).toNat)
  case atStart =>
    refine ⟨3, p, by omega, rfl, rfl, ?_, HY.out, H3.out⟩
    rw [show (64 : Nat) ^ (3 + 1) = 16777216 from by decide, Nat.div_eq_of_lt hi]
    exact HT.out.1.top
  case round =>
    obtain ⟨L, b, hL3, rfl, rfl, hb, hway, hfr⟩ := hrel
    by_cases hlt : 0 < L
    · have hlt' : (0 : Int) < L := by omega
      have hL3' : (L : Int) < 4 := by omega
      obtain ⟨M, rfl⟩ : ∃ M, L = M + 1 := ⟨L - 1, by omega⟩
      have hd : i / 64 ^ (M + 1) % 64 < 64 := Nat.mod_lt _ (by decide)
      obtain ⟨_, word, _, hN0, _⟩ := HT.out.1.node _ _ _ hb
      have hN := hN0.fr hfr (fun h => h)
      obtain ⟨c, hc⟩ := HT.out.1.path HT.out.2.2 M (by omega)
      have ck := hN.cellK hd
      rw [kids_at, hc] at ck
      simp only [ptrV] at ck
      have hbl := hN.lt
      have hby : b ≠ y := fun e => by have := hN0.lt; omega
      obtain ⟨cs, g1, g2, _⟩ := hway.blk
      have hyl := g1.lt
      have fy := g1.frozen (M + 1)
      obtain ⟨uy, cy⟩ : ∃ u, wr.cell? ⟨y, M + 1, none⟩ = some u := by
        rw [g1.cell]
        exact ⟨_, Array.getElem?_eq_getElem (by omega)⟩
      have HD := Lib.hid (fun W => digit_any i (M + 1) hi hL3 W)
      have HX := Lib.hid (And.intro (hway.put hL3 hb) (And.intro hc hfr))
      obtain ⟨d, hdd⟩ : ∃ d, i / 64 ^ (M + 1) % 64 = d := ⟨_, rfl⟩
      rw [hdd] at hd ck HD
      have hd' : (d : Int) < 64 := by omega
      clear hN0 hN hb hc hway hfr g1 g2 hdd
      go_wp2_with fail
      refine Ord.wp_region_one #[0, 0, 0, 6, 1, 17, 63, 127, 255] [(0, true), (1, true), (2, true), (3, true), (4, true), (5, true), (6, true), (7, true), (8, true)] [] (by kernel_rfl) (by kernel_rfl) (by intro c d v a w h; cases d <;> exact h) ?_
      simp only [Ord.pick, List.map_cons, List.map_nil, List.getElem?_toArray, List.getElem?_cons_succ, List.getElem?_cons_zero]
      iterate 9 (apply Ord.c_step; intro K hK; go_simp; first | (refine hK _ ?_; clear hK K) | (apply Exists.intro; refine ⟨?_, hK _ ?_⟩; (go_at_call 89; exact calls_sym (HD.out _)); clear hK K))
      refine Ord.c_nil ?_
      go_wp2
      go_roundw
      case rel => exact ⟨M, c, by omega, by go_num, rfl, HX.out.2.1, (HX.out.1.on (Fr.refl (fun _ => False) _).drew (fun h => h)), by refine (HX.out.2.2.setCell ?_ _).drew; exact .inr hyw⟩
      case measure => simp [intOf]
    · obtain rfl : L = 0 := by omega
      obtain ⟨cs, g1, g2, _⟩ := hway.blk
      have hyl := g1.lt
      have fy := g1.frozen 0
      obtain ⟨uy, cy⟩ : ∃ u, wr.cell? ⟨y, 0, none⟩ = some u := by
        rw [g1.cell]
        exact ⟨_, Array.getElem?_eq_getElem (by omega)⟩
      have HX := Lib.hid (And.intro (hway.put (by omega) hb) (show Fr (fun _ => False) w (wr.setCell ⟨y, 0, none⟩ (.pointer (some ⟨b, 0, none⟩))) from by refine hfr.setCell ?_ _; exact .inr hyw))
      clear g1 g2 hway hfr hb
      obtain ⟨wB, hwB⟩ : ∃ wB, wB = wr := ⟨wr, rfl⟩
      subst hwB
      go_wp2_with fail
      obtain ⟨wA, hwA⟩ : ∃ wA, wB.setCell ⟨y, 0, none⟩ (.pointer (some ⟨b, 0, none⟩)) = wA := ⟨_, rfl⟩
      rw [hwA] at HX ⊢
      clear hwA hyl fy cy
      go_loopw [9, 10, 38] (fun _ _ t wr => ∃ (L : Nat) (nb' : Nat → Nat → Option Nat), L ≤ 4 ∧ t = .int .i64 L ∧ RemSt w wr p l S i L nb' ∧ (∀ j, L ≤ j → j ≤ 3 → nb' j (i / 64 ^ (j + 1)) = nb j (i / 64 ^ (j + 1))) ∧ WayIs w wr y 298 i 0 nb ∧ wr.cell? ⟨p, 65, none⟩ = some (.int .i64 (l.length : Int))) (fun _ _ t _ => 4 - (intOf t).toNat)
      case atStart =>
        have hp := HT.out.2.1.inS
        refine ⟨0, nb, by omega, rfl, ⟨?_, HX.out.2.mono (fun _ _ h => False.elim h), HT.out.2.1.inb, fun M h => by omega⟩, fun _ _ _ => rfl, HX.out.1, ?_⟩
        · rw [if_pos rfl]
          exact (HT.out.1.frF HX.out.2).mono (fun _ h => .inl h)
        · rw [HX.out.2.cell hp.2 (fun h => h)]; exact HT.out.2.1.count
      case round =>
        obtain ⟨L, nb', hL4, rfl, hst, hup, hway, hcp⟩ := hrel
        by_cases hL : L < 4
        · have hL' : (L : Int) < 4 := by omega
          obtain ⟨b, hb⟩ := HT.out.1.path HT.out.2.2 L (by omega)
          have hb' := (hup L (Nat.le_refl _) (by omega)).trans hb
          obtain ⟨_, word, hw, hN, _⟩ := hst.tree.node _ _ _ hb'
          have hd : i / 64 ^ L % 64 < 64 := Nat.mod_lt _ (by decide)
          have cy := hway.at_ (j := L) (by omega) (by omega) hb
          have cyR := cell_regrown cy
          have c0 := hN.cell0
          have c0R := cell_regrown c0
          have ck := hN.cellK hd
          have f0 := hN.frozen 0
          have f1 := hN.frozen (1 + i / 64 ^ L % 64)
          have hbl := hN.lt
          obtain ⟨cs, g1, _, _⟩ := hway.blk
          have hyl := g1.lt
          obtain ⟨_, _, _, hN0, _⟩ := HT.out.1.node _ _ _ hb
          have hby : b ≠ y := fun e => by have := hN0.lt; omega
          have hpp := HT.out.2.1.inS
          have hpy : p ≠ y := fun e => by have := hpp.2; omega
          obtain ⟨_, _, _, hNp, _⟩ := hst.tree.node 3 0 p hst.tree.top
          have fp := hNp.frozen 65
          have hpl := hNp.lt
          have HD := Lib.hid (fun W => digit_any i L hi (by omega) W)
          obtain ⟨nb2, hs1, hs2, hs3, hs4, hs5⟩ := hst.step HT.out.2.2 hb' hN
          have HX2 := Lib.hid (And.intro hs1 (And.intro hs2 (And.intro hs3 (And.intro hs4 (And.intro hs5 (And.intro hup (And.intro hway hst.inb)))))))
          have HW := Lib.hid (without_w word hw [((i / 64 ^ L % 64 : Nat) : Int)] (some ⟨wr.heap.size, 0, none⟩) 1 (wr.alloc (.cells #[.int .i64 ((i / 64 ^ L % 64 : Nat) : Int)] 3)).drew (RowC.blk ((Blk.new wr 3 #[.int .i64 ((i / 64 ^ L % 64 : Nat) : Int)]).drew)) (by simp) (by omega))
          rw [allN_one] at HW
          obtain ⟨d, hdd⟩ : ∃ d, i / 64 ^ L % 64 = d := ⟨_, rfl⟩
          rw [hdd] at hd HX2 HW HD ck f1
          have hd' : (d : Int) < 64 := by omega
          obtain ⟨uk, huk⟩ : ∃ u, ptrV (kidsOf nb' L (i / 64 ^ (L + 1)) d) = u := ⟨_, rfl⟩
          rw [huk] at ck
          obtain ⟨x2, hx2⟩ : ∃ x, word &&& (18446744073709551615 - oneN (d : Int)) = x := ⟨_, rfl⟩
          rw [hx2] at HX2 HW
          clear hst hup hway hb hb' hN g1 hN0 hNp hs1 hs2 hs3 hs4 hs5 hdd huk hx2
          obtain ⟨wC, hwC⟩ : ∃ wC, wC = wr := ⟨wr, rfl⟩
          subst hwC
          have hll := rise_len HT.out.2.1.rise HT.out.1.lt
          obtain ⟨nl, hnl⟩ : ∃ n, l.length = n := ⟨_, rfl⟩
          have HNL := Lib.hid hnl
          rw [hnl] at hll hcp
          have hcp0 : 0 < nl := by rw [← hnl]; exact List.length_pos_of_mem HT.out.2.2
          clear hnl
          by_cases hz : x2 = 0
          · subst hz
            go_wp2_with fail
            refine (HD.out _).mono ?_
            rintro e w3 ⟨rfl, rfl⟩
            go_wp2_with fail
            refine Ord.wp_region_reg #[0, 1, 3, 0, 8, 24, 56, 120, 248, 0, 512, 2040, 4095, 8191, 16383] [(0, true), (1, true), (2, true), (3, true), (4, true), (5, true), (6, true), (7, true), (8, true), (9, true), (10, false), (11, false), (12, true), (13, true), (14, false)] [14] (by kernel_rfl) (by kernel_rfl) (by intro c d v a w h; cases d <;> exact h) ?_
            simp only [Ord.pick, List.map_cons, List.map_nil, List.getElem?_toArray, List.getElem?_cons_succ, List.getElem?_cons_zero]
            iterate 10 (apply Ord.c_step; intro K hK; go_simp; first | (refine hK _ ?_; clear hK K))
            apply Ord.c_does (k := true) rfl
            go_wp2_with fail
            refine Ord.behind_cls (reg_of_fr ((Fr.refl _ _).drew.alloc _)) ?_
            apply Ord.c_does (k := true) rfl
            go_wp2_with fail
            refine HW.out.mono ?_
            rintro e w4 ⟨rfl, rfl⟩
            go_wp2_with fail
            refine Ord.behind_cls (reg_of_fr ((Fr.refl _ _).drew.alloc _)) ?_
            iterate 2 (apply Ord.c_step; intro K hK; go_simp; first | (refine hK _ ?_; clear hK K))
            apply Ord.c_does (k := false) rfl
            go_wp2_with fail
            refine Ord.behind_last ?_
            refine Ord.c_nil ?_
            go_wp2
            go_roundw
            case rel =>
              iterate 37 (apply Exists.intro)
              refine ⟨?_, rfl⟩
              refine ⟨L + 1, nb2, by omega, by go_num, ?_, fun j h1 h2 => by rw [HX2.out.2.2.2.1 j (by omega)]; exact HX2.out.2.2.2.2.2.1 j (by omega) h2, ?_, ?_⟩
              · refine (RemSt.mk ?_ HX2.out.2.1 HX2.out.2.2.2.2.2.2.2 (fun M hM => ?_)).on ((Fr.refl _ _).alloc _).drew
                · rw [if_neg (by omega)]; exact HX2.out.1
                · obtain rfl : M = L := by omega
                  exact ⟨b, HX2.out.2.2.1, fun kid word' hn => hn.word_eq HX2.out.2.2.2.2.1⟩
              · have hf : Fr (fun k => k = b) wC ((wC.setCell ⟨b, 0, none⟩ (.int .u64 ((0 : Nat) : Int))).setCell ⟨b, 1 + d, none⟩ (.pointer none)) := by
                  refine ((Fr.refl _ _).setCell ?_ _).setCell ?_ _ <;> exact .inl rfl
                exact HX2.out.2.2.2.2.2.2.1.on ((hf.alloc _).drew) (fun e => hby e.symm)
              · rw [HNL.out]
                go_simp
            case measure => simp [intOf]; omega
          · have hzb : ((x2 : Int) != 0) = true := by simpa using hz
            go_wp2_with fail
            refine (HD.out _).mono ?_
            rintro e w3 ⟨rfl, rfl⟩
            go_wp2_with fail
            refine Ord.wp_region_reg #[0, 1, 3, 0, 8, 24, 56, 120, 248, 0, 512, 2040, 4095, 8191, 16383] [(0, true), (1, true), (2, true), (3, true), (4, true), (5, true), (6, true), (7, true), (8, true), (9, true), (10, false), (11, false), (12, true), (13, true), (14, false)] [14] (by kernel_rfl) (by kernel_rfl) (by intro c d v a w h; cases d <;> exact h) ?_
            simp only [Ord.pick, List.map_cons, List.map_nil, List.getElem?_toArray, List.getElem?_cons_succ, List.getElem?_cons_zero]
            iterate 10 (apply Ord.c_step; intro K hK; go_simp; first | (refine hK _ ?_; clear hK K))
            apply Ord.c_does (k := true) rfl
            go_wp2_with fail
            refine Ord.behind_cls (reg_of_fr ((Fr.refl _ _).drew.alloc _)) ?_
            apply Ord.c_does (k := true) rfl
            go_wp2_with fail
            refine HW.out.mono ?_
            rintro e w4 ⟨rfl, rfl⟩
            go_wp2_with fail
            refine Ord.behind_cls (reg_of_fr ((Fr.refl _ _).drew.alloc _)) ?_
            iterate 2 (apply Ord.c_step; intro K hK; go_simp; first | (refine hK _ ?_; clear hK K))
            apply Ord.c_does (k := false) rfl
            go_wp2_with fail
            refine Ord.behind_last ?_
            refine Ord.c_nil ?_
            go_wp2
            go_ret2
            have HF := rem_fin HT.out.2.1.rise HT.out.2.2 HX2.out.1 HX2.out.2.1 HT.out.2.1.inb (by rw [cell_setne _ (by omega), cell_setne _ (by omega), HNL.out]; exact hcp)
            rw [HNL.out] at HF
            exact ⟨rfl, HF.1.later ((Fr.alloc1 _ _ _).drew), HF.2.trans (T := fun _ => False) ((Fr.alloc1 _ _ _).drew) (fun _ h => False.elim h)⟩
        · obtain rfl : L = 4 := by omega
          have hT := hst.tree
          rw [if_neg (by omega)] at hT
          obtain ⟨_, _, _, hNp, _⟩ := hT.node 3 0 p hT.top
          have fp := hNp.frozen 65
          have hpl := hNp.lt
          have hll := rise_len HT.out.2.1.rise HT.out.1.lt
          have HF := Lib.hid (rem_fin HT.out.2.1.rise HT.out.2.2 hT hst.fr HT.out.2.1.inb hcp)
          obtain ⟨nl, hnl⟩ : ∃ n, l.length = n := ⟨_, rfl⟩
          rw [hnl] at hll hcp HF
          have hcp0 : 0 < nl := by rw [← hnl]; exact List.length_pos_of_mem HT.out.2.2
          clear hnl hT hst hup hway hNp
          obtain ⟨wC, hwC⟩ : ∃ wC, wC = wr := ⟨wr, rfl⟩
          subst hwC
          go_wp2
          go_ret2
          exact ⟨rfl, HF.out.1, HF.out.2⟩
theorem remove_not (p i : Nat) (hi : i < 16777216) (l : List Nat) (S : Nat → Prop) (w : World) (h : SetIs w p l S) (hm : i ∉ l) :
    Calls Tryz.prog 142 #[.pointer (some ⟨p, 0, none⟩), .int .i64 (i : Int)] w fun e w' => e = .returned (.tuple #[.bool false, .int .i64 0]) ∧ Fr (fun _ => False) w w' := by
  have HH := Lib.hid (has_nat p i hi l S w h)
  rw [decide_eq_false hm] at HH
  have HO := Lib.hid (ok_any (i : Int) w)
  rw [decide_eq_true (by omega : 0 ≤ (i : Int)), decide_eq_true (by omega : (i : Int) < 16777216)] at HO
  clear h hm
  go_enter Tryz.func142, Tryz.ntmps142
  go_wp2_with fail
  refine HO.out.mono ?_
  rintro e w1 ⟨rfl, rfl⟩
  go_wp2_with fail
  refine HH.out.mono ?_
  rintro e w2 ⟨rfl, hf2⟩
  have H2 := Lib.hid hf2
  clear hf2
  go_wp2
  go_ret2
  exact ⟨rfl, H2.out⟩
theorem remove_nat (p i : Nat) (hi : i < 16777216) (l : List Nat) (S : Nat → Prop) (w : World) (h : SetIs w p l S) :
    Calls Tryz.prog 142 #[.pointer (some ⟨p, 0, none⟩), .int .i64 (i : Int)] w fun e w' => e = .returned (.tuple #[.bool (decide (i ∈ l)), .int .i64 0]) ∧ SetIs w' p (remN i l) (Ext S w w') ∧ Fr S w w' := by
  by_cases hm : i ∈ l
  · rw [decide_eq_true hm]
    exact remove_there p i hi l S w h hm
  · rw [decide_eq_false hm, remN_not hm]
    refine (remove_not p i hi l S w h hm).mono fun e w' ⟨he, hf⟩ => ⟨he, ?_, hf.mono (fun _ _ h => False.elim h)⟩
    exact (h.mono (fun _ hk => .inl hk) (fun k hk => (by
      rcases hk with hk | ⟨h1, h2⟩
      · exact h.inb k hk
      · omega)) : SetIs w p l (Ext S w w)).later hf
end Go.Proofs.YtclmjcjaebonnaaGreatDoor
end

/-
  Contracts of packages bits, hibit: First, least, Next.
-/
section
namespace Go.Viv
open Go.RowKit
/-- The numbers of a word, rising. -/
def bitsOf (x : Nat) : List Nat := (List.range 64).filter fun d => x.testBit d
theorem rise_range' : ∀ (n s : Nat), RiseN (List.range' s n)
  | 0, _ => trivial
  | n + 1, s => by
    rw [List.range'_succ]
    exact ⟨fun x hx => by have := List.mem_range'_1.1 hx; omega, rise_range' n (s + 1)⟩
theorem rise_bits (x : Nat) : RiseN (bitsOf x) := by
  unfold bitsOf
  refine riseN_filter ?_
  rw [List.range_eq_range']
  exact rise_range' 64 0
theorem mem_bits {x d : Nat} : d ∈ bitsOf x ↔ d < 64 ∧ x.testBit d = true := by simp [bitsOf]
/-- The answer of First, Next: the number, or -1. -/
def orNone : Option Nat → Int
  | some d => (d : Int)
  | none => -1
theorem first_big {x k : Nat} (h : 64 ≤ k) : nextN (bitsOf x) k = none := nextN_none.2 fun d hd => by have := (mem_bits.1 hd).1; omega
theorem first_zero {x k : Nat} (h : x / 2 ^ k = 0) : nextN (bitsOf x) k = none := by
  refine nextN_none.2 fun d hd => ?_
  rcases Nat.lt_or_ge d k with h1 | h1
  · exact h1
  · exfalso
    have hb := (mem_bits.1 hd).2
    have hx : x < 2 ^ d := by
      have h2 : x < 2 ^ k := by
        rcases Nat.lt_or_ge x (2 ^ k) with h3 | h3
        · exact h3
        · have := Nat.div_pos h3 (Nat.pow_pos (n := k) (show 0 < 2 by decide))
          omega
      exact Nat.lt_of_lt_of_le h2 (Nat.pow_le_pow_right (by decide) h1)
    rw [Nat.testBit_lt_two_pow hx] at hb
    cases hb
theorem first_ctz {x k : Nat} (hx : x < 18446744073709551616) (h : x / 2 ^ k ≠ 0) : nextN (bitsOf x) k = some (k + Lib.ctz 64 (x / 2 ^ k)) ∧ k + Lib.ctz 64 (x / 2 ^ k) < 64 := by
  have hlt : x / 2 ^ k < 2 ^ 64 := Nat.lt_of_le_of_lt (Nat.div_le_self _ _) hx
  obtain ⟨m, hm, _⟩ := Lib.ctzFrom_spec 64 (x / 2 ^ k) (Nat.pos_of_ne_zero h) hlt
  have he : Lib.ctz 64 (x / 2 ^ k) = Lib.ctzFrom 64 (x / 2 ^ k) := by unfold Lib.ctz; rw [if_neg h]
  rw [he]
  generalize Lib.ctzFrom 64 (x / 2 ^ k) = c at hm
  have hbit : ∀ e, x.testBit (k + e) = (2 ^ c * (2 * m + 1)).testBit e := fun e => by
    rw [← hm, ← Nat.shiftRight_eq_div_pow, Nat.testBit_shiftRight]
  have hc : x.testBit (k + c) = true := by
    rw [hbit]
    simp [Nat.testBit_two_pow_mul]
  have hc64 : k + c < 64 := by
    rcases Nat.lt_or_ge (k + c) 64 with h1 | h1
    · exact h1
    · rw [Nat.testBit_lt_two_pow (Nat.lt_of_lt_of_le (show x < 2 ^ 64 from hx) (Nat.pow_le_pow_right (by decide) h1))] at hc
      cases hc
  refine ⟨nextN_of (rise_bits x) (mem_bits.2 ⟨hc64, hc⟩) (by omega) (fun d hd hkd => ?_), hc64⟩
  rcases Nat.lt_or_ge d (k + c) with h1 | h1
  · exfalso
    have hb := (mem_bits.1 hd).2
    rw [show d = k + (d - k) by omega, hbit] at hb
    simp [Nat.testBit_two_pow_mul] at hb
    omega
  · exact h1
/-- The least number of a part, from one on, counted from where the part begins. -/
def leastIn (l : List Nat) (lo sz k : Nat) : Option Nat := (nextN l (lo + k)).bind fun i => if i < lo + sz then some (i - lo) else none
theorem leastIn_none {l : List Nat} {lo sz k : Nat} (hr : RiseN l) : leastIn l lo sz k = none ↔ ∀ i ∈ l, lo + k ≤ i → lo + sz ≤ i := by
  unfold leastIn
  cases h : nextN l (lo + k) with
  | none =>
    have := nextN_none.1 h
    simp only [Option.bind_none, true_iff]
    intro i hi h1
    have := this i hi
    omega
  | some j =>
    obtain ⟨h1, h2, h3⟩ := nextN_some hr h
    simp only [Option.bind_some]
    by_cases hj : j < lo + sz
    · rw [if_pos hj]
      constructor
      · intro h; cases h
      · intro h; have := h j h1 h2; omega
    · rw [if_neg hj]
      simp only [true_iff]
      intro i hi h4
      have := h3 i hi h4
      omega
theorem leastIn_some {l : List Nat} {lo sz k r : Nat} (hr : RiseN l) : leastIn l lo sz k = some r ↔ (lo + r ∈ l ∧ k ≤ r ∧ r < sz ∧ ∀ i ∈ l, lo + k ≤ i → lo + r ≤ i) := by
  unfold leastIn
  constructor
  · intro h
    cases hn : nextN l (lo + k) with
    | none => rw [hn] at h; cases h
    | some j =>
      rw [hn] at h
      simp only [Option.bind_some] at h
      obtain ⟨h1, h2, h3⟩ := nextN_some hr hn
      split at h
      · obtain rfl := Option.some.inj h
        refine ⟨by rw [show lo + (j - lo) = j by omega]; exact h1, by omega, by omega, fun i hi h4 => by have := h3 i hi h4; omega⟩
      · cases h
  · rintro ⟨h1, h2, h3, h4⟩
    rw [nextN_of hr h1 (by omega) h4]
    simp only [Option.bind_some]
    rw [if_pos (by omega)]
    congr 1
    omega
/-- Where the walk over a node's bits stands: nothing lies between the place asked for and the k-th part. -/
def LeastAt (l : List Nat) (lo SZ frm k : Nat) : Prop := frm / SZ ≤ k ∧ ∀ i ∈ l, lo + frm ≤ i → i < lo + 64 * SZ → lo + k * SZ ≤ i
theorem LeastAt.start {l : List Nat} {lo SZ frm : Nat} : LeastAt l lo SZ frm (frm / SZ) := ⟨Nat.le_refl _, fun i _ h _ => by have := Nat.div_mul_le_self frm SZ; omega⟩
section
variable {l : List Nat} {lo SZ frm k word : Nat}
theorem LeastAt.part (h : LeastAt l lo SZ frm k) (hS : 0 < SZ) (hmay : ∀ i ∈ l, lo ≤ i → i < lo + 64 * SZ → word.testBit ((i - lo) / SZ) = true) {i : Nat} (hi : i ∈ l) (h1 : lo + frm ≤ i) (h2 : i < lo + 64 * SZ) : (i - lo) / SZ ∈ bitsOf word ∧ k ≤ (i - lo) / SZ ∧ lo + (i - lo) / SZ * SZ ≤ i ∧ i < lo + ((i - lo) / SZ + 1) * SZ := by
  have h3 := h.2 i hi h1 h2
  have e1 := Nat.div_add_mod (i - lo) SZ
  have e2 := Nat.mod_lt (i - lo) hS
  have e3 : SZ * ((i - lo) / SZ) = (i - lo) / SZ * SZ := Nat.mul_comm _ _
  refine ⟨mem_bits.2 ⟨Nat.div_lt_of_lt_mul (by omega), hmay i hi (by omega) h2⟩, (Nat.le_div_iff_mul_le hS).2 (by omega), by omega, ?_⟩
  rw [Nat.succ_mul]
  omega
theorem LeastAt.exit (h : LeastAt l lo SZ frm k) (hr : RiseN l) (hS : 0 < SZ) (hmay : ∀ i ∈ l, lo ≤ i → i < lo + 64 * SZ → word.testBit ((i - lo) / SZ) = true) (hn : nextN (bitsOf word) k = none) : leastIn l lo (64 * SZ) frm = none := by
  refine (leastIn_none hr).2 fun i hi h1 => ?_
  rcases Nat.lt_or_ge i (lo + 64 * SZ) with h2 | h2
  · obtain ⟨g1, g2, _⟩ := h.part hS hmay hi h1 h2
    have := nextN_none.1 hn _ g1
    omega
  · exact h2
theorem LeastAt.miss (h : LeastAt l lo SZ frm k) (hr : RiseN l) (hS : 0 < SZ) (hmay : ∀ i ∈ l, lo ≤ i → i < lo + 64 * SZ → word.testBit ((i - lo) / SZ) = true) {d : Nat} (hn : nextN (bitsOf word) k = some d) (hx : leastIn l (lo + d * SZ) SZ (frm - d * SZ) = none) : LeastAt l lo SZ frm (d + 1) := by
  obtain ⟨_, n2, n3⟩ := nextN_some (rise_bits word) hn
  refine ⟨Nat.le_trans h.1 (by omega), fun i hi h1 h2 => ?_⟩
  obtain ⟨g1, g2, g3, g4⟩ := h.part hS hmay hi h1 h2
  have := n3 _ g1 g2
  rcases Nat.lt_or_ge d ((i - lo) / SZ) with hd | hd
  · have : (d + 1) * SZ ≤ (i - lo) / SZ * SZ := Nat.mul_le_mul_right _ hd
    omega
  · have e : (i - lo) / SZ = d := by omega
    rw [e] at g3 g4
    have := (leastIn_none hr).1 hx i hi (by omega)
    rw [Nat.succ_mul]
    omega
theorem LeastAt.hit (h : LeastAt l lo SZ frm k) (hr : RiseN l) (hS : 0 < SZ) (hmay : ∀ i ∈ l, lo ≤ i → i < lo + 64 * SZ → word.testBit ((i - lo) / SZ) = true) {d r : Nat} (hn : nextN (bitsOf word) k = some d) (hx : leastIn l (lo + d * SZ) SZ (frm - d * SZ) = some r) : leastIn l lo (64 * SZ) frm = some (d * SZ + r) := by
  obtain ⟨n1, n2, n3⟩ := nextN_some (rise_bits word) hn
  obtain ⟨x1, x2, x3, x4⟩ := (leastIn_some hr).1 hx
  have hd := (mem_bits.1 n1).1
  have hdm : (d + 1) * SZ ≤ 64 * SZ := Nat.mul_le_mul_right _ hd
  rw [Nat.succ_mul] at hdm
  refine (leastIn_some hr).2 ⟨by rw [← Nat.add_assoc]; exact x1, by omega, by omega, fun i hi h1 => ?_⟩
  rcases Nat.lt_or_ge i (lo + 64 * SZ) with h2 | h2
  · obtain ⟨g1, g2, g3, g4⟩ := h.part hS hmay hi h1 h2
    have := n3 _ g1 g2
    rcases Nat.lt_or_ge d ((i - lo) / SZ) with hd' | hd'
    · have : (d + 1) * SZ ≤ (i - lo) / SZ * SZ := Nat.mul_le_mul_right _ hd'
      rw [Nat.succ_mul] at this
      omega
    · have e : (i - lo) / SZ = d := by omega
      rw [e] at g3
      have := x4 i hi (by omega)
      omega
  · omega
end
/-- The loop's measure: how many bits are still to come. -/
def bitsLeft (v : Value) : Nat := if intOf v < 0 then 0 else 65 - (intOf v).toNat
end Go.Viv
namespace Go.Proofs.YtclmjcjaebonnaaGreatDoor
open Go.RowKit Go.Viv
/-- What the library's table holds. -/
def TabH (w : World) : Prop := TabAt 0 Lib.deBruijn64tab w
theorem TabH.fr {w w' : World} (h : TabH w) (hf : Fr (fun _ => False) w w') : TabH w' := fun j hj => by
  have h1 := h j hj
  rw [hf.cell (block_lt_of_cell h1) (fun h => h)]
  exact h1
set_option maxRecDepth 100000 in
theorem first_w (x : Nat) (hx : x < 18446744073709551616) (k : Nat) (w : World) (hT : TabH w) :
    Calls Tryz.prog 172 #[.int .u64 x, .int .i64 (k : Int)] w fun e w' => e = .returned (.int .i64 (orNone (nextN (bitsOf x) k))) ∧ w' = w := by
  have hk0 : max (k : Int) 0 = k := by omega
  by_cases h64 : 64 ≤ k
  · have h64' : (64 : Int) ≤ k := by omega
    rw [first_big h64]
    clear hT
    go_enter Tryz.func172, Tryz.ntmps172
    go_wp2
    go_ret
    exact ⟨rfl, rfl⟩
  · have h64' : (k : Int) < 64 := by omega
    have hsh : (x : Int) / 2 ^ k = ((x / 2 ^ k : Nat) : Int) := by simp
    by_cases hz : x / 2 ^ k = 0
    · rw [first_zero hz]
      have hzb : (((x / 2 ^ k : Nat) : Int) == 0) = true := by rw [hz]; rfl
      clear hT
      go_enter Tryz.func172, Tryz.ntmps172
      go_wp2
      go_ret
      exact ⟨rfl, rfl⟩
    · obtain ⟨h1, h2⟩ := first_ctz hx hz
      rw [h1]
      have HT := Lib.hid (tz_any (x / 2 ^ k) (Nat.lt_of_le_of_lt (Nat.div_le_self _ _) hx) w hT)
      obtain ⟨c, hc⟩ : ∃ c, Lib.ctz 64 (x / 2 ^ k) = c := ⟨_, rfl⟩
      rw [hc] at HT h2 ⊢
      obtain ⟨q, hq⟩ : ∃ q, x / 2 ^ k = q := ⟨_, rfl⟩
      rw [hq] at HT hsh hz
      have hzb : ((q : Int) == 0) = false := by rw [beq_eq_false_iff_ne]; omega
      clear hT h1 hc hq
      go_enter Tryz.func172, Tryz.ntmps172
      go_wp2_with fail
      refine HT.out.mono ?_
      rintro e w2 ⟨rfl, rfl⟩
      go_wp2
      go_ret
      exact ⟨by rw [show orNone (some (k + c)) = (k : Int) + c from by simp [orNone]]; rfl, rfl⟩
end Go.Proofs.YtclmjcjaebonnaaGreatDoor
end
