/-
  Contracts of package dense: Put of a new index.
-/
import Derived.Test.YtbcaajgomekjaaaDenA
import Derived.Deep.AppendLies
namespace Go.Proofs.Ytbcaajgomekjaaa
open Go.RowKit Go.Maps Go.Viv

theorem info56 : (Try.prog.info? 56).map (fun i => (i.zero, i.size, i.bytes)) = some (some (.agg #[.int .i64 0, .int .i64 0, .int .i64 0, .int .i64 0]), 4, 32) := by kernel_rfl

theorem pos_push {rs : List (Int × Val)} {i : Int} {v : Val} (hp : pos rs i = none) (j : Int) : pos (rs ++ [(i, v)]) j = if j = i then some rs.length else pos rs j := by
  unfold pos at *
  rw [List.findIdx?_append]
  by_cases hj : j = i
  · subst hj
    rw [if_pos rfl, hp]
    simp [List.findIdx?_cons]
  · rw [if_neg hj]
    have : ¬ i = j := fun e => hj e.symm
    simp [List.findIdx?_cons, this]

/-- What a new row makes of a Dense: w2 is the world behind the append. -/
theorem dense_push {w2 : World} {p bm : Nat} {i : Int} {v : Val} {rs : List (Int × Val)} {T : Nat → Prop} {sv sv' : Value} (hb : Blk w2 p 53 #[sv, .map (some bm)])
    (ho : w2.ownsRow 0 56 4 sv' (rs.length + 1) (rs.flatMap rowCells ++ [.int .i64 i, .int .i64 v.k, .int .i64 v.a, .int .i64 v.b])) (hm : IMap w2 Try.prog 3 3 bm (rs.length + 1) (fun j => if j = i then some (rs.length : Int) else (pos rs j).map (fun n : Nat => (n : Int))))
    (h4 : (rs.map (·.1)).Nodup) (h5 : ∀ r ∈ rs, 0 ≤ r.1 ∧ r.1 < 65536) (h6 : T p) (h7 : T bm) (h8 : ∀ k, sv'.ownBlock = some k → T k) (hp : pos rs i = none) (h0 : 0 ≤ i) (h1 : i < 65536) :
    DenseIs (w2.setCell ⟨p, 0, none⟩ sv') p (rs ++ [(i, v)]) T := by
  have hf : Fr (fun x => x = p) w2 (w2.setCell ⟨p, 0, none⟩ sv') := by
    refine Fr.setCell (Fr.refl _ _) ?_ _; exact .inl rfl
  have hbp : bm ≠ p := hm.ne_blk hb
  have hop : sv'.ownBlock ≠ some p := own_blk_ne ho hb (by decide)
  refine ⟨sv', bm, by simpa using hb.set_ 0 sv', ?_, ?_, ?_, ?_, h6, h7, h8⟩
  · have := own_fr ho hf (fun k hk e => hop (by rw [hk, e]))
    simpa [rowCells, Val.cells] using this
  · have := hm.fr hf hbp
    have e : (fun j => Option.map (fun n : Nat => (n : Int)) (pos (rs ++ [(i, v)]) j)) = fun j => if j = i then some (rs.length : Int) else (pos rs j).map (fun n : Nat => (n : Int)) := by
      funext j
      rw [pos_push hp]
      split <;> rfl
    rw [e]
    simpa using this
  · rw [List.map_append, List.nodup_append]
    refine ⟨h4, by simp, fun a ha b hb' => ?_⟩
    obtain ⟨r, hr, rfl⟩ := List.mem_map.1 ha
    have : b = i := by simpa using hb'
    subst this
    exact (pos_none hp).2.2 r hr
  · intro r hr
    rcases List.mem_append.1 hr with hr | hr
    · exact h5 r hr
    · have : r = (i, v) := by simpa using hr
      subst this
      exact ⟨h0, h1⟩

attribute [local go_sem ↓] wp_appendV
set_option maxHeartbeats 400000 in
theorem put_new (p : Nat) (i : Int) (v : Val) (rs : List (Int × Val)) (S : Nat → Prop) (w : World) (h : DenseIs w p rs S) (hi : (Lit.int .i64 i).wf = true) (h0 : 0 ≤ i) (h1' : i < 65536) (hp : pos rs i = none) :
    Calls Try.prog 8 #[.pointer (some ⟨p, 0, none⟩), .int .i64 i, v.agg] w fun e w' => e = .returned (.tuple #[Val.zero.agg, .bool false]) ∧ DenseIs w' p (rs ++ [(i, v)]) (Ext S w w') ∧ Fr S w w' := by
  have hlen := h.len
  obtain ⟨sv, bm, h1, h2, h3, h4, h5, h6, h7, h8⟩ := h
  obtain ⟨i0, hi0, hz0, hz1, hz2⟩ := info_parts info56
  have c0 := h1.cell 0
  have c1 := h1.cell 1
  have hpl := h1.lt
  have hbl := h3.lt
  have hrun := fun o o' => (h3.of_block (w' := (w.alloc o).alloc o') (by rw [Below.heap_alloc _ _ _ (by simp; omega), Below.heap_alloc _ _ _ hbl])).look Try.underlying3 Try.underlying3 Try.underlying46 zero3 hi
  simp only [hp, Option.map_none, Option.getD_none, Option.isSome_none] at hrun
  simp at c0 c1
  obtain ⟨A, cap, hsv, hcap⟩ := own_len h2
  -- the map's store
  have m3 := h3.of_block (w' := ((w.alloc (.cells #[.int .i64 v.k, .int .i64 v.a, .int .i64 v.b] 23)).alloc (.cells #[.int .i64 0, .int .i64 0, .int .i64 0] 23)).drew) (by
    show ((w.alloc _).alloc _).heap[bm]? = _
    rw [Below.heap_alloc _ _ _ (by simp; omega), Below.heap_alloc _ _ _ hbl])
  obtain ⟨w1, hst, hm1, hg1⟩ := m3.store Try.underlying3 Try.underlying3 Try.underlying46 (by unfold maxLen; omega) hi (v := (rs.length : Int)) (WalkArith.wf_i64 (by omega))
  have hpb : p ≠ bm := fun e => h3.ne_blk h1 e.symm
  have s1 : w.heap.size + 1 + 1 ≤ w1.heap.size := by have := hg1.size; simpa using this
  have d0 : w1.cell? ⟨p, 0, none⟩ = some (.slice A rs.length cap) := by
    rw [World.cell?_of_block (hg1.block p (by simp; omega) (fun e => hpb (by injection e)))]
    rw [← hsv, ← c0]
    go_simp
  have e0 : w1.cell? ⟨w.heap.size, 0, none⟩ = some (.int .i64 v.k) ∧ w1.cell? ⟨w.heap.size, 1, none⟩ = some (.int .i64 v.a) ∧ w1.cell? ⟨w.heap.size, 2, none⟩ = some (.int .i64 v.b) := by
    have hne : some w.heap.size ≠ some bm := fun e => by injection e; omega
    refine ⟨?_, ?_, ?_⟩ <;> (rw [World.cell?_of_block (hg1.block w.heap.size (by simp; omega) hne)]; go_simp)
  obtain ⟨e0, e1, e2⟩ := e0
  have f0 : w1.frozen? ⟨p, 0, none⟩ = false := by
    rw [World.frozen?_of_block (hg1.block p (by simp; omega) (fun e => hpb (by injection e)))]
    have := h1.frozen 0
    go_simp
  have s2 : p < w1.heap.size := by omega
  have fr1 : Fr (fun x => x = bm) w w1 := by
    refine Fr.grown (((Fr.refl _ w).alloc _).alloc _).drew hg1 ?_
    intro k hk; injection hk with hk; exact .inl hk.symm
  have h2a : (w1.alloc (.cells #[.int .i64 i, .int .i64 v.k, .int .i64 v.a, .int .i64 v.b] 56)).drew.ownsRow 0 56 4 sv rs.length (rs.flatMap rowCells) :=
    ((own_fr h2 fr1 (fun k hk e => own_map_ne h2 h3 (by rw [hk, e]))).alloc _).drew
  obtain ⟨sv', w2, happ, ho2, hg2, _, hat⟩ := run_append_own_at (P := Try.prog) _ 0 49 49 56 i0 _ 4 32 Try.underlying49 hi0 hz0 hz1 hz2 rfl (by omega) sv rs.length _ h2a
    ⟨w1.heap.size, 0, none⟩ 1 1 [.int .i64 i, .int .i64 v.k, .int .i64 v.a, .int .i64 v.b] rfl (World.news_of_block (cs := #[.int .i64 i, .int .i64 v.k, .int .i64 v.a, .int .i64 v.b]) (t := 56) (fr := (0, 0)) (heap_alloc_new w1 _)) (by simp [Value.oneCell'])
    (by unfold maxLen; omega) (by omega) (Nat.zero_le _)
  change appendV Try.prog 49 49 sv (.slice (some ⟨w1.heap.size, 0, none⟩) 1 1) _ = _ at happ
  rw [hsv] at happ
  obtain ⟨A', cap', hsv', hcap'⟩ := own_len ho2
  rw [hsv'] at happ
  have hne : ∀ k, k < w.heap.size → k ≠ bm → sv.ownBlock ≠ some k → w2.heap[k]? = w.heap[k]? := fun k hk hb ho => by
    rw [hg2.block k (by simp; omega) (Ne.symm ho)]
    show (w1.alloc _).heap[k]? = _
    rw [Below.heap_alloc _ _ _ (by omega), fr1.block k hk hb]
  have hnew : ∀ k, w.heap.size ≤ k → k < w.heap.size + 2 → w2.heap[k]? = ((w.alloc (.cells #[.int .i64 v.k, .int .i64 v.a, .int .i64 v.b] 23)).alloc (.cells #[.int .i64 0, .int .i64 0, .int .i64 0] 23)).heap[k]? := fun k hk hk2 => by
    rw [hg2.block k (by simp; omega) (fun e => by have := own_in h2 k e.symm; omega)]
    show (w1.alloc _).heap[k]? = _
    rw [Below.heap_alloc _ _ _ (by omega), hg1.block k (by simp; omega) (fun e => by injection e with e; omega)]
    rfl
  have gp : w2.heap[p]? = w.heap[p]? := hne p hpl hpb (own_blk_ne h2 h1 (by decide))
  have b2 : Blk w2 p 53 #[sv, .map (some bm)] := gp.trans h1
  have k0 := b2.cell 0
  have k1 := b2.frozen 0
  have b3 : Blk w2 (w.heap.size + 1) 23 #[.int .i64 0, .int .i64 0, .int .i64 0] := (hnew _ (by omega) (by omega)).trans (by
    have := heap_alloc_new (w.alloc (.cells #[.int .i64 v.k, .int .i64 v.a, .int .i64 v.b] 23)) (.cells #[.int .i64 0, .int .i64 0, .int .i64 0] 23)
    simpa using this)
  have l0 := b3.cell 0
  have l1 := b3.cell 1
  have l2 := b3.cell 2
  have l3 := b3.frozen 0
  have l4 := b3.frozen 1
  have l5 := b3.frozen 2
  simp at k0 l0 l1 l2
  rw [hsv] at k0
  have t1 : w.heap.size < w1.heap.size := by omega
  unfold Val.agg
  subst hsv
  have hS2 : ∀ k, sv'.ownBlock = some k → (S k ∨ (w.heap.size ≤ k ∧ k < w2.heap.size)) ∧ k ≠ w.heap.size + 1 := fun k hk => by
    rcases hat with e | e
    · have := own_in h2 k (by rw [← e]; exact hk)
      exact ⟨.inl (h8 k (by rw [← e]; exact hk)), by omega⟩
    · rw [e] at hk
      injection hk with hk
      have := own_in ho2 k (by rw [e, hk])
      simp at hk
      exact ⟨.inr ⟨by omega, this⟩, by omega⟩
  have m2 : IMap w2 Try.prog 3 3 bm (rs.length + 1) (fun j => if j = i then some (rs.length : Int) else (pos rs j).map (fun n : Nat => (n : Int))) :=
    hm1.of_block (by
      rw [hg2.block bm (by simp; omega) (fun e => own_map_ne h2 h3 e.symm)]
      exact Below.heap_alloc _ _ _ (by omega))
  have hz : w1.heap.size ≤ w2.heap.size := by have := hg2.size; simp at this; omega
  have frw : Fr S w w2 := by
    refine Fr.grown ((fr1.mono (T := S) (fun k _ hk => by rw [hk]; exact h7)).alloc _).drew hg2 (fun k hk => .inl (h8 k hk))
  have HD := Lib.hid (And.intro b2 (And.intro ho2 (And.intro m2 (And.intro h5 (And.intro hS2 (And.intro hp frw))))))
  clear m2 frw hS2
  subst hsv'
  clear h2 h3 h5 h8 hg1 hm1 m3 hp ho2 hg2 hat h2a fr1 hne hnew gp b2 b3
  go_enter Try.func8, Try.ntmps8
  go_wp2
  go_region
  go_wp2
  go_region
  go_wp2
  have hq : ¬ p = w.heap.size + 1 := by omega
  have hq' : ¬ w.heap.size + 1 = p := by omega
  refine bodyPost_ret (v := .tuple #[.agg #[.int .i64 0, .int .i64 0, .int .i64 0], .bool false]) (by simp [results, Try.results8, go_sem, l0, l1, l2, hq, hq']) rfl ⟨rfl, ?_, ?_⟩
  · obtain ⟨b2, ho2, m2, h5, hS2, hp, frw⟩ := HD.out
    have hd := dense_push (T := fun k => k = p ∨ k = bm ∨ (Value.slice A' (rs.length + 1) cap').ownBlock = some k) b2 ho2 m2 h4 h5 (.inl rfl) (.inr (.inl rfl)) (fun k hk => .inr (.inr hk)) hp h0 h1'
    have hf : Fr (fun k => k = w.heap.size + 1) (w2.setCell ⟨p, 0, none⟩ (.slice A' (rs.length + 1) cap')) ((((w2.setCell ⟨p, 0, none⟩ (.slice A' (rs.length + 1) cap')).setCell ⟨w.heap.size + 1, 0, none⟩ (.int .i64 0)).setCell ⟨w.heap.size + 1, 1, none⟩ (.int .i64 0)).setCell ⟨w.heap.size + 1, 2, none⟩ (.int .i64 0)) := by
      refine Fr.setCell (Fr.setCell (Fr.setCell (Fr.refl _ _) ?_ _) ?_ _) ?_ _ <;> exact .inl rfl
    have hk := hd.keep hf (fun k hk => by
      rcases hk with rfl | rfl | hk
      · omega
      · omega
      · exact (hS2 k hk).2)
    refine hk.mono (fun k hk => ?_)
    rcases hk with rfl | rfl | hk
    · exact .inl h6
    · exact .inl h7
    · rcases (hS2 k hk).1 with h | h
      · exact .inl h
      · exact .inr (by simpa [World.setCell] using h)
  · obtain ⟨b2, ho2, m2, h5, hS2, hp, frw⟩ := HD.out
    refine Fr.setCell (Fr.setCell (Fr.setCell (Fr.setCell frw ?_ _) ?_ _) ?_ _) ?_ _
    · exact .inl h6
    all_goals exact .inr (by simp)
end Go.Proofs.Ytbcaajgomekjaaa
