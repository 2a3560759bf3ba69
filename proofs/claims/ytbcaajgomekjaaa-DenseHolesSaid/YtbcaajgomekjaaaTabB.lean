/-
  Contracts of the document's Table: Put, Take.
-/
import Derived.Test.YtbcaajgomekjaaaTabA
namespace Go.Proofs.Ytbcaajgomekjaaa
open Go.RowKit Go.Maps Go.Viv

theorem info58 : (Try.prog.info? 58).map (fun i => (i.zero, i.size, i.bytes)) = some (some (.agg #[.int .i64 0, .int .i64 0, .int .i64 0, .int .i64 0]), 4, 32) := by kernel_rfl

theorem tput_out (p : Nat) (i : Int) (v : Val) (w : World) (h : i < 0 ∨ 65536 ≤ i) :
    Calls Try.prog 16 #[.pointer (some ⟨p, 0, none⟩), .int .i64 i, v.agg] w fun e w' => e = .returned (.tuple #[Val.zero.agg, .bool false]) ∧ Fr (fun _ => False) w w' := by
  have hd : decide (i < 0 ∨ 65536 ≤ i) = true := decide_eq_true h
  unfold Val.agg
  go_enter Try.func16, Try.ntmps16
  go_wp2_with (go_at_call 19; refine (index_any i _).mono ?_; rintro e w1 ⟨rfl, rfl⟩; rw [hd])
  refine bodyPost_ret (v := .tuple #[.agg #[.int .i64 0, .int .i64 0, .int .i64 0], .bool false]) (by simp [results, Try.results16, go_sem]) rfl ⟨rfl, ((Fr.refl _ _).alloc _).alloc _⟩

theorem fr_set_row {α : Type} {f : α → List Value} {w : World} {g o : Nat} (x : α) : Fr (fun y => y = g) w (setCells w g o (f x)) := fr_setCells _ _ _

/-- The value of a row stored anew. -/
theorem own_set_val {e : TypeId} {w : World} {g cap k : Nat} {i : Int} {v v0 : Val} {rs : List (Int × Val)} (h2 : w.ownsRow 0 e 4 (.slice (some ⟨g, 0, none⟩) rs.length cap) rs.length (rs.flatMap rowCells)) (hk : rs[k]? = some (i, v0)) :
    (setCells w g (k * 4 + 1) v.cells).ownsRow 0 e 4 (.slice (some ⟨g, 0, none⟩) rs.length cap) rs.length ((rs.set k (i, v)).flatMap rowCells) := by
  have hl : k < rs.length := (List.getElem?_eq_some_iff.1 hk).1
  have hc := fun c hc => chunk_get rowCells 4 rowCells_len rs k c hc
  rw [hk] at hc
  have hlen := chunk_len rowCells 4 rowCells_len rs
  have h1 := own_setCells v.cells w _ (k * 4 + 1) h2
  have e : setAll (rs.flatMap rowCells) (k * 4 + 1) v.cells = (rs.set k (i, v)).flatMap rowCells := by
    rw [setAll_eq _ _ _ (by rw [hlen]; simp [Val.cells]; omega), chunk_set rowCells 4 rowCells_len rs k (i, v) hl]
    have h40 := hc 0 (by omega)
    simp [rowCells] at h40
    rw [List.take_add_one, h40]
    simp [rowCells, Val.cells]
  rw [e] at h1
  exact h1

theorem table_set {w : World} {p k g cap : Nat} {i : Int} {v v0 : Val} {rs : List (Int × Val)} {S : Nat → Prop} (h1 : Blk w p 37 #[.slice (some ⟨g, 0, none⟩) rs.length cap])
    (h2 : w.ownsRow 0 58 4 (.slice (some ⟨g, 0, none⟩) rs.length cap) rs.length (rs.flatMap rowCells))
    (h4 : (rs.map (·.1)).Nodup) (h5 : ∀ r ∈ rs, 0 ≤ r.1 ∧ r.1 < 65536) (h6 : S p) (h8 : ∀ k, (Value.slice (some ⟨g, 0, none⟩) rs.length cap).ownBlock = some k → S k) (hk : rs[k]? = some (i, v0)) :
    TableIs (setCells w g (k * 4 + 1) v.cells) p (rs.set k (i, v)) S := by
  have hg : g ≠ p := fun e => own_blk_ne h2 h1 (by decide) (by rw [← e]; rfl)
  refine ⟨_, h1.fr (fr_setCells _ _ _) (Ne.symm hg), by rw [List.length_set]; exact own_set_val h2 hk, by rw [fst_set hk]; exact h4, ?_, h6, h8⟩
  intro r hr
  have hm : r.1 ∈ (rs.set k (i, v)).map (·.1) := List.mem_map.2 ⟨r, hr, rfl⟩
  rw [fst_set hk] at hm
  obtain ⟨r', hr', e⟩ := List.mem_map.1 hm
  rw [← e]
  exact h5 r' hr'

theorem tput_found (p : Nat) (i : Int) (v : Val) (rs : List (Int × Val)) (S : Nat → Prop) (w : World) (h : TableIs w p rs S) (h0 : 0 ≤ i) (h1' : i < 65536) (k : Nat) (hp : pos rs i = some k) :
    Calls Try.prog 16 #[.pointer (some ⟨p, 0, none⟩), .int .i64 i, v.agg] w fun e w' => e = .returned (.tuple #[(getV rs i).agg, .bool (hasV rs i)]) ∧ TableIs w' p (rs.set k (i, v)) S ∧ Fr S w w' := by
  have hfind := fun o o' => find_any p i rs S ((w.alloc o).alloc o') (h.keep ((Fr.alloc1 (fun _ => False) _ _).alloc _) (fun _ _ h => h))
  have HF := Lib.hid hfind
  clear hfind
  have hd : decide (i < 0 ∨ 65536 ≤ i) = false := decide_eq_false (by omega)
  obtain ⟨sv, h1, h2, h4, h5, h6, h8⟩ := h
  have hpl := h1.lt
  obtain ⟨v0, hk, hkl, g1, g2⟩ := pos_some hp
  have hpi := posI_some hp
  rw [g1, g2]
  obtain ⟨g, cap, cur, rfl, hcap, _, hb, hcs, hct⟩ := own_cases h2 (by omega)
  obtain ⟨k0, k1, k2, k3⟩ := row_cellsE h2 hk
  have hgl := hb.lt
  have c0 := h1.cell 0
  have f1 := h2.frozenAt (k * 4 + 1)
  have f2 := h2.frozenAt (k * 4 + 1 + 1)
  have f3 := h2.frozenAt (k * 4 + 1 + 2)
  simp at c0
  have HD := Lib.hid (And.intro h1 (And.intro h2 (And.intro h4 (And.intro h5 (And.intro h8 hk)))))
  have q1 : p < w.heap.size + 1 := by omega
  have q2 : p < w.heap.size + 1 + 1 := by omega
  have q1' : g < w.heap.size + 1 := by omega
  have q2' : g < w.heap.size + 1 + 1 := by omega
  have hkn : (k : Int) < rs.length := by omega
  clear h1 h2 h4 h5 h8 hp g1 g2 hct hcs hk k0
  unfold Val.agg
  go_enter Try.func16, Try.ntmps16
  go_wp2_with (first
    | (go_at_call 19; refine (index_any i _).mono ?_; rintro e w1 ⟨rfl, rfl⟩; rw [hd])
    | (go_at_call 20; refine (HF.out _ _).mono ?_; rintro e w1 ⟨rfl, rfl⟩; rw [hpi]))
  go_region
  go_wp2
  refine bodyPost_ret (v := .tuple #[.agg #[.int .i64 v0.k, .int .i64 v0.a, .int .i64 v0.b], .bool true]) (by simp [results, Try.results16, go_sem]) rfl ⟨rfl, ?_, ?_⟩
  · obtain ⟨h1, h2, h4, h5, h8, hk⟩ := HD.out
    have hd := table_set (v := v) h1 h2 h4 h5 h6 h8 hk
    exact (hd.keep (T := fun _ => False) (((Fr.alloc1 _ _ _).alloc _).alloc _).drew (fun _ _ h => h))
  · obtain ⟨h1, h2, h4, h5, h8, hk⟩ := HD.out
    exact ((((fr_setCells v.cells w (k * 4 + 1)).mono (T := S) (fun x _ hx => by rw [hx]; exact h8 g rfl)).alloc _).alloc _ |>.alloc _).drew

theorem table_push {w2 : World} {p : Nat} {i : Int} {v : Val} {rs : List (Int × Val)} {T : Nat → Prop} {sv sv' : Value} (hb : Blk w2 p 37 #[sv])
    (ho : w2.ownsRow 0 58 4 sv' (rs.length + 1) (rs.flatMap rowCells ++ [.int .i64 i, .int .i64 v.k, .int .i64 v.a, .int .i64 v.b]))
    (h4 : (rs.map (·.1)).Nodup) (h5 : ∀ r ∈ rs, 0 ≤ r.1 ∧ r.1 < 65536) (h6 : T p) (h8 : ∀ k, sv'.ownBlock = some k → T k) (hp : pos rs i = none) (h0 : 0 ≤ i) (h1 : i < 65536) :
    TableIs (w2.setCell ⟨p, 0, none⟩ sv') p (rs ++ [(i, v)]) T := by
  have hf : Fr (fun x => x = p) w2 (w2.setCell ⟨p, 0, none⟩ sv') := by
    refine Fr.setCell (Fr.refl _ _) ?_ _; exact .inl rfl
  have hop : sv'.ownBlock ≠ some p := own_blk_ne ho hb (by decide)
  refine ⟨sv', by simpa using hb.set_ 0 sv', ?_, ?_, ?_, h6, h8⟩
  · have := own_fr ho hf (fun k hk e => hop (by rw [hk, e]))
    simpa [rowCells, Val.cells] using this
  · rw [List.map_append, List.nodup_append]
    refine ⟨h4, by simp, fun a ha b hb' => ?_⟩
    obtain ⟨r, hr, rfl⟩ := List.mem_map.1 ha
    have : b = i := by simpa using hb'
    subst this
    exact (pos_none hp).2.2 r hr
  · intro r hr
    rcases List.mem_append.1 hr with hr | hr
    · exact h5 r hr
    · have : r = (i, v) := by simpa using hr
      subst this
      exact ⟨h0, h1⟩

attribute [local go_sem ↓] wp_appendV
set_option maxHeartbeats 400000 in
theorem tput_new (p : Nat) (i : Int) (v : Val) (rs : List (Int × Val)) (S : Nat → Prop) (w : World) (h : TableIs w p rs S) (h0 : 0 ≤ i) (h1' : i < 65536) (hp : pos rs i = none) :
    Calls Try.prog 16 #[.pointer (some ⟨p, 0, none⟩), .int .i64 i, v.agg] w fun e w' => e = .returned (.tuple #[Val.zero.agg, .bool false]) ∧ TableIs w' p (rs ++ [(i, v)]) (Ext S w w') ∧ Fr S w w' := by
  have hlen := h.len
  have hfind := fun o o' => find_any p i rs S ((w.alloc o).alloc o') (h.keep ((Fr.alloc1 (fun _ => False) _ _).alloc _) (fun _ _ h => h))
  have HF := Lib.hid hfind
  clear hfind
  have hd : decide (i < 0 ∨ 65536 ≤ i) = false := decide_eq_false (by omega)
  have hpi := posI_none hp
  obtain ⟨sv, h1, h2, h4, h5, h6, h8⟩ := h
  obtain ⟨i0, hi0, hz0, hz1, hz2⟩ := info_parts info58
  have c0 := h1.cell 0
  have hpl := h1.lt
  simp at c0
  obtain ⟨A, cap, hsv, hcap⟩ := own_len h2
  obtain ⟨w1, hw1⟩ : ∃ w1, w1 = (w.alloc (.cells #[.int .i64 v.k, .int .i64 v.a, .int .i64 v.b] 23)).alloc (.cells #[.int .i64 0, .int .i64 0, .int .i64 0] 23) := ⟨_, rfl⟩
  have s1 : w1.heap.size = w.heap.size + 1 + 1 := by rw [hw1]; simp
  have fr1 : Fr (fun _ => False) w w1 := by rw [hw1]; exact ((Fr.refl _ w).alloc _).alloc _
  have h2a : (w1.alloc (.cells #[.int .i64 i, .int .i64 v.k, .int .i64 v.a, .int .i64 v.b] 58)).drew.ownsRow 0 58 4 sv rs.length (rs.flatMap rowCells) :=
    ((own_fr h2 fr1 (fun k hk e => e)).alloc _).drew
  obtain ⟨sv', w2, happ, ho2, hg2, _, hat⟩ := run_append_own_at (P := Try.prog) _ 0 35 35 58 i0 _ 4 32 Try.underlying35 hi0 hz0 hz1 hz2 rfl (by omega) sv rs.length _ h2a
    ⟨w1.heap.size, 0, none⟩ 1 1 [.int .i64 i, .int .i64 v.k, .int .i64 v.a, .int .i64 v.b] rfl (World.news_of_block (cs := #[.int .i64 i, .int .i64 v.k, .int .i64 v.a, .int .i64 v.b]) (t := 58) (fr := (0, 0)) (heap_alloc_new w1 _)) (by simp [Value.oneCell'])
    (by unfold maxLen; omega) (by omega) (Nat.zero_le _)
  change appendV Try.prog 35 35 sv (.slice (some ⟨w1.heap.size, 0, none⟩) 1 1) _ = _ at happ
  obtain ⟨A', cap', hsv', hcap'⟩ := own_len ho2
  have hne : ∀ k, k < w1.heap.size → sv.ownBlock ≠ some k → w2.heap[k]? = w1.heap[k]? := fun k hk ho => by
    rw [hg2.block k (by simp; omega) (Ne.symm ho)]
    exact Below.heap_alloc _ _ _ hk
  have b2 : Blk w2 p 37 #[sv] := (hne p (by omega) (own_blk_ne h2 h1 (by decide))).trans (h1.fr fr1 (fun h => h))
  have k0 := b2.cell 0
  have k1 := b2.frozen 0
  have b3 : Blk w2 (w.heap.size + 1) 23 #[.int .i64 0, .int .i64 0, .int .i64 0] := (hne _ (by omega) (fun e => by have := own_in h2 _ e; omega)).trans (by rw [hw1]; exact blk_at (by simp))
  have l0 := b3.cell 0
  have l1 := b3.cell 1
  have l2 := b3.cell 2
  have l3 := b3.frozen 0
  have l4 := b3.frozen 1
  have l5 := b3.frozen 2
  simp at k0 l0 l1 l2
  rw [hsv] at k0 c0
  rw [hsv, hsv', s1, hw1] at happ
  have hS2 : ∀ k, sv'.ownBlock = some k → (S k ∨ (w.heap.size ≤ k ∧ k < w2.heap.size)) ∧ k ≠ w.heap.size + 1 := fun k hk => by
    rcases hat with e | e
    · have := own_in h2 k (by rw [← e]; exact hk)
      exact ⟨.inl (h8 k (by rw [← e]; exact hk)), by omega⟩
    · rw [e] at hk
      injection hk with hk
      have := own_in ho2 k (by rw [e, hk])
      simp at hk
      exact ⟨.inr ⟨by omega, this⟩, by omega⟩
  have frw : Fr S w w2 := Fr.grown ((fr1.mono (T := S) (fun _ _ h => h.elim)).alloc _).drew hg2 (fun k hk => .inl (h8 k hk))
  have HD := Lib.hid (And.intro b2 (And.intro ho2 (And.intro h4 (And.intro h5 (And.intro hS2 (And.intro hp (And.intro frw hsv')))))))
  have q1 : p < w.heap.size + 1 := by omega
  have q2 : p < w.heap.size + 1 + 1 := by omega
  have hq : ¬ p = w.heap.size + 1 := by omega
  have hq' : ¬ w.heap.size + 1 = p := by omega
  clear h1 h2 h4 h5 h8 hat hp b2 b3 ho2 hg2 h2a fr1 hne frw hS2 hw1 s1 hsv hsv' hcap hcap'
  unfold Val.agg
  go_enter Try.func16, Try.ntmps16
  go_wp2_with (first
    | (go_at_call 19; refine (index_any i _).mono ?_; rintro e w9 ⟨rfl, rfl⟩; rw [hd])
    | (go_at_call 20; refine (HF.out _ _).mono ?_; rintro e w9 ⟨rfl, rfl⟩; rw [hpi]))
  go_region
  go_wp2
  refine bodyPost_ret (v := .tuple #[.agg #[.int .i64 0, .int .i64 0, .int .i64 0], .bool false]) (by simp [results, Try.results16, go_sem, l0, l1, l2, hq, hq']) rfl ⟨rfl, ?_, ?_⟩
  · obtain ⟨b2, ho2, h4, h5, hS2, hp, frw, hsv'⟩ := HD.out
    have hd := table_push (T := fun k => k = p ∨ sv'.ownBlock = some k) b2 ho2 h4 h5 (.inl rfl) (fun k hk => .inr hk) hp h0 h1'
    rw [hsv'] at hd hS2
    have hf : Fr (fun k => k = w.heap.size + 1) (w2.setCell ⟨p, 0, none⟩ (.slice A' (rs.length + 1) cap')) ((((w2.setCell ⟨p, 0, none⟩ (.slice A' (rs.length + 1) cap')).setCell ⟨w.heap.size + 1, 0, none⟩ (.int .i64 0)).setCell ⟨w.heap.size + 1, 1, none⟩ (.int .i64 0)).setCell ⟨w.heap.size + 1, 2, none⟩ (.int .i64 0)) := by
      refine Fr.setCell (Fr.setCell (Fr.setCell (Fr.refl _ _) ?_ _) ?_ _) ?_ _ <;> exact .inl rfl
    have hk := hd.keep hf (fun k hk => by
      rcases hk with rfl | hk
      · exact hq
      · exact (hS2 k hk).2)
    refine hk.mono (fun k hk => ?_)
    rcases hk with rfl | hk
    · exact .inl h6
    · rcases (hS2 k hk).1 with h | h
      · exact .inl h
      · exact .inr (by simpa [World.setCell] using h)
  · obtain ⟨b2, ho2, h4, h5, hS2, hp, frw, hsv'⟩ := HD.out
    refine Fr.setCell (Fr.setCell (Fr.setCell (Fr.setCell frw ?_ _) ?_ _) ?_ _) ?_ _
    · exact .inl h6
    all_goals exact .inr (by simp)

theorem tput_any (p : Nat) (i : Int) (v : Val) (rs : List (Int × Val)) (S : Nat → Prop) (w : World) (h : TableIs w p rs S) :
    Calls Try.prog 16 #[.pointer (some ⟨p, 0, none⟩), .int .i64 i, v.agg] w fun e w' => e = .returned (.tuple #[(getV rs i).agg, .bool (hasV rs i)]) ∧ TableIs w' p (putV rs i v) (Ext S w w') ∧ Fr S w w' := by
  by_cases ho : i < 0 ∨ 65536 ≤ i
  · have hpn : pos rs i = none := by
      obtain ⟨sv, h1, h2, h4, h5, h6, h8⟩ := h
      refine List.findIdx?_eq_none_iff.2 (fun r hr => ?_)
      have := h5 r hr
      simp; omega
    obtain ⟨g1, g2, _⟩ := pos_none hpn
    rw [g1, g2, putV, if_pos ho]
    exact (tput_out p i v w ho).mono fun e w' ⟨he, hf⟩ => ⟨he, (h.keep hf (fun _ _ h => h)).mono (fun k hk => .inl hk), hf.mono (fun _ _ h => h.elim)⟩
  · cases hp : pos rs i with
    | none =>
      obtain ⟨g1, g2, _⟩ := pos_none hp
      rw [g1, g2, putV, if_neg ho, hp]
      exact tput_new p i v rs S w h (by omega) (by omega) hp
    | some k =>
      rw [putV, if_neg ho, hp]
      exact (tput_found p i v rs S w h (by omega) (by omega) k hp).mono fun e w' ⟨he, hd, hf⟩ => ⟨he, hd.mono (fun k hk => .inl hk), hf⟩
end Go.Proofs.Ytbcaajgomekjaaa
