/-
  Contracts of package dense: Take.
-/
import Derived.Test.YtclmjcjaebonnaaGreatDoorSx16
import Derived.Deep.DeepCutAuto
set_option linter.unusedSimpArgs false
set_option linter.unusedVariables false
namespace Go.Proofs.YtclmjcjaebonnaaGreatDoor
open Go.RowKit Go.Maps Go.Viv

def takeV (rs : List (Int × Val)) (i : Int) : List (Int × Val) :=
  match pos rs i with
  | some k => (rs.set k (rs.getLast?.getD (0, Val.zero))).take (rs.length - 1)
  | none => rs

theorem blk_at {W : World} {n : Nat} {t : TypeId} {cs : Array Value} (h : n = W.heap.size) : Blk (W.alloc (.cells cs t)) n t cs := by subst h; exact Blk.new W t cs

theorem key_inj {rs : List (Int × Val)} (h : (rs.map (·.1)).Nodup) {a b : Nat} {i : Int} {u v : Val} (ha : rs[a]? = some (i, u)) (hb : rs[b]? = some (i, v)) : a = b := by
  have la : a < rs.length := (List.getElem?_eq_some_iff.1 ha).1
  exact (List.getElem?_inj (l := rs.map (·.1)) (by simpa using la) h).1 (by simp [ha, hb])
theorem pos_iff {rs : List (Int × Val)} (h : (rs.map (·.1)).Nodup) {j : Int} {m : Nat} : pos rs j = some m ↔ ∃ v, rs[m]? = some (j, v) := by
  constructor
  · intro hp
    obtain ⟨v, hv, _⟩ := pos_some hp
    exact ⟨v, hv⟩
  · rintro ⟨v, hv⟩
    cases hp : pos rs j with
    | none => exact absurd rfl ((pos_none hp).2.2 (j, v) (List.mem_of_getElem? hv))
    | some m' =>
      obtain ⟨v', hv', _⟩ := pos_some hp
      rw [key_inj h hv hv']

theorem take_get {rs : List (Int × Val)} {k : Nat} {l : Int × Val} (hk : k < rs.length) (m : Nat) : ((rs.set k l).take (rs.length - 1))[m]? = if m < rs.length - 1 then (if m = k then some l else rs[m]?) else none := by
  rw [List.getElem?_take, List.getElem?_set]
  split
  · by_cases e : m = k
    · subst e; simp [hk]
    · rw [if_neg (fun h => e h.symm), if_neg e]
  · rfl

theorem take_get_some {rs : List (Int × Val)} {k : Nat} {l x : Int × Val} (hk : k < rs.length) {m : Nat} (h : ((rs.set k l).take (rs.length - 1))[m]? = some x) : m < rs.length - 1 ∧ ((m = k ∧ x = l) ∨ (m ≠ k ∧ rs[m]? = some x)) := by
  rw [take_get hk] at h
  by_cases l1 : m < rs.length - 1
  · rw [if_pos l1] at h
    by_cases e : m = k
    · rw [if_pos e] at h; injection h with h; exact ⟨l1, .inl ⟨e, h.symm⟩⟩
    · rw [if_neg e] at h; exact ⟨l1, .inr ⟨e, h⟩⟩
  · rw [if_neg l1] at h; cases h

theorem dense_take {wd : World} {p bm g cap k : Nat} {i li : Int} {v0 lv : Val} {rs : List (Int × Val)} {S : Nat → Prop} (hb : Blk wd p 290 #[.slice (some ⟨g, 0, none⟩) rs.length cap, .map (some bm)])
    (ho : wd.ownsRow 0 412 4 (.slice (some ⟨g, 0, none⟩) rs.length cap) rs.length ((rs.set k (li, lv)).flatMap rowCells))
    (hm : IMap wd Tryz.prog 3 3 bm (rs.length + 1) (fun j => if j = i then none else if j = li then some (k : Int) else (pos rs j).map (fun n : Nat => (n : Int))))
    (h4 : (rs.map (·.1)).Nodup) (h5 : ∀ r ∈ rs, 0 ≤ r.1 ∧ r.1 < 65536) (h6 : S p) (h7 : S bm) (h8 : ∀ k, (Value.slice (some ⟨g, 0, none⟩) rs.length cap).ownBlock = some k → S k) (hp : pos rs i = some k) (hk : rs[k]? = some (i, v0)) (hl : rs[rs.length - 1]? = some (li, lv)) :
    DenseIs (wd.setCell ⟨p, 0, none⟩ (.slice (some ⟨g, 0, none⟩) (rs.length - 1) cap)) p (takeV rs i) S := by
  have hkl : k < rs.length := (List.getElem?_eq_some_iff.1 hk).1
  have htake : takeV rs i = (rs.set k (li, lv)).take (rs.length - 1) := by
    unfold takeV
    rw [hp]
    simp only
    rw [List.getLast?_eq_getElem?, hl]
    rfl
  have htl : (takeV rs i).length = rs.length - 1 := by rw [htake]; simp
  have hget := take_get (l := (li, lv)) hkl
  have hinj : ∀ (a b : Nat) (j : Int) (u v : Val), (takeV rs i)[a]? = some (j, u) → (takeV rs i)[b]? = some (j, v) → a = b := by
    intro a b j u v ha hb'
    rw [htake] at ha hb'
    obtain ⟨l1, ha2⟩ := take_get_some hkl ha
    obtain ⟨l2, hb2⟩ := take_get_some hkl hb'
    rcases ha2 with ⟨e1, ha3⟩ | ⟨e1, ha3⟩ <;> rcases hb2 with ⟨e2, hb3⟩ | ⟨e2, hb3⟩
    · omega
    · injection ha3 with ha3 _
      subst ha3
      have := key_inj h4 hl hb3; omega
    · injection hb3 with hb3 _
      subst hb3
      have := key_inj h4 hl ha3; omega
    · exact key_inj h4 ha3 hb3
  have hnd : ((takeV rs i).map (·.1)).Nodup := by
    refine List.pairwise_iff_getElem.2 (fun a b ha hb' hab e => ?_)
    simp only [List.length_map] at ha hb'
    simp only [List.getElem_map] at e
    have := hinj a b (takeV rs i)[a].1 (takeV rs i)[a].2 (takeV rs i)[b].2 (by rw [List.getElem?_eq_getElem ha]) (by rw [List.getElem?_eq_getElem hb', e])
    omega
  have hposf : ∀ j, pos (takeV rs i) j = if j = i then none else if j = li then some k else pos rs j := by
    intro j
    apply Option.ext
    intro m
    rw [pos_iff hnd, htake]
    by_cases e1 : j = i
    · subst e1
      simp only [if_true]
      constructor
      · rintro ⟨v, hv⟩
        obtain ⟨l1, hv⟩ := take_get_some hkl hv
        rcases hv with ⟨e, hv⟩ | ⟨e, hv⟩
        · injection hv with hv _
          subst hv
          have := key_inj h4 hl hk; omega
        · have := key_inj h4 hk hv; omega
      · intro h; cases h
    · rw [if_neg e1]
      by_cases e2 : j = li
      · subst e2
        simp only [if_true]
        constructor
        · rintro ⟨v, hv⟩
          obtain ⟨l1, hv⟩ := take_get_some hkl hv
          rcases hv with ⟨e, hv⟩ | ⟨e, hv⟩
          · rw [e]
          · have := key_inj h4 hl hv; omega
        · intro h
          injection h with h
          subst h
          have : ¬ k = rs.length - 1 := fun e => e1 (by rw [← e, hk] at hl; injection hl with hl; injection hl with hl _; exact hl.symm)
          exact ⟨lv, by rw [hget, if_pos (by omega), if_pos rfl]⟩
      · rw [if_neg e2, pos_iff h4]
        constructor
        · rintro ⟨v, hv⟩
          obtain ⟨l1, hv⟩ := take_get_some hkl hv
          rcases hv with ⟨e, hv⟩ | ⟨e, hv⟩
          · injection hv with hv _
            exact absurd hv e2
          · exact ⟨v, hv⟩
        · rintro ⟨v, hv⟩
          have hml : m < rs.length := (List.getElem?_eq_some_iff.1 hv).1
          have n1 : m ≠ rs.length - 1 := fun e => e2 (by rw [e, hl] at hv; injection hv with hv; injection hv with hv _; exact hv.symm)
          have n2 : m ≠ k := fun e => e1 (by rw [e, hk] at hv; injection hv with hv; injection hv with hv _; exact hv.symm)
          exact ⟨v, by rw [hget, if_pos (by omega), if_neg n2]; exact hv⟩
  have hf : Fr (fun x => x = p) wd (wd.setCell ⟨p, 0, none⟩ (.slice (some ⟨g, 0, none⟩) (rs.length - 1) cap)) := by
    refine Fr.setCell (Fr.refl _ _) ?_ _; exact .inl rfl
  have hbp : bm ≠ p := hm.ne_blk hb
  have hop : g ≠ p := fun e => own_blk_ne ho hb (by decide) (by rw [← e]; rfl)
  refine ⟨.slice (some ⟨g, 0, none⟩) (rs.length - 1) cap, bm, by simpa using hb.set_ 0 (.slice (some ⟨g, 0, none⟩) (rs.length - 1) cap), ?_, ?_, hnd, ?_, h6, h7, h8⟩
  · rw [htl]
    have ho' : wd.ownsRow 0 412 4 (.slice (some ⟨g, 0, none⟩) (rs.length - 1) cap) (rs.length - 1) ((takeV rs i).flatMap rowCells) := by
      obtain ⟨a1, a2⟩ := ho
      rcases a2 with ⟨h, _⟩ | ⟨g', cap', cur, hv, b1, b2, b3, b4, b5, b6⟩
      · cases h
      · injection hv with hv1 hv2 hv3
        injection hv1 with hv1
        injection hv1 with hv1
        subst hv1
        subst hv3
        refine ⟨by rw [chunk_len rowCells 4 rowCells_len, htl], .inr ⟨g, cap, cur, rfl, b1, b2, by omega, b4, b5, ?_⟩⟩
        rw [htake]
        have e1 : ((rs.set k (li, lv)).take (rs.length - 1)).flatMap rowCells = ((rs.set k (li, lv)).flatMap rowCells).take ((rs.length - 1) * 4) := by
          have e0 := List.take_append_drop (rs.length - 1) (rs.set k (li, lv))
          have e2 : (rs.set k (li, lv)).flatMap rowCells = ((rs.set k (li, lv)).take (rs.length - 1)).flatMap rowCells ++ ((rs.set k (li, lv)).drop (rs.length - 1)).flatMap rowCells := by
            rw [← List.flatMap_append, e0]
          rw [e2, List.take_left' (by rw [chunk_len rowCells 4 rowCells_len]; simp)]
        rw [e1, ← b6, List.take_take]
        congr 1
        omega
    exact own_fr ho' hf (fun x hx e => by injection hx with hx; exact hop (hx.trans e))
  · have h := (hm.fr hf hbp).shrink Tryz.underlying3 ((takeV rs i).map (·.1)) (fun j v hj => by
      have hh : (pos (takeV rs i) j).isSome = true := by
        rw [hposf j]
        split at hj
        · cases hj
        · rename_i n1
          rw [if_neg n1]
          split at hj
          · rename_i n2; rw [if_pos n2]; rfl
          · rename_i n2; rw [if_neg n2]; cases hpj : pos rs j
            · rw [hpj] at hj; cases hj
            · rfl
      obtain ⟨m, hm'⟩ := Option.isSome_iff_exists.1 hh
      obtain ⟨u, hu⟩ := (pos_iff hnd).1 hm'
      exact List.mem_map.2 ⟨(j, u), List.mem_of_getElem? hu, rfl⟩)
    rw [List.length_map] at h
    have e : (fun j => Option.map (fun n : Nat => (n : Int)) (pos (takeV rs i) j)) = (fun j => if j = i then none else if j = li then some (k : Int) else (pos rs j).map (fun n : Nat => (n : Int))) := by
      funext j
      rw [hposf]
      split
      · rfl
      · split <;> rfl
    rw [e]
    exact h
  · intro r hr
    obtain ⟨m, hm'⟩ := List.mem_iff_getElem?.1 hr
    rw [htake] at hm'
    obtain ⟨l1, hv⟩ := take_get_some hkl hm'
    rcases hv with ⟨e, hv⟩ | ⟨e, hv⟩
    · rw [hv]
      exact h5 _ (List.mem_of_getElem? hl)
    · exact h5 _ (List.mem_of_getElem? hv)

theorem take_none (p : Nat) (i : Int) (rs : List (Int × Val)) (S : Nat → Prop) (w : World) (h : DenseIs w p rs S) (hi : (Lit.int .i64 i).wf = true) (hp : pos rs i = none) :
    Calls Tryz.prog 303 #[.pointer (some ⟨p, 0, none⟩), .int .i64 i] w fun e w' => e = .returned (.tuple #[Val.zero.agg, .bool false]) ∧ Fr (fun _ => False) w w' := by
  obtain ⟨sv, bm, h1, h2, h3, h4, h5, h6, h7, h8⟩ := h
  have c1 := h1.cell 1
  have hpl := h1.lt
  have hrun := fun o => (h3.of_block (w' := w.alloc o) (Below.heap_alloc w o bm h3.lt)).look Tryz.underlying3 Tryz.underlying3 Tryz.underlying283 zero3 hi
  simp only [hp, Option.map_none, Option.getD_none, Option.isSome_none] at hrun
  simp at c1
  clear h2 h3 h5 h8 hp
  go_enter Tryz.func303, Tryz.ntmps303
  go_wp2
  exact bodyPost_ret (v := .tuple #[Val.zero.agg, .bool false]) (by simp [results, Tryz.results303, go_sem, Val.zero, Val.agg]) rfl ⟨rfl, (Fr.refl _ _).alloc _⟩

attribute [local go_sem ↓] wp_deleteV
set_option maxRecDepth 100000 in
set_option maxHeartbeats 800000 in
theorem take_some (p : Nat) (i : Int) (rs : List (Int × Val)) (S : Nat → Prop) (w : World) (h : DenseIs w p rs S) (hi : (Lit.int .i64 i).wf = true) (k : Nat) (hp : pos rs i = some k) :
    Calls Tryz.prog 303 #[.pointer (some ⟨p, 0, none⟩), .int .i64 i] w fun e w' => e = .returned (.tuple #[(getV rs i).agg, .bool true]) ∧ DenseIs w' p (takeV rs i) S ∧ Fr S w w' := by
  have hlen := h.len
  obtain ⟨sv, bm, h1, h2, h3, h4, h5, h6, h7, h8⟩ := h
  have c1 := h1.cell 1
  have hpl := h1.lt
  have hrun := fun o => (h3.of_block (w' := w.alloc o) (Below.heap_alloc w o bm h3.lt)).look Tryz.underlying3 Tryz.underlying3 Tryz.underlying283 zero3 hi
  simp at c1
  obtain ⟨v0, hk, hkl, g1, g2⟩ := pos_some hp
  rw [g1]
  obtain ⟨g, cap, cur, rfl, hcap, _, hb, hcs, hct⟩ := own_cases h2 (by omega)
  obtain ⟨k0, k1, k2, k3⟩ := row_cells h2 hk
  obtain ⟨li, lv, hlast⟩ : ∃ li lv, rs[rs.length - 1]? = some (li, lv) := by
    rw [List.getElem?_eq_getElem (by omega)]; exact ⟨_, _, rfl⟩
  obtain ⟨j0, j1, j2, j3⟩ := row_cells h2 hlast
  have hgl := hb.lt
  have c0 := h1.cell 0
  simp at c0
  simp only [hp, Option.map_some, Option.getD_some, Option.isSome_some] at hrun
  have HD := Lib.hid (And.intro h2 (And.intro h3 (And.intro h4 (And.intro h5 (And.intro h8 (And.intro hp hk))))))
  have HL := Lib.hid hlast
  have q1 : p < w.heap.size + 1 := by omega
  have q2 : p < w.heap.size + 1 + 1 := by omega
  have q1' : g < w.heap.size + 1 := by omega
  have q2' : g < w.heap.size + 1 + 1 := by omega
  have hkn : (k : Int) < rs.length := by omega
  have hn1 : (1 : Int) ≤ rs.length := by omega
  clear h2 h3 h4 h5 h8 hp hk hct hcs hlast g1 g2
  unfold Val.agg
  go_enter Tryz.func303, Tryz.ntmps303
  go_upto_region 4 with fail
  go_cut [8, 9] (fun t8 t9 wx => ∃ b8 b9 : Nat, t8 = .pointer (some ⟨b8, 0, none⟩) ∧ t9 = .pointer (some ⟨b9, 0, none⟩) ∧ Blk wx b8 26 #[.int .i64 v0.k, .int .i64 v0.a, .int .i64 v0.b] ∧ Blk wx b9 412 #[.int .i64 li, .int .i64 lv.k, .int .i64 lv.a, .int .i64 lv.b] ∧ w.heap.size < b8 ∧ w.heap.size < b9 ∧ Fr (fun _ => False) (w.alloc (.cells #[.int .i64 0, .int .i64 0, .int .i64 0] 26)) wx)
  case first =>
    go_region
    all_goals (go_wp2_with fail; go_meet)
    · refine ⟨w.heap.size + 1, w.heap.size + 1 + 1, rfl, rfl, (Blk.alloc (blk_at (by simp)) _).drew, (blk_at (by simp)).drew, by omega, by omega, ((Fr.refl _ _).alloc _).alloc _ |>.drew⟩
    · refine ⟨w.heap.size + 1 + 1, w.heap.size + 1, rfl, rfl, (blk_at (by simp)).drew, (Blk.alloc (blk_at (by simp)) _).drew, by omega, by omega, ((Fr.refl _ _).alloc _).alloc _ |>.drew⟩
  case rest =>
    obtain ⟨b8, b9, rfl, rfl, hb8, hb9, hl8, hl9, hfr⟩ := hcut
    obtain ⟨wa, hwa⟩ : ∃ wa, wa = wc := ⟨wc, rfl⟩
    subst hwa
    obtain ⟨h2, h3, h4, h5, h8, hp, hk⟩ := HD.out
    -- the world behind the reads: wa
    have frw : Fr (fun _ => False) w wa := (Fr.alloc1 _ w _).trans hfr (fun _ h => h.elim)
    have p1 := h1.fr frw (fun h => h)
    have o1 := own_fr h2 frw (fun _ _ h => h)
    have m1 := h3.fr frw (fun h => h)
    have z1 : Blk wa w.heap.size 26 #[.int .i64 0, .int .i64 0, .int .i64 0] := (Blk.new w 26 #[.int .i64 0, .int .i64 0, .int .i64 0]).fr hfr (fun h => h)
    have x0 := p1.cell 0
    have x1 := p1.cell 1
    have y0 := hb9.cell 0
    have y1 := hb9.cell 1
    have y2 := hb9.cell 2
    have y3 := hb9.cell 3
    simp at x0 x1 y0 y1 y2 y3
    obtain ⟨r0, r1, r2, r3⟩ := row_cells o1 hk
    have f0 := o1.frozenAt (k * 4)
    have f1 := o1.frozenAt (k * 4 + 1)
    have f2 := o1.frozenAt (k * 4 + 1 + 1)
    have f3 := o1.frozenAt (k * 4 + 1 + 2)
    have hgp : g ≠ p := fun e => own_blk_ne h2 h1 (by decide) (by rw [← e]; rfl)
    have hgm : g ≠ bm := fun e => own_map_ne h2 h3 (by rw [← e]; rfl)
    have HA := Lib.hid (And.intro p1 (And.intro o1 (And.intro m1 (And.intro z1 (And.intro hb8 (And.intro hb9 frw))))))
    clear h2 h3 h4 h5 h8 hp hk p1 o1 m1 z1 hb8 hb9 frw hfr c0 c1 hrun k0 k1 k2 k3 j0 j1 j2 j3
    go_upto_region 5 with fail
    go_cut [] (fun wx => Fr (fun x => x = g) wa wx ∧ wx.ownsRow 0 412 4 (.slice (some ⟨g, 0, none⟩) rs.length cap) rs.length ((rs.set k (li, lv)).flatMap rowCells))
    case first =>
      go_region
      go_wp2_with fail
      go_meet
      obtain ⟨p1, o1, m1, z1, b8', b9', frw⟩ := HA.out
      exact ⟨(fr_setCells [.int .i64 li, .int .i64 lv.k, .int .i64 lv.a, .int .i64 lv.b] wa (k * 4)).drew, (own_set_row rowCells_len o1 hkl (li, lv)).drew⟩
    case rest =>
      obtain ⟨fr2, o2⟩ := hcut
      obtain ⟨wb, hwb⟩ : ∃ wb, wb = wc := ⟨wc, rfl⟩
      subst hwb
      obtain ⟨p1, o1, m1, z1, b8', b9', frw⟩ := HA.out
      have hb8g : b8 ≠ g := by omega
      have hb9g : b9 ≠ g := by omega
      have p2 := p1.fr fr2 (Ne.symm hgp)
      have m2 := m1.fr fr2 (Ne.symm hgm)
      have z2 := z1.fr fr2 (fun e => by omega)
      have b82 := b8'.fr fr2 hb8g
      have b92 := b9'.fr fr2 hb9g
      obtain ⟨h2, h3, h4, h5, h8, hp, hk⟩ := HD.out
      have hli : (Lit.int .i64 li).wf = true := by
        have := h5 (li, lv) (List.mem_of_getElem? HL.out)
        exact WalkArith.wf_i64 (by simp at this; omega)
      obtain ⟨wm, hst, m3, g3⟩ := (m2.of_block (w' := wb.drew) rfl).store Tryz.underlying3 Tryz.underlying3 Tryz.underlying283 (by unfold maxLen; omega) hli (v := (k : Int)) (WalkArith.wf_i64 (by omega))
      obtain ⟨wd, hdl, m4, g4⟩ := m3.drop Tryz.underlying3 Tryz.underlying283 hi 0
      change deleteV Tryz.prog 283 3 0 (.map (some bm)) (.int .i64 i) wm = _ at hdl
      have hpb : p ≠ bm := fun e => h3.ne_blk h1 e.symm
      have hbl := h3.lt
      have hbw : bm < wb.heap.size := m2.lt
      have fr3 : Fr (fun x => x = bm) wb wd := by
        refine Fr.grown (Fr.grown (Fr.refl _ wb).drew g3 ?_) g4 ?_ <;> (intro x hx; injection hx with hx; exact .inl hx.symm)
      have fr3' : Fr (fun x => x = bm) wb wm := by
        refine Fr.grown (Fr.refl _ wb).drew g3 ?_
        intro x hx; injection hx with hx; exact .inl hx.symm
      have p3' := p2.fr fr3' hpb
      have p3 := p2.fr fr3 hpb
      have o3 := own_fr o2 fr3 (fun x hx e => by injection hx with hx; exact hgm (hx.trans e))
      have z3 := z2.fr fr3 (fun e => by omega)
      have b83 := b82.fr fr3 (fun e => by omega)
      have x0 := p2.cell 1
      have x1 := p3'.cell 1
      have x2 := p3.cell 0
      have x3 := p3.frozen 0
      have y0 := b92.cell 0
      have z0 := z3.cell 0
      have z1 := z3.cell 1
      have z2 := z3.cell 2
      have zf0 := z3.frozen 0
      have zf1 := z3.frozen 1
      have zf2 := z3.frozen 2
      have v0' := b83.cell 0
      have v1' := b83.cell 1
      have v2' := b83.cell 2
      simp at x0 x1 x2 y0 z0 z1 z2 v0' v1' v2'
      have hne1 : ¬ p = w.heap.size := by omega
      have hne2 : ¬ w.heap.size = p := by omega
      have hne3 : ¬ p = b8 := by omega
      have hne4 : ¬ b8 = p := by omega
      have hne5 : ¬ b8 = w.heap.size := by omega
      have hne6 : ¬ w.heap.size = b8 := by omega
      have HB := Lib.hid (And.intro p3 (And.intro o3 (And.intro m4 (And.intro fr2 (And.intro fr3 frw)))))
      clear h2 h3 h4 h5 h8 hp hk p1 o1 m1 b8' b9' p2 m2 b82 b92 m3 m4 g3 g4 p3' p3 o3 z3 b83 fr3 fr3' fr2 o2 frw
      go_wp2
      go_region
      go_wp2
      go_region
      go_wp2
      refine bodyPost_ret (v := .tuple #[.agg #[.int .i64 v0.k, .int .i64 v0.a, .int .i64 v0.b], .bool true]) (by simp [results, Tryz.results303, go_sem, z0, z1, z2, hne1, hne2]) rfl ⟨rfl, ?_, ?_⟩
      · obtain ⟨p3, o3, m4, fr2, fr3, frw⟩ := HB.out
        obtain ⟨h2, h3, h4, h5, h8, hp, hk⟩ := HD.out
        have hd := dense_take (S := fun x => x = p ∨ x = bm ∨ x = g) p3 o3 m4 h4 h5 (.inl rfl) (.inr (.inl rfl)) (fun x hx => .inr (.inr (by injection hx with hx; exact hx.symm))) hp hk HL.out
        have hf : Fr (fun x => x = w.heap.size) (wd.setCell ⟨p, 0, none⟩ (.slice (some ⟨g, 0, none⟩) (rs.length - 1) cap)) ((((wd.setCell ⟨p, 0, none⟩ (.slice (some ⟨g, 0, none⟩) (rs.length - 1) cap)).setCell ⟨w.heap.size, 0, none⟩ (.int .i64 v0.k)).setCell ⟨w.heap.size, 1, none⟩ (.int .i64 v0.a)).setCell ⟨w.heap.size, 2, none⟩ (.int .i64 v0.b)).drew := by
          refine (Fr.setCell (Fr.setCell (Fr.setCell (Fr.refl _ _) ?_ _) ?_ _) ?_ _).drew <;> exact .inl rfl
        refine (hd.keep hf (fun x hx => by rcases hx with rfl | rfl | rfl <;> omega)).mono (fun x hx => ?_)
        rcases hx with rfl | rfl | rfl
        · exact h6
        · exact h7
        · exact h8 _ rfl
      · obtain ⟨p3, o3, m4, fr2, fr3, frw⟩ := HB.out
        obtain ⟨h2, h3, h4, h5, h8, hp, hk⟩ := HD.out
        have f1 : Fr S w wb := (frw.mono (T := S) (fun _ _ h => h.elim)).trans fr2 (fun x hx => .inl (by rw [hx]; exact h8 _ rfl))
        have f2 : Fr S w wd := f1.trans fr3 (fun x hx => .inl (by rw [hx]; exact h7))
        refine (Fr.setCell (Fr.setCell (Fr.setCell (Fr.setCell f2 ?_ _) ?_ _) ?_ _) ?_ _).drew
        · exact .inl h6
        all_goals exact .inr (Nat.le_refl _)
end Go.Proofs.YtclmjcjaebonnaaGreatDoor
