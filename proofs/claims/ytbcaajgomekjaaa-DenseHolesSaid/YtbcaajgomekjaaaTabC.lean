/-
  Contracts of the document's Table: Take.
-/
import Derived.Test.YtbcaajgomekjaaaTabB
namespace Go.Proofs.Ytbcaajgomekjaaa
open Go.RowKit Go.Maps Go.Viv

theorem takeV_facts {rs : List (Int × Val)} {i li : Int} {k : Nat} {v0 lv : Val} (h4 : (rs.map (·.1)).Nodup) (h5 : ∀ r ∈ rs, 0 ≤ r.1 ∧ r.1 < 65536) (hp : pos rs i = some k) (hk : rs[k]? = some (i, v0)) (hl : rs[rs.length - 1]? = some (li, lv)) :
    takeV rs i = (rs.set k (li, lv)).take (rs.length - 1) ∧ (takeV rs i).length = rs.length - 1 ∧ ((takeV rs i).map (·.1)).Nodup ∧ ∀ r ∈ takeV rs i, 0 ≤ r.1 ∧ r.1 < 65536 := by
  have hkl : k < rs.length := (List.getElem?_eq_some_iff.1 hk).1
  have htake : takeV rs i = (rs.set k (li, lv)).take (rs.length - 1) := by
    unfold takeV
    rw [hp]
    simp only
    rw [List.getLast?_eq_getElem?, hl]
    rfl
  have hinj : ∀ (a b : Nat) (j : Int) (u v : Val), (takeV rs i)[a]? = some (j, u) → (takeV rs i)[b]? = some (j, v) → a = b := by
    intro a b j u v ha hb'
    rw [htake] at ha hb'
    obtain ⟨l1, ha2⟩ := take_get_some hkl ha
    obtain ⟨l2, hb2⟩ := take_get_some hkl hb'
    rcases ha2 with ⟨e1, ha3⟩ | ⟨e1, ha3⟩ <;> rcases hb2 with ⟨e2, hb3⟩ | ⟨e2, hb3⟩
    · omega
    · injection ha3 with ha3 _
      subst ha3
      have := key_inj h4 hl hb3; omega
    · injection hb3 with hb3 _
      subst hb3
      have := key_inj h4 hl ha3; omega
    · exact key_inj h4 ha3 hb3
  refine ⟨htake, by rw [htake]; simp, ?_, ?_⟩
  · refine List.pairwise_iff_getElem.2 (fun a b ha hb' hab e => ?_)
    simp only [List.length_map] at ha hb'
    simp only [List.getElem_map] at e
    have := hinj a b (takeV rs i)[a].1 (takeV rs i)[a].2 (takeV rs i)[b].2 (by rw [List.getElem?_eq_getElem ha]) (by rw [List.getElem?_eq_getElem hb', e])
    omega
  · intro r hr
    obtain ⟨m, hm'⟩ := List.mem_iff_getElem?.1 hr
    rw [htake] at hm'
    obtain ⟨l1, hv⟩ := take_get_some hkl hm'
    rcases hv with ⟨e, hv⟩ | ⟨e, hv⟩
    · rw [hv]
      exact h5 _ (List.mem_of_getElem? hl)
    · exact h5 _ (List.mem_of_getElem? hv)

/-- A row that is cut shorter. -/
theorem own_cut {α : Type} {f : α → List Value} {m : Nat} (hf : ∀ x, (f x).length = m) {w : World} {base : Nat} {e : TypeId} {g cap n : Nat} {l : List α} (h : w.ownsRow base e m (.slice (some ⟨g, 0, none⟩) n cap) n (l.flatMap f)) (hl : l.length = n) {k : Nat} (hk : k ≤ n) :
    w.ownsRow base e m (.slice (some ⟨g, 0, none⟩) k cap) k ((l.take k).flatMap f) := by
  obtain ⟨a1, a2⟩ := h
  rcases a2 with ⟨h, _⟩ | ⟨g', cap', cur, hv, b1, b2, b3, b4, b5, b6⟩
  · cases h
  · injection hv with hv1 hv2 hv3
    injection hv1 with hv1
    injection hv1 with hv1
    subst hv1
    subst hv3
    have hm : k * m ≤ n * m := Nat.mul_le_mul_right m hk
    refine ⟨by rw [chunk_len f m hf, List.length_take, hl, Nat.min_eq_left hk], .inr ⟨g, cap, cur, rfl, b1, b2, by omega, b4, b5, ?_⟩⟩
    have e2 : l.flatMap f = (l.take k).flatMap f ++ (l.drop k).flatMap f := by
      rw [← List.flatMap_append, List.take_append_drop]
    have e1 : (l.take k).flatMap f = (l.flatMap f).take (k * m) := by
      rw [e2, List.take_left' (by rw [chunk_len f m hf, List.length_take, hl, Nat.min_eq_left hk])]
    rw [e1, ← b6, List.take_take, Nat.min_eq_left hm]

theorem ttake_none (p : Nat) (i : Int) (rs : List (Int × Val)) (S : Nat → Prop) (w : World) (h : TableIs w p rs S) (hp : pos rs i = none) :
    Calls Try.prog 17 #[.pointer (some ⟨p, 0, none⟩), .int .i64 i] w fun e w' => e = .returned (.tuple #[Val.zero.agg, .bool false]) ∧ Fr (fun _ => False) w w' := by
  have hfind := fun o => find_any p i rs S (w.alloc o) (h.keep (Fr.alloc1 (fun _ => False) _ _) (fun _ _ h => h))
  have HF := Lib.hid hfind
  have hpi := posI_none hp
  clear hfind hp h
  unfold Val.agg
  go_enter Try.func17, Try.ntmps17
  go_wp2_with (go_at_call 20; refine (HF.out _).mono ?_; rintro e w1 ⟨rfl, rfl⟩; rw [hpi])
  exact bodyPost_ret (v := .tuple #[.agg #[.int .i64 0, .int .i64 0, .int .i64 0], .bool false]) (by simp [results, Try.results17, go_sem]) rfl ⟨rfl, (Fr.refl _ _).alloc _⟩

set_option maxRecDepth 100000 in
set_option maxHeartbeats 800000 in
theorem ttake_some (p : Nat) (i : Int) (rs : List (Int × Val)) (S : Nat → Prop) (w : World) (h : TableIs w p rs S) (k : Nat) (hp : pos rs i = some k) :
    Calls Try.prog 17 #[.pointer (some ⟨p, 0, none⟩), .int .i64 i] w fun e w' => e = .returned (.tuple #[(getV rs i).agg, .bool true]) ∧ TableIs w' p (takeV rs i) S ∧ Fr S w w' := by
  have hlen := h.len
  have hfind := fun o => find_any p i rs S (w.alloc o) (h.keep (Fr.alloc1 (fun _ => False) _ _) (fun _ _ h => h))
  have HF := Lib.hid hfind
  have hpi := posI_some hp
  clear hfind
  obtain ⟨sv, h1, h2, h4, h5, h6, h8⟩ := h
  have hpl := h1.lt
  obtain ⟨v0, hk, hkl, g1, g2⟩ := pos_some hp
  rw [g1]
  obtain ⟨g, cap, cur, rfl, hcap, _, hb, hcs, hct⟩ := own_cases h2 (by omega)
  obtain ⟨li, lv, hlast⟩ : ∃ li lv, rs[rs.length - 1]? = some (li, lv) := by
    rw [List.getElem?_eq_getElem (by omega)]; exact ⟨_, _, rfl⟩
  obtain ⟨f1, f2, f3, f4⟩ := takeV_facts h4 h5 hp hk hlast
  have hgp : g ≠ p := fun e => own_blk_ne h2 h1 (by decide) (by rw [← e]; rfl)
  obtain ⟨k0, k1, k2, k3⟩ := row_cellsE h2 hk
  obtain ⟨j0, j1, j2, j3⟩ := row_cellsE h2 hlast
  have hgl := hb.lt
  have c0 := h1.cell 0
  simp at c0
  have cf := h1.frozen 0
  have z0 := h2.frozenAt (k * 4)
  have z1 := h2.frozenAt (k * 4 + 1)
  have z2 := h2.frozenAt (k * 4 + 1 + 1)
  have z3 := h2.frozenAt (k * 4 + 1 + 2)
  have HD := Lib.hid (And.intro h1 (And.intro h2 (And.intro f1 (And.intro f2 (And.intro f3 (And.intro f4 h8))))))
  have q1 : p < w.heap.size + 1 := by omega
  have q2 : p < w.heap.size + 1 + 1 := by omega
  have q1' : g < w.heap.size + 1 := by omega
  have q2' : g < w.heap.size + 1 + 1 := by omega
  have hkn : (k : Int) < rs.length := by omega
  have hn1 : (1 : Int) ≤ rs.length := by omega
  clear h1 h2 h4 h5 h8 hp hk hct hcs hlast g1 g2 f1 f2 f3 f4
  unfold Val.agg
  go_enter Try.func17, Try.ntmps17
  go_wp2_with (go_at_call 20; refine (HF.out _).mono ?_; rintro e w1 ⟨rfl, rfl⟩; rw [hpi])
  go_region
  go_wp2
  refine bodyPost_ret (v := .tuple #[.agg #[.int .i64 v0.k, .int .i64 v0.a, .int .i64 v0.b], .bool true]) (by simp [results, Try.results17, go_sem]) rfl ⟨rfl, ?_, ?_⟩
  · obtain ⟨h1, h2, f1, f2, f3, f4, h8⟩ := HD.out
    have o1 := own_set_row rowCells_len h2 hkl (li, lv)
    have o2 := own_cut rowCells_len o1 (by simp) (k := rs.length - 1) (by omega)
    rw [← f1] at o2
    have frg : Fr (fun x => x = g) w (setCells w g (k * 4) (rowCells (li, lv))) := fr_setCells _ _ _
    have b1 := h1.fr frg (Ne.symm hgp)
    have b2 := b1.set_ 0 (.slice (some ⟨g, 0, none⟩) (rs.length - 1) cap)
    have frp : Fr (fun x => x = p) (setCells w g (k * 4) (rowCells (li, lv))) ((setCells w g (k * 4) (rowCells (li, lv))).setCell ⟨p, 0, none⟩ (.slice (some ⟨g, 0, none⟩) (rs.length - 1) cap)) := by
      refine Fr.setCell (Fr.refl _ _) ?_ _; exact .inl rfl
    have o3 := own_fr o2 frp (fun x hx e => by injection hx with hx; exact hgp (hx.trans e))
    have ht : TableIs ((setCells w g (k * 4) (rowCells (li, lv))).setCell ⟨p, 0, none⟩ (.slice (some ⟨g, 0, none⟩) (rs.length - 1) cap)) p (takeV rs i) S :=
      ⟨.slice (some ⟨g, 0, none⟩) (rs.length - 1) cap, by simpa using b2, by rw [f2]; exact o3, f3, f4, h6, fun x hx => h8 x hx⟩
    exact ht.keep (T := fun _ => False) (((Fr.alloc1 _ _ _).alloc _).drew) (fun _ _ h => h)
  · obtain ⟨h1, h2, f1, f2, f3, f4, h8⟩ := HD.out
    have frg : Fr S w (setCells w g (k * 4) (rowCells (li, lv))) := (fr_setCells _ _ _).mono (fun x _ hx => by rw [hx]; exact h8 g rfl)
    exact (((frg.setCell (p := ⟨p, 0, none⟩) (.inl h6) _).alloc _).alloc _).drew

theorem ttake_any (p : Nat) (i : Int) (rs : List (Int × Val)) (S : Nat → Prop) (w : World) (h : TableIs w p rs S) :
    Calls Try.prog 17 #[.pointer (some ⟨p, 0, none⟩), .int .i64 i] w fun e w' => e = .returned (.tuple #[(getV rs i).agg, .bool (hasV rs i)]) ∧ TableIs w' p (takeV rs i) S ∧ Fr S w w' := by
  cases hp : pos rs i with
  | none =>
    obtain ⟨g1, g2, _⟩ := pos_none hp
    rw [g1, g2, takeV, hp]
    exact (ttake_none p i rs S w h hp).mono fun e w' ⟨he, hf⟩ => ⟨he, h.keep hf (fun _ _ h => h), hf.mono (fun _ _ h => h.elim)⟩
  | some k =>
    obtain ⟨v, hk, hkl, g1, g2⟩ := pos_some hp
    rw [g2]
    exact ttake_some p i rs S w h k hp
end Go.Proofs.Ytbcaajgomekjaaa
