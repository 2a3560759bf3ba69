/-
  The laws of package dense, walked: awake and DenseBounds.
-/
import Derived.Test.YtbcaajgomekjaaaDenD
import Derived.Laws.Bits128
namespace Go.Proofs.Ytbcaajgomekjaaa
open Go.RowKit Go.Maps Go.Viv

theorem wf64 {x : Int} (h : -9223372036854775808 ≤ x) (h' : x ≤ 9223372036854775807) : (Lit.int .i64 x).wf = true := WalkArith.wf_i64 (by omega)
theorem fr_no {w w1 w2 : World} (h1 : Fr (fun _ => False) w w1) (h2 : Fr (fun _ => False) w1 w2) : Fr (fun _ => False) w w2 := h1.trans h2 (fun _ h => h.elim)
theorem not_ext {S : Nat → Prop} {w w' : World} {L : Nat} (h : ¬ S L) (hl : L < w.heap.size) : ¬ Ext S w w' L := fun hh => by
  rcases hh with hh | hh
  · exact h hh
  · omega

/-- A Dense that was made since w0, in w. -/
structure Own (w0 w : World) (p : Nat) (rs : List (Int × Val)) (S : Nat → Prop) : Prop where
  is : DenseIs w p rs S
  fr : Fr (fun _ => False) w0 w
  up : ∀ k, S k → w0.heap.size ≤ k
  lt : ∀ k, S k → k < w.heap.size

/-- Every footprint lies within the heap. -/
theorem ext_lt {S : Nat → Prop} {w w' : World} (h : ∀ k, S k → k < w.heap.size) (hs : w.heap.size ≤ w'.heap.size) : ∀ k, Ext S w w' k → k < w'.heap.size := fun k hk => by
  rcases hk with hk | hk
  · have := h k hk; omega
  · exact hk.2
theorem Own.step {w0 w w' : World} {p : Nat} {rs rs' : List (Int × Val)} {S : Nat → Prop} (h : Own w0 w p rs S) (hd : DenseIs w' p rs' (Ext S w w')) (hf : Fr S w w') : Own w0 w' p rs' (Ext S w w') :=
  ⟨hd, h.fr.trans hf (fun k hk => .inr (h.up k hk)), fun k hk => by
    rcases hk with hk | hk
    · exact h.up k hk
    · exact Nat.le_trans h.fr.size hk.1, ext_lt h.lt hf.size⟩
theorem Own.still {w0 w w' : World} {p : Nat} {rs : List (Int × Val)} {S : Nat → Prop} (h : Own w0 w p rs S) (hf : Fr (fun _ => False) w w') : Own w0 w' p rs S :=
  ⟨h.is.keep hf (fun _ _ h => h), fr_no h.fr hf, h.up, fun k hk => Nat.lt_of_lt_of_le (h.lt k hk) hf.size⟩
theorem Own.alloc {w0 w : World} {p : Nat} {rs : List (Int × Val)} {S : Nat → Prop} (h : Own w0 w p rs S) (o : Obj) : Own w0 (w.alloc o) p rs S := h.still (Fr.alloc1 _ _ _)

theorem new_own (w0 w : World) (h0 : Fr (fun _ => False) w0 w) :
    Calls Try.prog 7 #[] w fun e w' => ∃ p S, e = .returned (.pointer (some ⟨p, 0, none⟩)) ∧ Own w0 w' p [] S ∧ (∀ k, S k → w.heap.size ≤ k) ∧ Fr (fun _ => False) w w' :=
  (new_any w).mono fun e w' ⟨p, he, hd, hf⟩ => ⟨p, _, he, ⟨hd, fr_no h0 hf, fun k hk => Nat.le_trans h0.size hk.1, fun k hk => hk.2⟩, fun k hk => hk.1, hf⟩
theorem put_own {w0 w : World} {p : Nat} {rs : List (Int × Val)} {S : Nat → Prop} (h : Own w0 w p rs S) (i : Int) (v : Val) (hi : (Lit.int .i64 i).wf = true) :
    Calls Try.prog 8 #[.pointer (some ⟨p, 0, none⟩), .int .i64 i, v.agg] w fun e w' => e = .returned (.tuple #[(getV rs i).agg, .bool (hasV rs i)]) ∧ Own w0 w' p (putV rs i v) (Ext S w w') ∧ Fr S w w' :=
  (put_any p i v rs S w h.is hi).mono fun e w' ⟨he, hd, hf⟩ => ⟨he, h.step hd hf, hf⟩
theorem take_any (p : Nat) (i : Int) (rs : List (Int × Val)) (S : Nat → Prop) (w : World) (h : DenseIs w p rs S) (hi : (Lit.int .i64 i).wf = true) :
    Calls Try.prog 12 #[.pointer (some ⟨p, 0, none⟩), .int .i64 i] w fun e w' => e = .returned (.tuple #[(getV rs i).agg, .bool (hasV rs i)]) ∧ DenseIs w' p (takeV rs i) S ∧ Fr S w w' := by
  cases hp : pos rs i with
  | none =>
    obtain ⟨g1, g2, _⟩ := pos_none hp
    rw [g1, g2, takeV, hp]
    exact (take_none p i rs S w h hi hp).mono fun e w' ⟨he, hf⟩ => ⟨he, h.keep hf (fun _ _ h => h), hf.mono (fun _ _ h => h.elim)⟩
  | some k =>
    obtain ⟨v, hk, hkl, g1, g2⟩ := pos_some hp
    rw [g2]
    exact take_some p i rs S w h hi k hp
theorem take_own {w0 w : World} {p : Nat} {rs : List (Int × Val)} {S : Nat → Prop} (h : Own w0 w p rs S) (i : Int) (hi : (Lit.int .i64 i).wf = true) :
    Calls Try.prog 12 #[.pointer (some ⟨p, 0, none⟩), .int .i64 i] w fun e w' => e = .returned (.tuple #[(getV rs i).agg, .bool (hasV rs i)]) ∧ Own w0 w' p (takeV rs i) S ∧ Fr S w w' :=
  (take_any p i rs S w h.is hi).mono fun e w' ⟨he, hd, hf⟩ => ⟨he, ⟨hd, h.fr.trans hf (fun k hk => .inr (h.up k hk)), h.up, fun k hk => Nat.lt_of_lt_of_le (h.lt k hk) hf.size⟩, hf⟩
theorem get_own {w0 w : World} {p : Nat} {rs : List (Int × Val)} {S : Nat → Prop} (h : Own w0 w p rs S) (i : Int) (hi : (Lit.int .i64 i).wf = true) :
    Calls Try.prog 9 #[.pointer (some ⟨p, 0, none⟩), .int .i64 i] w fun e w' => e = .returned (.tuple #[(getV rs i).agg, .bool (hasV rs i)]) ∧ Own w0 w' p rs S ∧ Fr (fun _ => False) w w' :=
  (get_any p i rs S w h.is hi).mono fun e w' ⟨he, hf⟩ => ⟨he, h.still hf, hf⟩
theorem len_own {w0 w : World} {p : Nat} {rs : List (Int × Val)} {S : Nat → Prop} (h : Own w0 w p rs S) :
    Calls Try.prog 10 #[.pointer (some ⟨p, 0, none⟩)] w fun e w' => e = .returned (.int .i64 rs.length) ∧ w = w' := len_any p rs S w h.is
theorem row_own {w0 w : World} {p : Nat} {rs : List (Int × Val)} {S : Nat → Prop} (h : Own w0 w p rs S) (k : Int) :
    Calls Try.prog 14 #[.pointer (some ⟨p, 0, none⟩), .int .i64 k] w fun e w' => e = .returned (.tuple #[.int .i64 (((rowI rs k).map (·.1)).getD 0), (((rowI rs k).map (·.2)).getD Val.zero).agg, .bool (rowI rs k).isSome]) ∧ Own w0 w' p rs S ∧ Fr (fun _ => False) w w' :=
  (row_any p k rs S w h.is).mono fun e w' ⟨he, hf⟩ => ⟨he, h.still hf, hf⟩

theorem awake_any (w : World) : Calls Try.prog 11 #[] w fun e w' => e = .returned (.bool true) ∧ Fr (fun _ => False) w w' := by
  go_enter Try.func11, Try.ntmps11
  go_wp2_with fail
  refine (new_own w _ (Fr.refl _ _)).mono ?_
  rintro e w1 ⟨p, S1, rfl, h1, _, _⟩
  go_wp2_with fail
  refine (put_own h1 5 ⟨1, 7, 0⟩ (by decide)).mono ?_
  rintro e w2 ⟨rfl, h2, _⟩
  go_wp2_with fail
  refine (get_own h2 5 (by decide)).mono ?_
  rintro e w3 ⟨rfl, h3, _⟩
  have e1 : putV [] 5 ⟨1, 7, 0⟩ = [(5, ⟨1, 7, 0⟩)] := rfl
  have e2 : getV [(5, (⟨1, 7, 0⟩ : Val))] 5 = ⟨1, 7, 0⟩ := rfl
  have e3 : hasV [(5, (⟨1, 7, 0⟩ : Val))] 5 = true := rfl
  rw [e1] at h3
  rw [e1, e2, e3]
  clear e1 e2 e3
  unfold Val.agg
  go_wp2_with (go_at_call 10; refine (len_own (h3.alloc _)).mono ?_; rintro e w4 ⟨rfl, rfl⟩)
  go_ret
  exact ⟨rfl, h3.fr.alloc _⟩

theorem i64_and7 (n : Int) : bits .and .i64 n 7 = n % 8 := by
  have h7 : (BitVec.ofInt 64 7).toNat = 2 ^ 3 - 1 := by decide
  have key : (BitVec.ofInt 64 n &&& BitVec.ofInt 64 7).toNat = (n % ((2 ^ 64 : Nat) : Int)).toNat % 2 ^ 3 := by
    rw [BitVec.toNat_and, BitVec.toNat_ofInt, h7, Nat.and_two_pow_sub_one_eq_mod]
  show IntKind.i64.wrap ((BitVec.ofInt 64 n &&& BitVec.ofInt 64 7).toNat : Nat) = n % 8
  rw [key, IntKind.wrap_i64]
  omega
theorem and7 (k : Int) : ∃ m : Int, bits .and .i64 k 7 = m ∧ 0 ≤ m ∧ m ≤ 7 := ⟨k % 8, i64_and7 k, by omega, by omega⟩

set_option maxHeartbeats 400000 in
theorem bounds_any (k : Int) (v : Val) (w : World) : Calls Try.prog 3 #[.int .i64 k, v.agg] w fun e w' => e = .returned (.bool true) ∧ Fr (fun _ => False) w w' := by
  obtain ⟨m, hm, hm0, hm7⟩ := and7 k
  by_cases hc : m - 3 ≤ 0
  · unfold Val.agg
    go_enter Try.func3, Try.ntmps3
    go_wp2_with fail
    refine (new_own w _ (Fr.alloc1 _ _ _)).mono ?_
    rintro e w1 ⟨p, S1, rfl, h1, hu, hf1⟩
    have hs1 := hf1.size
    simp at hs1
    have c0 : w1.cell? ⟨w.heap.size, 0, none⟩ = some (.int .i64 v.k) := (hf1.cell (by simp) (fun h => h)).trans (by simp)
    have c1 : w1.cell? ⟨w.heap.size, 1, none⟩ = some (.int .i64 v.a) := (hf1.cell (by simp) (fun h => h)).trans (by simp)
    have c2 : w1.cell? ⟨w.heap.size, 2, none⟩ = some (.int .i64 v.b) := (hf1.cell (by simp) (fun h => h)).trans (by simp)
    have hn : ¬ S1 w.heap.size := fun h => by have := hu _ h; simp at this; omega
    clear hf1 hu
    go_wp2_with fail
    refine (put_own h1 _ v (wf64 (by omega) (by omega))).mono ?_
    rintro e w2 ⟨rfl, h2, hf2⟩
    have d0 := (hf2.cell (p := ⟨w.heap.size, 0, none⟩) (by simp; omega) hn).trans c0
    have d1 := (hf2.cell (p := ⟨w.heap.size, 1, none⟩) (by simp; omega) hn).trans c1
    have d2 := (hf2.cell (p := ⟨w.heap.size, 2, none⟩) (by simp; omega) hn).trans c2
    clear hf2 c0 c1 c2
    go_wp2_with fail
    refine (put_own h2 _ v (wf64 (by omega) (by omega))).mono ?_
    rintro e w3 ⟨rfl, h3, _⟩
    have e1 : putV (putV [] (65535 + (m - 3)) v) (-(m - 3)) v = [(65535 + (m - 3), v), (-(m - 3), v)] := by
      have n1 : ¬ (65535 + (m - 3) < 0 ∨ 65536 ≤ 65535 + (m - 3)) := by omega
      have n2 : ¬ (-(m - 3) < 0 ∨ 65536 ≤ -(m - 3)) := by omega
      have n3 : (65535 + (m - 3) == -(m - 3)) = false := by simp; omega
      unfold putV
      rw [if_neg n1, if_neg n2]
      simp [pos, List.findIdx?_cons, n3]
    rw [e1] at h3
    clear e1
    go_wp2_with fail
    refine (get_own h3 _ (wf64 (by omega) (by omega))).mono ?_
    rintro e w4 ⟨rfl, h4, _⟩
    have g1 : hasV [(65535 + (m - 3), v), (-(m - 3), v)] (65535 + (m - 3)) = true := by simp [hasV]
    rw [g1]
    clear g1
    unfold Val.agg
    go_wp2_with fail
    refine (get_own (h4.alloc _) _ (wf64 (by omega) (by omega))).mono ?_
    rintro e w5 ⟨rfl, h5, _⟩
    have g1 : hasV [(65535 + (m - 3), v), (-(m - 3), v)] (-(m - 3)) = true := by simp [hasV, List.find?_cons]; split <;> rfl
    rw [g1]
    clear g1
    unfold Val.agg
    go_wp2_with (first
      | (go_at_call 10; refine (len_own (h5.alloc _)).mono ?_; rintro e w6 ⟨rfl, rfl⟩)
      | (go_at_call 11; refine (awake_any _).mono ?_; rintro e w7 ⟨rfl, hf7⟩))
    go_ret
    exact ⟨rfl, fr_no (h5.fr.alloc _) hf7⟩
  · have hdc : decide (m - 3 ≤ 0) = false := decide_eq_false hc
    unfold Val.agg
    go_enter Try.func3, Try.ntmps3
    go_wp2_with fail
    refine (new_own w _ (Fr.alloc1 _ _ _)).mono ?_
    rintro e w1 ⟨p, S1, rfl, h1, hu, hf1⟩
    have hs1 := hf1.size
    simp at hs1
    have c0 : w1.cell? ⟨w.heap.size, 0, none⟩ = some (.int .i64 v.k) := (hf1.cell (by simp) (fun h => h)).trans (by simp)
    have c1 : w1.cell? ⟨w.heap.size, 1, none⟩ = some (.int .i64 v.a) := (hf1.cell (by simp) (fun h => h)).trans (by simp)
    have c2 : w1.cell? ⟨w.heap.size, 2, none⟩ = some (.int .i64 v.b) := (hf1.cell (by simp) (fun h => h)).trans (by simp)
    have hn : ¬ S1 w.heap.size := fun h => by have := hu _ h; simp at this; omega
    clear hf1 hu
    go_wp2_with fail
    refine (put_own h1 _ v (wf64 (by omega) (by omega))).mono ?_
    rintro e w2 ⟨rfl, h2, hf2⟩
    have d0 := (hf2.cell (p := ⟨w.heap.size, 0, none⟩) (by simp; omega) hn).trans c0
    have d1 := (hf2.cell (p := ⟨w.heap.size, 1, none⟩) (by simp; omega) hn).trans c1
    have d2 := (hf2.cell (p := ⟨w.heap.size, 2, none⟩) (by simp; omega) hn).trans c2
    clear hf2 c0 c1 c2
    go_wp2_with fail
    refine (put_own h2 _ v (wf64 (by omega) (by omega))).mono ?_
    rintro e w3 ⟨rfl, h3, _⟩
    have e1 : putV (putV [] (65535 + (m - 3)) v) (-(m - 3)) v = [] := by
      unfold putV
      rw [if_pos (.inl (by omega)), if_pos (.inr (by omega))]
    rw [e1] at h3
    clear e1
    have g1 : ∀ i, hasV [] i = false := fun i => rfl
    go_wp2_with fail
    refine (get_own h3 _ (wf64 (by omega) (by omega))).mono ?_
    rintro e w4 ⟨rfl, h4, _⟩
    unfold Val.agg
    go_wp2_with fail
    refine (get_own (h4.alloc _) _ (wf64 (by omega) (by omega))).mono ?_
    rintro e w5 ⟨rfl, h5, _⟩
    unfold Val.agg
    go_wp2_with (first
      | (go_at_call 10; refine (len_own (h5.alloc _)).mono ?_; rintro e w6 ⟨rfl, rfl⟩)
      | (go_at_call 11; refine (awake_any _).mono ?_; rintro e w7 ⟨rfl, hf7⟩))
    go_ret
    exact ⟨rfl, fr_no (h5.fr.alloc _) hf7⟩
end Go.Proofs.Ytbcaajgomekjaaa
