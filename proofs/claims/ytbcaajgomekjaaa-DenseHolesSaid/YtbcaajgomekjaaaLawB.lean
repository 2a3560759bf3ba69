/-
  The laws of package dense, walked: DenseBack.
-/
import Derived.Test.YtbcaajgomekjaaaLawA
import Derived.Laws.BitsAllLaws
import Derived.Laws.BitsLemmas
namespace Go.Proofs.Ytbcaajgomekjaaa
open Go.RowKit Go.Maps Go.Viv

/-- A local value that lies in a block of its own, outside S. -/
structure Loc (w : World) (S : Nat → Prop) (L : Nat) (v : Val) : Prop where
  blk : Blk w L 23 #[.int .i64 v.k, .int .i64 v.a, .int .i64 v.b]
  out : ¬ S L
theorem Loc.step {w w' : World} {S : Nat → Prop} {L : Nat} {v : Val} (h : Loc w S L v) (hf : Fr S w w') : Loc w' (Ext S w w') L v := ⟨h.blk.fr hf h.out, not_ext h.out h.blk.lt⟩
theorem Loc.stay {w w' : World} {S : Nat → Prop} {L : Nat} {v : Val} (h : Loc w S L v) (hf : Fr S w w') : Loc w' S L v := ⟨h.blk.fr hf h.out, h.out⟩
theorem Loc.still {w w' : World} {S : Nat → Prop} {L : Nat} {v : Val} (h : Loc w S L v) (hf : Fr (fun _ => False) w w') : Loc w' S L v := ⟨h.blk.fr hf (fun h => h), h.out⟩
theorem Loc.alloc {w : World} {S : Nat → Prop} {L : Nat} {v : Val} (h : Loc w S L v) (o : Obj) : Loc (w.alloc o) S L v := ⟨h.blk.alloc o, h.out⟩
theorem Loc.cells {w : World} {S : Nat → Prop} {L : Nat} {v : Val} (h : Loc w S L v) : w.cell? ⟨L, 0, none⟩ = some (.int .i64 v.k) ∧ w.cell? ⟨L, 1, none⟩ = some (.int .i64 v.a) ∧ w.cell? ⟨L, 2, none⟩ = some (.int .i64 v.b) :=
  ⟨by rw [h.blk.cell]; rfl, by rw [h.blk.cell]; rfl, by rw [h.blk.cell]; rfl⟩
theorem i64_andffff (n : Int) : bits .and .i64 n 65535 = n % 65536 := by
  have h7 : (BitVec.ofInt 64 65535).toNat = 2 ^ 16 - 1 := by decide
  have key : (BitVec.ofInt 64 n &&& BitVec.ofInt 64 65535).toNat = (n % ((2 ^ 64 : Nat) : Int)).toNat % 2 ^ 16 := by
    rw [BitVec.toNat_and, BitVec.toNat_ofInt, h7, Nat.and_two_pow_sub_one_eq_mod]
  show IntKind.i64.wrap ((BitVec.ofInt 64 n &&& BitVec.ofInt 64 65535).toNat : Nat) = n % 65536
  rw [key, IntKind.wrap_i64]
  omega
theorem andffff (k : Int) : ∃ m : Int, bits .and .i64 k 65535 = m ∧ 0 ≤ m ∧ m ≤ 65535 := ⟨k % 65536, i64_andffff k, by omega, by omega⟩
theorem ofInt_i64 (a : Nat) (ha : a < 9223372036854775808) : (BitVec.ofInt 64 (a : Int)).toNat = a := by
  rw [BitVec.ofInt_natCast, BitVec.toNat_ofNat]; exact Nat.mod_eq_of_lt (by omega)
theorem xor1 (k : Int) (h0 : 0 ≤ k) (h1 : k ≤ 65535) : ∃ m : Int, bits .xor .i64 k 1 = m ∧ 0 ≤ m ∧ m ≤ 65535 ∧ m ≠ k := by
  obtain ⟨a, rfl⟩ : ∃ a : Nat, k = a := ⟨k.toNat, by omega⟩
  have hx : a ^^^ 1 < 2 ^ 16 := Nat.xor_lt_two_pow (by omega) (by omega)
  refine ⟨((a ^^^ 1 : Nat) : Int), ?_, by omega, by omega, ?_⟩
  · show IntKind.i64.wrap ((BitVec.ofInt 64 (a : Int) ^^^ BitVec.ofInt 64 ((1 : Nat) : Int)).toNat : Int) = _
    rw [BitVec.toNat_xor, ofInt_i64 a (by omega), ofInt_i64 1 (by omega), IntKind.wrap_i64]
    omega
  · intro e
    have e' : a ^^^ 1 = a := by omega
    have : a ^^^ (a ^^^ 1) = a ^^^ a := by rw [e']
    rw [← Nat.xor_assoc, Nat.xor_self, Nat.zero_xor] at this
    omega

set_option maxRecDepth 100000 in
set_option maxHeartbeats 1000000 in
theorem back_any (i k : Int) (a b c : Val) (w : World) : Calls Try.prog 4 #[.int .i64 i, .int .i64 k, a.agg, b.agg, c.agg] w fun e w' => e = .returned (.bool true) ∧ Fr (fun _ => False) w w' := by
  obtain ⟨ii, hi, hi0, hi1⟩ := andffff i
  obtain ⟨k0, hk, hk0, hk1⟩ := andffff k
  have hcase : ∃ kk : Int, ((ii == k0) = true ∧ bits .xor .i64 ii 1 = kk ∨ (ii == k0) = false ∧ kk = k0) ∧ 0 ≤ kk ∧ kk ≤ 65535 ∧ ¬ kk = ii := by
    by_cases h : ii = k0
    · obtain ⟨m, h1, h2, h3, h4⟩ := xor1 ii hi0 hi1
      exact ⟨m, .inl ⟨by simpa using h, h1⟩, h2, h3, h4⟩
    · exact ⟨k0, .inr ⟨by simpa using h, rfl⟩, hk0, hk1, fun e => h e.symm⟩
  obtain ⟨kk, hcase, hq0, hq1, hne⟩ := hcase
  have hbe : (ii == kk) = false := by simp; exact fun e => hne e.symm
  have hbe' : (kk == ii) = false := by simpa using hne
  -- what the calls come to
  have o1 : ¬ (ii < 0 ∨ 65536 ≤ ii) := by omega
  have o2 : ¬ (kk < 0 ∨ 65536 ≤ kk) := by omega
  have E1 := Lib.hid (show putV [] ii a = [(ii, a)] by unfold putV; rw [if_neg o1]; rfl)
  have E2 := Lib.hid (show putV [(ii, a)] kk b = [(ii, a), (kk, b)] by unfold putV; rw [if_neg o2]; simp [pos, List.findIdx?_cons, hbe])
  have E3 := Lib.hid (show putV [(ii, a), (kk, b)] ii c = [(ii, c), (kk, b)] by unfold putV; rw [if_neg o1]; simp [pos, List.findIdx?_cons])
  have E4 := Lib.hid (show takeV [(ii, c), (kk, b)] ii = [(kk, b)] by unfold takeV; simp [pos, List.findIdx?_cons])
  have E5 := Lib.hid (show takeV [(kk, b)] ii = [(kk, b)] by unfold takeV; simp [pos, List.findIdx?_cons, hbe'])
  have G1 := Lib.hid (show hasV [] ii = false by rfl)
  have G2 := Lib.hid (show hasV [(ii, a)] kk = false by simp [hasV, List.find?_cons, hbe])
  have G3 := Lib.hid (show hasV [(ii, a), (kk, b)] ii = true ∧ getV [(ii, a), (kk, b)] ii = a by simp [hasV, getV, List.find?_cons])
  have G4 := Lib.hid (show hasV [(ii, c), (kk, b)] ii = true ∧ getV [(ii, c), (kk, b)] ii = c by simp [hasV, getV, List.find?_cons])
  have G5 := Lib.hid (show hasV [(kk, b)] ii = false by simp [hasV, List.find?_cons, hbe'])
  have G6 := Lib.hid (show hasV [(kk, b)] kk = true ∧ getV [(kk, b)] kk = b by simp [hasV, getV, List.find?_cons])
  clear o1 o2 hbe hbe' hne
  have wi : (Lit.int .i64 ii).wf = true := wf64 (by omega) (by omega)
  have wk : (Lit.int .i64 kk).wf = true := wf64 (by omega) (by omega)
  have ag : ∀ v : Val, v.agg = Value.agg #[.int .i64 v.k, .int .i64 v.a, .int .i64 v.b] := fun _ => rfl
  have AG := Lib.hid ag
  clear ag
  rw [AG.out a, AG.out b, AG.out c]
  rcases hcase with ⟨hc1, hc2⟩ | ⟨hc1, rfl⟩
  all_goals
    go_enter Try.func4, Try.ntmps4
    go_wp2_with fail
    refine (new_own w _ (((Fr.refl _ _).alloc _).alloc _ |>.alloc _)).mono ?_
    rintro e w1 ⟨p, S1, rfl, h1, hu, hf1⟩
    simp at hu
    have la : Loc w1 S1 w.heap.size a := ⟨((Blk.new w 23 _).alloc _ |>.alloc _).fr hf1 (fun h => h), fun h => by have := hu _ h; omega⟩
    have lb : Loc w1 S1 (w.heap.size + 1) b := ⟨((blk_at (W := w.alloc _) (by simp)).alloc _).fr hf1 (fun h => h), fun h => by have := hu _ h; omega⟩
    have lc : Loc w1 S1 (w.heap.size + 1 + 1) c := ⟨(blk_at (W := (w.alloc _).alloc _) (by simp)).fr hf1 (fun h => h), fun h => by have := hu _ h; omega⟩
    clear hf1 hu
    obtain ⟨c0, c1, c2⟩ := la.cells
    go_wp2_with fail
    refine (put_own h1 ii a wi).mono ?_
    rintro e w2 ⟨rfl, h2, hf2⟩
    rw [G1.out, AG.out]
    rw [E1.out] at h2
    replace la := la.step hf2
    replace lb := lb.step hf2
    replace lc := lc.step hf2
    clear hf2 c0 c1 c2 h1
    obtain ⟨c0, c1, c2⟩ := lb.cells
    have l2 := lb.blk.lt
    go_wp2_with fail
    refine (put_own (h2.alloc _) kk b wk).mono ?_
    rintro e w3 ⟨rfl, h3, hf3⟩
    rw [G2.out, AG.out]
    rw [E2.out] at h3
    replace la := (la.alloc _).step hf3
    replace lb := (lb.alloc _).step hf3
    replace lc := (lc.alloc _).step hf3
    clear hf3 c0 c1 c2 h2 l2
    obtain ⟨c0, c1, c2⟩ := lc.cells
    have l3 := lc.blk.lt
    go_wp2_with fail
    refine (put_own (h3.alloc _) ii c wi).mono ?_
    rintro e w4 ⟨rfl, h4, hf4⟩
    rw [G3.out.1, G3.out.2, AG.out]
    rw [E3.out] at h4
    replace la := (la.alloc _).step hf4
    replace lb := (lb.alloc _).step hf4
    replace lc := (lc.alloc _).step hf4
    clear hf4 c0 c1 c2 h3 l3
    go_wp2_with fail
    have lo : Loc (w4.alloc (.cells #[.int .i64 a.k, .int .i64 a.a, .int .i64 a.b] 23)) _ w4.heap.size a := ⟨Blk.new _ _ _, fun h => by have := h4.lt _ h; omega⟩
    refine (take_own (h4.alloc _) ii wi).mono ?_
    rintro e w5 ⟨rfl, h5, hf5⟩
    rw [G4.out.1, G4.out.2, AG.out]
    rw [E4.out] at h5
    replace la := (la.alloc _).stay hf5
    replace lb := (lb.alloc _).stay hf5
    replace lc := (lc.alloc _).stay hf5
    replace lo := lo.stay hf5
    clear hf5 h4
    go_wp2_with fail
    have lv : Loc (w5.alloc (.cells #[.int .i64 c.k, .int .i64 c.a, .int .i64 c.b] 23)) _ w5.heap.size c := ⟨Blk.new _ _ _, fun h => by have := h5.lt _ h; omega⟩
    refine (get_own (h5.alloc _) ii wi).mono ?_
    rintro e w6 ⟨rfl, h6, hf6⟩
    rw [G5.out, AG.out]
    replace la := (la.alloc _).still hf6
    replace lb := (lb.alloc _).still hf6
    replace lc := (lc.alloc _).still hf6
    replace lo := (lo.alloc _).still hf6
    replace lv := lv.still hf6
    clear hf6 h5
    go_wp2_with fail
    refine (get_own (h6.alloc _) kk wk).mono ?_
    rintro e w7 ⟨rfl, h7, hf7⟩
    rw [G6.out.1, G6.out.2, AG.out]
    replace la := (la.alloc _).still hf7
    replace lb := (lb.alloc _).still hf7
    replace lc := (lc.alloc _).still hf7
    replace lo := (lo.alloc _).still hf7
    replace lv := (lv.alloc _).still hf7
    clear hf7 h6
    go_wp2_with fail
    have lu : Loc (w7.alloc (.cells #[.int .i64 b.k, .int .i64 b.a, .int .i64 b.b] 23)) _ w7.heap.size b := ⟨Blk.new _ _ _, fun h => by have := h7.lt _ h; omega⟩
    refine (take_own (h7.alloc _) ii wi).mono ?_
    rintro e w8 ⟨rfl, h8, hf8⟩
    rw [G5.out, AG.out]
    rw [E5.out] at h8
    replace la := (la.alloc _).stay hf8
    replace lb := (lb.alloc _).stay hf8
    replace lc := (lc.alloc _).stay hf8
    replace lo := (lo.alloc _).stay hf8
    replace lv := (lv.alloc _).stay hf8
    replace lu := lu.stay hf8
    clear hf8 h7
    obtain ⟨a0, a1, a2⟩ := la.cells
    obtain ⟨b0, b1, b2⟩ := lb.cells
    obtain ⟨c0, c1, c2⟩ := lc.cells
    obtain ⟨d0, d1, d2⟩ := lo.cells
    obtain ⟨e0, e1, e2⟩ := lv.cells
    obtain ⟨f0, f1, f2⟩ := lu.cells
    have q1 := la.blk.lt
    have q2 := lb.blk.lt
    have q3 := lc.blk.lt
    have q4 := lo.blk.lt
    have q5 := lv.blk.lt
    have q6 := lu.blk.lt
    clear la lb lc lo lv lu E1 E2 E3 E4 E5 G1 G2 G3 G4 G5 G6
    go_wp2_with (first
      | (go_at_call 10; refine (len_own (h8.alloc _)).mono ?_; rintro e w9 ⟨rfl, rfl⟩)
      | (go_at_call 11; refine (awake_any _).mono ?_; rintro e w9 ⟨rfl, hf9⟩))
    go_ret
    exact ⟨rfl, fr_no (h8.fr.alloc _) hf9⟩
end Go.Proofs.Ytbcaajgomekjaaa
