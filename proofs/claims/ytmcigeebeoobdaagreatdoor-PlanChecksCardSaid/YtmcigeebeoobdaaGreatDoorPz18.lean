/-
  Several texts in one. Contracts of package hibit: least, Next.
-/
import Derived.Test.YtmcigeebeoobdaaGreatDoorPz17
import Derived.Test.YtmcigeebeoobdaaGreatDoorPz13
import Derived.Test.YtmcigeebeoobdaaGreatDoorPz16
import Derived.Laws.BitsAllLaws
section
namespace Go.Viv
open Go.RowKit
theorem tree_may {w : World} {p : Nat} {l : List Nat} {S : Nat → Prop} {nb : Nat → Nat → Option Nat} (h : Tree w p l S nb) {L a b word : Nat} {kid : Nat → Option Nat} (hb : nb L a = some b) (hn : NodeC w b word kid) : ∀ i ∈ l, a * 64 ^ (L + 1) ≤ i → i < a * 64 ^ (L + 1) + 64 * 64 ^ L → word.testBit ((i - a * 64 ^ (L + 1)) / 64 ^ L) = true := by
  intro i hi h1 h2
  obtain ⟨_, word', _, hn', hbit⟩ := h.node _ _ _ hb
  obtain rfl := hn.word_eq hn'
  have hS : 0 < 64 ^ L := Nat.pow_pos (by decide)
  have hd : (i - a * 64 ^ (L + 1)) / 64 ^ L < 64 := Nat.div_lt_of_lt_mul (by rw [Nat.mul_comm (64 ^ L) 64]; omega)
  have e : i / 64 ^ L = a * 64 + (i - a * 64 ^ (L + 1)) / 64 ^ L := by
    have e1 : i = (i - a * 64 ^ (L + 1)) + 64 ^ L * (a * 64) := by
      have : a * 64 ^ (L + 1) = 64 ^ L * (a * 64) := by rw [Nat.pow_succ, Nat.mul_comm (64 ^ L) 64, ← Nat.mul_assoc, Nat.mul_comm (a * 64) (64 ^ L)]
      omega
    conv => lhs; rw [e1]
    rw [Nat.add_mul_div_left _ _ hS, Nat.add_comm]
  rw [hbit _ hd]
  cases L with
  | zero =>
    show decide (a * 64 + (i - a * 64 ^ (0 + 1)) / 64 ^ 0 ∈ l) = true
    rw [← e]
    simpa using hi
  | succ M =>
    show (nb M (a * 64 + (i - a * 64 ^ (M + 1 + 1)) / 64 ^ (M + 1))).isSome = true
    rw [← e]
    obtain ⟨c, hc⟩ := h.path hi M (by have := h.high _ _ _ hb; omega)
    rw [hc]
    rfl
end Go.Viv
namespace Go.Proofs.YtmcigeebeoobdaaGreatDoor
open Go.RowKit Go.Viv
/-- What least answers. -/
def LeastC (L : Nat) : Prop := ∀ (p : Nat) (l : List Nat) (S : Nat → Prop) (nb : Nat → Nat → Option Nat) (a b frm : Nat) (w : World), Tree w p l S nb → RiseN l → TabH w → nb L a = some b → frm ≤ 16777216 →
  Calls Tryz.prog 128 #[.pointer (some ⟨b, 0, none⟩), .int .i64 (L : Int), .int .i64 (frm : Int)] w fun e w' => e = .returned (.int .i64 (orNone (leastIn l (a * 64 ^ (L + 1)) (64 * 64 ^ L) frm))) ∧ Fr (fun _ => False) w w'
set_option maxRecDepth 100000 in
set_option maxHeartbeats 2000000 in
theorem least_0 : LeastC 0 := by
  intro p l S nb a b frm w ht hr hT hb hf
  obtain ⟨_, word, hw, hN, hbit⟩ := ht0 ht hb
  have hmay := tree_may ht hb hN
  simp only [Nat.pow_zero, Nat.mul_one, Nat.zero_add, Nat.pow_one] at hmay ⊢
  have c0 := hN.cell0
  have hwf : IntKind.i64.wrap (frm : Int) = frm := by rw [IntKind.wrap_i64]; omega
  have HF := Lib.hid (fun k W (hW : Fr (fun _ => False) w W) => first_w word hw k W (hT.fr hW))
  have HX := Lib.hid (And.intro hmay (And.intro hr hbit))
  obtain ⟨z0, hz0⟩ : ∃ z, orNone (nextN (bitsOf word) frm) = z := ⟨_, rfl⟩
  have HF0 := Lib.hid (HF.out frm w.drew (Fr.refl _ _).drew)
  rw [hz0] at HF0
  have HZ0 := Lib.hid hz0
  clear hz0
  clear ht hT hb hN hmay hbit hr
  go_enter Tryz.func128, Tryz.ntmps128
  go_wp2_with fail
  refine Ord.wp_region_one #[0, 1, 3, 7, 0, 0, 48, 127, 255] [(0, true), (1, true), (2, true), (3, true), (4, true), (5, true), (6, true), (7, true), (8, true)] [] (by kernel_rfl) (by kernel_rfl) (by intro c d v a w h; cases d <;> exact h) ?_
  simp only [Ord.pick, List.map_cons, List.map_nil, List.getElem?_toArray, List.getElem?_cons_succ, List.getElem?_cons_zero]
  iterate 9 (apply Ord.c_step; intro K hK; go_simp; first | (refine hK _ ?_; clear hK K) | (apply Exists.intro; refine ⟨?_, hK _ ?_⟩; (go_at_call 60; exact HF0.out); clear hK K))
  refine Ord.c_nil ?_
  go_wp2_with fail
  go_loopw [8, 9] (fun t _ wr => ∃ (k : Nat) (z : Int), t = .int .i64 z ∧ orNone (nextN (bitsOf word) k) = z ∧ LeastAt l (a * 64) 1 frm k ∧ Fr (fun _ => False) w wr) (fun t _ _ => bitsLeft t)
  case atStart => exact ⟨frm, z0, rfl, HZ0.out, by have := LeastAt.start (l := l) (lo := a * 64) (SZ := 1) (frm := frm); rwa [Nat.div_one] at this, (Fr.refl _ _).drew⟩
  case round =>
    obtain ⟨k, z, rfl, hz, hat, hfr⟩ := hrel
    cases hn : nextN (bitsOf word) k with
    | none =>
      obtain rfl : z = -1 := by rw [← hz, hn]; rfl
      have HE := Lib.hid (And.intro (hat.exit HX.out.2.1 (by decide) (by simpa using HX.out.1) hn) hfr)
      clear hn hat hfr hz
      go_wp2
      go_ret
      exact ⟨by rw [show (64 : Nat) = 64 * 1 from rfl, HE.out.1]; rfl, HE.out.2⟩
    | some d =>
      obtain rfl : z = (d : Int) := by rw [← hz, hn]; rfl
      obtain ⟨n1, n2, _⟩ := nextN_some (rise_bits word) hn
      have hd := (mem_bits.1 n1)
      have HE := Lib.hid (And.intro (show leastIn l (a * 64) 64 frm = some d from by
        have h1 : leastIn l (a * 64 + d * 1) 1 (frm - d * 1) = some 0 := (leastIn_some HX.out.2.1).2 ⟨by
          have := HX.out.2.2 d hd.1
          rw [hd.2] at this
          simpa using this.symm, by have := hat.1; rw [Nat.div_one] at this; omega, by decide, fun i _ h => by omega⟩
        have := hat.hit HX.out.2.1 (by decide) (by simpa using HX.out.1) hn h1
        simpa using this) hfr)
      clear hn hat hfr n1 n2 hd hz
      go_wp2
      go_ret
      exact ⟨by rw [HE.out.1]; rfl, HE.out.2⟩
theorem first_f (word d : Nat) (hw : word < 18446744073709551616) (W : World) (hT : TabH W) : ∃ z, orNone (nextN (bitsOf word) (d + 1)) = z ∧ Calls Tryz.prog 60 #[.int .u64 word, .int .i64 ((d : Int) + 1)] W fun e w' => e = .returned (.int .i64 z) ∧ w' = W :=
  ⟨_, rfl, by have := first_w word hw (d + 1) W hT; rwa [show ((d + 1 : Nat) : Int) = (d : Int) + 1 from by omega] at this⟩
theorem wrap_small {q : Nat} (h : q ≤ 16777216) : IntKind.i64.wrap (q : Int) = q := by
  rw [IntKind.wrap_i64]; omega
theorem bits_less {word d : Nat} (hd : d < 64) {z : Int} (hz : orNone (nextN (bitsOf word) (d + 1)) = z) : bitsLeft (.int .i64 z) < bitsLeft (.int .i64 (d : Int)) := by
  cases hn : nextN (bitsOf word) (d + 1) with
  | none =>
    rw [hn] at hz
    subst hz
    show (if (-1 : Int) < 0 then 0 else 65 - (-1 : Int).toNat) < (if (d : Int) < 0 then 0 else 65 - (d : Int).toNat)
    rw [if_pos (by decide), if_neg (by omega), Int.toNat_natCast]
    omega
  | some d' =>
    rw [hn] at hz
    subst hz
    obtain ⟨_, h2, _⟩ := nextN_some (rise_bits word) hn
    show (if (d' : Int) < 0 then 0 else 65 - (d' : Int).toNat) < (if (d : Int) < 0 then 0 else 65 - (d : Int).toNat)
    rw [if_neg (by omega), if_neg (by omega), Int.toNat_natCast, Int.toNat_natCast]
    omega
set_option maxRecDepth 100000 in
set_option maxHeartbeats 4000000 in
theorem least_s (M : Nat) (hM : M ≤ 2) (ih : LeastC M) : LeastC (M + 1) := by
  intro p l S nb a b frm w ht hr hT hb hf
  obtain ⟨_, word, hw, hN, hbit⟩ := ht.node _ _ _ hb
  have hmay := tree_may ht hb hN
  have hS : 0 < 64 ^ (M + 1) := Nat.pow_pos (by decide)
  have e1 : ∀ d, (a * 64 + d) * 64 ^ (M + 1) = a * 64 ^ (M + 1 + 1) + d * 64 ^ (M + 1) := fun d => by
    rw [Nat.add_mul, Nat.pow_succ 64 (M + 1), Nat.mul_assoc, Nat.mul_comm 64 (64 ^ (M + 1))]
  have e2 : 64 * 64 ^ M = 64 ^ (M + 1) := by rw [Nat.pow_succ, Nat.mul_comm]
  have HI := Lib.hid (fun (d c frm' : Nat) W (hW : Fr (fun _ => False) w W) (hc : nb M (a * 64 + d) = some c) (hf' : frm' ≤ 16777216) => show Calls Tryz.prog 128 #[.pointer (some ⟨c, 0, none⟩), .int .i64 (M : Int), .int .i64 (frm' : Int)] W fun e w' => e = .returned (.int .i64 (orNone (leastIn l (a * 64 ^ (M + 1 + 1) + d * 64 ^ (M + 1)) (64 ^ (M + 1)) frm'))) ∧ Fr (fun _ => False) W w' from by
    have := ih p l S nb (a * 64 + d) c frm' W (ht.frF hW) hr (hT.fr hW) hc hf'
    rwa [e1, e2] at this)
  have c0 := hN.cell0
  have HF := Lib.hid (fun d W (hW : Fr (fun _ => False) w W) => first_f word d hw W (hT.fr hW))
  have HF0' := first_w word hw (frm / 64 ^ (M + 1)) w.drew (hT.fr (Fr.refl _ _).drew)
  obtain ⟨z0, hz0⟩ : ∃ z, orNone (nextN (bitsOf word) (frm / 64 ^ (M + 1))) = z := ⟨_, rfl⟩
  rw [hz0] at HF0'
  have HC := Lib.hid (fun (d : Nat) (hd : d < 64) (hb2 : word.testBit d = true) => show ∃ c, nb M (a * 64 + d) = some c ∧ ∀ W, Fr (fun _ => False) w W → W.cell? ⟨b, 1 + d, none⟩ = some (.pointer (some ⟨c, 0, none⟩)) from by
    have h1 := hbit d hd
    rw [hb2] at h1
    obtain ⟨c, hc⟩ := Option.isSome_iff_exists.1 (show (nb M (a * 64 + d)).isSome = true from h1.symm)
    refine ⟨c, hc, fun W hW => ?_⟩
    have := (hN.fr hW (fun h => h)).cellK hd
    rw [this]
    show some (ptrV (nb M (a * 64 + d))) = _
    rw [hc]
    rfl)
  have HC0 := Lib.hid (fun W (hW : Fr (fun _ => False) w W) => (hN.fr hW (fun h => h)).cell0)
  obtain ⟨LO, hLO⟩ : ∃ LO, a * 64 ^ (M + 1 + 1) = LO := ⟨_, rfl⟩
  obtain ⟨SZ, hSZ⟩ : ∃ SZ, 64 ^ (M + 1) = SZ := ⟨_, rfl⟩
  rw [hLO, hSZ] at HI hmay
  rw [hSZ] at HF0' hz0 hS
  rw [hLO, hSZ]
  have hbl := hN.lt
  have HX := Lib.hid (And.intro hmay (And.intro hr (And.intro hS hz0)))
  have hMS : M = 0 ∧ SZ = 64 ∨ M = 1 ∧ SZ = 4096 ∨ M = 2 ∧ SZ = 262144 := by
    have : M = 0 ∨ M = 1 ∨ M = 2 := by omega
    rcases this with rfl | rfl | rfl
    · exact .inl ⟨rfl, hSZ.symm⟩
    · exact .inr (.inl ⟨rfl, hSZ.symm⟩)
    · exact .inr (.inr ⟨rfl, hSZ.symm⟩)
  have hwf' : ∀ t : Int, t = (SZ : Int) → IntKind.i64.wrap ((frm : Int) / t) = ((frm / SZ : Nat) : Int) := by
    rintro t rfl
    rw [← Int.natCast_ediv]
    exact wrap_small (Nat.le_trans (Nat.div_le_self _ _) hf)
  obtain ⟨q, hqe⟩ : ∃ q, frm / SZ = q := ⟨_, rfl⟩
  rw [hqe] at HF0' hwf'
  have HF0 := Lib.hid HF0'
  clear ht hT hb hN hmay hbit hr ih e1 e2 hLO hSZ HF0' hz0 hS hqe
  rcases hMS with ⟨rfl, rfl⟩ | ⟨rfl, rfl⟩ | ⟨rfl, rfl⟩
  · have hwf := hwf' 64 rfl
    clear hwf'
    go_enter Tryz.func128, Tryz.ntmps128
    go_wp2_with fail
    refine Ord.wp_region_one #[0, 1, 3, 7, 0, 0, 48, 127, 255] [(0, true), (1, true), (2, true), (3, true), (4, true), (5, true), (6, true), (7, true), (8, true)] [] (by kernel_rfl) (by kernel_rfl) (by intro c d v a w h; cases d <;> exact h) ?_
    simp only [Ord.pick, List.map_cons, List.map_nil, List.getElem?_toArray, List.getElem?_cons_succ, List.getElem?_cons_zero]
    iterate 9 (apply Ord.c_step; intro K hK; go_simp; first | (refine hK _ ?_; clear hK K) | (apply Exists.intro; refine ⟨?_, hK _ ?_⟩; (go_at_call 60; exact HF0.out); clear hK K))
    refine Ord.c_nil ?_
    go_wp2_with fail
    go_loopw [8, 9] (fun t _ wr => ∃ (k : Nat) (z : Int), t = .int .i64 z ∧ orNone (nextN (bitsOf word) k) = z ∧ LeastAt l LO 64 frm k ∧ Fr (fun _ => False) w wr) (fun t _ _ => bitsLeft t)
    case atStart => exact ⟨frm / 64, z0, rfl, HX.out.2.2.2, LeastAt.start, (Fr.refl _ _).drew⟩
    case round =>
      obtain ⟨k, z, rfl, hz, hat, hfr⟩ := hrel
      cases hn : nextN (bitsOf word) k with
      | none =>
        obtain rfl : z = -1 := by rw [← hz, hn]; rfl
        have HE := Lib.hid (And.intro (hat.exit HX.out.2.1 (by decide) HX.out.1 hn) hfr)
        clear hn hat hfr hz
        go_wp2
        go_ret
        exact ⟨by rw [HE.out.1]; rfl, HE.out.2⟩
      | some d =>
        obtain rfl : z = (d : Int) := by rw [← hz, hn]; rfl
        obtain ⟨n1, n2, _⟩ := nextN_some (rise_bits word) hn
        have hd := (mem_bits.1 n1)
        obtain ⟨c, hc, hck⟩ := HC.out d hd.1 hd.2
        have hrd := hck _ hfr
        obtain ⟨rr, hrr⟩ : ∃ rr, leastIn l (LO + d * 64) 64 (frm - d * 64) = rr := ⟨_, rfl⟩
        have HIc := Lib.hid (fun (t : Int) (ht : t = ((frm - d * 64 : Nat) : Int)) => by
          have := HI.out d c (frm - d * 64) wr hfr hc (by omega)
          rw [← ht, hrr] at this
          exact this)
        have HH := Lib.hid (And.intro hn (And.intro hrr (And.intro hat hd)))
        have hd64 : (d : Int) < 64 := by have := hd.1; omega
        clear hn hrr hat hd n1 n2 hz hck hc
        go_wp2_with fail
        all_goals
          refine (HIc.out _ ?_).mono ?_
          · omega
          rintro e w2 ⟨rfl, hfr2⟩
          cases rr with
          | some r =>
            rw [show orNone (some r) = (r : Int) from rfl]
            have hr64 := ((leastIn_some HX.out.2.1).1 HH.out.2.1).2.2.1
            have HE := Lib.hid (And.intro (HH.out.2.2.1.hit HX.out.2.1 (by decide) HX.out.1 HH.out.1 HH.out.2.1) (fr_two hfr hfr2))
            go_wp2
            go_ret
            exact ⟨by rw [HE.out.1]; rfl, HE.out.2⟩
          | none =>
            rw [show orNone none = (-1 : Int) from rfl]
            obtain ⟨z', hz', hF⟩ := HF.out d w2 (fr_two hfr hfr2)
            have HFd := Lib.hid (And.intro hz' hF)
            clear hz' hF
            have hw2 := HC0.out w2 (fr_two hfr hfr2)
            go_wp2_with fail
            refine HFd.out.2.mono ?_
            rintro e w3 ⟨rfl, rfl⟩
            go_wp2_with fail
            exact ⟨⟨d + 1, z', rfl, HFd.out.1, HH.out.2.2.1.miss HX.out.2.1 (by decide) HX.out.1 HH.out.1 HH.out.2.1, fr_two hfr hfr2⟩, bits_less HH.out.2.2.2.1 HFd.out.1⟩
  · have hwf := hwf' 4096 rfl
    clear hwf'
    go_enter Tryz.func128, Tryz.ntmps128
    go_wp2_with fail
    refine Ord.wp_region_one #[0, 1, 3, 7, 0, 0, 48, 127, 255] [(0, true), (1, true), (2, true), (3, true), (4, true), (5, true), (6, true), (7, true), (8, true)] [] (by kernel_rfl) (by kernel_rfl) (by intro c d v a w h; cases d <;> exact h) ?_
    simp only [Ord.pick, List.map_cons, List.map_nil, List.getElem?_toArray, List.getElem?_cons_succ, List.getElem?_cons_zero]
    iterate 9 (apply Ord.c_step; intro K hK; go_simp; first | (refine hK _ ?_; clear hK K) | (apply Exists.intro; refine ⟨?_, hK _ ?_⟩; (go_at_call 60; exact HF0.out); clear hK K))
    refine Ord.c_nil ?_
    go_wp2_with fail
    go_loopw [8, 9] (fun t _ wr => ∃ (k : Nat) (z : Int), t = .int .i64 z ∧ orNone (nextN (bitsOf word) k) = z ∧ LeastAt l LO 4096 frm k ∧ Fr (fun _ => False) w wr) (fun t _ _ => bitsLeft t)
    case atStart => exact ⟨frm / 4096, z0, rfl, HX.out.2.2.2, LeastAt.start, (Fr.refl _ _).drew⟩
    case round =>
      obtain ⟨k, z, rfl, hz, hat, hfr⟩ := hrel
      cases hn : nextN (bitsOf word) k with
      | none =>
        obtain rfl : z = -1 := by rw [← hz, hn]; rfl
        have HE := Lib.hid (And.intro (hat.exit HX.out.2.1 (by decide) HX.out.1 hn) hfr)
        clear hn hat hfr hz
        go_wp2
        go_ret
        exact ⟨by rw [HE.out.1]; rfl, HE.out.2⟩
      | some d =>
        obtain rfl : z = (d : Int) := by rw [← hz, hn]; rfl
        obtain ⟨n1, n2, _⟩ := nextN_some (rise_bits word) hn
        have hd := (mem_bits.1 n1)
        obtain ⟨c, hc, hck⟩ := HC.out d hd.1 hd.2
        have hrd := hck _ hfr
        obtain ⟨rr, hrr⟩ : ∃ rr, leastIn l (LO + d * 4096) 4096 (frm - d * 4096) = rr := ⟨_, rfl⟩
        have HIc := Lib.hid (fun (t : Int) (ht : t = ((frm - d * 4096 : Nat) : Int)) => by
          have := HI.out d c (frm - d * 4096) wr hfr hc (by omega)
          rw [← ht, hrr] at this
          exact this)
        have HH := Lib.hid (And.intro hn (And.intro hrr (And.intro hat hd)))
        have hd64 : (d : Int) < 64 := by have := hd.1; omega
        clear hn hrr hat hd n1 n2 hz hck hc
        go_wp2_with fail
        all_goals
          refine (HIc.out _ ?_).mono ?_
          · omega
          rintro e w2 ⟨rfl, hfr2⟩
          cases rr with
          | some r =>
            rw [show orNone (some r) = (r : Int) from rfl]
            have hr64 := ((leastIn_some HX.out.2.1).1 HH.out.2.1).2.2.1
            have HE := Lib.hid (And.intro (HH.out.2.2.1.hit HX.out.2.1 (by decide) HX.out.1 HH.out.1 HH.out.2.1) (fr_two hfr hfr2))
            go_wp2
            go_ret
            exact ⟨by rw [HE.out.1]; rfl, HE.out.2⟩
          | none =>
            rw [show orNone none = (-1 : Int) from rfl]
            obtain ⟨z', hz', hF⟩ := HF.out d w2 (fr_two hfr hfr2)
            have HFd := Lib.hid (And.intro hz' hF)
            clear hz' hF
            have hw2 := HC0.out w2 (fr_two hfr hfr2)
            go_wp2_with fail
            refine HFd.out.2.mono ?_
            rintro e w3 ⟨rfl, rfl⟩
            go_wp2_with fail
            exact ⟨⟨d + 1, z', rfl, HFd.out.1, HH.out.2.2.1.miss HX.out.2.1 (by decide) HX.out.1 HH.out.1 HH.out.2.1, fr_two hfr hfr2⟩, bits_less HH.out.2.2.2.1 HFd.out.1⟩
  · have hwf := hwf' 262144 rfl
    clear hwf'
    go_enter Tryz.func128, Tryz.ntmps128
    go_wp2_with fail
    refine Ord.wp_region_one #[0, 1, 3, 7, 0, 0, 48, 127, 255] [(0, true), (1, true), (2, true), (3, true), (4, true), (5, true), (6, true), (7, true), (8, true)] [] (by kernel_rfl) (by kernel_rfl) (by intro c d v a w h; cases d <;> exact h) ?_
    simp only [Ord.pick, List.map_cons, List.map_nil, List.getElem?_toArray, List.getElem?_cons_succ, List.getElem?_cons_zero]
    iterate 9 (apply Ord.c_step; intro K hK; go_simp; first | (refine hK _ ?_; clear hK K) | (apply Exists.intro; refine ⟨?_, hK _ ?_⟩; (go_at_call 60; exact HF0.out); clear hK K))
    refine Ord.c_nil ?_
    go_wp2_with fail
    go_loopw [8, 9] (fun t _ wr => ∃ (k : Nat) (z : Int), t = .int .i64 z ∧ orNone (nextN (bitsOf word) k) = z ∧ LeastAt l LO 262144 frm k ∧ Fr (fun _ => False) w wr) (fun t _ _ => bitsLeft t)
    case atStart => exact ⟨frm / 262144, z0, rfl, HX.out.2.2.2, LeastAt.start, (Fr.refl _ _).drew⟩
    case round =>
      obtain ⟨k, z, rfl, hz, hat, hfr⟩ := hrel
      cases hn : nextN (bitsOf word) k with
      | none =>
        obtain rfl : z = -1 := by rw [← hz, hn]; rfl
        have HE := Lib.hid (And.intro (hat.exit HX.out.2.1 (by decide) HX.out.1 hn) hfr)
        clear hn hat hfr hz
        go_wp2
        go_ret
        exact ⟨by rw [HE.out.1]; rfl, HE.out.2⟩
      | some d =>
        obtain rfl : z = (d : Int) := by rw [← hz, hn]; rfl
        obtain ⟨n1, n2, _⟩ := nextN_some (rise_bits word) hn
        have hd := (mem_bits.1 n1)
        obtain ⟨c, hc, hck⟩ := HC.out d hd.1 hd.2
        have hrd := hck _ hfr
        obtain ⟨rr, hrr⟩ : ∃ rr, leastIn l (LO + d * 262144) 262144 (frm - d * 262144) = rr := ⟨_, rfl⟩
        have HIc := Lib.hid (fun (t : Int) (ht : t = ((frm - d * 262144 : Nat) : Int)) => by
          have := HI.out d c (frm - d * 262144) wr hfr hc (by omega)
          rw [← ht, hrr] at this
          exact this)
        have HH := Lib.hid (And.intro hn (And.intro hrr (And.intro hat hd)))
        have hd64 : (d : Int) < 64 := by have := hd.1; omega
        clear hn hrr hat hd n1 n2 hz hck hc
        go_wp2_with fail
        all_goals
          refine (HIc.out _ ?_).mono ?_
          · omega
          rintro e w2 ⟨rfl, hfr2⟩
          cases rr with
          | some r =>
            rw [show orNone (some r) = (r : Int) from rfl]
            have hr64 := ((leastIn_some HX.out.2.1).1 HH.out.2.1).2.2.1
            have HE := Lib.hid (And.intro (HH.out.2.2.1.hit HX.out.2.1 (by decide) HX.out.1 HH.out.1 HH.out.2.1) (fr_two hfr hfr2))
            go_wp2
            go_ret
            exact ⟨by rw [HE.out.1]; rfl, HE.out.2⟩
          | none =>
            rw [show orNone none = (-1 : Int) from rfl]
            obtain ⟨z', hz', hF⟩ := HF.out d w2 (fr_two hfr hfr2)
            have HFd := Lib.hid (And.intro hz' hF)
            clear hz' hF
            have hw2 := HC0.out w2 (fr_two hfr hfr2)
            go_wp2_with fail
            refine HFd.out.2.mono ?_
            rintro e w3 ⟨rfl, rfl⟩
            go_wp2_with fail
            exact ⟨⟨d + 1, z', rfl, HFd.out.1, HH.out.2.2.1.miss HX.out.2.1 (by decide) HX.out.1 HH.out.1 HH.out.2.1, fr_two hfr hfr2⟩, bits_less HH.out.2.2.2.1 HFd.out.1⟩
/-- least at any level. -/
theorem least_any (L : Nat) (hL : L ≤ 3) : LeastC L := by
  match L, hL with
  | 0, _ => exact least_0
  | 1, _ => exact least_s 0 (by decide) least_0
  | 2, _ => exact least_s 1 (by decide) (least_s 0 (by decide) least_0)
  | 3, _ => exact least_s 2 (by decide) (least_s 1 (by decide) (least_s 0 (by decide) least_0))
end Go.Proofs.YtmcigeebeoobdaaGreatDoor
end

/-
  Contracts of package hibit: Next, Word, Clear.
-/
section
namespace Go.Viv
open Go.RowKit
theorem least_top {l : List Nat} (hl : ∀ i, i ∈ l → i < 16777216) (f : Nat) : leastIn l (0 * 64 ^ (3 + 1)) (64 * 64 ^ 3) f = nextN l f := by
  unfold leastIn
  rw [show 0 * 64 ^ (3 + 1) + f = f by omega]
  cases h : nextN l f with
  | none => rfl
  | some i =>
    have hi : i ∈ l := List.mem_of_find?_eq_some h
    have := hl i hi
    show (if i < 0 * 64 ^ (3 + 1) + 64 * 64 ^ 3 then some (i - 0 * 64 ^ (3 + 1)) else none) = some i
    rw [if_pos (by omega)]
    congr 1
/-- What a word of a level tells of the numbers. -/
def WordOf (l : List Nat) (L x wd : Nat) : Prop := wd < 18446744073709551616 ∧ ∀ d, d < 64 → (wd.testBit d = true ↔ ∃ i, i ∈ l ∧ i / 64 ^ (L + 1) = x ∧ i / 64 ^ L % 64 = d)
theorem word_at {w : World} {p : Nat} {l : List Nat} {S : Nat → Prop} {nb : Nat → Nat → Option Nat} (h : Tree w p l S nb) (hg : Tight l nb) {L x b word : Nat} {kid : Nat → Option Nat} (hb : nb L x = some b) (hn : NodeC w b word kid) : WordOf l L x word := by
  obtain ⟨_, word', hw, hn', hbit⟩ := h.node _ _ _ hb
  obtain rfl := hn.word_eq hn'
  refine ⟨hw, fun d hd => ⟨fun ht => ?_, ?_⟩⟩
  · rw [hbit d hd] at ht
    cases L with
    | zero =>
      have hm : x * 64 + d ∈ l := of_decide_eq_true ht
      refine ⟨_, hm, ?_, ?_⟩
      · simp only [Nat.zero_add, Nat.pow_one]; omega
      · simp only [Nat.pow_zero, Nat.div_one]; omega
    | succ M =>
      have hs : (nb M (x * 64 + d)).isSome = true := ht
      obtain ⟨c, hc⟩ := Option.isSome_iff_exists.1 hs
      obtain ⟨j, q1, q2⟩ := hg M _ c (by have := h.high _ _ _ hb; omega) hc
      refine ⟨j, q1, ?_, ?_⟩
      · rw [Nat.pow_succ 64 (M + 1), ← Nat.div_div_eq_div_mul, q2]; omega
      · rw [q2]; omega
  · rintro ⟨i, hi, rfl, rfl⟩
    have hd : i / 64 ^ L % 64 < 64 := Nat.mod_lt _ (by decide)
    have e : i / 64 ^ (L + 1) * 64 + i / 64 ^ L % 64 = i / 64 ^ L := by
      rw [Nat.pow_succ, ← Nat.div_div_eq_div_mul]
      omega
    rw [hbit _ hd]
    cases L with
    | zero =>
      show decide (i / 64 ^ (0 + 1) * 64 + i / 64 ^ 0 % 64 ∈ l) = true
      rw [e]
      simpa using hi
    | succ M =>
      show (nb M (i / 64 ^ (M + 1 + 1) * 64 + i / 64 ^ (M + 1) % 64)).isSome = true
      rw [e]
      obtain ⟨c, hc⟩ := h.path hi M (by have := h.high _ _ _ hb; omega)
      rw [hc]
      rfl
theorem word_none {w : World} {p : Nat} {l : List Nat} {S : Nat → Prop} {nb : Nat → Nat → Option Nat} (h : Tree w p l S nb) {L x : Nat} (hL : L ≤ 3) (hb : nb L x = none) : WordOf l L x 0 := by
  refine ⟨by decide, fun d hd => ⟨fun ht => ?_, ?_⟩⟩
  · rw [Nat.zero_testBit] at ht; cases ht
  · rintro ⟨i, hi, rfl, _⟩
    obtain ⟨c, hc⟩ := h.path hi L hL
    rw [hb] at hc
    cases hc
/-- A word of a set: of a level, at a place. -/
def wordN (l : List Nat) (L x : Nat) : Nat := l.foldl (fun w i => if i / 64 ^ (L + 1) = x then w ||| 2 ^ (i / 64 ^ L % 64) else w) 0
theorem foldl_or_bit (p : Nat → Prop) [DecidablePred p] (f : Nat → Nat) (d : Nat) : ∀ (l : List Nat) (w : Nat), (l.foldl (fun w i => if p i then w ||| 2 ^ f i else w) w).testBit d = true ↔ (w.testBit d = true ∨ ∃ i, i ∈ l ∧ p i ∧ f i = d)
  | [], w => by simp
  | a :: l, w => by
    rw [List.foldl_cons, foldl_or_bit p f d l]
    by_cases h : p a
    · rw [if_pos h, Nat.testBit_or, Nat.testBit_two_pow]
      simp only [Bool.or_eq_true, decide_eq_true_eq, List.mem_cons]
      constructor
      · rintro ((h1 | h1) | ⟨i, h1, h2⟩)
        · exact .inl h1
        · exact .inr ⟨a, .inl rfl, h, h1⟩
        · exact .inr ⟨i, .inr h1, h2⟩
      · rintro (h1 | ⟨i, rfl | h1, h2, h3⟩)
        · exact .inl (.inl h1)
        · exact .inl (.inr h3)
        · exact .inr ⟨i, h1, h2, h3⟩
    · rw [if_neg h]
      simp only [List.mem_cons]
      constructor
      · rintro (h1 | ⟨i, h1, h2⟩)
        · exact .inl h1
        · exact .inr ⟨i, .inr h1, h2⟩
      · rintro (h1 | ⟨i, rfl | h1, h2, h3⟩)
        · exact .inl h1
        · exact absurd h2 h
        · exact .inr ⟨i, h1, h2, h3⟩
theorem wordN_bit (l : List Nat) (L x d : Nat) : (wordN l L x).testBit d = true ↔ ∃ i, i ∈ l ∧ i / 64 ^ (L + 1) = x ∧ i / 64 ^ L % 64 = d := by
  unfold wordN
  rw [foldl_or_bit (fun i => i / 64 ^ (L + 1) = x) (fun i => i / 64 ^ L % 64)]
  simp [Nat.zero_testBit]
theorem wordN_lt (l : List Nat) (L x : Nat) : wordN l L x < 18446744073709551616 := by
  refine Nat.lt_pow_two_of_testBit (n := 64) _ fun i hi => ?_
  cases h : (wordN l L x).testBit i with
  | false => rfl
  | true =>
    obtain ⟨j, _, _, h3⟩ := (wordN_bit l L x i).1 h
    have : j / 64 ^ L % 64 < 64 := Nat.mod_lt _ (by decide)
    omega
theorem WordOf.eq {l : List Nat} {L x wd : Nat} (h : WordOf l L x wd) : wd = wordN l L x := by
  apply Nat.eq_of_testBit_eq
  intro d
  rcases Nat.lt_or_ge d 64 with hd | hd
  · have h1 := h.2 d hd
    have h2 := wordN_bit l L x d
    rw [← h2] at h1
    cases e1 : wd.testBit d <;> cases e2 : (wordN l L x).testBit d <;> rw [e1, e2] at h1 <;> simp at h1 <;> rfl
  · rw [Nat.testBit_lt_two_pow (Nat.lt_of_lt_of_le h.1 (show (2 : Nat) ^ 64 ≤ 2 ^ d from Nat.pow_le_pow_right (by decide) hd)), Nat.testBit_lt_two_pow (Nat.lt_of_lt_of_le (wordN_lt l L x) (show (2 : Nat) ^ 64 ≤ 2 ^ d from Nat.pow_le_pow_right (by decide) hd))]
theorem next_far {l : List Nat} (hl : ∀ i, i ∈ l → i < 16777216) {f : Nat} (hf : 16777216 ≤ f) : nextN l f = none := nextN_none.2 fun x hx => by have := hl x hx; omega
end Go.Viv
namespace Go.Proofs.YtmcigeebeoobdaaGreatDoor
open Go.RowKit Go.Viv
set_option maxRecDepth 100000 in
set_option maxHeartbeats 1000000 in
theorem next_any (p : Nat) (k : Int) (l : List Nat) (S : Nat → Prop) (w : World) (h : SetIs w p l S) (hT : TabH w) :
    Calls Tryz.prog 80 #[.pointer (some ⟨p, 0, none⟩), .int .i64 k] w fun e w' => e = .returned (.int .i64 (orNone (nextN l k.toNat))) ∧ Fr (fun _ => False) w w' := by
  obtain ⟨nb, ht⟩ := h.tree
  by_cases hk : 16777216 ≤ k
  · rw [next_far ht.lt (show 16777216 ≤ k.toNat by omega)]
    clear h ht hT
    go_enter Tryz.func80, Tryz.ntmps80
    go_wp2
    go_ret
    exact ⟨rfl, Fr.refl _ _⟩
  · have hk' : k < 16777216 := by omega
    have HL := Lib.hid (fun W (hW : Fr (fun _ => False) w W) (t : Int) (ht' : t = (k.toNat : Int)) => show Calls Tryz.prog 128 #[.pointer (some ⟨p, 0, none⟩), .int .i64 3, .int .i64 t] W fun e w' => e = .returned (.int .i64 (orNone (nextN l k.toNat))) ∧ Fr (fun _ => False) W w' from by
      subst ht'
      have := least_any 3 (by decide) p l S nb 0 p k.toNat W (ht.frF hW) h.rise (hT.fr hW) ht.top (by omega)
      rwa [least_top ht.lt] at this)
    obtain ⟨z, hz⟩ : ∃ z, orNone (nextN l k.toNat) = z := ⟨_, rfl⟩
    rw [hz] at HL
    rw [hz]
    clear h ht hT hz
    go_enter Tryz.func80, Tryz.ntmps80
    go_wp2_with fail
    all_goals
      refine (HL.out w (Fr.refl _ _) _ ?_).mono ?_
      · omega
      rintro e w2 ⟨rfl, hf2⟩
      go_wp2
      go_ret
      exact ⟨rfl, hf2⟩
end Go.Proofs.YtmcigeebeoobdaaGreatDoor
end

/-
  Sets made of sets, in plain words: nodes, their words, what they need; the least number from one on, by levels. No program in sight.
-/
section
set_option linter.unusedSimpArgs false
set_option linter.unusedVariables false
namespace Go.Viv
open Go.RowKit
/-- A node: its kind (1 a set, 2 all, 3 some, 4 an odd number, 5 not), its kids. -/
structure Ndp where
  k : Nat
  l : List Nat
def ones : Nat := 18446744073709551615
def joinN (k : Nat) (ws : List Nat) : Nat := ws.foldl (fun w v => if k = 2 then w &&& v else if k = 3 then w ||| v else w ^^^ v) (if k = 2 then ones else 0)
def nodeV (ss : List (List Nat)) (L x : Nat) (acc : List Nat) (n : Ndp) : Nat :=
  if n.k = 1 then wordN (ss.getD (n.l.headD 0) []) L x
  else if n.k = 5 then (if 0 < L then ones else ones - acc.getD (n.l.headD 0) 0)
  else joinN (if n.k = 4 ∧ 0 < L then 3 else n.k) (n.l.map fun i => acc.getD i 0)
def valsN (ss : List (List Nat)) (L x : Nat) : List Ndp → List Nat → List Nat
  | [], acc => acc
  | n :: ns, acc => valsN ss L x ns (acc ++ [nodeV ss L x acc n])
def valN (ns : List Ndp) (ss : List (List Nat)) (L x i : Nat) : Nat := (valsN ss L x ns []).getD i 0
/-- A node that stands at a place. -/
structure NdOk (sets i : Nat) (n : Ndp) : Prop where
  k1 : 1 ≤ n.k
  k5 : n.k ≤ 5
  many : n.l.length ≤ 64
  one : n.k = 1 → ∃ j, n.l = [j] ∧ j < sets
  not : n.k = 5 → ∃ j, n.l = [j]
  kids : n.k ≠ 1 → ∀ j, j ∈ n.l → j < i
def NdsOk (ns : List Ndp) (sets : Nat) : Prop := ∀ i n, ns[i]? = some n → NdOk sets i n
theorem valsN_acc (ss : List (List Nat)) (L x : Nat) : ∀ (ns : List Ndp) (acc : List Nat), (valsN ss L x ns acc).take acc.length = acc ∧ (valsN ss L x ns acc).length = acc.length + ns.length
  | [], acc => by simp [valsN]
  | n :: ns, acc => by
    obtain ⟨h1, h2⟩ := valsN_acc ss L x ns (acc ++ [nodeV ss L x acc n])
    refine ⟨?_, ?_⟩
    · show (valsN ss L x ns (acc ++ [nodeV ss L x acc n])).take acc.length = acc
      have := congrArg (List.take acc.length) h1
      rw [List.take_take, List.length_append, Nat.min_eq_left (by omega)] at this
      rw [this]
      simp
    · show (valsN ss L x ns _).length = _
      rw [h2]; simp; omega
theorem valsN_get {ss : List (List Nat)} {L x : Nat} : ∀ {ns : List Ndp} {acc : List Nat} {i : Nat} {n : Ndp}, ns[i]? = some n → (valsN ss L x ns acc)[acc.length + i]? = some (nodeV ss L x ((valsN ss L x ns acc).take (acc.length + i)) n)
  | [], acc, i, n, h => by simp at h
  | m :: ns, acc, 0, n, h => by
    simp only [List.getElem?_cons_zero, Option.some.injEq] at h
    subst h
    have h1 := (valsN_acc ss L x ns (acc ++ [nodeV ss L x acc m])).1
    have h0 := (valsN_acc ss L x (m :: ns) acc).1
    rw [Nat.add_zero, h0]
    show (valsN ss L x ns (acc ++ [nodeV ss L x acc m]))[acc.length]? = _
    have e : (acc ++ [nodeV ss L x acc m])[acc.length]? = some (nodeV ss L x acc m) := by simp
    rw [← h1, List.getElem?_take_of_lt (by simp)] at e
    exact e
  | m :: ns, acc, i + 1, n, h => by
    have h' : ns[i]? = some n := by simpa using h
    have := valsN_get (ss := ss) (L := L) (x := x) (acc := acc ++ [nodeV ss L x acc m]) h'
    rw [List.length_append, List.length_singleton] at this
    rw [show acc.length + (i + 1) = acc.length + 1 + i by omega]
    exact this
theorem nodeV_take {ss : List (List Nat)} {L x i sets : Nat} {acc : List Nat} {n : Ndp} (h : NdOk sets i n) : nodeV ss L x (acc.take i) n = nodeV ss L x acc n := by
  unfold nodeV
  by_cases h1 : n.k = 1
  · rw [if_pos h1, if_pos h1]
  have hg : ∀ j, j ∈ n.l → (acc.take i).getD j 0 = acc.getD j 0 := fun j hj => by
    rw [List.getD_eq_getElem?_getD, List.getD_eq_getElem?_getD, List.getElem?_take_of_lt (h.kids h1 j hj)]
  rw [if_neg h1, if_neg h1]
  by_cases h5 : n.k = 5
  · obtain ⟨j, hj⟩ := h.not h5
    rw [if_pos h5, if_pos h5]
    have : n.l.headD 0 ∈ n.l := by rw [hj]; simp
    rw [hg _ this]
  · rw [if_neg h5, if_neg h5]
    congr 1
    exact List.map_congr_left fun j hj => hg j hj
theorem valN_eq {ns : List Ndp} {ss : List (List Nat)} {L x i : Nat} {n : Ndp} (h : NdsOk ns ss.length) (hi : ns[i]? = some n) : valN ns ss L x i = nodeV ss L x (valsN ss L x ns []) n := by
  have h1 := valsN_get (ss := ss) (L := L) (x := x) (acc := []) hi
  rw [List.length_nil, Nat.zero_add] at h1
  unfold valN
  rw [List.getD_eq_getElem?_getD, h1]
  exact nodeV_take (h i n hi)
theorem and_lt {a b : Nat} (h : a < 18446744073709551616) : a &&& b < 18446744073709551616 := Nat.lt_of_le_of_lt Nat.and_le_left h
theorem joinN_lt (k : Nat) (ws : List Nat) (h : ∀ w, w ∈ ws → w < 18446744073709551616) : joinN k ws < 18446744073709551616 := by
  unfold joinN
  have key : ∀ (ws : List Nat) (a : Nat), a < 18446744073709551616 → (∀ w, w ∈ ws → w < 18446744073709551616) → ws.foldl (fun w v => if k = 2 then w &&& v else if k = 3 then w ||| v else w ^^^ v) a < 18446744073709551616 := by
    intro ws
    induction ws with
    | nil => intro a ha _; exact ha
    | cons v ws ih =>
      intro a ha h
      rw [List.foldl_cons]
      refine ih _ ?_ fun w hw => h w (List.mem_cons_of_mem _ hw)
      have hv := h v (by simp)
      split
      · exact and_lt ha
      · split
        · exact Nat.or_lt_two_pow (n := 64) ha hv
        · exact Nat.xor_lt_two_pow (n := 64) ha hv
  refine key ws _ ?_ h
  split <;> decide
theorem nodeV_lt (ss : List (List Nat)) (L x : Nat) (acc : List Nat) (n : Ndp) (h : ∀ w, w ∈ acc → w < 18446744073709551616) : nodeV ss L x acc n < 18446744073709551616 := by
  have hg : ∀ j, acc.getD j 0 < 18446744073709551616 := fun j => by
    rw [List.getD_eq_getElem?_getD]
    cases e : acc[j]? with
    | none => decide
    | some w => exact h w (List.mem_of_getElem? e)
  unfold nodeV
  split
  · exact wordN_lt _ _ _
  · split
    · split
      · decide
      · unfold ones; omega
    · refine joinN_lt _ _ fun w hw => ?_
      obtain ⟨j, _, rfl⟩ := List.mem_map.1 hw
      exact hg j
theorem valsN_lt (ss : List (List Nat)) (L x : Nat) : ∀ (ns : List Ndp) (acc : List Nat), (∀ w, w ∈ acc → w < 18446744073709551616) → ∀ w, w ∈ valsN ss L x ns acc → w < 18446744073709551616
  | [], acc, h => h
  | n :: ns, acc, h => valsN_lt ss L x ns _ fun w hw => by
    rcases List.mem_append.1 hw with h1 | h1
    · exact h w h1
    · rw [List.mem_singleton.1 h1]; exact nodeV_lt _ _ _ _ _ h
theorem valN_lt (ns : List Ndp) (ss : List (List Nat)) (L x i : Nat) : valN ns ss L x i < 18446744073709551616 := by
  unfold valN
  rw [List.getD_eq_getElem?_getD]
  cases e : (valsN ss L x ns [])[i]? with
  | none => decide
  | some w => exact valsN_lt ss L x ns [] (by simp) w (List.mem_of_getElem? e)
/-! ### Bits -/
theorem ones_bit {d : Nat} (h : d < 64) : ones.testBit d = true := by
  show (2 ^ 64 - 1).testBit d = true
  rw [Nat.testBit_two_pow_sub_one, decide_eq_true h]
theorem not_bit {w d : Nat} (hw : w < 18446744073709551616) (h : d < 64) : (ones - w).testBit d = !w.testBit d := by
  rw [show ones - w = 2 ^ 64 - (w + 1) from by unfold ones; omega, Nat.testBit_two_pow_sub_succ hw, decide_eq_true h, Bool.true_and]
theorem join_and {d : Nat} (hd : d < 64) : ∀ (ws : List Nat), (joinN 2 ws).testBit d = ws.all fun w => w.testBit d := by
  have key : ∀ (ws : List Nat) (a : Nat), (ws.foldl (fun w v => if (2 : Nat) = 2 then w &&& v else if (2 : Nat) = 3 then w ||| v else w ^^^ v) a).testBit d = (a.testBit d && ws.all fun w => w.testBit d) := by
    intro ws
    induction ws with
    | nil => intro a; simp
    | cons v ws ih =>
      intro a
      rw [List.foldl_cons, ih, if_pos rfl, Nat.testBit_and, List.all_cons, Bool.and_assoc]
  intro ws
  unfold joinN
  rw [key, if_pos rfl, ones_bit hd, Bool.true_and]
theorem join_or {d : Nat} : ∀ (ws : List Nat), (joinN 3 ws).testBit d = ws.any fun w => w.testBit d := by
  have key : ∀ (ws : List Nat) (a : Nat), (ws.foldl (fun w v => if (3 : Nat) = 2 then w &&& v else if (3 : Nat) = 3 then w ||| v else w ^^^ v) a).testBit d = (a.testBit d || ws.any fun w => w.testBit d) := by
    intro ws
    induction ws with
    | nil => intro a; simp
    | cons v ws ih =>
      intro a
      rw [List.foldl_cons, ih, if_neg (by decide), if_pos rfl, Nat.testBit_or, List.any_cons, Bool.or_assoc]
  intro ws
  unfold joinN
  rw [key, if_neg (by decide), Nat.zero_testBit, Bool.false_or]
/-! ### What a node needs -/
def markS (ns : List Ndp) (need : List Nat) (i : Nat) : List Nat := match ns[i]? with
  | some n => if need.getD i 0 = 0 ∨ n.k = 1 then need else n.l.foldl (fun nd k => nd.set k 1) need
  | none => need
def markA (ns : List Ndp) : Nat → List Nat → List Nat
  | 0, need => need
  | i + 1, need => markA ns i (markS ns need i)
def needF (ns : List Ndp) (n : Nat) : List Nat := markA ns (n + 1) ((List.replicate (n + 1) 0).set n 1)
def needP (ns : List Ndp) (n : Nat) : List Nat := (List.range (n + 1)).filter fun i => decide (0 < (needF ns n).getD i 0)
theorem setAll_len : ∀ (l : List Nat) (nd : List Nat), (l.foldl (fun nd k => nd.set k 1) nd).length = nd.length
  | [], nd => rfl
  | k :: l, nd => by rw [List.foldl_cons, setAll_len l, List.length_set]
theorem setAll_get : ∀ (l : List Nat) (nd : List Nat) (j : Nat), j < nd.length → (l.foldl (fun nd k => nd.set k 1) nd).getD j 0 = if j ∈ l then 1 else nd.getD j 0
  | [], nd, j, h => by simp
  | k :: l, nd, j, h => by
    rw [List.foldl_cons, setAll_get l _ j (by rw [List.length_set]; exact h)]
    by_cases h1 : j ∈ l
    · rw [if_pos h1, if_pos (List.mem_cons_of_mem _ h1)]
    · rw [if_neg h1]
      by_cases h2 : j = k
      · subst h2
        rw [if_pos (by simp), List.getD_eq_getElem?_getD, List.getElem?_set_self h]
        rfl
      · rw [if_neg (by simp [h1, h2]), List.getD_eq_getElem?_getD, List.getElem?_set_ne (Ne.symm h2), ← List.getD_eq_getElem?_getD]
theorem markS_len (ns : List Ndp) (need : List Nat) (i : Nat) : (markS ns need i).length = need.length := by
  unfold markS
  split
  · split
    · rfl
    · exact setAll_len _ _
  · rfl
theorem markA_len (ns : List Ndp) : ∀ (i : Nat) (need : List Nat), (markA ns i need).length = need.length
  | 0, need => rfl
  | i + 1, need => by unfold markA; rw [markA_len ns i, markS_len]
theorem markS_at {ns : List Ndp} {sets : Nat} (h : NdsOk ns sets) {need : List Nat} {i j : Nat} (hj : j < need.length) : (need.getD j 0 = 1 → (markS ns need i).getD j 0 = 1) ∧ (i ≤ j → (markS ns need i).getD j 0 = need.getD j 0) := by
  unfold markS
  cases e : ns[i]? with
  | none => exact ⟨id, fun _ => rfl⟩
  | some n =>
    simp only
    split
    · exact ⟨id, fun _ => rfl⟩
    · rename_i hc
      rw [setAll_get _ _ _ hj]
      refine ⟨fun h1 => by split <;> first | rfl | exact h1, fun hij => ?_⟩
      rw [if_neg fun hm => ?_]
      have := (h i n e).kids (fun h1 => hc (.inr h1)) j hm
      omega
theorem markA_at {ns : List Ndp} {sets : Nat} (h : NdsOk ns sets) : ∀ {i : Nat} {need : List Nat} {j : Nat}, j < need.length → (need.getD j 0 = 1 → (markA ns i need).getD j 0 = 1) ∧ (i ≤ j → (markA ns i need).getD j 0 = need.getD j 0)
  | 0, need, j, hj => ⟨id, fun _ => rfl⟩
  | i + 1, need, j, hj => by
    unfold markA
    obtain ⟨h1, h2⟩ := markA_at h (i := i) (need := markS ns need i) (j := j) (by rw [markS_len]; exact hj)
    obtain ⟨h3, h4⟩ := markS_at h (i := i) hj
    exact ⟨fun h0 => h1 (h3 h0), fun hij => (h2 (by omega)).trans (h4 (by omega))⟩
theorem markA_kids {ns : List Ndp} {sets : Nat} (h : NdsOk ns sets) : ∀ {i : Nat} {need : List Nat} {j : Nat} {n : Ndp}, j < i → i ≤ need.length → ns[j]? = some n → n.k ≠ 1 → (markA ns i need).getD j 0 ≠ 0 → ∀ k, k ∈ n.l → (markA ns i need).getD k 0 = 1
  | 0, _, _, _, h1, _, _, _, _ => by omega
  | i + 1, need, j, n, h1, h2, h3, h4, h5 => by
    intro k hk
    unfold markA at h5 ⊢
    by_cases hji : j = i
    · subst hji
      have hkj := (h j n h3).kids h4 k hk
      have e1 := (markA_at h (i := j) (need := markS ns need j) (j := j) (by rw [markS_len]; omega)).2 (Nat.le_refl _)
      rw [e1, (markS_at h (i := j) (by omega)).2 (Nat.le_refl _)] at h5
      refine (markA_at h (by rw [markS_len]; omega)).1 ?_
      unfold markS
      rw [h3]
      simp only
      rw [if_neg (fun hc => hc.elim h5 h4), setAll_get _ _ _ (by omega), if_pos hk]
    · exact markA_kids h (by omega) (by rw [markS_len]; omega) h3 h4 h5 k hk
theorem needF_len (ns : List Ndp) (n : Nat) : (needF ns n).length = n + 1 := by
  unfold needF; rw [markA_len]; simp
theorem needF_self {ns : List Ndp} {sets n : Nat} (h : NdsOk ns sets) : (needF ns n).getD n 0 = 1 := by
  refine (markA_at h (by simp)).1 ?_
  rw [List.getD_eq_getElem?_getD, List.getElem?_set_self (by simp)]
  rfl
theorem mem_need {ns : List Ndp} {n i : Nat} : i ∈ needP ns n ↔ i ≤ n ∧ 0 < (needF ns n).getD i 0 := by
  unfold needP
  simp [Nat.lt_succ_iff]
theorem need_self {ns : List Ndp} {sets n : Nat} (h : NdsOk ns sets) : n ∈ needP ns n := mem_need.2 ⟨Nat.le_refl _, by rw [needF_self h]; decide⟩
theorem need_kids {ns : List Ndp} {sets n i k : Nat} {m : Ndp} (h : NdsOk ns sets) (hi : i ∈ needP ns n) (hm : ns[i]? = some m) (h1 : m.k ≠ 1) (hk : k ∈ m.l) : k ∈ needP ns n := by
  obtain ⟨h2, h3⟩ := mem_need.1 hi
  have hki := (h i m hm).kids h1 k hk
  refine mem_need.2 ⟨by omega, ?_⟩
  have := markA_kids h (i := n + 1) (need := (List.replicate (n + 1) 0).set n 1) (by omega) (by simp) hm h1 (by unfold needF at h3; omega) k hk
  unfold needF
  omega
theorem need_rise (ns : List Ndp) (n : Nat) : RiseN (needP ns n) := by
  unfold needP
  refine riseN_filter ?_
  rw [List.range_eq_range']
  exact rise_range' _ _
end Go.Viv
end

/-
  Words' bits and shifts in a walk over the tree. No program in sight.
-/
section
set_option linter.unusedSimpArgs false
set_option linter.unusedVariables false
namespace Go.Sym
open Go Go.RowKit Go.Viv Go.Eva
section
variable {P : Program} {H : Tr AObj} {t : TypeId} {ox oy : Operand}
theorem b_and64 {a b : Nat} (ha : a < 18446744073709551616) (hb : b < 18446744073709551616) : binB P H .and t ox oy (.int .u64 (a : Int)) (.int .u64 (b : Int)) = some (.int .u64 ((a &&& b : Nat) : Int)) := by
  rw [← u64_and_nat a b ha hb]; rfl
theorem b_or64 {a b : Nat} (ha : a < 18446744073709551616) (hb : b < 18446744073709551616) : binB P H .or t ox oy (.int .u64 (a : Int)) (.int .u64 (b : Int)) = some (.int .u64 ((a ||| b : Nat) : Int)) := by
  rw [← u64_or_nat a b ha hb]; rfl
theorem b_xor64 {a b : Nat} (ha : a < 18446744073709551616) (hb : b < 18446744073709551616) : binB P H .xor t ox oy (.int .u64 (a : Int)) (.int .u64 (b : Int)) = some (.int .u64 ((a ^^^ b : Nat) : Int)) := by
  rw [← u64_xor_nat a b ha hb]; rfl
theorem ones_xor {a : Nat} (ha : a < 18446744073709551616) : ones ^^^ a = ones - a := by
  apply Nat.eq_of_testBit_eq
  intro d
  rw [Nat.testBit_xor]
  rcases Nat.lt_or_ge d 64 with hd | hd
  · rw [ones_bit hd, not_bit ha hd, Bool.true_xor]
  · have h1 : ∀ x, x < 18446744073709551616 → x.testBit d = false := fun x hx => Nat.testBit_lt_two_pow (Nat.lt_of_lt_of_le hx (show (2 : Nat) ^ 64 ≤ 2 ^ d from Nat.pow_le_pow_right (by decide) hd))
    rw [h1 _ (by decide), h1 a ha, h1 (ones - a) (by unfold ones; omega)]
    rfl
theorem un_xor64 {a : Nat} (ha : a < 18446744073709551616) : unB .xor (.int .u64 (a : Int)) = some (.int .u64 ((ones - a : Nat) : Int)) := by
  rw [← ones_xor ha, ← u64_xor_nat ones a (by decide) ha]; rfl
theorem un_xor0 : unB .xor (.int .u64 0) = some (.int .u64 ((ones : Nat) : Int)) := by rfl
theorem b_shl (yk : IntKind) {a : Int} {k : Nat} {y : Int} (hy : y = (k : Int)) (hk : k ≤ 64) (h1 : -9223372036854775808 ≤ a * 2 ^ k) (h2 : a * 2 ^ k ≤ 9223372036854775807) : binB P H .shl t ox oy (.int .i64 a) (.int yk y) = some (.int .i64 (a * 2 ^ k)) := by
  subst hy
  rw [bin_int, binOp_shl]
  unfold Op.shift
  rw [if_neg (by omega)]
  simp only
  rw [show min ((k : Int).toNat) IntKind.i64.bits = k by simp [IntKind.bits]; omega]
  rw [wrap_id h1 h2]
  rfl
theorem b_shr (yk : IntKind) {a : Int} {k : Nat} {y : Int} (hy : y = (k : Int)) (hk : k ≤ 64) : binB P H .shr t ox oy (.int .i64 a) (.int yk y) = some (.int .i64 (a / 2 ^ k)) := by
  subst hy
  rw [bin_int, binOp_shr]
  unfold Op.shift
  rw [if_neg (by omega)]
  simp only
  rw [show min ((k : Int).toNat) IntKind.i64.bits = k by simp [IntKind.bits]; omega]
  rw [Int.fdiv_eq_ediv_of_nonneg _ (by exact_mod_cast Nat.zero_le _)]
  rfl
theorem b_shl0 (yk : IntKind) {a : Int} (h1 : -9223372036854775808 ≤ a) (h2 : a ≤ 9223372036854775807) : binB P H .shl t ox oy (.int .i64 a) (.int yk 0) = some (.int .i64 a) := by
  have := b_shl (P := P) (H := H) (t := t) (ox := ox) (oy := oy) yk (a := a) (k := 0) rfl (by omega) (by simpa using h1) (by simpa using h2)
  simpa using this
theorem b_shl6 (yk : IntKind) {a : Int} (h1 : -144115188075855872 ≤ a) (h2 : a ≤ 144115188075855871) : binB P H .shl t ox oy (.int .i64 a) (.int yk 6) = some (.int .i64 (a * 64)) :=
  b_shl yk (k := 6) rfl (by omega) (by simp; omega) (by simp; omega)
theorem b_shl12 (yk : IntKind) {a : Int} (h1 : 0 ≤ a) (h2 : a ≤ 16777216) : binB P H .shl t ox oy (.int .i64 a) (.int yk 12) = some (.int .i64 (a * 4096)) :=
  b_shl yk (k := 12) rfl (by omega) (by simp; omega) (by simp; omega)
theorem b_shl18 (yk : IntKind) {a : Int} (h1 : 0 ≤ a) (h2 : a ≤ 16777216) : binB P H .shl t ox oy (.int .i64 a) (.int yk 18) = some (.int .i64 (a * 262144)) :=
  b_shl yk (k := 18) rfl (by omega) (by simp; omega) (by simp; omega)
theorem b_shl24 (yk : IntKind) {a : Int} (h1 : 0 ≤ a) (h2 : a ≤ 16777216) : binB P H .shl t ox oy (.int .i64 a) (.int yk 24) = some (.int .i64 (a * 16777216)) :=
  b_shl yk (k := 24) rfl (by omega) (by simp; omega) (by simp; omega)
theorem b_shr6 (yk : IntKind) {a : Int} : binB P H .shr t ox oy (.int .i64 a) (.int yk 6) = some (.int .i64 (a / 64)) :=
  b_shr yk (k := 6) rfl (by omega)
theorem b_and63 {a : Nat} : binB P H .and t ox oy (.int .i64 (a : Int)) (.int .i64 63) = some (.int .i64 ((a % 64 : Nat) : Int)) := by
  rw [← and_nat a 63 6 (by decide) (by decide)]; rfl
theorem or_low {x d : Nat} (hd : d < 64) : x * 64 ||| d = x * 64 + d := by
  have := Nat.shiftLeft_add_eq_or_of_lt (a := x) (i := 6) (b := d) hd
  rw [Nat.shiftLeft_eq] at this
  exact this.symm
theorem b_orlow {x d : Nat} (hd : d < 64) (hx : x < 16777216) : binB P H .or t ox oy (.int .i64 ((x : Int) * 64)) (.int .i64 (d : Int)) = some (.int .i64 ((x * 64 + d : Nat) : Int)) := by
  have e : (x : Int) * 64 = ((x * 64 : Nat) : Int) := by omega
  rw [e]
  have h : semV (binOp .or t (.int .i64 ((x * 64 : Nat) : Int)) (.int .i64 (d : Int))) = some (.int .i64 (bits .or .i64 ((x * 64 : Nat) : Int) (d : Int))) := rfl
  rw [bin_int, h]
  have hb : bits .or .i64 ((x * 64 : Nat) : Int) (d : Int) = ((x * 64 + d : Nat) : Int) := by
    show IntKind.i64.wrap ((BitVec.ofInt 64 ((x * 64 : Nat) : Int) ||| BitVec.ofInt 64 (d : Int)).toNat : Int) = _
    rw [BitVec.toNat_or, BitVec.ofInt_natCast, BitVec.ofInt_natCast, BitVec.toNat_ofNat, BitVec.toNat_ofNat, Nat.mod_eq_of_lt (by omega), Nat.mod_eq_of_lt (by omega), or_low hd, wrap_id (by omega) (by omega)]
  rw [hb]
theorem conv_id {P : Program} {s d : TypeId} {k : IntKind} {a : Int} (h : runV P (Go.convert s d (.int .i64 a)) = some (.int k a)) : convB P s d (.int .i64 a) = some (.int k a) := h
end
def wordsC (l : List Nat) : List Value := l.map fun (n : Nat) => Value.int .u64 (n : Int)
def wordsL : List Value → Option (List Nat)
  | [] => some []
  | .int .u64 (.ofNat n) :: l => (wordsL l).map (n :: ·)
  | _ => none
theorem wordsL_eq : ∀ {vs : List Value} {l : List Nat}, wordsL vs = some l → vs = wordsC l
  | [], l, h => by simp [wordsL] at h; subst h; rfl
  | v :: vs, l, h => by
    unfold wordsL at h
    split at h <;> try (cases h; done)
    · rename_i e; cases e
    · rename_i a l' e
      cases e
      obtain ⟨m, h1, rfl⟩ := Option.map_eq_some_iff.1 h
      rw [wordsL_eq h1]; rfl
theorem wordsL_of : ∀ l : List Nat, wordsL (wordsC l) = some l
  | [] => rfl
  | a :: l => by
    show (wordsL (wordsC l)).map (a :: ·) = _
    rw [wordsL_of l]; rfl
theorem wordsC_len (l : List Nat) : (wordsC l).length = l.length := by simp [wordsC]
theorem wordsC_get {l : List Nat} {j y : Nat} (hy : l[j]? = some y) : (wordsC l)[j]? = some (.int .u64 (y : Int)) := by
  unfold wordsC; rw [List.getElem?_map, hy]; rfl
theorem words_at {l : List Nat} {j y : Nat} (hy : l[j]? = some y) : ((wordsC l).drop (j * 1)).take 1 = [.int .u64 (y : Int)] := by
  rw [Nat.mul_one]
  obtain ⟨p1, p2⟩ := List.getElem?_eq_some_iff.1 (wordsC_get hy)
  rw [List.drop_eq_getElem_cons p1, p2]
  rfl
end Go.Sym
namespace Go.Proofs.YtmcigeebeoobdaaGreatDoor
open Go Go.RowKit Go.Viv Go.Eva Go.Sym
theorem ints_at {l : List Int} {j : Nat} {y : Int} (hy : l[j]? = some y) : ((intsC l).drop (j * 1)).take 1 = [.int .i64 y] := by
  rw [Nat.mul_one]
  have h1 : (intsC l)[j]? = some (.int .i64 y) := by unfold intsC; rw [List.getElem?_map, hy]; rfl
  obtain ⟨p1, p2⟩ := List.getElem?_eq_some_iff.1 h1
  rw [List.drop_eq_getElem_cons p1, p2]
  rfl
end Go.Proofs.YtmcigeebeoobdaaGreatDoor
end
