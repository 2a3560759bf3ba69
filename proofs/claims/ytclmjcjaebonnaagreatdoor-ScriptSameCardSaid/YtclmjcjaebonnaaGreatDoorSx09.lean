/-
  Several texts in one. Contracts of package hibit: least, Next.
-/
import Derived.Test.YtclmjcjaebonnaaGreatDoorSx08
import Derived.Test.YtclmjcjaebonnaaGreatDoorSx06
import Derived.Test.YtclmjcjaebonnaaGreatDoorProg
import Derived.Test.YtclmjcjaebonnaaGreatDoorSx07
import Derived.Outline
import Derived.Lib.Hide
import Derived.BigQuiet
section
namespace Go.Viv
open Go.RowKit
theorem tree_may {w : World} {p : Nat} {l : List Nat} {S : Nat → Prop} {nb : Nat → Nat → Option Nat} (h : Tree w p l S nb) {L a b word : Nat} {kid : Nat → Option Nat} (hb : nb L a = some b) (hn : NodeC w b word kid) : ∀ i ∈ l, a * 64 ^ (L + 1) ≤ i → i < a * 64 ^ (L + 1) + 64 * 64 ^ L → word.testBit ((i - a * 64 ^ (L + 1)) / 64 ^ L) = true := by
  intro i hi h1 h2
  obtain ⟨_, word', _, hn', hbit⟩ := h.node _ _ _ hb
  obtain rfl := hn.word_eq hn'
  have hS : 0 < 64 ^ L := Nat.pow_pos (by decide)
  have hd : (i - a * 64 ^ (L + 1)) / 64 ^ L < 64 := Nat.div_lt_of_lt_mul (by rw [Nat.mul_comm (64 ^ L) 64]; omega)
  have e : i / 64 ^ L = a * 64 + (i - a * 64 ^ (L + 1)) / 64 ^ L := by
    have e1 : i = (i - a * 64 ^ (L + 1)) + 64 ^ L * (a * 64) := by
      have : a * 64 ^ (L + 1) = 64 ^ L * (a * 64) := by rw [Nat.pow_succ, Nat.mul_comm (64 ^ L) 64, ← Nat.mul_assoc, Nat.mul_comm (a * 64) (64 ^ L)]
      omega
    conv => lhs; rw [e1]
    rw [Nat.add_mul_div_left _ _ hS, Nat.add_comm]
  rw [hbit _ hd]
  cases L with
  | zero =>
    show decide (a * 64 + (i - a * 64 ^ (0 + 1)) / 64 ^ 0 ∈ l) = true
    rw [← e]
    simpa using hi
  | succ M =>
    show (nb M (a * 64 + (i - a * 64 ^ (M + 1 + 1)) / 64 ^ (M + 1))).isSome = true
    rw [← e]
    obtain ⟨c, hc⟩ := h.path hi M (by have := h.high _ _ _ hb; omega)
    rw [hc]
    rfl
end Go.Viv
namespace Go.Proofs.YtclmjcjaebonnaaGreatDoor
open Go.RowKit Go.Viv
/-- What least answers. -/
def LeastC (L : Nat) : Prop := ∀ (p : Nat) (l : List Nat) (S : Nat → Prop) (nb : Nat → Nat → Option Nat) (a b frm : Nat) (w : World), Tree w p l S nb → RiseN l → TabH w → nb L a = some b → frm ≤ 16777216 →
  Calls Tryz.prog 184 #[.pointer (some ⟨b, 0, none⟩), .int .i64 (L : Int), .int .i64 (frm : Int)] w fun e w' => e = .returned (.int .i64 (orNone (leastIn l (a * 64 ^ (L + 1)) (64 * 64 ^ L) frm))) ∧ Fr (fun _ => False) w w'
set_option maxRecDepth 100000 in
set_option maxHeartbeats 2000000 in
theorem least_0 : LeastC 0 := by
  intro p l S nb a b frm w ht hr hT hb hf
  obtain ⟨_, word, hw, hN, hbit⟩ := ht0 ht hb
  have hmay := tree_may ht hb hN
  simp only [Nat.pow_zero, Nat.mul_one, Nat.zero_add, Nat.pow_one] at hmay ⊢
  have c0 := hN.cell0
  have hwf : IntKind.i64.wrap (frm : Int) = frm := by rw [IntKind.wrap_i64]; omega
  have HF := Lib.hid (fun k W (hW : Fr (fun _ => False) w W) => first_w word hw k W (hT.fr hW))
  have HX := Lib.hid (And.intro hmay (And.intro hr hbit))
  obtain ⟨z0, hz0⟩ : ∃ z, orNone (nextN (bitsOf word) frm) = z := ⟨_, rfl⟩
  have HF0 := Lib.hid (HF.out frm w.drew (Fr.refl _ _).drew)
  rw [hz0] at HF0
  have HZ0 := Lib.hid hz0
  clear hz0
  clear ht hT hb hN hmay hbit hr
  go_enter Tryz.func184, Tryz.ntmps184
  go_wp2_with fail
  refine Ord.wp_region_one #[0, 1, 3, 7, 0, 0, 48, 127, 255] [(0, true), (1, true), (2, true), (3, true), (4, true), (5, true), (6, true), (7, true), (8, true)] [] (by kernel_rfl) (by kernel_rfl) (by intro c d v a w h; cases d <;> exact h) ?_
  simp only [Ord.pick, List.map_cons, List.map_nil, List.getElem?_toArray, List.getElem?_cons_succ, List.getElem?_cons_zero]
  iterate 9 (apply Ord.c_step; intro K hK; go_simp; first | (refine hK _ ?_; clear hK K) | (apply Exists.intro; refine ⟨?_, hK _ ?_⟩; (go_at_call 172; exact HF0.out); clear hK K))
  refine Ord.c_nil ?_
  go_wp2_with fail
  go_loopw [8, 9] (fun t _ wr => ∃ (k : Nat) (z : Int), t = .int .i64 z ∧ orNone (nextN (bitsOf word) k) = z ∧ LeastAt l (a * 64) 1 frm k ∧ Fr (fun _ => False) w wr) (fun t _ _ => bitsLeft t)
  case atStart => exact ⟨frm, z0, rfl, HZ0.out, by have := LeastAt.start (l := l) (lo := a * 64) (SZ := 1) (frm := frm); rwa [Nat.div_one] at this, (Fr.refl _ _).drew⟩
  case round =>
    obtain ⟨k, z, rfl, hz, hat, hfr⟩ := hrel
    cases hn : nextN (bitsOf word) k with
    | none =>
      obtain rfl : z = -1 := by rw [← hz, hn]; rfl
      have HE := Lib.hid (And.intro (hat.exit HX.out.2.1 (by decide) (by simpa using HX.out.1) hn) hfr)
      clear hn hat hfr hz
      go_wp2
      go_ret
      exact ⟨by rw [show (64 : Nat) = 64 * 1 from rfl, HE.out.1]; rfl, HE.out.2⟩
    | some d =>
      obtain rfl : z = (d : Int) := by rw [← hz, hn]; rfl
      obtain ⟨n1, n2, _⟩ := nextN_some (rise_bits word) hn
      have hd := (mem_bits.1 n1)
      have HE := Lib.hid (And.intro (show leastIn l (a * 64) 64 frm = some d from by
        have h1 : leastIn l (a * 64 + d * 1) 1 (frm - d * 1) = some 0 := (leastIn_some HX.out.2.1).2 ⟨by
          have := HX.out.2.2 d hd.1
          rw [hd.2] at this
          simpa using this.symm, by have := hat.1; rw [Nat.div_one] at this; omega, by decide, fun i _ h => by omega⟩
        have := hat.hit HX.out.2.1 (by decide) (by simpa using HX.out.1) hn h1
        simpa using this) hfr)
      clear hn hat hfr n1 n2 hd hz
      go_wp2
      go_ret
      exact ⟨by rw [HE.out.1]; rfl, HE.out.2⟩
theorem first_f (word d : Nat) (hw : word < 18446744073709551616) (W : World) (hT : TabH W) : ∃ z, orNone (nextN (bitsOf word) (d + 1)) = z ∧ Calls Tryz.prog 172 #[.int .u64 word, .int .i64 ((d : Int) + 1)] W fun e w' => e = .returned (.int .i64 z) ∧ w' = W :=
  ⟨_, rfl, by have := first_w word hw (d + 1) W hT; rwa [show ((d + 1 : Nat) : Int) = (d : Int) + 1 from by omega] at this⟩
theorem wrap_small {q : Nat} (h : q ≤ 16777216) : IntKind.i64.wrap (q : Int) = q := by
  rw [IntKind.wrap_i64]; omega
theorem bits_less {word d : Nat} (hd : d < 64) {z : Int} (hz : orNone (nextN (bitsOf word) (d + 1)) = z) : bitsLeft (.int .i64 z) < bitsLeft (.int .i64 (d : Int)) := by
  cases hn : nextN (bitsOf word) (d + 1) with
  | none =>
    rw [hn] at hz
    subst hz
    show (if (-1 : Int) < 0 then 0 else 65 - (-1 : Int).toNat) < (if (d : Int) < 0 then 0 else 65 - (d : Int).toNat)
    rw [if_pos (by decide), if_neg (by omega), Int.toNat_natCast]
    omega
  | some d' =>
    rw [hn] at hz
    subst hz
    obtain ⟨_, h2, _⟩ := nextN_some (rise_bits word) hn
    show (if (d' : Int) < 0 then 0 else 65 - (d' : Int).toNat) < (if (d : Int) < 0 then 0 else 65 - (d : Int).toNat)
    rw [if_neg (by omega), if_neg (by omega), Int.toNat_natCast, Int.toNat_natCast]
    omega
set_option maxRecDepth 100000 in
set_option maxHeartbeats 4000000 in
theorem least_s (M : Nat) (hM : M ≤ 2) (ih : LeastC M) : LeastC (M + 1) := by
  intro p l S nb a b frm w ht hr hT hb hf
  obtain ⟨_, word, hw, hN, hbit⟩ := ht.node _ _ _ hb
  have hmay := tree_may ht hb hN
  have hS : 0 < 64 ^ (M + 1) := Nat.pow_pos (by decide)
  have e1 : ∀ d, (a * 64 + d) * 64 ^ (M + 1) = a * 64 ^ (M + 1 + 1) + d * 64 ^ (M + 1) := fun d => by
    rw [Nat.add_mul, Nat.pow_succ 64 (M + 1), Nat.mul_assoc, Nat.mul_comm 64 (64 ^ (M + 1))]
  have e2 : 64 * 64 ^ M = 64 ^ (M + 1) := by rw [Nat.pow_succ, Nat.mul_comm]
  have HI := Lib.hid (fun (d c frm' : Nat) W (hW : Fr (fun _ => False) w W) (hc : nb M (a * 64 + d) = some c) (hf' : frm' ≤ 16777216) => show Calls Tryz.prog 184 #[.pointer (some ⟨c, 0, none⟩), .int .i64 (M : Int), .int .i64 (frm' : Int)] W fun e w' => e = .returned (.int .i64 (orNone (leastIn l (a * 64 ^ (M + 1 + 1) + d * 64 ^ (M + 1)) (64 ^ (M + 1)) frm'))) ∧ Fr (fun _ => False) W w' from by
    have := ih p l S nb (a * 64 + d) c frm' W (ht.frF hW) hr (hT.fr hW) hc hf'
    rwa [e1, e2] at this)
  have c0 := hN.cell0
  have HF := Lib.hid (fun d W (hW : Fr (fun _ => False) w W) => first_f word d hw W (hT.fr hW))
  have HF0' := first_w word hw (frm / 64 ^ (M + 1)) w.drew (hT.fr (Fr.refl _ _).drew)
  obtain ⟨z0, hz0⟩ : ∃ z, orNone (nextN (bitsOf word) (frm / 64 ^ (M + 1))) = z := ⟨_, rfl⟩
  rw [hz0] at HF0'
  have HC := Lib.hid (fun (d : Nat) (hd : d < 64) (hb2 : word.testBit d = true) => show ∃ c, nb M (a * 64 + d) = some c ∧ ∀ W, Fr (fun _ => False) w W → W.cell? ⟨b, 1 + d, none⟩ = some (.pointer (some ⟨c, 0, none⟩)) from by
    have h1 := hbit d hd
    rw [hb2] at h1
    obtain ⟨c, hc⟩ := Option.isSome_iff_exists.1 (show (nb M (a * 64 + d)).isSome = true from h1.symm)
    refine ⟨c, hc, fun W hW => ?_⟩
    have := (hN.fr hW (fun h => h)).cellK hd
    rw [this]
    show some (ptrV (nb M (a * 64 + d))) = _
    rw [hc]
    rfl)
  have HC0 := Lib.hid (fun W (hW : Fr (fun _ => False) w W) => (hN.fr hW (fun h => h)).cell0)
  obtain ⟨LO, hLO⟩ : ∃ LO, a * 64 ^ (M + 1 + 1) = LO := ⟨_, rfl⟩
  obtain ⟨SZ, hSZ⟩ : ∃ SZ, 64 ^ (M + 1) = SZ := ⟨_, rfl⟩
  rw [hLO, hSZ] at HI hmay
  rw [hSZ] at HF0' hz0 hS
  rw [hLO, hSZ]
  have hbl := hN.lt
  have HX := Lib.hid (And.intro hmay (And.intro hr (And.intro hS hz0)))
  have hMS : M = 0 ∧ SZ = 64 ∨ M = 1 ∧ SZ = 4096 ∨ M = 2 ∧ SZ = 262144 := by
    have : M = 0 ∨ M = 1 ∨ M = 2 := by omega
    rcases this with rfl | rfl | rfl
    · exact .inl ⟨rfl, hSZ.symm⟩
    · exact .inr (.inl ⟨rfl, hSZ.symm⟩)
    · exact .inr (.inr ⟨rfl, hSZ.symm⟩)
  have hwf' : ∀ t : Int, t = (SZ : Int) → IntKind.i64.wrap ((frm : Int) / t) = ((frm / SZ : Nat) : Int) := by
    rintro t rfl
    rw [← Int.natCast_ediv]
    exact wrap_small (Nat.le_trans (Nat.div_le_self _ _) hf)
  obtain ⟨q, hqe⟩ : ∃ q, frm / SZ = q := ⟨_, rfl⟩
  rw [hqe] at HF0' hwf'
  have HF0 := Lib.hid HF0'
  clear ht hT hb hN hmay hbit hr ih e1 e2 hLO hSZ HF0' hz0 hS hqe
  rcases hMS with ⟨rfl, rfl⟩ | ⟨rfl, rfl⟩ | ⟨rfl, rfl⟩
  · have hwf := hwf' 64 rfl
    clear hwf'
    go_enter Tryz.func184, Tryz.ntmps184
    go_wp2_with fail
    refine Ord.wp_region_one #[0, 1, 3, 7, 0, 0, 48, 127, 255] [(0, true), (1, true), (2, true), (3, true), (4, true), (5, true), (6, true), (7, true), (8, true)] [] (by kernel_rfl) (by kernel_rfl) (by intro c d v a w h; cases d <;> exact h) ?_
    simp only [Ord.pick, List.map_cons, List.map_nil, List.getElem?_toArray, List.getElem?_cons_succ, List.getElem?_cons_zero]
    iterate 9 (apply Ord.c_step; intro K hK; go_simp; first | (refine hK _ ?_; clear hK K) | (apply Exists.intro; refine ⟨?_, hK _ ?_⟩; (go_at_call 172; exact HF0.out); clear hK K))
    refine Ord.c_nil ?_
    go_wp2_with fail
    go_loopw [8, 9] (fun t _ wr => ∃ (k : Nat) (z : Int), t = .int .i64 z ∧ orNone (nextN (bitsOf word) k) = z ∧ LeastAt l LO 64 frm k ∧ Fr (fun _ => False) w wr) (fun t _ _ => bitsLeft t)
    case atStart => exact ⟨frm / 64, z0, rfl, HX.out.2.2.2, LeastAt.start, (Fr.refl _ _).drew⟩
    case round =>
      obtain ⟨k, z, rfl, hz, hat, hfr⟩ := hrel
      cases hn : nextN (bitsOf word) k with
      | none =>
        obtain rfl : z = -1 := by rw [← hz, hn]; rfl
        have HE := Lib.hid (And.intro (hat.exit HX.out.2.1 (by decide) HX.out.1 hn) hfr)
        clear hn hat hfr hz
        go_wp2
        go_ret
        exact ⟨by rw [HE.out.1]; rfl, HE.out.2⟩
      | some d =>
        obtain rfl : z = (d : Int) := by rw [← hz, hn]; rfl
        obtain ⟨n1, n2, _⟩ := nextN_some (rise_bits word) hn
        have hd := (mem_bits.1 n1)
        obtain ⟨c, hc, hck⟩ := HC.out d hd.1 hd.2
        have hrd := hck _ hfr
        obtain ⟨rr, hrr⟩ : ∃ rr, leastIn l (LO + d * 64) 64 (frm - d * 64) = rr := ⟨_, rfl⟩
        have HIc := Lib.hid (fun (t : Int) (ht : t = ((frm - d * 64 : Nat) : Int)) => by
          have := HI.out d c (frm - d * 64) wr hfr hc (by omega)
          rw [← ht, hrr] at this
          exact this)
        have HH := Lib.hid (And.intro hn (And.intro hrr (And.intro hat hd)))
        have hd64 : (d : Int) < 64 := by have := hd.1; omega
        clear hn hrr hat hd n1 n2 hz hck hc
        go_wp2_with fail
        all_goals
          refine (HIc.out _ ?_).mono ?_
          · omega
          rintro e w2 ⟨rfl, hfr2⟩
          cases rr with
          | some r =>
            rw [show orNone (some r) = (r : Int) from rfl]
            have hr64 := ((leastIn_some HX.out.2.1).1 HH.out.2.1).2.2.1
            have HE := Lib.hid (And.intro (HH.out.2.2.1.hit HX.out.2.1 (by decide) HX.out.1 HH.out.1 HH.out.2.1) (fr_two hfr hfr2))
            go_wp2
            go_ret
            exact ⟨by rw [HE.out.1]; rfl, HE.out.2⟩
          | none =>
            rw [show orNone none = (-1 : Int) from rfl]
            obtain ⟨z', hz', hF⟩ := HF.out d w2 (fr_two hfr hfr2)
            have HFd := Lib.hid (And.intro hz' hF)
            clear hz' hF
            have hw2 := HC0.out w2 (fr_two hfr hfr2)
            go_wp2_with fail
            refine HFd.out.2.mono ?_
            rintro e w3 ⟨rfl, rfl⟩
            go_wp2_with fail
            exact ⟨⟨d + 1, z', rfl, HFd.out.1, HH.out.2.2.1.miss HX.out.2.1 (by decide) HX.out.1 HH.out.1 HH.out.2.1, fr_two hfr hfr2⟩, bits_less HH.out.2.2.2.1 HFd.out.1⟩
  · have hwf := hwf' 4096 rfl
    clear hwf'
    go_enter Tryz.func184, Tryz.ntmps184
    go_wp2_with fail
    refine Ord.wp_region_one #[0, 1, 3, 7, 0, 0, 48, 127, 255] [(0, true), (1, true), (2, true), (3, true), (4, true), (5, true), (6, true), (7, true), (8, true)] [] (by kernel_rfl) (by kernel_rfl) (by intro c d v a w h; cases d <;> exact h) ?_
    simp only [Ord.pick, List.map_cons, List.map_nil, List.getElem?_toArray, List.getElem?_cons_succ, List.getElem?_cons_zero]
    iterate 9 (apply Ord.c_step; intro K hK; go_simp; first | (refine hK _ ?_; clear hK K) | (apply Exists.intro; refine ⟨?_, hK _ ?_⟩; (go_at_call 172; exact HF0.out); clear hK K))
    refine Ord.c_nil ?_
    go_wp2_with fail
    go_loopw [8, 9] (fun t _ wr => ∃ (k : Nat) (z : Int), t = .int .i64 z ∧ orNone (nextN (bitsOf word) k) = z ∧ LeastAt l LO 4096 frm k ∧ Fr (fun _ => False) w wr) (fun t _ _ => bitsLeft t)
    case atStart => exact ⟨frm / 4096, z0, rfl, HX.out.2.2.2, LeastAt.start, (Fr.refl _ _).drew⟩
    case round =>
      obtain ⟨k, z, rfl, hz, hat, hfr⟩ := hrel
      cases hn : nextN (bitsOf word) k with
      | none =>
        obtain rfl : z = -1 := by rw [← hz, hn]; rfl
        have HE := Lib.hid (And.intro (hat.exit HX.out.2.1 (by decide) HX.out.1 hn) hfr)
        clear hn hat hfr hz
        go_wp2
        go_ret
        exact ⟨by rw [HE.out.1]; rfl, HE.out.2⟩
      | some d =>
        obtain rfl : z = (d : Int) := by rw [← hz, hn]; rfl
        obtain ⟨n1, n2, _⟩ := nextN_some (rise_bits word) hn
        have hd := (mem_bits.1 n1)
        obtain ⟨c, hc, hck⟩ := HC.out d hd.1 hd.2
        have hrd := hck _ hfr
        obtain ⟨rr, hrr⟩ : ∃ rr, leastIn l (LO + d * 4096) 4096 (frm - d * 4096) = rr := ⟨_, rfl⟩
        have HIc := Lib.hid (fun (t : Int) (ht : t = ((frm - d * 4096 : Nat) : Int)) => by
          have := HI.out d c (frm - d * 4096) wr hfr hc (by omega)
          rw [← ht, hrr] at this
          exact this)
        have HH := Lib.hid (And.intro hn (And.intro hrr (And.intro hat hd)))
        have hd64 : (d : Int) < 64 := by have := hd.1; omega
        clear hn hrr hat hd n1 n2 hz hck hc
        go_wp2_with fail
        all_goals
          refine (HIc.out _ ?_).mono ?_
          · omega
          rintro e w2 ⟨rfl, hfr2⟩
          cases rr with
          | some r =>
            rw [show orNone (some r) = (r : Int) from rfl]
            have hr64 := ((leastIn_some HX.out.2.1).1 HH.out.2.1).2.2.1
            have HE := Lib.hid (And.intro (HH.out.2.2.1.hit HX.out.2.1 (by decide) HX.out.1 HH.out.1 HH.out.2.1) (fr_two hfr hfr2))
            go_wp2
            go_ret
            exact ⟨by rw [HE.out.1]; rfl, HE.out.2⟩
          | none =>
            rw [show orNone none = (-1 : Int) from rfl]
            obtain ⟨z', hz', hF⟩ := HF.out d w2 (fr_two hfr hfr2)
            have HFd := Lib.hid (And.intro hz' hF)
            clear hz' hF
            have hw2 := HC0.out w2 (fr_two hfr hfr2)
            go_wp2_with fail
            refine HFd.out.2.mono ?_
            rintro e w3 ⟨rfl, rfl⟩
            go_wp2_with fail
            exact ⟨⟨d + 1, z', rfl, HFd.out.1, HH.out.2.2.1.miss HX.out.2.1 (by decide) HX.out.1 HH.out.1 HH.out.2.1, fr_two hfr hfr2⟩, bits_less HH.out.2.2.2.1 HFd.out.1⟩
  · have hwf := hwf' 262144 rfl
    clear hwf'
    go_enter Tryz.func184, Tryz.ntmps184
    go_wp2_with fail
    refine Ord.wp_region_one #[0, 1, 3, 7, 0, 0, 48, 127, 255] [(0, true), (1, true), (2, true), (3, true), (4, true), (5, true), (6, true), (7, true), (8, true)] [] (by kernel_rfl) (by kernel_rfl) (by intro c d v a w h; cases d <;> exact h) ?_
    simp only [Ord.pick, List.map_cons, List.map_nil, List.getElem?_toArray, List.getElem?_cons_succ, List.getElem?_cons_zero]
    iterate 9 (apply Ord.c_step; intro K hK; go_simp; first | (refine hK _ ?_; clear hK K) | (apply Exists.intro; refine ⟨?_, hK _ ?_⟩; (go_at_call 172; exact HF0.out); clear hK K))
    refine Ord.c_nil ?_
    go_wp2_with fail
    go_loopw [8, 9] (fun t _ wr => ∃ (k : Nat) (z : Int), t = .int .i64 z ∧ orNone (nextN (bitsOf word) k) = z ∧ LeastAt l LO 262144 frm k ∧ Fr (fun _ => False) w wr) (fun t _ _ => bitsLeft t)
    case atStart => exact ⟨frm / 262144, z0, rfl, HX.out.2.2.2, LeastAt.start, (Fr.refl _ _).drew⟩
    case round =>
      obtain ⟨k, z, rfl, hz, hat, hfr⟩ := hrel
      cases hn : nextN (bitsOf word) k with
      | none =>
        obtain rfl : z = -1 := by rw [← hz, hn]; rfl
        have HE := Lib.hid (And.intro (hat.exit HX.out.2.1 (by decide) HX.out.1 hn) hfr)
        clear hn hat hfr hz
        go_wp2
        go_ret
        exact ⟨by rw [HE.out.1]; rfl, HE.out.2⟩
      | some d =>
        obtain rfl : z = (d : Int) := by rw [← hz, hn]; rfl
        obtain ⟨n1, n2, _⟩ := nextN_some (rise_bits word) hn
        have hd := (mem_bits.1 n1)
        obtain ⟨c, hc, hck⟩ := HC.out d hd.1 hd.2
        have hrd := hck _ hfr
        obtain ⟨rr, hrr⟩ : ∃ rr, leastIn l (LO + d * 262144) 262144 (frm - d * 262144) = rr := ⟨_, rfl⟩
        have HIc := Lib.hid (fun (t : Int) (ht : t = ((frm - d * 262144 : Nat) : Int)) => by
          have := HI.out d c (frm - d * 262144) wr hfr hc (by omega)
          rw [← ht, hrr] at this
          exact this)
        have HH := Lib.hid (And.intro hn (And.intro hrr (And.intro hat hd)))
        have hd64 : (d : Int) < 64 := by have := hd.1; omega
        clear hn hrr hat hd n1 n2 hz hck hc
        go_wp2_with fail
        all_goals
          refine (HIc.out _ ?_).mono ?_
          · omega
          rintro e w2 ⟨rfl, hfr2⟩
          cases rr with
          | some r =>
            rw [show orNone (some r) = (r : Int) from rfl]
            have hr64 := ((leastIn_some HX.out.2.1).1 HH.out.2.1).2.2.1
            have HE := Lib.hid (And.intro (HH.out.2.2.1.hit HX.out.2.1 (by decide) HX.out.1 HH.out.1 HH.out.2.1) (fr_two hfr hfr2))
            go_wp2
            go_ret
            exact ⟨by rw [HE.out.1]; rfl, HE.out.2⟩
          | none =>
            rw [show orNone none = (-1 : Int) from rfl]
            obtain ⟨z', hz', hF⟩ := HF.out d w2 (fr_two hfr hfr2)
            have HFd := Lib.hid (And.intro hz' hF)
            clear hz' hF
            have hw2 := HC0.out w2 (fr_two hfr hfr2)
            go_wp2_with fail
            refine HFd.out.2.mono ?_
            rintro e w3 ⟨rfl, rfl⟩
            go_wp2_with fail
            exact ⟨⟨d + 1, z', rfl, HFd.out.1, HH.out.2.2.1.miss HX.out.2.1 (by decide) HX.out.1 HH.out.1 HH.out.2.1, fr_two hfr hfr2⟩, bits_less HH.out.2.2.2.1 HFd.out.1⟩
/-- least at any level. -/
theorem least_any (L : Nat) (hL : L ≤ 3) : LeastC L := by
  match L, hL with
  | 0, _ => exact least_0
  | 1, _ => exact least_s 0 (by decide) least_0
  | 2, _ => exact least_s 1 (by decide) (least_s 0 (by decide) least_0)
  | 3, _ => exact least_s 2 (by decide) (least_s 1 (by decide) (least_s 0 (by decide) least_0))
end Go.Proofs.YtclmjcjaebonnaaGreatDoor
end

/-
  Contracts of package hibit: Next, Word, Clear.
-/
section
namespace Go.Viv
open Go.RowKit
theorem least_top {l : List Nat} (hl : ∀ i, i ∈ l → i < 16777216) (f : Nat) : leastIn l (0 * 64 ^ (3 + 1)) (64 * 64 ^ 3) f = nextN l f := by
  unfold leastIn
  rw [show 0 * 64 ^ (3 + 1) + f = f by omega]
  cases h : nextN l f with
  | none => rfl
  | some i =>
    have hi : i ∈ l := List.mem_of_find?_eq_some h
    have := hl i hi
    show (if i < 0 * 64 ^ (3 + 1) + 64 * 64 ^ 3 then some (i - 0 * 64 ^ (3 + 1)) else none) = some i
    rw [if_pos (by omega)]
    congr 1
/-- What a word of a level tells of the numbers. -/
def WordOf (l : List Nat) (L x wd : Nat) : Prop := wd < 18446744073709551616 ∧ (L = 0 → ∀ d, d < 64 → wd.testBit d = decide (x * 64 + d ∈ l)) ∧ ∀ i ∈ l, i / 64 ^ (L + 1) = x → wd.testBit (i / 64 ^ L % 64) = true
theorem word_at {w : World} {p : Nat} {l : List Nat} {S : Nat → Prop} {nb : Nat → Nat → Option Nat} (h : Tree w p l S nb) {L x b word : Nat} {kid : Nat → Option Nat} (hb : nb L x = some b) (hn : NodeC w b word kid) : WordOf l L x word := by
  obtain ⟨_, word', hw, hn', hbit⟩ := h.node _ _ _ hb
  obtain rfl := hn.word_eq hn'
  refine ⟨hw, ?_, ?_⟩
  · rintro rfl d hd
    exact hbit d hd
  · rintro i hi rfl
    have hd : i / 64 ^ L % 64 < 64 := Nat.mod_lt _ (by decide)
    have e : i / 64 ^ (L + 1) * 64 + i / 64 ^ L % 64 = i / 64 ^ L := by
      rw [Nat.pow_succ, ← Nat.div_div_eq_div_mul]
      omega
    rw [hbit _ hd]
    cases L with
    | zero =>
      show decide (i / 64 ^ (0 + 1) * 64 + i / 64 ^ 0 % 64 ∈ l) = true
      rw [e]
      simpa using hi
    | succ M =>
      show (nb M (i / 64 ^ (M + 1 + 1) * 64 + i / 64 ^ (M + 1) % 64)).isSome = true
      rw [e]
      obtain ⟨c, hc⟩ := h.path hi M (by have := h.high _ _ _ hb; omega)
      rw [hc]
      rfl
theorem word_none {w : World} {p : Nat} {l : List Nat} {S : Nat → Prop} {nb : Nat → Nat → Option Nat} (h : Tree w p l S nb) {L x : Nat} (hL : L ≤ 3) (hb : nb L x = none) : WordOf l L x 0 := by
  have hno : ∀ i ∈ l, i / 64 ^ (L + 1) ≠ x := by
    rintro i hi rfl
    obtain ⟨c, hc⟩ := h.path hi L hL
    rw [hb] at hc
    cases hc
  refine ⟨by decide, ?_, fun i hi e => absurd e (hno i hi)⟩
  rintro rfl d hd
  rw [Nat.zero_testBit]
  refine (decide_eq_false fun hm => ?_).symm
  have := hno _ hm
  simp only [Nat.zero_add, Nat.pow_one] at this
  omega
theorem next_far {l : List Nat} (hl : ∀ i, i ∈ l → i < 16777216) {f : Nat} (hf : 16777216 ≤ f) : nextN l f = none := nextN_none.2 fun x hx => by have := hl x hx; omega
end Go.Viv
namespace Go.Proofs.YtclmjcjaebonnaaGreatDoor
open Go.RowKit Go.Viv
set_option maxRecDepth 100000 in
set_option maxHeartbeats 1000000 in
theorem next_any (p : Nat) (k : Int) (l : List Nat) (S : Nat → Prop) (w : World) (h : SetIs w p l S) (hT : TabH w) :
    Calls Tryz.prog 140 #[.pointer (some ⟨p, 0, none⟩), .int .i64 k] w fun e w' => e = .returned (.int .i64 (orNone (nextN l k.toNat))) ∧ Fr (fun _ => False) w w' := by
  obtain ⟨nb, ht⟩ := h.tree
  by_cases hk : 16777216 ≤ k
  · rw [next_far ht.lt (show 16777216 ≤ k.toNat by omega)]
    clear h ht hT
    go_enter Tryz.func140, Tryz.ntmps140
    go_wp2
    go_ret
    exact ⟨rfl, Fr.refl _ _⟩
  · have hk' : k < 16777216 := by omega
    have HL := Lib.hid (fun W (hW : Fr (fun _ => False) w W) (t : Int) (ht' : t = (k.toNat : Int)) => show Calls Tryz.prog 184 #[.pointer (some ⟨p, 0, none⟩), .int .i64 3, .int .i64 t] W fun e w' => e = .returned (.int .i64 (orNone (nextN l k.toNat))) ∧ Fr (fun _ => False) W w' from by
      subst ht'
      have := least_any 3 (by decide) p l S nb 0 p k.toNat W (ht.frF hW) h.rise (hT.fr hW) ht.top (by omega)
      rwa [least_top ht.lt] at this)
    obtain ⟨z, hz⟩ : ∃ z, orNone (nextN l k.toNat) = z := ⟨_, rfl⟩
    rw [hz] at HL
    rw [hz]
    clear h ht hT hz
    go_enter Tryz.func140, Tryz.ntmps140
    go_wp2_with fail
    all_goals
      refine (HL.out w (Fr.refl _ _) _ ?_).mono ?_
      · omega
      rintro e w2 ⟨rfl, hf2⟩
      go_wp2
      go_ret
      exact ⟨rfl, hf2⟩
end Go.Proofs.YtclmjcjaebonnaaGreatDoor
end

/-
  Sets of numbers as whole structures of a run: what the calls of package hibit come to, by a table.
-/
section
namespace Go.Eva
open Go Go.RowKit Go.Viv
def hasN (i : Nat) : List Nat → Bool
  | [] => false
  | a :: l => match Nat.beq i a with
    | true => true
    | false => hasN i l
def insB (i : Nat) : List Nat → List Nat
  | [] => [i]
  | a :: l => match Nat.blt i a with
    | true => i :: a :: l
    | false => match Nat.beq i a with
      | true => a :: l
      | false => a :: insB i l
def remB (i : Nat) : List Nat → List Nat
  | [] => []
  | a :: l => match Nat.beq i a with
    | true => remB i l
    | false => a :: remB i l
def nextB (k : Nat) : List Nat → Int
  | [] => -1
  | a :: l => match Nat.ble k a with
    | true => .ofNat a
    | false => nextB k l
theorem hasN_eq (i : Nat) : ∀ l, hasN i l = decide (i ∈ l)
  | [] => by simp [hasN]
  | a :: l => by
    unfold hasN
    cases h : Nat.beq i a with
    | true => have := beq_iff h; simp [this]
    | false =>
      have h1 : i ≠ a := fun e => by rw [e, Nat.beq_refl] at h; cases h
      simp [hasN_eq i l, h1]
theorem insB_eq (i : Nat) : ∀ l, insB i l = insN i l
  | [] => rfl
  | a :: l => by
    unfold insB insN
    cases h : Nat.blt i a with
    | true => have := blt_iff h; simp [this]
    | false =>
      have h1 : ¬ i < a := fun h2 => by rw [show Nat.blt i a = true from Nat.ble_eq_true_of_le h2] at h; cases h
      rw [if_neg h1]
      cases h2 : Nat.beq i a with
      | true => have := beq_iff h2; simp [this]
      | false =>
        have h3 : i ≠ a := fun e => by rw [e, Nat.beq_refl] at h2; cases h2
        simp [insB_eq i l, h3]
theorem remB_eq (i : Nat) : ∀ l, remB i l = remN i l
  | [] => rfl
  | a :: l => by
    unfold remB
    have ih := remB_eq i l
    unfold remN at ih ⊢
    cases h : Nat.beq i a with
    | true => have := beq_iff h; subst this; simp [ih]
    | false =>
      have h3 : a ≠ i := fun e => by rw [e, Nat.beq_refl] at h; cases h
      simp [ih, h3]
theorem nextB_eq (k : Nat) : ∀ l, nextB k l = orNone (nextN l k)
  | [] => rfl
  | a :: l => by
    unfold nextB
    have ih := nextB_eq k l
    unfold nextN at ih ⊢
    cases h : Nat.ble k a with
    | true => have := ble_iff h; simp [this, orNone]
    | false =>
      have h1 : ¬ k ≤ a := fun h2 => by rw [Nat.ble_eq_true_of_le h2] at h; cases h
      simp [ih, h1]
/-- Sets are the only structures. -/
def setRi (x : Rs) (_φ : Phi) (w : World) (b : Ref) (F : Nat → Prop) : Prop := match x with
  | .set l => SetIs w b.b l F
  | _ => False
theorem SetIs.same {w w' : World} {p : Nat} {l : List Nat} {S : Nat → Prop} (h : SetIs w p l S) (hb : ∀ k, S k → w'.heap[k]? = w.heap[k]?) (hs : w.heap.size ≤ w'.heap.size) : SetIs w' p l S := by
  obtain ⟨nb, ht⟩ := h.tree
  refine ⟨h.rise, by rw [World.cell?_of_block (hb _ h.inS.1)]; exact h.count, ⟨nb, ht.top, ht.only, ht.high, fun L a b hb' => ?_, ht.inj, ht.up, ht.low, ht.lt⟩, fun k hk => Nat.lt_of_lt_of_le (h.inb k hk) hs⟩
  obtain ⟨h1, word, h2, h3, h4⟩ := ht.node L a b hb'
  exact ⟨h1, word, h2, h3.of_block (hb _ h1), h4⟩
def setBegin (w : World) (may : Nat → Prop) : Begin := ⟨w, may, setRi, fun {x} _ _ _ _ _ h hb hs => by cases x <;> first | exact SetIs.same h hb hs | exact h.elim, fun {x} _ _ _ _ _ _ h => by cases x <;> exact h, fun {x} _ _ _ _ h i v hv => by cases x <;> first | (simp [viewRs] at hv; done) | exact h.elim⟩
abbrev CallS := List Value → Hp → Option (Value × Hp)
def sNew : CallS := fun args s => match args with
  | [.slice none 0 0] => some (.pointer (some ⟨s.next, 0, none⟩), ⟨s.t.set s.next (some (.res (.set []))), s.next + 1⟩)
  | _ => none
/-- A call that turns a set. -/
def sTurn (f : Nat → List Nat → Value × List Nat) : CallS := fun args s => match args with
  | [.pointer (some ⟨B, 0, none⟩), .int .i64 (.ofNat i)] => match s.t.at_ B, Nat.blt i 16777216 with
    | some (.res (.set l)), true => match f i l with
      | (v, l') => some (v, ⟨s.t.set B (some (.res (.set l'))), s.next⟩)
    | _, _ => none
  | _ => none
def fAdd (i : Nat) (l : List Nat) : Value × List Nat := (.tuple ⟨[.bool (!hasN i l), .int .i64 0]⟩, insB i l)
def fRemove (i : Nat) (l : List Nat) : Value × List Nat := (.tuple ⟨[.bool (hasN i l), .int .i64 0]⟩, remB i l)
def sHas : CallS := fun args s => match args with
  | [.pointer (some ⟨B, 0, none⟩), .int .i64 (.ofNat i)] => match s.t.at_ B, Nat.blt i 16777216 with
    | some (.res (.set l)), true => some (.bool (hasN i l), s)
    | _, _ => none
  | _ => none
def sLen : CallS := fun args s => match args with
  | [.pointer (some ⟨B, 0, none⟩)] => match s.t.at_ B with
    | some (.res (.set l)) => some (.int .i64 (.ofNat l.length), s)
    | _ => none
  | _ => none
def sNext : CallS := fun args s => match args with
  | [.pointer (some ⟨B, 0, none⟩), .int .i64 k] => match s.t.at_ B with
    | some (.res (.set l)) => some (.int .i64 (nextB k.toNat l), s)
    | _ => none
  | _ => none
end Go.Eva
namespace Go.Proofs.YtclmjcjaebonnaaGreatDoor
open Go Go.RowKit Go.Viv Go.Eva
section
variable {G : Nat} {ν : Toks} {W : World} {may : Nat → Prop}
theorem turn_ok {f : Nat → List Nat → Value × List Nat} {g : FuncId} (hf : ∀ i l, ∃ v, f i l = (v, (f i l).2) ∧ plainV v = true)
    (hc : ∀ (p i : Nat) (_ : i < 16777216) (l : List Nat) (S : Nat → Prop) (w : World) (_ : SetIs w p l S), Calls Tryz.prog g #[.pointer (some ⟨p, 0, none⟩), .int .i64 (i : Int)] w fun e w' => e = .returned (f i l).1 ∧ SetIs w' p (f i l).2 (Viv.Ext S w w') ∧ Fr S w w') :
    ∀ args s v h', sTurn f args s = some (v, h') → ∀ φ w args', VRs ν φ args args' → Rw Tryz.prog G (setBegin W may) ν φ s w → G ≤ s.next → Calls Tryz.prog g ⟨args'⟩ w (CallPost Tryz.prog G (setBegin W may) ν φ s v h') := by
  intro args s v h' e φ w args' ha hR _
  unfold sTurn at e
  split at e <;> try (cases e; done)
  rename_i B i
  split at e <;> try (cases e; done)
  rename_i l hat hlt
  simp only [Option.some.injEq, Prod.mk.injEq] at e
  obtain ⟨rfl, rfl⟩ := e
  cases ha with
  | cons h1 h2 => cases h1; cases h2 with
    | cons h3 h4 =>
      cases h4
      have := h3.int_
      subst this
      rename_i r hφ
      obtain ⟨F, q1, q2, q3⟩ := hR.turn hφ hat
      refine (hc r.b i (blt_iff hlt) l F w q1).mono fun e w' ⟨he, hs, hfr⟩ => ⟨_, he, φ, ?_, q3 (.set (f i l).2) w' (Viv.Ext F w w') hs (fun k hk => hk) hfr, fun _ _ => rfl, Nat.le_refl _⟩
      obtain ⟨v, hv, hp⟩ := hf i l
      rw [hv]
      exact VR.refl _ hp
theorem new_ok : ∀ args s v h', sNew args s = some (v, h') → ∀ φ w args', VRs ν φ args args' → Rw Tryz.prog G (setBegin W may) ν φ s w → G ≤ s.next → Calls Tryz.prog 59 ⟨args'⟩ w (CallPost Tryz.prog G (setBegin W may) ν φ s v h') := by
  intro args s v h' e φ w args' ha hR _
  unfold sNew at e
  split at e <;> try (cases e; done)
  simp only [Option.some.injEq, Prod.mk.injEq] at e
  obtain ⟨rfl, rfl⟩ := e
  cases ha with
  | cons h1 h2 =>
    cases h2
    have := h1.plain rfl
    subst this
    refine (new_hib w).mono fun e w' ⟨he, hs, hfr⟩ => ⟨_, he, φ.add s.next ⟨w.heap.size, 0, 0⟩, .ptr (Phi.add_same _ _ _), hR.made hfr (x := .set []) (F := fun k => k = w.heap.size) (hs.inb _ rfl) (fun k hk => ⟨by omega, hs.inb k hk⟩) (fun _ _ => hs), Eva.Ext.add _, Nat.le_succ _⟩
theorem read_ok {g : FuncId} {c : CallS} (hc : ∀ args s v h', c args s = some (v, h') → h' = s ∧ plainV v = true ∧ ∃ B l rest, args = .pointer (some ⟨B, 0, none⟩) :: rest ∧ plainL rest = true ∧ s.t.at_ B = some (.res (.set l)) ∧
      ∀ (p : Nat) (S : Nat → Prop) (w : World), SetIs w p l S → TabH w → Calls Tryz.prog g ⟨.pointer (some ⟨p, 0, none⟩) :: rest⟩ w fun e w' => e = .returned v ∧ Fr (fun _ => False) w w') (hT : TabH W) (hm : ¬ may 0) :
    ∀ args s v h', c args s = some (v, h') → ∀ φ w args', VRs ν φ args args' → Rw Tryz.prog G (setBegin W may) ν φ s w → G ≤ s.next → Calls Tryz.prog g ⟨args'⟩ w (CallPost Tryz.prog G (setBegin W may) ν φ s v h') := by
  intro args s v h' e φ w args' ha hR _
  obtain ⟨rfl, hp, B, l, rest, rfl, hpl, hat, hcall⟩ := hc _ _ _ _ e
  cases ha with
  | cons h1 h2 =>
    cases h1
    have := h2.plain hpl
    subst this
    rename_i r hφ
    obtain ⟨F, q1, _, _⟩ := hR.turn hφ hat
    have hT' : TabH w := fun j hj => by
      have h0 := hT j hj
      rw [← h0]
      exact hR.frame.cell (p := ⟨0, j, none⟩) (World.block_lt_of_cell? W _ h0) hm
    exact (hcall r.b F w q1 hT').mono fun e w' ⟨he, hfr⟩ => ⟨v, he, φ, VR.refl _ hp, hR.later hfr, fun _ _ => rfl, Nat.le_refl _⟩
/-- The table of package hibit. -/
def hibTb : Tb := ((((((Tr.nil.set 59 (some sNew)).set 60 (some (sTurn fAdd))).set 142 (some (sTurn fRemove))).set 88 (some sHas)).set 141 (some sLen)).set 140 (some sNext))
theorem hibTb_ok (hT : TabH W) (hm : ¬ may 0) : TbOK Tryz.prog G (setBegin W may) ν hibTb := by
  refine (((((TbOK.none.more new_ok).more (turn_ok ?_ ?_)).more (turn_ok ?_ ?_)).more (read_ok ?_ hT hm)).more (read_ok ?_ hT hm)).more (read_ok ?_ hT hm)
  · exact fun i l => ⟨_, rfl, rfl⟩
  · intro p i hi l S w h
    simp only [fAdd, insB_eq, hasN_eq]
    exact add_nat p i hi l S w h
  · exact fun i l => ⟨_, rfl, rfl⟩
  · intro p i hi l S w h
    simp only [fRemove, remB_eq, hasN_eq]
    exact remove_nat p i hi l S w h
  · intro args s v h' e
    unfold sHas at e
    split at e <;> try (cases e; done)
    rename_i B i
    split at e <;> try (cases e; done)
    rename_i l hat hlt
    simp only [Option.some.injEq, Prod.mk.injEq] at e
    obtain ⟨rfl, rfl⟩ := e
    refine ⟨rfl, rfl, B, l, _, rfl, rfl, hat, fun p S w h _ => ?_⟩
    rw [hasN_eq]
    exact has_nat p i (blt_iff hlt) l S w h
  · intro args s v h' e
    unfold sLen at e
    split at e <;> try (cases e; done)
    rename_i B
    split at e <;> try (cases e; done)
    rename_i l hat
    simp only [Option.some.injEq, Prod.mk.injEq] at e
    obtain ⟨rfl, rfl⟩ := e
    refine ⟨rfl, rfl, B, l, [], rfl, rfl, hat, fun p S w h _ => ?_⟩
    exact (len_hib p l S w h).mono fun e w' ⟨h1, h2⟩ => ⟨h1, by subst h2; exact Fr.refl _ _⟩
  · intro args s v h' e
    unfold sNext at e
    split at e <;> try (cases e; done)
    rename_i B k
    split at e <;> try (cases e; done)
    rename_i l hat
    simp only [Option.some.injEq, Prod.mk.injEq] at e
    obtain ⟨rfl, rfl⟩ := e
    refine ⟨rfl, rfl, B, l, _, rfl, rfl, hat, fun p S w h hT' => ?_⟩
    rw [nextB_eq]
    exact next_any p k l S w h hT'
end
end Go.Proofs.YtclmjcjaebonnaaGreatDoor
end

/-
  Closed calls over whole structures: sets of numbers are not looked into.
-/
section
namespace Go.Proofs.YtclmjcjaebonnaaGreatDoor
open Go Go.RowKit Go.Viv Go.Eva
/-- The table of math/bits. -/
def deB : List Nat := [0, 1, 56, 2, 57, 49, 28, 3, 61, 58, 42, 50, 38, 29, 17, 4, 62, 47, 59, 36, 45, 43, 51, 22, 53, 39, 33, 30, 24, 18, 12, 5, 63, 55, 48, 27, 60, 41, 37, 16, 46, 35, 44, 21, 52, 32, 23, 11, 54, 26, 40, 15, 34, 20, 31, 10, 25, 14, 19, 9, 13, 8, 7, 6]
def deC : List Value := deB.map fun n => .int .u8 (.ofNat n)
def tree0 : Hp := ⟨Tr.nil.set 0 (some (.cells deC 0 false)), 0 + 1⟩
/-- What is asked of memory. -/
def EnvT (W : World) : Prop := ∃ e fr, W.heap[0]? = some (.cells deC.toArray e fr)
theorem EnvT.fr {W W' : World} (h : EnvT W) (hf : Fr (fun _ => False) W W') : EnvT W' := by
  obtain ⟨e, fr, h⟩ := h
  have hlt : 0 < W.heap.size := by
    rcases Nat.lt_or_ge 0 W.heap.size with h' | h'
    · exact h'
    · rw [Array.getElem?_eq_none h'] at h; cases h
  exact ⟨e, fr, (hf.block _ hlt (fun h => h)).trans h⟩
theorem EnvT.tab {W : World} (h : EnvT W) : TabH W := by
  obtain ⟨e, fr, h⟩ := h
  intro j hj
  rw [cell_of_row W _ j _ e fr h]
  have h1 : deC = Lib.deBruijn64tab.map fun n => .int .u8 (.ofNat n) := rfl
  simp only [List.getElem?_toArray, h1, List.getElem?_map, List.getElem?_eq_getElem hj, Option.map_some, List.getD_eq_getElem?_getD, Option.getD_some]
  rfl
def isTrue : Option (Value × Hp) → Bool
  | some (.bool true, _) => true
  | _ => false
theorem of_isTrue {r : Option (Value × Hp)} (h : isTrue r = true) : ∃ H, r = some (.bool true, H) := by
  cases r with
  | none => cases h
  | some p =>
    obtain ⟨v, H⟩ := p
    cases v <;> first
      | (cases h; done)
      | skip
    rename_i b
    cases b
    · cases h
    · exact ⟨H, rfl⟩
theorem start_set {W : World} (hE : EnvT W) (may : Nat → Prop) (ν : Toks) : Rw Tryz.prog (0 + 1) (setBegin W may) ν (phi0 (0 + 1) (fun _ => 64)) tree0 W := by
  obtain ⟨e, fr, ht⟩ := hE
  have hlt : 0 < W.heap.size := by
    rcases Nat.lt_or_ge 0 W.heap.size with h | h
    · exact h
    · rw [Array.getElem?_eq_none h] at ht; cases ht
  refine Rw.start (W0 := setBegin W may) hlt _ _ (fun g o ho _ => ?_)
  by_cases hg : 0 = g
  · subst hg
    rw [Tr.at_set_same] at ho
    cases ho
    exact ⟨rfl, .cells ht rfl (fun h => by cases h) (by
      have : deC.toArray.toList.take deC.length = deC := by rw [List.take_of_length_le (by simp)]
      rw [this]
      exact VRs.refl _ (by kernel_rfl))⟩
  · rw [Tr.at_set_ne _ _ hg, nil_at] at ho
    cases ho
/-- A closed call that is true. -/
theorem closed_true {W : World} (hE : EnvT W) (f : FuncId) (k n : Nat) (h : isTrue (ev Tryz.prog (fun _ _ => none) hibTb (0 + 1) k n f [] tree0) = true) :
    Calls Tryz.prog f #[] W fun e w' => e = .returned (.bool true) ∧ Fr (fun _ => False) W w' := by
  obtain ⟨H, hr⟩ := of_isTrue h
  refine (ev_sound (W0 := setBegin W (fun _ => False)) (by kernel_rfl) syOK_none (hibTb_ok hE.tab (fun h => h)) k n f [] tree0 (.bool true) H hr _ W [] .nil (start_set hE _ noToks) (Nat.le_refl _)).mono fun e w' hp => ?_
  obtain ⟨v', rfl, φ', hv, hR, _, _⟩ := hp
  cases hv
  exact ⟨rfl, hR.frame⟩
end Go.Proofs.YtclmjcjaebonnaaGreatDoor
end

/-
  A region that draws its order and only reads, however long: walked once, in the order of its text. No program in sight.
-/
section
namespace Go.Eva
open Go Go.RowKit Go.Mix

section
variable {P : Program} {ops : Array Oper} {Q : Exit → Act → World → Prop} {w : World} {m : Array Nat}

/-- What an operation yields there. -/
def Fact (P : Program) (ops : Array Oper) (w : World) (a : Act) (o : Oper) (v : Value) : Prop :=
  (Region.wanted o (yielded ops a.tmps) = true ∧ (execOp a.eval o).run P w = .ok (.value v) w) ∨ (Region.wanted o (yielded ops a.tmps) = false ∧ v = undef)
theorem seq_facts : ∀ (r k : Nat) (a : Act), k + r = ops.size → wpSeq P ops Q ((List.range' k r).map fun i => (i, true)) a w →
    ∃ (val : Nat → Value) (F : Nat → Act), F k = a ∧ (∀ i o, k ≤ i → i < ops.size → ops[i]? = some o → Fact P ops w (F i) o (val i) ∧ F (i + 1) = (F i).put o.dst (val i)) ∧ Q .normal (F ops.size) w
  | 0, k, a, hk, h => ⟨fun _ => undef, fun _ => a, rfl, fun i o h1 h2 => by omega, h⟩
  | r + 1, k, a, hk, h => by
    have hlt : k < ops.size := by omega
    obtain ⟨o, ho⟩ : ∃ o, ops[k]? = some o := ⟨_, Array.getElem?_eq_getElem hlt⟩
    rw [List.range'_succ, List.map_cons] at h
    simp only [wpSeq, ho] at h
    obtain ⟨hv, h⟩ := h
    simp only [wpList] at h
    have : ∃ v, Fact P ops w a o v ∧ wpSeq P ops Q ((List.range' (k + 1) r).map fun i => (i, true)) (a.put o.dst v) w := by
      by_cases hw : Region.wanted o (yielded ops a.tmps) = true
      · rw [if_pos hw] at h
        obtain ⟨v, h1, h2⟩ := reads_spec hv h
        exact ⟨v, .inl ⟨hw, h1⟩, h2⟩
      · rw [if_neg hw] at h
        exact ⟨undef, .inr ⟨by simpa using hw, rfl⟩, h.next⟩
    obtain ⟨v, hf, hr⟩ := this
    obtain ⟨val, F, h1, h2, h3⟩ := seq_facts r (k + 1) _ (by omega) hr
    refine ⟨upd val k v, upd F k a, upd_same _ _ _, fun i q hi1 hi2 hq => ?_, by rw [upd_ne _ _ (by omega)]; exact h3⟩
    by_cases e : i = k
    · subst e
      rw [ho] at hq; cases hq
      rw [upd_same, upd_same, upd_ne _ _ (by omega), h1]
      exact ⟨hf, rfl⟩
    · rw [upd_ne _ _ e, upd_ne _ _ e, upd_ne _ _ (by omega)]
      exact h2 i q (by omega) hi2 hq

/-- The frame when just the listed have come up. -/
structure Over (ops : Array Oper) (val : Nat → Value) (a0 : Act) (listed : Nat → Bool) (a : Act) : Prop where
  size : a.tmps.size = a0.tmps.size
  defers : a.defers = a0.defers
  one : ∀ j t, Writes ops j t → listed j = true → a.tmps[t]? = (a0.tmps[t]?).map fun _ => val j
  none : ∀ t, (∀ j, Writes ops j t → listed j = false) → a.tmps[t]? = a0.tmps[t]?
theorem Over.put {val : Nat → Value} {a0 a : Act} {L L' : Nat → Bool} (hS : Stat ops m) (h : Over ops val a0 L a) {i : Nat} {o : Oper} (ho : ops[i]? = some o) (hL : ∀ j, L' j = (L j || decide (j = i))) : Over ops val a0 L' (a.put o.dst (val i)) := by
  have hget : ∀ t, (a.put o.dst (val i)).tmps[t]? = if o.dst = some t then (a0.tmps[t]?).map (fun _ => val i) else a.tmps[t]? := fun t => by
    cases hd : o.dst with
    | none => simp [Act.put]
    | some d =>
      simp only [Act.put]
      by_cases e : d = t
      · subst e
        rw [if_pos rfl, Array.getElem?_setIfInBounds]
        simp only [if_true]
        by_cases hlt : d < a.tmps.size
        · have : d < a0.tmps.size := by rw [← h.size]; exact hlt
          simp [hlt, this]
        · have : ¬ d < a0.tmps.size := by rw [← h.size]; exact hlt
          simp [hlt, this]
      · rw [Array.getElem?_setIfInBounds_ne e, if_neg (fun h => e (by injection h))]
  refine ⟨by cases o.dst <;> simp [Act.put, h.size], by cases o.dst <;> exact h.defers, fun j t hw hl => ?_, fun t hno => ?_⟩
  · rw [hget]
    rw [hL] at hl
    by_cases hj : j = i
    · subst hj
      obtain ⟨q, hq, hd⟩ := hw
      rw [ho] at hq; cases hq
      rw [if_pos hd]
    · rw [if_neg (fun hd => hj (hS.uniq j i t hw ⟨o, ho, hd⟩))]
      simp [hj] at hl
      exact h.one j t hw hl
  · rw [hget]
    have hne : o.dst ≠ some t := fun hd => by
      have := hno i ⟨o, ho, hd⟩
      rw [hL] at this
      simp at this
    rw [if_neg hne]
    refine h.none t fun j hw => ?_
    have := hno j hw
    rw [hL] at this
    simp at this
    exact this.1

/-- THE REGION. -/
theorem wp_region_reads {id : Nat} {a : Act} {w0 : World} (hf : P.follows .mixedOrders = true) (hst : statB ops = true) (hsel : Region.noSelect ops = true) {order : List (Nat × Bool)} (hord : order = (List.range' 0 ops.size).map fun i => (i, true))
    (h : wpSeq P ops Q order a w0.drew) : (Code.region id ops true).wp P Q a w0 := by
  subst hord
  have hS := stat_spec hst
  generalize Region.before ops = m at hS
  obtain ⟨val, F, hF0, hF, hQ⟩ := seq_facts ops.size 0 a (by simp) h
  -- in the order of the text
  have hcan : ∀ i, i ≤ ops.size → Over ops val a (fun j => decide (j < i)) (F i) := by
    intro i
    induction i with
    | zero => intro _; rw [hF0]; exact ⟨rfl, rfl, fun j t _ hl => by simp at hl, fun t _ => rfl⟩
    | succ i ih =>
      intro hi
      obtain ⟨o, ho⟩ : ∃ o, ops[i]? = some o := ⟨_, Array.getElem?_eq_getElem hi⟩
      rw [(hF i o (Nat.zero_le _) hi ho).2]
      exact (ih (by omega)).put hS ho (fun j => by
        by_cases e : j = i
        · subst e; simp
        · by_cases h2 : j < i
          · simp [h2, show j < i + 1 by omega]
          · simp [h2, e, show ¬ j < i + 1 by omega])
  -- whom it waits for stands ahead of it
  have hlt : ∀ i j, i < ops.size → j < ops.size → bef m i j = true → j < i := fun i j hi hj hb => by
    let L : Array Bool := (Array.range ops.size).map fun k => decide (k < i)
    have hL : ∀ k, k < ops.size → L.getD k false = decide (k < i) := fun k hk => by simp [L, hk]
    have hd : Down .any ops L := fun k hk o ho e he hbb => by
      have hks := lt_of_some ho
      rw [hL k hks] at hk
      have := hS.topo k o ho e he hbb
      rw [hL _ (by omega)]
      simp at hk ⊢; omega
    have := mask_spec hS.mask hd hj i hi (fun o ho e he hbb => by
      have := hS.topo i o ho e he hbb
      rw [hL _ (by omega)]
      simp; omega) hb
    rw [hL j hj] at this
    simpa using this
  have key : ∀ (fuel : Nat) (U : List Nat) (listed : Array Bool) (a1 : Act), listed.size = ops.size → Down .any ops listed → Over ops val a (fun j => listed.getD j false) a1 → (∀ i, i < ops.size → listed.getD i false = false → i ∈ U) → U.length ≤ fuel → wpAny P .any ops Q fuel listed a1 w0.drew := by
    have ended : ∀ (listed : Array Bool) (a1 : Act), listed.size = ops.size → Over ops val a (fun j => listed.getD j false) a1 → Region.ready .any ops listed = [] → Q .normal a1 w0.drew := by
      intro listed a1 hsz J hr
      have all : ∀ i, i < ops.size → listed.getD i false = true := by
        intro i
        induction i using Nat.strongRecOn with
        | _ i ih =>
          intro hi
          cases hl : listed.getD i false with
          | true => rfl
          | false =>
            exfalso
            obtain ⟨o, ho⟩ : ∃ o, ops[i]? = some o := ⟨_, Array.getElem?_eq_getElem hi⟩
            have : i ∈ Region.ready .any ops listed := mem_ready.2 ⟨by rw [getD_conv hsz hi true false]; exact hl, o, ho, fun e he hb => by
              have hlt := hS.topo i o ho e he hb
              exact ih e.on hlt (by omega)⟩
            rw [hr] at this
            cases this
      have C := hcan ops.size (Nat.le_refl _)
      have e : a1 = F ops.size := by
        have ht : a1.tmps = (F ops.size).tmps := by
          apply Array.ext_getElem?
          intro t
          by_cases hw : ∃ j, Writes ops j t
          · obtain ⟨j, hw⟩ := hw
            have hj : j < ops.size := by obtain ⟨q, hq, _⟩ := hw; exact lt_of_some hq
            rw [J.one j t hw (all j hj), C.one j t hw (by simp [hj])]
          · have hno : ∀ j, ¬ Writes ops j t := fun j h => hw ⟨j, h⟩
            rw [J.none t (fun j h => absurd h (hno j)), C.none t (fun j h => absurd h (hno j))]
        have hd : a1.defers = (F ops.size).defers := by rw [J.defers, C.defers]
        cases a1
        cases hFn : F ops.size
        rw [hFn] at ht hd
        simp only at ht hd
        rw [ht, hd]
      rw [e]; exact hQ
    intro fuel
    induction fuel with
    | zero =>
      intro U listed a1 hsz hd J hU hlen
      have hr : Region.ready .any ops listed = [] := by
        rcases List.eq_nil_or_concat (Region.ready .any ops listed) with h | ⟨l, i, h⟩
        · exact h
        · exfalso
          have hi : i ∈ Region.ready .any ops listed := by rw [h]; simp
          obtain ⟨h1, o, ho, _⟩ := mem_ready.1 hi
          have := hU i (lt_of_some ho) (by rw [getD_conv hsz (lt_of_some ho) false true]; exact h1)
          have : 0 < U.length := List.length_pos_of_mem this
          omega
      exact ⟨hr, ended listed a1 hsz J hr⟩
    | succ fuel ih =>
      intro U listed a1 hsz hd J hU hlen
      refine ⟨ended listed a1 hsz J, fun i hi => ?_⟩
      obtain ⟨h1, o, ho, hwt0⟩ := mem_ready.1 hi
      have hilt := lt_of_some ho
      have hun : listed.getD i false = false := by rw [getD_conv hsz hilt false true]; exact h1
      have hwt : Waited .any ops listed i := fun q hq e he hb => by rw [ho] at hq; cases hq; exact hwt0 e he hb
      have hiU := hU i hilt hun
      have C := hcan i (Nat.le_of_lt hilt)
      have hsame : ∀ t, t ∈ o.looksAt ops → a1.tmps[t]? = (F i).tmps[t]? := fun t ht => by
        by_cases hw : ∃ j, Writes ops j t
        · obtain ⟨j, hw⟩ := hw
          have hj : j < ops.size := by obtain ⟨q, hq, _⟩ := hw; exact lt_of_some hq
          cases hb : bef m i j with
          | true =>
            rw [J.one j t hw (mask_spec hS.mask hd hj i hilt hwt hb), C.one j t hw (by simp; exact hlt i j hilt hj hb)]
          | false =>
            have hnl : listed.getD j false = false ∧ ¬ j < i := by
              by_cases e : j = i
              · subst e; exact ⟨hun, by omega⟩
              · rcases hS.look i o t j ho ht hw e with h2 | h2
                · rw [hb] at h2; cases h2
                · refine ⟨?_, by have := hlt j i hj hilt h2; omega⟩
                  cases hl : listed.getD j false with
                  | false => rfl
                  | true =>
                    have := mask_spec hS.mask hd hilt j hj (hd j hl) h2
                    rw [hun] at this; cases this
            rw [J.none t fun k hk => by
              have : k = j := hS.uniq k j t hk hw
              subst this; exact hnl.1, C.none t fun k hk => by
              have : k = j := hS.uniq k j t hk hw
              subst this; simp; omega]
        · have hno : ∀ j, ¬ Writes ops j t := fun j h => hw ⟨j, h⟩
          rw [J.none t (fun j h => absurd h (hno j)), C.none t (fun j h => absurd h (hno j))]
      have hex : execOp a1.eval o = execOp (F i).eval o := execOp_congr o (Region.noSelect_spec hsel i o · · ho) (fun x hx => by
        cases x with
        | tmp t =>
          have := hsame t (by
            unfold Oper.looksAt
            exact List.mem_append_left _ (List.mem_filterMap.2 ⟨.tmp t, Array.mem_toList_iff.2 hx, rfl⟩))
          simp only [Act.eval, Array.getD_eq_getD_getElem?, this]
        | const v => rfl
        | global g => rfl
        | func f => rfl)
      have hwa : Region.wanted o (yielded ops a1.tmps) = Region.wanted o (yielded ops (F i).tmps) := by
        unfold Region.wanted
        cases hg : o.guard with
        | none => rfl
        | some jw =>
          obtain ⟨j, want⟩ := jw
          simp only
          congr 1
          unfold yielded
          cases hdd : (ops[j]?).bind (·.dst) with
          | none => rfl
          | some t =>
            simp only [Option.bind_some]
            rw [hsame t (by
              unfold Oper.looksAt
              refine List.mem_append_right _ ?_
              rw [hg]
              simp [hdd])]
      have hrest : wpAny P .any ops Q fuel (listed.setIfInBounds i true) (a1.put o.dst (val i)) w0.drew :=
        ih (U.erase i) _ _ (by simp [hsz]) (down_set hd hwt) (J.put hS ho fun j => by
          rw [getD_put _ _ _ (by rw [hsz]; exact hilt)]
          by_cases e : j = i <;> simp [e]) (fun j hj hl => by
          rw [getD_put _ _ _ (by rw [hsz]; exact hilt)] at hl
          split at hl
          · cases hl
          · rename_i hne
            exact (List.mem_erase_of_ne hne).2 (hU j hj hl)) (by rw [List.length_erase_of_mem hiU]; omega)
      unfold wpOp
      simp only [ho]
      rw [hwa]
      rcases (hF i o (Nat.zero_le _) hilt ho).1 with ⟨h2, h3⟩ | ⟨h2, h3⟩
      · rw [h2]
        simp only [if_true]
        refine .inl ?_
        unfold Oper.wp
        rw [hex, h3]
        exact hrest
      · rw [h2]
        simp only [Bool.false_eq_true, if_false]
        rw [h3] at hrest
        exact hrest
  refine wp_region_any hf (key ops.size (List.range ops.size) _ a (by simp) (fun j hj => ?_) ⟨rfl, rfl, fun j t _ hl => ?_, fun t _ => rfl⟩ (fun i hi _ => by simpa using hi) (by simp))
  · simp only [Array.getD_eq_getD_getElem?, Array.getElem?_replicate] at hj
    split at hj <;> simp at hj
  · simp only [Array.getD_eq_getD_getElem?, Array.getElem?_replicate] at hl
    split at hl <;> simp at hl
end
end Go.Eva
end

/-
  Rows that are the same: the walk of slices.Equal over whole numbers.
-/
section
namespace Go.Viv
theorem take_eq_all {α : Type} {l m : List α} {n : Nat} (hl : l.length = n) (hm : m.length = n) (h : l.take n = m.take n) : l = m := by
  rw [← hl, List.take_length, hl, ← hm, List.take_length] at h
  exact h
theorem take_eq_snoc {α : Type} {l m : List α} {k : Nat} {x : α} (h : l.take k = m.take k) (hl : l[k]? = some x) (hm : m[k]? = some x) : l.take (k + 1) = m.take (k + 1) := by
  rw [List.take_add_one, List.take_add_one, h, hl, hm]
theorem ne_at {α : Type} {l m : List α} {k : Nat} {x y : α} (hl : l[k]? = some x) (hm : m[k]? = some y) (h : x ≠ y) : l ≠ m := by
  rintro rfl
  rw [hl] at hm
  exact h (Option.some.inj hm)
end Go.Viv
namespace Go.Proofs.YtclmjcjaebonnaaGreatDoor
open Go.RowKit Go.Viv Go.Lib
def readsN (n : Nat) : List (Nat × Bool) := (List.range n).map fun i => (i, true)
set_option maxRecDepth 100000 in
set_option maxHeartbeats 2000000 in
theorem eqI_any (l m : List Int) (A B : Option Addr) (ca cb : Nat) (w : World) (hl : RowC w A (ints l)) (hm : RowC w B (ints m)) (_ha : l.length ≤ ca) (_hb : m.length ≤ cb) (_hca : ca ≤ 9223372036854775807) (_hcb : cb ≤ 9223372036854775807) :
    Calls Tryz.prog 22 #[.slice A l.length ca, .slice B m.length cb] w fun e w' => e = .returned (.bool (l == m)) ∧ Fr (fun _ => False) w w' := by
  by_cases hne : l.length = m.length
  · have HL := Lib.hid hl
    have HM := Lib.hid hm
    obtain ⟨n, hnl⟩ : ∃ n, l.length = n := ⟨_, rfl⟩
    have HN := Lib.hid hnl
    have HN2 := Lib.hid (hne.symm.trans hnl)
    rw [← hne, hnl] at _hb
    rw [← hne, hnl]
    rw [hnl] at _ha
    clear hl hm hnl hne
    go_enter Tryz.func22, Tryz.ntmps22
    go_wp2_with fail
    go_loopw [13] (fun t wr => ∃ k : Nat, k ≤ n ∧ t = .int .i64 k ∧ l.take k = m.take k ∧ Fr (fun _ => False) w wr) (fun t _ => n - (intOf t).toNat)
    case atStart => exact ⟨0, by omega, rfl, rfl, Fr.refl _ _⟩
    case round =>
      obtain ⟨k, hk, rfl, heq, hfr⟩ := hrel
      by_cases hlt : k < n
      · obtain ⟨x, hx⟩ : ∃ x, l[k]? = some x := ⟨_, List.getElem?_eq_getElem (by rw [HN.out]; exact hlt)⟩
        obtain ⟨y, hy⟩ : ∃ y, m[k]? = some y := ⟨_, List.getElem?_eq_getElem (by rw [HN2.out]; exact hlt)⟩
        obtain ⟨b, o, rfl, hbw, hcx⟩ := rowN_at (HL.out.fr hfr) hx
        obtain ⟨b2, o2, rfl, hbw2, hcy⟩ := rowN_at (HM.out.fr hfr) hy
        have HE := Lib.hid heq
        have HX := Lib.hid (And.intro hx hy)
        have HW := Lib.hid hfr.drew
        have hgt : decide (n ≤ k) = false := by simp; omega
        by_cases hxy : x = y
        · subst hxy
          have e1 : (x != x) = false := by simp
          clear heq hx hy hfr
          go_wp2_with fail
          refine Eva.wp_region_reads (order := readsN 9) (by kernel_rfl) (by kernel_rfl) (by kernel_rfl) (by kernel_rfl) ?_
          iterate 9 (refine Mix.seq_read rfl rfl ?_; go_wp2_with fail; refine ⟨rfl, rfl, ?_⟩)
          refine Mix.seq_nil ?_
          go_wp2
          go_roundw
          case rel => exact ⟨k + 1, by omega, by go_num, take_eq_snoc HE.out HX.out.1 HX.out.2, HW.out⟩
          case measure => simp [intOf]; omega
        · have e1 : (x != y) = true := by simp [hxy]
          have HD := Lib.hid (ne_at hx hy hxy)
          clear heq hx hy hfr hxy
          go_wp2_with fail
          refine Eva.wp_region_reads (order := readsN 9) (by kernel_rfl) (by kernel_rfl) (by kernel_rfl) (by kernel_rfl) ?_
          iterate 9 (refine Mix.seq_read rfl rfl ?_; go_wp2_with fail; refine ⟨rfl, rfl, ?_⟩)
          refine Mix.seq_nil ?_
          go_wp2
          go_ret
          exact ⟨by rw [show (l == m) = false from by simpa using HD.out]; rfl, HW.out⟩
      · have hkn : k = n := by omega
        subst hkn
        have HE := Lib.hid (take_eq_all HN.out HN2.out heq)
        have HW := Lib.hid hfr
        clear heq hfr
        go_wp2
        go_ret
        exact ⟨by rw [show (l == m) = true from by simpa using HE.out]; rfl, HW.out⟩
  · have e1 : ((l.length : Int) != m.length) = true := by simp; omega
    have HD := Lib.hid (show (l == m) = false from by
      have : l ≠ m := fun h => hne (by rw [h])
      simpa using this)
    clear hl hm hne
    go_enter Tryz.func22, Tryz.ntmps22
    go_wp2
    go_ret
    exact ⟨by rw [HD.out]; rfl, Fr.refl _ _⟩
end Go.Proofs.YtclmjcjaebonnaaGreatDoor
end

/-
  Worlds that are alike: the walk of Alike.
-/
section
namespace Go.Viv
open Go.Lib Go.RowKit
/-- What a component is. -/
structure Dc where
  k : Int
  v : Int
  b : Int
def descC (x : Dc) : List Value := [.int .i64 x.k, .int .i64 x.v, .int .i64 x.b]
theorem descC_len (x : Dc) : (descC x).length = 3 := rfl
def sameD (x y : Dc) : Bool := x.k == y.k && x.b == y.b
def sameL (l m : List Dc) : Bool := l.length == m.length && (l.zip m).all fun p => sameD p.1 p.2
/-- Where the cells of element number k lie. -/
theorem rowD_at {w : World} {A : Option Addr} {l : List Dc} (h : RowC w A (l.flatMap descC)) {k : Nat} {x : Dc} (hk : l[k]? = some x) : ∃ b o, A = some ⟨b, o, none⟩ ∧ b < w.heap.size ∧ ∀ j u, (descC x)[j]? = some u → w.cell? ⟨b, o + k * 3 + j, none⟩ = some u := by
  rcases h with h | ⟨b, o, h1, h2, h3⟩
  · cases l with
    | nil => simp at hk
    | cons x r => simp [descC] at h
  · refine ⟨b, o, h1, h2, fun j u hj => ?_⟩
    have hj3 : j < 3 := by
      have := (List.getElem?_eq_some_iff.1 hj).1
      simpa [descC] using this
    have g := chunk_get descC 3 descC_len l k j hj3
    rw [hk] at g
    rw [Nat.add_assoc]
    exact h3 (k * 3 + j) u (by rw [g]; exact hj)
theorem sameL_of {l m : List Dc} {n : Nat} (hl : l.length = n) (hm : m.length = n) (h : ∀ k x y, k < n → l[k]? = some x → m[k]? = some y → sameD x y = true) : sameL l m = true := by
  unfold sameL
  rw [hl, hm]
  simp only [beq_self_eq_true, Bool.true_and, List.all_eq_true]
  intro p hp
  obtain ⟨k, hk⟩ := List.mem_iff_getElem?.1 hp
  rw [List.getElem?_zip_eq_some] at hk
  have := (List.getElem?_eq_some_iff.1 hk.1).1
  exact h k _ _ (by omega) hk.1 hk.2
theorem sameL_not {l m : List Dc} {k : Nat} {x y : Dc} (hl : l[k]? = some x) (hm : m[k]? = some y) (h : sameD x y = false) : sameL l m = false := by
  cases hs : sameL l m with
  | false => rfl
  | true =>
    unfold sameL at hs
    simp only [Bool.and_eq_true, List.all_eq_true] at hs
    have := hs.2 (x, y) (List.mem_iff_getElem?.2 ⟨k, by rw [List.getElem?_zip_eq_some]; exact ⟨hl, hm⟩⟩)
    rw [h] at this
    cases this
theorem sameL_len {l m : List Dc} (h : l.length ≠ m.length) : sameL l m = false := by
  unfold sameL
  simp [h]
end Go.Viv
namespace Go.Proofs.YtclmjcjaebonnaaGreatDoor
open Go.RowKit Go.Viv Go.Lib
set_option maxRecDepth 100000 in
set_option maxHeartbeats 2000000 in
theorem same_any (x y : Dc) (w : World) : Calls Tryz.prog 21 #[.agg (descC x).toArray, .agg (descC y).toArray] w fun e w' => e = .returned (.bool (sameD x y)) ∧ Fr (fun _ => False) w w' := by
  have hs : sameD x y = (x.k == y.k && x.b == y.b) := rfl
  unfold descC
  cases h1 : (x.k == y.k) with
  | false =>
    rw [h1, Bool.false_and] at hs
    have H := Lib.hid hs
    clear hs
    go_enter Tryz.func21, Tryz.ntmps21
    go_wp2
    go_ret
    exact ⟨by rw [H.out]; rfl, by repeat (first | exact Fr.refl _ _ | apply Fr.alloc | apply Fr.drew)⟩
  | true =>
    rw [h1, Bool.true_and] at hs
    cases h2 : (x.b == y.b) with
    | false =>
      rw [h2] at hs
      have H := Lib.hid hs
      clear hs
      go_enter Tryz.func21, Tryz.ntmps21
      go_wp2
      go_ret
      exact ⟨by rw [H.out]; rfl, by repeat (first | exact Fr.refl _ _ | apply Fr.alloc | apply Fr.drew)⟩
    | true =>
      rw [h2] at hs
      have H := Lib.hid hs
      clear hs
      go_enter Tryz.func21, Tryz.ntmps21
      go_wp2
      go_ret
      exact ⟨by rw [H.out]; rfl, by repeat (first | exact Fr.refl _ _ | apply Fr.alloc | apply Fr.drew)⟩
set_option maxRecDepth 100000 in
set_option maxHeartbeats 4000000 in
theorem eqF_any (l m : List Dc) (A B : Option Addr) (ca cb : Nat) (w : World) (hl : RowC w A (l.flatMap descC)) (hm : RowC w B (m.flatMap descC)) (_ha : l.length ≤ ca) (_hb : m.length ≤ cb) (_hca : ca ≤ 9223372036854775807) (_hcb : cb ≤ 9223372036854775807) :
    Calls Tryz.prog 23 #[.slice A l.length ca, .slice B m.length cb, .func (.func 21) #[] #[]] w fun e w' => e = .returned (.bool (sameL l m)) ∧ Fr (fun _ => False) w w' := by
  by_cases hne : l.length = m.length
  · have HL := Lib.hid hl
    have HM := Lib.hid hm
    obtain ⟨n, hnl⟩ : ∃ n, l.length = n := ⟨_, rfl⟩
    have HN := Lib.hid hnl
    have HN2 := Lib.hid (hne.symm.trans hnl)
    rw [← hne, hnl] at _hb
    rw [← hne, hnl]
    rw [hnl] at _ha
    clear hl hm hnl hne
    go_enter Tryz.func23, Tryz.ntmps23
    go_wp2_with fail
    go_loopw [17] (fun t wr => ∃ k : Nat, k ≤ n ∧ t = .int .i64 k ∧ (∀ j x y, j < k → l[j]? = some x → m[j]? = some y → sameD x y = true) ∧ Fr (fun _ => False) w wr) (fun t _ => n - (intOf t).toNat)
    case atStart => exact ⟨0, by omega, rfl, fun j x y h => by omega, Fr.refl _ _⟩
    case round =>
      obtain ⟨k, hk, rfl, heq, hfr⟩ := hrel
      by_cases hlt : k < n
      · obtain ⟨x, hx⟩ : ∃ x, l[k]? = some x := ⟨_, List.getElem?_eq_getElem (by rw [HN.out]; exact hlt)⟩
        obtain ⟨y, hy⟩ : ∃ y, m[k]? = some y := ⟨_, List.getElem?_eq_getElem (by rw [HN2.out]; exact hlt)⟩
        obtain ⟨b, o, rfl, hbw, hcx⟩ := rowD_at (HL.out.fr hfr) hx
        obtain ⟨b2, o2, rfl, hbw2, hcy⟩ := rowD_at (HM.out.fr hfr) hy
        have d0 := hcx 0 _ rfl
        rw [Nat.add_zero] at d0
        have d1 := hcx 1 _ rfl
        have d2 := hcx 2 _ rfl
        have c0 := hcy 0 _ rfl
        rw [Nat.add_zero] at c0
        have c1 := hcy 1 _ rfl
        have c2 := hcy 2 _ rfl
        have HE := Lib.hid heq
        have HX := Lib.hid (And.intro hx hy)
        have HW := Lib.hid hfr
        have hgt : decide (n ≤ k) = false := by simp; omega
        have hka : (k : Int) ≤ ca := by omega
        have hkb : (k : Int) ≤ cb := by omega
        cases hs : sameD x y with
        | true =>
          have HS := Lib.hid hs
          clear heq hx hy hfr hcx hcy hs
          go_wp2_with (go_at_call 21; refine (same_any x y _).mono ?_; rintro e w3 ⟨rfl, hf3⟩; rw [HS.out])
          have HF := Lib.hid hf3
          go_roundw
          case rel => exact ⟨k + 1, by omega, by go_num, fun j x' y' hj h1 h2 => by
            rcases Nat.lt_succ_iff_lt_or_eq.1 hj with h | rfl
            · exact HE.out j x' y' h h1 h2
            · rw [HX.out.1] at h1; rw [HX.out.2] at h2; cases h1; cases h2; exact HS.out, fr_two HW.out (fr_two (by repeat (first | exact Fr.refl _ _ | apply Fr.alloc | apply Fr.drew)) HF.out)⟩
          case measure => simp [intOf]; omega
        | false =>
          have HS := Lib.hid hs
          have HD := Lib.hid (sameL_not hx hy hs)
          clear heq hx hy hfr hcx hcy hs
          go_wp2_with (go_at_call 21; refine (same_any x y _).mono ?_; rintro e w3 ⟨rfl, hf3⟩; rw [HS.out])
          have HF := Lib.hid hf3
          go_ret
          exact ⟨by rw [HD.out]; rfl, fr_two HW.out (fr_two (by repeat (first | exact Fr.refl _ _ | apply Fr.alloc | apply Fr.drew)) HF.out)⟩
      · have hkn : k = n := by omega
        subst hkn
        have HE := Lib.hid (sameL_of HN.out HN2.out heq)
        have HW := Lib.hid hfr
        clear heq hfr
        go_wp2
        go_ret
        exact ⟨by rw [HE.out]; rfl, HW.out⟩
  · have e1 : ((l.length : Int) != m.length) = true := by simp; omega
    have HD := Lib.hid (sameL_len hne)
    clear hl hm hne
    go_enter Tryz.func23, Tryz.ntmps23
    go_wp2
    go_ret
    exact ⟨by rw [HD.out]; rfl, Fr.refl _ _⟩
end Go.Proofs.YtclmjcjaebonnaaGreatDoor
end
