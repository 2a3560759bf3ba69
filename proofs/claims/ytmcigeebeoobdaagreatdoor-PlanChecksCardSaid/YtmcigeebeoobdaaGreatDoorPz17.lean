/-
  Several texts in one. Contracts of package bits: one, all, With, Without, Has, First; of hibit's ok, digit.
-/
import Derived.Test.YtmcigeebeoobdaaGreatDoorProg
import Derived.Test.YtmcigeebeoobdaaGreatDoorPz16
import Derived.Test.YtmcigeebeoobdaaGreatDoorPz00
import Derived.Outline
import Derived.Lib.Hide
import Derived.Shelf.Spec.TrailingZeros
import Derived.Test.YtmcigeebeoobdaaGreatDoorPz12
import Derived.Test.YtmcigeebeoobdaaGreatDoorPz01
section
namespace Go.Viv
open Go.RowKit
/-- A number's bit. -/
def oneN (i : Int) : Nat := if i < 0 ∨ 64 ≤ i then 0 else 2 ^ i.toNat
theorem oneN_lt (i : Int) : oneN i < 18446744073709551616 := by
  unfold oneN
  split
  · decide
  · have : 2 ^ i.toNat < 2 ^ 64 := Nat.pow_lt_pow_right (by decide) (by omega)
    exact this
theorem oneN_bit (i : Int) (d : Nat) : (oneN i).testBit d = (decide (i = d) && decide (d < 64)) := by
  unfold oneN
  split
  · rw [Nat.zero_testBit]
    by_cases h : i = d
    · rw [decide_eq_true h, decide_eq_false (by omega)]; rfl
    · rw [decide_eq_false h]; rfl
  · rw [Nat.testBit_two_pow]
    by_cases h : i = d
    · rw [decide_eq_true h, decide_eq_true (by omega), decide_eq_true (by omega)]; rfl
    · rw [decide_eq_false h, decide_eq_false (by omega)]; rfl
def allN (l : List Int) : Nat := l.foldl (fun w i => w ||| oneN i) 0
theorem allN_lt (l : List Int) : allN l < 18446744073709551616 := by
  unfold allN
  suffices h : ∀ (l : List Int) (a : Nat), a < 2 ^ 64 → l.foldl (fun w i => w ||| oneN i) a < 2 ^ 64 from h l 0 (by decide)
  intro l
  induction l with
  | nil => intro a h; exact h
  | cons x r ih => intro a h; exact ih _ (Nat.or_lt_two_pow h (oneN_lt x))
theorem allN_one (i : Int) : allN [i] = oneN i := by simp [allN]
theorem wrapU_nat {n : Nat} (h : n < 18446744073709551616) : IntKind.u64.wrap (n : Int) = n := by
  rw [IntKind.wrap_u64]
  omega
/-- Whether a word has a number. -/
def bitI (x : Nat) (i : Int) : Bool := decide (0 ≤ i) && decide (i < 64) && x.testBit i.toNat
theorem and_pow (x k : Nat) : x &&& 2 ^ k = if x.testBit k then 2 ^ k else 0 := by
  apply Nat.eq_of_testBit_eq
  intro j
  rw [Nat.testBit_and, Nat.testBit_two_pow]
  by_cases hj : k = j
  · subst hj
    cases x.testBit k <;> simp
  · rw [decide_eq_false hj, Bool.and_false]
    cases x.testBit k <;> simp [hj]
theorem and_oneN (x : Nat) (i : Int) : (((x &&& oneN i : Nat) : Int) != 0) = bitI x i := by
  unfold oneN bitI
  by_cases h : i < 0 ∨ 64 ≤ i
  · rw [if_pos h, Nat.and_zero]
    rcases h with h | h
    · rw [decide_eq_false (by omega : ¬ 0 ≤ i)]; rfl
    · rw [decide_eq_false (by omega : ¬ i < 64), Bool.and_false, Bool.false_and]; rfl
  · rw [if_neg h, decide_eq_true (by omega), decide_eq_true (by omega), Bool.true_and, Bool.true_and]
    cases hb : x.testBit i.toNat with
    | true =>
      rw [and_pow, hb]
      have := Nat.pow_pos (n := i.toNat) (show 0 < 2 by decide)
      generalize 2 ^ i.toNat = m at *
      rw [if_pos rfl]
      exact bne_iff_ne.2 (by omega)
    | false =>
      rw [and_pow, hb]
      simp
end Go.Viv
namespace Go.Proofs.YtmcigeebeoobdaaGreatDoor
open Go.RowKit Go.Viv
theorem one_any (i : Int) (w : World) : Calls Tryz.prog 169 #[.int .i64 i] w fun e w' => e = .returned (.int .u64 (oneN i : Nat)) ∧ w = w' := by
  unfold oneN
  by_cases h0 : i < 0
  · rw [if_pos (.inl h0)]
    go_enter Tryz.func169, Tryz.ntmps169
    go_wp2
    go_ret
    exact ⟨rfl, rfl⟩
  · by_cases h1 : 64 ≤ i
    · rw [if_pos (.inr h1)]
      go_enter Tryz.func169, Tryz.ntmps169
      go_wp2
      go_ret
      exact ⟨rfl, rfl⟩
    · rw [if_neg (by omega)]
      obtain ⟨k, rfl⟩ := Int.eq_ofNat_of_zero_le (show 0 ≤ i by omega)
      go_enter Tryz.func169, Tryz.ntmps169
      go_wp2
      go_ret
      refine ⟨?_, rfl⟩
      show Ending.returned (.int .u64 (IntKind.u64.wrap (2 ^ k))) = _
      rw [show (2 : Int) ^ k = ((2 ^ k : Nat) : Int) from by simp, wrapU_nat (show 2 ^ k < 2 ^ 64 from Nat.pow_lt_pow_right (by decide) (by omega))]
set_option maxHeartbeats 1000000 in
theorem all_any (l : List Int) (A : Option Addr) (cap : Nat) (w : World) (hr : RowC w A (ints l)) (_hn : l.length ≤ cap) (_hc : cap ≤ 9223372036854775807) :
    Calls Tryz.prog 168 #[.slice A l.length cap] w fun e w' => e = .returned (.int .u64 (allN l : Nat)) ∧ w = w' := by
  have HR := Lib.hid hr
  obtain ⟨n, hnl⟩ : ∃ n, l.length = n := ⟨_, rfl⟩
  have HN := Lib.hid hnl
  rw [hnl] at _hn ⊢
  clear hr hnl
  go_enter Tryz.func168, Tryz.ntmps168
  go_wp2_with fail
  go_loop [3, 5, 8] (fun u _ t => ∃ k : Nat, k ≤ n ∧ t = .int .i64 k ∧ u = .int .u64 (allN (l.take k) : Nat)) (fun _ _ t => n - (intOf t).toNat)
  case atStart => exact ⟨0, by omega, rfl, rfl⟩
  case round =>
    obtain ⟨k, hk, rfl, rfl⟩ := hrel
    by_cases hlt : k < n
    · obtain ⟨x, hx⟩ : ∃ x, l[k]? = some x := ⟨_, List.getElem?_eq_getElem (by rw [HN.out]; exact hlt)⟩
      obtain ⟨b, o, rfl, hbw, d0⟩ := rowN_at HR.out hx
      have HA := Lib.hid (show allN (l.take (k + 1)) = allN (l.take k) ||| oneN x from by
        unfold allN
        rw [List.take_add_one, hx]
        simp)
      have h1 := allN_lt (l.take k)
      obtain ⟨a, ha⟩ : ∃ a, allN (l.take k) = a := ⟨_, rfl⟩
      rw [ha] at h1 HA ⊢
      have hor := u64_or_nat a (oneN x) h1 (oneN_lt x)
      have HC := Lib.hid (one_any x w)
      clear hx ha
      go_wp2_with fail
      refine HC.out.mono ?_
      rintro e w2 ⟨rfl, rfl⟩
      go_wp2
      go_round
      case rel => exact ⟨k + 1, by omega, by go_num, by rw [HA.out]⟩
      case measure => simp [intOf]; omega
    · obtain rfl : k = n := by omega
      go_wp2
      go_ret
      exact ⟨by rw [List.take_of_length_le (by rw [HN.out]; exact Nat.le_refl _)]; rfl, rfl⟩
theorem with_w (x : Nat) (hx : x < 18446744073709551616) (l : List Int) (A : Option Addr) (cap : Nat) (w : World) (hr : RowC w A (ints l)) (hn : l.length ≤ cap) (hc : cap ≤ 9223372036854775807) :
    Calls Tryz.prog 132 #[.int .u64 x, .slice A l.length cap] w fun e w' => e = .returned (.int .u64 (x ||| allN l : Nat)) ∧ w = w' := by
  have HC := Lib.hid (all_any l A cap w hr hn hc)
  have hor := u64_or_nat x (allN l) hx (allN_lt l)
  obtain ⟨a, ha⟩ : ∃ a, allN l = a := ⟨_, rfl⟩
  obtain ⟨n, hnl⟩ : ∃ n, l.length = n := ⟨_, rfl⟩
  rw [ha, hnl] at HC
  rw [ha] at hor ⊢
  rw [hnl]
  clear hr ha hn hnl
  go_enter Tryz.func132, Tryz.ntmps132
  go_wp2_with fail
  refine HC.out.mono ?_
  rintro e w2 ⟨rfl, rfl⟩
  go_wp2
  go_ret
  exact ⟨rfl, rfl⟩
theorem without_w (x : Nat) (hx : x < 18446744073709551616) (l : List Int) (A : Option Addr) (cap : Nat) (w : World) (hr : RowC w A (ints l)) (hn : l.length ≤ cap) (hc : cap ≤ 9223372036854775807) :
    Calls Tryz.prog 131 #[.int .u64 x, .slice A l.length cap] w fun e w' => e = .returned (.int .u64 (x &&& (18446744073709551615 - allN l) : Nat)) ∧ w = w' := by
  have HC := Lib.hid (all_any l A cap w hr hn hc)
  have hor := u64_andNot_nat x (allN l) hx (allN_lt l)
  obtain ⟨a, ha⟩ : ∃ a, allN l = a := ⟨_, rfl⟩
  obtain ⟨n, hnl⟩ : ∃ n, l.length = n := ⟨_, rfl⟩
  rw [ha, hnl] at HC
  rw [ha] at hor ⊢
  rw [hnl]
  clear hr ha hn hnl
  go_enter Tryz.func131, Tryz.ntmps131
  go_wp2_with fail
  refine HC.out.mono ?_
  rintro e w2 ⟨rfl, rfl⟩
  go_wp2
  go_ret
  exact ⟨rfl, rfl⟩
theorem has_w (x : Nat) (hx : x < 18446744073709551616) (i : Int) (w : World) :
    Calls Tryz.prog 134 #[.int .u64 x, .int .i64 i] w fun e w' => e = .returned (.bool (bitI x i)) ∧ w = w' := by
  have HC := Lib.hid (one_any i w)
  have hor := u64_and_nat x (oneN i) hx (oneN_lt i)
  have HB := Lib.hid (show (((x &&& oneN i : Nat) : Int) != 0) = bitI x i from and_oneN x i)
  obtain ⟨a, ha⟩ : ∃ a, oneN i = a := ⟨_, rfl⟩
  rw [ha] at HC hor HB
  clear ha
  go_enter Tryz.func134, Tryz.ntmps134
  go_wp2_with fail
  refine HC.out.mono ?_
  rintro e w2 ⟨rfl, rfl⟩
  go_wp2
  go_ret
  exact ⟨by rw [← HB.out]; rfl, rfl⟩
theorem tz_any (x : Nat) (hx : x < 18446744073709551616) (w : World) (hT : TabAt 0 Lib.deBruijn64tab w) :
    Calls Tryz.prog 102 #[.int .u64 x] w fun e w' => e = .returned (.int .i64 (Lib.ctz 64 x)) ∧ w = w' := by
  by_cases hx0 : x = 0
  · subst hx0
    go_enter Tryz.func102, Tryz.ntmps102
    go_wp2
    go_ret
    exact ⟨rfl, rfl⟩
  · obtain ⟨hlow, hk⟩ := Lib.lowest_bit 64 x hx0 hx
    obtain ⟨hi, htab⟩ := Lib.deBruijn64_at _ hk
    have hcell := hT _ hi
    rw [htab] at hcell
    have key := tz64_key x _ hx hx0 hlow
    have h0 : ((x : Int) == 0) = false := by simp; omega
    obtain ⟨k, hkk⟩ : ∃ k, Lib.ctz 64 x = k := ⟨_, rfl⟩
    rw [hkk] at hcell hk key hi ⊢
    obtain ⟨j, hj⟩ : ∃ j, 2 ^ k * 285870213051353865 % 18446744073709551616 / 288230376151711744 = j := ⟨_, rfl⟩
    rw [hj] at hcell key hi
    clear hT htab hlow hkk hj
    go_enter Tryz.func102, Tryz.ntmps102
    go_wp2_with (simp only [key])
    go_ret
    exact ⟨rfl, rfl⟩
/-- hibit's ok, digit. -/
theorem ok_any (i : Int) (w : World) : Calls Tryz.prog 129 #[.int .i64 i] w fun e w' => e = .returned (.bool (decide (0 ≤ i) && decide (i < 16777216))) ∧ w = w' := by
  by_cases h0 : 0 ≤ i
  · rw [decide_eq_true h0]
    obtain ⟨b, hb⟩ : ∃ b, decide (i < 16777216) = b := ⟨_, rfl⟩
    rw [hb]
    go_enter Tryz.func129, Tryz.ntmps129
    go_wp2
    go_ret
    exact ⟨by rw [← hb]; rfl, rfl⟩
  · rw [decide_eq_false h0]
    go_enter Tryz.func129, Tryz.ntmps129
    go_wp2
    go_ret
    exact ⟨rfl, rfl⟩
theorem digit_any (i L : Nat) (_hi : i < 16777216) (hL : L ≤ 3) (w : World) : Calls Tryz.prog 130 #[.int .i64 (i : Int), .int .i64 (L : Int)] w fun e w' => e = .returned (.int .i64 ((i / 64 ^ L % 64 : Nat) : Int)) ∧ w = w' := by
  have hLs : L = 0 ∨ L = 1 ∨ L = 2 ∨ L = 3 := by omega
  rcases hLs with rfl | rfl | rfl | rfl
  all_goals
    go_enter Tryz.func130, Tryz.ntmps130
    go_wp2
    go_ret
    refine ⟨?_, rfl⟩
    first
      | exact congrArg (fun n => Ending.returned (Value.int .i64 n)) ((and_nat i 63 6 (by decide) (by decide)).trans (by simp))
      | exact congrArg (fun n => Ending.returned (Value.int .i64 n)) ((congrArg (fun n => bits .and .i64 n 63) (show (i : Int) / 64 = ((i / 64 : Nat) : Int) from by simp)).trans ((and_nat (i / 64) 63 6 (by decide) (by decide)).trans (by simp)))
      | exact congrArg (fun n => Ending.returned (Value.int .i64 n)) ((congrArg (fun n => bits .and .i64 n 63) (show (i : Int) / 4096 = ((i / 4096 : Nat) : Int) from by simp)).trans ((and_nat (i / 4096) 63 6 (by decide) (by decide)).trans (by simp)))
      | exact congrArg (fun n => Ending.returned (Value.int .i64 n)) ((congrArg (fun n => bits .and .i64 n 63) (show (i : Int) / 262144 = ((i / 262144 : Nat) : Int) from by simp)).trans ((and_nat (i / 262144) 63 6 (by decide) (by decide)).trans (by simp)))
end Go.Proofs.YtmcigeebeoobdaaGreatDoor
end

/-
  Contracts of package hibit: at, Has, Len.
-/
section
namespace Go.Viv
open Go.RowKit
/-- Each node below the top has a number. -/
def Tight (l : List Nat) (nb : Nat → Nat → Option Nat) : Prop := ∀ L a b, L < 3 → nb L a = some b → ∃ i, i ∈ l ∧ i / 64 ^ (L + 1) = a
/-- A set of numbers in memory. -/
structure SetIs (w : World) (p : Nat) (l : List Nat) (S : Nat → Prop) : Prop where
  rise : RiseN l
  count : w.cell? ⟨p, 65, none⟩ = some (.int .i64 (l.length : Int))
  tr : ∃ nb, Tree w p l S nb ∧ Tight l nb
  inb : ∀ k, S k → k < w.heap.size
theorem SetIs.tree {w : World} {p : Nat} {l : List Nat} {S : Nat → Prop} (h : SetIs w p l S) : ∃ nb, Tree w p l S nb := let ⟨nb, h1, _⟩ := h.tr; ⟨nb, h1⟩
theorem SetIs.inS {w : World} {p : Nat} {l : List Nat} {S : Nat → Prop} (h : SetIs w p l S) : S p ∧ p < w.heap.size := by
  obtain ⟨nb, ht⟩ := h.tree
  obtain ⟨h1, _, _, h2, _⟩ := ht.node 3 0 p ht.top
  exact ⟨h1, h2.lt⟩
theorem SetIs.keep {w w' : World} {p : Nat} {l : List Nat} {S T : Nat → Prop} (h : SetIs w p l S) (hf : Fr T w w') (hd : ∀ k, S k → ¬ T k) : SetIs w' p l S := by
  obtain ⟨nb, ht, hg⟩ := h.tr
  have hp := h.inS
  exact ⟨h.rise, by rw [hf.cell hp.2 (hd _ hp.1)]; exact h.count, ⟨nb, ht.fr hf hd, hg⟩, fun k hk => Nat.lt_of_lt_of_le (h.inb k hk) hf.size⟩
theorem SetIs.mono {w : World} {p : Nat} {l : List Nat} {S T : Nat → Prop} (h : SetIs w p l S) (hd : ∀ k, S k → T k) (hb : ∀ k, T k → k < w.heap.size) : SetIs w p l T := by
  obtain ⟨nb, ht, hg⟩ := h.tr
  exact ⟨h.rise, h.count, ⟨nb, ht.mono hd, hg⟩, hb⟩
theorem ht0 {w : World} {p : Nat} {l : List Nat} {S : Nat → Prop} {nb : Nat → Nat → Option Nat} (h : Tree w p l S nb) {a b : Nat} (hb : nb 0 a = some b) : S b ∧ ∃ word, word < 18446744073709551616 ∧ NodeC w b word (fun _ => none) ∧ ∀ d, d < 64 → word.testBit d = decide (a * 64 + d ∈ l) := h.node 0 a b hb
theorem Tree.frF {w w' : World} {p : Nat} {l : List Nat} {S : Nat → Prop} {nb : Nat → Nat → Option Nat} (h : Tree w p l S nb) (hf : Fr (fun _ => False) w w') : Tree w' p l S nb := h.fr hf (fun _ _ h => h)
theorem kids_at (nb : Nat → Nat → Option Nat) (i L : Nat) : kidsOf nb (L + 1) (i / 64 ^ (L + 2)) (i / 64 ^ (L + 1) % 64) = nb L (i / 64 ^ (L + 1)) := by
  show nb L (i / 64 ^ (L + 2) * 64 + i / 64 ^ (L + 1) % 64) = _
  rw [show i / 64 ^ (L + 2) = i / 64 ^ (L + 1) / 64 from by rw [Nat.div_div_eq_div_mul, ← Nat.pow_succ], show i / 64 ^ (L + 1) / 64 * 64 + i / 64 ^ (L + 1) % 64 = i / 64 ^ (L + 1) from by omega]
end Go.Viv
namespace Go.Proofs.YtmcigeebeoobdaaGreatDoor
open Go.RowKit Go.Viv
theorem calls_sym {f : FuncId} {args : Array Value} {w : World} {v : Value} (h : Calls Tryz.prog f args w fun e w' => e = .returned v ∧ w = w') : Calls Tryz.prog f args w fun e w' => e = .returned v ∧ w' = w := h.mono fun _ _ ⟨h1, h2⟩ => ⟨h1, h2.symm⟩
set_option maxRecDepth 100000 in
set_option maxHeartbeats 1000000 in
theorem at_hib (p i lv : Nat) (hi : i < 16777216) (hlv : lv ≤ 3) (l : List Nat) (S : Nat → Prop) (nb : Nat → Nat → Option Nat) (w : World) (h : Tree w p l S nb) :
    Calls Tryz.prog 133 #[.pointer (some ⟨p, 0, none⟩), .int .i64 (i : Int), .int .i64 (lv : Int)] w fun e w' => e = .returned (ptrV (nb lv (i / 64 ^ (lv + 1)))) ∧ Fr (fun _ => False) w w' := by
  have HT := Lib.hid h
  clear h
  go_enter Tryz.func133, Tryz.ntmps133
  go_wp2_with fail
  go_loopw [7, 8] (fun u t wr => ∃ L : Nat, lv ≤ L ∧ L ≤ 3 ∧ t = .int .i64 L ∧ u = ptrV (nb L (i / 64 ^ (L + 1))) ∧ Fr (fun _ => False) w wr) (fun _ t _ => (intOf t).toNat)
  case atStart =>
    refine ⟨3, hlv, by omega, rfl, ?_, Fr.refl _ _⟩
    rw [show (64 : Nat) ^ (3 + 1) = 16777216 from by decide, Nat.div_eq_of_lt hi, HT.out.top]
    rfl
  case round =>
    obtain ⟨L, hL1, hL3, rfl, rfl, hfr⟩ := hrel
    by_cases hlt : lv < L
    · have hlt' : (lv : Int) < L := by omega
      obtain ⟨M, rfl⟩ : ∃ M, L = M + 1 := ⟨L - 1, by omega⟩
      cases hb : nb (M + 1) (i / 64 ^ (M + 1 + 1)) with
      | none =>
        have hno : ∀ M' ≤ M + 1, nb M' (i / 64 ^ (M' + 1)) = none := by
          intro M'
          induction hk : M + 1 - M' generalizing M' with
          | zero => intro h; obtain rfl : M' = M + 1 := (by omega); exact hb
          | succ q ih =>
            intro h
            have h1 := ih (M' + 1) (by omega) (by omega)
            cases hc : nb M' (i / 64 ^ (M' + 1)) with
            | none => rfl
            | some c =>
              obtain ⟨c2, hc2⟩ := HT.out.up M' _ c (by omega) hc
              rw [Nat.div_div_eq_div_mul, ← Nat.pow_succ, h1] at hc2
              cases hc2
        have hz := hno lv (by omega)
        have HZ := Lib.hid (And.intro hz hfr)
        clear hno hb hz hfr
        simp only [ptrV]
        go_wp2
        go_ret
        exact ⟨by rw [HZ.out.1]; rfl, HZ.out.2⟩
      | some b =>
        obtain ⟨_, word, _, hN, _⟩ := HT.out.node _ _ _ hb
        have hd : i / 64 ^ (M + 1) % 64 < 64 := Nat.mod_lt _ (by decide)
        have hk := (hN.fr hfr (fun h => h)).cellK hd
        rw [kids_at] at hk
        have HD := Lib.hid (fun W => digit_any i (M + 1) hi hL3 W)
        obtain ⟨d, hdd⟩ : ∃ d, i / 64 ^ (M + 1) % 64 = d := ⟨_, rfl⟩
        rw [hdd] at hd hk HD
        obtain ⟨r, hr⟩ : ∃ r, ptrV (nb M (i / 64 ^ (M + 1))) = r := ⟨_, rfl⟩
        rw [hr] at hk
        have hd' : (d : Int) < 64 := by omega
        have HR := Lib.hid (And.intro hr hfr)
        clear hN hb hdd hr hfr
        simp only [ptrV]
        go_wp2_with fail
        refine Ord.wp_region_cls (S := fun w' => w' = wr.drew) #[0, 0, 0, 6, 1, 17, 63, 127, 255] [(0, true), (1, true), (2, true), (3, true), (4, true), (5, true), (6, true), (7, true), (8, true)] [] (by kernel_rfl) (by kernel_rfl) (by intro c d v a w h; cases d <;> exact h) rfl ?_
        simp only [Ord.pick, List.map_cons, List.map_nil, List.getElem?_toArray, List.getElem?_cons_succ, List.getElem?_cons_zero]
        iterate 9 (apply Ord.c_step; intro K hK; go_simp; first | (refine hK _ ?_; clear hK K) | (apply Exists.intro; refine ⟨?_, hK _ ?_⟩; (go_at_call 130; exact calls_sym (HD.out _)); clear hK K))
        refine Ord.c_nil ?_
        go_wp2
        go_roundw
        case rel => exact ⟨M, by omega, by omega, by go_num, HR.out.1.symm, HR.out.2.drew⟩
        case measure => simp [intOf]
    · obtain rfl : lv = L := by omega
      obtain ⟨r, hr⟩ : ∃ r, ptrV (nb lv (i / 64 ^ (lv + 1))) = r := ⟨_, rfl⟩
      rw [hr]
      have HF := Lib.hid (And.intro hr hfr)
      clear hfr hr
      go_wp2
      go_ret
      exact ⟨by rw [HF.out.1]; rfl, HF.out.2⟩
set_option maxRecDepth 100000 in
set_option maxHeartbeats 1000000 in
theorem has_nat (p i : Nat) (hi : i < 16777216) (l : List Nat) (S : Nat → Prop) (w : World) (h : SetIs w p l S) :
    Calls Tryz.prog 86 #[.pointer (some ⟨p, 0, none⟩), .int .i64 (i : Int)] w fun e w' => e = .returned (.bool (decide (i ∈ l))) ∧ Fr (fun _ => False) w w' := by
  obtain ⟨nb, ht⟩ := h.tree
  have HT := Lib.hid ht
  have HA := Lib.hid (fun W (hW : Fr (fun _ => False) w W) => at_hib p i 0 hi (by omega) l S nb W (ht.frF hW))
  have HO := Lib.hid (ok_any (i : Int) w)
  rw [decide_eq_true (by omega : 0 ≤ (i : Int)), decide_eq_true (by omega : (i : Int) < 16777216)] at HO
  have HD := Lib.hid (fun W => digit_any i 0 hi (by omega) W)
  clear h ht
  simp only [Nat.zero_add, Nat.pow_one, Nat.pow_zero, Nat.div_one] at HA HD
  cases hb : nb 0 (i / 64) with
  | none =>
    have HN := Lib.hid (show decide (i ∈ l) = false from decide_eq_false (fun hm => by
      obtain ⟨b, hb2⟩ := HT.out.low i hm
      rw [hb] at hb2
      cases hb2))
    rw [hb] at HA
    simp only [ptrV] at HA
    clear hb
    go_enter Tryz.func86, Tryz.ntmps86
    go_wp2_with fail
    refine HO.out.mono ?_
    rintro e w1 ⟨rfl, rfl⟩
    go_wp2_with fail
    refine (HA.out _ (Fr.refl _ _)).mono ?_
    rintro e w2 ⟨rfl, hf2⟩
    have H2 := Lib.hid hf2
    clear hf2
    go_wp2_with fail
    refine Ord.wp_region_cls (S := fun w' => w' = w2.drew) #[0, 1, 3, 7, 15, 31, 63, 7, 135, 511, 1023, 2047] [(0, true), (1, true), (2, true), (3, true), (4, true), (5, true), (6, true), (7, true), (8, true), (9, true), (10, true), (11, true)] [] (by kernel_rfl) (by kernel_rfl) (by intro c d v a w h; cases d <;> exact h) rfl ?_
    simp only [Ord.pick, List.map_cons, List.map_nil, List.getElem?_toArray, List.getElem?_cons_succ, List.getElem?_cons_zero]
    iterate 12 (apply Ord.c_step; intro K hK; go_simp; first | (refine hK _ ?_; clear hK K))
    refine Ord.c_nil ?_
    go_wp2
    go_ret
    exact ⟨by rw [HN.out]; rfl, H2.out.drew⟩
  | some b =>
    obtain ⟨_, word, hw, hN, hbit⟩ := ht0 HT.out hb
    have hd : i % 64 < 64 := Nat.mod_lt _ (by decide)
    have HB := Lib.hid (show bitI word ((i % 64 : Nat) : Int) = decide (i ∈ l) from by
      unfold bitI
      rw [decide_eq_true (by omega), decide_eq_true (by omega), Int.toNat_natCast, hbit _ hd]
      show (true && true && decide (i / 64 * 64 + i % 64 ∈ l)) = _
      rw [show i / 64 * 64 + i % 64 = i by omega]
      rfl)
    have HH := Lib.hid (fun W => has_w word hw ((i % 64 : Nat) : Int) W)
    have HC := Lib.hid (fun W (hW : Fr (fun _ => False) w W) => (hN.fr hW (fun h => h)).cell0)
    rw [hb] at HA
    simp only [ptrV] at HA
    obtain ⟨d, hdd⟩ : ∃ d, i % 64 = d := ⟨_, rfl⟩
    rw [hdd] at HD HB HH
    clear hb hN hbit hd hdd
    go_enter Tryz.func86, Tryz.ntmps86
    go_wp2_with fail
    refine HO.out.mono ?_
    rintro e w1 ⟨rfl, rfl⟩
    go_wp2_with fail
    refine (HA.out _ (Fr.refl _ _)).mono ?_
    rintro e w2 ⟨rfl, hf2⟩
    have hc := HC.out _ hf2
    have H2 := Lib.hid hf2
    clear hf2
    go_wp2_with fail
    refine Ord.wp_region_cls (S := fun w' => w' = w2.drew) #[0, 1, 3, 7, 15, 31, 63, 7, 135, 511, 1023, 2047] [(0, true), (1, true), (2, true), (3, true), (4, true), (5, true), (6, true), (7, true), (8, true), (9, true), (10, true), (11, true)] [] (by kernel_rfl) (by kernel_rfl) (by intro c d v a w h; cases d <;> exact h) rfl ?_
    simp only [Ord.pick, List.map_cons, List.map_nil, List.getElem?_toArray, List.getElem?_cons_succ, List.getElem?_cons_zero]
    iterate 12 (apply Ord.c_step; intro K hK; go_simp; first | (refine hK _ ?_; clear hK K) | (apply Exists.intro; refine ⟨?_, hK _ ?_⟩; (first | (go_at_call 130; exact calls_sym (HD.out _)) | (go_at_call 134; exact calls_sym (HH.out _))); clear hK K))
    refine Ord.c_nil ?_
    go_wp2
    go_ret
    exact ⟨by rw [← HB.out]; rfl, H2.out.drew⟩
end Go.Proofs.YtmcigeebeoobdaaGreatDoor
end

/-
  Contracts of package hibit: Len, New, Add.
-/
section
namespace Go.Viv
open Go.RowKit
def zeroNode : Array Value := (Value.int .u64 0 :: List.replicate 64 (Value.pointer none)).toArray
def zeroSet : Array Value := (Value.int .u64 0 :: List.replicate 64 (Value.pointer none) ++ [Value.int .i64 0]).toArray
theorem zeroNode_c {w : World} {g : Nat} {t : TypeId} (h : Blk w g t zeroNode) : NodeC w g 0 (fun _ => none) := by
  refine ⟨t, _, h, rfl, fun d hd => ?_⟩
  show (Value.int .u64 0 :: List.replicate 64 (Value.pointer none)).toArray[1 + d]? = _
  rw [List.getElem?_toArray, Nat.add_comm, List.getElem?_cons_succ, List.getElem?_replicate, if_pos hd]
  rfl
theorem zeroSet_c {w : World} {g : Nat} {t : TypeId} (h : Blk w g t zeroSet) : NodeC w g 0 (fun _ => none) ∧ w.cell? ⟨g, 65, none⟩ = some (.int .i64 0) := by
  refine ⟨⟨t, _, h, rfl, fun d hd => ?_⟩, by rw [h.cell]; rfl⟩
  show (Value.int .u64 0 :: List.replicate 64 (Value.pointer none) ++ [Value.int .i64 0]).toArray[1 + d]? = _
  rw [List.getElem?_toArray, Nat.add_comm, List.cons_append, List.getElem?_cons_succ, List.getElem?_append_left (by simpa using hd), List.getElem?_replicate, if_pos hd]
  rfl
/-- The set of no number. -/
theorem empty_tree {w : World} {p : Nat} {S : Nat → Prop} (h : NodeC w p 0 (fun _ => none)) (hS : S p) : Tree w p [] S (fun L a => if L = 3 ∧ a = 0 then some p else none) := by
  refine ⟨by simp, fun a b h => ?_, fun L a b h => ?_, fun L a b hb => ?_, fun L a L' a' b h1 h2 => ?_, fun L a b hL h => ?_, by simp, by simp⟩
  · split at h
    · omega
    · cases h
  · split at h
    · omega
    · cases h
  · split at hb
    · rename_i he
      obtain ⟨rfl, rfl⟩ := he
      obtain rfl := Option.some.inj hb
      refine ⟨hS, 0, by decide, h.kids (fun d _ => ?_), fun d _ => ?_⟩
      · show (if 2 = 3 ∧ 0 * 64 + d = 0 then some p else none) = none
        simp
      · rw [Nat.zero_testBit]
        show false = (if 2 = 3 ∧ 0 * 64 + d = 0 then some p else none : Option Nat).isSome
        simp
    · cases hb
  · split at h1
    · split at h2
      · omega
      · cases h2
    · cases h1
  · split at h
    · omega
    · cases h
/-- A set while it is changed: its tree, its count. -/
structure HibSt (w wr : World) (p : Nat) (l : List Nat) (S : Nat → Prop) (nb : Nat → Nat → Option Nat) (n : Nat) : Prop where
  tree : Tree wr p l (Ext S w wr) nb
  fr : Fr S w wr
  count : wr.cell? ⟨p, 65, none⟩ = some (.int .i64 (n : Int))
  inb : ∀ k, S k → k < w.heap.size
theorem HibSt.lt {w a : World} {p : Nat} {l : List Nat} {S : Nat → Prop} {nb : Nat → Nat → Option Nat} {n : Nat} (h : HibSt w a p l S nb n) {k : Nat} (hk : Ext S w a k) : k < a.heap.size := by
  have := h.fr.size
  rcases hk with h1 | ⟨_, h1⟩
  · have := h.inb k h1; omega
  · exact h1
theorem Ext.le {S : Nat → Prop} {w a b : World} (h : a.heap.size ≤ b.heap.size) {k : Nat} (hk : Ext S w a k) : Ext S w b k := by
  rcases hk with h1 | ⟨h1, h2⟩
  · exact .inl h1
  · exact .inr ⟨h1, by omega⟩
theorem HibSt.on {w a b : World} {p : Nat} {l : List Nat} {S : Nat → Prop} {nb : Nat → Nat → Option Nat} {n : Nat} (h : HibSt w a p l S nb n) (hf : Fr (fun _ => False) a b) : HibSt w b p l S nb n := by
  obtain ⟨_, _, _, h2, _⟩ := h.tree.node 3 0 p h.tree.top
  exact ⟨(h.tree.frF hf).mono (fun k hk => Ext.le hf.size hk), h.fr.trans hf (fun _ h => h.elim), by rw [hf.cell h2.lt (fun h => h)]; exact h.count, h.inb⟩
theorem HibSt.start {w : World} {p : Nat} {l : List Nat} {S : Nat → Prop} {nb : Nat → Nat → Option Nat} (h : Tree w p l S nb) {n : Nat} (hc : w.cell? ⟨p, 65, none⟩ = some (.int .i64 (n : Int))) (hb : ∀ k, S k → k < w.heap.size) : HibSt w w p l S nb n :=
  ⟨h.mono (fun _ h => .inl h), Fr.refl _ _, hc, hb⟩
theorem Ext.in_ {S : Nat → Prop} {w a : World} {k : Nat} (hk : Ext S w a k) : S k ∨ w.heap.size ≤ k := by
  rcases hk with h | ⟨h, _⟩
  · exact .inl h
  · exact .inr h
theorem HibSt.fr_set {w a : World} {p : Nat} {l : List Nat} {S : Nat → Prop} {nb : Nat → Nat → Option Nat} {n : Nat} (h : HibSt w a p l S nb n) {L x b : Nat} (hb : nb L x = some b) (o : Nat) (u : Value) : Fr S w (a.setCell ⟨b, o, none⟩ u) :=
  h.fr.setCell (Ext.in_ (h.tree.node L x b hb).1) u
theorem cell_setne {w : World} {b o c q : Nat} (u : Value) (h : ¬ (b = c ∧ o = q)) : (w.setCell ⟨c, q, none⟩ u).cell? ⟨b, o, none⟩ = w.cell? ⟨b, o, none⟩ :=
  by
  rw [World.cell?_setCell_other]
  intro e
  injection e with e1 e2
  exact h ⟨e1.symm, e2.symm⟩
theorem setCell_size (w : World) (a : Addr) (u : Value) : (w.setCell a u).heap.size = w.heap.size := by simp [World.setCell]
theorem alloc_size (w : World) (o : Obj) : (w.alloc o).heap.size = w.heap.size + 1 := by simp
theorem NodeC.word_eq {w : World} {b x y : Nat} {k k' : Nat → Option Nat} (h : NodeC w b x k) (h' : NodeC w b y k') : x = y := by
  have h1 := h.cell0
  rw [h'.cell0] at h1
  injection h1 with h1
  injection h1 with _ h1
  omega
theorem HibSt.word {w a : World} {p : Nat} {l : List Nat} {S : Nat → Prop} {nb : Nat → Nat → Option Nat} {n : Nat} (h : HibSt w a p l S nb n) {L x b word : Nat} {kid : Nat → Option Nat} (hb : nb L x = some b) (hn : NodeC a b word kid) : HibSt w (a.setCell ⟨b, 0, none⟩ (.int .u64 (word : Int))) p l S nb n := by
  refine ⟨?_, h.fr_set hb _ _, ?_, h.inb⟩
  · refine (h.tree.same (b := b) (fun k _ hk => Below.heap_setCell a _ _ k hk) (fun word' kid' hn' => ?_)).mono (fun k hk => Ext.le (by rw [setCell_size]; exact Nat.le_refl _) hk)
    rw [hn.word_eq hn']
    exact hn'.setWord word'
  · rw [cell_setne _ (by omega)]; exact h.count
theorem or_bit (x d e : Nat) (hd : d < 64) : (x ||| oneN (d : Int)).testBit e = (decide (e = d) || x.testBit e) := by
  rw [Nat.testBit_or, oneN_bit]
  by_cases he : e = d
  · subst he
    rw [decide_eq_true rfl, decide_eq_true hd, decide_eq_true rfl]
    simp
  · rw [decide_eq_false he, decide_eq_false (by omega)]
    simp
theorem HibSt.growTo {w a : World} {p : Nat} {l : List Nat} {S : Nat → Prop} {nb : Nat → Nat → Option Nat} {n : Nat} (h : HibSt w a p l S nb n) {L x b word d : Nat} {t : TypeId} {zc : Array Value} (hzc : zc = zeroNode) (o : Obj) (hb : nb (L + 1) x = some b) (hn : NodeC a b word (kidsOf nb (L + 1) x)) (hw : word < 18446744073709551616) (hbit : ∀ e, e < 64 → word.testBit e = bitOf nb l (L + 1) x e) (hd : d < 64) (hno : nb L (x * 64 + d) = none) :
    HibSt w ((((a.setCell ⟨b, 0, none⟩ (.int .u64 ((word ||| oneN (d : Int) : Nat) : Int))).setCell ⟨b, 1 + d, none⟩ (.pointer (some ⟨a.heap.size + 1, 0, none⟩))).alloc o).alloc (.cells zc t)) p l S (upN nb L (x * 64 + d) (some (a.heap.size + 1))) n := by
  subst hzc
  have hbS := (h.tree.node _ _ _ hb).1
  obtain ⟨a2, ha2⟩ : ∃ a2, (a.setCell ⟨b, 0, none⟩ (.int .u64 ((word ||| oneN (d : Int) : Nat) : Int))).setCell ⟨b, 1 + d, none⟩ (.pointer (some ⟨a.heap.size + 1, 0, none⟩)) = a2 := ⟨_, rfl⟩
  have hsz : a2.heap.size = a.heap.size := by rw [← ha2, setCell_size, setCell_size]
  have hN : NodeC a2 b (word ||| oneN (d : Int)) (fun e => if e = d then some (a.heap.size + 1) else kidsOf nb (L + 1) x e) := by
    rw [← ha2]
    exact (hn.setWord (word ||| oneN (d : Int))).setKid hd (some (a.heap.size + 1))
  have hfr : Fr S w a2 := by
    rw [← ha2]
    exact (h.fr_set hb _ _).setCell (Ext.in_ hbS) _
  have hO : ∀ k, k ≠ b → a2.heap[k]? = a.heap[k]? := fun k hk => by
    rw [← ha2, Below.heap_setCell _ _ _ k hk, Below.heap_setCell _ _ _ k hk]
  have hcnt : a2.cell? ⟨p, 65, none⟩ = some (.int .i64 (n : Int)) := by
    rw [← ha2, cell_setne _ (by omega), cell_setne _ (by omega)]
    exact h.count
  rw [ha2]
  obtain ⟨_, _, _, h2, _⟩ := h.tree.node 3 0 p h.tree.top
  have hplt := h2.lt
  refine ⟨?_, (hfr.alloc _).alloc _, ?_, h.inb⟩
  · refine (h.tree.grow hb hd hno (fun hx => by have := h.lt hx; omega) (show word ||| oneN (d : Int) < 2 ^ 64 from Nat.or_lt_two_pow hw (oneN_lt _)) (fun e he => by rw [or_bit word d e hd, hbit e he]) ((hN.alloc _).alloc _) ?_ ?_).mono (fun k hk => ?_)
    · have := Blk.new (a2.alloc o) t zeroNode
      rw [alloc_size, hsz] at this
      exact zeroNode_c this
    · intro k hk hkb
      have := h.lt hk
      rw [Below.heap_alloc _ _ _ (by rw [alloc_size]; omega), Below.heap_alloc _ _ _ (by omega), hO k hkb]
    · rcases hk with hk | rfl
      · exact Ext.le (by rw [alloc_size, alloc_size]; omega) hk
      · exact .inr ⟨by have := h.fr.size; omega, by rw [alloc_size, alloc_size]; omega⟩
  · rw [World.cell?_of_block (Below.heap_alloc _ _ _ (by rw [alloc_size]; show p < _; omega)), World.cell?_of_block (Below.heap_alloc _ _ _ (by show p < _; omega))]
    exact hcnt
end Go.Viv
end

/-
  Contracts of package hibit: Len, New, Add.
-/
section
namespace Go.Viv
open Go.RowKit
theorem cell_sethere {w : World} {b o : Nat} {u : Value} (v : Value) (h : w.cell? ⟨b, o, none⟩ = some u) : (w.setCell ⟨b, o, none⟩ v).cell? ⟨b, o, none⟩ = some v := World.cell?_setCell_same w ⟨b, o, none⟩ v h
theorem rise_len {l : List Nat} (hr : RiseN l) {N : Nat} (hl : ∀ x, x ∈ l → x < N) : l.length ≤ N := by
  have hn : l.Nodup := by
    clear hl
    induction l with
    | nil => exact List.nodup_nil
    | cons a r ih => exact List.nodup_cons.2 ⟨fun h => Nat.lt_irrefl _ (hr.1 a h), ih hr.2⟩
  have := nodup_le l (List.range N) hn (fun x hx => List.mem_range.2 (hl x hx))
  simpa using this
theorem tight_empty (p : Nat) : Tight [] (fun L a => if L = 3 ∧ a = 0 then some p else none) := fun L a b hL h => by
  have h' : (if L = 3 ∧ a = 0 then some p else none) = some b := h
  rw [if_neg (by omega)] at h'
  cases h'
theorem Tight.ins {l : List Nat} {nb : Nat → Nat → Option Nat} (h : Tight l nb) (i : Nat) : Tight (insN i l) nb := fun L a b hL hb => by
  obtain ⟨j, h1, h2⟩ := h L a b hL hb
  exact ⟨j, mem_insN.2 (.inr h1), h2⟩
theorem Tight.up {l : List Nat} {nb : Nat → Nat → Option Nat} (h : Tight l nb) {L a g i : Nat} (hi : i ∈ l) (ha : i / 64 ^ (L + 1) = a) : Tight l (upN nb L a (some g)) := fun L' a' b hL hb => by
  by_cases he : L' = L ∧ a' = a
  · obtain ⟨rfl, rfl⟩ := he
    exact ⟨i, hi, ha⟩
  · rw [upN_ne he] at hb
    exact h L' a' b hL hb
theorem SetIs.later {w a b : World} {p : Nat} {l : List Nat} {S : Nat → Prop} (h : SetIs a p l (Ext S w a)) (hf : Fr (fun _ => False) a b) : SetIs b p l (Ext S w b) :=
  (h.keep hf (fun _ _ h => h)).mono (fun _ hk => Ext.le hf.size hk) (fun k hk => by
    rcases hk with hk | ⟨_, hk⟩
    · exact Nat.lt_of_lt_of_le (h.inb k (.inl hk)) hf.size
    · exact hk)
theorem or_same {x d : Nat} (hd : d < 64) (h : x.testBit d = true) : x ||| oneN (d : Int) = x := by
  apply Nat.eq_of_testBit_eq
  intro e
  rw [or_bit x d e hd]
  by_cases he : e = d
  · subst he; rw [h]; simp
  · rw [decide_eq_false he]; rfl
theorem HibSt.put {w a : World} {p : Nat} {l : List Nat} {S : Nat → Prop} {nb : Nat → Nat → Option Nat} {n : Nat} (h : HibSt w a p l S nb n) (hr : RiseN l) {i b word : Nat} (hi : i < 16777216) (hb : nb 0 (i / 64) = some b) (hn : NodeC a b word (fun _ => none)) (hw : word < 18446744073709551616) (hbit : ∀ d, d < 64 → word.testBit d = decide (i / 64 * 64 + d ∈ l)) (hni : i ∉ l) (hnl : n = l.length) (htg : Tight (insN i l) nb) :
    SetIs ((a.setCell ⟨b, 0, none⟩ (.int .u64 ((word ||| oneN ((i % 64 : Nat) : Int) : Nat) : Int))).setCell ⟨p, 65, none⟩ (.int .i64 ((n : Int) + 1))) p (insN i l) (Ext S w ((a.setCell ⟨b, 0, none⟩ (.int .u64 ((word ||| oneN ((i % 64 : Nat) : Int) : Nat) : Int))).setCell ⟨p, 65, none⟩ (.int .i64 ((n : Int) + 1)))) ∧
    Fr S w ((a.setCell ⟨b, 0, none⟩ (.int .u64 ((word ||| oneN ((i % 64 : Nat) : Int) : Nat) : Int))).setCell ⟨p, 65, none⟩ (.int .i64 ((n : Int) + 1))) := by
  have hlt := hn.lt
  have hm : i % 64 < 64 := Nat.mod_lt _ (by decide)
  obtain ⟨htS, wt, hwt, hnt, _⟩ := h.tree.node 3 0 p h.tree.top
  have h1 : Tree (a.setCell ⟨b, 0, none⟩ (.int .u64 ((word ||| oneN ((i % 64 : Nat) : Int) : Nat) : Int))) p (insN i l) (Ext S w a) nb := by
    refine h.tree.leaf hb (show word ||| oneN _ < 2 ^ 64 from Nat.or_lt_two_pow hw (oneN_lt _)) (fun d hd => ?_) (hn.setWord _) (fun k _ hk => Below.heap_setCell a _ _ k hk) (fun j hj => ?_) (by omega)
    · rw [or_bit word _ d hm, hbit d hd]
      by_cases hdi : d = i % 64
      · subst hdi
        rw [show i / 64 * 64 + i % 64 = i by omega, decide_eq_true rfl, decide_eq_true (mem_insN.2 (.inl rfl))]
        rfl
      · rw [decide_eq_false hdi, Bool.false_or, decide_eq_decide, mem_insN]
        constructor
        · exact .inr
        · rintro (h2 | h2)
          · omega
          · exact h2
    · rw [mem_insN]
      constructor
      · rintro (h2 | h2)
        · subst h2; exact absurd rfl hj
        · exact h2
      · exact .inr
  have hsz : (a.setCell ⟨b, 0, none⟩ (.int .u64 ((word ||| oneN ((i % 64 : Nat) : Int) : Nat) : Int))).heap.size = a.heap.size := setCell_size _ _ _
  have hsz2 : ((a.setCell ⟨b, 0, none⟩ (.int .u64 ((word ||| oneN ((i % 64 : Nat) : Int) : Nat) : Int))).setCell ⟨p, 65, none⟩ (.int .i64 ((n : Int) + 1))).heap.size = a.heap.size := by rw [setCell_size, hsz]
  refine ⟨⟨riseN_ins hr, ?_, ⟨nb, ?_, htg⟩, ?_⟩, (h.fr_set hb _ _).setCell (Ext.in_ htS) _⟩
  · rw [cell_sethere _ ((cell_setne _ (by omega)).trans h.count), insN_len hr hni, hnl]
    simp
  · refine (h1.same (b := p) (fun k _ hk => Below.heap_setCell _ _ _ k hk) (fun word' kid' hn' => ?_)).mono (fun k hk => Ext.le (by rw [hsz2]; exact Nat.le_refl _) hk)
    obtain ⟨t, cs, g1, g2, g3⟩ := hn'
    refine ⟨t, _, g1.set_ 65 _, ?_, fun d hd => ?_⟩
    · rw [Array.getElem?_setIfInBounds_ne (by omega)]; exact g2
    · rw [Array.getElem?_setIfInBounds_ne (by omega)]; exact g3 d hd
  · intro k hk
    rcases hk with hk | ⟨_, hk⟩
    · have := h.inb k hk; have := h.fr.size; omega
    · exact hk
end Go.Viv
namespace Go.Viv
open Go.RowKit
theorem reg_drew (w : World) : ∃ p : Regrown, w.drew = Go.Sort.grow (redrawn w p.d) p.os := reg_of_fr (Fr.refl _ _).drew
end Go.Viv
namespace Go.Proofs.YtmcigeebeoobdaaGreatDoor
open Go.RowKit Go.Viv
theorem len_hib (p : Nat) (l : List Nat) (S : Nat → Prop) (w : World) (h : SetIs w p l S) :
    Calls Tryz.prog 82 #[.pointer (some ⟨p, 0, none⟩)] w fun e w' => e = .returned (.int .i64 (l.length : Int)) ∧ w' = w := by
  have hc := h.count
  clear h
  go_enter Tryz.func82, Tryz.ntmps82
  go_wp2
  go_ret
  exact ⟨rfl, rfl⟩
theorem zc_node : Tryz.zeroCells225 = zeroNode := by kernel_rfl
theorem zc_set : Tryz.zeroCells227 = zeroSet := by kernel_rfl
theorem build_set (w : World) : (Instr.build 227 #[]).run Tryz.prog w = .ok (.agg zeroSet) w := by kernel_rfl
theorem build_node (w : World) : (Instr.build 225 #[]).run Tryz.prog w = .ok (.agg zeroNode) w := by kernel_rfl
set_option maxRecDepth 100000 in
theorem new_hib (w : World) :
    Calls Tryz.prog 144 #[.slice none 0 0] w fun e w' => e = .returned (.pointer (some ⟨w.heap.size, 0, none⟩)) ∧ SetIs w' w.heap.size [] (fun k => k = w.heap.size) ∧ Fr (fun _ => False) w w' := by
  have hb := build_set
  have HZ := Lib.hid (Blk.new w 227 zeroSet)
  go_enter Tryz.func144, Tryz.ntmps144
  go_wp2_with fail
  go_loopw [10] (fun t wr => t = .int .i64 0 ∧ wr = w.alloc (.cells zeroSet 227)) (fun _ _ => 0)
  case atStart => exact ⟨rfl, rfl⟩
  case round =>
    obtain ⟨rfl, rfl⟩ := hrel
    go_wp2
    go_ret
    have h := zeroSet_c HZ.out
    exact ⟨rfl, ⟨trivial, h.2, ⟨_, empty_tree h.1 rfl, tight_empty _⟩, fun k hk => by rw [hk, alloc_size]; omega⟩, Fr.alloc1 _ _ _⟩
set_option maxRecDepth 100000 in
set_option maxHeartbeats 2000000 in
theorem add_new (p i : Nat) (hi : i < 16777216) (l : List Nat) (S : Nat → Prop) (w : World) (h : SetIs w p l S) (hni : i ∉ l) :
    Calls Tryz.prog 84 #[.pointer (some ⟨p, 0, none⟩), .int .i64 (i : Int)] w fun e w' => e = .returned (.tuple #[.bool true, .int .i64 0]) ∧ SetIs w' p (insN i l) (Ext S w w') ∧ Fr S w w' := by
  have HH := Lib.hid (has_nat p i hi l S w h)
  rw [decide_eq_false hni] at HH
  have HO := Lib.hid (ok_any (i : Int) w)
  rw [decide_eq_true (by omega : 0 ≤ (i : Int)), decide_eq_true (by omega : (i : Int) < 16777216)] at HO
  obtain ⟨nb0, ht0', htg0⟩ := h.tr
  have HTG := Lib.hid (htg0.ins i)
  have HS := Lib.hid (fun W (hW : Fr (fun _ => False) w W) => (HibSt.start ht0' h.count h.inb).on hW)
  have HR := Lib.hid (And.intro h.rise hni)
  clear h ht0' htg0 hni
  go_enter Tryz.func84, Tryz.ntmps84
  go_wp2_with fail
  refine HO.out.mono ?_
  rintro e w1 ⟨rfl, rfl⟩
  go_wp2_with fail
  refine HH.out.mono ?_
  rintro e w2 ⟨rfl, hf2⟩
  have hst := HS.out _ hf2
  have H2 := Lib.hid (And.intro hst hf2)
  clear hst hf2
  go_wp2_with fail
  go_loopw [6, 7, 8] (fun u t _ wr => ∃ (L b : Nat) (nb : Nat → Nat → Option Nat), L ≤ 3 ∧ t = .int .i64 L ∧ u = .pointer (some ⟨b, 0, none⟩) ∧ nb L (i / 64 ^ (L + 1)) = some b ∧ HibSt w wr p l S nb l.length ∧ Tight (insN i l) nb) (fun _ t _ _ => (intOf t).toNat)
  case atStart =>
    refine ⟨3, p, nb0, by omega, rfl, rfl, ?_, H2.out.1, HTG.out⟩
    rw [show (64 : Nat) ^ (3 + 1) = 16777216 from by decide, Nat.div_eq_of_lt hi]
    exact H2.out.1.tree.top
  case round =>
    obtain ⟨L, b, nb, hL3, rfl, rfl, hb, hst, htg⟩ := hrel
    have HG := Lib.hid htg
    clear htg
    by_cases hlt : 0 < L
    · have hlt' : (0 : Int) < L := by omega
      obtain ⟨M, rfl⟩ : ∃ M, L = M + 1 := ⟨L - 1, by omega⟩
      obtain ⟨_, word, hw, hN, hbit⟩ := hst.tree.node _ _ _ hb
      have hd : i / 64 ^ (M + 1) % 64 < 64 := Nat.mod_lt _ (by decide)
      have c0 := hN.cell0
      have ck := hN.cellK hd
      rw [kids_at] at ck
      have f0 := hN.frozen 0
      have f1 := hN.frozen (1 + i / 64 ^ (M + 1) % 64)
      have hbl := hN.lt
      have HD := Lib.hid (fun W => digit_any i (M + 1) hi hL3 W)
      have he : i / 64 ^ (M + 1 + 1) * 64 + i / 64 ^ (M + 1) % 64 = i / 64 ^ (M + 1) := by
        rw [show i / 64 ^ (M + 1 + 1) = i / 64 ^ (M + 1) / 64 from by rw [Nat.div_div_eq_div_mul, ← Nat.pow_succ]]
        omega
      have HX := Lib.hid (And.intro hst (And.intro hb (And.intro hN (And.intro hbit he))))
      obtain ⟨d, hdd⟩ : ∃ d, i / 64 ^ (M + 1) % 64 = d := ⟨_, rfl⟩
      rw [hdd] at hd ck HD f1
      have hd' : (d : Int) < 64 := by omega
      have HW := Lib.hid (with_w word hw [(d : Int)] (some ⟨wr.heap.size, 0, none⟩) 1 (wr.alloc (.cells #[.int .i64 d] 3)) (RowC.blk (Blk.new wr 3 #[.int .i64 (d : Int)])) (by simp) (by omega))
      rw [allN_one] at HW
      have HDD := Lib.hid hdd
      have hbn := build_node
      clear hst hb hN hbit he hdd
      cases hc : nb M (i / 64 ^ (M + 1)) with
      | some c =>
        rw [hc] at ck
        simp only [ptrV] at ck
        have HC := Lib.hid hc
        clear hc
        go_wp2_with fail
        refine (HD.out _).mono ?_
        rintro e w3 ⟨rfl, rfl⟩
        go_wp2_with fail
        refine HW.out.mono ?_
        rintro e w4 ⟨rfl, rfl⟩
        go_wp2
        go_roundw
        case rel =>
          refine ⟨M, c, nb, by omega, rfl, rfl, HC.out, ?_, HG.out⟩
          have hbt := HX.out.2.2.2.1 d hd
          have e2 : bitOf nb l (M + 1) (i / 64 ^ (M + 1 + 1)) d = true := by
            show (nb M (i / 64 ^ (M + 1 + 1) * 64 + d)).isSome = true
            have h5 := HX.out.2.2.2.2
            rw [HDD.out] at h5
            rw [h5, HC.out]
            rfl
          rw [or_same hd (hbt.trans e2)]
          exact (HX.out.1.word HX.out.2.1 HX.out.2.2.1).on (Fr.alloc1 _ _ _)
        case measure => simp [intOf]
      | none =>
        rw [hc] at ck
        simp only [ptrV] at ck
        have HC := Lib.hid hc
        clear hc
        go_wp2_with fail
        refine (HD.out _).mono ?_
        rintro e w3 ⟨rfl, rfl⟩
        go_wp2_with fail
        refine HW.out.mono ?_
        rintro e w4 ⟨rfl, rfl⟩
        go_wp2
        go_roundw
        case rel =>
          have h5 := HX.out.2.2.2.2
          rw [HDD.out] at h5
          refine ⟨M, _, _, by omega, rfl, rfl, ?_, HX.out.1.growTo zc_node _ HX.out.2.1 HX.out.2.2.1 hw HX.out.2.2.2.1 hd (by rw [h5]; exact HC.out), HG.out.up (mem_insN.2 (.inl rfl)) h5.symm⟩
          rw [h5, upN_same]
        case measure => simp [intOf]
    · obtain rfl : L = 0 := by omega
      obtain ⟨_, word, hw, hN, hbit⟩ := ht0 hst.tree hb
      have hd : i % 64 < 64 := Nat.mod_lt _ (by decide)
      simp only [Nat.zero_add, Nat.pow_one] at hb hbit
      have c1 := hN.cell0
      have c0 := cell_regrown c1
      have cp := hst.count
      have f0 := hN.frozen 0
      have hbl := hN.lt
      obtain ⟨_, _, _, hNp, _⟩ := hst.tree.node 3 0 p hst.tree.top
      have fp := hNp.frozen 65
      have hpl := hNp.lt
      have HD := Lib.hid (fun W => digit_any i 0 hi (by omega) W)
      have hll := rise_len HR.out.1 hst.tree.lt
      simp only [Nat.pow_zero, Nat.div_one] at HD
      have HP := Lib.hid (hst.put HR.out.1 hi hb hN hw hbit HR.out.2 rfl HG.out)
      have HW := Lib.hid (with_w word hw [((i % 64 : Nat) : Int)] (some ⟨wr.heap.size, 0, none⟩) 1 (wr.alloc (.cells #[.int .i64 ((i % 64 : Nat) : Int)] 3)).drew (RowC.blk ((Blk.new wr 3 #[.int .i64 ((i % 64 : Nat) : Int)]).drew)) (by simp) (by omega))
      rw [allN_one] at HW
      obtain ⟨d, hdd⟩ : ∃ d, i % 64 = d := ⟨_, rfl⟩
      rw [hdd] at hd HP HW HD
      have hsz := hst.fr.size
      clear hst hb hN hbit hNp hdd
      obtain ⟨wB, hwB⟩ : ∃ wB, wB = wr := ⟨wr, rfl⟩
      subst hwB
      go_wp2_with fail
      refine Ord.wp_region_cls (S := fun w' => ∃ p : Regrown, w' = Go.Sort.grow (redrawn wB p.d) p.os) #[0, 0, 2, 6, 14, 0, 32, 96, 254, 511, 1023, 2047] [(0, true), (1, true), (2, true), (3, true), (4, true), (5, true), (6, true), (7, false), (8, false), (9, true), (10, true), (11, false)] [11] (by kernel_rfl) (by kernel_rfl) (by intro c d v a w h; cases d <;> exact h) (reg_drew wB) ?_
      simp only [Ord.pick, List.map_cons, List.map_nil, List.getElem?_toArray, List.getElem?_cons_succ, List.getElem?_cons_zero]
      iterate 7 (apply Ord.c_step; intro K hK; go_simp; first | (refine hK _ ?_; clear hK K) | (apply Exists.intro; refine ⟨?_, hK _ ?_⟩; (intro pw; go_at_call 130; exact calls_sym (HD.out _)); clear hK K))
      apply Ord.c_does (k := true) rfl
      go_wp2_with fail
      refine Ord.behind_cls (reg_of_fr ((Fr.refl _ _).drew.alloc _)) ?_
      apply Ord.c_does (k := true) rfl
      go_wp2_with fail
      refine HW.out.mono ?_
      rintro e w4 ⟨rfl, rfl⟩
      go_wp2_with fail
      refine Ord.behind_cls (reg_of_fr ((Fr.refl _ _).drew.alloc _)) ?_
      iterate 2 (apply Ord.c_step; intro K hK; go_simp; first | (refine hK _ ?_; clear hK K))
      apply Ord.c_does (k := false) rfl
      go_wp2_with fail
      refine Ord.behind_last ?_
      refine Ord.c_nil ?_
      go_wp2
      go_ret2
      exact ⟨rfl, SetIs.later HP.out.1 ((Fr.alloc1 _ _ _).drew), HP.out.2.trans (T := fun _ => False) ((Fr.alloc1 _ _ _).drew) (fun _ h => False.elim h)⟩
theorem add_old (p i : Nat) (hi : i < 16777216) (l : List Nat) (S : Nat → Prop) (w : World) (h : SetIs w p l S) (hm : i ∈ l) :
    Calls Tryz.prog 84 #[.pointer (some ⟨p, 0, none⟩), .int .i64 (i : Int)] w fun e w' => e = .returned (.tuple #[.bool false, .int .i64 0]) ∧ Fr (fun _ => False) w w' := by
  have HH := Lib.hid (has_nat p i hi l S w h)
  rw [decide_eq_true hm] at HH
  have HO := Lib.hid (ok_any (i : Int) w)
  rw [decide_eq_true (by omega : 0 ≤ (i : Int)), decide_eq_true (by omega : (i : Int) < 16777216)] at HO
  clear h hm
  go_enter Tryz.func84, Tryz.ntmps84
  go_wp2_with fail
  refine HO.out.mono ?_
  rintro e w1 ⟨rfl, rfl⟩
  go_wp2_with fail
  refine HH.out.mono ?_
  rintro e w2 ⟨rfl, hf2⟩
  have H2 := Lib.hid hf2
  clear hf2
  go_wp2
  go_ret2
  exact ⟨rfl, H2.out⟩
theorem add_nat (p i : Nat) (hi : i < 16777216) (l : List Nat) (S : Nat → Prop) (w : World) (h : SetIs w p l S) :
    Calls Tryz.prog 84 #[.pointer (some ⟨p, 0, none⟩), .int .i64 (i : Int)] w fun e w' => e = .returned (.tuple #[.bool (!decide (i ∈ l)), .int .i64 0]) ∧ SetIs w' p (insN i l) (Ext S w w') ∧ Fr S w w' := by
  by_cases hm : i ∈ l
  · rw [decide_eq_true hm, insN_there h.rise hm]
    refine (add_old p i hi l S w h hm).mono fun e w' ⟨he, hf⟩ => ⟨he, ?_, hf.mono (fun _ _ h => False.elim h)⟩
    exact (h.mono (fun _ hk => .inl hk) (fun k hk => (by
      rcases hk with hk | ⟨h1, h2⟩
      · exact h.inb k hk
      · omega)) : SetIs w p l (Ext S w w)).later hf
  · rw [decide_eq_false hm]
    exact add_new p i hi l S w h hm
end Go.Proofs.YtmcigeebeoobdaaGreatDoor
end

/-
  Contracts of packages bits, hibit: First, least, Next.
-/
section
namespace Go.Viv
open Go.RowKit
/-- The numbers of a word, rising. -/
def bitsOf (x : Nat) : List Nat := (List.range 64).filter fun d => x.testBit d
theorem rise_range' : ∀ (n s : Nat), RiseN (List.range' s n)
  | 0, _ => trivial
  | n + 1, s => by
    rw [List.range'_succ]
    exact ⟨fun x hx => by have := List.mem_range'_1.1 hx; omega, rise_range' n (s + 1)⟩
theorem rise_bits (x : Nat) : RiseN (bitsOf x) := by
  unfold bitsOf
  refine riseN_filter ?_
  rw [List.range_eq_range']
  exact rise_range' 64 0
theorem mem_bits {x d : Nat} : d ∈ bitsOf x ↔ d < 64 ∧ x.testBit d = true := by simp [bitsOf]
/-- The answer of First, Next: the number, or -1. -/
def orNone : Option Nat → Int
  | some d => (d : Int)
  | none => -1
theorem first_big {x k : Nat} (h : 64 ≤ k) : nextN (bitsOf x) k = none := nextN_none.2 fun d hd => by have := (mem_bits.1 hd).1; omega
theorem first_zero {x k : Nat} (h : x / 2 ^ k = 0) : nextN (bitsOf x) k = none := by
  refine nextN_none.2 fun d hd => ?_
  rcases Nat.lt_or_ge d k with h1 | h1
  · exact h1
  · exfalso
    have hb := (mem_bits.1 hd).2
    have hx : x < 2 ^ d := by
      have h2 : x < 2 ^ k := by
        rcases Nat.lt_or_ge x (2 ^ k) with h3 | h3
        · exact h3
        · have := Nat.div_pos h3 (Nat.pow_pos (n := k) (show 0 < 2 by decide))
          omega
      exact Nat.lt_of_lt_of_le h2 (Nat.pow_le_pow_right (by decide) h1)
    rw [Nat.testBit_lt_two_pow hx] at hb
    cases hb
theorem first_ctz {x k : Nat} (hx : x < 18446744073709551616) (h : x / 2 ^ k ≠ 0) : nextN (bitsOf x) k = some (k + Lib.ctz 64 (x / 2 ^ k)) ∧ k + Lib.ctz 64 (x / 2 ^ k) < 64 := by
  have hlt : x / 2 ^ k < 2 ^ 64 := Nat.lt_of_le_of_lt (Nat.div_le_self _ _) hx
  obtain ⟨m, hm, _⟩ := Lib.ctzFrom_spec 64 (x / 2 ^ k) (Nat.pos_of_ne_zero h) hlt
  have he : Lib.ctz 64 (x / 2 ^ k) = Lib.ctzFrom 64 (x / 2 ^ k) := by unfold Lib.ctz; rw [if_neg h]
  rw [he]
  generalize Lib.ctzFrom 64 (x / 2 ^ k) = c at hm
  have hbit : ∀ e, x.testBit (k + e) = (2 ^ c * (2 * m + 1)).testBit e := fun e => by
    rw [← hm, ← Nat.shiftRight_eq_div_pow, Nat.testBit_shiftRight]
  have hc : x.testBit (k + c) = true := by
    rw [hbit]
    simp [Nat.testBit_two_pow_mul]
  have hc64 : k + c < 64 := by
    rcases Nat.lt_or_ge (k + c) 64 with h1 | h1
    · exact h1
    · rw [Nat.testBit_lt_two_pow (Nat.lt_of_lt_of_le (show x < 2 ^ 64 from hx) (Nat.pow_le_pow_right (by decide) h1))] at hc
      cases hc
  refine ⟨nextN_of (rise_bits x) (mem_bits.2 ⟨hc64, hc⟩) (by omega) (fun d hd hkd => ?_), hc64⟩
  rcases Nat.lt_or_ge d (k + c) with h1 | h1
  · exfalso
    have hb := (mem_bits.1 hd).2
    rw [show d = k + (d - k) by omega, hbit] at hb
    simp [Nat.testBit_two_pow_mul] at hb
    omega
  · exact h1
/-- The least number of a part, from one on, counted from where the part begins. -/
def leastIn (l : List Nat) (lo sz k : Nat) : Option Nat := (nextN l (lo + k)).bind fun i => if i < lo + sz then some (i - lo) else none
theorem leastIn_none {l : List Nat} {lo sz k : Nat} (hr : RiseN l) : leastIn l lo sz k = none ↔ ∀ i ∈ l, lo + k ≤ i → lo + sz ≤ i := by
  unfold leastIn
  cases h : nextN l (lo + k) with
  | none =>
    have := nextN_none.1 h
    simp only [Option.bind_none, true_iff]
    intro i hi h1
    have := this i hi
    omega
  | some j =>
    obtain ⟨h1, h2, h3⟩ := nextN_some hr h
    simp only [Option.bind_some]
    by_cases hj : j < lo + sz
    · rw [if_pos hj]
      constructor
      · intro h; cases h
      · intro h; have := h j h1 h2; omega
    · rw [if_neg hj]
      simp only [true_iff]
      intro i hi h4
      have := h3 i hi h4
      omega
theorem leastIn_some {l : List Nat} {lo sz k r : Nat} (hr : RiseN l) : leastIn l lo sz k = some r ↔ (lo + r ∈ l ∧ k ≤ r ∧ r < sz ∧ ∀ i ∈ l, lo + k ≤ i → lo + r ≤ i) := by
  unfold leastIn
  constructor
  · intro h
    cases hn : nextN l (lo + k) with
    | none => rw [hn] at h; cases h
    | some j =>
      rw [hn] at h
      simp only [Option.bind_some] at h
      obtain ⟨h1, h2, h3⟩ := nextN_some hr hn
      split at h
      · obtain rfl := Option.some.inj h
        refine ⟨by rw [show lo + (j - lo) = j by omega]; exact h1, by omega, by omega, fun i hi h4 => by have := h3 i hi h4; omega⟩
      · cases h
  · rintro ⟨h1, h2, h3, h4⟩
    rw [nextN_of hr h1 (by omega) h4]
    simp only [Option.bind_some]
    rw [if_pos (by omega)]
    congr 1
    omega
/-- Where the walk over a node's bits stands: nothing lies between the place asked for and the k-th part. -/
def LeastAt (l : List Nat) (lo SZ frm k : Nat) : Prop := frm / SZ ≤ k ∧ ∀ i ∈ l, lo + frm ≤ i → i < lo + 64 * SZ → lo + k * SZ ≤ i
theorem LeastAt.start {l : List Nat} {lo SZ frm : Nat} : LeastAt l lo SZ frm (frm / SZ) := ⟨Nat.le_refl _, fun i _ h _ => by have := Nat.div_mul_le_self frm SZ; omega⟩
section
variable {l : List Nat} {lo SZ frm k word : Nat}
theorem LeastAt.part (h : LeastAt l lo SZ frm k) (hS : 0 < SZ) (hmay : ∀ i ∈ l, lo ≤ i → i < lo + 64 * SZ → word.testBit ((i - lo) / SZ) = true) {i : Nat} (hi : i ∈ l) (h1 : lo + frm ≤ i) (h2 : i < lo + 64 * SZ) : (i - lo) / SZ ∈ bitsOf word ∧ k ≤ (i - lo) / SZ ∧ lo + (i - lo) / SZ * SZ ≤ i ∧ i < lo + ((i - lo) / SZ + 1) * SZ := by
  have h3 := h.2 i hi h1 h2
  have e1 := Nat.div_add_mod (i - lo) SZ
  have e2 := Nat.mod_lt (i - lo) hS
  have e3 : SZ * ((i - lo) / SZ) = (i - lo) / SZ * SZ := Nat.mul_comm _ _
  refine ⟨mem_bits.2 ⟨Nat.div_lt_of_lt_mul (by omega), hmay i hi (by omega) h2⟩, (Nat.le_div_iff_mul_le hS).2 (by omega), by omega, ?_⟩
  rw [Nat.succ_mul]
  omega
theorem LeastAt.exit (h : LeastAt l lo SZ frm k) (hr : RiseN l) (hS : 0 < SZ) (hmay : ∀ i ∈ l, lo ≤ i → i < lo + 64 * SZ → word.testBit ((i - lo) / SZ) = true) (hn : nextN (bitsOf word) k = none) : leastIn l lo (64 * SZ) frm = none := by
  refine (leastIn_none hr).2 fun i hi h1 => ?_
  rcases Nat.lt_or_ge i (lo + 64 * SZ) with h2 | h2
  · obtain ⟨g1, g2, _⟩ := h.part hS hmay hi h1 h2
    have := nextN_none.1 hn _ g1
    omega
  · exact h2
theorem LeastAt.miss (h : LeastAt l lo SZ frm k) (hr : RiseN l) (hS : 0 < SZ) (hmay : ∀ i ∈ l, lo ≤ i → i < lo + 64 * SZ → word.testBit ((i - lo) / SZ) = true) {d : Nat} (hn : nextN (bitsOf word) k = some d) (hx : leastIn l (lo + d * SZ) SZ (frm - d * SZ) = none) : LeastAt l lo SZ frm (d + 1) := by
  obtain ⟨_, n2, n3⟩ := nextN_some (rise_bits word) hn
  refine ⟨Nat.le_trans h.1 (by omega), fun i hi h1 h2 => ?_⟩
  obtain ⟨g1, g2, g3, g4⟩ := h.part hS hmay hi h1 h2
  have := n3 _ g1 g2
  rcases Nat.lt_or_ge d ((i - lo) / SZ) with hd | hd
  · have : (d + 1) * SZ ≤ (i - lo) / SZ * SZ := Nat.mul_le_mul_right _ hd
    omega
  · have e : (i - lo) / SZ = d := by omega
    rw [e] at g3 g4
    have := (leastIn_none hr).1 hx i hi (by omega)
    rw [Nat.succ_mul]
    omega
theorem LeastAt.hit (h : LeastAt l lo SZ frm k) (hr : RiseN l) (hS : 0 < SZ) (hmay : ∀ i ∈ l, lo ≤ i → i < lo + 64 * SZ → word.testBit ((i - lo) / SZ) = true) {d r : Nat} (hn : nextN (bitsOf word) k = some d) (hx : leastIn l (lo + d * SZ) SZ (frm - d * SZ) = some r) : leastIn l lo (64 * SZ) frm = some (d * SZ + r) := by
  obtain ⟨n1, n2, n3⟩ := nextN_some (rise_bits word) hn
  obtain ⟨x1, x2, x3, x4⟩ := (leastIn_some hr).1 hx
  have hd := (mem_bits.1 n1).1
  have hdm : (d + 1) * SZ ≤ 64 * SZ := Nat.mul_le_mul_right _ hd
  rw [Nat.succ_mul] at hdm
  refine (leastIn_some hr).2 ⟨by rw [← Nat.add_assoc]; exact x1, by omega, by omega, fun i hi h1 => ?_⟩
  rcases Nat.lt_or_ge i (lo + 64 * SZ) with h2 | h2
  · obtain ⟨g1, g2, g3, g4⟩ := h.part hS hmay hi h1 h2
    have := n3 _ g1 g2
    rcases Nat.lt_or_ge d ((i - lo) / SZ) with hd' | hd'
    · have : (d + 1) * SZ ≤ (i - lo) / SZ * SZ := Nat.mul_le_mul_right _ hd'
      rw [Nat.succ_mul] at this
      omega
    · have e : (i - lo) / SZ = d := by omega
      rw [e] at g3
      have := x4 i hi (by omega)
      omega
  · omega
end
/-- The loop's measure: how many bits are still to come. -/
def bitsLeft (v : Value) : Nat := if intOf v < 0 then 0 else 65 - (intOf v).toNat
end Go.Viv
namespace Go.Proofs.YtmcigeebeoobdaaGreatDoor
open Go.RowKit Go.Viv
/-- What the library's table holds. -/
def TabH (w : World) : Prop := TabAt 0 Lib.deBruijn64tab w
theorem TabH.fr {w w' : World} (h : TabH w) (hf : Fr (fun _ => False) w w') : TabH w' := fun j hj => by
  have h1 := h j hj
  rw [hf.cell (block_lt_of_cell h1) (fun h => h)]
  exact h1
set_option maxRecDepth 100000 in
theorem first_w (x : Nat) (hx : x < 18446744073709551616) (k : Nat) (w : World) (hT : TabH w) :
    Calls Tryz.prog 60 #[.int .u64 x, .int .i64 (k : Int)] w fun e w' => e = .returned (.int .i64 (orNone (nextN (bitsOf x) k))) ∧ w' = w := by
  have hk0 : max (k : Int) 0 = k := by omega
  by_cases h64 : 64 ≤ k
  · have h64' : (64 : Int) ≤ k := by omega
    rw [first_big h64]
    clear hT
    go_enter Tryz.func60, Tryz.ntmps60
    go_wp2
    go_ret
    exact ⟨rfl, rfl⟩
  · have h64' : (k : Int) < 64 := by omega
    have hsh : (x : Int) / 2 ^ k = ((x / 2 ^ k : Nat) : Int) := by simp
    by_cases hz : x / 2 ^ k = 0
    · rw [first_zero hz]
      have hzb : (((x / 2 ^ k : Nat) : Int) == 0) = true := by rw [hz]; rfl
      clear hT
      go_enter Tryz.func60, Tryz.ntmps60
      go_wp2
      go_ret
      exact ⟨rfl, rfl⟩
    · obtain ⟨h1, h2⟩ := first_ctz hx hz
      rw [h1]
      have HT := Lib.hid (tz_any (x / 2 ^ k) (Nat.lt_of_le_of_lt (Nat.div_le_self _ _) hx) w hT)
      obtain ⟨c, hc⟩ : ∃ c, Lib.ctz 64 (x / 2 ^ k) = c := ⟨_, rfl⟩
      rw [hc] at HT h2 ⊢
      obtain ⟨q, hq⟩ : ∃ q, x / 2 ^ k = q := ⟨_, rfl⟩
      rw [hq] at HT hsh hz
      have hzb : ((q : Int) == 0) = false := by rw [beq_eq_false_iff_ne]; omega
      clear hT h1 hc hq
      go_enter Tryz.func60, Tryz.ntmps60
      go_wp2_with fail
      refine HT.out.mono ?_
      rintro e w2 ⟨rfl, rfl⟩
      go_wp2
      go_ret
      exact ⟨by rw [show orNone (some (k + c)) = (k : Int) + c from by simp [orNone]]; rfl, rfl⟩
end Go.Proofs.YtmcigeebeoobdaaGreatDoor
end
