/-
  InterpSkips: the rules hold, whatever the numbers are.
-/
import Derived.Test.YtnlinpocnopibaaGreatDoorIsR
import Derived.Test.YtnlinpocnopibaaGreatDoorRuB
import Derived.Test.YtnlinpocnopibaaGreatDoorFwE
namespace Go.Proofs.YtnlinpocnopibaaGreatDoor
open Go Go.RowKit Go.Viv Go.Eva Go.Fv Go.Fw
def skBit (b i : Nat) : Nat := b / 2 ^ i % 2
def skSum (b : Nat) : Nat → Nat
  | 0 => 0
  | i + 1 => skSum b i + (5 - skBit b i)
theorem skBit_le (b i : Nat) : skBit b i ≤ 1 := by unfold skBit; omega
theorem skSum_le (b : Nat) : ∀ i, skSum b i ≤ 5 * i
  | 0 => Nat.le_refl _
  | i + 1 => by
    unfold skSum
    have := skSum_le b i
    omega
/-- What the open values are. -/
def skV (b : Nat) (n : Int) (k : Nat) : Value :=
  if k = 0 then w6 b else if k < 10 then .int .i64 (if k = 1 then n else n % 256) else if k < 40 then w6 (b / 2 ^ (k - 10)) else if k < 70 then w6 (skBit b (k - 40)) else if k < 100 then n6 (skBit b (k - 70))
  else if k < 130 then .bool (decide (skBit b (k - 100) = 1)) else if k < 160 then n6 (20 * skBit b (k - 130)) else if k < 190 then n6 (50 + 20 * skBit b (k - 160)) else if k < 220 then n6 (5 - skBit b (k - 190))
  else if k < 250 then n6 (skSum b (k - 220)) else if k < 280 then n6 (skSum b (k - 250) + 5) else n6 (skSum b (k - 280) + 4)
def skN (b : Nat) (n : Int) : Toks := ⟨skV b n, fun k => by
  unfold skV
  repeat' split
  all_goals rfl⟩
section
variable {b : Nat} {n : Int} {i : Nat}
theorem sk0 : (skN b n).v 0 = w6 b := rfl
theorem sk10 (h : i < 20) : (skN b n).v (10 + i) = w6 (b / 2 ^ i) := by
  show skV b n (10 + i) = _
  unfold skV
  rw [if_neg (by omega), if_neg (by omega), if_pos (by omega), Nat.add_sub_cancel_left]
theorem sk40 (h : i < 20) : (skN b n).v (40 + i) = w6 (skBit b i) := by
  show skV b n (40 + i) = _
  unfold skV
  rw [if_neg (by omega), if_neg (by omega), if_neg (by omega), if_pos (by omega), Nat.add_sub_cancel_left]
theorem sk70 (h : i < 20) : (skN b n).v (70 + i) = n6 (skBit b i) := by
  show skV b n (70 + i) = _
  unfold skV
  rw [if_neg (by omega), if_neg (by omega), if_neg (by omega), if_neg (by omega), if_pos (by omega), Nat.add_sub_cancel_left]
theorem sk100 (h : i < 20) : (skN b n).v (100 + i) = .bool (decide (skBit b i = 1)) := by
  show skV b n (100 + i) = _
  unfold skV
  rw [if_neg (by omega), if_neg (by omega), if_neg (by omega), if_neg (by omega), if_neg (by omega), if_pos (by omega), Nat.add_sub_cancel_left]
theorem sk130 (h : i < 20) : (skN b n).v (130 + i) = n6 (20 * skBit b i) := by
  show skV b n (130 + i) = _
  unfold skV
  rw [if_neg (by omega), if_neg (by omega), if_neg (by omega), if_neg (by omega), if_neg (by omega), if_neg (by omega), if_pos (by omega), Nat.add_sub_cancel_left]
theorem sk160 (h : i < 20) : (skN b n).v (160 + i) = n6 (50 + 20 * skBit b i) := by
  show skV b n (160 + i) = _
  unfold skV
  rw [if_neg (by omega), if_neg (by omega), if_neg (by omega), if_neg (by omega), if_neg (by omega), if_neg (by omega), if_neg (by omega), if_pos (by omega), Nat.add_sub_cancel_left]
theorem skS_v (h : i ≤ 20) : valT (skN b n) (skS i) = n6 (skSum b i) := by
  cases i with
  | zero => rfl
  | succ i =>
    show skV b n (221 + i) = _
    unfold skV
    rw [if_neg (by omega), if_neg (by omega), if_neg (by omega), if_neg (by omega), if_neg (by omega), if_neg (by omega), if_neg (by omega), if_neg (by omega), if_neg (by omega), if_pos (by omega), show 221 + i - 220 = i + 1 by omega]
theorem skT_v (h : i < 20) : valT (skN b n) (skT i) = n6 (5 - skBit b i) := by
  cases i with
  | zero =>
    refine (skS_v (b := b) (n := n) (i := 1) (by omega)).trans ?_
    show n6 (0 + (5 - skBit b 0)) = _
    rw [Nat.zero_add]
  | succ i =>
    show skV b n (191 + i) = _
    unfold skV
    rw [if_neg (by omega), if_neg (by omega), if_neg (by omega), if_neg (by omega), if_neg (by omega), if_neg (by omega), if_neg (by omega), if_neg (by omega), if_pos (by omega), show 191 + i - 190 = i + 1 by omega]
theorem skA_v (h : i < 20) : valT (skN b n) (skA i) = n6 (skSum b i + 5) := by
  cases i with
  | zero => rfl
  | succ i =>
    show skV b n (251 + i) = _
    unfold skV
    rw [if_neg (by omega), if_neg (by omega), if_neg (by omega), if_neg (by omega), if_neg (by omega), if_neg (by omega), if_neg (by omega), if_neg (by omega), if_neg (by omega), if_neg (by omega), if_pos (by omega), show 251 + i - 250 = i + 1 by omega]
theorem skB_v (h : i < 20) : valT (skN b n) (skB i) = n6 (skSum b i + 4) := by
  cases i with
  | zero => rfl
  | succ i =>
    show skV b n (281 + i) = _
    unfold skV
    rw [if_neg (by omega), if_neg (by omega), if_neg (by omega), if_neg (by omega), if_neg (by omega), if_neg (by omega), if_neg (by omega), if_neg (by omega), if_neg (by omega), if_neg (by omega), if_neg (by omega), show 281 + i - 280 = i + 1 by omega]
theorem ok_T : okV (skT i) = true := by cases i <;> rfl
theorem ok_S : okV (skS i) = true := by cases i <;> rfl
theorem ok_A : okV (skA i) = true := by cases i <;> rfl
theorem ok_B : okV (skB i) = true := by cases i <;> rfl
end
theorem skR_ok {W0 : Begin} {b : Nat} (hb : b < 2 ^ 64) {n : Int} {c : Nat} (hc : c < 20) (hn : n % 256 % 20 = c) : (skR (c + 1)).OK Tryz.prog W0 (skN b n) := by
  refine ⟨fun r hr => ?_, (fun _ h => by cases h), fun r hr => ?_, fun r hr => ?_, (fun _ h => by cases h), fun k hk => ?_⟩
  · rcases List.mem_append.1 hr with hr | hr
    · simp only [List.mem_cons, List.not_mem_nil, or_false] at hr
      rcases hr with rfl | rfl
      · exact rl_and (n := n) (k := 8) rfl (by decide) (by decide) rfl rfl
      · exact rl_rem (n := n % 256) rfl (by decide) (by omega) hn
    · obtain ⟨i, hi, hr⟩ := mem_upto hr
      have hi : i < 20 := by omega
      have hbit := skBit_le b i
      have hsum := skSum_le b i
      simp only [skL, List.mem_cons, List.not_mem_nil, or_false] at hr
      rcases hr with rfl | rfl | rfl | rfl | rfl | rfl | rfl | rfl
      · exact rl_shr sk0 (by omega) (sk10 hi) rfl
      · exact rl_bit (sk10 hi) (Nat.lt_of_le_of_lt (Nat.div_le_self _ _) hb) (sk40 hi) rfl
      · refine rl_eql (sk40 hi) rfl ((sk100 hi).trans ?_) rfl
        congr 1
        exact decide_eq_decide.2 ⟨fun h => by rw [h], fun h => Int.ofNat.inj h⟩
      · exact rl_mul rfl (sk70 hi) (sk130 hi) (by omega) rfl
      · exact rl_add rfl (sk130 hi) (sk160 hi) (by omega) rfl
      · exact rl_add (skS_v (by omega)) rfl (skA_v hi) (by omega) ok_A
      · exact rl_sub (skA_v hi) rfl (skB_v hi) (by omega) (by omega) ok_B
      · exact rl_add (skS_v (by omega)) (skT_v hi) (skS_v (by omega)) (by omega) ok_S
  · obtain ⟨i, hi, hr⟩ := mem_upto hr
    have hi : i < 20 := by omega
    simp only [List.mem_cons, List.not_mem_nil, or_false] at hr
    subst hr
    refine ⟨?_, rfl⟩
    show runV Tryz.prog (Go.convert 64 2 ((skN b n).v (40 + i))) = some ((skN b n).v (70 + i))
    rw [sk40 hi, sk70 hi, conv_int ⟨.u64, Tryz.underlying64⟩ Tryz.underlying2]
    have := skBit_le b i
    rw [w64 (by omega)]
  · obtain ⟨i, hi, hr⟩ := mem_upto hr
    have hi : i < 20 := by omega
    have hbit := skBit_le b i
    simp only [skP, List.mem_cons, List.not_mem_nil, or_false] at hr
    rcases hr with rfl | rfl | rfl | rfl
    · exact rp_tst (sk100 hi)
    · refine rp_ok (sk100 hi) (fun h => ?_) (fun h => ?_) ok_S
      · have h := of_decide_eq_true h
        rw [skS_v (by omega), skB_v hi]
        show n6 (skSum b i + (5 - skBit b i)) = _
        rw [h]
      · have h := of_decide_eq_false h
        rw [skS_v (by omega), skA_v hi]
        show n6 (skSum b i + (5 - skBit b i)) = _
        rw [show skBit b i = 0 by omega]
    · refine rp_ok (sk100 hi) (fun h => (skT_v hi).trans ?_) (fun h => (skT_v hi).trans ?_) ok_T
      · rw [of_decide_eq_true h]; rfl
      · have h := of_decide_eq_false h
        rw [show skBit b i = 0 by omega]; rfl
    · refine rp_ok (sk100 hi) (fun h => (sk160 hi).trans ?_) (fun h => (sk160 hi).trans ?_) rfl
      · rw [of_decide_eq_true h]; rfl
      · have h := of_decide_eq_false h
        rw [show skBit b i = 0 by omega]; rfl
  · simp only [skR, Bool.and_eq_true, Bool.or_eq_true, Nat.ble_eq, nblt_iff] at hk
    show ∃ n', skV b n k = .int .i64 n'
    unfold skV
    rw [if_neg (by omega), if_neg (by omega), if_neg (by omega), if_neg (by omega)]
    split
    · exact ⟨_, rfl⟩
    · rw [if_neg (by omega)]
      repeat' split
      all_goals exact ⟨_, rfl⟩
theorem skC_ok {W0 : Begin} {b : Nat} (hb : b < 2 ^ 64) {n : Int} {c : Nat} (hc : c < 20) (hn : n % 256 % 20 = c) : ∀ l cs s, skC (c + 1) l = some (cs, s) → CasOK W0 (skN b n) cs s := fun l cs s h => by
  have hR := skR_ok (W0 := W0) hb hc hn
  unfold skC at h
  split at h <;> try (cases h; done)
  split at h <;> try (cases h; done)
  rename_i i _ _ hi
  have hi := nblt_iff.1 hi
  have hi' : i < 20 := by omega
  have hbit := skBit_le b i
  cases h
  have one : ∀ {v : Bool}, (!decide ((skBit b i : Nat) = 0)) = v → ∀ r ∈ [(⟨.neq, tk (70 + i), n6 0, bo v⟩ : Rl)], r.ok (skN b n) := fun {v} hv r hr => by
    obtain rfl : r = ⟨.neq, tk (70 + i), n6 0, bo v⟩ := by simpa using hr
    refine rl_neq (sk70 hi') rfl ?_ rfl
    rw [← hv]
    show Value.bool _ = Value.bool _
    congr 2
    exact decide_eq_decide.2 ⟨fun h => by rw [h], fun h => Int.ofNat.inj h⟩
  have nil_ : ∀ {α : Type} {q : α → Prop}, ∀ r ∈ ([] : List α), q r := fun _ h => by cases h
  refine ⟨_, sk100 hi', fun e => ?_, fun e => ?_⟩
  · have e := of_decide_eq_true e
    exact hR.more (one (by rw [e]; rfl)) nil_ nil_ nil_ nil_
  · have e := of_decide_eq_false e
    exact hR.more (one (by rw [show skBit b i = 0 by omega]; rfl)) nil_ nil_ nil_ nil_
end Go.Proofs.YtnlinpocnopibaaGreatDoor
