/-
  ScriptCursor: the rules hold, whatever the numbers are.
-/
import Derived.Test.YtnlinpocnopibaaGreatDoorKScR
import Derived.Test.YtnlinpocnopibaaGreatDoorKRuB
import Derived.Test.YtnlinpocnopibaaGreatDoorKFwE
namespace Go.Proofs.YtnlinpocnopibaaGreatDoor
open Go Go.RowKit Go.Viv Go.Eva Go.Fv Go.Fw
def scBit (b i : Nat) : Nat := b / 2 ^ i % 2
/-- What the open values are. -/
def scV (b : Nat) (n : Int) (k : Nat) : Value :=
  if k = 1 then w6 b else if k < 10 then .int .i64 (if k = 0 then n else n % 256) else if k < 40 then w6 (b / 2 ^ (k - 10)) else if k < 100 then w6 (scBit b (k - 40))
  else if k < 160 then .bool (decide (scBit b (k - 100) = 1)) else n6 (if scBit b (k - 160) = 1 then 100 else k - 160)
def scN (b : Nat) (n : Int) : Toks := ⟨scV b n, fun k => by
  unfold scV
  repeat' refine one_ite ?_ ?_
  all_goals rfl⟩
section
variable {b : Nat} {n : Int} {i : Nat}
theorem sc10 (h : i < 20) : (scN b n).v (10 + i) = w6 (b / 2 ^ i) := by
  show scV b n (10 + i) = _
  unfold scV
  rw [if_neg (by omega), if_neg (by omega), if_pos (by omega), Nat.add_sub_cancel_left]
theorem sc40 (h : i < 20) : (scN b n).v (40 + i) = w6 (scBit b i) := by
  show scV b n (40 + i) = _
  unfold scV
  rw [if_neg (by omega), if_neg (by omega), if_neg (by omega), if_pos (by omega), Nat.add_sub_cancel_left]
theorem sc100 (h : i < 20) : (scN b n).v (100 + i) = .bool (decide (scBit b i = 1)) := by
  show scV b n (100 + i) = _
  unfold scV
  rw [if_neg (by omega), if_neg (by omega), if_neg (by omega), if_neg (by omega), if_pos (by omega), Nat.add_sub_cancel_left]
theorem sc160 : (scN b n).v (160 + i) = n6 (if scBit b i = 1 then 100 else i) := by
  show scV b n (160 + i) = _
  unfold scV
  rw [if_neg (by omega), if_neg (by omega), if_neg (by omega), if_neg (by omega), if_neg (by omega), Nat.add_sub_cancel_left]
end
theorem scR_ok {W0 : Begin} {b : Nat} (hb : b < 2 ^ 64) {n : Int} {c : Nat} (hc : c < 10) (hn : n % 256 % 10 = c) : (scR (c + 1)).OK Tryz.prog W0 (scN b n) := by
  refine ⟨fun r hr => ?_, (fun _ h => by cases h), (fun _ h => by cases h), fun r hr => ?_, (fun _ h => by cases h), fun k hk => ?_⟩
  · rcases List.mem_append.1 hr with hr | hr
    · simp only [List.mem_cons, List.not_mem_nil, or_false] at hr
      rcases hr with rfl | rfl
      · exact rl_and (n := n) (k := 8) rfl (by decide) (by decide) rfl rfl
      · exact rl_rem (n := n % 256) rfl (by decide) (by omega) hn
    · obtain ⟨i, hi, hr⟩ := mem_upto hr
      simp only [List.mem_cons, List.not_mem_nil, or_false] at hr
      rcases hr with rfl | rfl | rfl
      · exact rl_shr (a := b) rfl (by omega) (sc10 (by omega)) rfl
      · exact rl_bit (sc10 (by omega)) (Nat.lt_of_le_of_lt (Nat.div_le_self _ _) hb) (sc40 (by omega)) rfl
      · refine rl_eql (sc40 (by omega)) rfl ((sc100 (by omega)).trans ?_) rfl
        congr 1
        exact decide_eq_decide.2 ⟨fun h => by rw [h], fun h => Int.ofNat.inj h⟩
  · obtain ⟨i, hi, hr⟩ := mem_upto hr
    simp only [List.mem_cons, List.not_mem_nil, or_false] at hr
    rcases hr with rfl | rfl
    · exact rp_tst (sc100 (by omega))
    · refine rp_ok (sc100 (by omega)) (fun h => sc160.trans ?_) (fun h => sc160.trans ?_) rfl
      · rw [if_pos (of_decide_eq_true h)]; rfl
      · rw [if_neg (of_decide_eq_false h)]; rfl
  · have hk := Nat.le_of_ble_eq_true hk
    show ∃ n', scV b n k = .int .i64 n'
    unfold scV
    rw [if_neg (by omega), if_neg (by omega), if_neg (by omega), if_neg (by omega), if_neg (by omega)]
    exact ⟨_, rfl⟩
end Go.Proofs.YtnlinpocnopibaaGreatDoor
