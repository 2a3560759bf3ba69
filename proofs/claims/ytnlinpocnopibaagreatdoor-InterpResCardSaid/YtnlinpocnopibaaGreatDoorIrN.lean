/-
  InterpRes: the rules hold, whatever the numbers are.
-/
import Derived.Test.YtnlinpocnopibaaGreatDoorIrR
import Derived.Test.YtnlinpocnopibaaGreatDoorRuC
import Derived.Test.YtnlinpocnopibaaGreatDoorFwE
namespace Go.Proofs.YtnlinpocnopibaaGreatDoor
open Go Go.RowKit Go.Viv Go.Eva Go.Fv Go.Fw
/-- The sum of the first numbers, as it wraps. -/
def reW (xs : List Int) : Nat → Int
  | 0 => 0
  | i + 1 => IntKind.i64.wrap (reW xs i + xs.getD i 0)
def reV (A : Option Addr) (xs : List Int) (cp k : Nat) : Value :=
  if k = 0 then .slice A xs.length cp else if k < 10 then n6 xs.length else if k < 40 then .pointer (A.map fun a => ⟨a.block, a.off + (k - 10), none⟩) else if k < 70 then .int .i64 (xs.getD (k - 40) 0) else .int .i64 (reW xs (k - 70))
def reN (A : Option Addr) (xs : List Int) (cp : Nat) : Toks := ⟨reV A xs cp, fun k => by
  unfold reV
  repeat' split
  all_goals rfl⟩
section
variable {A : Option Addr} {xs : List Int} {cp i : Nat}
theorem re10 (h : i < 30) {b o : Nat} (hA : A = some ⟨b, o, none⟩) : (reN A xs cp).v (10 + i) = .pointer (some ⟨b, o + i, none⟩) := by
  show reV A xs cp (10 + i) = _
  unfold reV
  rw [if_neg (by omega), if_neg (by omega), if_pos (by omega), Nat.add_sub_cancel_left, hA]
  rfl
theorem re40 (h : i < 30) : (reN A xs cp).v (40 + i) = .int .i64 (xs.getD i 0) := by
  show reV A xs cp (40 + i) = _
  unfold reV
  rw [if_neg (by omega), if_neg (by omega), if_neg (by omega), if_pos (by omega), Nat.add_sub_cancel_left]
theorem reS_v (h : i ≤ 20) : valT (reN A xs cp) (reS i) = .int .i64 (reW xs i) := by
  cases i with
  | zero => rfl
  | succ i =>
    show reV A xs cp (71 + i) = _
    unfold reV
    rw [if_neg (by omega), if_neg (by omega), if_neg (by omega), if_neg (by omega), show 71 + i - 70 = i + 1 by omega]
theorem reS_ok : okV (reS i) = true := by cases i <;> rfl
end
theorem reR_ok {W : World} {A : Option Addr} {xs : List Int} {cp m : Nat} (hm : min xs.length 20 = m) (hr : RowC W A (xs.flatMap fun n => [Value.int .i64 n])) : (reR m).OK Tryz.prog (Begin.still W) (reN A xs cp) := by
  refine ⟨fun r hr => ?_, (fun _ h => by cases h), (fun _ h => by cases h), (fun _ h => by cases h), fun r hr => ?_, fun k hk => ?_⟩
  · obtain ⟨i, hi, hr⟩ := mem_upto hr
    simp only [List.mem_cons, List.not_mem_nil, or_false] at hr
    subst hr
    exact rl_addW (reS_v (by omega)) (re40 (by omega)) (reS_v (by omega)) reS_ok
  · rename_i hrow
    have hu : Tryz.prog.underlying 22 = some (.slice 2) := Tryz.underlying22
    rcases List.mem_append.1 hr with hr | hr
    · simp only [List.mem_cons, List.not_mem_nil, or_false] at hr
      rcases hr with rfl | rfl
      · exact rx_len hu rfl rfl rfl
      · exact rx_min rfl hm
    · obtain ⟨i, hi, hr⟩ := mem_upto hr
      rcases hrow with h0 | ⟨b, o, hA, hb, hc⟩
      · cases xs with
        | nil => simp at hm; omega
        | cons x l => simp at h0
      · simp only [List.mem_cons, List.not_mem_nil, or_false] at hr
        have hcell := row_get (xs := xs) (i := i) (by omega)
        rcases hr with rfl | rfl
        · exact rx_idx hu (by kernel_rfl) (x := tk 0) (b := b) (o' := o) (n := xs.length) (c := cp) (by rw [← hA]; rfl) (by omega) (re10 (by omega) hA) rfl
        · exact rx_ld (by kernel_rfl) (re10 (by omega) hA) hb (fun h => h) (hc i _ hcell) (re40 (by omega)) rfl
  · have hk := Nat.le_of_ble_eq_true hk
    show ∃ n', reV A xs cp k = .int .i64 n'
    unfold reV
    rw [if_neg (by omega), if_neg (by omega), if_neg (by omega)]
    split <;> exact ⟨_, rfl⟩
end Go.Proofs.YtnlinpocnopibaaGreatDoor
