/-
  The words of a text between single blanks. No program in sight.
-/
import Derived.Lib.SplitLaws
import Derived.Lib.Join
namespace Go.Viv
open Go.Lib
/-- What stands ahead of a row's first word is joined to it. -/
def glue (p : List UInt8) : List (List UInt8) → List (List UInt8)
  | [] => [p]
  | x :: r => (p ++ x) :: r
/-- The words, parted at a byte. -/
def wds (b : UInt8) : List UInt8 → List (List UInt8)
  | [] => [[]]
  | c :: r => if c = b then [] :: wds b r else glue [c] (wds b r)
theorem wds_ne (b : UInt8) (l : List UInt8) : wds b l ≠ [] := by
  cases l with
  | nil => simp [wds]
  | cons c r =>
    unfold wds
    split
    · simp
    · cases wds b r <;> simp [glue]
theorem glue_nil {ws : List (List UInt8)} (h : ws ≠ []) : glue [] ws = ws := by
  cases ws with
  | nil => exact absurd rfl h
  | cons x r => rfl
theorem glue_glue (p q : List UInt8) (ws : List (List UInt8)) : glue p (glue q ws) = glue (p ++ q) ws := by
  cases ws <;> simp [glue]
theorem splitK_stop (b : UInt8) (k : Nat) (s : List UInt8) (h : index s [b] = -1) : splitK [b] 0 k s = [s] := by
  cases k with
  | zero => rfl
  | succ k => unfold splitK; rw [h]; rfl
theorem split_wds (b : UInt8) : ∀ l : List UInt8, split l [b] = wds b l
  | [] => by
    unfold split wds
    exact splitK_stop b _ [] (by simp [index])
  | c :: r => by
    have ih := split_wds b r
    unfold split at ih ⊢
    by_cases h : c = b
    · subst h
      rw [count_cons_eq, Nat.add_comm 1]
      have hix : index (c :: r) [c] = 0 := by rw [index]; simp [List.isPrefixOf]
      unfold splitK
      rw [hix]
      simp only [wds, if_true]
      rw [← ih]
      rfl
    · rw [count_cons_ne c b r h]
      have hp : ([b] : List UInt8).isPrefixOf (c :: r) = false := by simp [List.isPrefixOf, Ne.symm h]
      have hix : index (c :: r) [b] = if index r [b] == -1 then -1 else index r [b] + 1 := by rw [index, hp]; simp
      unfold wds
      rw [if_neg h, ← ih]
      by_cases hm : index r [b] = -1
      · rw [splitK_stop b _ r hm, splitK_stop b _ (c :: r) (by rw [hix, hm]; rfl)]
        rfl
      · have hge := index_ge r [b]
        obtain ⟨j, hj⟩ : ∃ j : Nat, index r [b] = j := ⟨(index r [b]).toNat, by omega⟩
        have hix' : index (c :: r) [b] = ((j + 1 : Nat) : Int) := by rw [hix, if_neg (fun e => hm (beq_iff_eq.1 e)), hj]; omega
        rw [count_hit (by simp) hj]
        rw [Nat.add_comm 1]
        unfold splitK
        rw [hix', hj, if_neg (by simp; omega), if_neg (by simp)]
        simp only [Int.toNat_natCast, Nat.add_zero, List.length_singleton, glue, List.take_succ_cons, List.drop_succ_cons]
        rfl
theorem join_glue (b c : UInt8) {ws : List (List UInt8)} (h : ws ≠ []) : join (glue [c] ws) [b] = c :: join ws [b] := by
  cases ws with
  | nil => exact absurd rfl h
  | cons x r => rw [glue, join_cons, join_cons]; rfl
/-- Joined again they are the text. -/
theorem join_wds (b : UInt8) : ∀ l : List UInt8, join (wds b l) [b] = l
  | [] => by simp [wds, join_one]
  | c :: r => by
    have ih := join_wds b r
    unfold wds
    split
    · rename_i h
      subst h
      cases hw : wds c r with
      | nil => exact absurd hw (wds_ne c r)
      | cons x xs =>
        rw [join_cons]
        rw [hw, join_cons] at ih
        simp only [joinTail, List.map_cons, List.flatten_cons, List.nil_append] at ih ⊢
        rw [List.append_assoc, ih]
        rfl
    · rw [join_glue b c (wds_ne b r), ih]
theorem wds_word (b : UInt8) (x : List UInt8) (hx : b ∉ x) : wds b x = [x] := by
  induction x with
  | nil => rfl
  | cons c r ih =>
    simp at hx
    unfold wds
    rw [if_neg (fun h => hx.1 h.symm), ih hx.2]
    rfl
theorem wds_more (b : UInt8) (x l : List UInt8) (hx : b ∉ x) : wds b (x ++ b :: l) = x :: wds b l := by
  induction x with
  | nil => simp [wds]
  | cons c r ih =>
    simp at hx
    rw [List.cons_append, wds, if_neg (fun h => hx.1 h.symm), ih hx.2]
    rfl
/-- Words without the byte, joined, are parted again. -/
theorem wds_join (b : UInt8) : ∀ ws : List (List UInt8), ws ≠ [] → (∀ x ∈ ws, b ∉ x) → wds b (join ws [b]) = ws
  | [], h, _ => absurd rfl h
  | [x], _, hx => by rw [join_one]; exact wds_word b x (hx x (by simp))
  | x :: y :: r, _, hx => by
    have ih := wds_join b (y :: r) (by simp) (fun z hz => hx z (by simp [hz]))
    rw [join_cons] at ih ⊢
    have e : joinTail [b] (y :: r) = b :: (y ++ joinTail [b] r) := by simp [joinTail]
    rw [e, wds_more b x _ (hx x (by simp)), ih]
theorem wds_len (b : UInt8) : ∀ l : List UInt8, (wds b l).length ≤ l.length + 1
  | [] => by simp [wds]
  | c :: r => by
    have ih := wds_len b r
    unfold wds
    split
    · simp; omega
    · cases hw : wds b r with
      | nil => simp [glue]
      | cons x xs => rw [hw] at ih; simp [glue] at ih ⊢; omega
end Go.Viv
