/-
  Plain facts on texts of values.
-/
import Derived.Test.YtadnbkjjdkgfiaaDoorValD
import Derived.Test.YtadnbkjjdkgfiaaDoorValE
namespace Go.Viv
open Go.Lib Go.Proofs.YtadnbkjjdkgfiaaDoor
theorem itoa_ch {n : Int} {c : UInt8} (h : c ∈ itoa n) : isDig c = true ∨ c = 45 := by
  unfold itoa at h
  split at h
  · rcases List.mem_cons.1 h with rfl | h
    · exact Or.inr rfl
    · exact Or.inl (dec_dig _ _ h)
  · exact Or.inl (dec_dig _ _ h)
theorem itoa_nil (n : Int) : itoa n ≠ [] := by
  unfold itoa
  split
  · simp
  · exact dec_ne _
theorem itoa_no42 (n : Int) : (42 : UInt8) ∉ itoa n := fun h => by
  rcases itoa_ch h with h | h
  · exact absurd h (by decide)
  · exact absurd h (by decide)
theorem itoa_ne42 (n : Int) : itoa n ≠ [42] := fun h => itoa_no42 n (by rw [h]; simp)
theorem num_bad {l : List UInt8} {c : UInt8} (hc : c ∈ l) (hd : isDig c = false) (h45 : c ≠ 45) : num l = none := by
  cases hn : num l with
  | none => rfl
  | some m =>
    obtain ⟨rfl, _⟩ := num_some hn
    rcases itoa_ch hc with h | h
    · rw [hd] at h; cases h
    · exact absurd h h45
theorem num_empty : num [] = none := by
  cases hn : num [] with
  | none => rfl
  | some m =>
    obtain ⟨h, _⟩ := num_some hn
    exact absurd h.symm (itoa_nil m)
theorem num_zero_head (l : List UInt8) (hl : l ≠ []) : num (48 :: l) = none := by
  cases hn : num (48 :: l) with
  | none => rfl
  | some m =>
    obtain ⟨h, _⟩ := num_some hn
    unfold itoa at h
    split at h
    · have := congrArg List.head? h
      simp at this
    · obtain ⟨c, r, he, h0, _⟩ := dec_head m.toNat
      rw [he] at h
      have hc : c = 48 := by have := congrArg List.head? h; simpa using this.symm
      have := h0 (by rw [hc]; rfl)
      rw [this, dec_lt (by decide)] at he
      have h2 := congrArg List.tail he
      have h3 := congrArg List.tail h
      simp at h2 h3
      exact absurd (h3.trans h2) hl
theorem num_minus_zero : num [45, 48] = none := by
  cases hn : num [45, 48] with
  | none => rfl
  | some m =>
    obtain ⟨h, _⟩ := num_some hn
    unfold itoa at h
    split at h
    · rename_i hm
      obtain ⟨c, r, he, h0, _⟩ := dec_head m.natAbs
      have h3 := congrArg List.tail h
      simp only [List.tail_cons] at h3
      rw [he] at h3
      have hc : c = 48 := by have := congrArg List.head? h3; simpa using this.symm
      have := h0 (by rw [hc]; rfl)
      omega
    · exact absurd (dec_dig _ 45 (by rw [← h]; simp)) (by decide)
theorem num_over : num [57, 50, 50, 51, 51, 55, 50, 48, 51, 54, 56, 53, 52, 55, 55, 53, 56, 48, 56] = none := by
  unfold num
  rw [show parseIntB 64 [57, 50, 50, 51, 51, 55, 50, 48, 51, 54, 56, 53, 52, 55, 55, 53, 56, 48, 56] = .range from by kernel_rfl]
theorem num_under : num [45, 57, 50, 50, 51, 51, 55, 50, 48, 51, 54, 56, 53, 52, 55, 55, 53, 56, 48, 57] = none := by
  unfold num
  rw [show parseIntB 64 [45, 57, 50, 50, 51, 51, 55, 50, 48, 51, 54, 56, 53, 52, 55, 55, 53, 56, 48, 57] = .range from by kernel_rfl]
theorem itoa_top : itoa 9223372036854775807 = [57, 50, 50, 51, 51, 55, 50, 48, 51, 54, 56, 53, 52, 55, 55, 53, 56, 48, 55] := by
  simp [itoa, decDigits]
theorem itoa_low : itoa (-9223372036854775808) = [45, 57, 50, 50, 51, 51, 55, 50, 48, 51, 54, 56, 53, 52, 55, 55, 53, 56, 48, 56] := by
  simp [itoa, decDigits]
theorem itoa_0 : itoa 0 = [48] := by simp [itoa, decDigits]
theorem itoa_1 : itoa 1 = [49] := by simp [itoa, decDigits]
theorem itoa_5 : itoa 5 = [53] := by simp [itoa, decDigits]
theorem itoa_m2 : itoa (-2) = [45, 50] := by simp [itoa, decDigits]

theorem parse_none {l : List UInt8} (h42 : l ≠ [42]) (hc : cutC l = none) (hn : num l = none) : parseV l = none := by
  unfold parseV; rw [if_neg h42, hc]; simp [hn]
theorem parse_cut {l x y : List UInt8} (hc : cutC l = some (x, y)) (hn : num x = none ∨ num y = none) : parseV l = none := by
  have h42 : l ≠ [42] := fun h => by rw [h] at hc; simp [cutC] at hc
  unfold parseV; rw [if_neg h42, hc]
  rcases hn with hn | hn
  · simp [hn]
  · cases hx : num x <;> simp [hn]

/-- A value that may be is told and read again. -/
theorem parse_text {v : Val} (ho : okV v = true) (hv : inV v) : parseV (textV v) = some v := by
  obtain ⟨k, a, b⟩ := v
  obtain ⟨ha, hb⟩ := hv
  simp only at ha hb
  unfold textV
  rw [if_pos ho]
  simp only
  by_cases h1 : k = 1
  · subst h1
    rw [if_pos rfl]
    have hb0 : b = 0 := by simpa [okV] using ho
    subst hb0
    unfold parseV; rw [if_neg (itoa_ne42 a), cutC_no (itoa_no44 a)]; simp [num_itoa a ha]
  · rw [if_neg h1]
    by_cases h2 : k = 2
    · subst h2
      rw [if_pos rfl]
      have hc : cutC (itoa a ++ 44 :: itoa b) = some (itoa a, itoa b) := cutC_of (itoa_no44 a)
      unfold parseV
      rw [if_neg (fun h => by have := (by simp : (44 : UInt8) ∈ itoa a ++ 44 :: itoa b); rw [h] at this; simp at this), hc]
      simp [num_itoa a ha, num_itoa b hb]
    · rw [if_neg h2]
      by_cases h3 : k = 3
      · subst h3
        have : a = 0 ∧ b = 0 := by simpa [okV] using ho
        obtain ⟨rfl, rfl⟩ := this
        unfold parseV; rw [if_pos rfl]
      · simp [okV, h1, h2, h3] at ho
theorem text_off {v : Val} (h : okV v = false) : textV v = [] := by unfold textV; rw [if_neg (by simp [h])]
theorem parse_empty : parseV [] = none := parse_none (by decide) rfl num_empty
theorem text_inj {v w : Val} (hv : okV v = true) (hw : okV w = true) (iv : inV v) (iw : inV w) (h : textV v = textV w) : v = w := by
  have h1 := parse_text hv iv
  rw [h, parse_text hw iw] at h1
  exact (Option.some.inj h1).symm
theorem text_len {v : Val} (hv : inV v) : (textV v).length ≤ 43 := by
  have := itoa_len hv.1
  have := itoa_len hv.2
  unfold textV
  repeat' split
  all_goals simp
  all_goals omega
end Go.Viv
