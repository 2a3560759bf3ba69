/-
  Decimal numerals: what ParseInt and FormatInt at base ten do to each other, and the document's own reading of them. No program in sight.
-/
import Derived.Lib.ItoaNum
import Derived.Lib.ParseIntB
namespace Go.Viv
open Go.Lib

def isDig (c : UInt8) : Bool := 48 ≤ c.toNat && c.toNat ≤ 57
/-- What digits spell, behind a number. -/
def valA : Nat → List UInt8 → Nat
  | a, [] => a
  | a, c :: r => valA (a * 10 + (c.toNat - 48)) r

theorem valA_append (a : Nat) (l m : List UInt8) : valA a (l ++ m) = valA (valA a l) m := by
  induction l generalizing a with
  | nil => rfl
  | cons c r ih => exact ih _
theorem valA_le (l : List UInt8) : ∀ a, a ≤ valA a l := by
  induction l with
  | nil => intro a; exact Nat.le_refl _
  | cons c r ih => intro a; exact Nat.le_trans (by omega) (ih (a * 10 + (c.toNat - 48)))
theorem valA_mono (l : List UInt8) : ∀ a b, a ≤ b → valA a l ≤ valA b l := by
  induction l with
  | nil => intro a b h; exact h
  | cons c r ih => intro a b h; exact ih _ _ (by omega)

theorem dig_byte {d : Nat} (h : d < 10) : (UInt8.ofNat (48 + d)).toNat = 48 + d := by
  rw [UInt8.toNat_ofNat']; omega
theorem isDig_byte {d : Nat} (h : d < 10) : isDig (UInt8.ofNat (48 + d)) = true := by
  unfold isDig; rw [dig_byte h]; simp; omega
theorem byte_dig {c : UInt8} (h : isDig c = true) : UInt8.ofNat (48 + (c.toNat - 48)) = c ∧ c.toNat - 48 < 10 := by
  unfold isDig at h
  simp at h
  have h0 : 48 + (c.toNat - 48) = c.toNat := by omega
  refine ⟨by rw [h0]; simp, by omega⟩

theorem dec_lt {u : Nat} (h : u < 10) : decDigits u = [UInt8.ofNat (48 + u)] := by rw [decDigits, dif_pos h]
theorem dec_ge {u : Nat} (h : ¬ u < 10) : decDigits u = decDigits (u / 10) ++ [UInt8.ofNat (48 + u % 10)] := by rw [decDigits, dif_neg h]

theorem dec_dig (u : Nat) : ∀ c ∈ decDigits u, isDig c = true := by
  induction u using Nat.strongRecOn with
  | _ u ih =>
    by_cases h : u < 10
    · rw [dec_lt h]; intro c hc; rw [List.mem_singleton] at hc; rw [hc]; exact isDig_byte h
    · rw [dec_ge h]; intro c hc
      rcases List.mem_append.1 hc with hc | hc
      · exact ih (u / 10) (by omega) c hc
      · rw [List.mem_singleton] at hc; rw [hc]; exact isDig_byte (by omega)
theorem valA_one (a : Nat) (c : UInt8) : valA a [c] = a * 10 + (c.toNat - 48) := rfl
theorem dec_val (u : Nat) : valA 0 (decDigits u) = u := by
  induction u using Nat.strongRecOn with
  | _ u ih =>
    rcases Nat.lt_or_ge u 10 with h | h
    · rw [dec_lt h, valA_one, dig_byte h]; omega
    · rw [dec_ge (Nat.not_lt.2 h), valA_append, ih (u / 10) (by omega), valA_one, dig_byte (Nat.mod_lt _ (by decide))]; omega
theorem dec_ne (u : Nat) : decDigits u ≠ [] := by
  by_cases h : u < 10
  · rw [dec_lt h]; simp
  · rw [dec_ge h]; simp
/-- No nought ahead, but of nought itself. -/
theorem dec_head (u : Nat) : ∃ c r, decDigits u = c :: r ∧ (c.toNat = 48 → u = 0) ∧ isDig c = true := by
  induction u using Nat.strongRecOn with
  | _ u ih =>
    by_cases h : u < 10
    · refine ⟨_, [], dec_lt h, fun hc => ?_, isDig_byte h⟩
      rw [dig_byte h] at hc; omega
    · obtain ⟨c, r, h1, h2, h3⟩ := ih (u / 10) (by omega)
      refine ⟨c, r ++ [UInt8.ofNat (48 + u % 10)], by rw [dec_ge h, h1]; rfl, fun hc => ?_, h3⟩
      have := h2 hc
      omega
/-- A numeral as it is written is the one of what it spells. -/
theorem dec_canon : ∀ (n : Nat) (l : List UInt8), l.length = n → l ≠ [] → (∀ c ∈ l, isDig c = true) → (l.head?.map (·.toNat) = some 48 → l.length = 1) → decDigits (valA 0 l) = l := by
  intro n
  induction n using Nat.strongRecOn with
  | _ n ih =>
    intro l hn hne hd hz
    rcases List.eq_nil_or_concat l with h | ⟨m, c, h⟩
    · exact absurd h hne
    · rw [List.concat_eq_append] at h
      subst h
      have hc := byte_dig (hd c (by simp))
      by_cases hm : m = []
      · subst hm
        rw [List.nil_append, valA_one, Nat.zero_mul, Nat.zero_add, dec_lt hc.2, hc.1]
      · have hlm : m.length < n := by simp at hn; omega
        have ihm := ih m.length hlm m rfl hm (fun x hx => hd x (by simp [hx])) (fun h0 => by
          exfalso
          obtain ⟨x, r, rfl⟩ := List.exists_cons_of_ne_nil hm
          have := hz (by simpa using h0)
          simp at this)
        have hpos : valA 0 m ≠ 0 := by
          intro h0
          obtain ⟨x, r, rfl⟩ := List.exists_cons_of_ne_nil hm
          rw [h0, dec_lt (by omega)] at ihm
          injection ihm with e1 e2
          have hx : x.toNat = 48 := by rw [← e1]; rfl
          have := hz (by simp [hx])
          simp at this
        rw [valA_append, valA_one]
        generalize hgm : valA 0 m = vm at *
        generalize hgc : c.toNat - 48 = vc at *
        have h10 := hc.2
        rw [dec_ge (by omega), show (vm * 10 + vc) / 10 = vm by omega, show (vm * 10 + vc) % 10 = vc by omega, ihm, hc.1]

theorem pu_dig (M a : Nat) (c : UInt8) (r : List UInt8) (h : 48 ≤ c.toNat ∧ c.toNat ≤ 57) : parseUintM M a (c :: r) = (if 1844674407370955162 ≤ a then .range else if M < a * 10 + (c.toNat - 48) then .range else parseUintM M (a * 10 + (c.toNat - 48)) r) := by
  rw [parseUintM, if_pos h]
theorem pu_bad (M a : Nat) (c : UInt8) (r : List UInt8) (h : ¬ (48 ≤ c.toNat ∧ c.toNat ≤ 57)) (u : Nat) : parseUintM M a (c :: r) ≠ .ok u := by
  rw [parseUintM, if_neg h]
  intro e
  cases e
theorem isDig_iff (c : UInt8) : isDig c = true ↔ 48 ≤ c.toNat ∧ c.toNat ≤ 57 := by simp [isDig]

theorem parseU_ok (M : Nat) (hM : M ≤ 18446744073709551615) (l : List UInt8) : ∀ (a : Nat), (∀ c ∈ l, isDig c = true) → valA a l ≤ M → parseUintM M a l = .ok (valA a l) := by
  induction l with
  | nil => intro a _ _; rw [parseUintM]; rfl
  | cons c r ih =>
    intro a hd hv
    have hc := (isDig_iff c).1 (hd c (by simp))
    have hv' : valA (a * 10 + (c.toNat - 48)) r ≤ M := hv
    have h1 := valA_le r (a * 10 + (c.toNat - 48))
    have h2 : ¬ 1844674407370955162 ≤ a := by omega
    have h3 : ¬ M < a * 10 + (c.toNat - 48) := by omega
    rw [pu_dig M a c r hc, if_neg h2, if_neg h3]
    exact ih _ (fun x hx => hd x (by simp [hx])) hv'
theorem parseU_inv (M : Nat) (l : List UInt8) : ∀ (a u : Nat), parseUintM M a l = .ok u → (∀ c ∈ l, isDig c = true) ∧ u = valA a l ∧ (a ≤ M → u ≤ M) := by
  induction l with
  | nil =>
    intro a u h
    rw [parseUintM] at h
    injection h with h
    exact ⟨by simp, h.symm, fun ha => by omega⟩
  | cons c r ih =>
    intro a u h
    by_cases hc : 48 ≤ c.toNat ∧ c.toNat ≤ 57
    · rw [pu_dig M a c r hc] at h
      by_cases h2 : 1844674407370955162 ≤ a
      · rw [if_pos h2] at h; cases h
      · rw [if_neg h2] at h
        by_cases h3 : M < a * 10 + (c.toNat - 48)
        · rw [if_pos h3] at h; cases h
        · rw [if_neg h3] at h
          obtain ⟨g1, g2, g3⟩ := ih _ u h
          refine ⟨fun x hx => ?_, g2, fun _ => g3 (by omega)⟩
          rcases List.mem_cons.1 hx with rfl | hx
          · exact (isDig_iff _).2 hc
          · exact g1 x hx
    · exact absurd h (pu_bad M a c r hc u)

/-- A number's text: the program's, and the document's, reading of it. -/
def inI (n : Int) : Prop := -9223372036854775808 ≤ n ∧ n ≤ 9223372036854775807

theorem parse_itoa (n : Int) (h : inI n) : parseIntB 64 (itoa n) = .ok n := by
  obtain ⟨h0, h1⟩ := h
  have e64 : (2 : Nat) ^ 64 - 1 = 18446744073709551615 := by decide
  have e63 : (2 : Nat) ^ (64 - 1) = 9223372036854775808 := by decide
  unfold itoa
  by_cases hn : n < 0
  · rw [if_pos hn]
    have hv := dec_val n.natAbs
    have hp : parseUintB 64 (decDigits n.natAbs) = .ok n.natAbs := by
      unfold parseUintB
      rw [if_neg (dec_ne _), e64, parseU_ok _ (by omega) _ _ (dec_dig _) (by rw [hv]; omega), hv]
    simp only [parseIntB]
    rw [if_pos (by decide), hp]
    simp only [e63]
    rw [if_neg (by simp), if_neg (by simp; omega), if_pos (by decide)]
    congr 1
    omega
  · rw [if_neg hn]
    obtain ⟨c, r, hcr, hz, hd⟩ := dec_head n.toNat
    have hv := dec_val n.toNat
    have hp : parseUintB 64 (decDigits n.toNat) = .ok n.toNat := by
      unfold parseUintB
      rw [if_neg (dec_ne _), e64, parseU_ok _ (by omega) _ _ (dec_dig _) (by rw [hv]; omega), hv]
    rw [hcr] at hp ⊢
    unfold isDig at hd
    simp at hd
    simp only [parseIntB]
    rw [if_neg (by omega), hp]
    simp only [e63]
    have hneg : ¬ c.toNat = 45 := by omega
    rw [if_neg (by omega), if_neg (by omega), if_neg hneg]
    congr 1
    omega

theorem parse_in {l : List UInt8} {v : Int} (h : parseIntB 64 l = .ok v) : inI v := by
  have e63 : (2 : Nat) ^ (64 - 1) = 9223372036854775808 := by decide
  cases l with
  | nil => cases h
  | cons c r =>
    simp only [parseIntB, e63] at h
    split at h
    · cases h
    · cases h
    · rename_i u hu
      by_cases hneg : c.toNat = 45
      · rw [if_neg (by simp [hneg])] at h
        split at h
        · cases h
        · rename_i h2
          injection h with h
          unfold inI
          simp [hneg] at h2
          omega
      · split at h
        · cases h
        · rename_i h2
          rw [if_neg (by simp [hneg])] at h
          injection h with h
          unfold inI
          simp [hneg] at h2
          omega

/-- The number of a text, if it is one's text. -/
def num (l : List UInt8) : Option Int := match parseIntB 64 l with
  | .ok v => if itoa v = l then some v else none
  | _ => none
theorem num_itoa (n : Int) (h : inI n) : num (itoa n) = some n := by
  unfold num
  rw [parse_itoa n h]
  simp
theorem num_some {l : List UInt8} {n : Int} (h : num l = some n) : l = itoa n ∧ inI n := by
  unfold num at h
  split at h
  · rename_i v hv
    split at h
    · rename_i he
      injection h with h
      subst h
      exact ⟨he.symm, parse_in hv⟩
    · cases h
  · cases h
theorem num_iff {l : List UInt8} {n : Int} : num l = some n ↔ l = itoa n ∧ inI n :=
  ⟨num_some, fun ⟨h1, h2⟩ => by rw [h1]; exact num_itoa n h2⟩
theorem itoa_inj {a b : Int} (ha : inI a) (hb : inI b) (h : itoa a = itoa b) : a = b := by
  have h1 := num_itoa a ha
  rw [h, num_itoa b hb] at h1
  injection h1 with h1
  exact h1.symm
theorem nd_le : ∀ (k u : Nat), u < 10 ^ (k + 1) → nDigits u ≤ k + 1
  | 0, u, h => by rw [nDigits_small (by simpa using h)]; exact Nat.le_refl _
  | k + 1, u, h => by
    by_cases hu : u < 10
    · rw [nDigits_small hu]; omega
    · rw [nDigits_big hu]
      have := nd_le k (u / 10) (by rw [Nat.pow_succ] at h; omega)
      omega
theorem itoa_len {n : Int} (h : inI n) : (itoa n).length ≤ 21 := by
  have e : (10 : Nat) ^ (19 + 1) = 100000000000000000000 := by decide
  unfold inI at h
  unfold itoa
  split
  · have := nd_le 19 n.natAbs (by rw [e]; omega)
    simp only [List.length_cons, decDigits_length]
    omega
  · have := nd_le 19 n.toNat (by rw [e]; omega)
    rw [decDigits_length]
    omega
theorem itoa_no44 (n : Int) : (44 : UInt8) ∉ itoa n := by
  intro h
  unfold itoa at h
  split at h
  · rcases List.mem_cons.1 h with h | h
    · cases h
    · have := dec_dig _ _ h; cases this
  · have := dec_dig _ _ h; cases this
end Go.Viv
