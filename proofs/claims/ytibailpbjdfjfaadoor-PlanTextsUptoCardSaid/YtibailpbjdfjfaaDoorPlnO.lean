/-
  The document's plan texts: same, column.
-/
import Derived.Test.YtibailpbjdfjfaaDoorPlnN
import Derived.StillTailTactics
namespace Go.Viv
open Go.Lib Go.RowKit
theorem valA_bound' : ∀ (d : List UInt8) (a k : Nat), (d.all isDig) = true → a < 10 ^ k → valA a d < 10 ^ (k + d.length)
  | [], a, k, _, h => by rw [List.length_nil, Nat.add_zero]; exact h
  | c :: r, a, k, h, ha => by
    rw [List.all_cons, Bool.and_eq_true] at h
    have h2 := (byte_dig h.1).2
    have := valA_bound' r (a * 10 + (c.toNat - 48)) (k + 1) h.2 (by rw [Nat.pow_succ]; omega)
    rw [List.length_cons, show k + (r.length + 1) = k + 1 + r.length by omega]
    exact this
theorem valA_bound (d : List UInt8) (h : (d.all isDig) = true) : valA 0 d < 10 ^ d.length := by
  have := valA_bound' d 0 0 h (by decide)
  rwa [Nat.zero_add] at this
theorem valA_lt {d : List UInt8} {k : Nat} (h : (d.all isDig) = true) (hl : d.length ≤ k) : valA 0 d < 10 ^ k :=
  Nat.lt_of_lt_of_le (valA_bound d h) (Nat.pow_le_pow_right (by decide) hl)
theorem num_dig {d : List UInt8} (h0 : d ≠ []) (hz : d.head? = some 48 → d.length = 1) (ha : (d.all isDig) = true) (hl : d.length ≤ 3) : num d = some (valA 0 d : Int) := by
  have hc := dec_canon d.length d rfl h0 (fun c hc => List.all_eq_true.1 ha c hc) (fun h => hz (by
    cases d with
    | nil => exact absurd rfl h0
    | cons c r =>
      simp at h ⊢
      exact UInt8.toNat.inj (by show c.toNat = 48; exact h)))
  have hv : valA 0 d < 10 ^ 3 := by
    exact valA_lt (k := 3) ha hl
  have he : itoa (valA 0 d : Int) = d := by
    unfold itoa
    rw [if_neg (by omega), Int.toNat_natCast]
    exact hc
  have e1000 : (10 : Nat) ^ 3 = 1000 := by decide
  rw [e1000] at hv
  have := num_itoa (valA 0 d : Int) (by unfold inI; omega)
  rw [he] at this
  exact this
theorem num_nodig {d : List UInt8} {n : Int} (h : num d = some n) (h0 : 0 ≤ n) : (d.all isDig) = true ∧ d ≠ [] ∧ (d.head? = some 48 → d.length = 1) := by
  obtain ⟨e, _⟩ := num_some h
  have e2 : d = decDigits n.toNat := by rw [e]; unfold itoa; rw [if_neg (by omega)]
  rw [e2]
  refine ⟨List.all_eq_true.2 (dec_dig _), dec_ne _, fun hh => ?_⟩
  obtain ⟨c, r, h1, h2, _⟩ := dec_head n.toNat
  rw [h1] at hh
  have hc : c = 48 := by simpa using hh
  have := h2 (by rw [hc]; rfl)
  rw [this, dec_lt (by decide)]
  rfl
/-- The document's reading of a column. -/
theorem colP_bad {c : UInt8} {d : List UInt8} (he : ¬ (c = 101 ∧ d = [])) (h : d = [] ∨ 3 < d.length ∨ (d.head? = some 48 ∧ 1 < d.length) ∨ (d.all isDig) = false) : colP (c :: d) = none := by
  rw [colP_cons]
  by_cases hc : c = 101
  · rw [if_pos hc, if_neg (fun hd => he ⟨hc, hd⟩)]
  · rw [if_neg hc]
    by_cases hk : kindL c = 0 ∨ 3 < d.length
    · rw [if_pos hk]
    · rw [if_neg hk]
      cases hn : num d with
      | none => rfl
      | some n =>
        simp only
        by_cases h0 : n < 0
        · rw [if_pos h0]
        · obtain ⟨g1, g2, g3⟩ := num_nodig hn (by omega)
          exfalso
          rcases h with h | h | ⟨h, h'⟩ | h
          · exact g2 h
          · exact hk (.inr h)
          · have := g3 h; omega
          · rw [g1] at h; cases h
theorem colP_good {c : UInt8} {d : List UInt8} (h0 : d ≠ []) (hl : d.length ≤ 3) (hz : d.head? = some 48 → d.length = 1) (ha : (d.all isDig) = true) : colP (c :: d) = if kindL c = 0 then none else some ⟨kindL c, (valA 0 d : Int)⟩ := by
  rw [colP_cons]
  by_cases hc : c = 101
  · rw [if_pos hc, if_neg h0, if_pos (by rw [hc]; rfl)]
  · rw [if_neg hc, num_dig h0 hz ha hl]
    by_cases hk : kindL c = 0
    · rw [if_pos (.inl hk), if_pos hk]
    · rw [if_neg (by omega), if_neg hk]
      simp only
      rw [if_neg (by omega)]
/-- The kind, as far as k letters are looked at. -/
def kindTo (c : UInt8) (k : Nat) : Int := if kindL c ≤ k then kindL c else 0
theorem kindTo_0 (c : UInt8) : kindTo c 0 = 0 := by
  unfold kindTo
  rcases kindL_in c with h | ⟨h, _⟩
  · rw [h]; rfl
  · rw [if_neg (by simp; omega)]
theorem kindTo_4 (c : UInt8) : kindTo c 4 = kindL c := by
  unfold kindTo
  rcases kindL_in c with h | ⟨_, h, _⟩
  · rw [h]; rfl
  · rw [if_pos (by exact h)]
theorem kindTo_hit {c : UInt8} {k : Nat} (h : kindL c = k + 1) : kindTo c (k + 1) = (k : Int) + 1 := by
  unfold kindTo; rw [h, if_pos (by simp)]
theorem kindTo_miss {c : UInt8} {k : Nat} (h : kindL c ≠ k + 1) : kindTo c (k + 1) = kindTo c k := by
  unfold kindTo
  by_cases h1 : kindL c ≤ k
  · rw [if_pos (by simp; omega), if_pos h1]
  · rw [if_neg (by simp; omega), if_neg h1]
theorem letters_at (c : UInt8) : (((114 : Int) == c.toNat) = decide (kindL c = 1)) ∧ (((119 : Int) == c.toNat) = decide (kindL c = 2)) ∧ (((109 : Int) == c.toNat) = decide (kindL c = 3)) ∧ (((110 : Int) == c.toNat) = decide (kindL c = 4)) := by
  have key : ∀ (b : UInt8) (k : Int), ((b = c) ↔ kindL c = k) → (((b.toNat : Int) == c.toNat) = decide (kindL c = k)) := by
    intro b k h
    rw [Bool.eq_iff_iff, beq_iff_eq, decide_eq_true_eq, ← h]
    exact ⟨fun e => UInt8.toNat.inj (by omega), fun e => by rw [e]⟩
  refine ⟨key 114 1 ?_, key 119 2 ?_, key 109 3 ?_, key 110 4 ?_⟩
  all_goals
    unfold kindL
    by_cases h1 : c = 114
    · subst h1; decide
    · by_cases h2 : c = 119
      · subst h2; decide
      · by_cases h3 : c = 109
        · subst h3; decide
        · by_cases h4 : c = 110
          · subst h4; decide
          · simp only [h1, h2, h3, h4, if_false]
            constructor
            · intro h; first | exact absurd h.symm h1 | exact absurd h.symm h2 | exact absurd h.symm h3 | exact absurd h.symm h4
            · intro h; exact absurd h (by decide)
end Go.Viv
namespace Go.Proofs.YtibailpbjdfjfaaDoor
open Go.RowKit Go.Viv
set_option maxRecDepth 100000 in
set_option maxHeartbeats 2000000 in
theorem same17_eq (l : List Coln) (A B : Option Addr) (ca cb : Nat) (w : World) (ha : RowC w A (l.flatMap cellsK)) (hb : RowC w B (l.flatMap cellsK)) (_hca : l.length ≤ ca) (_hcb : l.length ≤ cb) (_hm : ca ≤ 9223372036854775807) (_hm2 : cb ≤ 9223372036854775807) :
    Calls Tryd.prog 14 #[.slice A l.length ca, .slice B l.length cb] w fun e w' => e = .returned (.bool true) ∧ Fr (fun _ => False) w w' := by
  have HR := Lib.hid (And.intro ha hb)
  obtain ⟨n, hnl⟩ : ∃ n, l.length = n := ⟨_, rfl⟩
  have HN := Lib.hid hnl
  rw [hnl] at _hca _hcb ⊢
  have hnn : ((n : Int) != (n : Int)) = false := by simp
  clear ha hb hnl
  go_enter Tryd.func14, Tryd.ntmps14
  go_wp2_with fail
  go_loopw [5] (fun t wr => ∃ k : Nat, k ≤ n ∧ t = .int .i64 k ∧ Fr (fun _ => False) w wr) (fun t _ => n - (intOf t).toNat)
  case atStart => exact ⟨0, by omega, rfl, Fr.refl _ _⟩
  case round =>
    obtain ⟨k, hk, rfl, hfr⟩ := hrel
    by_cases hlt : k < n
    · obtain ⟨y, hy⟩ : ∃ y, l[k]? = some y := ⟨_, List.getElem?_eq_getElem (by rw [HN.out]; exact hlt)⟩
      obtain ⟨b, o, rfl, hbw, d0, d1⟩ := rowK_at (HR.out.1.fr hfr) hy
      obtain ⟨b2, o2, rfl, hbw2, e0, e1⟩ := rowK_at (HR.out.2.fr hfr) hy
      have k0 := cell_regrown d0
      have k1 := cell_regrown d1
      have j0 := cell_regrown e0
      have j1 := cell_regrown e1
      have HF := Lib.hid hfr
      have hi1 : (k : Int) < (n : Int) := by omega
      clear hy hfr d0 d1 e0 e1
      obtain ⟨wB, hwB⟩ : ∃ wB, wB = wr := ⟨wr, rfl⟩
      subst hwB
      go_wp2_with fail
      refine wp_region_quiet_below (by kernel_rfl) (by kernel_rfl) ?_
      repeat (first | go_big_quiet_step (fail) | quiet_step (fail))
      refine wpQuiet_nil ?_
      intro wq hq
      obtain ⟨pq, rfl⟩ := hq
      go_wp2
      go_roundw
      case rel => exact ⟨k + 1, by omega, by go_num, fr_regrown HF.out _ _⟩
      case measure => simp [intOf]; omega
    · obtain rfl : n = k := by omega
      have HF := Lib.hid hfr
      clear hfr
      go_wp2
      go_ret
      exact ⟨rfl, HF.out⟩
end Go.Proofs.YtibailpbjdfjfaaDoor
