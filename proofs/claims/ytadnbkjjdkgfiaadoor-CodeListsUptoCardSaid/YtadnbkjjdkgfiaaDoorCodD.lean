/-
  Contracts of package code: Check.
-/
import Derived.Test.YtadnbkjjdkgfiaaDoorCodC
namespace Go.Viv
open Go.Lib Go.Proofs.YtadnbkjjdkgfiaaDoor Go.RowKit
def allOk : List Insn → Bool
  | [] => true
  | i :: r => insOk i r.length && allOk r
def checkI (is : List Insn) : Int := if 16 < is.length then 2 else if allOk is then 0 else 1
theorem rowI_at {w : World} {A : Option Addr} {is : List Insn} (h : RowC w A (is.flatMap cellsI)) {k : Nat} {i : Insn} (hk : is[k]? = some i) : ∃ b o, A = some ⟨b, o, none⟩ ∧ b < w.heap.size ∧ w.cell? ⟨b, o + k * 4, none⟩ = some (.int .i64 i.op) ∧ w.cell? ⟨b, o + k * 4 + 1, none⟩ = some (.int .i64 i.r) ∧ w.cell? ⟨b, o + k * 4 + 2, none⟩ = some (.int .i64 i.s) ∧ w.cell? ⟨b, o + k * 4 + 3, none⟩ = some (.int .i64 i.n) := by
  rcases h with h | ⟨b, o, h1, h2, h3⟩
  · cases is with
    | nil => simp at hk
    | cons x r => simp at h
  · have g := fun c hc => chunk_get cellsI 4 (fun _ => rfl) is k c hc
    rw [hk] at g
    have e0 := h3 (k * 4) (.int .i64 i.op) (by rw [← Nat.add_zero (k * 4), g 0 (by omega)]; rfl)
    have e1 := h3 (k * 4 + 1) (.int .i64 i.r) (by rw [g 1 (by omega)]; rfl)
    have e2 := h3 (k * 4 + 2) (.int .i64 i.s) (by rw [g 2 (by omega)]; rfl)
    have e3 := h3 (k * 4 + 3) (.int .i64 i.n) (by rw [g 3 (by omega)]; rfl)
    exact ⟨b, o, h1, h2, e0, by rw [Nat.add_assoc]; exact e1, by rw [Nat.add_assoc]; exact e2, by rw [Nat.add_assoc]; exact e3⟩
theorem allOk_at {is : List Insn} {k : Nat} {i : Insn} (h : is[k]? = some i) : allOk (is.drop k) = (insOk i ((is.length : Int) - 1 - k) && allOk (is.drop (k + 1))) := by
  have hk : k < is.length := by
    rcases Nat.lt_or_ge k is.length with h' | h'
    · exact h'
    · rw [List.getElem?_eq_none h'] at h; cases h
  rw [List.drop_eq_getElem_cons hk]
  rw [List.getElem?_eq_getElem hk] at h
  rw [Option.some.inj h, allOk, List.length_drop]
  congr 2
  omega
end Go.Viv
namespace Go.Proofs.YtadnbkjjdkgfiaaDoor
open Go.RowKit Go.Viv

set_option maxRecDepth 100000 in
set_option maxHeartbeats 1000000 in
theorem check_any (is : List Insn) (A : Option Addr) (cap : Nat) (w : World) (hr : RowC w A (is.flatMap cellsI)) (_hn : is.length ≤ cap) (_hc : cap ≤ 9223372036854775807) :
    Calls Tryd.prog 31 #[.slice A is.length cap] w fun e w' => e = .returned (.int .i64 (checkI is)) ∧ Fr (fun _ => False) w w' := by
  have HR := Lib.hid hr
  clear hr
  obtain ⟨n, hnl⟩ : ∃ n, is.length = n := ⟨_, rfl⟩
  have HN := Lib.hid hnl
  have HCK := Lib.hid (show checkI is = if 16 < n then 2 else if allOk is then 0 else 1 from by unfold checkI; rw [hnl])
  rw [hnl]
  clear hnl
  by_cases h16 : 16 < n
  · have h16' : (16 : Int) < n := by omega
    have HH := Lib.hid h16
    clear h16
    go_enter Tryd.func31, Tryd.ntmps31
    go_wp2
    go_ret
    exact ⟨by rw [HCK.out, if_pos HH.out]; rfl, Fr.refl _ _⟩
  · have h16' : (n : Int) ≤ 16 := by omega
    have HH := Lib.hid h16
    have hn16 : n ≤ 16 := by omega
    clear h16
    go_enter Tryd.func31, Tryd.ntmps31
    go_wp2_with fail
    go_loopw [3, 4, 10] (fun _ _ t wr => ∃ k : Nat, k ≤ n ∧ t = .int .i64 k ∧ allOk is = allOk (is.drop k) ∧ Fr (fun _ => False) w wr) (fun _ _ t _ => n - (intOf t).toNat)
    case atStart => exact ⟨0, by omega, rfl, by rw [List.drop_zero], Fr.refl _ _⟩
    case round =>
      obtain ⟨k, hk, rfl, hall, hfr⟩ := hrel
      by_cases hlt : k < n
      · obtain ⟨i, hi⟩ : ∃ i, is[k]? = some i := ⟨_, List.getElem?_eq_getElem (by rw [HN.out]; exact hlt)⟩
        obtain ⟨b, o, rfl, hbw, d0, d1, d2, d3⟩ := rowI_at (HR.out.fr hfr) hi
        obtain ⟨bo, hbo⟩ : ∃ b, insOk i ((n : Int) - 1 - k) = b := ⟨_, rfl⟩
        have HO := Lib.hid (fun W => show Calls Tryd.prog 60 #[i.agg, .int .i64 ((n : Int) - 1 - k)] W fun e w' => e = .returned (.bool bo) ∧ Fr (fun _ => False) W w' from by rw [← hbo]; exact ok_ins i _ W)
        have HB := Lib.hid (And.intro hfr (show allOk is = (bo && allOk (is.drop (k + 1))) from by rw [hall, allOk_at hi, HN.out, hbo]))
        clear hfr hall hi hbo
        obtain ⟨wB, hwB⟩ : ∃ wB, wB = wr := ⟨wr, rfl⟩
        subst hwB
        cases bo with
        | false =>
          go_wp2_with (go_at_call 60; refine (HO.out _).mono ?_; rintro e w2 ⟨rfl, hf2⟩)
          go_ret
          exact ⟨by rw [HCK.out, if_neg HH.out, HB.out.2]; rfl, fr_two (HB.out.1.alloc _) hf2⟩
        | true =>
          go_wp2_with (go_at_call 60; refine (HO.out _).mono ?_; rintro e w2 ⟨rfl, hf2⟩; have H2 := Lib.hid hf2; clear hf2)
          go_roundw
          case rel => exact ⟨k + 1, by omega, by go_num, by rw [HB.out.2]; rfl, fr_two (HB.out.1.alloc _) H2.out⟩
          case measure => simp [intOf]; omega
      · obtain rfl : n = k := by omega
        have HB := Lib.hid (And.intro hfr (show allOk is = true from by rw [hall, List.drop_of_length_le (by rw [HN.out]; exact Nat.le_refl _)]; rfl))
        clear hfr hall
        go_wp2
        go_ret
        exact ⟨by rw [HCK.out, if_neg HH.out, HB.out.2]; rfl, HB.out.1⟩
end Go.Proofs.YtadnbkjjdkgfiaaDoor
