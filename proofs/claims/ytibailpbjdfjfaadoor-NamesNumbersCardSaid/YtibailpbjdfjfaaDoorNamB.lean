/-
  NamesNumbers' walk.
-/
import Derived.Test.YtibailpbjdfjfaaDoorNamA
import Derived.Test.YtibailpbjdfjfaaDoorNum
namespace Go.Viv
open Go.RowKit
theorem namesL_len : namesL.length = 110 := by decide
theorem names_at {k : Nat} {x : Int} (h : namesL[k]? = some x) : namesC[k * 2]? = some (.int .i64 x) ∧ namesC[k * 2 + 1]? = some (.int .i64 x) := by
  have g := fun c hc => chunk_get pairC 2 (fun _ => rfl) namesL k c hc
  rw [h] at g
  unfold namesC
  simp only [List.getElem?_toArray]
  refine ⟨?_, ?_⟩
  · rw [← Nat.add_zero (k * 2), g 0 (by omega)]; rfl
  · rw [g 1 (by omega)]; rfl
theorem frN_grow (w : World) (k : Nat) (os : Array Obj) : Fr (fun _ => False) w (Go.Sort.grow (w.drewN k) os) :=
  ⟨rfl, rfl, rfl, by simp [Go.Sort.grow, World.drewN], fun i hi _ => by
    show (w.heap ++ os)[i]? = w.heap[i]?
    rw [Array.getElem?_append_left hi]⟩
end Go.Viv
namespace Go.Proofs.YtibailpbjdfjfaaDoor
open Go.RowKit Go.Viv
/-- What NamesNumbers leans on: the table of powers of ten. -/
structure EnvN (w : World) : Prop where
  tab : Lib.TabIs Tryd.prog w "internal/strconv.uint64pow10" .u64 Lib.pow10Tab
  size : 8 ≤ w.heap.size
theorem globPowN : Tryd.prog.globalNamed "internal/strconv.uint64pow10" = some 1 := by kernel_rfl
theorem EnvN.fr {w w' : World} (h : EnvN w) (hf : Fr (fun _ => False) w w') : EnvN w' := by
  have hs := h.size
  refine ⟨?_, Nat.le_trans h.size hf.size⟩
  have := h.tab
  unfold Lib.TabIs World.var? at this ⊢
  rw [globPowN] at this ⊢
  simpa [hf.block 1 (by omega) (fun h => h)] using this
theorem error_any (n : Int) (L : List UInt8) (w : World) (he : EnvN w) (hn : inI n) (hL : Lib.itoa n = L) : Calls Tryd.prog 8 #[.int .i64 n] w fun e w' => e = .returned (.string (⟨#[101, 114, 114, 111, 114, 32]⟩ ++ ⟨L.toArray⟩)) ∧ Fr (fun _ => False) w w' := by
  have hl := itoa_len hn
  have HI := Lib.hid (show Calls Tryd.prog 17 #[.int .i64 n] w fun e w' => e = .returned (.string ⟨L.toArray⟩) ∧ Fr (fun _ => False) w w' from by
    refine (Tryd.strconv_Itoa n hn.1 hn.2 w he.tab).mono ?_
    rintro e w' ⟨rfl, k, os, rfl⟩
    exact ⟨by rw [hL], frN_grow _ _ _⟩)
  rw [hL] at hl
  have m1 : ¬ 9223372036854775807 < 6 + L.length := by omega
  clear he hn hL
  go_enter Tryd.func8, Tryd.ntmps8
  go_wp2_with fail
  refine HI.out.mono ?_
  rintro e w1 ⟨rfl, hf1⟩
  have H1 := Lib.hid hf1
  clear hf1
  go_wp2
  go_ret
  exact ⟨rfl, H1.out⟩
set_option maxRecDepth 100000 in
set_option maxHeartbeats 1000000 in
theorem names_any (w : World) (he : EnvN w) : Calls Tryd.prog 3 #[] w fun e w' => e = .returned (.bool true) ∧ Fr (fun _ => False) w w' := by
  have HE := Lib.hid he
  have HA := Lib.hid (fun W (h : EnvN W) => show Calls Tryd.prog 8 #[.int .i64 22] W fun e w' => e = .returned (.string ⟨#[101, 114, 114, 111, 114, 32, 50, 50]⟩) ∧ Fr (fun _ => False) W w' from error_any 22 [50, 50] W h (by simp [inI]) (by kernel_rfl))
  have HB := Lib.hid (fun W (h : EnvN W) => show Calls Tryd.prog 8 #[.int .i64 0] W fun e w' => e = .returned (.string ⟨#[101, 114, 114, 111, 114, 32, 48]⟩) ∧ Fr (fun _ => False) W w' from error_any 0 [48] W h (by simp [inI]) (by kernel_rfl))
  obtain ⟨NC, hNC⟩ : ∃ NC, namesC = NC := ⟨_, rfl⟩
  have HN := Lib.hid (show Calls Tryd.prog 7 #[] w fun e w' => e = .returned (.slice (some ⟨w.heap.size, 0, none⟩) 110 110) ∧ w.alloc (.cells NC 25) = w' from by rw [← hNC]; exact all_any w)
  have HC := Lib.hid (fun (k : Nat) (x : Int) (h : namesL[k]? = some x) => show NC[k * 2]? = some (.int .i64 x) ∧ NC[k * 2 + 1]? = some (.int .i64 x) from by rw [← hNC]; exact names_at h)
  clear he hNC
  go_enter Tryd.func3, Tryd.ntmps3
  go_wp2_with fail
  refine HN.out.mono ?_
  rintro e w1 ⟨rfl, hw1⟩
  have hb1 : Blk w1 w.heap.size 25 NC := by rw [← hw1]; exact Blk.new _ _ _
  have H1 := Lib.hid (And.intro hb1 (show Fr (fun _ => False) w w1 from by rw [← hw1]; exact Fr.alloc1 _ _ _))
  clear hw1 hb1
  obtain ⟨g, hg⟩ : ∃ g, w.heap.size = g := ⟨_, rfl⟩
  rw [hg] at H1 ⊢
  clear hg
  go_wp2_with fail
  go_loopw [2] (fun t wr => ∃ k : Nat, k ≤ 110 ∧ t = .int .i64 k ∧ Fr (fun _ => False) w1 wr) (fun t _ => 110 - (intOf t).toNat)
  case atStart => exact ⟨0, by omega, rfl, Fr.refl _ _⟩
  case round =>
    obtain ⟨k, hk, rfl, hfr⟩ := hrel
    by_cases hlt : k < 110
    · have hlt' : (k : Int) < 110 := by omega
      obtain ⟨x, hx⟩ : ∃ x, namesL[k]? = some x := ⟨_, List.getElem?_eq_getElem (by rw [namesL_len]; exact hlt)⟩
      have hb2 := H1.out.1.fr hfr (fun h => h)
      have d0 := (hb2.cell (k * 2)).trans (HC.out k x hx).1
      have d1 := (hb2.cell (k * 2 + 1)).trans (HC.out k x hx).2
      have k0 := cell_regrown d0
      have k1 := cell_regrown d1
      have lt := hb2.lt
      have HF := Lib.hid hfr
      have hxx : (x != x) = false := by simp
      clear hx hb2 hfr d0 d1
      obtain ⟨wB, hwB⟩ : ∃ wB, wB = wr := ⟨wr, rfl⟩
      subst hwB
      go_wp2_with fail
      refine wp_region_quiet_below (by kernel_rfl) (by kernel_rfl) ?_
      repeat (first | go_big_quiet_step (fail) | quiet_step (fail))
      refine wpQuiet_nil ?_
      intro wq hq
      obtain ⟨pq, rfl⟩ := hq
      go_wp2
      go_roundw
      case rel => exact ⟨k + 1, by omega, by go_num, fr_regrown HF.out _ _⟩
      case measure => simp [intOf]; omega
    · obtain rfl : k = 110 := by omega
      have HF := Lib.hid (fr_two H1.out.2 hfr)
      clear hfr
      obtain ⟨wB, hwB⟩ : ∃ wB, wB = wr := ⟨wr, rfl⟩
      subst hwB
      go_wp2_with fail
      refine (HA.out _ (HE.out.fr HF.out)).mono ?_
      rintro e w2 ⟨rfl, hf2⟩
      have H2 := Lib.hid (fr_two HF.out hf2)
      clear hf2
      go_wp2_with fail
      refine (HB.out _ (HE.out.fr H2.out)).mono ?_
      rintro e w3 ⟨rfl, hf3⟩
      have H3 := Lib.hid (fr_two H2.out hf3)
      clear hf3
      go_wp2
      go_ret
      exact ⟨rfl, H3.out⟩
end Go.Proofs.YtibailpbjdfjfaaDoor
