/-
  InterpFaults is true, whatever the numbers are.
-/
import Derived.Test.YtnlinpocnopibaaGreatDoorIfN
import Derived.Test.YtnlinpocnopibaaGreatDoorIfa0
import Derived.Test.YtnlinpocnopibaaGreatDoorIfa1
import Derived.Test.YtnlinpocnopibaaGreatDoorIfa2
import Derived.Test.YtnlinpocnopibaaGreatDoorIfa3
import Derived.Test.YtnlinpocnopibaaGreatDoorIfa4
import Derived.Test.YtnlinpocnopibaaGreatDoorIfa5
import Derived.Test.YtnlinpocnopibaaGreatDoorIfa6
import Derived.Test.YtnlinpocnopibaaGreatDoorRowKitG
import Derived.Test.YtnlinpocnopibaaGreatDoorRows
import Derived.Test.YtnlinpocnopibaaGreatDoorFvH
namespace Go.Proofs.YtnlinpocnopibaaGreatDoor
open Go Go.RowKit Go.Viv Go.Eva Go.Fv Go.Fw
theorem faAll : ∀ c A, c < 20 → A ≤ c + 1 → ∃ lo hi, lo ≤ A ∧ (A < hi ∨ hi = c + 1) ∧ hi ≤ c + 1 ∧ lo ≤ hi ∧ runC (some 15) (faR (c + 1) lo hi) 12 (faC (c + 1) lo hi) 5 [tk 0, tk 1] = true := fun c A h hA => match c, h, hA with
  | 0, _, hA => ⟨0, 1, by omega, .inr rfl, by omega, by omega, faul0_0⟩
  | 1, _, hA => ⟨0, 2, by omega, .inr rfl, by omega, by omega, faul1_0⟩
  | 2, _, hA => ⟨0, 3, by omega, .inr rfl, by omega, by omega, faul2_0⟩
  | 3, _, hA => ⟨0, 4, by omega, .inr rfl, by omega, by omega, faul3_0⟩
  | 4, _, hA => ⟨0, 5, by omega, .inr rfl, by omega, by omega, faul4_0⟩
  | 5, _, hA => ⟨0, 6, by omega, .inr rfl, by omega, by omega, faul5_0⟩
  | 6, _, hA => ⟨0, 7, by omega, .inr rfl, by omega, by omega, faul6_0⟩
  | 7, _, hA => ⟨0, 8, by omega, .inr rfl, by omega, by omega, faul7_0⟩
  | 8, _, hA => ⟨0, 9, by omega, .inr rfl, by omega, by omega, faul8_0⟩
  | 9, _, hA => if h0 : A < 9 then ⟨0, 9, by omega, .inl h0, by omega, by omega, faul9_0⟩ else ⟨9, 10, by omega, .inr rfl, by omega, by omega, faul9_1⟩
  | 10, _, hA => if h0 : A < 8 then ⟨0, 8, by omega, .inl h0, by omega, by omega, faul10_0⟩ else ⟨8, 11, by omega, .inr rfl, by omega, by omega, faul10_1⟩
  | 11, _, hA => if h0 : A < 8 then ⟨0, 8, by omega, .inl h0, by omega, by omega, faul11_0⟩ else ⟨8, 12, by omega, .inr rfl, by omega, by omega, faul11_1⟩
  | 12, _, hA => if h0 : A < 8 then ⟨0, 8, by omega, .inl h0, by omega, by omega, faul12_0⟩ else ⟨8, 13, by omega, .inr rfl, by omega, by omega, faul12_1⟩
  | 13, _, hA => if h0 : A < 8 then ⟨0, 8, by omega, .inl h0, by omega, by omega, faul13_0⟩ else if h1 : A < 13 then ⟨8, 13, by omega, .inl h1, by omega, by omega, faul13_1⟩ else ⟨13, 14, by omega, .inr rfl, by omega, by omega, faul13_2⟩
  | 14, _, hA => if h0 : A < 8 then ⟨0, 8, by omega, .inl h0, by omega, by omega, faul14_0⟩ else if h1 : A < 13 then ⟨8, 13, by omega, .inl h1, by omega, by omega, faul14_1⟩ else ⟨13, 15, by omega, .inr rfl, by omega, by omega, faul14_2⟩
  | 15, _, hA => if h0 : A < 8 then ⟨0, 8, by omega, .inl h0, by omega, by omega, faul15_0⟩ else if h1 : A < 12 then ⟨8, 12, by omega, .inl h1, by omega, by omega, faul15_1⟩ else ⟨12, 16, by omega, .inr rfl, by omega, by omega, faul15_2⟩
  | 16, _, hA => if h0 : A < 8 then ⟨0, 8, by omega, .inl h0, by omega, by omega, faul16_0⟩ else if h1 : A < 12 then ⟨8, 12, by omega, .inl h1, by omega, by omega, faul16_1⟩ else if h2 : A < 15 then ⟨12, 15, by omega, .inl h2, by omega, by omega, faul16_2⟩ else ⟨15, 17, by omega, .inr rfl, by omega, by omega, faul16_3⟩
  | 17, _, hA => if h0 : A < 8 then ⟨0, 8, by omega, .inl h0, by omega, by omega, faul17_0⟩ else if h1 : A < 12 then ⟨8, 12, by omega, .inl h1, by omega, by omega, faul17_1⟩ else if h2 : A < 15 then ⟨12, 15, by omega, .inl h2, by omega, by omega, faul17_2⟩ else ⟨15, 18, by omega, .inr rfl, by omega, by omega, faul17_3⟩
  | 18, _, hA => if h0 : A < 7 then ⟨0, 7, by omega, .inl h0, by omega, by omega, faul18_0⟩ else if h1 : A < 11 then ⟨7, 11, by omega, .inl h1, by omega, by omega, faul18_1⟩ else if h2 : A < 14 then ⟨11, 14, by omega, .inl h2, by omega, by omega, faul18_2⟩ else if h3 : A < 17 then ⟨14, 17, by omega, .inl h3, by omega, by omega, faul18_3⟩ else ⟨17, 19, by omega, .inr rfl, by omega, by omega, faul18_4⟩
  | 19, _, hA => if h0 : A < 7 then ⟨0, 7, by omega, .inl h0, by omega, by omega, faul19_0⟩ else if h1 : A < 11 then ⟨7, 11, by omega, .inl h1, by omega, by omega, faul19_1⟩ else if h2 : A < 14 then ⟨11, 14, by omega, .inl h2, by omega, by omega, faul19_2⟩ else if h3 : A < 17 then ⟨14, 17, by omega, .inl h3, by omega, by omega, faul19_3⟩ else if h4 : A < 19 then ⟨17, 19, by omega, .inl h4, by omega, by omega, faul19_4⟩ else ⟨19, 20, by omega, .inr rfl, by omega, by omega, faul19_5⟩
  | c + 20, h, _ => absurd h (by omega)
theorem faults_any (n a : Int) (W : World) (hE : EnvT W) : Calls Tryz.prog 5 #[.int .i64 n, .int .i64 a] W fun e w' => e = .returned (.bool true) ∧ Fr (fun _ => False) W w' := by
  obtain ⟨c, hc⟩ := Int.eq_ofNat_of_zero_le (show 0 ≤ n % 256 % 20 by omega)
  have hc20 : c < 20 := by omega
  obtain ⟨A, hA⟩ := Int.eq_ofNat_of_zero_le (show 0 ≤ a % 256 % ((c + 1 + 1 : Nat) : Int) from Int.emod_nonneg _ (by omega))
  have hAc : A ≤ c + 1 := by
    have : a % 256 % ((c + 1 + 1 : Nat) : Int) < ((c + 1 + 1 : Nat) : Int) := Int.emod_lt_of_pos _ (by omega)
    omega
  have aw : ∀ x, some 15 = some x → True_ x [] := fun x h => by cases h; exact awakeW_true
  obtain ⟨lo, hi, h1, h2, h3, h4, h⟩ := faAll c A hc20 hAc
  have hR := faR_ok (W0 := Begin.still W) hc20 hc hA h1 h2 h3
  exact runC_any (ν := faN n a (c + 1) A hi) hE hR aw (faC_ok hc20 hR hAc h1 h2 h3 h4) (fun φ => .cons (VR.sym (ν := faN n a (c + 1) A hi) 0) (.cons (VR.sym (ν := faN n a (c + 1) A hi) 1) .nil)) h
end Go.Proofs.YtnlinpocnopibaaGreatDoor
namespace Go.Proofs.YtnlinpocnopibaaGreatDoor
open Go.ChangeShapes Go.WideShapes Go.ChangeAt Go.RowKit Go.Joins Go.Viv
theorem own : ownKnob Tryz.prog.godebug = none := by kernel_rfl
theorem laidOut : laidOutB Tryz.prog = true := by kernel_rfl
theorem gBr : Tryz.prog.globalNamed "math/bits.deBruijn64tab" = some 0 := by kernel_rfl
theorem lay_met (os : Os) (args : Array Value) : laidMetH Tryz.prog Rows.interpFaultsRow.laid ((World.laidAll Tryz.prog os Rows.interpFaultsRow.laid).forCall (fun _ _ => 0) ⟨#[], args, []⟩).memory := by
  rw [MakeChecks.laidMetH_plain _ _ _ (by kernel_rfl)]
  exact laidMet_laidAll _ (by kernel_rfl) (by kernel_rfl)
theorem lay_shaped (os : Os) : (World.laidAll Tryz.prog os Rows.interpFaultsRow.laid).Shaped Tryz.prog :=
  World.shaped_of_ZipB (by kernel_rfl) (by kernel_rfl)
theorem envT_of_laid {W : World} (h : laidMetH Tryz.prog Rows.interpFaultsRow.laid W) : EnvT W := by
  rw [MakeChecks.laidMetH_plain _ _ _ (by kernel_rfl)] at h
  have h1 : laidMet Tryz.prog (("math/bits.deBruijn64tab", Lib.tabData .u8 (deB.map Int.ofNat)) :: []) W := h
  have h2 := Lib.tabIs_of_head (t := 382) (e := 5) (n := 64) gBr (by kernel_rfl) Tryz.underlying382 Tryz.underlying5 (by kernel_rfl) (by kernel_rfl) h1
  unfold Lib.TabIs World.var? at h2
  rw [gBr] at h2
  simp only [Option.bind_some] at h2
  split at h2
  · rename_i cs e fr hh
    simp only [Option.some.injEq] at h2
    exact ⟨e, fr, by rw [hh, h2]; rfl⟩
  · cases h2
end Go.Proofs.YtnlinpocnopibaaGreatDoor
