/-
  The contract of the code laws' 'awake'.
-/
import Derived.Test.YtadnbkjjdkgfiaaDoorCodI
namespace Go.Viv
open Go.Lib Go.Proofs.YtadnbkjjdkgfiaaDoor Go.RowKit
theorem awp1 : parseI (wordsB [97, 100, 100, 32, 114, 48, 32, 114, 49]) = some ⟨3, 0, 1, 0⟩ := by kernel_rfl
theorem awp2 : parseI (wordsB [97, 100, 100, 32, 114, 48]) = none := by kernel_rfl
theorem awt : textI ⟨3, 0, 1, 0⟩ = [97, 100, 100, 32, 114, 48, 32, 114, 49] := by kernel_rfl
theorem awc : checkI [⟨3, 0, 1, 0⟩] = 0 := by kernel_rfl
end Go.Viv
namespace Go.Proofs.YtadnbkjjdkgfiaaDoor
open Go.RowKit Go.Viv
set_option maxRecDepth 100000 in
set_option maxHeartbeats 2000000 in
theorem cawake_any (w : World) (he : EnvC w) : Calls Tryd.prog 30 #[] w fun e w' => e = .returned (.bool true) ∧ Fr (fun _ => False) w w' := by
  have HE := Lib.hid he
  have HP1 := Lib.hid (fun W (h : EnvC W) => show Calls Tryd.prog 26 #[str [97, 100, 100, 32, 114, 48, 32, 114, 49]] W fun e w' => e = .returned (.tuple #[Insn.agg ⟨3, 0, 1, 0⟩, .int .i64 0]) ∧ Fr (fun _ => False) W w' from by
    have := cparse_any [97, 100, 100, 32, 114, 48, 32, 114, 49] W h (by decide)
    rw [awp1] at this; exact this)
  have HP2 := Lib.hid (fun W (h : EnvC W) => show Calls Tryd.prog 26 #[str [97, 100, 100, 32, 114, 48]] W fun e w' => e = .returned (.tuple #[Insn.agg ⟨0, 0, 0, 0⟩, .int .i64 16]) ∧ Fr (fun _ => False) W w' from by
    have := cparse_any [97, 100, 100, 32, 114, 48] W h (by decide)
    rw [awp2] at this; exact this)
  have HT := Lib.hid (fun W (h : EnvC W) => show Calls Tryd.prog 27 #[Insn.agg ⟨3, 0, 1, 0⟩] W fun e w' => e = .returned (str [97, 100, 100, 32, 114, 48, 32, 114, 49]) ∧ Fr (fun _ => False) W w' from by
    have := ctext_any ⟨3, 0, 1, 0⟩ W h.env (by simp [inI])
    rw [awt] at this; exact this)
  have HC := Lib.hid (fun W g (h : Blk W g 42 #[.int .i64 3, .int .i64 0, .int .i64 1, .int .i64 0]) => show Calls Tryd.prog 31 #[.slice (some ⟨g, 0, none⟩) 1 1] W fun e w' => e = .returned (.int .i64 0) ∧ Fr (fun _ => False) W w' from by
    have := check_any [⟨3, 0, 1, 0⟩] (some ⟨g, 0, none⟩) 1 W (RowC.blk h) (by simp) (by decide)
    rw [awc] at this; exact this)
  clear he
  go_enter Tryd.func30, Tryd.ntmps30
  go_wp2_with fail
  refine (HP1.out _ HE.out).mono ?_
  rintro e w1 ⟨rfl, hf1⟩
  have H1 := Lib.hid hf1
  clear hf1
  go_wp2_with fail
  refine (HP2.out _ (HE.out.fr (H1.out.alloc _))).mono ?_
  rintro e w2 ⟨rfl, hf2⟩
  have hbl := (Blk.new w1 42 #[.int .i64 3, .int .i64 0, .int .i64 1, .int .i64 0]).fr hf2 (fun h => h)
  obtain ⟨c0, c1, c2, c3⟩ := blk4z hbl
  have lt := Blk.lt hbl
  have H2 := Lib.hid (And.intro (fr_two (H1.out.alloc _) hf2) hbl)
  clear hf2 hbl
  go_wp2_with fail
  refine (HT.out _ (HE.out.fr (H2.out.1.alloc _))).mono ?_
  rintro e w3 ⟨rfl, hf3⟩
  have hbl := (H2.out.2.alloc (.cells #[.int .i64 0, .int .i64 0, .int .i64 0, .int .i64 0] 42)).fr hf3 (fun h => h)
  obtain ⟨d0, d1, d2, d3⟩ := blk4z hbl
  have H3 := Lib.hid (fr_two (H2.out.1.alloc _) hf3)
  clear hf3 hbl c0 c1 c2 c3
  go_wp2_with fail
  refine (HC.out _ _ (Blk.new _ _ _)).mono ?_
  rintro e w4 ⟨rfl, hf4⟩
  have H4 := Lib.hid (fr_two (H3.out.alloc _) hf4)
  clear hf4
  go_wp2
  go_ret
  exact ⟨rfl, H4.out⟩
end Go.Proofs.YtadnbkjjdkgfiaaDoor
