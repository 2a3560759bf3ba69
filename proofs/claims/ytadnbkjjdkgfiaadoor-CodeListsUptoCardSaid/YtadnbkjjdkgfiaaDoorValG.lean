/-
  The contract of 'awake'.
-/
import Derived.Test.YtadnbkjjdkgfiaaDoorValF
namespace Go.Proofs.YtadnbkjjdkgfiaaDoor
open Go.RowKit Go.Viv

theorem awake_text : textV ⟨2, 1, -2⟩ = [49, 44, 45, 50] := by simp [textV, okV, itoa_1, itoa_m2]
theorem awake_parse : parseV [49, 44, 45, 50] = some ⟨2, 1, -2⟩ := by
  rw [← awake_text]
  exact parse_text rfl ⟨by unfold inI; decide, by unfold inI; decide⟩
theorem five_text : textV ⟨1, 5, 0⟩ = [53] := by simp [textV, okV, itoa_5]

set_option maxRecDepth 100000 in
set_option maxHeartbeats 2000000 in
theorem awake_any (w : World) (he : Env w) : Calls Tryd.prog 18 #[] w fun e w' => e = .returned (.bool true) ∧ Fr (fun _ => False) w w' := by
  have HE := Lib.hid he
  clear he
  go_enter Tryd.func18, Tryd.ntmps18
  go_wp2_with fail
  refine (parse_any [49, 44, 45, 50] _ HE.out (by decide)).mono ?_
  rintro e w1 ⟨rfl, hf1⟩
  rw [awake_parse]
  have H1 := Lib.hid hf1
  clear hf1
  go_wp2_with fail
  refine (zero_any 3 _).mono ?_
  rintro e w2 ⟨rfl, hf2⟩
  have r1 := (Res.new w1 2 1 (-2)).fr hf2
  obtain ⟨⟨c0, c1, c2⟩, -, lt⟩ := r1.cells
  have H2 := Lib.hid (And.intro (fr_no (H1.out.alloc _) hf2) (HE.out.fr (fr_no (H1.out.alloc _) hf2)))
  clear hf2 r1
  have hz : zeroOf 3 = true := rfl
  rw [hz]
  go_wp2_with fail
  go_region_with (first
    | (go_at_call 15; refine (pair_any _ _ _).mono ?_; rintro e w3 ⟨rfl, rfl⟩)
    | (go_at_call 16; refine (tag_any _).mono ?_; rintro e w4 ⟨rfl, rfl⟩)
    | (go_at_call 14; refine (int_any _ _).mono ?_; rintro e w5 ⟨rfl, rfl⟩)
    | (go_at_call 13; refine (text_any ⟨1, 5, 0⟩ _ (by repeat (first | exact H2.out.2 | apply Env.alloc | apply Env.drew)) ⟨by unfold inI; decide, by unfold inI; decide⟩).mono ?_; rintro e w6 ⟨rfl, hf6⟩; rw [five_text]; have H6 := Lib.hid hf6; clear hf6))
  all_goals
    go_wp2
    go_ret
    refine ⟨rfl, fr_no ?_ H6.out⟩
    repeat (first | exact H2.out.1 | apply Fr.alloc | apply Fr.drew)
end Go.Proofs.YtadnbkjjdkgfiaaDoor
