/-
  The plan laws' awake.
-/
import Derived.Test.YtibailpbjdfjfaaDoorPlnI
import Derived.Laws.OwnMore
namespace Go.Viv
open Go.Lib Go.RowKit
theorem awp : planP [114, 48, 32, 110, 49] = some [⟨1, 0⟩, ⟨4, 1⟩] := by kernel_rfl
theorem awc : planE 2 [⟨1, 0⟩, ⟨4, 1⟩] = 0 := by kernel_rfl
theorem awn : planE 0 [] = 1 := by kernel_rfl
theorem awt : textP [⟨5, 0⟩] = [101] := by kernel_rfl
end Go.Viv
namespace Go.Proofs.YtibailpbjdfjfaaDoor
open Go.RowKit Go.Viv
theorem infoDesc : (Tryd.prog.info? 134).map (fun i => (i.zero, i.size, i.bytes)) = some (some (.agg #[.int .i64 0, .int .i64 0, .int .i64 0]), 3, 24) := by kernel_rfl
/-- As many components as are asked for, made anew. -/
theorem make_desc (n : Nat) (hn : n ≤ 100000) (w : World) : ∃ w', (Instr.makeSlice 40 (.int .i64 (n : Int)) (.int .i64 (n : Int))).run Tryd.prog w = .ok (.slice (some ⟨w.heap.size, 0, none⟩) n n) w' ∧ Fr (fun _ => False) w w' := by
  obtain ⟨i0, hi, hz0, hz1, hz2⟩ := info_parts infoDesc
  obtain ⟨w', h1, _, h2⟩ := run_makeSlice_full (P := Tryd.prog) w w.heap.size 40 134 i0 _ 3 Tryd.underlying40 hi hz0 hz1 .i64 .i64 n (by omega) (by rw [hz2]; omega) (by unfold maxLen; omega) (Nat.le_refl _)
  exact ⟨w', h1, (Fr.refl _ _).grown h2 (fun k hk => by cases hk)⟩
set_option maxRecDepth 100000 in
set_option maxHeartbeats 1000000 in
theorem awake_any (w : World) (he : EnvP w) : Calls Tryd.prog 9 #[] w fun e w' => e = .returned (.bool true) ∧ Fr (fun _ => False) w w' := by
  have HE := Lib.hid he
  have HP := Lib.hid (planParse_any [114, 48, 32, 110, 49] w he (by decide))
  have HC := Lib.hid (fun W A cap (h : RowC W A (List.flatMap cellsK [⟨1, 0⟩, ⟨4, 1⟩])) (h1 : 2 ≤ cap) (h2 : cap ≤ 9223372036854775807) (D : Option Addr) (dc : Nat) => show Calls Tryd.prog 16 #[.slice D 2 dc, .slice A 2 cap] W fun e w' => e = .returned (.int .i64 0) ∧ Fr (fun _ => False) W w' from planCheck_any 2 D dc [⟨1, 0⟩, ⟨4, 1⟩] A cap W h h1 h2 (by decide))
  have HN := Lib.hid (fun W => show Calls Tryd.prog 16 #[.slice none 0 0, .slice none 0 0] W fun e w' => e = .returned (.int .i64 1) ∧ Fr (fun _ => False) W w' from planCheck_any 0 none 0 [] none 0 W (.inl rfl) (Nat.le_refl _) (by decide) (by decide))
  have HT := Lib.hid (fun W g (hW : Fr (fun _ => False) w W) (h : Blk W g 43 #[.int .i64 5, .int .i64 0]) => show Calls Tryd.prog 10 #[.slice (some ⟨g, 0, none⟩) 1 1] W fun e w' => e = .returned (str [101]) ∧ Fr (fun _ => False) W w' from planText_any [⟨5, 0⟩] (some ⟨g, 0, none⟩) 1 W (he.fr hW) (RowC.blk h) (Nat.le_refl _) (by decide) (by decide) (by simp [inI]))
  clear he
  go_enter Tryd.func9, Tryd.ntmps9
  go_wp2_with fail
  refine HP.out.mono ?_
  rintro e w1 ⟨A, cap, p, er, rfl, h1, h2, h3, h4, h5⟩
  rw [awp] at h4
  rcases h4 with ⟨h4, rfl⟩ | ⟨h4, _, _⟩
  · obtain rfl := Option.some.inj h4
    obtain ⟨b, o, rfl, hbw, d0, d1⟩ := rowK_at h3 (show ([⟨1, 0⟩, ⟨4, 1⟩] : List Coln)[1]? = some ⟨4, 1⟩ from rfl)
    obtain ⟨w2, hmk, hf2⟩ := make_desc 2 (by decide) w1
    have hmk2 : (Instr.makeSlice 40 (.int .i64 2) (.int .i64 2)).run Tryd.prog w1 = .ok (.slice (some ⟨w1.heap.size, 0, none⟩) 2 2) w2 := hmk
    have hcap : 2 ≤ cap := h1
    have H1 := Lib.hid (And.intro h1 (And.intro h2 (And.intro h3 h5)))
    have H2 := Lib.hid hf2
    have D0 := Lib.hid d0
    have D1 := Lib.hid d1
    clear h1 h2 h3 h4 h5 hmk hf2 d0 d1
    go_wp2_with fail
    refine (HC.out _ _ _ (H1.out.2.2.1.fr H2.out) H1.out.1 (by have := H1.out.2.1; unfold maxLen at this; exact this) _ _).mono ?_
    rintro e w3 ⟨rfl, hf3⟩
    have H3 := Lib.hid (fr_two (fr_two H1.out.2.2.2 H2.out) hf3)
    have d0 := cell_fr D0.out (fr_two H2.out hf3)
    have d1 := cell_fr D1.out (fr_two H2.out hf3)
    have hcap' : (2 : Int) ≤ cap := by omega
    clear hmk2 hf3
    go_wp2_with fail
    refine (HN.out _).mono ?_
    rintro e w4 ⟨rfl, hf4⟩
    have H4 := Lib.hid (fr_two H3.out hf4)
    clear hf4 d0 d1
    go_wp2_with fail
    refine (HT.out _ _ (H4.out.alloc _) (Blk.new _ _ _)).mono ?_
    rintro e w5 ⟨rfl, hf5⟩
    have H5 := Lib.hid (fr_two (H4.out.alloc _) hf5)
    clear hf5
    go_wp2
    go_ret
    exact ⟨rfl, H5.out⟩
  · cases h4
end Go.Proofs.YtibailpbjdfjfaaDoor
