/-
  A plan made of numbers, where there is no component.
-/
import Derived.Test.YtibailpbjdfjfaaDoorPlnL
namespace Go.Proofs.YtibailpbjdfjfaaDoor
open Go.RowKit Go.Viv
attribute [local go_sem ↓] wp_appendV
set_option maxRecDepth 100000 in
set_option maxHeartbeats 2000000 in
theorem tame_none (l : List Int) (A : Option Addr) (cap : Nat) (w : World) (hr : RowC w A (ints l)) (_hn : l.length ≤ cap) (_hc : cap ≤ 9223372036854775807) :
    Calls Tryd.prog 12 #[.slice A l.length cap, .int .i64 0] w (TameA 0 w) := by
  have HR := Lib.hid hr
  obtain ⟨n, hnl⟩ : ∃ n, l.length = n := ⟨_, rfl⟩
  have HN := Lib.hid hnl
  rw [hnl] at _hn ⊢
  clear hr hnl
  go_enter Tryd.func12, Tryd.ntmps12
  go_wp2_with fail
  go_loop [5, 6, 7, 8, 9, 10, 11] (fun v u s t _ _ _ => ∃ (k : Nat), k ≤ n ∧ k ≤ 6 ∧ t = .int .i64 k ∧ v = .slice none 0 0 ∧ u = .int .i64 0 ∧ s = .bool false) (fun _ _ _ t _ _ _ => n - (intOf t).toNat)
  case atStart => exact ⟨0, by omega, by omega, rfl, rfl, rfl, rfl⟩
  case round =>
    obtain ⟨k, hk, hk6, rfl, rfl, rfl, rfl⟩ := hrel
    by_cases hlt : k < n ∧ k < 6
    · obtain ⟨h1, h2⟩ := hlt
      have h2' : (k : Int) < 6 := by omega
      obtain ⟨x, hx⟩ : ∃ x, l[k]? = some x := ⟨_, List.getElem?_eq_getElem (by rw [HN.out]; exact h1)⟩
      obtain ⟨b, o, rfl, hbw, d0⟩ := rowN_at HR.out hx
      obtain ⟨X, hX, hXlt⟩ := mask_nat x 65535 16 (by decide) (by decide)
      clear hx
      go_wp2
      go_round
      case rel => exact ⟨k + 1, by omega, by omega, by go_num, rfl, rfl, rfl⟩
      case measure => simp [intOf]; omega
    · obtain ⟨v2, w3, happ, hown3, hfr3⟩ := app_one (P := Tryd.prog) (T := 29) Tryd.underlying29 infoCol rfl (by omega) ((World.ownsRow_nil w w.heap.size 43 2).alloc (.cells #[.int .i64 5, .int .i64 0] 43)) (Blk.new w 43 #[.int .i64 5, .int .i64 0]) rfl (by simp [Value.oneCell']) (by unfold maxLen; omega) (by omega) (by simp)
      obtain ⟨A2, cap2, rfl, g1, g2, g3⟩ := rowC_of_own hown3
      have HX := Lib.hid (And.intro g1 (And.intro g2 (And.intro g3 (hfr3 w (Fr.alloc1 _ _ _) (Nat.le_refl _)))))
      clear g1 g2 g3 hown3 hfr3
      by_cases hkn : k < n
      · obtain rfl : k = 6 := by omega
        go_wp2
        go_ret
        exact ⟨A2, cap2, [⟨5, 0⟩], rfl, (TameAt.nil 0).ent (by decide), HX.out.1, HX.out.2.1, HX.out.2.2.1, HX.out.2.2.2⟩
      · obtain rfl : n = k := by omega
        go_wp2
        go_ret
        exact ⟨A2, cap2, [⟨5, 0⟩], rfl, (TameAt.nil 0).ent (by decide), HX.out.1, HX.out.2.1, HX.out.2.2.1, HX.out.2.2.2⟩
theorem tame17_any (l : List Int) (A : Option Addr) (cap : Nat) (m : Nat) (w : World) (hr : RowC w A (ints l)) (hn : l.length ≤ cap) (hc : cap ≤ 9223372036854775807) (hm : m ≤ 1000) : Calls Tryd.prog 12 #[.slice A l.length cap, .int .i64 m] w (TameA m w) := by
  rcases Nat.eq_zero_or_pos m with rfl | h0
  · exact tame_none l A cap w hr hn hc
  · exact tame_any l A cap m w hr hn hc hm h0 _ rfl
end Go.Proofs.YtibailpbjdfjfaaDoor
