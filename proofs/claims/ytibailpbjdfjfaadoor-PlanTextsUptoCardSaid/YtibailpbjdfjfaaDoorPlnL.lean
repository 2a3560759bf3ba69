/-
  A plan made of numbers: the walk of Tame.
-/
import Derived.Test.YtibailpbjdfjfaaDoorPlnI
import Derived.Test.YtibailpbjdfjfaaDoorMasks
namespace Go.Viv
open Go.Lib Go.RowKit
/-- The bits of what is used. -/
def Used (U : Int) (ds : List Coln) : Prop := ∀ j : Nat, j < 64 → ((BitVec.ofInt 64 U).getLsbD j = true ↔ ∃ x ∈ ds, x.c = j)
theorem Used.nil : Used 0 [] := by
  intro j _
  simp
theorem Used.add {U : Int} {ds : List Coln} (h : Used U ds) {c : Nat} (hc : c < 64) (k : Int) : Used (bits .or .i64 U (wrap64 (2 ^ c))) (ds ++ [⟨k, (c : Int)⟩]) := by
  intro j hj
  have e64 : wrap64 (2 ^ c) = IntKind.i64.wrap (2 ^ c) := (IntWalk.i64_left _).symm
  rw [e64, bits_or, BitVec.getLsbD_or, bit_pow c j hc, Bool.or_eq_true, h j hj, decide_eq_true_eq]
  constructor
  · rintro (⟨x, hx, e⟩ | e)
    · exact ⟨x, by simp [hx], e⟩
    · exact ⟨⟨k, (c : Int)⟩, by simp, by simp [e]⟩
  · rintro ⟨x, hx, e⟩
    rcases List.mem_append.1 hx with hx | hx
    · exact .inl ⟨x, hx, e⟩
    · rw [List.mem_singleton.1 hx] at e
      simp at e
      exact .inr (by omega)
def kindX (r : Nat) : Int := if r = 0 then 1 else if r = 1 then 2 else if r = 2 then 3 else if r = 3 then 4 else if r = 4 then 1 else 2
theorem rwB_any (ds : List Coln) (y : Coln) : (ds ++ [y]).any rwB = (ds.any rwB || rwB y) := by simp
end Go.Viv
namespace Go.Proofs.YtibailpbjdfjfaaDoor
open Go.RowKit Go.Viv
attribute [local go_sem ↓] wp_appendV
/-- What Tame answers. -/
def TameA (m : Nat) (w : World) (e : Ending) (w' : World) : Prop := ∃ A cap p, e = .returned (.slice A p.length cap) ∧ Tame17 m p ∧ p.length ≤ cap ∧ cap ≤ maxLen ∧ RowC w' A (p.flatMap cellsK) ∧ Fr (fun _ => False) w w'
set_option maxRecDepth 100000 in
set_option maxHeartbeats 2000000 in
theorem tame_any (l : List Int) (A : Option Addr) (cap : Nat) (m : Nat) (w : World) (hr : RowC w A (ints l)) (_hn : l.length ≤ cap) (_hc : cap ≤ 9223372036854775807) (hm : m ≤ 1000) (hm0 : 0 < m) (K : Nat) (hK : K = min m 64) :
    Calls Tryd.prog 12 #[.slice A l.length cap, .int .i64 m] w (TameA m w) := by
  have HR := Lib.hid hr
  obtain ⟨n, hnl⟩ : ∃ n, l.length = n := ⟨_, rfl⟩
  have HN := Lib.hid hnl
  rw [hnl] at _hn ⊢
  have hK0 : 0 < K := by omega
  have hK64 : K ≤ 64 := by omega
  have hKm : K ≤ m := by omega
  have hmin : min (m : Int) 64 = K := by omega
  have hm0b : ((m : Int) == 0) = false := beq_eq_false_iff_ne.2 (by omega)
  have HKK := Lib.hid hK
  clear hr hnl hK
  go_enter Tryd.func12, Tryd.ntmps12
  go_wp2_with fail
  go_loopw [5, 6, 7, 8, 9, 10, 11] (fun v u s t _ _ _ wr => ∃ (k : Nat) (ds : List Coln) (U : Int), k ≤ n ∧ k ≤ 6 ∧ t = .int .i64 k ∧ u = .int .i64 U ∧ s = .bool (ds.any rwB) ∧ TameAt m k ds ∧ Used U ds ∧ wr.ownsRow w.heap.size 43 2 v ds.length (ds.flatMap cellsK) ∧ Fr (fun _ => False) w wr) (fun _ _ _ t _ _ _ _ => n - (intOf t).toNat)
  case atStart => exact ⟨0, [], 0, by omega, by omega, rfl, rfl, rfl, TameAt.nil _, Used.nil, World.ownsRow_nil _ _ _ _, Fr.refl _ _⟩
  case round =>
    obtain ⟨k, ds, U, hk, hk6, rfl, rfl, rfl, hat, hu, hown, hfr⟩ := hrel
    by_cases hlt : k < n ∧ k < 6
    · obtain ⟨h1, h2⟩ := hlt
      have h2' : (k : Int) < 6 := by omega
      obtain ⟨x, hx⟩ : ∃ x, l[k]? = some x := ⟨_, List.getElem?_eq_getElem (by rw [HN.out]; exact h1)⟩
      obtain ⟨b, o, rfl, hbw, d0⟩ := rowN_at (HR.out.fr hfr) hx
      obtain ⟨X, hX, hXlt⟩ := mask_nat x 65535 16 (by decide) (by decide)
      obtain ⟨R, hR7, hRlt⟩ : ∃ R : Nat, (X : Int) % 7 = R ∧ R < 7 := ⟨X % 7, by omega, by omega⟩
      obtain ⟨c, hcc, hclt⟩ : ∃ c : Nat, (X : Int) / 8 % (K : Int) = c ∧ c < K := ⟨X / 8 % K, by simp, Nat.mod_lt _ hK0⟩
      have hdl := hat.len
      have HX := Lib.hid (And.intro hat (And.intro hu (And.intro hown hfr)))
      clear hx hat hu hown hfr
      by_cases h6 : R = 6
      · subst h6
        have hR6 : ((X : Int) % 7 == 6) = true := by rw [hR7]; rfl
        go_wp2
        go_roundw
        case rel => exact ⟨k + 1, ds, U, by omega, by omega, by go_num, rfl, rfl, HX.out.1.more, HX.out.2.1, HX.out.2.2.1, HX.out.2.2.2⟩
        case measure => simp [intOf]; omega
      · have hR6 : ((X : Int) % 7 == 6) = false := by rw [hR7]; exact beq_eq_false_iff_ne.2 (by omega)
        have hbit : ((bits .and .i64 (U / 2 ^ c) 1 == 1) = true) ↔ ∃ x ∈ ds, x.c = c := by
          rw [beq_iff_eq, i64_mask _ 1 1 (by decide) (by decide), ← HX.out.2.1 c (by omega), ← bit_fdiv U c (by omega), Int.fdiv_eq_ediv_of_nonneg _ (Int.le_of_lt (Int.pow_pos (by decide)))]
          rfl
        have HB := Lib.hid hbit
        obtain ⟨bt, hbt⟩ : ∃ bt, (bits .and .i64 (U / 2 ^ c) 1 == 1) = bt := ⟨_, rfl⟩
        rw [hbt] at HB
        clear hbit
        cases bt with
        | true =>
          go_wp2
          go_roundw
          case rel => exact ⟨k + 1, ds, U, by omega, by omega, by go_num, rfl, rfl, HX.out.1.more, HX.out.2.1, HX.out.2.2.1, HX.out.2.2.2⟩
          case measure => simp [intOf]; omega
        | false =>
          have hno : ∀ x ∈ ds, x.c ≠ (c : Int) := fun x hx e => by
            have := HB.out.2 ⟨x, hx, e⟩
            cases this
          have HD := Lib.hid (And.intro hdl hno)
          have hRR : R = 0 ∨ R = 1 ∨ R = 2 ∨ R = 3 ∨ R = 4 ∨ R = 5 := by omega
          have key : ∀ kx : Int, 1 ≤ kx → kx ≤ 4 → ∃ v2 w3, appendV Tryd.prog 29 29 u5 (.slice (some ⟨wr.heap.size + 1, 0, none⟩) 1 1) ((wr.alloc (.cells #[.int .i64 1, .int .i64 2, .int .i64 3, .int .i64 4, .int .i64 1, .int .i64 2] 3)).alloc (.cells #[.int .i64 kx, .int .i64 (c : Int)] 43)) = .ok v2 w3 ∧ TameAt m (k + 1) (ds ++ [⟨kx, (c : Int)⟩]) ∧ w3.ownsRow w.heap.size 43 2 v2 (ds ++ [(⟨kx, (c : Int)⟩ : Coln)]).length ((ds ++ [(⟨kx, (c : Int)⟩ : Coln)]).flatMap cellsK) ∧ Fr (fun _ => False) w w3 := by
            intro kx k1 k4
            obtain ⟨v2, w3, happ, hown3, hfr3⟩ := app_one (P := Tryd.prog) (T := 29) Tryd.underlying29 infoCol rfl (by omega) ((HX.out.2.2.1.alloc (.cells #[.int .i64 1, .int .i64 2, .int .i64 3, .int .i64 4, .int .i64 1, .int .i64 2] 3)).alloc (.cells #[.int .i64 kx, .int .i64 (c : Int)] 43)) (Blk.new _ 43 #[.int .i64 kx, .int .i64 (c : Int)]) rfl (by simp [Value.oneCell']) (by unfold maxLen; have := HD.out.1; omega) (by have := HD.out.1; omega) (by have := HX.out.2.2.2.size; simp; omega)
            rw [show (wr.alloc (.cells #[.int .i64 1, .int .i64 2, .int .i64 3, .int .i64 4, .int .i64 1, .int .i64 2] 3)).heap.size = wr.heap.size + 1 from by simp] at happ
            exact ⟨v2, w3, happ, HX.out.1.snoc ⟨k1, k4, by simp, by simp; omega, by simp; omega⟩ HD.out.2, by rw [flatK_snoc, List.length_append]; exact hown3, hfr3 w ((HX.out.2.2.2.alloc _).alloc _) (Nat.le_refl _)⟩
          have HKY := Lib.hid key
          have HU := Lib.hid (fun kx : Int => HX.out.2.1.add (c := c) (by omega) kx)
          have HS := Lib.hid (fun y => rwB_any ds y)
          obtain ⟨s, hs⟩ : ∃ s, ds.any rwB = s := ⟨_, rfl⟩
          rw [hs] at HS ⊢
          clear key hno hs HB
          rcases hRR with rfl | rfl | rfl | rfl | rfl | rfl
          · obtain ⟨v2, w3, happ, hk3⟩ := HKY.out 1 (by decide) (by decide)
            have H3 := Lib.hid hk3
            clear hk3
            cases s
            all_goals
              go_wp2
              go_roundw
              case rel => exact ⟨k + 1, ds ++ [⟨1, (c : Int)⟩], _, by omega, by omega, by go_num, rfl, by rw [HS.out]; rfl, H3.out.1, HU.out 1, H3.out.2.1, H3.out.2.2⟩
              case measure => simp [intOf]; omega
          · obtain ⟨v2, w3, happ, hk3⟩ := HKY.out 2 (by decide) (by decide)
            have H3 := Lib.hid hk3
            clear hk3
            cases s
            all_goals
              go_wp2
              go_roundw
              case rel => exact ⟨k + 1, ds ++ [⟨2, (c : Int)⟩], _, by omega, by omega, by go_num, rfl, by rw [HS.out]; rfl, H3.out.1, HU.out 2, H3.out.2.1, H3.out.2.2⟩
              case measure => simp [intOf]; omega
          · obtain ⟨v2, w3, happ, hk3⟩ := HKY.out 3 (by decide) (by decide)
            have H3 := Lib.hid hk3
            clear hk3
            cases s
            all_goals
              go_wp2
              go_roundw
              case rel => exact ⟨k + 1, ds ++ [⟨3, (c : Int)⟩], _, by omega, by omega, by go_num, rfl, by rw [HS.out]; rfl, H3.out.1, HU.out 3, H3.out.2.1, H3.out.2.2⟩
              case measure => simp [intOf]; omega
          · obtain ⟨v2, w3, happ, hk3⟩ := HKY.out 4 (by decide) (by decide)
            have H3 := Lib.hid hk3
            clear hk3
            cases s
            all_goals
              go_wp2
              go_roundw
              case rel => exact ⟨k + 1, ds ++ [⟨4, (c : Int)⟩], _, by omega, by omega, by go_num, rfl, by rw [HS.out]; rfl, H3.out.1, HU.out 4, H3.out.2.1, H3.out.2.2⟩
              case measure => simp [intOf]; omega
          · obtain ⟨v2, w3, happ, hk3⟩ := HKY.out 1 (by decide) (by decide)
            have H3 := Lib.hid hk3
            clear hk3
            cases s
            all_goals
              go_wp2
              go_roundw
              case rel => exact ⟨k + 1, ds ++ [⟨1, (c : Int)⟩], _, by omega, by omega, by go_num, rfl, by rw [HS.out]; rfl, H3.out.1, HU.out 1, H3.out.2.1, H3.out.2.2⟩
              case measure => simp [intOf]; omega
          · obtain ⟨v2, w3, happ, hk3⟩ := HKY.out 2 (by decide) (by decide)
            have H3 := Lib.hid hk3
            clear hk3
            cases s
            all_goals
              go_wp2
              go_roundw
              case rel => exact ⟨k + 1, ds ++ [⟨2, (c : Int)⟩], _, by omega, by omega, by go_num, rfl, by rw [HS.out]; rfl, H3.out.1, HU.out 2, H3.out.2.1, H3.out.2.2⟩
              case measure => simp [intOf]; omega
    · obtain ⟨s, hs⟩ : ∃ s, ds.any rwB = s := ⟨_, rfl⟩
      have hdl := hat.len
      cases s with
      | true =>
        obtain ⟨A2, cap2, rfl, g1, g2, g3⟩ := rowC_of_own hown
        have HX := Lib.hid (And.intro (hat.done hk6 hs) (And.intro g1 (And.intro g2 (And.intro g3 hfr))))
        rw [hs]
        clear hat hown hfr hu hs g1 g2 g3
        by_cases hkn : k < n
        · obtain rfl : k = 6 := by omega
          go_wp2
          go_ret
          exact ⟨A2, cap2, ds, rfl, HX.out.1, HX.out.2.1, HX.out.2.2.1, HX.out.2.2.2.1, HX.out.2.2.2.2⟩
        · obtain rfl : n = k := by omega
          go_wp2
          go_ret
          exact ⟨A2, cap2, ds, rfl, HX.out.1, HX.out.2.1, HX.out.2.2.1, HX.out.2.2.2.1, HX.out.2.2.2.2⟩
      | false =>
        obtain ⟨v2, w3, happ, hown3, hfr3⟩ := app_one (P := Tryd.prog) (T := 29) Tryd.underlying29 infoCol rfl (by omega) (hown.alloc (.cells #[.int .i64 5, .int .i64 0] 43)) (Blk.new wr 43 #[.int .i64 5, .int .i64 0]) rfl (by simp [Value.oneCell']) (by unfold maxLen; omega) (by omega) (by have := hfr.size; simp; omega)
        obtain ⟨A2, cap2, rfl, g1, g2, g3⟩ := rowC_of_own hown3
        have HX := Lib.hid (And.intro (hat.ent hk6) (And.intro g1 (And.intro g2 (And.intro (show RowC w3 A2 ((ds ++ [(⟨5, 0⟩ : Coln)]).flatMap cellsK) from by rw [flatK_snoc]; exact g3) (hfr3 w (hfr.alloc _) (Nat.le_refl _))))))
        have HL := Lib.hid (show (ds ++ [(⟨5, 0⟩ : Coln)]).length = ds.length + 1 from by simp)
        rw [hs]
        clear hat hown hfr hu hs g1 g2 g3 hown3 hfr3
        by_cases hkn : k < n
        · obtain rfl : k = 6 := by omega
          go_wp2
          go_ret
          exact ⟨A2, cap2, ds ++ [⟨5, 0⟩], by rw [HL.out]; rfl, HX.out.1, by rw [HL.out]; exact HX.out.2.1, HX.out.2.2.1, HX.out.2.2.2.1, HX.out.2.2.2.2⟩
        · obtain rfl : n = k := by omega
          go_wp2
          go_ret
          exact ⟨A2, cap2, ds ++ [⟨5, 0⟩], by rw [HL.out]; rfl, HX.out.1, by rw [HL.out]; exact HX.out.2.1, HX.out.2.2.1, HX.out.2.2.2.1, HX.out.2.2.2.2⟩
end Go.Proofs.YtibailpbjdfjfaaDoor
