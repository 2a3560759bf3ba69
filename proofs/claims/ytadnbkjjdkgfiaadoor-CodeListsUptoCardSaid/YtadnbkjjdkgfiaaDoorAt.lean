/-
  Contracts of the references' rising rows: At, With, Same.
-/
import Derived.Test.YtadnbkjjdkgfiaaDoorKit
namespace Go.Proofs.YtadnbkjjdkgfiaaDoor
open Go.RowKit Go.Viv
attribute [local go_sem ↓] wp_appendV
theorem infoInt : (Tryd.prog.info? 3).map (fun i => (i.zero, i.size, i.bytes)) = some (some (.int .i64 0), 1, 8) := by kernel_rfl

set_option maxRecDepth 100000 in
set_option maxHeartbeats 1000000 in
theorem at_any (l : List Int) (i : Int) (A : Option Addr) (cap : Nat) (w : World) (hr : RowC w A (ints l)) (hs : Rises l) (_hn : l.length ≤ cap) (_hc : cap ≤ 9223372036854775807) (hB : l.length ≤ 4611686018427387903) :
    Calls Tryd.prog 62 #[.slice A l.length cap, .int .i64 i] w fun e w' => e = .returned (.tuple #[.int .i64 (posS i l), .bool (decide (l[posS i l]? = some i))]) ∧ Fr (fun _ => False) w w' := by
  have HR := Lib.hid hr
  have HS := Lib.hid hs
  have HP := Lib.hid (posS_le i l)
  obtain ⟨n, hnl⟩ : ∃ n, l.length = n := ⟨_, rfl⟩
  have HN := Lib.hid hnl
  obtain ⟨p, hp⟩ : ∃ p, posS i l = p := ⟨_, rfl⟩
  have HQ := Lib.hid hp
  rw [hnl] at _hn hB HP ⊢
  rw [hp] at HP ⊢
  obtain ⟨R, hR⟩ : ∃ R, decide (l[p]? = some i) = R := ⟨_, rfl⟩
  rw [hR]
  have HRR := Lib.hid hR
  clear hr hs hnl hp hR
  go_enter Tryd.func62, Tryd.ntmps62
  go_wp2_with fail
  go_loop [6, 7, 8] (fun a b _ => ∃ lo hi : Nat, a = .int .i64 lo ∧ b = .int .i64 hi ∧ lo ≤ p ∧ p ≤ hi ∧ hi ≤ n) (fun a b _ => (intOf b).toNat - (intOf a).toNat)
  case atStart => exact ⟨0, n, rfl, rfl, Nat.zero_le _, HP.out, Nat.le_refl _⟩
  case round =>
    obtain ⟨lo, hi, rfl, rfl, h1, h2, h3⟩ := hrel
    by_cases hlt : lo < hi
    · have hm : (lo + hi) / 2 < n := by omega
      obtain ⟨x, hx⟩ : ∃ x, l[(lo + hi) / 2]? = some x := ⟨_, List.getElem?_eq_getElem (by rw [HN.out]; exact hm)⟩
      obtain ⟨b, o, rfl, hbw, d0⟩ := rowN_at HR.out hx
      have HX := Lib.hid (posS_lt HS.out hx (i := i))
      clear hx
      obtain ⟨m, hmm⟩ : ∃ m, (lo + hi) / 2 = m := ⟨_, rfl⟩
      have hm2 : ((lo : Int) + (hi : Int)) / 2 = (m : Int) := by omega
      rw [hmm] at d0 hm HX
      have g1 : lo ≤ m := by omega
      have g2 : m < hi := by omega
      clear hmm
      by_cases hxi : x < i
      · have hmp : m < p := by rw [← HQ.out]; exact HX.out.1 hxi
        go_wp2
        go_round
        case rel => exact ⟨m + 1, hi, by go_num, rfl, by omega, h2, h3⟩
        case measure => simp [intOf]; omega
      · have hmp : ¬ m < p := by rw [← HQ.out]; exact fun h => hxi (HX.out.2 h)
        go_wp2
        go_round
        case rel => exact ⟨lo, m, rfl, by go_num, h1, by omega, by omega⟩
        case measure => simp [intOf]; omega
    · obtain rfl : lo = p := by omega
      obtain rfl : hi = lo := by omega
      by_cases hpn : hi < n
      · obtain ⟨x, hx⟩ : ∃ x, l[hi]? = some x := ⟨_, List.getElem?_eq_getElem (by rw [HN.out]; exact hpn)⟩
        obtain ⟨b, o, rfl, hbw, d0⟩ := rowN_at HR.out hx
        have e : R = (x == i) := by rw [← HRR.out, hx, Bool.eq_iff_iff]; simp
        subst e
        clear hx h1 h2 h3
        have hp' : decide (hi < n) = true := by simpa using hpn
        go_wp2_with fail
        go_quiet (fail)
        go_wp2
        exact bodyPost_ret (v := .tuple #[.int .i64 hi, .bool (x == i)]) (by simp [results, Tryd.results62, go_sem]) rfl ⟨rfl, by first | exact Fr.refl _ _ | exact (Fr.refl _ _).drewN _⟩
      · obtain rfl : n = hi := by omega
        have hx : l[n]? = none := List.getElem?_eq_none (by rw [HN.out]; exact Nat.le_refl _)
        have e : R = false := by rw [← HRR.out, hx]; simp
        subst e
        clear hx h1 h2 h3
        have hp' : decide (n < n) = false := by simp
        go_wp2_with fail
        go_quiet (fail)
        go_wp2
        exact bodyPost_ret (v := .tuple #[.int .i64 n, .bool false]) (by simp [results, Tryd.results62, go_sem]) rfl ⟨rfl, by first | exact Fr.refl _ _ | exact (Fr.refl _ _).drewN _⟩

/-- A slice of whole numbers that reads as a list. -/
structure Sl (w : World) (A : Option Addr) (n cap : Nat) (l : List Int) : Prop where
  len : l.length = n
  row : RowC w A (ints l)
  mid : ∀ a, A = some a → ∃ b o, a = ⟨b, o, none⟩
  nil : A = none → n = 0 ∧ cap = 0
  le : n ≤ cap
  cap : cap ≤ 9223372036854775807
theorem Sl.fr {w w' : World} {A : Option Addr} {n cap : Nat} {l : List Int} (h : Sl w A n cap l) (hf : Fr (fun _ => False) w w') : Sl w' A n cap l := ⟨h.len, h.row.fr hf, h.mid, h.nil, h.le, h.cap⟩
theorem Sl.of_own {w : World} {base n : Nat} {v : Value} {l : List Int} (h : w.ownsRow base 3 1 v n (ints l)) : ∃ A cap, v = .slice A n cap ∧ Sl w A n cap l := by
  have hl : l.length = n := by have := h.1; rw [ints_len] at this; omega
  obtain ⟨A, cap, rfl, h1, h2, h3⟩ := rowC_of_own h
  refine ⟨A, cap, rfl, hl, h3, fun a ha => ?_, fun ha => ?_, h1, h2⟩
  · rcases h.2 with ⟨hv, _⟩ | ⟨g, cap, cur, hv, _⟩
    · injection hv with hv; rw [ha] at hv; cases hv
    · injection hv with hv; rw [ha] at hv; injection hv with hv; exact ⟨g, 0, hv⟩
  · rcases h.2 with ⟨hv, h0⟩ | ⟨g, cap, cur, hv, _⟩
    · injection hv with _ _ hv; exact ⟨h0, hv⟩
    · injection hv with hv; rw [ha] at hv; cases hv
theorem own_empty (w : World) : (w.alloc (.cells #[] 3)).ownsRow w.heap.size 3 1 (.slice (some ⟨w.heap.size, 0, none⟩) 0 0) 0 (ints []) :=
  ⟨rfl, .inr ⟨w.heap.size, 0, #[], rfl, Nat.le_refl _, Blk.new w 3 #[], Nat.le_refl _, Nat.zero_le _, rfl, rfl⟩⟩

set_option maxRecDepth 100000 in
set_option maxHeartbeats 1000000 in
theorem with_any (l : List Int) (i : Int) (A : Option Addr) (n cap : Nat) (w : World) (hr : Sl w A n cap l) (hs : Rises l) (hB : n ≤ 1000000000) :
    Calls Tryd.prog 35 #[.slice A n cap, .int .i64 i] w fun e w' => ∃ A' n' cap', e = .returned (.slice A' n' cap') ∧ Sl w' A' n' cap' (insS i l) ∧ Fr (fun _ => False) w w' := by
  obtain ⟨p, hp⟩ : ∃ p, posS i l = p := ⟨_, rfl⟩
  obtain ⟨R, hR⟩ : ∃ R, decide (l[p]? = some i) = R := ⟨_, rfl⟩
  have hpl : p ≤ n := by rw [← hr.len, ← hp]; exact posS_le i l
  have HA := Lib.hid (fun (W : World) (hW : RowC W A (ints l)) => show Calls Tryd.prog 62 #[.slice A n cap, .int .i64 i] W fun e w' => e = .returned (.tuple #[.int .i64 p, .bool R]) ∧ Fr (fun _ => False) W w' from by
    have := at_any l i A cap W hW hs (by rw [hr.len]; exact hr.le) hr.cap (by rw [hr.len]; omega)
    rw [hr.len, hp, hR] at this
    exact this)
  have HR := Lib.hid hr
  have HP := Lib.hid (And.intro hp hR)
  have hle := hr.le
  have hcp := hr.cap
  clear hr hs hp hR
  cases R with
  | true =>
    go_enter Tryd.func35, Tryd.ntmps35
    go_wp2_with (go_at_call 62; refine (HA.out _ HR.out.row).mono ?_; rintro e w1 ⟨rfl, hf1⟩; have H1 := Lib.hid hf1; clear hf1)
    go_ret
    refine ⟨A, n, cap, rfl, ?_, H1.out⟩
    rw [insS_there (by rw [HP.out.1]; exact of_decide_eq_true HP.out.2)]
    exact HR.out.fr H1.out
  | false =>
    have HI := Lib.hid (insS_new (i := i) (l := l) (by rw [HP.out.1]; exact of_decide_eq_false HP.out.2))
    rw [HP.out.1] at HI
    go_enter Tryd.func35, Tryd.ntmps35
    go_wp2_with fail
    refine (HA.out _ HR.out.row).mono ?_
    rintro e w1 ⟨rfl, hf1⟩
    have hr1 := HR.out.fr hf1
    obtain ⟨v1, wA, happ1, hown1, hfr1⟩ := app_any (P := Tryd.prog) (T := 55) Tryd.underlying55 infoInt rfl (by omega) (own_empty w1) (A := A) (m := p) (c := cap) (news := ints (l.take p)) (by
      have := (hr1.row.take p).fr ((Fr.refl _ w1).alloc (.cells #[] 3))
      rw [ints, List.map_take]; exact this) hr1.mid (by rw [ints_len, List.length_take, hr1.len]; omega) (ints_one _) (by unfold maxLen; omega) (by omega) (by simp)
    have hfA := hfr1 w1 (Fr.alloc1 _ _ _) (Nat.le_refl _)
    obtain ⟨v2, wB, happ2, hown2, hfr2⟩ := app_one (P := Tryd.prog) (T := 55) Tryd.underlying55 infoInt rfl (by omega) (hown1.alloc (.cells #[.int .i64 i] 3)) (Blk.new wA 3 #[.int .i64 i]) rfl (by simp [Value.oneCell']) (by unfold maxLen; omega) (by omega) (by have := hfA.size; simp; omega)
    have hfB := hfr2 w1 (hfA.alloc _) (Nat.le_refl _)
    have key : ∀ (A3 : Option Addr) (m3 c3 : Nat), m3 = n - p → RowC wB A3 (ints (l.drop p)) → (∀ a, A3 = some a → ∃ b o, a = ⟨b, o, none⟩) → ∃ v3 wC, appendV Tryd.prog 55 55 v2 (.slice A3 m3 c3) wB = .ok v3 wC ∧ (∃ A' n' cap', v3 = .slice A' n' cap' ∧ Sl wC A' n' cap' (insS i l)) ∧ Fr (fun _ => False) w wC := by
      rintro A3 m3 c3 rfl h1 h2
      obtain ⟨v3, wC, happ3, hown3, hfr3⟩ := app_any (P := Tryd.prog) (T := 55) Tryd.underlying55 infoInt rfl (by omega) hown2 (A := A3) (m := n - p) (c := c3) (news := ints (l.drop p)) h1 h2 (by rw [ints_len, List.length_drop, hr1.len, Nat.mul_one]) (ints_one _) (by unfold maxLen; omega) (by omega) hfB.size
      rw [show ints [] ++ ints (l.take p) ++ (#[Value.int .i64 i] : Array Value).toList ++ ints (l.drop p) = ints (insS i l) by rw [HI.out]; simp [ints]] at hown3
      obtain ⟨A', cap', rfl, hsl⟩ := Sl.of_own hown3
      exact ⟨_, wC, happ3, ⟨A', _, cap', rfl, hsl⟩, fr_two hf1 (hfr3 w1 hfB (Nat.le_refl _))⟩
    have hrB := hr1.fr hfB
    have hp0 : 0 ≤ (p : Int) := by omega
    rcases A with _ | a
    · obtain ⟨rfl, rfl⟩ := hrB.nil rfl
      obtain rfl : p = 0 := by omega
      obtain ⟨v3, wC, happ3, hsl, hfC⟩ := key none 0 0 rfl (.inl (by rw [show l = [] from List.eq_nil_of_length_eq_zero hrB.len]; rfl)) (fun a h => by cases h)
      have HE := Lib.hid (And.intro hsl hfC)
      clear hsl hfC key hr1 hrB hf1 hown1 hfr1 hfA hown2 hfr2 hfB
      go_wp2
      go_ret
      obtain ⟨A', n', cap', rfl, h⟩ := HE.out.1
      exact ⟨A', n', cap', rfl, h, HE.out.2⟩
    · obtain ⟨b, o, rfl⟩ := hrB.mid a rfl
      by_cases hcp' : cap = p
      · obtain rfl : n = p := by omega
        obtain rfl : cap = n := hcp'
        obtain ⟨v3, wC, happ3, hsl, hfC⟩ := key (some ⟨b, o, none⟩) 0 0 (by omega) (.inl (by rw [List.drop_of_length_le (by rw [hrB.len]; omega)]; rfl)) hrB.mid
        have HE := Lib.hid (And.intro hsl hfC)
        clear hsl hfC key hr1 hrB hf1 hown1 hfr1 hfA hown2 hfr2 hfB
        go_wp2
        go_ret
        obtain ⟨A', n', cap', rfl, h⟩ := HE.out.1
        exact ⟨A', n', cap', rfl, h, HE.out.2⟩
      · obtain ⟨v3, wC, happ3, hsl, hfC⟩ := key (some ⟨b, o + p, none⟩) (n - p) (cap - p) rfl (by have := hrB.row.drop p; rw [ints, List.map_drop]; exact this) (fun a h => ⟨b, o + p, by injection h with h; exact h.symm⟩)
        have HE := Lib.hid (And.intro hsl hfC)
        clear hsl hfC key hr1 hrB hf1 hown1 hfr1 hfA hown2 hfr2 hfB
        go_wp2
        go_ret
        obtain ⟨A', n', cap', rfl, h⟩ := HE.out.1
        exact ⟨A', n', cap', rfl, h, HE.out.2⟩

set_option maxRecDepth 100000 in
set_option maxHeartbeats 1000000 in
theorem same_any (a b : List Int) (A B : Option Addr) (n m cap cap' : Nat) (w : World) (ha : Sl w A n cap a) (hb : Sl w B m cap' b) :
    Calls Tryd.prog 36 #[.slice A n cap, .slice B m cap'] w fun e w' => e = .returned (.bool (decide (a = b))) ∧ Fr (fun _ => False) w w' := by
  have HA := Lib.hid ha
  have HB := Lib.hid hb
  have hna : n ≤ 9223372036854775807 := Nat.le_trans ha.le ha.cap
  have hnb : m ≤ 9223372036854775807 := Nat.le_trans hb.le hb.cap
  obtain ⟨R, hR⟩ : ∃ R, decide (a = b) = R := ⟨_, rfl⟩
  rw [hR]
  have HRR := Lib.hid hR
  clear ha hb hR
  by_cases hnm : n = m
  · subst hnm
    go_enter Tryd.func36, Tryd.ntmps36
    go_wp2_with fail
    go_loopw [5] (fun t wr => ∃ k : Nat, k ≤ n ∧ t = .int .i64 k ∧ a.take k = b.take k ∧ Fr (fun _ => False) w wr) (fun t _ => n - (intOf t).toNat)
    case atStart => exact ⟨0, Nat.zero_le _, rfl, by simp, Fr.refl _ _⟩
    case round =>
      obtain ⟨k, hk, rfl, heq, hfr⟩ := hrel
      by_cases hlt : k < n
      · obtain ⟨x, hx⟩ : ∃ x, a[k]? = some x := ⟨_, List.getElem?_eq_getElem (by rw [HA.out.len]; exact hlt)⟩
        obtain ⟨y, hy⟩ : ∃ x, b[k]? = some x := ⟨_, List.getElem?_eq_getElem (by rw [HB.out.len]; exact hlt)⟩
        obtain ⟨b1, o1, rfl, hb1, d1⟩ := rowN_at (HA.out.fr hfr).row hx
        obtain ⟨b2, o2, rfl, hb2, d2⟩ := rowN_at (HB.out.fr hfr).row hy
        have HK := Lib.hid (And.intro heq (And.intro hfr (And.intro hx hy)))
        clear heq hfr hx hy
        by_cases hxy : x = y
        · have hq : (x != y) = false := by simpa using hxy
          have HXY := Lib.hid hxy
          clear hxy
          go_wp2_with fail
          go_quiet (fail)
          go_wp2
          go_roundw
          case rel =>
            refine ⟨k + 1, by omega, by go_num, ?_, by first | exact HK.out.2.1 | exact HK.out.2.1.drewN _⟩
            rw [List.take_add_one, List.take_add_one, HK.out.1, HK.out.2.2.1, HK.out.2.2.2, HXY.out]
          case measure => simp [intOf]; omega
        · have hq : (x != y) = true := by simpa using hxy
          have e : R = false := by
            rw [← HRR.out]
            refine decide_eq_false (fun h => hxy ?_)
            have h1 := HK.out.2.2.1
            rw [h, HK.out.2.2.2] at h1
            exact (Option.some.inj h1).symm
          subst e
          clear hxy
          go_wp2_with fail
          go_quiet (fail)
          go_wp2
          go_ret
          exact ⟨rfl, by first | exact HK.out.2.1 | exact HK.out.2.1.drewN _⟩
      · obtain rfl : n = k := by omega
        have e : R = true := by
          rw [← HRR.out]
          refine decide_eq_true ?_
          have h1 := heq
          rw [List.take_of_length_le (by rw [HA.out.len]; exact Nat.le_refl _), List.take_of_length_le (by rw [HB.out.len]; exact Nat.le_refl _)] at h1
          exact h1
        subst e
        have HK := Lib.hid hfr
        clear heq hfr
        go_wp2
        go_ret
        exact ⟨rfl, HK.out⟩
  · have e : R = false := by
      rw [← HRR.out]
      refine decide_eq_false (fun h => hnm ?_)
      rw [← HA.out.len, ← HB.out.len, h]
    subst e
    have hq : ((n : Int) != (m : Int)) = true := by simpa using fun h => hnm (by omega)
    go_enter Tryd.func36, Tryd.ntmps36
    go_wp2
    go_ret
    exact ⟨rfl, Fr.refl _ _⟩
end Go.Proofs.YtadnbkjjdkgfiaaDoor
