/-
  The document's Text and Parse of values.
-/
import Derived.Test.YtadnbkjjdkgfiaaDoorValTB
import Derived.Test.YtadnbkjjdkgfiaaDoorValSum
import Derived.Test.YtadnbkjjdkgfiaaDoorMixFr
namespace Go.Proofs.YtadnbkjjdkgfiaaDoor
open Go.RowKit Go.Viv

theorem digits_fr (n : Int) (w : World) (hn : inI n) : Calls Tryd.prog 46 #[.int .i64 n] w fun e w' => e = .returned (str (Lib.itoa n)) ∧ Fr (fun _ => False) w w' :=
  (digits_any n w hn).mono fun _ _ ⟨h1, h2⟩ => ⟨h1, h2 ▸ Fr.refl _ _⟩

set_option maxRecDepth 100000 in
set_option maxHeartbeats 1000000 in
theorem reftext_any (v : Val) (w : World) (hv : inV v) : Calls Tryd.prog 23 #[v.agg] w fun e w' => e = .returned (str (textV v)) ∧ Fr (fun _ => False) w w' := by
  have HV := Lib.hid hv
  clear hv
  obtain ⟨b, hb⟩ : ∃ b, okV v = b := ⟨_, rfl⟩
  have HO := Lib.hid hb
  cases b with
  | false =>
    rw [text_off hb]
    clear hb
    go_enter Tryd.func23, Tryd.ntmps23
    go_wp2_with (go_at_call 22; refine (refok_any v _).mono ?_; rintro e w1 ⟨rfl, rfl⟩; rw [HO.out])
    go_ret
    exact ⟨rfl, (Fr.alloc1 _ _ _).alloc _⟩
  | true =>
    have ht : textV v = if v.k = 1 then Lib.itoa v.a else if v.k = 2 then Lib.itoa v.a ++ 44 :: Lib.itoa v.b else [42] := by unfold textV; rw [if_pos hb]
    rw [ht]
    clear hb ht
    by_cases h1 : v.k = 1
    · have hk : (v.k == 1) = true := by simpa using h1
      rw [if_pos h1]
      clear h1
      go_enter Tryd.func23, Tryd.ntmps23
      go_wp2_with (first
        | (go_at_call 22; refine (refok_any v _).mono ?_; rintro e w1 ⟨rfl, rfl⟩; rw [HO.out])
        | (go_at_call 46; refine (digits_any v.a _ HV.out.1).mono ?_; rintro e w2 ⟨rfl, rfl⟩))
      go_ret
      exact ⟨rfl, (Fr.alloc1 _ _ _).alloc _⟩
    · have hk : (v.k == 1) = false := by simpa using h1
      rw [if_neg h1]
      clear h1
      by_cases h2 : v.k = 2
      · have hk2 : (v.k == 2) = true := by simpa using h2
        rw [if_pos h2]
        clear h2
        have la := itoa_len HV.out.1
        have lb := itoa_len HV.out.2
        obtain ⟨SA, hSA⟩ : ∃ l, Lib.itoa v.a = l := ⟨_, rfl⟩
        obtain ⟨SB, hSB⟩ : ∃ l, Lib.itoa v.b = l := ⟨_, rfl⟩
        have HA := Lib.hid (fun W => show Calls Tryd.prog 46 #[.int .i64 v.a] W fun e w' => e = .returned (str SA) ∧ Fr (fun _ => False) W w' from by rw [← hSA]; exact digits_fr v.a W HV.out.1)
        have HB := Lib.hid (fun W => show Calls Tryd.prog 46 #[.int .i64 v.b] W fun e w' => e = .returned (str SB) ∧ Fr (fun _ => False) W w' from by rw [← hSB]; exact digits_fr v.b W HV.out.2)
        rw [hSA] at la
        rw [hSB] at lb
        rw [hSA, hSB]
        have l1 : ¬ 9223372036854775807 < SA.length + 1 := by omega
        have l2 : ¬ 9223372036854775807 < SA.length + 1 + SB.length := by omega
        have l3 : SA.length + 1 ≤ 9223372036854775807 := by omega
        have l4 : SA.length + 1 + SB.length ≤ 9223372036854775807 := by omega
        clear hSA hSB
        go_enter Tryd.func23, Tryd.ntmps23
        go_wp2_with (go_at_call 22; refine (refok_any v _).mono ?_; rintro e w1 ⟨rfl, rfl⟩; rw [HO.out])
        have r := (Res.new w v.k v.a v.b).fr (Fr.alloc1 (fun _ => False) _ (.cells #[.int .i64 v.k, .int .i64 v.a, .int .i64 v.b] 24))
        obtain ⟨⟨c0, c1, c2⟩, -, lt⟩ := r.cells
        have k1 := cell_regrown c1
        have k2 := cell_regrown c2
        clear c0 c1 c2 r
        refine Mix.wp_region_mix [(0, true), (1, true), (4, true), (5, true), (2, false), (3, true), (6, false), (7, true), (8, true)] (by kernel_rfl) (by kernel_rfl) (by intro c d v a w h; cases d <;> exact h) ?_
        repeat (refine Mix.mix_read rfl rfl ?_; (first | go_big_quiet_step (fail) | quiet_step (fail)); refine wpQuiet_nil ?_)
        refine Mix.mix_does rfl ?_
        go_wp2_with fail
        refine (HA.out _).mono ?_
        rintro e w1 ⟨rfl, hf1⟩
        have H1 := Lib.hid (fr_two (Fr.drew (Fr.refl (fun _ => False) _)) hf1)
        clear hf1
        go_wp2_with fail
        refine behind H1.out ?_
        repeat (refine Mix.mix_read rfl rfl ?_; (first | go_big_quiet_step (fail) | quiet_step (fail)); refine wpQuiet_nil ?_)
        refine Mix.mix_does rfl ?_
        go_wp2_with fail
        refine (HB.out _).mono ?_
        rintro e w2 ⟨rfl, hf2⟩
        have H2 := Lib.hid (fr_two H1.out hf2)
        clear hf2
        go_wp2_with fail
        refine behind H2.out ?_
        repeat (refine Mix.mix_read rfl rfl ?_; (first | go_big_quiet_step (fail) | quiet_step (fail)); refine wpQuiet_nil ?_)
        refine Mix.mix_nil ?_
        go_wp2
        go_ret
        refine ⟨?_, fr_two ((Fr.alloc1 _ _ _).alloc _) H2.out⟩
        exact congrArg (fun x => Ending.returned (.string x)) (cat3 SA 44 SB)
      · have hk2 : (v.k == 2) = false := by simpa using h2
        rw [if_neg h2]
        clear h2
        go_enter Tryd.func23, Tryd.ntmps23
        go_wp2_with (go_at_call 22; refine (refok_any v _).mono ?_; rintro e w1 ⟨rfl, rfl⟩; rw [HO.out])
        go_ret
        exact ⟨rfl, (Fr.alloc1 _ _ _).alloc _⟩

theorem cut_none_at {l : List UInt8} (h : cutC l = none) {k : Nat} (hk : k < l.length) : ((((ByteArray.mk l.toArray)[k]'(by rw [size_str]; exact hk)).toNat : Int) == 44) = false := by
  show ((((l[k]).toNat : Nat) : Int) == 44) = false
  refine beq_eq_false_iff_ne.2 (fun h1 => cutC_none h ?_)
  have h2 : l[k] = 44 := UInt8.toNat.inj (by show l[k].toNat = 44; omega)
  rw [← h2]
  exact List.getElem_mem hk
theorem cut_at {l x y : List UInt8} (h : cutC l = some (x, y)) : ∃ j, j < l.length ∧ x = l.take j ∧ y = l.drop (j + 1) ∧ l[j]? = some 44 ∧ ∀ k, k < j → l[k]? ≠ some 44 := by
  obtain ⟨h1, h2⟩ := cutC_some h
  subst h1
  refine ⟨x.length, by simp, by simp, by simp, by simp, fun k hk hc => h2 ?_⟩
  rw [List.getElem?_append_left hk] at hc
  exact List.mem_of_getElem? hc
theorem byte_no {l : List UInt8} {k : Nat} (hk : k < l.length) (h : l[k]? ≠ some 44) : ((((ByteArray.mk l.toArray)[k]'(by rw [size_str]; exact hk)).toNat : Int) == 44) = false := by
  show ((((l[k]).toNat : Nat) : Int) == 44) = false
  refine beq_eq_false_iff_ne.2 (fun h1 => h ?_)
  rw [List.getElem?_eq_getElem hk]
  exact congrArg some (UInt8.toNat.inj (by show l[k].toNat = 44; omega))
theorem byte_yes {l : List UInt8} {k : Nat} (hk : k < l.length) (h : l[k]? = some 44) : ((((ByteArray.mk l.toArray)[k]'(by rw [size_str]; exact hk)).toNat : Int) == 44) = true := by
  show ((((l[k]).toNat : Nat) : Int) == 44) = true
  rw [List.getElem?_eq_getElem hk] at h
  rw [Option.some.inj h]; rfl

abbrev RefP (l : List UInt8) (w : World) (r : Option Val) : Prop := Calls Tryd.prog 19 #[str l] w fun e w' => e = .returned (.tuple #[(r.getD Val.zero).agg, .bool r.isSome]) ∧ Fr (fun _ => False) w w'

set_option maxRecDepth 100000 in
set_option maxHeartbeats 2000000 in
theorem refparse_none (l : List UInt8) (w : World) (hs : l.length ≤ 281474976710656) (h42 : (l == [42]) = false) (hc : cutC l = none) : RefP l w ((num l).map (fun n => ⟨1, n, 0⟩)) := by
  have HC := Lib.hid hc
  have HU := Lib.hid (fun W => und_any l W (by omega))
  clear hc
  go_enter Tryd.func19, Tryd.ntmps19
  go_wp2_with fail
  go_loop [4] (fun t => ∃ k : Nat, k ≤ l.length ∧ t = .int .i64 k) (fun t => l.length - (intOf t).toNat)
  case atStart => exact ⟨0, by omega, rfl⟩
  case round =>
    obtain ⟨k, hk, rfl⟩ := hrel
    by_cases hlt : k < l.length
    · have hlt' : (k : Int) < l.length := by omega
      have hb := cut_none_at HC.out hlt
      go_wp2_with fail
      go_round
      case rel => exact ⟨k + 1, by omega, by go_num⟩
      case measure => simp [intOf]; omega
    · obtain rfl : k = l.length := by omega
      go_wp2_with fail
      refine (HU.out _).mono ?_
      rintro e w1 ⟨rfl, rfl⟩
      obtain ⟨r, hr⟩ : ∃ r, num l = r := ⟨_, rfl⟩
      rw [hr]
      have HR := Lib.hid hr
      clear hr
      cases r with
      | none =>
        go_wp2
        refine bodyPost_ret (v := .tuple #[Val.agg ⟨0, 0, 0⟩, .bool false]) (by simp [results, Tryd.results19, go_sem]) rfl ⟨?_, Fr.alloc1 _ _ _⟩
        rw [HR.out]; rfl
      | some n =>
        go_wp2
        refine bodyPost_ret (v := .tuple #[Val.agg ⟨1, n, 0⟩, .bool true]) (by simp [results, Tryd.results19, go_sem]) rfl ⟨?_, Fr.alloc1 _ _ _⟩
        rw [HR.out]; rfl

set_option maxRecDepth 100000 in
set_option maxHeartbeats 2000000 in
theorem refparse_some (l x y : List UInt8) (w : World) (hs : l.length ≤ 281474976710656) (h42 : (l == [42]) = false) (hc : cutC l = some (x, y)) : RefP l w ((num x).bind fun a => (num y).map fun b => ⟨2, a, b⟩) := by
  obtain ⟨j, hj, hx, hy, hj44, hno⟩ := cut_at hc
  have HN := Lib.hid hno
  have HJ := Lib.hid hj44
  have HX := Lib.hid (fun W => und_any x W (by rw [hx, List.length_take]; omega))
  have HY := Lib.hid (fun W => und_any y W (by rw [hy, List.length_drop]; omega))
  have ex : (ByteArray.mk l.toArray).extract 0 j = ⟨x.toArray⟩ := ba_ext (by rw [Lib.extract_data, data_str, hx]; simp)
  have ey : (ByteArray.mk l.toArray).extract (j + 1) l.length = ⟨y.toArray⟩ := ba_ext (by rw [Lib.extract_data, data_str, hy, List.take_of_length_le (by simp)])
  clear hc hno hj44 hx hy
  go_enter Tryd.func19, Tryd.ntmps19
  go_wp2_with fail
  go_loop [4] (fun t => ∃ k : Nat, k ≤ j ∧ t = .int .i64 k) (fun t => l.length - (intOf t).toNat)
  case atStart => exact ⟨0, by omega, rfl⟩
  case round =>
    obtain ⟨k, hk, rfl⟩ := hrel
    have hlt : k < l.length := by omega
    have hlt' : (k : Int) < l.length := by omega
    by_cases hkj : k < j
    · have hb := byte_no hlt (HN.out k hkj)
      go_wp2_with fail
      go_round
      case rel => exact ⟨k + 1, by omega, by go_num⟩
      case measure => simp [intOf]; omega
    · obtain rfl : k = j := by omega
      have hb := byte_yes hlt HJ.out
      have hle : (k : Int) ≤ l.length := by omega
      have hle1 : (k : Int) + 1 ≤ l.length := by omega
      go_wp2_with fail
      refine (HX.out _).mono ?_
      rintro e w1 ⟨rfl, rfl⟩
      obtain ⟨r, hr⟩ : ∃ r, num x = r := ⟨_, rfl⟩
      rw [hr]
      have HR := Lib.hid hr
      clear hr
      go_wp2_with fail
      refine (HY.out _).mono ?_
      rintro e w2 ⟨rfl, rfl⟩
      obtain ⟨q, hq⟩ : ∃ r, num y = r := ⟨_, rfl⟩
      rw [hq]
      have HQ := Lib.hid hq
      clear hq
      cases r with
      | none =>
        go_wp2
        refine bodyPost_ret (v := .tuple #[Val.agg ⟨0, 0, 0⟩, .bool false]) (by simp [results, Tryd.results19, go_sem]) rfl ⟨?_, Fr.alloc1 _ _ _⟩
        rw [HR.out]; rfl
      | some a =>
        cases q with
        | none =>
          go_wp2
          refine bodyPost_ret (v := .tuple #[Val.agg ⟨0, 0, 0⟩, .bool false]) (by simp [results, Tryd.results19, go_sem]) rfl ⟨?_, Fr.alloc1 _ _ _⟩
          rw [HR.out, HQ.out]; rfl
        | some b =>
          go_wp2
          refine bodyPost_ret (v := .tuple #[Val.agg ⟨2, a, b⟩, .bool true]) (by simp [results, Tryd.results19, go_sem]) rfl ⟨?_, Fr.alloc1 _ _ _⟩
          rw [HR.out, HQ.out]; rfl

theorem refparse_any (l : List UInt8) (w : World) (hs : l.length ≤ 281474976710656) : RefP l w (parseV l) := by
  by_cases h42 : l = [42]
  · subst h42
    rw [show parseV [42] = some ⟨3, 0, 0⟩ from rfl]
    go_enter Tryd.func19, Tryd.ntmps19
    go_wp2
    exact bodyPost_ret (v := .tuple #[Val.agg ⟨3, 0, 0⟩, .bool true]) (by simp [results, Tryd.results19, go_sem]) rfl ⟨rfl, Fr.alloc1 _ _ _⟩
  · have hb : (l == [42]) = false := by simpa using h42
    cases hc : cutC l with
    | none =>
      have hp : parseV l = (num l).map (fun n => ⟨1, n, 0⟩) := by unfold parseV; rw [if_neg h42, hc]
      rw [hp]
      exact refparse_none l w hs hb hc
    | some p =>
      obtain ⟨x, y⟩ := p
      have hp : parseV l = (num x).bind fun a => (num y).map fun b => ⟨2, a, b⟩ := by
        unfold parseV; rw [if_neg h42, hc]
        cases hx : num x <;> cases hy : num y <;> simp [hx, hy]
      rw [hp]
      exact refparse_some l x y w hs hb hc
end Go.Proofs.YtadnbkjjdkgfiaaDoor
