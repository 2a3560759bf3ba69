/-
  Contracts of package value: Cut, Ok, Int, Pair, Tag, Zero.
-/
import Derived.Test.YtadnbkjjdkgfiaaDoorValB
import Derived.Lib.IndexBytes
import Derived.Deep.QuietTactic
import Derived.BigQuiet
namespace Go.Viv
structure Val where
  k : Int
  a : Int
  b : Int
abbrev Val.agg (v : Val) : Value := .agg #[.int .i64 v.k, .int .i64 v.a, .int .i64 v.b]
def Val.zero : Val := ⟨0, 0, 0⟩
def okV (v : Val) : Bool := if v.k = 1 then v.b == 0 else if v.k = 2 then true else if v.k = 3 then v.a == 0 && v.b == 0 else false

theorem index_cut : ∀ (l : List UInt8), (cutC l = none ∧ Lib.indexByte l 44 = -1) ∨ ∃ k : Nat, k < l.length ∧ cutC l = some (l.take k, l.drop (k + 1)) ∧ Lib.indexByte l 44 = k
  | [] => .inl ⟨rfl, rfl⟩
  | c :: r => by
    by_cases hc : c = 44
    · subst hc
      exact .inr ⟨0, by simp, by simp [cutC], by simp [Lib.indexByte]⟩
    · rcases index_cut r with ⟨h1, h2⟩ | ⟨k, h1, h2, h3⟩
      · left
        refine ⟨by simp [cutC, hc, h1], ?_⟩
        simp [Lib.indexByte, hc, h2]
      · right
        refine ⟨k + 1, by simp; omega, by simp [cutC, hc, h2], ?_⟩
        have : ¬ (k : Int) = -1 := by omega
        simp [Lib.indexByte, hc, h3, this]
end Go.Viv
namespace Go.Proofs.YtadnbkjjdkgfiaaDoor
open Go.RowKit Go.Viv

theorem ba_ext {a : ByteArray} {l : List UInt8} (h : a.data.toList = l) : a = ⟨l.toArray⟩ := by subst h; cases a; simp

set_option maxRecDepth 100000 in
theorem cutS_any (l : List UInt8) (w : World) (hl : l.length ≤ 9223372036854775806) :
    Calls Tryd.prog 66 #[str l, .string ⟨#[44]⟩] w fun e w' => e = .returned (.tuple #[str (((cutC l).map (·.1)).getD l), str (((cutC l).map (·.2)).getD []), .bool (cutC l).isSome]) ∧ Fr (fun _ => False) w w' := by
  have hsz := size_str l
  rcases index_cut l with ⟨h1, h2⟩ | ⟨k, h1, h2, h3⟩
  · rw [h1]
    have hI := Tryd.stringslite_Index_one ⟨l.toArray⟩ 44 w
    rw [data_str, h2] at hI
    have HI := Lib.hid hI
    clear hI h1 h2
    go_enter Tryd.func66, Tryd.ntmps66
    go_wp2_with (go_at_call 77; refine (HI.out).mono ?_; rintro e w' ⟨rfl, rfl⟩)
    go_ret3
    exact ⟨rfl, Fr.refl _ _⟩
  · rw [h2]
    have hI := Tryd.stringslite_Index_one ⟨l.toArray⟩ 44 w
    rw [data_str, h3] at hI
    have HI := Lib.hid hI
    clear hI h2 h3
    have hk : (k : Int) ≤ l.length := by omega
    have hk1 : (k : Int) + 1 ≤ l.length := by omega
    go_enter Tryd.func66, Tryd.ntmps66
    go_wp2_with (go_at_call 77; refine (HI.out).mono ?_; rintro e w' ⟨rfl, rfl⟩)
    go_quiet (fail)
    go_wp2
    go_ret3
    have e1 : (ByteArray.mk l.toArray).extract 0 k = ⟨(l.take k).toArray⟩ := ba_ext (by rw [Lib.extract_data]; simp)
    have e2 : (ByteArray.mk l.toArray).extract (k + 1) l.length = ⟨(l.drop (k + 1)).toArray⟩ := ba_ext (by rw [Lib.extract_data, data_str, List.take_of_length_le (by simp)])
    refine ⟨?_, (Fr.refl _ _).drewN _⟩
    simp [e1, e2]

theorem ok_any (v : Val) (w : World) : Calls Tryd.prog 21 #[v.agg] w fun e w' => e = .returned (.bool (okV v)) ∧ w.alloc (.cells #[.int .i64 v.k, .int .i64 v.a, .int .i64 v.b] 24) = w' := by
  unfold okV
  by_cases h1 : v.k = 1
  · have hb : (v.k == 1) = true := by simpa using h1
    rw [if_pos h1]
    clear h1
    go_enter Tryd.func21, Tryd.ntmps21
    go_wp2
    go_ret
    exact ⟨rfl, rfl⟩
  · have hb : (v.k == 1) = false := by simpa using h1
    rw [if_neg h1]
    by_cases h2 : v.k = 2
    · have hb2 : (v.k == 2) = true := by simpa using h2
      rw [if_pos h2]
      clear h1 h2
      go_enter Tryd.func21, Tryd.ntmps21
      go_wp2
      go_ret
      exact ⟨rfl, rfl⟩
    · have hb2 : (v.k == 2) = false := by simpa using h2
      rw [if_neg h2]
      by_cases h3 : v.k = 3
      · have hb3 : (v.k == 3) = true := by simpa using h3
        rw [if_pos h3]
        clear h1 h2 h3
        by_cases h4 : v.a = 0
        · have hb4 : (v.a == 0) = true := by simpa using h4
          rw [hb4]
          clear h4
          go_enter Tryd.func21, Tryd.ntmps21
          go_wp2
          go_ret
          exact ⟨rfl, rfl⟩
        · have hb4 : (v.a == 0) = false := by simpa using h4
          rw [hb4]
          clear h4
          go_enter Tryd.func21, Tryd.ntmps21
          go_wp2
          go_ret
          exact ⟨rfl, rfl⟩
      · have hb3 : (v.k == 3) = false := by simpa using h3
        rw [if_neg h3]
        clear h1 h2 h3
        go_enter Tryd.func21, Tryd.ntmps21
        go_wp2
        go_ret
        exact ⟨rfl, rfl⟩

theorem int_any (n : Int) (w : World) : Calls Tryd.prog 14 #[.int .i64 n] w fun e w' => e = .returned (Val.agg ⟨1, n, 0⟩) ∧ w.alloc (.cells #[.int .i64 1, .int .i64 n, .int .i64 0] 24) = w' := by
  go_enter Tryd.func14, Tryd.ntmps14
  go_wp2
  exact bodyPost_ret (v := Val.agg ⟨1, n, 0⟩) (by simp [results, Tryd.results14, go_sem]) rfl ⟨rfl, rfl⟩
theorem pair_any (a b : Int) (w : World) : Calls Tryd.prog 15 #[.int .i64 a, .int .i64 b] w fun e w' => e = .returned (Val.agg ⟨2, a, b⟩) ∧ w.alloc (.cells #[.int .i64 2, .int .i64 a, .int .i64 b] 24) = w' := by
  go_enter Tryd.func15, Tryd.ntmps15
  go_wp2
  exact bodyPost_ret (v := Val.agg ⟨2, a, b⟩) (by simp [results, Tryd.results15, go_sem]) rfl ⟨rfl, rfl⟩
theorem tag_any (w : World) : Calls Tryd.prog 16 #[] w fun e w' => e = .returned (Val.agg ⟨3, 0, 0⟩) ∧ w.alloc (.cells #[.int .i64 3, .int .i64 0, .int .i64 0] 24) = w' := by
  go_enter Tryd.func16, Tryd.ntmps16
  go_wp2
  exact bodyPost_ret (v := Val.agg ⟨3, 0, 0⟩) (by simp [results, Tryd.results16, go_sem]) rfl ⟨rfl, rfl⟩

theorem cut_any (l : List UInt8) (w : World) (hl : l.length ≤ 9223372036854775806) :
    Calls Tryd.prog 43 #[str l, .string ⟨#[44]⟩] w fun e w' => e = .returned (.tuple #[str (((cutC l).map (·.1)).getD l), str (((cutC l).map (·.2)).getD []), .bool (cutC l).isSome]) ∧ Fr (fun _ => False) w w' := by
  have HC := Lib.hid (cutS_any l w hl)
  go_enter Tryd.func43, Tryd.ntmps43
  go_wp2_with (go_at_call 66; refine (HC.out).mono ?_; rintro e w' ⟨rfl, hf⟩)
  go_ret3
  exact ⟨rfl, hf⟩

def zeroOf (k : Int) : Bool := okV ⟨k, 0, 0⟩
theorem zero_any (k : Int) (w : World) : Calls Tryd.prog 20 #[.int .i64 k] w fun e w' => e = .returned (.tuple #[Val.agg (if zeroOf k then ⟨k, 0, 0⟩ else Val.zero), .bool (zeroOf k)]) ∧ Fr (fun _ => False) w w' := by
  have HO := Lib.hid (fun W => ok_any ⟨k, 0, 0⟩ W)
  unfold zeroOf
  cases hz : okV ⟨k, 0, 0⟩ with
  | true =>
    rw [if_pos rfl]
    go_enter Tryd.func20, Tryd.ntmps20
    go_wp2_with (go_at_call 21; refine (HO.out _).mono ?_; rintro e w' ⟨rfl, rfl⟩; rw [hz])
    exact bodyPost_ret (v := .tuple #[Val.agg ⟨k, 0, 0⟩, .bool true]) (by simp [results, Tryd.results20, go_sem]) rfl ⟨rfl, ((Fr.refl _ _).alloc _).alloc _ |>.alloc _⟩
  | false =>
    rw [if_neg (by simp)]
    go_enter Tryd.func20, Tryd.ntmps20
    go_wp2_with (go_at_call 21; refine (HO.out _).mono ?_; rintro e w' ⟨rfl, rfl⟩; rw [hz])
    exact bodyPost_ret (v := .tuple #[Val.agg Val.zero, .bool false]) (by simp [results, Tryd.results20, go_sem, Val.zero]) rfl ⟨rfl, ((Fr.refl _ _).alloc _).alloc _ |>.alloc _⟩

end Go.Proofs.YtadnbkjjdkgfiaaDoor
