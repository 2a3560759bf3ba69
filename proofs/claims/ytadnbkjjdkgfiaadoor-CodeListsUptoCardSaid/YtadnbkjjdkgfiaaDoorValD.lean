/-
  Contracts of package value: Text.
-/
import Derived.Test.YtadnbkjjdkgfiaaDoorValC
namespace Go.Proofs.YtadnbkjjdkgfiaaDoor
open Go.RowKit Go.Viv

/-- A value's text. -/
def textV (v : Val) : List UInt8 := if okV v then (if v.k = 1 then Lib.itoa v.a else if v.k = 2 then Lib.itoa v.a ++ 44 :: Lib.itoa v.b else [42]) else []
def inV (v : Val) : Prop := inI v.a ∧ inI v.b

theorem ba_append (a b : List UInt8) : (ByteArray.mk a.toArray) ++ (ByteArray.mk b.toArray) = ⟨(a ++ b).toArray⟩ := by
  apply ba_ext
  simp
theorem cat3 (a : List UInt8) (c : UInt8) (b : List UInt8) : (ByteArray.mk a.toArray) ++ (ByteArray.mk #[c]) ++ (ByteArray.mk b.toArray) = ⟨(a ++ c :: b).toArray⟩ := by
  rw [show (#[c] : Array UInt8) = [c].toArray from rfl, ba_append, ba_append]
  simp

set_option maxRecDepth 100000 in
set_option maxHeartbeats 400000 in
theorem text_any (v : Val) (w : World) (he : Env w) (hv : inV v) : Calls Tryd.prog 13 #[v.agg] w fun e w' => e = .returned (str (textV v)) ∧ Fr (fun _ => False) w w' := by
  have HE := Lib.hid he
  obtain ⟨ha, hb⟩ := hv
  have la := itoa_len ha
  have lb := itoa_len hb
  clear he
  unfold textV
  cases hz : okV v with
  | false =>
    rw [if_neg (by simp)]
    go_enter Tryd.func13, Tryd.ntmps13
    go_wp2_with (go_at_call 21; refine (ok_any v _).mono ?_; rintro e w' ⟨rfl, rfl⟩; rw [hz])
    go_ret
    exact ⟨rfl, ((Fr.refl _ _).alloc _).alloc _⟩
  | true =>
    rw [if_pos rfl]
    by_cases h1 : v.k = 1
    · have hk1 : (v.k == 1) = true := by simpa using h1
      rw [if_pos h1]
      clear h1
      go_enter Tryd.func13, Tryd.ntmps13
      go_wp2_with (first
        | (go_at_call 21; refine (ok_any v _).mono ?_; rintro e w' ⟨rfl, rfl⟩; rw [hz])
        | (go_at_call 42; refine (number_any v.a _ ((HE.out.alloc _).alloc _) ha).mono ?_; rintro e w' ⟨rfl, hf⟩))
      go_ret
      exact ⟨rfl, fr_no (((Fr.refl _ _).alloc _).alloc _) hf⟩
    · have hk1 : (v.k == 1) = false := by simpa using h1
      rw [if_neg h1]
      by_cases h2 : v.k = 2
      · have hk2 : (v.k == 2) = true := by simpa using h2
        rw [if_pos h2]
        clear h1 h2
        go_enter Tryd.func13, Tryd.ntmps13
        go_wp2_with (go_at_call 21; refine (ok_any v _).mono ?_; rintro e w' ⟨rfl, rfl⟩; rw [hz])
        go_region_with (first
          | (go_at_call_of 42 (Value.int IntKind.i64 v.a); refine (number_any v.a _ ((HE.out.alloc _).alloc _).drew ha).mono ?_; rintro e w1 ⟨rfl, hf1⟩; have c2 : w1.cell? ⟨w.heap.size, 2, none⟩ = some (.int .i64 v.b) := (hf1.cell (p := ⟨w.heap.size, 2, none⟩) (by simp; omega) (fun h => h)).trans (by go_simp); have HF1 := Lib.hid hf1; clear hf1)
          | (go_at_call_of 42 (Value.int IntKind.i64 v.b); refine (number_any v.b _ (((HE.out.alloc _).alloc _).drew.fr HF1.out) hb).mono ?_; rintro e w2 ⟨rfl, hf2⟩; have HF2 := Lib.hid hf2; clear hf2))
        all_goals
          go_wp2
          go_ret
          exact ⟨congrArg (fun x => Ending.returned (Value.string x)) (cat3 _ _ _), fr_no (fr_no (((Fr.refl _ _).alloc _).alloc _).drew HF1.out) HF2.out⟩
      · have hk2 : (v.k == 2) = false := by simpa using h2
        rw [if_neg h2]
        clear h1 h2
        go_enter Tryd.func13, Tryd.ntmps13
        go_wp2_with (go_at_call 21; refine (ok_any v _).mono ?_; rintro e w' ⟨rfl, rfl⟩; rw [hz])
        go_ret
        exact ⟨rfl, ((Fr.refl _ _).alloc _).alloc _⟩
end Go.Proofs.YtadnbkjjdkgfiaaDoor
