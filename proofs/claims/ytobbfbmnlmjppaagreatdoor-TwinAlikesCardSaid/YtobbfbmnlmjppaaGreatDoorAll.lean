/-
  Worlds that are alike: the walk of Alike itself.
-/
import Derived.Test.YtobbfbmnlmjppaaGreatDoorAlk
namespace Go.Viv
open Go.Lib Go.RowKit
/-- What a world is made of. -/
structure Cf where
  size : Int
  top : Int
  A : Option Addr
  comps : List Dc
  ca : Nat
  B : Option Addr
  res : List Int
  cb : Nat
def Cf.val (x : Cf) : Value := .agg #[.int .i64 x.size, .int .i64 x.top, .slice x.A x.comps.length x.ca, .slice x.B x.res.length x.cb]
/-- It lies in memory. -/
structure Cf.In (x : Cf) (w : World) : Prop where
  comps : RowC w x.A (x.comps.flatMap descC)
  res : RowC w x.B (ints x.res)
  ca : x.comps.length ≤ x.ca
  cb : x.res.length ≤ x.cb
  ma : x.ca ≤ 9223372036854775807
  mb : x.cb ≤ 9223372036854775807
  pa : ∀ a, x.A = some a → ∃ b o, a = ⟨b, o, none⟩
  pb : ∀ a, x.B = some a → ∃ b o, a = ⟨b, o, none⟩
theorem Cf.In.fr {x : Cf} {w w' : World} (h : x.In w) (hf : Fr (fun _ => False) w w') : x.In w' := ⟨h.comps.fr hf, h.res.fr hf, h.ca, h.cb, h.ma, h.mb, h.pa, h.pb⟩
theorem blk_new' {w : World} {g : Nat} (t : TypeId) (cs : Array Value) (h : g = w.heap.size) : Blk (w.alloc (.cells cs t)) g t cs := by
  subst h
  exact Blk.new _ _ _
def Cf.cells (x : Cf) : Array Value := #[.int .i64 x.size, .int .i64 x.top, .slice x.A x.comps.length x.ca, .slice x.B x.res.length x.cb]
def alikeC (x y : Cf) : Bool := x.size == y.size && (x.top == y.top && (x.res == y.res && sameL x.comps y.comps))
end Go.Viv
namespace Go.Proofs.YtobbfbmnlmjppaaGreatDoor
open Go.RowKit Go.Viv Go.Lib
set_option maxRecDepth 100000 in
set_option maxHeartbeats 4000000 in
theorem alike_any (x y : Cf) (w : World) (hx : x.In w) (hy : y.In w) : Calls Tryz.prog 9 #[x.val, y.val] w fun e w' => e = .returned (.bool (alikeC x y)) ∧ Fr (fun _ => False) w w' := by
  have hs : alikeC x y = (x.size == y.size && (x.top == y.top && (x.res == y.res && sameL x.comps y.comps))) := rfl
  have HX := Lib.hid hx
  have HY := Lib.hid hy
  unfold Cf.val
  clear hx hy
  cases h1 : (x.size == y.size) with
  | false =>
    rw [h1, Bool.false_and] at hs
    have H := Lib.hid hs
    clear hs
    go_enter Tryz.func9, Tryz.ntmps9
    go_wp2
    go_ret
    exact ⟨by rw [H.out]; rfl, by repeat (first | exact Fr.refl _ _ | apply Fr.alloc | apply Fr.drew)⟩
  | true =>
    rw [h1, Bool.true_and] at hs
    cases h2 : (x.top == y.top) with
    | false =>
      rw [h2, Bool.false_and] at hs
      have H := Lib.hid hs
      clear hs
      go_enter Tryz.func9, Tryz.ntmps9
      go_wp2
      go_ret
      exact ⟨by rw [H.out]; rfl, by repeat (first | exact Fr.refl _ _ | apply Fr.alloc | apply Fr.drew)⟩
    | true =>
      rw [h2, Bool.true_and] at hs
      cases h3 : (x.res == y.res) with
      | false =>
        rw [h3, Bool.false_and] at hs
        have H := Lib.hid hs
        have H3 := Lib.hid h3
        clear hs h3
        go_enter Tryz.func9, Tryz.ntmps9
        go_wp2_with (go_at_call 21; refine (eqI_any x.res y.res x.B y.B x.cb y.cb _ (HX.out.fr (by repeat (first | exact Fr.refl _ _ | apply Fr.alloc | apply Fr.drew))).res (HY.out.fr (by repeat (first | exact Fr.refl _ _ | apply Fr.alloc | apply Fr.drew))).res HX.out.cb HY.out.cb HX.out.mb HY.out.mb).mono ?_; rintro e w3 ⟨rfl, hf3⟩; rw [H3.out])
        go_ret
        exact ⟨by rw [H.out]; rfl, fr_two (by repeat (first | exact Fr.refl _ _ | apply Fr.alloc | apply Fr.drew)) hf3⟩
      | true =>
        rw [h3, Bool.true_and] at hs
        have H := Lib.hid hs
        have H3 := Lib.hid h3
        clear hs h3
        go_enter Tryz.func9, Tryz.ntmps9
        go_wp2_with (first
          | (go_at_call 21; refine (eqI_any x.res y.res x.B y.B x.cb y.cb _ (HX.out.fr (by repeat (first | exact Fr.refl _ _ | apply Fr.alloc | apply Fr.drew))).res (HY.out.fr (by repeat (first | exact Fr.refl _ _ | apply Fr.alloc | apply Fr.drew))).res HX.out.cb HY.out.cb HX.out.mb HY.out.mb).mono ?_; rintro e w3 ⟨rfl, hf3⟩; rw [H3.out]; have k1 : Blk w3 w.heap.size 50 x.cells := Blk.fr (by repeat (first | exact blk_new' _ _ (by simp) | apply Blk.alloc | apply Blk.drew)) hf3 (fun h => h); have k2 : Blk w3 (w.heap.size + 1) 50 y.cells := Blk.fr (by repeat (first | exact blk_new' _ _ (by simp) | apply Blk.alloc | apply Blk.drew)) hf3 (fun h => h); have c1 : w3.cell? ⟨w.heap.size, 2, none⟩ = some (.slice x.A x.comps.length x.ca) := (k1.cell 2).trans rfl; have c2 : w3.cell? ⟨w.heap.size + 1, 2, none⟩ = some (.slice y.A y.comps.length y.ca) := (k2.cell 2).trans rfl; clear k1 k2; have HF3 := Lib.hid (fr_two (by repeat (first | exact Fr.refl _ _ | apply Fr.alloc | apply Fr.drew)) hf3 : Fr (fun _ => False) w w3); clear hf3)
          | (go_at_call 22; refine (eqF_any x.comps y.comps x.A y.A x.ca y.ca _ (HX.out.fr HF3.out).comps (HY.out.fr HF3.out).comps HX.out.ca HY.out.ca HX.out.ma HY.out.ma).mono ?_; rintro e w4 ⟨rfl, hf4⟩))
        go_ret
        exact ⟨by rw [H.out]; rfl, fr_two HF3.out hf4⟩
end Go.Proofs.YtobbfbmnlmjppaaGreatDoor
