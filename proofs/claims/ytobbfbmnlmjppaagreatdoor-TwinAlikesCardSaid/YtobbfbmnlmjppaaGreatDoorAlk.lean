/-
  Worlds that are alike: the walk of Alike.
-/
import Derived.Test.YtobbfbmnlmjppaaGreatDoorEql
namespace Go.Viv
open Go.Lib Go.RowKit
/-- What a component is. -/
structure Dc where
  k : Int
  v : Int
  b : Int
def descC (x : Dc) : List Value := [.int .i64 x.k, .int .i64 x.v, .int .i64 x.b]
theorem descC_len (x : Dc) : (descC x).length = 3 := rfl
def sameD (x y : Dc) : Bool := x.k == y.k && x.b == y.b
def sameL (l m : List Dc) : Bool := l.length == m.length && (l.zip m).all fun p => sameD p.1 p.2
/-- Where the cells of element number k lie. -/
theorem rowD_at {w : World} {A : Option Addr} {l : List Dc} (h : RowC w A (l.flatMap descC)) {k : Nat} {x : Dc} (hk : l[k]? = some x) : ∃ b o, A = some ⟨b, o, none⟩ ∧ b < w.heap.size ∧ ∀ j u, (descC x)[j]? = some u → w.cell? ⟨b, o + k * 3 + j, none⟩ = some u := by
  rcases h with h | ⟨b, o, h1, h2, h3⟩
  · cases l with
    | nil => simp at hk
    | cons x r => simp [descC] at h
  · refine ⟨b, o, h1, h2, fun j u hj => ?_⟩
    have hj3 : j < 3 := by
      have := (List.getElem?_eq_some_iff.1 hj).1
      simpa [descC] using this
    have g := chunk_get descC 3 descC_len l k j hj3
    rw [hk] at g
    rw [Nat.add_assoc]
    exact h3 (k * 3 + j) u (by rw [g]; exact hj)
theorem sameL_of {l m : List Dc} {n : Nat} (hl : l.length = n) (hm : m.length = n) (h : ∀ k x y, k < n → l[k]? = some x → m[k]? = some y → sameD x y = true) : sameL l m = true := by
  unfold sameL
  rw [hl, hm]
  simp only [beq_self_eq_true, Bool.true_and, List.all_eq_true]
  intro p hp
  obtain ⟨k, hk⟩ := List.mem_iff_getElem?.1 hp
  rw [List.getElem?_zip_eq_some] at hk
  have := (List.getElem?_eq_some_iff.1 hk.1).1
  exact h k _ _ (by omega) hk.1 hk.2
theorem sameL_not {l m : List Dc} {k : Nat} {x y : Dc} (hl : l[k]? = some x) (hm : m[k]? = some y) (h : sameD x y = false) : sameL l m = false := by
  cases hs : sameL l m with
  | false => rfl
  | true =>
    unfold sameL at hs
    simp only [Bool.and_eq_true, List.all_eq_true] at hs
    have := hs.2 (x, y) (List.mem_iff_getElem?.2 ⟨k, by rw [List.getElem?_zip_eq_some]; exact ⟨hl, hm⟩⟩)
    rw [h] at this
    cases this
theorem sameL_len {l m : List Dc} (h : l.length ≠ m.length) : sameL l m = false := by
  unfold sameL
  simp [h]
end Go.Viv
namespace Go.Proofs.YtobbfbmnlmjppaaGreatDoor
open Go.RowKit Go.Viv Go.Lib
set_option maxRecDepth 100000 in
set_option maxHeartbeats 2000000 in
theorem same_any (x y : Dc) (w : World) : Calls Tryz.prog 20 #[.agg (descC x).toArray, .agg (descC y).toArray] w fun e w' => e = .returned (.bool (sameD x y)) ∧ Fr (fun _ => False) w w' := by
  have hs : sameD x y = (x.k == y.k && x.b == y.b) := rfl
  unfold descC
  cases h1 : (x.k == y.k) with
  | false =>
    rw [h1, Bool.false_and] at hs
    have H := Lib.hid hs
    clear hs
    go_enter Tryz.func20, Tryz.ntmps20
    go_wp2
    go_ret
    exact ⟨by rw [H.out]; rfl, by repeat (first | exact Fr.refl _ _ | apply Fr.alloc | apply Fr.drew)⟩
  | true =>
    rw [h1, Bool.true_and] at hs
    cases h2 : (x.b == y.b) with
    | false =>
      rw [h2] at hs
      have H := Lib.hid hs
      clear hs
      go_enter Tryz.func20, Tryz.ntmps20
      go_wp2
      go_ret
      exact ⟨by rw [H.out]; rfl, by repeat (first | exact Fr.refl _ _ | apply Fr.alloc | apply Fr.drew)⟩
    | true =>
      rw [h2] at hs
      have H := Lib.hid hs
      clear hs
      go_enter Tryz.func20, Tryz.ntmps20
      go_wp2
      go_ret
      exact ⟨by rw [H.out]; rfl, by repeat (first | exact Fr.refl _ _ | apply Fr.alloc | apply Fr.drew)⟩
set_option maxRecDepth 100000 in
set_option maxHeartbeats 4000000 in
theorem eqF_any (l m : List Dc) (A B : Option Addr) (ca cb : Nat) (w : World) (hl : RowC w A (l.flatMap descC)) (hm : RowC w B (m.flatMap descC)) (_ha : l.length ≤ ca) (_hb : m.length ≤ cb) (_hca : ca ≤ 9223372036854775807) (_hcb : cb ≤ 9223372036854775807) :
    Calls Tryz.prog 22 #[.slice A l.length ca, .slice B m.length cb, .func (.func 20) #[] #[]] w fun e w' => e = .returned (.bool (sameL l m)) ∧ Fr (fun _ => False) w w' := by
  by_cases hne : l.length = m.length
  · have HL := Lib.hid hl
    have HM := Lib.hid hm
    obtain ⟨n, hnl⟩ : ∃ n, l.length = n := ⟨_, rfl⟩
    have HN := Lib.hid hnl
    have HN2 := Lib.hid (hne.symm.trans hnl)
    rw [← hne, hnl] at _hb
    rw [← hne, hnl]
    rw [hnl] at _ha
    clear hl hm hnl hne
    go_enter Tryz.func22, Tryz.ntmps22
    go_wp2_with fail
    go_loopw [17] (fun t wr => ∃ k : Nat, k ≤ n ∧ t = .int .i64 k ∧ (∀ j x y, j < k → l[j]? = some x → m[j]? = some y → sameD x y = true) ∧ Fr (fun _ => False) w wr) (fun t _ => n - (intOf t).toNat)
    case atStart => exact ⟨0, by omega, rfl, fun j x y h => by omega, Fr.refl _ _⟩
    case round =>
      obtain ⟨k, hk, rfl, heq, hfr⟩ := hrel
      by_cases hlt : k < n
      · obtain ⟨x, hx⟩ : ∃ x, l[k]? = some x := ⟨_, List.getElem?_eq_getElem (by rw [HN.out]; exact hlt)⟩
        obtain ⟨y, hy⟩ : ∃ y, m[k]? = some y := ⟨_, List.getElem?_eq_getElem (by rw [HN2.out]; exact hlt)⟩
        obtain ⟨b, o, rfl, hbw, hcx⟩ := rowD_at (HL.out.fr hfr) hx
        obtain ⟨b2, o2, rfl, hbw2, hcy⟩ := rowD_at (HM.out.fr hfr) hy
        have d0 := hcx 0 _ rfl
        rw [Nat.add_zero] at d0
        have d1 := hcx 1 _ rfl
        have d2 := hcx 2 _ rfl
        have c0 := hcy 0 _ rfl
        rw [Nat.add_zero] at c0
        have c1 := hcy 1 _ rfl
        have c2 := hcy 2 _ rfl
        have HE := Lib.hid heq
        have HX := Lib.hid (And.intro hx hy)
        have HW := Lib.hid hfr
        have hgt : decide (n ≤ k) = false := by simp; omega
        have hka : (k : Int) ≤ ca := by omega
        have hkb : (k : Int) ≤ cb := by omega
        cases hs : sameD x y with
        | true =>
          have HS := Lib.hid hs
          clear heq hx hy hfr hcx hcy hs
          go_wp2_with (go_at_call 20; refine (same_any x y _).mono ?_; rintro e w3 ⟨rfl, hf3⟩; rw [HS.out])
          have HF := Lib.hid hf3
          go_roundw
          case rel => exact ⟨k + 1, by omega, by go_num, fun j x' y' hj h1 h2 => by
            rcases Nat.lt_succ_iff_lt_or_eq.1 hj with h | rfl
            · exact HE.out j x' y' h h1 h2
            · rw [HX.out.1] at h1; rw [HX.out.2] at h2; cases h1; cases h2; exact HS.out, fr_two HW.out (fr_two (by repeat (first | exact Fr.refl _ _ | apply Fr.alloc | apply Fr.drew)) HF.out)⟩
          case measure => simp [intOf]; omega
        | false =>
          have HS := Lib.hid hs
          have HD := Lib.hid (sameL_not hx hy hs)
          clear heq hx hy hfr hcx hcy hs
          go_wp2_with (go_at_call 20; refine (same_any x y _).mono ?_; rintro e w3 ⟨rfl, hf3⟩; rw [HS.out])
          have HF := Lib.hid hf3
          go_ret
          exact ⟨by rw [HD.out]; rfl, fr_two HW.out (fr_two (by repeat (first | exact Fr.refl _ _ | apply Fr.alloc | apply Fr.drew)) HF.out)⟩
      · have hkn : k = n := by omega
        subst hkn
        have HE := Lib.hid (sameL_of HN.out HN2.out heq)
        have HW := Lib.hid hfr
        clear heq hfr
        go_wp2
        go_ret
        exact ⟨by rw [HE.out]; rfl, HW.out⟩
  · have e1 : ((l.length : Int) != m.length) = true := by simp; omega
    have HD := Lib.hid (sameL_len hne)
    clear hl hm hne
    go_enter Tryz.func22, Tryz.ntmps22
    go_wp2
    go_ret
    exact ⟨by rw [HD.out]; rfl, Fr.refl _ _⟩
end Go.Proofs.YtobbfbmnlmjppaaGreatDoor
