/-
  Acts that are neither to make a reader nor to read: the walk of Plain.
-/
import Derived.Test.YtadojhgfkneioaaGreatDoorProg
import Derived.Test.YtadojhgfkneioaaGreatDoorRowC
import Derived.Test.YtadojhgfkneioaaGreatDoorMixFr
import Derived.Outline
import Derived.Lib.Hide
import Derived.Deep.WholeRow
import Derived.Deep.Slices
namespace Go.Viv
open Go.Lib Go.RowKit
/-- An act: what is looked at. -/
structure Ac where
  k : Int
  h : Int
  c : Int
  n : Int
  vk : Int
  va : Int
  vb : Int
  a1 : Option Addr
  n1 : Nat
  c1 : Nat
  a2 : Option Addr
  n2 : Nat
  c2 : Nat
  a3 : Option Addr
  n3 : Nat
  c3 : Nat
def actC (x : Ac) : List Value := [.int .i64 x.k, .int .i64 x.h, .int .i64 x.c, .int .i64 x.n, .int .i64 x.vk, .int .i64 x.va, .int .i64 x.vb, .slice x.a1 x.n1 x.c1, .slice x.a2 x.n2 x.c2, .slice x.a3 x.n3 x.c3]
theorem actC_len (x : Ac) : (actC x).length = 10 := rfl
/-- Is it neither to make a reader nor to read? -/
def keeps (x : Ac) : Bool := x.k != 10 && x.k != 11
/-- Where the cells of element number k lie. -/
theorem rowA_at {w : World} {A : Option Addr} {l : List Ac} (h : RowC w A (l.flatMap actC)) {k : Nat} {x : Ac} (hk : l[k]? = some x) : ∃ b o, A = some ⟨b, o, none⟩ ∧ b < w.heap.size ∧ ∀ j u, (actC x)[j]? = some u → w.cell? ⟨b, o + k * 10 + j, none⟩ = some u := by
  rcases h with h | ⟨b, o, h1, h2, h3⟩
  · cases l with
    | nil => simp at hk
    | cons x r => simp [actC] at h
  · refine ⟨b, o, h1, h2, fun j u hj => ?_⟩
    have hj10 : j < 10 := by
      have := (List.getElem?_eq_some_iff.1 hj).1
      simpa [actC] using this
    have g := chunk_get actC 10 actC_len l k j hj10
    rw [hk] at g
    rw [Nat.add_assoc]
    exact h3 (k * 10 + j) u (by rw [g]; exact hj)
theorem flatA_snoc (l : List Ac) (x : Ac) : (l ++ [x]).flatMap actC = l.flatMap actC ++ actC x := by simp
theorem filter_snoc (l : List Ac) (k : Nat) (x : Ac) (hk : l[k]? = some x) : (l.take (k + 1)).filter keeps = (l.take k).filter keeps ++ if keeps x then [x] else [] := by
  rw [List.take_add_one, hk, List.filter_append]
  cases hx : keeps x <;> simp [hx]
end Go.Viv
namespace Go.Proofs.YtadojhgfkneioaaGreatDoor
open Go.RowKit Go.Viv
attribute [local go_sem ↓] wp_appendV
theorem infoAct : (Tryz.prog.info? 64).map (fun i => (i.zero, i.size, i.bytes)) = some (some (.agg #[.int .i64 0, .int .i64 0, .int .i64 0, .int .i64 0, .int .i64 0, .int .i64 0, .int .i64 0, .slice none 0 0, .slice none 0 0, .slice none 0 0]), 10, 128) := by kernel_rfl
/-- What Plain answers. -/
def PlainA (l : List Ac) (w : World) (e : Ending) (w' : World) : Prop := ∃ A cap, e = .returned (.slice A (l.filter keeps).length cap) ∧ (l.filter keeps).length ≤ cap ∧ cap ≤ maxLen ∧ RowC w' A ((l.filter keeps).flatMap actC) ∧ Fr (fun _ => False) w w'
set_option maxRecDepth 100000 in
set_option maxHeartbeats 2000000 in
theorem plain_any (l : List Ac) (A : Option Addr) (cap : Nat) (w : World) (hr : RowC w A (l.flatMap actC)) (_hn : l.length ≤ cap) (_hc : cap ≤ 9223372036854775807) (h100 : l.length ≤ 100) :
    Calls Tryz.prog 18 #[.slice A l.length cap] w (PlainA l w) := by
  have HR := Lib.hid hr
  obtain ⟨n, hnl⟩ : ∃ n, l.length = n := ⟨_, rfl⟩
  have HN := Lib.hid hnl
  have HALL := Lib.hid (show l.take n = l from by rw [← hnl]; exact List.take_length)
  rw [hnl] at _hn h100 ⊢
  clear hr hnl
  go_enter Tryz.func18, Tryz.ntmps18
  go_wp2_with fail
  go_loopw [3, 8] (fun v t wr => ∃ k : Nat, k ≤ n ∧ t = .int .i64 k ∧ wr.ownsRow w.heap.size 64 10 v ((l.take k).filter keeps).length (((l.take k).filter keeps).flatMap actC) ∧ Fr (fun _ => False) w wr) (fun _ t _ => n - (intOf t).toNat)
  case atStart => exact ⟨0, by omega, rfl, World.ownsRow_nil _ _ _ _, Fr.refl _ _⟩
  case round =>
    obtain ⟨k, hk, rfl, hown, hfr⟩ := hrel
    by_cases hlt : k < n
    · obtain ⟨x, hx⟩ : ∃ x, l[k]? = some x := ⟨_, List.getElem?_eq_getElem (by rw [HN.out]; exact hlt)⟩
      obtain ⟨b, o, rfl, hbw, hcs⟩ := rowA_at (HR.out.fr hfr) hx
      have d0 := hcs 0 _ rfl
      rw [Nat.add_zero] at d0
      have d1 := hcs 1 _ rfl
      have d2 := hcs 2 _ rfl
      have d3 := hcs 3 _ rfl
      have d4 := hcs 4 _ rfl
      have d5 := hcs 5 _ rfl
      have d6 := hcs 6 _ rfl
      have d7 := hcs 7 _ rfl
      have d8 := hcs 8 _ rfl
      have d9 := hcs 9 _ rfl
      have HF := Lib.hid (filter_snoc l k x hx)
      have hlen : ((l.take k).filter keeps).length ≤ k := by
        have h1 := List.length_filter_le keeps (l.take k)
        have h2 := List.length_take_le k l
        omega
      have HX := Lib.hid (And.intro hown (And.intro hfr hlen))
      have hkx : keeps x = (x.k != 10 && x.k != 11) := rfl
      have hcapk : (k : Int) ≤ cap := by omega
      obtain ⟨wB, hwB⟩ : ∃ wB, wB = wr := ⟨wr, rfl⟩
      subst hwB
      have key : ∃ v2 w3, appendV Tryz.prog 59 59 u3 (.slice (some ⟨wB.heap.size + 1, 0, none⟩) 1 1) ((wB.alloc (.cells (actC x).toArray 64)).alloc (.cells (actC x).toArray 64)) = .ok v2 w3 ∧ w3.ownsRow w.heap.size 64 10 v2 ((l.take k).filter keeps ++ [x]).length (((l.take k).filter keeps ++ [x]).flatMap actC) ∧ Fr (fun _ => False) w w3 := by
        obtain ⟨v2, w3, happ, hown3, hfr3⟩ := app_one (P := Tryz.prog) (T := 59) Tryz.underlying59 infoAct rfl (by omega) ((HX.out.1.alloc (.cells (actC x).toArray 64)).alloc (.cells (actC x).toArray 64)) (Blk.new _ 64 (actC x).toArray) rfl (by simp [Value.oneCell', actC]) (by unfold maxLen; have := HX.out.2.2; omega) (by have := HX.out.2.2; omega) (by have := HX.out.2.1.size; simp; omega)
        rw [show (wB.alloc (.cells (actC x).toArray 64)).heap.size = wB.heap.size + 1 from by simp] at happ
        exact ⟨v2, w3, happ, by rw [flatA_snoc, List.length_append]; simpa using hown3, hfr3 w ((HX.out.2.1.alloc _).alloc _) (Nat.le_refl _)⟩
      simp only [actC] at key
      have HKY := Lib.hid key
      clear key hx hcs hown hfr hlen
      by_cases hk10 : x.k = 10
      · have e1 : (x.k != 10) = false := by simp [hk10]
        have HK := Lib.hid (show keeps x = false from by rw [hkx, e1]; rfl)
        clear hkx hk10
        go_wp2
        go_roundw
        case rel => exact ⟨k + 1, by omega, by go_num, by rw [HF.out, HK.out]; simpa using (HX.out.1.alloc _), HX.out.2.1.alloc _⟩
        case measure => simp [intOf]; omega
      · have e1 : (x.k != 10) = true := by simp [hk10]
        by_cases hk11 : x.k = 11
        · have e2 : (x.k != 11) = false := by simp [hk11]
          have HK := Lib.hid (show keeps x = false from by rw [hkx, e1, e2]; rfl)
          clear hkx hk10 hk11
          go_wp2
          go_roundw
          case rel => exact ⟨k + 1, by omega, by go_num, by rw [HF.out, HK.out]; simpa using (HX.out.1.alloc _), HX.out.2.1.alloc _⟩
          case measure => simp [intOf]; omega
        · have e2 : (x.k != 11) = true := by simp [hk11]
          have HK := Lib.hid (show keeps x = true from by rw [hkx, e1, e2]; rfl)
          clear hkx hk10 hk11
          obtain ⟨v2, w3, happ, hk3⟩ := HKY.out
          have H3 := Lib.hid hk3
          clear hk3
          go_wp2
          go_roundw
          case rel => exact ⟨k + 1, by omega, by go_num, by rw [HF.out, HK.out]; exact H3.out.1, H3.out.2⟩
          case measure => simp [intOf]; omega
    · have hkn : k = n := by omega
      subst hkn
      have HX := Lib.hid (And.intro hown hfr)
      clear hown hfr
      go_wp2
      go_ret
      rw [HALL.out] at HX
      obtain ⟨A', cap', hv, h1, h2, h3⟩ := rowC_of_own HX.out.1
      exact ⟨A', cap', by rw [hv]; rfl, h1, h2, h3, HX.out.2⟩
end Go.Proofs.YtadojhgfkneioaaGreatDoor
