/-
  Contracts of package value: Sum; the document's Ok.
-/
import Derived.Test.YtadnbkjjdkgfiaaDoorValG
import Derived.Test.YtadnbkjjdkgfiaaDoorMix
namespace Go.Viv
open Go.Lib Go.Proofs.YtadnbkjjdkgfiaaDoor Go.RowKit
/-- Values of a slice lie at A, one behind the other. -/
def RowV (w : World) (A : Option Addr) (vs : List Val) : Prop := ∀ i v, vs[i]? = some v → ∃ b o, A = some ⟨b, o, none⟩ ∧ b < w.heap.size ∧ w.cell? ⟨b, o + i * 3, none⟩ = some (.int .i64 v.k) ∧ w.cell? ⟨b, o + i * 3 + 1, none⟩ = some (.int .i64 v.a) ∧ w.cell? ⟨b, o + i * 3 + 2, none⟩ = some (.int .i64 v.b)
theorem RowV.fr {w w' : World} {A : Option Addr} {vs : List Val} (h : RowV w A vs) (hf : Fr (fun _ => False) w w') : RowV w' A vs := fun i v hi => by
  obtain ⟨b, o, h1, h2, h3, h4, h5⟩ := h i v hi
  have hc : ∀ k, w'.cell? ⟨b, k, none⟩ = w.cell? ⟨b, k, none⟩ := fun k => hf.cell (p := ⟨b, k, none⟩) h2 (fun h => h)
  exact ⟨b, o, h1, Nat.lt_of_lt_of_le h2 hf.size, by rw [hc]; exact h3, by rw [hc]; exact h4, by rw [hc]; exact h5⟩
theorem blk_at {W : World} {L : Nat} {t : TypeId} {cs : Array Value} (h : L = W.heap.size) : Blk (W.alloc (.cells cs t)) L t cs := h ▸ Blk.new _ _ _
theorem wrap_add (x y : Int) : wrap64 (wrap64 x + y) = wrap64 (x + y) := by unfold wrap64; omega
theorem wrap_add2 (x y : Int) : wrap64 (x + wrap64 y) = wrap64 (x + y) := by unfold wrap64; omega
theorem wrap_wrap (x : Int) : wrap64 (wrap64 x) = wrap64 x := by unfold wrap64; omega
theorem wrap_range (x : Int) : inI (wrap64 x) := by unfold wrap64 inI; omega
def sA (vs : List Val) : Int := (vs.map (fun v => if okV v then v.a else 0)).sum
def sB (vs : List Val) : Int := (vs.map (fun v => if okV v then v.b else 0)).sum
theorem sA_snoc (vs : List Val) (v : Val) : sA (vs ++ [v]) = sA vs + (if okV v then v.a else 0) := by simp [sA]
theorem sB_snoc (vs : List Val) (v : Val) : sB (vs ++ [v]) = sB vs + (if okV v then v.b else 0) := by simp [sB]
theorem take_snocV {vs : List Val} {k : Nat} {v : Val} (h : vs[k]? = some v) : vs.take (k + 1) = vs.take k ++ [v] := by
  rw [List.take_add_one, h]; rfl
def sumV (vs : List Val) : Val := ⟨2, wrap64 (sA vs), wrap64 (sB vs)⟩
theorem stepA {vs : List Val} {k : Nat} {v : Val} (h : vs[k]? = some v) : wrap64 (sA (vs.take (k + 1))) = wrap64 (wrap64 (sA (vs.take k)) + (if okV v then v.a else 0)) := by
  rw [take_snocV h, sA_snoc, wrap_add]
theorem stepB {vs : List Val} {k : Nat} {v : Val} (h : vs[k]? = some v) : wrap64 (sB (vs.take (k + 1))) = wrap64 (wrap64 (sB (vs.take k)) + (if okV v then v.b else 0)) := by
  rw [take_snocV h, sB_snoc, wrap_add]
end Go.Viv
namespace Go.Proofs.YtadnbkjjdkgfiaaDoor
open Go.RowKit Go.Viv

theorem refok_any (v : Val) (w : World) : Calls Tryd.prog 22 #[v.agg] w fun e w' => e = .returned (.bool (okV v)) ∧ w.alloc (.cells #[.int .i64 v.k, .int .i64 v.a, .int .i64 v.b] 24) = w' := by
  unfold okV
  by_cases h1 : v.k = 1
  · have hb : (v.k == 1) = true := by simpa using h1
    rw [if_pos h1]
    clear h1
    go_enter Tryd.func22, Tryd.ntmps22
    go_wp2
    go_ret
    exact ⟨rfl, rfl⟩
  · have hb : (v.k == 1) = false := by simpa using h1
    rw [if_neg h1]
    by_cases h2 : v.k = 2
    · have hb2 : (v.k == 2) = true := by simpa using h2
      rw [if_pos h2]
      clear h1 h2
      go_enter Tryd.func22, Tryd.ntmps22
      go_wp2
      go_ret
      exact ⟨rfl, rfl⟩
    · have hb2 : (v.k == 2) = false := by simpa using h2
      rw [if_neg h2]
      by_cases h3 : v.k = 3
      · have hb3 : (v.k == 3) = true := by simpa using h3
        rw [if_pos h3]
        clear h1 h2 h3
        by_cases h4 : v.a = 0
        · have hb4 : (v.a == 0) = true := by simpa using h4
          rw [hb4]
          clear h4
          go_enter Tryd.func22, Tryd.ntmps22
          go_wp2
          go_ret
          exact ⟨rfl, rfl⟩
        · have hb4 : (v.a == 0) = false := by simpa using h4
          rw [hb4]
          clear h4
          go_enter Tryd.func22, Tryd.ntmps22
          go_wp2
          go_ret
          exact ⟨rfl, rfl⟩
      · have hb3 : (v.k == 3) = false := by simpa using h3
        rw [if_neg h3]
        clear h1 h2 h3
        go_enter Tryd.func22, Tryd.ntmps22
        go_wp2
        go_ret
        exact ⟨rfl, rfl⟩

theorem fr_acc {w wr : World} {B : Nat} (h : Fr (fun _ => False) w wr) (hB : w.heap.size ≤ B) (o : Nat) (u : Value) : Fr (fun _ => False) w (wr.setCell ⟨B, o, none⟩ u) := h.setCell (.inr hB) u

set_option maxRecDepth 100000 in
set_option maxHeartbeats 1000000 in
theorem sum_any (vs : List Val) (A : Option Addr) (cap : Nat) (w : World) (hr : RowV w A vs) (hn : vs.length ≤ cap) (hc : cap ≤ 9223372036854775807) :
    Calls Tryd.prog 24 #[.slice A vs.length cap] w fun e w' => e = .returned (sumV vs).agg ∧ Fr (fun _ => False) w w' := by
  have HR := Lib.hid hr
  clear hr
  obtain ⟨n, hnl⟩ : ∃ n, vs.length = n := ⟨_, rfl⟩
  have HN := Lib.hid hnl
  rw [hnl] at hn ⊢
  clear hnl
  have hn' : n ≤ 9223372036854775807 := by omega
  go_enter Tryd.func24, Tryd.ntmps24
  go_wp2_with (go_at_call 15; refine (pair_any _ _ _).mono ?_; rintro e w1 ⟨rfl, rfl⟩)
  go_loopw [5, 9] (fun _ t wr => ∃ k : Nat, k ≤ n ∧ t = .int .i64 k ∧ Blk wr w.heap.size 24 #[.int .i64 0, .int .i64 0, .int .i64 0] ∧ Blk wr (w.heap.size + 1 + 1) 24 #[.int .i64 2, .int .i64 (wrap64 (sA (vs.take k))), .int .i64 (wrap64 (sB (vs.take k)))] ∧ Fr (fun _ => False) w wr) (fun _ t _ => n - (intOf t).toNat)
  case atStart =>
    refine ⟨0, by omega, rfl, ((Blk.new _ _ _).alloc _).alloc _, ?_, ((Fr.alloc1 _ _ _).alloc _).alloc _⟩
    rw [show wrap64 (sA (vs.take 0)) = 0 by simp [sA, wrap64], show wrap64 (sB (vs.take 0)) = 0 by simp [sB, wrap64]]
    exact blk_at (by simp)
  case round =>
    obtain ⟨k, hk, rfl, hb1, hb2, hfr⟩ := hrel
    by_cases hlt : k < n
    · obtain ⟨v, hv⟩ : ∃ v, vs[k]? = some v := ⟨_, List.getElem?_eq_getElem (by rw [HN.out]; exact hlt)⟩
      obtain ⟨b, o, rfl, hbw, d0, d1, d2⟩ := (HR.out.fr hfr) k v hv
      obtain ⟨a1, ha1⟩ : ∃ x, wrap64 (sA (vs.take k)) = x := ⟨_, rfl⟩
      obtain ⟨a2, ha2⟩ : ∃ x, wrap64 (sB (vs.take k)) = x := ⟨_, rfl⟩
      rw [ha1, ha2] at hb2
      have e0 := hb2.cell 0
      have e1 := hb2.cell 1
      have e2 := hb2.cell 2
      have f1 := hb2.frozen 1
      have f2 := hb2.frozen 2
      have l2 := hb2.lt
      have l5 : w.heap.size + 1 < wr.heap.size := by omega
      have l6 : w.heap.size < wr.heap.size := by omega
      simp at e0 e1 e2
      have HB := Lib.hid (And.intro hb1 (And.intro hb2 (And.intro hfr (And.intro hv (And.intro ha1 ha2)))))
      clear hb1 hb2 hfr hv ha1 ha2
      obtain ⟨bo, ho⟩ : ∃ b, okV v = b := ⟨_, rfl⟩
      have HO := Lib.hid ho
      clear ho
      cases bo with
      | true =>
        go_wp2_with (go_at_call 21; refine (ok_any v _).mono ?_; rintro e w3 ⟨rfl, rfl⟩; rw [HO.out])
        go_roundw
        case rel =>
          refine ⟨k + 1, by omega, by go_num, ?_, ?_, ?_⟩
          · exact ((((HB.out.1.far (p := ⟨w.heap.size + 1 + 1, 1, none⟩) (by simp; omega) _).far (p := ⟨w.heap.size + 1 + 1, 2, none⟩) (by simp; omega) _).alloc _).alloc _)
          · rw [stepA HB.out.2.2.2.1, stepB HB.out.2.2.2.1, HB.out.2.2.2.2.1, HB.out.2.2.2.2.2, HO.out]
            have z := (HB.out.2.1.set_ 1 (.int .i64 (wrap64 (a1 + v.a)))).set_ 2 (.int .i64 (wrap64 (a2 + v.b)))
            exact Blk.alloc (Blk.alloc (by simpa using z) _) _
          · exact ((fr_acc (B := w.heap.size + 1 + 1) (fr_acc (B := w.heap.size + 1 + 1) HB.out.2.2.1 (by omega) _ _) (by omega) _ _).alloc _).alloc _
        case measure => simp [intOf]; omega
      | false =>
        go_wp2_with (go_at_call 21; refine (ok_any v _).mono ?_; rintro e w3 ⟨rfl, rfl⟩; rw [HO.out])
        go_roundw
        case rel =>
          refine ⟨k + 1, by omega, by go_num, (HB.out.1.alloc _).alloc _, ?_, (HB.out.2.2.1.alloc _).alloc _⟩
          rw [stepA HB.out.2.2.2.1, stepB HB.out.2.2.2.1, HB.out.2.2.2.2.1, HB.out.2.2.2.2.2, HO.out, if_neg (by simp), if_neg (by simp), Int.add_zero, Int.add_zero, ← HB.out.2.2.2.2.1, ← HB.out.2.2.2.2.2, wrap_wrap, wrap_wrap, HB.out.2.2.2.2.1, HB.out.2.2.2.2.2]
          exact (HB.out.2.1.alloc _).alloc _
        case measure => simp [intOf]; omega
    · obtain rfl : n = k := by omega
      have z := HN.out
      rw [show vs.take n = vs by rw [← z]; exact List.take_length] at hb2
      have e0 := hb2.cell 0
      have e1 := hb2.cell 1
      have e2 := hb2.cell 2
      have d0 := hb1.cell 0
      have d1 := hb1.cell 1
      have d2 := hb1.cell 2
      have f0 := hb1.frozen 0
      have f1 := hb1.frozen 1
      have f2 := hb1.frozen 2
      have l6 := hb1.lt
      simp at e0 e1 e2 d0 d1 d2
      obtain ⟨a1, ha1⟩ : ∃ x, wrap64 (sA vs) = x := ⟨_, rfl⟩
      obtain ⟨a2, ha2⟩ : ∃ x, wrap64 (sB vs) = x := ⟨_, rfl⟩
      rw [ha1] at e1
      rw [ha2] at e2
      have HB := Lib.hid (And.intro hb1 (And.intro hb2 (And.intro hfr (And.intro ha1 ha2))))
      clear hb1 hb2 hfr ha1 ha2 z
      go_wp2_with fail
      refine bodyPost_ret (v := Val.agg ⟨2, a1, a2⟩) (by simp [results, Tryd.results24, go_sem, d0, d1, d2]) rfl ⟨by unfold sumV; rw [HB.out.2.2.2.1, HB.out.2.2.2.2], ?_⟩
      exact fr_new3 w wr _ (Nat.le_refl _) HB.out.2.2.1 _ _ _
end Go.Proofs.YtadnbkjjdkgfiaaDoor
