/-
  Contracts of package plan: check, Check.
-/
import Derived.Test.YtibailpbjdfjfaaDoorPlnC
namespace Go.Viv
open Go.Lib Go.RowKit
theorem colE_1 {n : Int} {k c : Int} {a : List Coln} (h : k < 1 ∨ 5 < k ∨ (k = 5 ∧ c ≠ 0)) : colE n ⟨k, c⟩ a = 1 := by unfold colE; rw [if_pos h]
theorem colE_11 {n : Int} {k c : Int} {a : List Coln} (h1 : 1 ≤ k) (h5 : k ≤ 4) (h : c < 0 ∨ n ≤ c) : colE n ⟨k, c⟩ a = 11 := by
  unfold colE; rw [if_neg (by simp; omega), if_pos (by simp; omega)]
theorem colE_more {n : Int} {k c : Int} {a : List Coln} (h1 : 1 ≤ k) (h5 : k ≤ 4) (h : 0 ≤ c) (hn : c < n) : colE n ⟨k, c⟩ a = if a.any (fun x => ((x.k == 5) == false) && x.c == c) then 15 else 0 := by
  unfold colE; rw [if_neg (by simp; omega), if_neg (by simp; omega)]
  have e : (fun x => twiceB x ⟨k, c⟩) = (fun x => ((x.k == 5) == false) && x.c == c) := by
    funext x
    unfold twiceB
    rw [show (k == 5) = false from beq_eq_false_iff_ne.2 (by omega)]
  rw [e]
theorem colE_five {n : Int} {a : List Coln} : colE n ⟨5, 0⟩ a = if a.any (fun x => ((x.k == 5) == true) && x.c == 0) then 15 else 0 := by
  unfold colE; rw [if_neg (by simp), if_neg (by simp)]
  rfl
end Go.Viv
namespace Go.Proofs.YtibailpbjdfjfaaDoor
open Go.RowKit Go.Viv
theorem enter34 (args : Array Value) (W : World) : (callFunc 34 args).run Tryd.prog W = .ok (.enter 34 args) W := by kernel_rfl
theorem enter26 (args : Array Value) (W : World) : (callFunc 26 args).run Tryd.prog W = .ok (.enter 26 args) W := by kernel_rfl
/-- What the closure asks, of a column ahead. -/
theorem twice_row (all : Bool) (y : Coln) (l : List Coln) (A : Option Addr) (cap B C : Nat) (w : World) (hr : RowC w A (l.flatMap cellsK)) (hn : l.length ≤ cap) (hc : cap ≤ 9223372036854775807) (ha : w.cell? ⟨B, 0, none⟩ = some (.bool all)) (hy : w.cell? ⟨C, 1, none⟩ = some (.int .i64 y.c)) :
    Calls Tryd.prog 25 #[.slice A l.length cap, .func (.func 34) #[] #[.pointer (some ⟨B, 0, none⟩), .pointer (some ⟨C, 0, none⟩)]] w fun e w' => e = .returned (.bool (l.any fun x => ((x.k == 5) == all) && x.c == y.c)) ∧ Fr (fun _ => False) w w' :=
  cont_col _ _ _ l A cap w hr hn hc enter34 (fun W x hW => twice_any x y all B C W (cell_fr ha hW) (cell_fr hy hW))
set_option maxRecDepth 100000 in
set_option maxHeartbeats 1000000 in
theorem colcheck_any (n : Nat) (D : Option Addr) (dc : Nat) (y : Coln) (l : List Coln) (A : Option Addr) (cap : Nat) (w : World) (hr : RowC w A (l.flatMap cellsK)) (hn : l.length ≤ cap) (hc : cap ≤ 9223372036854775807) (_hm : n ≤ 9223372036854775807) :
    Calls Tryd.prog 24 #[.slice D n dc, y.agg, .slice A l.length cap] w fun e w' => e = .returned (.int .i64 (colE n y l)) ∧ Fr (fun _ => False) w w' := by
  obtain ⟨k, c⟩ := y
  have HR := Lib.hid hr
  have HN := Lib.hid (And.intro hn hc)
  clear hr hn hc
  obtain ⟨m, hml⟩ : ∃ m, l.length = m := ⟨_, rfl⟩
  have HM := Lib.hid hml
  rw [hml]
  clear hml
  have tail : ∀ all : Bool, Calls Tryd.prog 25 #[.slice A m cap, .func (.func 34) #[] #[.pointer (some ⟨w.heap.size + 1, 0, none⟩), .pointer (some ⟨w.heap.size, 0, none⟩)]] ((w.alloc (.cells #[.int .i64 k, .int .i64 c] 43)).alloc (.cells #[.bool all] 4)) fun e w' => e = .returned (.bool (l.any fun x => ((x.k == 5) == all) && x.c == c)) ∧ Fr (fun _ => False) w w' := by
    intro all
    rw [← HM.out]
    have hb := (Blk.new w 43 #[.int .i64 k, .int .i64 c])
    have hb2 := hb.alloc (.cells #[.bool all] 4)
    have hfr : Fr (fun _ => False) w ((w.alloc (.cells #[.int .i64 k, .int .i64 c] 43)).alloc (.cells #[.bool all] 4)) := (Fr.alloc1 _ _ _).alloc _
    refine (twice_row all ⟨k, c⟩ l A cap (w.heap.size + 1) w.heap.size _ (HR.out.fr hfr) HN.out.1 HN.out.2 ?_ ?_).mono ?_
    · simp
    · exact hb2.cell 1
    · rintro e w' ⟨h1, h2⟩
      exact ⟨h1, fr_two hfr h2⟩
  have HT := Lib.hid tail
  clear tail
  by_cases h1 : k < 1
  · have HE := Lib.hid (colE_1 (n := n) (a := l) (.inl h1) (c := c))
    have h5 : (k == 5) = false := beq_eq_false_iff_ne.2 (by omega)
    go_enter Tryd.func24, Tryd.ntmps24
    go_wp2
    go_ret
    exact ⟨by rw [HE.out]; rfl, (Fr.alloc1 _ _ _).alloc _⟩
  · by_cases h2 : 5 < k
    · have HE := Lib.hid (colE_1 (n := n) (a := l) (.inr (.inl h2)) (c := c))
      have h5 : (k == 5) = false := beq_eq_false_iff_ne.2 (by omega)
      go_enter Tryd.func24, Tryd.ntmps24
      go_wp2
      go_ret
      exact ⟨by rw [HE.out]; rfl, (Fr.alloc1 _ _ _).alloc _⟩
    · by_cases h5 : k = 5
      · subst h5
        clear h1 h2
        by_cases h0 : c = 0
        · subst h0
          have HE := Lib.hid (colE_five (n := n) (a := l))
          have HT1 := Lib.hid (HT.out true)
          obtain ⟨t, ht⟩ : ∃ t, (l.any fun x => ((x.k == 5) == true) && x.c == 0) = t := ⟨_, rfl⟩
          rw [ht] at HE HT1
          clear ht
          cases t
          all_goals
            go_enter Tryd.func24, Tryd.ntmps24
            go_wp2_with fail
            refine HT1.out.mono ?_
            rintro e w2 ⟨rfl, hf2⟩
            have H2 := Lib.hid hf2
            clear hf2
            go_wp2
            go_ret
            exact ⟨by rw [HE.out]; rfl, H2.out⟩
        · have HE := Lib.hid (colE_1 (n := n) (a := l) (.inr (.inr ⟨rfl, h0⟩)) (c := c))
          have h0' : (c != 0) = true := bne_iff_ne.2 h0
          clear h0
          go_enter Tryd.func24, Tryd.ntmps24
          go_wp2
          go_ret
          exact ⟨by rw [HE.out]; rfl, (Fr.alloc1 _ _ _).alloc _⟩
      · have h5' : (k == 5) = false := beq_eq_false_iff_ne.2 h5
        have g1 : 1 ≤ k := by omega
        have g4 : k ≤ 4 := by omega
        have g5 : k ≤ 5 := by omega
        clear h5
        by_cases h0 : c < 0
        · have HE := Lib.hid (colE_11 (n := n) (a := l) g1 g4 (.inl h0) (c := c))
          go_enter Tryd.func24, Tryd.ntmps24
          go_wp2
          go_ret
          exact ⟨by rw [HE.out]; rfl, (Fr.alloc1 _ _ _).alloc _⟩
        · have g0 : 0 ≤ c := by omega
          by_cases hnc : (n : Int) ≤ c
          · have HE := Lib.hid (colE_11 (n := n) (a := l) g1 g4 (.inr hnc) (c := c))
            go_enter Tryd.func24, Tryd.ntmps24
            go_wp2
            go_ret
            exact ⟨by rw [HE.out]; rfl, (Fr.alloc1 _ _ _).alloc _⟩
          · have gn : c < n := by omega
            have HE := Lib.hid (colE_more (a := l) g1 g4 g0 gn)
            have HT1 := Lib.hid (HT.out false)
            obtain ⟨t, ht⟩ : ∃ t, (l.any fun x => ((x.k == 5) == false) && x.c == c) = t := ⟨_, rfl⟩
            rw [ht] at HE HT1
            clear ht
            cases t
            all_goals
              go_enter Tryd.func24, Tryd.ntmps24
              go_wp2_with fail
              refine HT1.out.mono ?_
              rintro e w2 ⟨rfl, hf2⟩
              have H2 := Lib.hid hf2
              clear hf2
              go_wp2
              go_ret
              exact ⟨by rw [HE.out]; rfl, H2.out⟩
end Go.Proofs.YtibailpbjdfjfaaDoor
