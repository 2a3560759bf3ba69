/-
  Contracts of package code: ok, Check.
-/
import Derived.Test.YtadnbkjjdkgfiaaDoorCodB
namespace Go.Viv
open Go.Lib Go.Proofs.YtadnbkjjdkgfiaaDoor Go.RowKit
structure Insn where
  op : Int
  r : Int
  s : Int
  n : Int
abbrev cellsI (i : Insn) : List Value := [.int .i64 i.op, .int .i64 i.r, .int .i64 i.s, .int .i64 i.n]
abbrev Insn.agg (i : Insn) : Value := .agg #[.int .i64 i.op, .int .i64 i.r, .int .i64 i.s, .int .i64 i.n]
def regOk (named : Bool) (r : Int) : Bool := decide (0 ≤ r) && decide (r < 4) && (named || r == 0)
def insOk (i : Insn) (behind : Int) : Bool := match ofOp i.op with
  | none => false
  | some x => regOk x.r i.r && regOk x.s i.s && (x.n || i.n == 0) && (!x.up || decide (0 ≤ i.n)) && (i.op != 13 || decide (i.n ≤ behind))
end Go.Viv
namespace Go.Proofs.YtadnbkjjdkgfiaaDoor
open Go.RowKit Go.Viv

theorem regok_any (b : Bool) (r : Int) (w : World) : Calls Tryd.prog 74 #[.bool b, .int .i64 r] w fun e w' => e = .returned (.bool (regOk b r)) ∧ w = w' := by
  unfold regOk
  by_cases h0 : 0 ≤ r
  · by_cases h4 : r < 4
    · by_cases hz : r = 0
      · subst hz
        cases b
        all_goals
          go_enter Tryd.func74, Tryd.ntmps74
          go_wp2
          go_ret
          exact ⟨rfl, rfl⟩
      · have hb : (r == 0) = false := by simpa using hz
        rw [hb, decide_eq_true h0, decide_eq_true h4]
        clear hz
        cases b
        all_goals
          go_enter Tryd.func74, Tryd.ntmps74
          go_wp2
          go_ret
          exact ⟨rfl, rfl⟩
    · rw [decide_eq_true h0, decide_eq_false h4]
      have h4' : 4 ≤ r := by omega
      go_enter Tryd.func74, Tryd.ntmps74
      go_wp2
      go_ret
      exact ⟨rfl, rfl⟩
  · rw [decide_eq_false h0]
    have h0' : r < 0 := by omega
    go_enter Tryd.func74, Tryd.ntmps74
    go_wp2
    go_ret
    exact ⟨rfl, rfl⟩

theorem of_some {op : Int} {x : Shp} (h : ofOp op = some x) : ∃ k : Nat, op = k ∧ 1 ≤ k ∧ k ≤ 18 ∧ shapeTab[k]? = some x := by
  unfold ofOp at h
  split at h
  · rename_i hr
    exact ⟨op.toNat, by omega, by omega, by omega, h⟩
  · cases h
theorem of_none {op : Int} (h : ofOp op = none) : op < 1 ∨ 18 < op := by
  unfold ofOp at h
  split at h
  · rename_i hr
    exfalso
    rw [List.getElem?_eq_none_iff] at h
    have e : shapeTab.length = 19 := by decide
    omega
  · omega
theorem of_any (op : Int) (w : World) : Calls Tryd.prog 54 #[.int .i64 op] w fun e w' => e = .returned (.tuple #[((ofOp op).getD ⟨[], false, false, false, false⟩).agg, .bool (ofOp op).isSome]) ∧ Fr (fun _ => False) w w' := by
  cases h : ofOp op with
  | none => exact of_no op w (of_none h)
  | some x =>
    obtain ⟨k, rfl, h1, h2, h3⟩ := of_some h
    exact of_yes k x w h1 h2 h3

theorem blk4z {W : World} {g : Nat} {t : TypeId} {a b c d : Value} (h : Blk W g t #[a, b, c, d]) :
    W.cell? ⟨g, 0, none⟩ = some a ∧ W.cell? ⟨g, 1, none⟩ = some b ∧ W.cell? ⟨g, 2, none⟩ = some c ∧ W.cell? ⟨g, 3, none⟩ = some d :=
  ⟨h.cell 0, h.cell 1, h.cell 2, h.cell 3⟩

/-- What ok answers, its tests known. -/
abbrev OkRes (i : Insn) (bh : Int) (w : World) (r : Bool) : Prop := Calls Tryd.prog 60 #[i.agg, .int .i64 bh] w fun e w' => e = .returned (.bool r) ∧ Fr (fun _ => False) w w'

set_option maxRecDepth 100000 in
set_option maxHeartbeats 4000000 in
theorem ok_walk (i : Insn) (bh : Int) (w : World) (nm : List UInt8) (xr xs xn xu b1 b2 nz ng o13 nb : Bool)
    (HX : Hid (∀ W, Calls Tryd.prog 54 #[.int .i64 i.op] W fun e w' => e = .returned (.tuple #[Shp.agg ⟨nm, xr, xs, xn, xu⟩, .bool true]) ∧ Fr (fun _ => False) W w'))
    (H1 : Hid (∀ W, Calls Tryd.prog 74 #[.bool xr, .int .i64 i.r] W fun e w' => e = .returned (.bool b1) ∧ W = w')) (H2 : Hid (∀ W, Calls Tryd.prog 74 #[.bool xs, .int .i64 i.s] W fun e w' => e = .returned (.bool b2) ∧ W = w'))
    (q3 : (i.n == 0) = nz) (q4 : decide (0 ≤ i.n) = ng) (q6 : (i.op == 13) = o13) (q8 : decide (i.n ≤ bh) = nb) :
    OkRes i bh w (b1 && b2 && (xn || nz) && (!xu || ng) && (!o13 || nb)) := by
  have q3' : (i.n != 0) = !nz := by rw [bne, q3]
  have q6' : (i.op != 13) = !o13 := by rw [bne, q6]
  have q4' : decide (i.n < 0) = !ng := by rw [← q4]; by_cases h : 0 ≤ i.n <;> simp [h] <;> omega
  clear q3 q4 q6
  unfold OkRes
  go_enter Tryd.func60, Tryd.ntmps60
  go_wp2_with fail
  refine (HX.out _).mono ?_
  rintro e w1 ⟨rfl, hf1⟩
  have hbl := (Blk.new w 42 #[.int .i64 i.op, .int .i64 i.r, .int .i64 i.s, .int .i64 i.n]).fr hf1 (fun h => h)
  obtain ⟨c0, c1, c2, c3⟩ := blk4z hbl
  have lt := Blk.lt hbl
  have HF := Lib.hid (fr_two (Fr.alloc1 _ _ _) hf1)
  clear hf1 hbl
  cases b1
  · go_wp2_with (go_at_call 74; refine (H1.out _).mono ?_; rintro e w2 ⟨rfl, rfl⟩)
    go_ret
    exact ⟨rfl, HF.out.alloc _⟩
  · go_wp2_with fail
    refine (H1.out _).mono ?_
    rintro e w2 ⟨rfl, rfl⟩
    cases b2
    · go_wp2_with (go_at_call 74; refine (H2.out _).mono ?_; rintro e w2 ⟨rfl, rfl⟩)
      go_ret
      exact ⟨rfl, HF.out.alloc _⟩
    · go_wp2_with fail
      refine (H2.out _).mono ?_
      rintro e w2 ⟨rfl, rfl⟩
      cases xn <;> cases nz <;> cases xu <;> cases ng <;> cases o13
      all_goals
        go_wp2
        go_ret
        exact ⟨by simp, HF.out.alloc _⟩

theorem ok_ins (i : Insn) (bh : Int) (w : World) : OkRes i bh w (insOk i bh) := by
  unfold insOk
  cases hx : ofOp i.op with
  | none =>
    have HX := Lib.hid (fun W => of_any i.op W)
    have HO := Lib.hid hx
    clear hx
    unfold OkRes
    go_enter Tryd.func60, Tryd.ntmps60
    go_wp2_with (go_at_call 54; refine (HX.out _).mono ?_; rintro e w1 ⟨rfl, hf1⟩; rw [HO.out]; have HF := Lib.hid hf1; clear hf1)
    go_ret
    exact ⟨rfl, (fr_two (Fr.alloc1 _ _ _) HF.out).alloc _⟩
  | some x =>
    obtain ⟨nm, xr, xs, xn, xu⟩ := x
    exact ok_walk i bh w nm xr xs xn xu _ _ _ _ _ _ (Lib.hid fun W => by have := of_any i.op W; rw [hx] at this; exact this) (Lib.hid fun W => regok_any _ _ _) (Lib.hid fun W => regok_any _ _ _) rfl rfl rfl rfl
end Go.Proofs.YtadnbkjjdkgfiaaDoor
