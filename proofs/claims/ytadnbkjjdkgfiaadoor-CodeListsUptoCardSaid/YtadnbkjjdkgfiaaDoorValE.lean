/-
  Contracts of package value: Parse.
-/
import Derived.Test.YtadnbkjjdkgfiaaDoorValC
namespace Go.Viv
/-- A text's value. -/
def parseV (l : List UInt8) : Option Val :=
  if l = [42] then some ⟨3, 0, 0⟩ else
  match cutC l with
  | none => (num l).map (fun a => ⟨1, a, 0⟩)
  | some p => match num p.1, num p.2 with
    | some a, some b => some ⟨2, a, b⟩
    | _, _ => none
end Go.Viv
namespace Go.Proofs.YtadnbkjjdkgfiaaDoor
open Go.RowKit Go.Viv

theorem Number_l (l : List UInt8) (w : World) (he : Env w) (hs : l.length ≤ 281474976710656) :
    Calls Tryd.prog 44 #[str l] w fun e w' => e = .returned (.tuple #[.int .i64 ((num l).getD 0), .bool (num l).isSome]) ∧ Fr (fun _ => False) w w' := by
  have := Number_any ⟨l.toArray⟩ w he (by rw [size_str]; exact hs)
  rw [data_str] at this
  exact this

/-- The result's own cells, in a world behind calls. -/
structure Res (w : World) (L : Nat) (a b c : Int) : Prop where
  blk : Blk w L 24 #[.int .i64 a, .int .i64 b, .int .i64 c]
theorem Res.cells {w : World} {L : Nat} {a b c : Int} (h : Res w L a b c) : (w.cell? ⟨L, 0, none⟩ = some (.int .i64 a) ∧ w.cell? ⟨L, 1, none⟩ = some (.int .i64 b) ∧ w.cell? ⟨L, 2, none⟩ = some (.int .i64 c)) ∧ (w.frozen? ⟨L, 0, none⟩ = false ∧ w.frozen? ⟨L, 1, none⟩ = false ∧ w.frozen? ⟨L, 2, none⟩ = false) ∧ L < w.heap.size :=
  ⟨⟨by rw [h.blk.cell]; rfl, by rw [h.blk.cell]; rfl, by rw [h.blk.cell]; rfl⟩, ⟨h.blk.frozen 0, h.blk.frozen 1, h.blk.frozen 2⟩, h.blk.lt⟩
theorem Res.fr {w w' : World} {L : Nat} {a b c : Int} (h : Res w L a b c) (hf : Fr (fun _ => False) w w') : Res w' L a b c := ⟨h.blk.fr hf (fun h => h)⟩
theorem Res.new (w : World) (a b c : Int) : Res (w.alloc (.cells #[.int .i64 a, .int .i64 b, .int .i64 c] 24)) w.heap.size a b c := ⟨Blk.new _ _ _⟩
theorem fr_new3 (w w1 : World) (L : Nat) (hL : w.heap.size ≤ L) (h : Fr (fun _ => False) w w1) (a b c : Value) : Fr (fun _ => False) w (((w1.setCell ⟨L, 0, none⟩ a).setCell ⟨L, 1, none⟩ b).setCell ⟨L, 2, none⟩ c) := by
  refine Fr.setCell (Fr.setCell (Fr.setCell h ?_ _) ?_ _) ?_ _ <;> exact .inr hL

theorem parse_star (w : World) : Calls Tryd.prog 17 #[str [42]] w fun e w' => e = .returned (.tuple #[Val.agg ⟨3, 0, 0⟩, .bool true]) ∧ Fr (fun _ => False) w w' := by
  go_enter Tryd.func17, Tryd.ntmps17
  go_wp2_with (go_at_call 16; refine (tag_any _).mono ?_; rintro e w' ⟨rfl, rfl⟩)
  exact bodyPost_ret (v := .tuple #[Val.agg ⟨3, 0, 0⟩, .bool true]) (by simp [results, Tryd.results17, go_sem]) rfl ⟨rfl, ((Fr.refl _ _).alloc _).alloc _⟩

set_option maxRecDepth 100000 in
theorem parse_int (l : List UInt8) (w : World) (he : Env w) (hs : l.length ≤ 281474976710656) (h42 : (l == [42]) = false) (a : Int) (hc : cutC l = none) (hn : num l = some a) :
    Calls Tryd.prog 17 #[str l] w fun e w' => e = .returned (.tuple #[Val.agg ⟨1, a, 0⟩, .bool true]) ∧ Fr (fun _ => False) w w' := by
  have HE := Lib.hid he
  have HC := Lib.hid (fun W => cut_any l W (by omega))
  have HN := Lib.hid (fun W (h : Env W) => Number_l l W h hs)
  have HQ := Lib.hid (And.intro hc hn)
  clear he hc hn
  go_enter Tryd.func17, Tryd.ntmps17
  go_wp2_with fail
  refine (HC.out _).mono ?_
  rintro e w1 ⟨rfl, hf1⟩
  rw [HQ.out.1]
  have r1 := (Res.new w 0 0 0).fr hf1
  have H1 := Lib.hid (And.intro hf1 r1)
  clear hf1 r1
  go_wp2_with fail
  refine (HN.out _ ((HE.out.alloc _).fr H1.out.1)).mono ?_
  rintro e w2 ⟨rfl, hf2⟩
  rw [HQ.out.2]
  have r2 := H1.out.2.fr hf2
  obtain ⟨⟨c0, c1, c2⟩, ⟨f0, f1, f2⟩, lt⟩ := r2.cells
  have H2 := Lib.hid (fr_no H1.out.1 hf2)
  clear hf2 r2
  go_wp2_with (go_at_call 14; refine (int_any _ _).mono ?_; rintro e w3 ⟨rfl, rfl⟩)
  refine bodyPost_ret (v := .tuple #[Val.agg ⟨1, a, 0⟩, .bool true]) (by simp [results, Tryd.results17, go_sem, c0, c1, c2, lt]) rfl ⟨rfl, ?_⟩
  exact (fr_new3 w w2 _ (Nat.le_refl _) (fr_no (Fr.alloc1 _ _ _) H2.out) _ _ _).alloc _

set_option maxRecDepth 100000 in
theorem parse_off (l : List UInt8) (w : World) (he : Env w) (hs : l.length ≤ 281474976710656) (h42 : (l == [42]) = false) (hc : cutC l = none) (hn : num l = none) :
    Calls Tryd.prog 17 #[str l] w fun e w' => e = .returned (.tuple #[Val.agg ⟨0, 0, 0⟩, .bool false]) ∧ Fr (fun _ => False) w w' := by
  have HE := Lib.hid he
  have HC := Lib.hid (fun W => cut_any l W (by omega))
  have HN := Lib.hid (fun W (h : Env W) => Number_l l W h hs)
  have HM := Lib.hid (fun W (h : Env W) => Number_l [] W h (by simp))
  have HQ := Lib.hid (And.intro hc hn)
  have HZ := Lib.hid (show num [] = none from rfl)
  clear he hc hn
  go_enter Tryd.func17, Tryd.ntmps17
  go_wp2_with fail
  refine (HC.out _).mono ?_
  rintro e w1 ⟨rfl, hf1⟩
  rw [HQ.out.1]
  have r1 := (Res.new w 0 0 0).fr hf1
  have H1 := Lib.hid (And.intro hf1 r1)
  clear hf1 r1
  go_wp2_with fail
  refine (HN.out _ ((HE.out.alloc _).fr H1.out.1)).mono ?_
  rintro e w2 ⟨rfl, hf2⟩
  rw [HQ.out.2]
  have H2 := Lib.hid (And.intro (fr_no H1.out.1 hf2) (H1.out.2.fr hf2))
  clear hf2
  go_wp2_with fail
  refine (HM.out _ ((HE.out.alloc _).fr H2.out.1)).mono ?_
  rintro e w3 ⟨rfl, hf3⟩
  rw [HZ.out]
  have r3 := H2.out.2.fr hf3
  obtain ⟨⟨c0, c1, c2⟩, ⟨f0, f1, f2⟩, lt⟩ := r3.cells
  have H3 := Lib.hid (fr_no H2.out.1 hf3)
  clear hf3 r3
  go_wp2
  refine bodyPost_ret (v := .tuple #[Val.agg ⟨0, 0, 0⟩, .bool false]) (by simp [results, Tryd.results17, go_sem, c0, c1, c2]) rfl ⟨rfl, ?_⟩
  exact fr_new3 w w3 _ (Nat.le_refl _) (fr_no (Fr.alloc1 _ _ _) H3.out) _ _ _

theorem cut_le {l a b : List UInt8} (h : cutC l = some (a, b)) : a.length ≤ l.length ∧ b.length ≤ l.length := by
  obtain ⟨e, _⟩ := cutC_some h
  rw [e]
  simp
  omega

set_option maxRecDepth 100000 in
theorem parse_pair (l x y : List UInt8) (w : World) (he : Env w) (hs : l.length ≤ 281474976710656) (h42 : (l == [42]) = false) (hc : cutC l = some (x, y)) (a b : Int) (hx : num x = some a) (hy : num y = some b) :
    Calls Tryd.prog 17 #[str l] w fun e w' => e = .returned (.tuple #[Val.agg ⟨2, a, b⟩, .bool true]) ∧ Fr (fun _ => False) w w' := by
  have HE := Lib.hid he
  have hle := cut_le hc
  have HC := Lib.hid (fun W => cut_any l W (by omega))
  have HN := Lib.hid (fun W (h : Env W) => Number_l x W h (by omega))
  have HM := Lib.hid (fun W (h : Env W) => Number_l y W h (by omega))
  have HQ := Lib.hid (And.intro hc (And.intro hx hy))
  clear he hc hx hy hle
  go_enter Tryd.func17, Tryd.ntmps17
  go_wp2_with fail
  refine (HC.out _).mono ?_
  rintro e w1 ⟨rfl, hf1⟩
  rw [HQ.out.1]
  have r1 := (Res.new w 0 0 0).fr hf1
  have H1 := Lib.hid (And.intro hf1 r1)
  clear hf1 r1
  go_wp2_with fail
  refine (HN.out _ ((HE.out.alloc _).fr H1.out.1)).mono ?_
  rintro e w2 ⟨rfl, hf2⟩
  rw [HQ.out.2.1]
  have H2 := Lib.hid (And.intro (fr_no H1.out.1 hf2) (H1.out.2.fr hf2))
  clear hf2
  go_wp2_with fail
  refine (HM.out _ ((HE.out.alloc _).fr H2.out.1)).mono ?_
  rintro e w3 ⟨rfl, hf3⟩
  rw [HQ.out.2.2]
  have r3 := H2.out.2.fr hf3
  obtain ⟨⟨c0, c1, c2⟩, ⟨f0, f1, f2⟩, lt⟩ := r3.cells
  have H3 := Lib.hid (fr_no H2.out.1 hf3)
  clear hf3 r3
  go_wp2_with (go_at_call 15; refine (pair_any _ _ _).mono ?_; rintro e w4 ⟨rfl, rfl⟩)
  refine bodyPost_ret (v := .tuple #[Val.agg ⟨2, a, b⟩, .bool true]) (by simp [results, Tryd.results17, go_sem, c0, c1, c2, lt]) rfl ⟨rfl, ?_⟩
  exact (fr_new3 w w3 _ (Nat.le_refl _) (fr_no (Fr.alloc1 _ _ _) H3.out) _ _ _).alloc _

set_option maxRecDepth 100000 in
theorem parse_bad (l x y : List UInt8) (w : World) (he : Env w) (hs : l.length ≤ 281474976710656) (h42 : (l == [42]) = false) (hc : cutC l = some (x, y)) (p q : Option Int) (hx : num x = p) (hy : num y = q) (hpq : (p.isSome && q.isSome) = false) :
    Calls Tryd.prog 17 #[str l] w fun e w' => e = .returned (.tuple #[Val.agg ⟨0, 0, 0⟩, .bool false]) ∧ Fr (fun _ => False) w w' := by
  have HE := Lib.hid he
  have hle := cut_le hc
  have HC := Lib.hid (fun W => cut_any l W (by omega))
  have HN := Lib.hid (fun W (h : Env W) => Number_l x W h (by omega))
  have HM := Lib.hid (fun W (h : Env W) => Number_l y W h (by omega))
  have HQ := Lib.hid (And.intro hc (And.intro hx hy))
  clear he hc hx hy hle
  go_enter Tryd.func17, Tryd.ntmps17
  go_wp2_with fail
  refine (HC.out _).mono ?_
  rintro e w1 ⟨rfl, hf1⟩
  rw [HQ.out.1]
  have r1 := (Res.new w 0 0 0).fr hf1
  have H1 := Lib.hid (And.intro hf1 r1)
  clear hf1 r1
  go_wp2_with fail
  refine (HN.out _ ((HE.out.alloc _).fr H1.out.1)).mono ?_
  rintro e w2 ⟨rfl, hf2⟩
  rw [HQ.out.2.1]
  have H2 := Lib.hid (And.intro (fr_no H1.out.1 hf2) (H1.out.2.fr hf2))
  clear hf2
  go_wp2_with fail
  refine (HM.out _ ((HE.out.alloc _).fr H2.out.1)).mono ?_
  rintro e w3 ⟨rfl, hf3⟩
  rw [HQ.out.2.2]
  have r3 := H2.out.2.fr hf3
  obtain ⟨⟨c0, c1, c2⟩, ⟨f0, f1, f2⟩, lt⟩ := r3.cells
  have H3 := Lib.hid (fr_no H2.out.1 hf3)
  clear hf3 r3
  rcases p with _ | p
  · go_wp2
    refine bodyPost_ret (v := .tuple #[Val.agg ⟨0, 0, 0⟩, .bool false]) (by simp [results, Tryd.results17, go_sem, c0, c1, c2]) rfl ⟨rfl, ?_⟩
    exact fr_new3 w w3 _ (Nat.le_refl _) (fr_no (Fr.alloc1 _ _ _) H3.out) _ _ _
  · rcases q with _ | q
    · go_wp2
      refine bodyPost_ret (v := .tuple #[Val.agg ⟨0, 0, 0⟩, .bool false]) (by simp [results, Tryd.results17, go_sem, c0, c1, c2]) rfl ⟨rfl, ?_⟩
      exact fr_new3 w w3 _ (Nat.le_refl _) (fr_no (Fr.alloc1 _ _ _) H3.out) _ _ _
    · simp at hpq

theorem parse_any (l : List UInt8) (w : World) (he : Env w) (hs : l.length ≤ 281474976710656) :
    Calls Tryd.prog 17 #[str l] w fun e w' => e = .returned (.tuple #[((parseV l).getD Val.zero).agg, .bool (parseV l).isSome]) ∧ Fr (fun _ => False) w w' := by
  by_cases h42 : l = [42]
  · subst h42
    exact parse_star w
  · have hb : (l == [42]) = false := by simpa using h42
    cases hc : cutC l with
    | none =>
      cases hn : num l with
      | none =>
        have hp : parseV l = none := by unfold parseV; rw [if_neg h42, hc]; simp [hn]
        rw [hp]
        exact parse_off l w he hs hb hc hn
      | some a =>
        have hp : parseV l = some ⟨1, a, 0⟩ := by unfold parseV; rw [if_neg h42, hc]; simp [hn]
        rw [hp]
        exact parse_int l w he hs hb a hc hn
    | some p =>
      obtain ⟨x, y⟩ := p
      cases hx : num x with
      | none =>
        have hp : parseV l = none := by unfold parseV; rw [if_neg h42, hc]; simp [hx]
        rw [hp]
        exact parse_bad l x y w he hs hb hc none _ hx rfl rfl
      | some a =>
        cases hy : num y with
        | none =>
          have hp : parseV l = none := by unfold parseV; rw [if_neg h42, hc]; simp [hx, hy]
          rw [hp]
          exact parse_bad l x y w he hs hb hc (some a) none hx hy rfl
        | some b =>
          have hp : parseV l = some ⟨2, a, b⟩ := by unfold parseV; rw [if_neg h42, hc]; simp [hx, hy]
          rw [hp]
          exact parse_pair l x y w he hs hb hc a b hx hy
end Go.Proofs.YtadnbkjjdkgfiaaDoor
