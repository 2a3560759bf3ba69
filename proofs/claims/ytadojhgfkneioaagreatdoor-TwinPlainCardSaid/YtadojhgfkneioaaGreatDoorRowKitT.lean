/-
  From a walk to the given row: what the laws of worlds that are kept otherwise share.
-/
import Derived.Test.YtadojhgfkneioaaGreatDoorRowKitG
import Derived.Test.YtadojhgfkneioaaGreatDoorTwnK
import Derived.Test.YtadojhgfkneioaaGreatDoorTwnA
namespace Go.Proofs.YtadojhgfkneioaaGreatDoor
open Go.ChangeShapes Go.WideShapes Go.ChangeAt Go.RowKit Go.Joins Go.Viv
theorem own : ownKnob Tryz.prog.godebug = none := by kernel_rfl
theorem laidOut : laidOutB Tryz.prog = true := by kernel_rfl
theorem gBr : Tryz.prog.globalNamed "math/bits.deBruijn64tab" = some 7 := by kernel_rfl
theorem one3 : Tryz.prog.cellsOf 3 = 1 := by kernel_rfl
theorem lay_met (os : Os) (args : Array Value) : laidMetH Tryz.prog Rows.twinPlainRow.laid ((World.laidAll Tryz.prog os Rows.twinPlainRow.laid).forCall (fun _ _ => 0) ⟨#[], args, []⟩).memory := by
  rw [MakeChecks.laidMetH_plain _ _ _ (by kernel_rfl)]
  exact laidMet_laidAll _ (by kernel_rfl) (by kernel_rfl)
theorem lay_shaped (os : Os) : (World.laidAll Tryz.prog os Rows.twinPlainRow.laid).Shaped Tryz.prog :=
  World.shaped_of_ZipB (by kernel_rfl) (by kernel_rfl)
theorem envT_of_laid {W : World} (h : laidMetH Tryz.prog Rows.twinPlainRow.laid W) : EnvT W := by
  rw [MakeChecks.laidMetH_plain _ _ _ (by kernel_rfl)] at h
  have h1 : laidMet Tryz.prog (("math/bits.deBruijn64tab", Lib.tabData .u8 (deB.map Int.ofNat)) :: []) W := h
  have h2 := Lib.tabIs_of_head (t := 506) (e := 5) (n := 64) gBr (by kernel_rfl) Tryz.underlying506 Tryz.underlying5 (by kernel_rfl) (by kernel_rfl) h1
  unfold Lib.TabIs World.var? at h2
  rw [gBr] at h2
  simp only [Option.bind_some] at h2
  split at h2
  · rename_i cs e fr hh
    simp only [Option.some.injEq] at h2
    exact ⟨e, fr, by rw [hh, h2]; rfl⟩
  · cases h2
theorem max_le {n : Nat} (h : n ≤ maxLen) : n ≤ 9223372036854775807 := by unfold maxLen at h; exact h
theorem cellsAct : Tryz.prog.cellsOf 64 = 10 := by kernel_rfl
theorem cellsVal : Tryz.prog.cellsOf 26 = 3 := by kernel_rfl
theorem slice_form {H : Type} {enc : TypeId × Value → H} {w : World} {base : Nat} {spare : Nat → Bool} {held : Bool} {n : Nat} {t e : TypeId} {cs : List Value} {x : DataW H × List MemPlace} (ht : Tryz.prog.underlying t = some (.slice e))
    (h : DataW.trod enc Tryz.prog w base spare held n t cs = some x) : ∃ a k c, cs = [.slice a k c] := by
  rcases Go.Deep.open_slice ht h with ⟨rfl, _⟩ | ⟨a, len, cap, _, _, _, _, rfl, _⟩
  · exact ⟨none, 0, 0, rfl⟩
  · exact ⟨_, _, _, rfl⟩
/-- One field of a struct. -/
theorem elem_field {H : Type} {enc : TypeId × Value → H} {w : World} {base : Nat} {spare : Nat → Bool} {held : Bool} {n : Nat} {t : TypeId} {fs : Array Field} {cs : List Value} {x : DataW H × List MemPlace} (hs : Tryz.prog.underlying t = some (.struct fs))
    (h : DataW.trod enc Tryz.prog w base spare held n t cs = some x) {j o c : Nat} {u : TypeId} {f : Field} (hj : fs[j]? = some f) (ho : f.offset = o) (hu : f.type = u) (hc : Tryz.prog.cellsOf u = c) :
    ∃ m y, DataW.trod enc Tryz.prog w base spare held m u ((cs.drop o).take c) = some y := by
  obtain ⟨xs, m, _, _, hlen, hxl, hf⟩ := DataW.trod_struct hs h
  have h1 := hf j f hj
  have hlt : j < fs.size := (Array.getElem?_eq_some_iff.1 hj).1
  rw [ho, hu, hc, List.getElem?_eq_getElem (by omega)] at h1
  exact ⟨m, _, h1⟩
/-- An act among the arguments. -/
theorem elem_act {H : Type} {enc : TypeId × Value → H} {w : World} {base : Nat} {spare : Nat → Bool} {held : Bool} (n : Nat) (cs : List Value) (x : DataW H × List MemPlace) (h : DataW.trod enc Tryz.prog w base spare held n 64 cs = some x) :
    ∃ v : Ac, cs = actC v ∧ True := by
  have hlen : cs.length = 10 := by
    obtain ⟨xs, m, _, _, hlen, hxl, hf⟩ := DataW.trod_struct Tryz.underlying64 h
    rw [hlen]; exact cellsAct
  obtain ⟨_, _, f0⟩ := elem_field Tryz.underlying64 h (j := 0) rfl rfl rfl one3
  obtain ⟨_, _, f1⟩ := elem_field Tryz.underlying64 h (j := 1) rfl rfl rfl one3
  obtain ⟨_, _, f2⟩ := elem_field Tryz.underlying64 h (j := 2) rfl rfl rfl one3
  obtain ⟨_, _, f3⟩ := elem_field Tryz.underlying64 h (j := 3) rfl rfl rfl one3
  obtain ⟨_, _, f4⟩ := elem_field Tryz.underlying64 h (j := 4) rfl rfl rfl cellsVal
  obtain ⟨_, _, f5⟩ := elem_field Tryz.underlying64 h (j := 5) (u := 61) (c := 1) rfl rfl rfl (by kernel_rfl)
  obtain ⟨_, _, f6⟩ := elem_field Tryz.underlying64 h (j := 6) (u := 62) (c := 1) rfl rfl rfl (by kernel_rfl)
  obtain ⟨_, _, f7⟩ := elem_field Tryz.underlying64 h (j := 7) (u := 27) (c := 1) rfl rfl rfl (by kernel_rfl)
  obtain ⟨k0, g0, _, _⟩ := DataW.trod_int Tryz.underlying3 f0
  obtain ⟨k1, g1, _, _⟩ := DataW.trod_int Tryz.underlying3 f1
  obtain ⟨k2, g2, _, _⟩ := DataW.trod_int Tryz.underlying3 f2
  obtain ⟨k3, g3, _, _⟩ := DataW.trod_int Tryz.underlying3 f3
  obtain ⟨_, _, v0⟩ := elem_field Tryz.underlying26 f4 (j := 0) (u := 3) rfl rfl rfl one3
  obtain ⟨_, _, v1⟩ := elem_field Tryz.underlying26 f4 (j := 1) (u := 2) (c := 1) rfl rfl rfl (by kernel_rfl)
  obtain ⟨_, _, v2⟩ := elem_field Tryz.underlying26 f4 (j := 2) (u := 2) (c := 1) rfl rfl rfl (by kernel_rfl)
  obtain ⟨m0, u0, _, _⟩ := DataW.trod_int Tryz.underlying3 v0
  obtain ⟨m1, u1, _, _⟩ := DataW.trod_int Tryz.underlying2 v1
  obtain ⟨m2, u2, _, _⟩ := DataW.trod_int Tryz.underlying2 v2
  obtain ⟨a5, l5, c5, g5⟩ := slice_form Tryz.underlying61 f5
  obtain ⟨a6, l6, c6, g6⟩ := slice_form Tryz.underlying62 f6
  obtain ⟨a7, l7, c7, g7⟩ := slice_form Tryz.underlying27 f7
  clear f0 f1 f2 f3 f4 f5 f6 f7 v0 v1 v2
  match cs, hlen with
  | [z0, z1, z2, z3, z4, z5, z6, z7, z8, z9], _ =>
    simp at g0 g1 g2 g3 u0 u1 u2 g5 g6 g7
    subst g0 g1 g2 g3 u0 u1 u2 g5 g6 g7
    exact ⟨⟨k0, k1, k2, k3, m0, m1, m2, a5, l5, c5, a6, l6, c6, a7, l7, c7⟩, rfl, trivial⟩
end Go.Proofs.YtadojhgfkneioaaGreatDoor
