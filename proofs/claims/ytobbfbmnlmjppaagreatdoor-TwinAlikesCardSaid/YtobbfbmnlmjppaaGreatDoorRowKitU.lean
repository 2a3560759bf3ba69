/-
  From a walk to the given row: a world's configuration among the arguments.
-/
import Derived.Test.YtobbfbmnlmjppaaGreatDoorRowKitG
import Derived.Test.YtobbfbmnlmjppaaGreatDoorTwnK
import Derived.Test.YtobbfbmnlmjppaaGreatDoorAll
namespace Go.Viv
open Go.ChangeShapes Go.WideShapes Go.RowKit
/-- A struct among the arguments: its cells are of the types that its fields say. -/
theorem okWide_cell {P : Program} {w : World} {base : Nat} {t : TypeId} {fs : Array Field} {ts : List TypeId} (hs : P.underlying t = some (.struct fs)) (hts : P.cellTypes P.depth t = some ts) {v : Value} (h : Value.okWide P w .any base t v) :
    ∃ cs, v = .agg cs ∧ cs.size = P.cellsOf t ∧ ∀ i u x, i < ts.length → cs[i]? = some x → ts[i]? = some u → Cell.okWide P w .any base u x := by
  simp only [Value.okWide, hs] at h
  obtain ⟨cs, h1, h2, ts', h3, _, h4⟩ := h
  refine ⟨cs, h1, h2, fun i u x hi hx hu => ?_⟩
  rw [hts] at h3
  cases h3
  obtain ⟨u', hu', ho⟩ := h4 i x hx
  rw [Nat.mod_eq_of_lt hi, hu] at hu'
  cases hu'
  exact ho
theorem slice_spot {P : Program} {w : World} {base : Nat} {t e : TypeId} (ht : P.underlying t = some (.slice e)) {a : Addr} {n c : Nat} (h : Cell.okWide P w .any base t (.slice (some a) n c)) : ∃ b o, a = ⟨b, o, none⟩ := by
  simp only [Cell.okWide, ht, Cell.ok] at h
  obtain ⟨_, _, _, hs, _⟩ := h
  obtain ⟨b, o, s⟩ := a
  simp only at hs
  subst hs
  exact ⟨b, o, rfl⟩
theorem rowI_ints' {w : World} {A : Option Addr} {l : List Int} (h : RowC w A (l.flatMap fun n => [Value.int .i64 n])) : RowC w A (ints l) := by
  have e : ∀ m : List Int, (m.flatMap fun n => [Value.int .i64 n]) = ints m := fun m => by
    unfold ints
    induction m with
    | nil => rfl
    | cons x r ih => rw [List.flatMap_cons, List.map_cons, ih]; rfl
  rw [← e]; exact h
end Go.Viv
namespace Go.Proofs.YtobbfbmnlmjppaaGreatDoor
open Go.ChangeShapes Go.WideShapes Go.ChangeAt Go.RowKit Go.Joins Go.Viv
theorem own : ownKnob Tryz.prog.godebug = none := by kernel_rfl
theorem laidOut : laidOutB Tryz.prog = true := by kernel_rfl
theorem gBr : Tryz.prog.globalNamed "math/bits.deBruijn64tab" = some 0 := by kernel_rfl
theorem one3 : Tryz.prog.cellsOf 3 = 1 := by kernel_rfl
theorem lay_met (os : Os) (args : Array Value) : laidMetH Tryz.prog Rows.twinAlikesRow.laid ((World.laidAll Tryz.prog os Rows.twinAlikesRow.laid).forCall (fun _ _ => 0) ⟨#[], args, []⟩).memory := by
  rw [MakeChecks.laidMetH_plain _ _ _ (by kernel_rfl)]
  exact laidMet_laidAll _ (by kernel_rfl) (by kernel_rfl)
theorem lay_shaped (os : Os) : (World.laidAll Tryz.prog os Rows.twinAlikesRow.laid).Shaped Tryz.prog :=
  World.shaped_of_ZipB (by kernel_rfl) (by kernel_rfl)
theorem envT_of_laid {W : World} (h : laidMetH Tryz.prog Rows.twinAlikesRow.laid W) : EnvT W := by
  rw [MakeChecks.laidMetH_plain _ _ _ (by kernel_rfl)] at h
  have h1 : laidMet Tryz.prog (("math/bits.deBruijn64tab", Lib.tabData .u8 (deB.map Int.ofNat)) :: []) W := h
  have h2 := Lib.tabIs_of_head (t := 339) (e := 5) (n := 64) gBr (by kernel_rfl) Tryz.underlying339 Tryz.underlying5 (by kernel_rfl) (by kernel_rfl) h1
  unfold Lib.TabIs World.var? at h2
  rw [gBr] at h2
  simp only [Option.bind_some] at h2
  split at h2
  · rename_i cs e fr hh
    simp only [Option.some.injEq] at h2
    exact ⟨e, fr, by rw [hh, h2]; rfl⟩
  · cases h2
theorem max_le {n : Nat} (h : n ≤ maxLen) : n ≤ 9223372036854775807 := by unfold maxLen at h; exact h
theorem slice_form {H : Type} {enc : TypeId × Value → H} {w : World} {base : Nat} {spare : Nat → Bool} {held : Bool} {n : Nat} {t e : TypeId} {cs : List Value} {x : DataW H × List MemPlace} (ht : Tryz.prog.underlying t = some (.slice e))
    (h : DataW.trod enc Tryz.prog w base spare held n t cs = some x) : ∃ a k c, cs = [.slice a k c] := by
  rcases Go.Deep.open_slice ht h with ⟨rfl, _⟩ | ⟨a, len, cap, _, _, _, _, rfl, _⟩
  · exact ⟨none, 0, 0, rfl⟩
  · exact ⟨_, _, _, rfl⟩
/-- One field of a struct. -/
theorem elem_field {H : Type} {enc : TypeId × Value → H} {w : World} {base : Nat} {spare : Nat → Bool} {held : Bool} {n : Nat} {t : TypeId} {fs : Array Field} {cs : List Value} {x : DataW H × List MemPlace} (hs : Tryz.prog.underlying t = some (.struct fs))
    (h : DataW.trod enc Tryz.prog w base spare held n t cs = some x) {j o c : Nat} {u : TypeId} {f : Field} (hj : fs[j]? = some f) (ho : f.offset = o) (hu : f.type = u) (hc : Tryz.prog.cellsOf u = c) :
    ∃ m y, DataW.trod enc Tryz.prog w base spare held m u ((cs.drop o).take c) = some y := by
  obtain ⟨xs, m, _, _, hlen, hxl, hf⟩ := DataW.trod_struct hs h
  have h1 := hf j f hj
  have hlt : j < fs.size := (Array.getElem?_eq_some_iff.1 hj).1
  rw [ho, hu, hc, List.getElem?_eq_getElem (by omega)] at h1
  exact ⟨m, _, h1⟩
theorem cells64 : Tryz.prog.cellsOf 2 = 1 := by kernel_rfl
theorem cellsDesc : Tryz.prog.cellsOf 52 = 3 := by kernel_rfl
theorem cellsCf : Tryz.prog.cellsOf 50 = 4 := by kernel_rfl
theorem elem_desc {H : Type} {enc : TypeId × Value → H} {w : World} {base : Nat} {spare : Nat → Bool} {held : Bool} (n : Nat) (cs : List Value) (x : DataW H × List MemPlace) (h : DataW.trod enc Tryz.prog w base spare held n 52 cs = some x) :
    ∃ v : Dc, cs = descC v ∧ True := by
  obtain ⟨ns, h1, h2, h3⟩ := elem_ints Tryz.underlying52 (by
    rintro (_ | _ | _ | j) f hj
    · obtain rfl := Option.some.inj hj
      exact ⟨rfl, one3, Tryz.underlying3⟩
    · obtain rfl := Option.some.inj hj
      exact ⟨rfl, one3, Tryz.underlying3⟩
    · obtain rfl := Option.some.inj hj
      exact ⟨rfl, one3, Tryz.underlying3⟩
    · simp at hj) cellsDesc h
  match ns, h2 with
  | [a, b, c], _ => exact ⟨⟨a, b, c⟩, h1, trivial⟩
theorem elem_i64 {H : Type} {enc : TypeId × Value → H} {w : World} {base : Nat} {spare : Nat → Bool} {held : Bool} (n : Nat) (cs : List Value) (x : DataW H × List MemPlace) (h : DataW.trod enc Tryz.prog w base spare held n 2 cs = some x) :
    ∃ v : Int, cs = [Value.int .i64 v] ∧ True := by
  obtain ⟨k, g, _, _⟩ := DataW.trod_int Tryz.underlying2 h
  exact ⟨k, g, trivial⟩
theorem row_plain {w : World} {A : Option Addr} {cs : List Value} (h : RowC w A cs) (h0 : cs ≠ []) : ∀ a, A = some a → ∃ b o, a = ⟨b, o, none⟩ := by
  intro a ha
  rcases h with h | ⟨b, o, h1, _⟩
  · exact (h0 h).elim
  · rw [h1] at ha
    cases ha
    exact ⟨b, o, rfl⟩
theorem typesCf : Tryz.prog.cellTypes Tryz.prog.depth 50 = some [3, 2, 47, 48] := by kernel_rfl
set_option maxRecDepth 100000 in
/-- A world's configuration among the arguments. -/
theorem open_cf {H : Type} {enc : TypeId × Value → H} {w : World} {base base2 : Nat} {spare : Nat → Bool} {held : Bool} {v : Value} (hv : Value.okWide Tryz.prog w .any base 50 v)
    (h : ∃ n x, DataW.trod enc Tryz.prog w base2 spare held n 50 v.cells.toList = some x) : ∃ c : Cf, v = c.val ∧ c.In w := by
  obtain ⟨cs, rfl, hcs, hok⟩ := okWide_cell (P := Tryz.prog) (ts := [3, 2, 47, 48]) Tryz.underlying50 typesCf hv
  rw [cellsCf] at hcs
  obtain ⟨n, x, h⟩ := h
  obtain ⟨_, _, f0⟩ := elem_field Tryz.underlying50 h (j := 0) (u := 3) rfl rfl rfl one3
  obtain ⟨_, _, f1⟩ := elem_field Tryz.underlying50 h (j := 1) (u := 2) rfl rfl rfl cells64
  obtain ⟨_, _, f2⟩ := elem_field Tryz.underlying50 h (j := 2) (u := 47) (c := 1) rfl rfl rfl (by kernel_rfl)
  obtain ⟨_, _, f3⟩ := elem_field Tryz.underlying50 h (j := 3) (u := 48) (c := 1) rfl rfl rfl (by kernel_rfl)
  obtain ⟨k0, g0, _, _⟩ := DataW.trod_int Tryz.underlying3 f0
  obtain ⟨k1, g1, _, _⟩ := DataW.trod_int Tryz.underlying2 f1
  obtain ⟨A2, xs2, c2, g2, p2, q2, r2, _⟩ := Go.Viv.open_row descC 3 (fun _ => rfl) (by decide) cellsDesc (fun n cs x h => elem_desc n cs x h) Tryz.underlying47 f2
  obtain ⟨A3, xs3, c3, g3, p3, q3, r3, _⟩ := Go.Viv.open_row (fun n : Int => [Value.int .i64 n]) 1 (fun _ => rfl) (by decide) cells64 (fun n cs x h => elem_i64 n cs x h) Tryz.underlying48 f3
  obtain ⟨cs⟩ := cs
  clear f0 f1 f2 f3 h
  match cs, hcs with
  | [z0, z1, z2, z3], _ =>
    simp [Value.cells] at g0 g1 g2 g3
    subst g0 g1 g2 g3
    have o2 := hok 2 47 _ (by decide) rfl rfl
    have o3 := hok 3 48 _ (by decide) rfl rfl
    refine ⟨⟨k0, k1, A2, xs2, c2, A3, xs3, c3⟩, rfl, ⟨r2, ?_, p2, p3, max_le q2, max_le q3, fun a ha => ?_, fun a ha => ?_⟩⟩
    · exact rowI_ints' r3
    · simp only at ha
      subst ha
      exact slice_spot Tryz.underlying47 o2
    · simp only at ha
      subst ha
      exact slice_spot Tryz.underlying48 o3
end Go.Proofs.YtobbfbmnlmjppaaGreatDoor
