/-
  Several texts in one. What the document fixes of scripts: reckoned by the kernel.
-/
import Derived.Test.YtclmjcjaebonnaaGreatDoorSx09
import Derived.Test.YtclmjcjaebonnaaGreatDoorSx22
import Derived.Test.YtclmjcjaebonnaaGreatDoorSx19
import Derived.Test.YtclmjcjaebonnaaGreatDoorSx10
section
namespace Go.Proofs.YtclmjcjaebonnaaGreatDoor
open Go.RowKit Go.Viv Go.Eva
theorem awake26_any {W : World} (hE : EnvT W) : Calls Tryz.prog 5 #[] W fun e w' => e = .returned (.bool true) ∧ Fr (fun _ => False) W w' :=
  closed_true hE _ 100000 100 (by kernel_rfl)
end Go.Proofs.YtclmjcjaebonnaaGreatDoor
end

/-
  ScriptSame: all that it calls, put together. Printed by wip/gen/genSsw.py.
-/
section
set_option linter.unusedSimpArgs false
set_option linter.unusedVariables false
namespace Go.Proofs.YtclmjcjaebonnaaGreatDoor
open Go Go.RowKit Go.Viv Go.Eva Go.Sym
noncomputable def j0 : CallB := fun _ _ _ => none
noncomputable def j1 : CallB := addC j0 13 (cEqL 1)
noncomputable def j2 : CallB := addC j1 14 (cEqL 2)
noncomputable def j3 : CallB := addC j2 15 (cEqL 3)
noncomputable def j4 : CallB := addC j3 16 (cEqB)
noncomputable def j5 : CallB := addC j4 17 (cEqL 3)
noncomputable def j6 : CallB := addC j5 6 (cSm)
noncomputable def j7 : CallB := addC j6 5 (cAwk26)
noncomputable def j8 : CallB := addC j7 3 (cSS)
section
variable {G : Nat} {ν : Toks} {W : World} {may : Nat → Prop}
theorem awk26_ok (hE : EnvT W) (hm2 : ∀ k, ¬ may k) : SpecOK Tryz.prog G (LBegin Tryz.prog ν LL W may) ν 5 cAwk26 := by
  intro args s v h' e φ w args' ha hR hG
  unfold cAwk26 at e
  split at e <;> try (cases e; done)
  simp only [Option.some.injEq, Prod.mk.injEq] at e
  obtain ⟨rfl, rfl⟩ := e
  cases ha
  have hf : Fr (fun _ => False) W w := hR.frame.mono fun k _ h => hm2 k h
  exact (awake26_any (hE.fr hf)).mono fun e w' ⟨he, hf'⟩ => ⟨_, he, φ, .bool true, hR.later hf', fun _ _ => rfl, Nat.le_refl _⟩
theorem jAll_ok (hE : EnvT W) (hm2 : ∀ k, ¬ may k) : CallOK Tryz.prog G (LBegin Tryz.prog ν LL W may) ν j8 := by
  have q0 : CallOK Tryz.prog G (LBegin Tryz.prog ν LL W may) ν j0 := fun _ _ _ _ _ e => by cases e
  have q1 : CallOK Tryz.prog G (LBegin Tryz.prog ν LL W may) ν j1 := addC_ok q0 (eqN_ok q0)
  have q2 : CallOK Tryz.prog G (LBegin Tryz.prog ν LL W may) ν j2 := addC_ok q1 (eqE_ok q1)
  have q3 : CallOK Tryz.prog G (LBegin Tryz.prog ν LL W may) ν j3 := addC_ok q2 (eqV_ok q2)
  have q4 : CallOK Tryz.prog G (LBegin Tryz.prog ν LL W may) ν j4 := addC_ok q3 (eqB_ok q3)
  have q5 : CallOK Tryz.prog G (LBegin Tryz.prog ν LL W may) ν j5 := addC_ok q4 (eqD_ok q4)
  have q6 : CallOK Tryz.prog G (LBegin Tryz.prog ν LL W may) ν j6 := addC_ok q5 (sm_ok q5 (fun _ _ => rfl) (fun _ _ => rfl) (fun _ _ => rfl) (fun _ _ => rfl) (fun _ _ => rfl))
  have q7 : CallOK Tryz.prog G (LBegin Tryz.prog ν LL W may) ν j7 := addC_ok q6 (awk26_ok hE hm2)
  have q8 : CallOK Tryz.prog G (LBegin Tryz.prog ν LL W may) ν j8 := addC_ok q7 (ss_ok q7 (fun _ _ => rfl) (fun _ _ => rfl))
  exact q8
end
end Go.Proofs.YtclmjcjaebonnaaGreatDoor
end

/-
  ScriptSame: from memory to the tree of blocks, and back. Printed by wip/gen/genSsw.py.
-/
section
set_option linter.unusedSimpArgs false
set_option linter.unusedVariables false
namespace Go.Sym
open Go Go.RowKit Go.Viv Go.Eva
/-- Some blocks of memory as a tree. -/
def blkT (W : World) : List Nat → Tr AObj
  | [] => Tr.nil
  | b :: r => (blkT W r).set b (blkOb W b)
theorem blkT_at {W : World} : ∀ {l : List Nat} {b : Nat}, b ∈ l → (blkT W l).at_ b = blkOb W b
  | c :: r, b, h => by
    unfold blkT
    by_cases hc : c = b
    · subst hc; exact Tr.at_set_same _ _ _
    · rw [Tr.at_set_ne _ _ hc]
      rcases List.mem_cons.1 h with h | h
      · exact (hc h.symm).elim
      · exact blkT_at h
theorem blkT_some {W : World} : ∀ {l : List Nat} {b : Nat} {o : AObj}, (blkT W l).at_ b = some o → blkOb W b = some o
  | [], b, o, h => by
    have e : (blkT W []).at_ b = none := nil_at b
    rw [e] at h; cases h
  | c :: r, b, o, h => by
    unfold blkT at h
    by_cases hc : c = b
    · subst hc; rw [Tr.at_set_same] at h; exact h
    · rw [Tr.at_set_ne _ _ hc] at h
      exact blkT_some h
/-- A row in memory of plain cells. -/
def RowM (W : World) (k : Nat) (v : Value) (vs : List Value) : Prop := ∃ A n cp, v = .slice A n cp ∧ RowC W A vs ∧ (∀ (i : Nat) (x : Value), vs[i]? = some x → numOr x = x) ∧ vs.length = n * k ∧ n ≤ cp ∧ (A = none → cp = 0)
theorem RowM.arg {W : World} {k : Nat} {v : Value} {vs : List Value} (h : RowM W k v vs) (hk : 0 < k) : ∃ (u : Value) (b : Nat), (∀ (ν : Toks), VR ν (phi0 W.heap.size (szOf W)) u v) ∧ ∀ t : Tr AObj, (b < W.heap.size → t.at_ b = blkOb W b) → rowB t k u = some vs := by
  obtain ⟨A, n, cp, rfl, h1, h2, h3, h4, h5⟩ := h
  obtain ⟨u, b, _, p, q⟩ := arg_rowV h1 h2 h3 hk h4 h5
  exact ⟨u, b, p, q⟩
theorem ints_plain (l : List Int) : ∀ (i : Nat) (x : Value), (intsC l)[i]? = some x → numOr x = x := fun i x hx => by
  obtain ⟨n, _, rfl⟩ := List.mem_map.1 (List.mem_of_getElem? hx)
  rfl
end Go.Sym
namespace Go.Proofs.YtclmjcjaebonnaaGreatDoor
open Go Go.RowKit Go.Viv Go.Eva Go.Sym
theorem bools_plain (l : List Bool) : ∀ (i : Nat) (x : Value), (boolsC l)[i]? = some x → numOr x = x := fun i x hx => by
  obtain ⟨n, _, rfl⟩ := List.mem_map.1 (List.mem_of_getElem? hx)
  rfl
theorem scriptSame_any (x : Sc) (V : V5) (l : L5) (f : Int) (W : World) (m1 : RowM W 1 V.v1 (intsC l.l1)) (m2 : RowM W 2 V.v2 (intsC l.l2)) (m3 : RowM W 3 V.v3 (intsC l.l3)) (m4 : RowM W 1 V.v4 (boolsC l.l4)) (m5 : RowM W 3 V.v5 (intsC l.l5)) (hE : EnvT W) :
    Calls Tryz.prog 3 #[.agg ⟨cellsR x V⟩, .int .i64 f] W fun e w' => e = .returned (.bool true) ∧ Fr (fun _ => False) W w' := by
  obtain ⟨u1, b1, p1, q1⟩ := m1.arg (by omega)
  obtain ⟨u2, b2, p2, q2⟩ := m2.arg (by omega)
  obtain ⟨u3, b3, p3, q3⟩ := m3.arg (by omega)
  obtain ⟨u4, b4, p4, q4⟩ := m4.arg (by omega)
  obtain ⟨u5, b5, p5, q5⟩ := m5.arg (by omega)
  let t : Tr AObj := blkT W [b1, b2, b3, b4, b5]
  let may : Nat → Prop := fun _ => False
  have hR : Rw Tryz.prog W.heap.size (LBegin Tryz.prog noToks LL W may) noToks (phi0 W.heap.size (szOf W)) ⟨t, W.heap.size⟩ W :=
    Rw.start (W0 := LBegin Tryz.prog noToks LL W may) (Nat.le_refl _) t (szOf W) fun g o ho _ => blk_obj (blkT_some ho)
  have iI : InR t ⟨u1, u2, u3, u4, u5⟩ l := ⟨q1 t fun _ => blkT_at (by simp), q2 t fun _ => blkT_at (by simp), q3 t fun _ => blkT_at (by simp), q4 t fun _ => blkT_at (by simp), q5 t fun _ => blkT_at (by simp)⟩
  have hrun : cSS [.agg ⟨cellsR x ⟨u1, u2, u3, u4, u5⟩⟩, .int .i64 f] ⟨t, W.heap.size⟩ = some (.bool true, noneT ⟨t, W.heap.size⟩ 200000) := by
    unfold cSS
    simp only [scOf_of, iI.to]
  have hrun2 : j8 3 [.agg ⟨cellsR x ⟨u1, u2, u3, u4, u5⟩⟩, .int .i64 f] ⟨t, W.heap.size⟩ = some (.bool true, noneT ⟨t, W.heap.size⟩ 200000) := hrun
  have hcall := jAll_ok (G := W.heap.size) (ν := noToks) (may := may) hE (fun _ h => h) 3 _ _ _ _ hrun2 (phi0 W.heap.size (szOf W)) W [.agg ⟨cellsR x V⟩, .int .i64 f] (.cons (.agg (.cons (.int _ _) (.cons (.int _ _) (.cons (.int _ _) (.cons (.int _ _) (.cons (.int _ _) (.cons (.int _ _) (.cons (.bool _) (.cons (.int _ _) (.cons (p1 _) (.cons (p2 _) (.cons (.int _ _) (.cons (.int _ _) (.cons (p3 _) (.cons (p4 _) (.cons (.int _ _) (.cons (.int _ _) (.cons (.int _ _) (.cons (p5 _) (.cons (.int _ _) (.cons (.bool _) (.cons (.int _ _) (.cons (.int _ _) (.cons (.int _ _) .nil)))))))))))))))))))))))) (.cons (.int _ _) .nil)) hR (Nat.le_refl _)
  refine hcall.mono ?_
  rintro e w' ⟨z, rfl, φ', hz, hR', _⟩
  cases hz
  exact ⟨rfl, hR'.frame⟩
end Go.Proofs.YtclmjcjaebonnaaGreatDoor
end

/-
  From a walk to the given row: a reply among the arguments. Printed by wip/gen/genSsw.py.
-/
section
set_option linter.unusedSimpArgs false
set_option linter.unusedVariables false
namespace Go.Proofs.YtclmjcjaebonnaaGreatDoor
open Go.ChangeShapes Go.WideShapes Go.ChangeAt Go.RowKit Go.Joins Go.Viv Go.Sym
theorem cell_int {P : Program} {w : World} {base : Nat} {t : TypeId} {v : Value} (ht : P.underlying t = some (.int .i64)) (h : Cell.okWide P w .any base t v) : ∃ n, v = .int .i64 n := by
  unfold Cell.okWide at h
  rw [ht] at h
  simp only at h
  unfold Cell.ok at h
  rw [ht] at h
  cases v <;> simp only at h
  exact ⟨_, by rw [h.1]⟩
theorem cell_bool {P : Program} {w : World} {base : Nat} {t : TypeId} {v : Value} (ht : P.underlying t = some .bool) (h : Cell.okWide P w .any base t v) : ∃ n, v = .bool n := by
  unfold Cell.okWide at h
  rw [ht] at h
  simp only at h
  unfold Cell.ok at h
  rw [ht] at h
  cases v <;> simp only at h
  exact ⟨_, rfl⟩
def c2 (p : Int × Int) : List Value := [.int .i64 p.1, .int .i64 p.2]
def c3 (p : Int × Int × Int) : List Value := [.int .i64 p.1, .int .i64 p.2.1, .int .i64 p.2.2]
theorem flat1 : ∀ l : List Int, l.flatMap (fun n : Int => [Value.int .i64 n]) = intsC l
  | [] => rfl
  | x :: l => by rw [List.flatMap_cons, flat1 l]; rfl
theorem flatb : ∀ l : List Bool, l.flatMap (fun n : Bool => [Value.bool n]) = boolsC l
  | [] => rfl
  | x :: l => by rw [List.flatMap_cons, flatb l]; rfl
theorem flat2 : ∀ l : List (Int × Int), l.flatMap c2 = intsC (l.flatMap fun p => [p.1, p.2]) ∧ (l.flatMap fun p => [p.1, p.2]).length = l.length * 2
  | [] => ⟨rfl, rfl⟩
  | x :: l => by
    obtain ⟨h1, h2⟩ := flat2 l
    rw [List.flatMap_cons, h1, List.flatMap_cons, List.length_append, h2]
    exact ⟨rfl, by simp; omega⟩
theorem flat3 : ∀ l : List (Int × Int × Int), l.flatMap c3 = intsC (l.flatMap fun p => [p.1, p.2.1, p.2.2]) ∧ (l.flatMap fun p => [p.1, p.2.1, p.2.2]).length = l.length * 3
  | [] => ⟨rfl, rfl⟩
  | x :: l => by
    obtain ⟨h1, h2⟩ := flat3 l
    rw [List.flatMap_cons, h1, List.flatMap_cons, List.length_append, h2]
    exact ⟨rfl, by simp; omega⟩
theorem typesRe : Tryz.prog.cellTypes Tryz.prog.depth 39 = some [22, 3, 2, 3, 2, 2, 4, 3, 27, 28, 3, 2, 29, 30, 3, 3, 3, 35, 3, 4, 3, 3, 3] := by kernel_rfl
theorem cellsRe : Tryz.prog.cellsOf 39 = 23 := by kernel_rfl
theorem cellsEv : Tryz.prog.cellsOf 42 = 2 := by kernel_rfl
theorem cellsVa : Tryz.prog.cellsOf 26 = 3 := by kernel_rfl
theorem cellsDo : Tryz.prog.cellsOf 44 = 3 := by kernel_rfl
theorem cellsBo : Tryz.prog.cellsOf 4 = 1 := by kernel_rfl
theorem oneE : Tryz.prog.cellsOf 22 = 1 := by kernel_rfl
section
variable {H : Type} {enc : TypeId × Value → H} {w : World} {base : Nat} {spare : Nat → Bool} {held : Bool}
theorem elem_bool (n : Nat) (cs : List Value) (x : DataW H × List MemPlace) (h : DataW.trod enc Tryz.prog w base spare held n 4 cs = some x) : ∃ v : Bool, cs = [Value.bool v] ∧ True := by
  obtain ⟨b, e, _⟩ := DataW.trod_bool Tryz.underlying4 h
  exact ⟨b, e, trivial⟩
theorem elem_ev (n : Nat) (cs : List Value) (x : DataW H × List MemPlace) (h : DataW.trod enc Tryz.prog w base spare held n 42 cs = some x) : ∃ v : Int × Int, cs = c2 v ∧ True := by
  obtain ⟨ns, h1, h2, h3⟩ := elem_ints Tryz.underlying42 (by
    rintro (_ | _ | j) f hj
    · obtain rfl := Option.some.inj hj
      exact ⟨rfl, one3, Tryz.underlying3⟩
    · obtain rfl := Option.some.inj hj
      exact ⟨rfl, one3, Tryz.underlying3⟩
    · simp at hj) cellsEv h
  match ns, h2 with
  | [a, b], _ => exact ⟨(a, b), h1, trivial⟩
theorem elem_va (n : Nat) (cs : List Value) (x : DataW H × List MemPlace) (h : DataW.trod enc Tryz.prog w base spare held n 26 cs = some x) : ∃ v : Int × Int × Int, cs = c3 v ∧ True := by
  obtain ⟨ns, h1, h2, h3⟩ := elem_ints Tryz.underlying26 (by
    rintro (_ | _ | _ | j) f hj
    · obtain rfl := Option.some.inj hj
      exact ⟨rfl, one3, Tryz.underlying3⟩
    · obtain rfl := Option.some.inj hj
      exact ⟨rfl, cells64, Tryz.underlying2⟩
    · obtain rfl := Option.some.inj hj
      exact ⟨rfl, cells64, Tryz.underlying2⟩
    · simp at hj) cellsVa h
  match ns, h2 with
  | [a, b, c], _ => exact ⟨(a, b, c), h1, trivial⟩
theorem elem_do (n : Nat) (cs : List Value) (x : DataW H × List MemPlace) (h : DataW.trod enc Tryz.prog w base spare held n 44 cs = some x) : ∃ v : Int × Int × Int, cs = c3 v ∧ True := by
  obtain ⟨ns, h1, h2, h3⟩ := elem_ints Tryz.underlying44 (by
    rintro (_ | _ | _ | j) f hj
    · obtain rfl := Option.some.inj hj
      exact ⟨rfl, one3, Tryz.underlying3⟩
    · obtain rfl := Option.some.inj hj
      exact ⟨rfl, one3, Tryz.underlying3⟩
    · obtain rfl := Option.some.inj hj
      exact ⟨rfl, oneE, Tryz.underlying22⟩
    · simp at hj) cellsDo h
  match ns, h2 with
  | [a, b, c], _ => exact ⟨(a, b, c), h1, trivial⟩
end
set_option maxRecDepth 100000 in
/-- A reply among the arguments. -/
theorem open_rep {H : Type} {enc : TypeId × Value → H} {w : World} {base base2 : Nat} {spare : Nat → Bool} {held : Bool} {v : Value} (hv : Value.okWide Tryz.prog w .any base 39 v)
    (h : ∃ n x, DataW.trod enc Tryz.prog w base2 spare held n 39 v.cells.toList = some x) : ∃ (x : Sc) (V : V5) (l : L5), v = .agg ⟨cellsR x V⟩ ∧ RowM w 1 V.v1 (intsC l.l1) ∧ RowM w 2 V.v2 (intsC l.l2) ∧ RowM w 3 V.v3 (intsC l.l3) ∧ RowM w 1 V.v4 (boolsC l.l4) ∧ RowM w 3 V.v5 (intsC l.l5) := by
  obtain ⟨cs, rfl, hcs, hok⟩ := okWide_cell (P := Tryz.prog) (ts := [22, 3, 2, 3, 2, 2, 4, 3, 27, 28, 3, 2, 29, 30, 3, 3, 3, 35, 3, 4, 3, 3, 3]) Tryz.underlying39 typesRe hv
  rw [cellsRe] at hcs
  obtain ⟨n, x, h⟩ := h
  obtain ⟨_, _, f1⟩ := elem_field Tryz.underlying39 h (j := 5) (u := 27) (c := 1) rfl rfl rfl (by kernel_rfl)
  obtain ⟨_, _, f2⟩ := elem_field Tryz.underlying39 h (j := 6) (u := 28) (c := 1) rfl rfl rfl (by kernel_rfl)
  obtain ⟨_, _, fr⟩ := elem_field Tryz.underlying39 h (j := 7) (u := 32) (c := 4) rfl rfl rfl (by kernel_rfl)
  obtain ⟨_, _, f3⟩ := elem_field Tryz.underlying32 fr (j := 1) (u := 29) (c := 1) rfl rfl rfl (by kernel_rfl)
  obtain ⟨_, _, f4⟩ := elem_field Tryz.underlying32 fr (j := 2) (u := 30) (c := 1) rfl rfl rfl (by kernel_rfl)
  obtain ⟨_, _, fn⟩ := elem_field Tryz.underlying39 h (j := 9) (u := 37) (c := 6) rfl rfl rfl (by kernel_rfl)
  obtain ⟨_, _, f5⟩ := elem_field Tryz.underlying37 fn (j := 0) (u := 35) (c := 1) rfl rfl rfl (by kernel_rfl)
  obtain ⟨A1, xs1, cp1, e1, p1, q1, r1, _⟩ := Go.Viv.open_row (fun n : Int => [Value.int .i64 n]) 1 (fun _ => rfl) (by decide) one3 (fun n cs x h => elem_int n cs x h) Tryz.underlying27 f1
  obtain ⟨A2, xs2, cp2, e2, p2, q2, r2, _⟩ := Go.Viv.open_row c2 2 (fun _ => rfl) (by decide) cellsEv (fun n cs x h => elem_ev n cs x h) Tryz.underlying28 f2
  obtain ⟨A3, xs3, cp3, e3, p3, q3, r3, _⟩ := Go.Viv.open_row c3 3 (fun _ => rfl) (by decide) cellsVa (fun n cs x h => elem_va n cs x h) Tryz.underlying29 f3
  obtain ⟨A4, xs4, cp4, e4, p4, q4, r4, _⟩ := Go.Viv.open_row (fun n : Bool => [Value.bool n]) 1 (fun _ => rfl) (by decide) cellsBo (fun n cs x h => elem_bool n cs x h) Tryz.underlying30 f4
  obtain ⟨A5, xs5, cp5, e5, p5, q5, r5, _⟩ := Go.Viv.open_row c3 3 (fun _ => rfl) (by decide) cellsDo (fun n cs x h => elem_do n cs x h) Tryz.underlying35 f5
  have n1 : A1 = none → cp1 = 0 := fun h => open_none Tryz.underlying27 (e1.trans (by rw [h])) f1
  have n2 : A2 = none → cp2 = 0 := fun h => open_none Tryz.underlying28 (e2.trans (by rw [h])) f2
  have n3 : A3 = none → cp3 = 0 := fun h => open_none Tryz.underlying29 (e3.trans (by rw [h])) f3
  have n4 : A4 = none → cp4 = 0 := fun h => open_none Tryz.underlying30 (e4.trans (by rw [h])) f4
  have n5 : A5 = none → cp5 = 0 := fun h => open_none Tryz.underlying35 (e5.trans (by rw [h])) f5
  obtain ⟨cs⟩ := cs
  clear f1 f2 f3 f4 f5 fr fn h
  rw [flat1] at r1
  rw [(flat2 xs2).1] at r2
  rw [(flat3 xs3).1] at r3
  rw [flatb] at r4
  rw [(flat3 xs5).1] at r5
  simp only [Value.cells] at e1 e2 e3 e4 e5
  match cs, hcs with
  | [z0, z1, z2, z3, z4, z5, z6, z7, z8, z9, z10, z11, z12, z13, z14, z15, z16, z17, z18, z19, z20, z21, z22], _ =>
    obtain ⟨y0, rfl⟩ := cell_int Tryz.underlying22 (hok 0 22 _ (by decide) rfl rfl)
    obtain ⟨y1, rfl⟩ := cell_int Tryz.underlying3 (hok 1 3 _ (by decide) rfl rfl)
    obtain ⟨y2, rfl⟩ := cell_int Tryz.underlying2 (hok 2 2 _ (by decide) rfl rfl)
    obtain ⟨y3, rfl⟩ := cell_int Tryz.underlying3 (hok 3 3 _ (by decide) rfl rfl)
    obtain ⟨y4, rfl⟩ := cell_int Tryz.underlying2 (hok 4 2 _ (by decide) rfl rfl)
    obtain ⟨y5, rfl⟩ := cell_int Tryz.underlying2 (hok 5 2 _ (by decide) rfl rfl)
    obtain ⟨y6, rfl⟩ := cell_bool Tryz.underlying4 (hok 6 4 _ (by decide) rfl rfl)
    obtain ⟨y7, rfl⟩ := cell_int Tryz.underlying3 (hok 7 3 _ (by decide) rfl rfl)
    try simp only [List.drop_succ_cons, List.drop_zero, List.take_succ_cons, List.take_zero, List.take_nil] at e1
    obtain ⟨rfl⟩ : z8 = .slice A1 xs1.length cp1 := by simpa using e1
    try simp only [List.drop_succ_cons, List.drop_zero, List.take_succ_cons, List.take_zero, List.take_nil] at e2
    obtain ⟨rfl⟩ : z9 = .slice A2 xs2.length cp2 := by simpa using e2
    obtain ⟨y10, rfl⟩ := cell_int Tryz.underlying3 (hok 10 3 _ (by decide) rfl rfl)
    obtain ⟨y11, rfl⟩ := cell_int Tryz.underlying2 (hok 11 2 _ (by decide) rfl rfl)
    try simp only [List.drop_succ_cons, List.drop_zero, List.take_succ_cons, List.take_zero, List.take_nil] at e3
    obtain ⟨rfl⟩ : z12 = .slice A3 xs3.length cp3 := by simpa using e3
    try simp only [List.drop_succ_cons, List.drop_zero, List.take_succ_cons, List.take_zero, List.take_nil] at e4
    obtain ⟨rfl⟩ : z13 = .slice A4 xs4.length cp4 := by simpa using e4
    obtain ⟨y14, rfl⟩ := cell_int Tryz.underlying3 (hok 14 3 _ (by decide) rfl rfl)
    obtain ⟨y15, rfl⟩ := cell_int Tryz.underlying3 (hok 15 3 _ (by decide) rfl rfl)
    obtain ⟨y16, rfl⟩ := cell_int Tryz.underlying3 (hok 16 3 _ (by decide) rfl rfl)
    try simp only [List.drop_succ_cons, List.drop_zero, List.take_succ_cons, List.take_zero, List.take_nil] at e5
    obtain ⟨rfl⟩ : z17 = .slice A5 xs5.length cp5 := by simpa using e5
    obtain ⟨y18, rfl⟩ := cell_int Tryz.underlying3 (hok 18 3 _ (by decide) rfl rfl)
    obtain ⟨y19, rfl⟩ := cell_bool Tryz.underlying4 (hok 19 4 _ (by decide) rfl rfl)
    obtain ⟨y20, rfl⟩ := cell_int Tryz.underlying3 (hok 20 3 _ (by decide) rfl rfl)
    obtain ⟨y21, rfl⟩ := cell_int Tryz.underlying3 (hok 21 3 _ (by decide) rfl rfl)
    obtain ⟨y22, rfl⟩ := cell_int Tryz.underlying3 (hok 22 3 _ (by decide) rfl rfl)
    refine ⟨⟨y0, y1, y2, y3, y4, y5, y6, y7, y10, y11, y14, y15, y16, y18, y19, y20, y21, y22⟩, ⟨.slice A1 xs1.length cp1, .slice A2 xs2.length cp2, .slice A3 xs3.length cp3, .slice A4 xs4.length cp4, .slice A5 xs5.length cp5⟩, ⟨xs1, xs2.flatMap fun p => [p.1, p.2], xs3.flatMap fun p => [p.1, p.2.1, p.2.2], xs4, xs5.flatMap fun p => [p.1, p.2.1, p.2.2]⟩, rfl, ⟨_, _, _, rfl, r1, ints_plain _, by rw [intsC_len]; exact (Nat.mul_one _).symm, p1, n1⟩, ⟨_, _, _, rfl, r2, ints_plain _, by rw [intsC_len, (flat2 xs2).2], p2, n2⟩, ⟨_, _, _, rfl, r3, ints_plain _, by rw [intsC_len, (flat3 xs3).2], p3, n3⟩, ⟨_, _, _, rfl, r4, bools_plain _, by rw [boolsC_len]; exact (Nat.mul_one _).symm, p4, n4⟩, ⟨_, _, _, rfl, r5, ints_plain _, by rw [intsC_len, (flat3 xs5).2], p5, n5⟩⟩
end Go.Proofs.YtclmjcjaebonnaaGreatDoor
end
