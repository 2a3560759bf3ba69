/-
  Several texts in one. Worlds that are alike: the walk of Alike itself.
-/
import Derived.Test.YtclmjcjaebonnaaGreatDoorSx09
import Derived.Test.YtclmjcjaebonnaaGreatDoorSx00
import Derived.Test.YtclmjcjaebonnaaGreatDoorSx08
import Derived.Laws.CopyRow
import Derived.Test.YtclmjcjaebonnaaGreatDoorSx07
section
namespace Go.Viv
open Go.Lib Go.RowKit
/-- What a world is made of. -/
structure Cf where
  size : Int
  top : Int
  A : Option Addr
  comps : List Dc
  ca : Nat
  B : Option Addr
  res : List Int
  cb : Nat
def Cf.val (x : Cf) : Value := .agg #[.int .i64 x.size, .int .i64 x.top, .slice x.A x.comps.length x.ca, .slice x.B x.res.length x.cb]
/-- It lies in memory. -/
structure Cf.In (x : Cf) (w : World) : Prop where
  comps : RowC w x.A (x.comps.flatMap descC)
  res : RowC w x.B (ints x.res)
  ca : x.comps.length ≤ x.ca
  cb : x.res.length ≤ x.cb
  ma : x.ca ≤ 9223372036854775807
  mb : x.cb ≤ 9223372036854775807
  pa : ∀ a, x.A = some a → ∃ b o, a = ⟨b, o, none⟩
  pb : ∀ a, x.B = some a → ∃ b o, a = ⟨b, o, none⟩
theorem Cf.In.fr {x : Cf} {w w' : World} (h : x.In w) (hf : Fr (fun _ => False) w w') : x.In w' := ⟨h.comps.fr hf, h.res.fr hf, h.ca, h.cb, h.ma, h.mb, h.pa, h.pb⟩
theorem blk_new' {w : World} {g : Nat} (t : TypeId) (cs : Array Value) (h : g = w.heap.size) : Blk (w.alloc (.cells cs t)) g t cs := by
  subst h
  exact Blk.new _ _ _
def Cf.cells (x : Cf) : Array Value := #[.int .i64 x.size, .int .i64 x.top, .slice x.A x.comps.length x.ca, .slice x.B x.res.length x.cb]
def alikeC (x y : Cf) : Bool := x.size == y.size && (x.top == y.top && (x.res == y.res && sameL x.comps y.comps))
end Go.Viv
namespace Go.Proofs.YtclmjcjaebonnaaGreatDoor
open Go.RowKit Go.Viv Go.Lib
set_option maxRecDepth 100000 in
set_option maxHeartbeats 4000000 in
theorem alike_any (x y : Cf) (w : World) (hx : x.In w) (hy : y.In w) : Calls Tryz.prog 9 #[x.val, y.val] w fun e w' => e = .returned (.bool (alikeC x y)) ∧ Fr (fun _ => False) w w' := by
  have hs : alikeC x y = (x.size == y.size && (x.top == y.top && (x.res == y.res && sameL x.comps y.comps))) := rfl
  have HX := Lib.hid hx
  have HY := Lib.hid hy
  unfold Cf.val
  clear hx hy
  cases h1 : (x.size == y.size) with
  | false =>
    rw [h1, Bool.false_and] at hs
    have H := Lib.hid hs
    clear hs
    go_enter Tryz.func9, Tryz.ntmps9
    go_wp2
    go_ret
    exact ⟨by rw [H.out]; rfl, by repeat (first | exact Fr.refl _ _ | apply Fr.alloc | apply Fr.drew)⟩
  | true =>
    rw [h1, Bool.true_and] at hs
    cases h2 : (x.top == y.top) with
    | false =>
      rw [h2, Bool.false_and] at hs
      have H := Lib.hid hs
      clear hs
      go_enter Tryz.func9, Tryz.ntmps9
      go_wp2
      go_ret
      exact ⟨by rw [H.out]; rfl, by repeat (first | exact Fr.refl _ _ | apply Fr.alloc | apply Fr.drew)⟩
    | true =>
      rw [h2, Bool.true_and] at hs
      cases h3 : (x.res == y.res) with
      | false =>
        rw [h3, Bool.false_and] at hs
        have H := Lib.hid hs
        have H3 := Lib.hid h3
        clear hs h3
        go_enter Tryz.func9, Tryz.ntmps9
        go_wp2_with (go_at_call 22; refine (eqI_any x.res y.res x.B y.B x.cb y.cb _ (HX.out.fr (by repeat (first | exact Fr.refl _ _ | apply Fr.alloc | apply Fr.drew))).res (HY.out.fr (by repeat (first | exact Fr.refl _ _ | apply Fr.alloc | apply Fr.drew))).res HX.out.cb HY.out.cb HX.out.mb HY.out.mb).mono ?_; rintro e w3 ⟨rfl, hf3⟩; rw [H3.out])
        go_ret
        exact ⟨by rw [H.out]; rfl, fr_two (by repeat (first | exact Fr.refl _ _ | apply Fr.alloc | apply Fr.drew)) hf3⟩
      | true =>
        rw [h3, Bool.true_and] at hs
        have H := Lib.hid hs
        have H3 := Lib.hid h3
        clear hs h3
        go_enter Tryz.func9, Tryz.ntmps9
        go_wp2_with (first
          | (go_at_call 22; refine (eqI_any x.res y.res x.B y.B x.cb y.cb _ (HX.out.fr (by repeat (first | exact Fr.refl _ _ | apply Fr.alloc | apply Fr.drew))).res (HY.out.fr (by repeat (first | exact Fr.refl _ _ | apply Fr.alloc | apply Fr.drew))).res HX.out.cb HY.out.cb HX.out.mb HY.out.mb).mono ?_; rintro e w3 ⟨rfl, hf3⟩; rw [H3.out]; have k1 : Blk w3 w.heap.size 50 x.cells := Blk.fr (by repeat (first | exact blk_new' _ _ (by simp) | apply Blk.alloc | apply Blk.drew)) hf3 (fun h => h); have k2 : Blk w3 (w.heap.size + 1) 50 y.cells := Blk.fr (by repeat (first | exact blk_new' _ _ (by simp) | apply Blk.alloc | apply Blk.drew)) hf3 (fun h => h); have c1 : w3.cell? ⟨w.heap.size, 2, none⟩ = some (.slice x.A x.comps.length x.ca) := (k1.cell 2).trans rfl; have c2 : w3.cell? ⟨w.heap.size + 1, 2, none⟩ = some (.slice y.A y.comps.length y.ca) := (k2.cell 2).trans rfl; clear k1 k2; have HF3 := Lib.hid (fr_two (by repeat (first | exact Fr.refl _ _ | apply Fr.alloc | apply Fr.drew)) hf3 : Fr (fun _ => False) w w3); clear hf3)
          | (go_at_call 23; refine (eqF_any x.comps y.comps x.A y.A x.ca y.ca _ (HX.out.fr HF3.out).comps (HY.out.fr HF3.out).comps HX.out.ca HY.out.ca HX.out.ma HY.out.ma).mono ?_; rintro e w4 ⟨rfl, hf4⟩))
        go_ret
        exact ⟨by rw [H.out]; rfl, fr_two HF3.out hf4⟩
end Go.Proofs.YtclmjcjaebonnaaGreatDoor
end

/-
  From a walk to the given row: a world's configuration among the arguments.
-/
section
namespace Go.Viv
open Go.ChangeShapes Go.WideShapes Go.RowKit
/-- A struct among the arguments: its cells are of the types that its fields say. -/
theorem okWide_cell {P : Program} {w : World} {base : Nat} {t : TypeId} {fs : Array Field} {ts : List TypeId} (hs : P.underlying t = some (.struct fs)) (hts : P.cellTypes P.depth t = some ts) {v : Value} (h : Value.okWide P w .any base t v) :
    ∃ cs, v = .agg cs ∧ cs.size = P.cellsOf t ∧ ∀ i u x, i < ts.length → cs[i]? = some x → ts[i]? = some u → Cell.okWide P w .any base u x := by
  simp only [Value.okWide, hs] at h
  obtain ⟨cs, h1, h2, ts', h3, _, h4⟩ := h
  refine ⟨cs, h1, h2, fun i u x hi hx hu => ?_⟩
  rw [hts] at h3
  cases h3
  obtain ⟨u', hu', ho⟩ := h4 i x hx
  rw [Nat.mod_eq_of_lt hi, hu] at hu'
  cases hu'
  exact ho
theorem slice_spot {P : Program} {w : World} {base : Nat} {t e : TypeId} (ht : P.underlying t = some (.slice e)) {a : Addr} {n c : Nat} (h : Cell.okWide P w .any base t (.slice (some a) n c)) : ∃ b o, a = ⟨b, o, none⟩ := by
  simp only [Cell.okWide, ht, Cell.ok] at h
  obtain ⟨_, _, _, hs, _⟩ := h
  obtain ⟨b, o, s⟩ := a
  simp only at hs
  subst hs
  exact ⟨b, o, rfl⟩
theorem rowI_ints {w : World} {A : Option Addr} {l : List Int} (h : RowC w A (l.flatMap fun n => [Value.int .i64 n])) : RowC w A (ints l) := by
  have e : ∀ m : List Int, (m.flatMap fun n => [Value.int .i64 n]) = ints m := fun m => by
    unfold ints
    induction m with
    | nil => rfl
    | cons x r ih => rw [List.flatMap_cons, List.map_cons, ih]; rfl
  rw [← e]; exact h
end Go.Viv
namespace Go.Proofs.YtclmjcjaebonnaaGreatDoor
open Go.ChangeShapes Go.WideShapes Go.ChangeAt Go.RowKit Go.Joins Go.Viv
theorem own : ownKnob Tryz.prog.godebug = none := by kernel_rfl
theorem laidOut : laidOutB Tryz.prog = true := by kernel_rfl
theorem gBr : Tryz.prog.globalNamed "math/bits.deBruijn64tab" = some 0 := by kernel_rfl
theorem one3 : Tryz.prog.cellsOf 3 = 1 := by kernel_rfl
theorem lay_met (os : Os) (args : Array Value) : laidMetH Tryz.prog Rows.twinTurnsRow.laid ((World.laidAll Tryz.prog os Rows.twinTurnsRow.laid).forCall (fun _ _ => 0) ⟨#[], args, []⟩).memory := by
  rw [MakeChecks.laidMetH_plain _ _ _ (by kernel_rfl)]
  exact laidMet_laidAll _ (by kernel_rfl) (by kernel_rfl)
theorem lay_shaped (os : Os) : (World.laidAll Tryz.prog os Rows.twinTurnsRow.laid).Shaped Tryz.prog :=
  World.shaped_of_ZipB (by kernel_rfl) (by kernel_rfl)
theorem envT_of_laid {W : World} (h : laidMetH Tryz.prog Rows.twinTurnsRow.laid W) : EnvT W := by
  rw [MakeChecks.laidMetH_plain _ _ _ (by kernel_rfl)] at h
  have h1 : laidMet Tryz.prog (("math/bits.deBruijn64tab", Lib.tabData .u8 (deB.map Int.ofNat)) :: []) W := h
  have h2 := Lib.tabIs_of_head (t := 338) (e := 5) (n := 64) gBr (by kernel_rfl) Tryz.underlying338 Tryz.underlying5 (by kernel_rfl) (by kernel_rfl) h1
  unfold Lib.TabIs World.var? at h2
  rw [gBr] at h2
  simp only [Option.bind_some] at h2
  split at h2
  · rename_i cs e fr hh
    simp only [Option.some.injEq] at h2
    exact ⟨e, fr, by rw [hh, h2]; rfl⟩
  · cases h2
theorem max_le {n : Nat} (h : n ≤ maxLen) : n ≤ 9223372036854775807 := by unfold maxLen at h; exact h
theorem slice_form {H : Type} {enc : TypeId × Value → H} {w : World} {base : Nat} {spare : Nat → Bool} {held : Bool} {n : Nat} {t e : TypeId} {cs : List Value} {x : DataW H × List MemPlace} (ht : Tryz.prog.underlying t = some (.slice e))
    (h : DataW.trod enc Tryz.prog w base spare held n t cs = some x) : ∃ a k c, cs = [.slice a k c] := by
  rcases Go.Deep.open_slice ht h with ⟨rfl, _⟩ | ⟨a, len, cap, _, _, _, _, rfl, _⟩
  · exact ⟨none, 0, 0, rfl⟩
  · exact ⟨_, _, _, rfl⟩
/-- One field of a struct. -/
theorem elem_field {H : Type} {enc : TypeId × Value → H} {w : World} {base : Nat} {spare : Nat → Bool} {held : Bool} {n : Nat} {t : TypeId} {fs : Array Field} {cs : List Value} {x : DataW H × List MemPlace} (hs : Tryz.prog.underlying t = some (.struct fs))
    (h : DataW.trod enc Tryz.prog w base spare held n t cs = some x) {j o c : Nat} {u : TypeId} {f : Field} (hj : fs[j]? = some f) (ho : f.offset = o) (hu : f.type = u) (hc : Tryz.prog.cellsOf u = c) :
    ∃ m y, DataW.trod enc Tryz.prog w base spare held m u ((cs.drop o).take c) = some y := by
  obtain ⟨xs, m, _, _, hlen, hxl, hf⟩ := DataW.trod_struct hs h
  have h1 := hf j f hj
  have hlt : j < fs.size := (Array.getElem?_eq_some_iff.1 hj).1
  rw [ho, hu, hc, List.getElem?_eq_getElem (by omega)] at h1
  exact ⟨m, _, h1⟩
theorem elem_int {H : Type} {enc : TypeId × Value → H} {w : World} {base : Nat} {spare : Nat → Bool} {held : Bool} (n : Nat) (cs : List Value) (x : DataW H × List MemPlace) (h : DataW.trod enc Tryz.prog w base spare held n 3 cs = some x) :
    ∃ v : Int, cs = [Value.int .i64 v] ∧ True := by
  obtain ⟨k, e, _, _⟩ := DataW.trod_int Tryz.underlying3 h
  exact ⟨k, e, trivial⟩
theorem cells64 : Tryz.prog.cellsOf 2 = 1 := by kernel_rfl
theorem cellsDesc : Tryz.prog.cellsOf 54 = 3 := by kernel_rfl
theorem cellsCf : Tryz.prog.cellsOf 50 = 4 := by kernel_rfl
theorem elem_desc {H : Type} {enc : TypeId × Value → H} {w : World} {base : Nat} {spare : Nat → Bool} {held : Bool} (n : Nat) (cs : List Value) (x : DataW H × List MemPlace) (h : DataW.trod enc Tryz.prog w base spare held n 54 cs = some x) :
    ∃ v : Dc, cs = descC v ∧ True := by
  obtain ⟨ns, h1, h2, h3⟩ := elem_ints Tryz.underlying54 (by
    rintro (_ | _ | _ | j) f hj
    · obtain rfl := Option.some.inj hj
      exact ⟨rfl, one3, Tryz.underlying3⟩
    · obtain rfl := Option.some.inj hj
      exact ⟨rfl, one3, Tryz.underlying3⟩
    · obtain rfl := Option.some.inj hj
      exact ⟨rfl, one3, Tryz.underlying3⟩
    · simp at hj) cellsDesc h
  match ns, h2 with
  | [a, b, c], _ => exact ⟨⟨a, b, c⟩, h1, trivial⟩
theorem elem_i64 {H : Type} {enc : TypeId × Value → H} {w : World} {base : Nat} {spare : Nat → Bool} {held : Bool} (n : Nat) (cs : List Value) (x : DataW H × List MemPlace) (h : DataW.trod enc Tryz.prog w base spare held n 2 cs = some x) :
    ∃ v : Int, cs = [Value.int .i64 v] ∧ True := by
  obtain ⟨k, g, _, _⟩ := DataW.trod_int Tryz.underlying2 h
  exact ⟨k, g, trivial⟩
theorem row_plain {w : World} {A : Option Addr} {cs : List Value} (h : RowC w A cs) (h0 : cs ≠ []) : ∀ a, A = some a → ∃ b o, a = ⟨b, o, none⟩ := by
  intro a ha
  rcases h with h | ⟨b, o, h1, _⟩
  · exact (h0 h).elim
  · rw [h1] at ha
    cases ha
    exact ⟨b, o, rfl⟩
theorem typesCf : Tryz.prog.cellTypes Tryz.prog.depth 50 = some [3, 2, 47, 48] := by kernel_rfl
theorem open_none {H : Type} {enc : TypeId × Value → H} {w : World} {base : Nat} {spare : Nat → Bool} {held : Bool} {n k c : Nat} {t e : TypeId} {cs : List Value} {x : DataW H × List MemPlace} (ht : Tryz.prog.underlying t = some (.slice e)) (hcs : cs = [.slice none k c])
    (h : DataW.trod enc Tryz.prog w base spare held n t cs = some x) : c = 0 := by
  rcases Go.Deep.open_slice ht h with ⟨e, _⟩ | ⟨a, len, cap, _, _, _, _, e, _⟩
  · rw [hcs] at e; simp at e; exact e.2
  · rw [hcs] at e; simp at e
set_option maxRecDepth 100000 in
/-- A world's configuration among the arguments. -/
theorem open_cf {H : Type} {enc : TypeId × Value → H} {w : World} {base base2 : Nat} {spare : Nat → Bool} {held : Bool} {v : Value} (hv : Value.okWide Tryz.prog w .any base 50 v)
    (h : ∃ n x, DataW.trod enc Tryz.prog w base2 spare held n 50 v.cells.toList = some x) : ∃ c : Cf, v = c.val ∧ c.In w ∧ (c.A = none → c.ca = 0) ∧ (c.B = none → c.cb = 0) := by
  obtain ⟨cs, rfl, hcs, hok⟩ := okWide_cell (P := Tryz.prog) (ts := [3, 2, 47, 48]) Tryz.underlying50 typesCf hv
  rw [cellsCf] at hcs
  obtain ⟨n, x, h⟩ := h
  obtain ⟨_, _, f0⟩ := elem_field Tryz.underlying50 h (j := 0) (u := 3) rfl rfl rfl one3
  obtain ⟨_, _, f1⟩ := elem_field Tryz.underlying50 h (j := 1) (u := 2) rfl rfl rfl cells64
  obtain ⟨_, _, f2⟩ := elem_field Tryz.underlying50 h (j := 2) (u := 47) (c := 1) rfl rfl rfl (by kernel_rfl)
  obtain ⟨_, _, f3⟩ := elem_field Tryz.underlying50 h (j := 3) (u := 48) (c := 1) rfl rfl rfl (by kernel_rfl)
  obtain ⟨k0, g0, _, _⟩ := DataW.trod_int Tryz.underlying3 f0
  obtain ⟨k1, g1, _, _⟩ := DataW.trod_int Tryz.underlying2 f1
  obtain ⟨A2, xs2, c2, g2, p2, q2, r2, _⟩ := Go.Viv.open_row descC 3 (fun _ => rfl) (by decide) cellsDesc (fun n cs x h => elem_desc n cs x h) Tryz.underlying47 f2
  obtain ⟨A3, xs3, c3, g3, p3, q3, r3, _⟩ := Go.Viv.open_row (fun n : Int => [Value.int .i64 n]) 1 (fun _ => rfl) (by decide) cells64 (fun n cs x h => elem_i64 n cs x h) Tryz.underlying48 f3
  have n2 : A2 = none → c2 = 0 := fun h => open_none Tryz.underlying47 (g2.trans (by rw [h])) f2
  have n3 : A3 = none → c3 = 0 := fun h => open_none Tryz.underlying48 (g3.trans (by rw [h])) f3
  obtain ⟨cs⟩ := cs
  clear f0 f1 f2 f3 h
  match cs, hcs with
  | [z0, z1, z2, z3], _ =>
    simp [Value.cells] at g0 g1 g2 g3
    subst g0 g1 g2 g3
    have o2 := hok 2 47 _ (by decide) rfl rfl
    have o3 := hok 3 48 _ (by decide) rfl rfl
    refine ⟨⟨k0, k1, A2, xs2, c2, A3, xs3, c3⟩, rfl, ⟨r2, ?_, p2, p3, max_le q2, max_le q3, fun a ha => ?_, fun a ha => ?_⟩, n2, n3⟩
    · exact rowI_ints r3
    · simp only at ha
      subst ha
      exact slice_spot Tryz.underlying47 o2
    · simp only at ha
      subst ha
      exact slice_spot Tryz.underlying48 o3
end Go.Proofs.YtclmjcjaebonnaaGreatDoor
end

/-
  Contracts of package hibit: Clear.
-/
section
namespace Go.Viv
open Go.RowKit
/-- What a store does, as one word. -/
def storeV (P : Program) (t : TypeId) (a v : Value) (w : World) : Result Unit := (Instr.storeAt t a v).run P w
/-- What a load does, as one word. -/
def loadV (P : Program) (t : TypeId) (a : Value) (w : World) : Result Value := (Instr.loadAt t a).run P w
/-- What an index does, as one word. -/
def indexV (P : Program) (t : TypeId) (x i : Value) (w : World) : Result Value := (Instr.index t x i).run P w
section
variable (P : Program) (dst : Option Tmp) (x y : Operand) (t ty : TypeId) (ps : String) (af : Array Edge) (gd : Option (Nat × Bool)) (a : Act) (w : World) (K : Act → World → Prop) (Q : Exit → Act → World → Prop)
theorem wp_storeV :
    Oper.wp P { dst := dst, op := .store t x y, type := ty, pos := ps, after := af, guard := gd } a w K Q =
      Oper.upon P { dst := dst, op := .store t x y, type := ty, pos := ps, after := af, guard := gd } a K Q ((storeV P t (a.eval x) (a.eval y) w).andThen fun _ w' => .ok .skip w') := by
  unfold Oper.wp execOp storeV
  simp only [Sem.run_bind, Sem.run_pure]
theorem wp_loadV :
    Oper.wp P { dst := dst, op := .load t x, type := ty, pos := ps, after := af, guard := gd } a w K Q =
      Oper.upon P { dst := dst, op := .load t x, type := ty, pos := ps, after := af, guard := gd } a K Q ((loadV P t (a.eval x) w).andThen fun v w' => .ok (.value v) w') := by
  unfold Oper.wp execOp loadV
  simp only [Sem.run_bind, Sem.run_pure]
theorem wp_indexV :
    Oper.wp P { dst := dst, op := .index t x y, type := ty, pos := ps, after := af, guard := gd } a w K Q =
      Oper.upon P { dst := dst, op := .index t x y, type := ty, pos := ps, after := af, guard := gd } a K Q ((indexV P t (a.eval x) (a.eval y) w).andThen fun v w' => .ok (.value v) w') := by
  unfold Oper.wp execOp indexV
  simp only [Sem.run_bind, Sem.run_pure]
end
theorem zeroSet_more {w : World} {g : Nat} {t : TypeId} {rest : List Value} (h : Blk w g t (zeroSet.toList ++ rest).toArray) : NodeC w g 0 (fun _ => none) ∧ w.cell? ⟨g, 65, none⟩ = some (.int .i64 0) := by
  have hl : zeroSet.toList.length = 66 := by simp [zeroSet]
  refine ⟨⟨t, _, h, rfl, fun d hd => ?_⟩, by rw [h.cell]; rfl⟩
  rw [List.getElem?_toArray, List.getElem?_append_left (by omega)]
  show (Value.int .u64 0 :: List.replicate 64 (Value.pointer none) ++ [Value.int .i64 0])[1 + d]? = _
  rw [Nat.add_comm, List.cons_append, List.getElem?_cons_succ, List.getElem?_append_left (by simpa using hd), List.getElem?_replicate, if_pos hd]
  rfl
theorem fr_setRow (w : World) (g : Nat) (cs : Array Value) : Fr (fun k => k = g) w (w.setRow g cs) :=
  ⟨rfl, rfl, rfl, by simp [World.setRow], fun k _ hn => setRow_other w g k cs hn⟩
end Go.Viv
namespace Go.Proofs.YtclmjcjaebonnaaGreatDoor
open Go.RowKit Go.Viv
theorem wp_storeSet (P : Program) (dst : Option Tmp) (x y : Operand) (ty : TypeId) (ps : String) (af : Array Edge) (gd : Option (Nat × Bool)) (a : Act) (w : World) (K : Act → World → Prop) (Q : Exit → Act → World → Prop) :
    Oper.wp P { dst := dst, op := .store 186 x y, type := ty, pos := ps, after := af, guard := gd } a w K Q =
      Oper.upon P { dst := dst, op := .store 186 x y, type := ty, pos := ps, after := af, guard := gd } a K Q ((storeV P 186 (a.eval x) (a.eval y) w).andThen fun _ w' => .ok .skip w') :=
  wp_storeV P dst x y 186 ty ps af gd a w K Q
attribute [local go_sem ↓] wp_storeSet
theorem size_set : (Tryz.prog.info? 186).map (·.size) = some 66 := by kernel_rfl
theorem store_set {w : World} {p : Nat} {t : TypeId} {cs : Array Value} (h : Blk w p t cs) (hs : 66 ≤ cs.size) : storeV Tryz.prog 186 (.pointer (some ⟨p, 0, none⟩)) (.agg zeroSet) w = .ok () (w.setRow p (zeroSet.toList ++ cs.toList.drop 66).toArray) := by
  have hst := run_storeCells_at Tryz.prog p 0 t zeroSet.toList 0 cs w h (by simpa [zeroSet] using hs) (by simp [zeroSet, Value.oneCell'])
  have hz : zeroSet.toList.length = 66 := by simp [zeroSet]
  simp only [Nat.add_zero, Nat.zero_add, List.take_zero, List.nil_append, hz] at hst
  have hz2 : (Value.agg zeroSet).cells.size = 66 := by simp [Value.cells, zeroSet]
  obtain ⟨i, hi, hsz⟩ := Option.map_eq_some_iff.1 size_set
  have hrun : (sizeOf 186).run Tryz.prog w = .ok 66 w := by simp [sizeOf, typeInfo, hi, hsz]
  unfold storeV
  simp only [Instr.storeAt, Instr.sureAddr, storeVar, Sem.run_bind, Sem.run_pure, Result.andThen_ok, hrun, hz2]
  simpa [Value.cells] using hst
set_option maxRecDepth 100000 in
theorem clear_hib (p : Nat) (l : List Nat) (S : Nat → Prop) (w : World) (h : SetIs w p l S) :
    Calls Tryz.prog 152 #[.pointer (some ⟨p, 0, none⟩)] w fun e w' => e = .returned (.tuple #[]) ∧ SetIs w' p [] S ∧ Fr S w w' := by
  obtain ⟨nb, ht⟩ := h.tree
  obtain ⟨hp, word, _, ⟨t, cs, hb, _, _⟩, _⟩ := ht.node 3 0 p ht.top
  have hc := h.count
  rw [hb.cell] at hc
  have hs : 66 ≤ cs.size := by have := (Array.getElem?_eq_some_iff.1 hc).1; omega
  have hst := store_set hb hs
  rw [← zc_set] at hst
  have H := Lib.hid (And.intro hb (And.intro hp h))
  clear h ht hp hb hc
  go_enter Tryz.func152, Tryz.ntmps152
  go_wp2
  refine bodyPost_end (results_none rfl _ _ _) rfl ?_
  rw [zc_set]
  obtain ⟨hb, hp, h⟩ := H.out
  have hb2 : Blk (w.setRow p (zeroSet.toList ++ cs.toList.drop 66).toArray) p t (zeroSet.toList ++ cs.toList.drop 66).toArray := setRow_heap w p cs _ t (0, 0) hb
  have hf := fr_setRow w p (zeroSet.toList ++ cs.toList.drop 66).toArray
  obtain ⟨z1, z2⟩ := zeroSet_more hb2
  exact ⟨rfl, ⟨trivial, z2, ⟨_, empty_tree z1 hp⟩, fun k hk => Nat.lt_of_lt_of_le (h.inb k hk) hf.size⟩, hf.mono (fun k _ hk => by subst hk; exact hp)⟩
end Go.Proofs.YtclmjcjaebonnaaGreatDoor
end

/-
  A set's copy in memory: how its nodes lie. No program in sight.
-/
section
namespace Go.Viv
open Go.RowKit
/-- Place (L', a') lies below kid d of place (L, a). -/
def InK (L a d L' a' : Nat) : Prop := L' < L ∧ a' / 64 ^ (L - 1 - L') = a * 64 + d
def InP (L a L' a' : Nat) : Prop := L' ≤ L ∧ a' / 64 ^ (L - L') = a
theorem inK_inj {L a d e L' a' : Nat} (h : InK L a d L' a') (h' : InK L a e L' a') : d = e := by have := h.2; have := h'.2; omega
theorem inP_succ {M a d L' a' : Nat} : InP M (a * 64 + d) L' a' ↔ InK (M + 1) a d L' a' := by
  unfold InP InK
  rw [show M + 1 - 1 - L' = M - L' from by omega]
  constructor <;> rintro ⟨h1, h2⟩ <;> exact ⟨by omega, h2⟩
theorem inK_kid {L a d M a' x : Nat} (h : InK L a d (M + 1) a') (hx : x < 64) : InK L a d M (a' * 64 + x) := by
  obtain ⟨h1, h2⟩ := h
  refine ⟨by omega, ?_⟩
  rw [show L - 1 - M = (L - 1 - (M + 1)) + 1 from by omega, Nat.pow_succ, Nat.mul_comm (64 ^ (L - 1 - (M + 1))) 64, ← Nat.div_div_eq_div_mul, show (a' * 64 + x) / 64 = a' by omega]
  exact h2
theorem inP_cases {L a L' a' : Nat} (h : InP L a L' a') : (L' = L ∧ a' = a) ∨ ∃ d, d < 64 ∧ InK L a d L' a' := by
  obtain ⟨h1, h2⟩ := h
  rcases Nat.lt_or_ge L' L with hl | hl
  · right
    have e : a' / 64 ^ (L - L') = a' / 64 ^ (L - 1 - L') / 64 := by
      rw [show L - L' = (L - 1 - L') + 1 from by omega, Nat.pow_succ, ← Nat.div_div_eq_div_mul]
    rw [e] at h2
    exact ⟨a' / 64 ^ (L - 1 - L') % 64, Nat.mod_lt _ (by decide), hl, by omega⟩
  · left
    obtain rfl : L' = L := by omega
    simp at h2
    exact ⟨rfl, h2⟩
theorem inK_inP {L a d L' a' : Nat} (hd : d < 64) (h : InK L a d L' a') : InP L a L' a' := by
  obtain ⟨h1, h2⟩ := h
  refine ⟨by omega, ?_⟩
  rw [show L - L' = (L - 1 - L') + 1 from by omega, Nat.pow_succ, ← Nat.div_div_eq_div_mul, h2]
  omega
structure CopyOf (w w' : World) (nb nb' : Nat → Nat → Option Nat) (L a lo : Nat) : Prop where
  out : ∀ L' a', ¬ InP L a L' a' → nb' L' a' = none
  no : ∀ L' a', InP L a L' a' → nb L' a' = none → nb' L' a' = none
  yes : ∀ L' a' b, InP L a L' a' → nb L' a' = some b → ∃ g, nb' L' a' = some g ∧ lo ≤ g ∧ g < w'.heap.size ∧ ∀ word kid, NodeC w b word kid → NodeC w' g word (kidsOf nb' L' a')
  inj : ∀ L1 a1 L2 a2 g, nb' L1 a1 = some g → nb' L2 a2 = some g → L1 = L2 ∧ a1 = a2
structure PartOf (w w' : World) (nb nb' : Nat → Nat → Option Nat) (L a d lo : Nat) : Prop where
  out : ∀ L' a', (∀ e, e < d → ¬ InK L a e L' a') → nb' L' a' = none
  no : ∀ e L' a', e < d → InK L a e L' a' → nb L' a' = none → nb' L' a' = none
  yes : ∀ e L' a' b, e < d → InK L a e L' a' → nb L' a' = some b → ∃ g, nb' L' a' = some g ∧ lo ≤ g ∧ g < w'.heap.size ∧ ∀ word kid, NodeC w b word kid → NodeC w' g word (kidsOf nb' L' a')
  inj : ∀ L1 a1 L2 a2 g, nb' L1 a1 = some g → nb' L2 a2 = some g → L1 = L2 ∧ a1 = a2
theorem CopyOf.at_ {w w' : World} {nb nb' : Nat → Nat → Option Nat} {L a lo : Nat} (h : CopyOf w w' nb nb' L a lo) {L' a' g : Nat} (hg : nb' L' a' = some g) : lo ≤ g ∧ g < w'.heap.size ∧ InP L a L' a' := by
  by_cases hi : InP L a L' a'
  · cases hb : nb L' a' with
    | none => rw [h.no _ _ hi hb] at hg; cases hg
    | some b =>
      obtain ⟨g', h1, h2, h3, _⟩ := h.yes _ _ _ hi hb
      rw [h1] at hg; cases hg
      exact ⟨h2, h3, hi⟩
  · rw [h.out _ _ hi] at hg; cases hg
theorem PartOf.at_ {w w' : World} {nb nb' : Nat → Nat → Option Nat} {L a d lo : Nat} (h : PartOf w w' nb nb' L a d lo) {L' a' g : Nat} (hg : nb' L' a' = some g) : lo ≤ g ∧ g < w'.heap.size ∧ ∃ e, e < d ∧ InK L a e L' a' := by
  by_cases hi : ∃ e, e < d ∧ InK L a e L' a'
  · obtain ⟨e, he, hi⟩ := hi
    cases hb : nb L' a' with
    | none => rw [h.no e _ _ he hi hb] at hg; cases hg
    | some b =>
      obtain ⟨g', h1, h2, h3, _⟩ := h.yes e _ _ _ he hi hb
      rw [h1] at hg; cases hg
      exact ⟨h2, h3, e, he, hi⟩
  · rw [h.out _ _ (fun e he hi' => hi ⟨e, he, hi'⟩)] at hg; cases hg
theorem PartOf.start (w w' : World) (nb : Nat → Nat → Option Nat) (L a lo : Nat) : PartOf w w' nb (fun _ _ => none) L a 0 lo :=
  ⟨fun _ _ _ => rfl, fun _ _ _ h => by omega, fun _ _ _ _ h => by omega, fun _ _ _ _ _ h => by cases h⟩
/-- Nothing hangs below a kid that is not there. -/
theorem Tree.bare {w : World} {p : Nat} {l : List Nat} {S : Nat → Prop} {nb : Nat → Nat → Option Nat} (h : Tree w p l S nb) {L a d : Nat} (hL : L ≤ 3) (hk : kidsOf nb L a d = none) : ∀ (n L' a' : Nat), L - 1 - L' = n → InK L a d L' a' → nb L' a' = none
  | 0, L', a', hn, hi => by
    obtain ⟨h1, h2⟩ := hi
    obtain ⟨M, rfl⟩ : ∃ M, L = M + 1 := ⟨L - 1, by omega⟩
    obtain rfl : L' = M := by omega
    rw [hn] at h2
    simp at h2
    rw [h2]
    exact hk
  | n + 1, L', a', hn, hi => by
    have hi2 : InK L a d (L' + 1) (a' / 64) := by
      obtain ⟨h1, h2⟩ := hi
      refine ⟨by omega, ?_⟩
      rw [show L - 1 - L' = (L - 1 - (L' + 1)) + 1 from by omega, Nat.pow_succ, Nat.mul_comm, ← Nat.div_div_eq_div_mul] at h2
      exact h2
    have ih := h.bare hL hk n (L' + 1) (a' / 64) (by omega) hi2
    cases hb : nb L' a' with
    | none => rfl
    | some b =>
      obtain ⟨b', hb'⟩ := h.up L' a' b (by have := hi.1; omega) hb
      rw [ih] at hb'
      cases hb'
theorem PartOf.skip {w w' : World} {nb nb' : Nat → Nat → Option Nat} {L a d lo : Nat} (h : PartOf w w' nb nb' L a d lo) (hno : ∀ L' a', InK L a d L' a' → nb L' a' = none) : PartOf w w' nb nb' L a (d + 1) lo := by
  have hnd : ∀ L' a', InK L a d L' a' → nb' L' a' = none := fun L' a' hi => h.out _ _ (fun e he hi' => by have := inK_inj hi hi'; omega)
  refine ⟨fun L' a' hn => h.out _ _ (fun e he => hn e (by omega)), fun e L' a' he hi hb => ?_, fun e L' a' b he hi hb => ?_, h.inj⟩
  · by_cases hd : e = d
    · subst hd; exact hnd _ _ hi
    · exact h.no e _ _ (by omega) hi hb
  · by_cases hd : e = d
    · subst hd; rw [hno _ _ hi] at hb; cases hb
    · exact h.yes e _ _ _ (by omega) hi hb
/-- Later, but for a block ahead of all. -/
theorem PartOf.later {w w1 w2 : World} {nb nb' : Nat → Nat → Option Nat} {L a d lo : Nat} (h : PartOf w w1 nb nb' L a d lo) {S : Nat → Prop} (hf : Fr S w1 w2) (hS : ∀ k, S k → k < lo) : PartOf w w2 nb nb' L a d lo :=
  ⟨h.out, h.no, fun e L' a' b he hi hb => by
    obtain ⟨g, h1, h2, h3, h4⟩ := h.yes e L' a' b he hi hb
    exact ⟨g, h1, h2, Nat.lt_of_lt_of_le h3 hf.size, fun word kid hn => (h4 word kid hn).fr hf (fun hs => by have := hS _ hs; omega)⟩, h.inj⟩
open Classical in
noncomputable def mergeN (nb1 nb2 : Nat → Nat → Option Nat) (L a d : Nat) : Nat → Nat → Option Nat := fun L' a' => if InK L a d L' a' then nb2 L' a' else nb1 L' a'
theorem merge_in {nb1 nb2 : Nat → Nat → Option Nat} {L a d L' a' : Nat} (h : InK L a d L' a') : mergeN nb1 nb2 L a d L' a' = nb2 L' a' := if_pos h
theorem merge_out {nb1 nb2 : Nat → Nat → Option Nat} {L a d L' a' : Nat} (h : ¬ InK L a d L' a') : mergeN nb1 nb2 L a d L' a' = nb1 L' a' := if_neg h
theorem PartOf.join {w w1 w2 : World} {nb nbI nb1 : Nat → Nat → Option Nat} {M a d lo : Nat} (h : PartOf w w1 nb nbI (M + 1) a d lo) (hw : Fr (fun _ => False) w w1) (hf : Fr (fun _ => False) w1 w2) (hlo : lo ≤ w1.heap.size)
    (hc : CopyOf w1 w2 nb nb1 M (a * 64 + d) w1.heap.size) : PartOf w w2 nb (mergeN nbI nb1 (M + 1) a d) (M + 1) a (d + 1) lo := by
  have hk : ∀ e L' a' x, e ≠ d → InK (M + 1) a e L' a' → x < 64 → kidsOf (mergeN nbI nb1 (M + 1) a d) L' a' x = kidsOf nbI L' a' x := by
    intro e L' a' x he hi hx
    cases L' with
    | zero => rfl
    | succ K => exact merge_out (fun hi' => he (inK_inj (inK_kid hi hx) hi'))
  have hk1 : ∀ L' a' x, InK (M + 1) a d L' a' → x < 64 → kidsOf (mergeN nbI nb1 (M + 1) a d) L' a' x = kidsOf nb1 L' a' x := by
    intro L' a' x hi hx
    cases L' with
    | zero => rfl
    | succ K => exact merge_in (inK_kid hi hx)
  refine ⟨fun L' a' hn => ?_, fun e L' a' he hi hb => ?_, fun e L' a' b he hi hb => ?_, fun L1 a1 L2 a2 g g1 g2 => ?_⟩
  · rw [merge_out (hn d (by omega))]
    exact h.out _ _ (fun e he => hn e (by omega))
  · by_cases hd : e = d
    · subst hd
      rw [merge_in hi]
      exact hc.no _ _ (inP_succ.2 hi) hb
    · rw [merge_out (fun hi' => hd (inK_inj hi hi'))]
      exact h.no e _ _ (by omega) hi hb
  · by_cases hd : e = d
    · subst hd
      rw [merge_in hi]
      obtain ⟨g, h1, h2, h3, h4⟩ := hc.yes _ _ _ (inP_succ.2 hi) hb
      exact ⟨g, h1, by omega, h3, fun word kid hn => (h4 word kid (hn.fr hw (fun h => h))).kids (fun x hx => hk1 _ _ x hi hx)⟩
    · rw [merge_out (fun hi' => hd (inK_inj hi hi'))]
      obtain ⟨g, h1, h2, h3, h4⟩ := h.yes e _ _ _ (by omega) hi hb
      exact ⟨g, h1, h2, Nat.lt_of_lt_of_le h3 hf.size, fun word kid hn => ((h4 word kid hn).fr hf (fun h => h)).kids (fun x hx => hk e _ _ x hd hi hx)⟩
  · by_cases e1 : InK (M + 1) a d L1 a1 <;> by_cases e2 : InK (M + 1) a d L2 a2
    · rw [merge_in e1] at g1; rw [merge_in e2] at g2; exact hc.inj _ _ _ _ _ g1 g2
    · rw [merge_in e1] at g1; rw [merge_out e2] at g2
      have := (hc.at_ g1).1; have := (h.at_ g2).2.1; omega
    · rw [merge_out e1] at g1; rw [merge_in e2] at g2
      have := (hc.at_ g2).1; have := (h.at_ g1).2.1; omega
    · rw [merge_out e1] at g1; rw [merge_out e2] at g2; exact h.inj _ _ _ _ _ g1 g2
/-- All kids are copied. -/
theorem PartOf.done {w w' : World} {nb nbI : Nat → Nat → Option Nat} {L a b g word : Nat} (h : PartOf w w' nb nbI L a 64 (g + 1)) (hb : nb L a = some b) (hN : NodeC w b word (kidsOf nb L a)) (hG : NodeC w' g word (kidsOf nbI L a)) :
    CopyOf w w' nb (upN nbI L a (some g)) L a g := by
  have hself : ∀ d, ¬ InK L a d L a := fun d hi => by have := hi.1; omega
  have hk : ∀ L' a' x, kidsOf (upN nbI L a (some g)) L' a' x = kidsOf nbI L' a' x ∨ ∃ K, L' = K + 1 ∧ K = L ∧ a' * 64 + x = a := by
    intro L' a' x
    cases L' with
    | zero => exact .inl rfl
    | succ K =>
      by_cases e : K = L ∧ a' * 64 + x = a
      · exact .inr ⟨K, rfl, e⟩
      · exact .inl (upN_ne e)
  refine ⟨fun L' a' hn => ?_, fun L' a' hi hb' => ?_, fun L' a' b' hi hb' => ?_, fun L1 a1 L2 a2 g' g1 g2 => ?_⟩
  · rw [upN_ne (fun e => hn ⟨by omega, by rw [e.1, e.2]; simp⟩)]
    refine h.out _ _ (fun e he hi => hn (inK_inP he hi))
  · rcases inP_cases hi with ⟨rfl, rfl⟩ | ⟨d, hd, hi⟩
    · rw [hb] at hb'; cases hb'
    · rw [upN_ne (fun e => by have := hi.1; omega)]
      exact h.no d _ _ hd hi hb'
  · rcases inP_cases hi with ⟨rfl, rfl⟩ | ⟨d, hd, hi⟩
    · rw [upN_same]
      refine ⟨g, rfl, Nat.le_refl _, hG.lt, fun word' kid hn => ?_⟩
      rw [hb] at hb'; cases hb'
      obtain rfl := hn.word_eq hN
      refine hG.kids (fun x _ => ?_)
      rcases hk L' a' x with e | ⟨K, h1, h2, _⟩
      · exact e
      · omega
    · rw [upN_ne (fun e => by have := hi.1; omega)]
      obtain ⟨g', h1, h2, h3, h4⟩ := h.yes d _ _ _ hd hi hb'
      refine ⟨g', h1, by omega, h3, fun word' kid hn => (h4 word' kid hn).kids (fun x _ => ?_)⟩
      rcases hk L' a' x with e | ⟨K, q1, q2, _⟩
      · exact e
      · have := hi.1; omega
  · by_cases e1 : L1 = L ∧ a1 = a <;> by_cases e2 : L2 = L ∧ a2 = a
    · omega
    · rw [e1.1, e1.2, upN_same] at g1; rw [upN_ne e2] at g2
      cases g1
      have := (h.at_ g2).1; omega
    · rw [e2.1, e2.2, upN_same] at g2; rw [upN_ne e1] at g1
      cases g2
      have := (h.at_ g1).1; omega
    · rw [upN_ne e1] at g1; rw [upN_ne e2] at g2; exact h.inj _ _ _ _ _ g1 g2
end Go.Viv
end

/-
  Contracts of package hibit: node.copy, Copy.
-/
section
namespace Go.Viv
open Go.RowKit
def kidsA (k : Nat → Option Nat) : Array Value := ((List.range 64).map fun d => ptrV (k d)).toArray
theorem kidsA_at (k : Nat → Option Nat) {d : Nat} (h : d < 64) : (kidsA k)[d]? = some (ptrV (k d)) := by
  simp [kidsA, h]
/-- A new node of a word. -/
def nodeW (x : Nat) : Array Value := (Value.int .u64 x :: List.replicate 64 (Value.pointer none)).toArray
theorem nodeW_c {w : World} {g x : Nat} {t : TypeId} (h : Blk w g t (nodeW x)) : NodeC w g x (fun _ => none) := by
  refine ⟨t, _, h, rfl, fun d hd => ?_⟩
  show (Value.int .u64 x :: List.replicate 64 (Value.pointer none)).toArray[1 + d]? = _
  rw [List.getElem?_toArray, Nat.add_comm, List.getElem?_cons_succ, List.getElem?_replicate, if_pos hd]
  rfl
theorem inK_self {M a d e : Nat} : InK (M + 1) a d M (a * 64 + e) ↔ e = d := by
  unfold InK
  simp
theorem PartOf.kid_none {w w' : World} {nb nbI : Nat → Nat → Option Nat} {L a d lo : Nat} (h : PartOf w w' nb nbI L a d lo) : kidsOf nbI L a d = none := by
  cases L with
  | zero => rfl
  | succ M => exact h.out M (a * 64 + d) (fun e he hi => by have := inK_self.1 hi; omega)
end Go.Viv
namespace Go.Proofs.YtclmjcjaebonnaaGreatDoor
open Go.RowKit Go.Viv Go.Sort
theorem wp_loadKids (P : Program) (dst : Option Tmp) (x : Operand) (ty : TypeId) (ps : String) (af : Array Edge) (gd : Option (Nat × Bool)) (a : Act) (w : World) (K : Act → World → Prop) (Q : Exit → Act → World → Prop) :
    Oper.wp P { dst := dst, op := .load 182 x, type := ty, pos := ps, after := af, guard := gd } a w K Q =
      Oper.upon P { dst := dst, op := .load 182 x, type := ty, pos := ps, after := af, guard := gd } a K Q ((loadV P 182 (a.eval x) w).andThen fun v w' => .ok (.value v) w') :=
  wp_loadV P dst x 182 ty ps af gd a w K Q
theorem wp_indexKids (P : Program) (dst : Option Tmp) (x y : Operand) (ty : TypeId) (ps : String) (af : Array Edge) (gd : Option (Nat × Bool)) (a : Act) (w : World) (K : Act → World → Prop) (Q : Exit → Act → World → Prop) :
    Oper.wp P { dst := dst, op := .index 182 x y, type := ty, pos := ps, after := af, guard := gd } a w K Q =
      Oper.upon P { dst := dst, op := .index 182 x y, type := ty, pos := ps, after := af, guard := gd } a K Q ((indexV P 182 (a.eval x) (a.eval y) w).andThen fun v w' => .ok (.value v) w') :=
  wp_indexV P dst x y 182 ty ps af gd a w K Q
attribute [local go_sem ↓] wp_loadKids wp_indexKids
theorem size_kids : (Tryz.prog.info? 182).map (·.size) = some 64 := by kernel_rfl
theorem size_ptr : (Tryz.prog.info? 181).map (·.size) = some 1 := by kernel_rfl
theorem load_kids {w : World} {b word : Nat} {kid : Nat → Option Nat} (h : NodeC w b word kid) : loadV Tryz.prog 182 (.pointer (some ⟨b, 1, none⟩)) w = .ok (.agg (kidsA kid)) w := by
  have hl := run_loadCells (P := Tryz.prog) w ⟨b, 1, none⟩ 64 (fun d => ptrV (kid d)) (fun j hj => by
    rw [show (⟨b, 1, none⟩ : Addr).add j = ⟨b, 1 + j, none⟩ from by unfold Addr.add; split <;> simp_all]
    exact h.cellK hj)
  obtain ⟨i, hi, hsz⟩ := Option.map_eq_some_iff.1 size_kids
  have hrun : (sizeOf 182).run Tryz.prog w = .ok 64 w := by simp [sizeOf, typeInfo, hi, hsz]
  have hag : (isAgg 182).run Tryz.prog w = .ok true w := by kernel_rfl
  unfold loadV
  simp only [Instr.loadAt, Instr.sureAddr, loadVar, Sem.run_bind, Sem.run_pure, Result.andThen_ok, hrun, hag, hl, if_true]
  rfl
theorem index_kids {w : World} {kid : Nat → Option Nat} {d : Nat} (hd : d < 64) : indexV Tryz.prog 182 (.agg (kidsA kid)) (.int .i64 (d : Int)) w = .ok (ptrV (kid d)) w := by
  obtain ⟨i, hi, hsz⟩ := Option.map_eq_some_iff.1 size_ptr
  have hrun : (sizeOf 181).run Tryz.prog w = .ok 1 w := by simp [sizeOf, typeInfo, hi, hsz]
  have hu := run_underlying (w := w) Tryz.underlying182
  have hk := kidsA_at kid hd
  unfold indexV
  simp [Instr.index, asIntOf, hu, hrun, part, hk]
  exact fun h => absurd h (by omega)
/-- What copying a node of a level comes to. -/
def CopyC (L : Nat) : Prop := ∀ (p : Nat) (l : List Nat) (S : Nat → Prop) (nb : Nat → Nat → Option Nat) (a b : Nat) (w : World), Tree w p l S nb → nb L a = some b →
  Calls Tryz.prog 215 #[.pointer (some ⟨b, 0, none⟩)] w fun e w' => ∃ g nb', e = .returned (.pointer (some ⟨g, 0, none⟩)) ∧ nb' L a = some g ∧ CopyOf w w' nb nb' L a w.heap.size ∧ Fr (fun _ => False) w w'
theorem zc_nodeW (x : Nat) : Tryz.zeroCells184.setIfInBounds 0 (.int .u64 (x : Int)) = nodeW x := by kernel_rfl
set_option maxRecDepth 100000 in
set_option maxHeartbeats 2000000 in
theorem copy_at (L : Nat) (hL : L ≤ 3) (ih : ∀ M, L = M + 1 → CopyC M) : CopyC L := by
  intro p l S nb a b w ht hb
  obtain ⟨_, word, _, hN, _⟩ := ht.node _ _ _ hb
  have c0 := hN.cell0
  have hbl := hN.lt
  have hbs : b ≠ w.heap.size := by omega
  obtain ⟨W0, hW0⟩ : ∃ W0, w.alloc (.cells (nodeW word) 184) = W0 := ⟨_, rfl⟩
  have hf0 : Fr (fun _ => False) w W0 := by rw [← hW0]; exact (Fr.refl _ _).alloc _
  have hsz0 : W0.heap.size = w.heap.size + 1 := by rw [← hW0]; simp
  have hG : NodeC W0 w.heap.size word (fun _ => none) := by rw [← hW0]; exact nodeW_c (Blk.new w 184 (nodeW word))
  have hld := load_kids (hN.fr hf0 (fun h => h))
  rw [← hW0, ← zc_nodeW] at hld
  have HW := Lib.hid hW0
  have H := Lib.hid (And.intro ht (And.intro hb (And.intro hN (And.intro hG (And.intro hf0 hsz0)))))
  clear ht hb hN hW0 hG hf0 hsz0
  go_enter Tryz.func215, Tryz.ntmps215
  go_wp2_with fail
  rw [zc_nodeW, HW.out]
  clear hld
  have HI := Lib.hid (fun (W : World) (d : Nat) (hd : d < 64) => index_kids (w := W) (kid := kidsOf nb L a) hd)
  have HIH := Lib.hid ih
  clear ih
  go_loopw [4, 5, 16] (fun _ _ t wr => ∃ (d : Nat) (nbI : Nat → Nat → Option Nat), d ≤ 64 ∧ t = .int .i64 d ∧ PartOf w wr nb nbI L a d (w.heap.size + 1) ∧ NodeC wr w.heap.size word (fun e => if e < d then kidsOf nbI L a e else none) ∧ Fr (fun _ => False) w wr ∧ w.heap.size + 1 ≤ wr.heap.size) (fun _ _ t _ => 64 - (intOf t).toNat)
  case atStart =>
    refine ⟨0, fun _ _ => none, by omega, rfl, PartOf.start _ _ _ _ _ _, H.out.2.2.2.1.kids (fun d _ => by simp), H.out.2.2.2.2.1, ?_⟩
    rw [H.out.2.2.2.2.2]; exact Nat.le_refl _
  case round =>
    obtain ⟨d, nbI, hd, rfl, hpart, hG, hfr, hsz⟩ := hrel
    by_cases hlt : d < 64
    · have hdi : (d : Int) < 64 := by omega
      have hix := HI.out wr d hlt
      cases hk : kidsOf nb L a d with
      | none =>
        rw [hk] at hix
        simp only [ptrV] at hix
        have HP := Lib.hid (And.intro hpart (And.intro hG (And.intro hfr (And.intro hsz hk))))
        clear hpart hG hfr hk hsz
        go_wp2
        go_roundw
        case rel =>
          refine ⟨d + 1, nbI, by omega, by go_num, HP.out.1.skip (fun L' a' hi => (H.out.1).bare hL HP.out.2.2.2.2 _ L' a' rfl hi), HP.out.2.1.kids (fun e _ => ?_), HP.out.2.2.1, HP.out.2.2.2.1⟩
          by_cases he : e = d
          · subst he
            rw [if_pos (by omega), if_neg (by omega), HP.out.1.kid_none]
          · by_cases he2 : e < d
            · rw [if_pos (by omega), if_pos he2]
            · rw [if_neg (by omega), if_neg he2]
        case measure => simp [intOf]; omega
      | some c =>
        obtain ⟨M, rfl⟩ : ∃ M, L = M + 1 := by
          cases L with
          | zero => cases hk
          | succ M => exact ⟨M, rfl⟩
        rw [hk] at hix
        simp only [ptrV] at hix
        have HC := Lib.hid (HIH.out M rfl p l S nb (a * 64 + d) c wr.drew (H.out.1.frF hfr.drew) hk)
        have HP := Lib.hid (And.intro hpart (And.intro hG (And.intro hfr (And.intro hsz hk))))
        clear hpart hG hfr hk hsz
        obtain ⟨wB, hwB⟩ : ∃ wB, wB = wr := ⟨wr, rfl⟩
        subst hwB
        go_wp2_with fail
        refine Ord.wp_region_reg #[0, 0, 0, 4, 1, 17, 63, 127] [(0, true), (1, true), (2, true), (4, true), (5, true), (3, false), (6, true), (7, false)] [7] (by kernel_rfl) (by kernel_rfl) (by intro c d v a w h; cases d <;> exact h) ?_
        simp only [Ord.pick, List.map_cons, List.map_nil, List.getElem?_toArray, List.getElem?_cons_succ, List.getElem?_cons_zero]
        iterate 5 (apply Ord.c_step; intro K hK; go_simp; first | (refine hK _ ?_; clear hK K))
        apply Ord.c_does (k := true) rfl
        go_wp2_with fail
        refine HC.out.mono ?_
        rintro e w2 ⟨g1, nb1, rfl, hg1, hcp, hf2⟩
        have hB2 : Fr (fun _ => False) wB w2 := fr_two (Fr.refl _ _).drew hf2
        have hG2 := HP.out.2.1.fr hB2 (fun h => h)
        have f1 := hG2.frozen (1 + d)
        have ck := hG2.cellK hlt
        rw [if_neg (by omega)] at ck
        simp only [ptrV] at ck
        have g0l := hG2.lt
        have HX := Lib.hid (And.intro hg1 (And.intro hcp (And.intro hf2 (And.intro hB2 hG2))))
        clear hg1 hcp hf2 hB2 hG2
        go_wp2_with fail
        refine Ord.behind_cls (reg_of_fr HX.out.2.2.2.1) ?_
        iterate 1 (apply Ord.c_step; intro K hK; go_simp; first | (refine hK _ ?_; clear hK K))
        apply Ord.c_does (k := false) rfl
        go_wp2_with fail
        refine Ord.behind_last ?_
        refine Ord.c_nil ?_
        go_wp2
        go_roundw
        case rel =>
          have hf3 : Fr (fun k => k = w.heap.size) w2 (w2.setCell ⟨w.heap.size, 1 + d, none⟩ (.pointer (some ⟨g1, 0, none⟩))) := by
            refine (Fr.refl _ _).setCell ?_ _; exact .inl rfl
          have hj := (HP.out.1.later (S := fun _ => False) (Fr.refl _ wB).drew (fun _ h => h.elim)).join HP.out.2.2.1.drew HX.out.2.2.1 HP.out.2.2.2.1 HX.out.2.1
          refine ⟨d + 1, _, by omega, by go_num, hj.later hf3 (fun k hk => by omega), (HX.out.2.2.2.2.setKid hlt (some g1)).kids (fun e _ => ?_), ?_, ?_⟩
          · by_cases he : e = d
            · subst he
              rw [if_pos (by omega), if_pos rfl]
              exact (merge_in (inK_self.2 rfl)).trans HX.out.1
            · have e1 : kidsOf (mergeN nbI nb1 (M + 1) a d) (M + 1) a e = kidsOf nbI (M + 1) a e := merge_out (fun hi => he (inK_self.1 hi))
              rw [e1, if_neg he]
              by_cases he2 : e < d
              · rw [if_pos (by omega), if_pos he2]
              · rw [if_neg (by omega), if_neg he2]
          · refine (fr_two HP.out.2.2.1 HX.out.2.2.2.1).setCell ?_ _; exact .inr (Nat.le_refl _)
          · have h1 := HX.out.2.2.2.1.size
            have h2 := HP.out.2.2.2.1
            simp; omega
        case measure => simp [intOf]; omega
    · obtain rfl : d = 64 := by omega
      have HP := Lib.hid (And.intro hpart (And.intro hG (And.intro hfr hsz)))
      clear hpart hG hfr hsz
      go_wp2
      go_ret
      exact ⟨w.heap.size, _, rfl, upN_same _ _ _ _, HP.out.1.done H.out.2.1 H.out.2.2.1 (HP.out.2.1.kids (fun e he => by rw [if_pos he])), HP.out.2.2.1⟩
theorem copy_any : ∀ L, L ≤ 3 → CopyC L
  | 0, h => copy_at 0 h (fun M hM => by omega)
  | L + 1, h => copy_at (L + 1) h (fun M hM => by
    obtain rfl : L = M := by omega
    exact copy_any L (by omega))
end Go.Proofs.YtclmjcjaebonnaaGreatDoor
end

/-
  Contracts of package hibit: Copy.
-/
section
namespace Go.Viv
open Go.RowKit
theorem Tree.all {w : World} {p : Nat} {l : List Nat} {S : Nat → Prop} {nb : Nat → Nat → Option Nat} (h : Tree w p l S nb) : ∀ (n L a b : Nat), 3 - L = n → nb L a = some b → InP 3 0 L a
  | 0, L, a, b, hn, hb => by
    have hL := h.high _ _ _ hb
    obtain rfl : L = 3 := by omega
    obtain rfl := h.only _ _ hb
    exact ⟨by omega, by simp⟩
  | n + 1, L, a, b, hn, hb => by
    obtain ⟨b', hb'⟩ := h.up L a b (by omega) hb
    obtain ⟨_, h2⟩ := h.all n (L + 1) (a / 64) b' (by omega) hb'
    refine ⟨by omega, ?_⟩
    rw [show 3 - L = (3 - (L + 1)) + 1 from by omega, Nat.pow_succ, Nat.mul_comm, ← Nat.div_div_eq_div_mul]
    exact h2
/-- The copy's top lies in the set's own block. -/
theorem CopyOf.tree {w w2 w3 : World} {p s g : Nat} {l : List Nat} {S T : Nat → Prop} {nb nb' : Nat → Nat → Option Nat} (ht : Tree w p l S nb) (hc : CopyOf w w2 nb nb' 3 0 w.heap.size) (hg : nb' 3 0 = some g) (hf : Fr (fun _ => False) w2 w3) (hs : w2.heap.size ≤ s)
    (hT : ∀ k, w.heap.size ≤ k → k < w3.heap.size → T k) (hsl : s < w3.heap.size) (hle : w.heap.size ≤ w2.heap.size) (hS : ∀ word, NodeC w2 g word (kidsOf nb' 3 0) → NodeC w3 s word (kidsOf nb' 3 0)) : Tree w3 s l T (upN nb' 3 0 (some s)) := by
  have hk : ∀ L a x, L ≤ 3 → kidsOf (upN nb' 3 0 (some s)) L a x = kidsOf nb' L a x := by
    intro L a x hL
    cases L with
    | zero => rfl
    | succ K => exact upN_ne (fun e => by omega)
  have hsame : ∀ L a, L ≤ 3 → (nb' L a).isSome = (nb L a).isSome := by
    intro L a hL
    cases hb : nb L a with
    | some b =>
      obtain ⟨g', h1, _⟩ := hc.yes _ _ _ (ht.all _ _ _ _ rfl hb) hb
      rw [h1]; rfl
    | none =>
      cases hb' : nb' L a with
      | none => rfl
      | some g' =>
        have := hc.no _ _ (hc.at_ hb').2.2 hb
        rw [this] at hb'; cases hb'
  have hbit : ∀ L a x, L ≤ 3 → bitOf (upN nb' 3 0 (some s)) l L a x = bitOf nb l L a x := by
    intro L a x hL
    cases L with
    | zero => rfl
    | succ K =>
      show (upN nb' 3 0 (some s) K (a * 64 + x)).isSome = (nb K (a * 64 + x)).isSome
      rw [upN_ne (fun e => by omega), hsame _ _ (by omega)]
  have hold : ∀ {L a b'}, nb' L a = some b' → ∃ b, nb L a = some b := fun {L a b'} h => by
    have := hsame L a (hc.at_ h).2.2.1
    rw [h] at this
    exact Option.isSome_iff_exists.1 this.symm
  refine ⟨upN_same _ _ _ _, fun a b hb => ?_, fun L a b hb => ?_, fun L a b hb => ?_, fun L a L' a' b h1 h2 => ?_, fun L a b hL hb => ?_, fun i hi => ?_, ht.lt⟩
  · by_cases e : a = 0
    · exact e
    · rw [upN_ne (fun h => e h.2)] at hb
      have := (hc.at_ hb).2.2.2
      simpa using this
  · by_cases e : L = 3 ∧ a = 0
    · omega
    · rw [upN_ne e] at hb; exact (hc.at_ hb).2.2.1
  · by_cases e : L = 3 ∧ a = 0
    · obtain ⟨rfl, rfl⟩ := e
      rw [upN_same] at hb; cases hb
      obtain ⟨_, word, h2, h3, h4⟩ := ht.node 3 0 p ht.top
      obtain ⟨g', q1, q2, q3, q4⟩ := hc.yes 3 0 p ⟨by omega, by simp⟩ ht.top
      rw [hg] at q1; cases q1
      exact ⟨hT _ (by omega) hsl, word, h2, (hS word (q4 word _ h3)).kids (fun x _ => hk 3 0 x (by omega)), fun x hx => by rw [hbit 3 0 x (by omega)]; exact h4 x hx⟩
    · rw [upN_ne e] at hb
      obtain ⟨b0, hb0⟩ := hold hb
      obtain ⟨_, word, h2, h3, h4⟩ := ht.node _ _ _ hb0
      have hin := (hc.at_ hb).2.2
      obtain ⟨g', q1, q2, q3, q4⟩ := hc.yes _ _ _ hin hb0
      rw [hb] at q1; cases q1
      exact ⟨hT _ q2 (Nat.lt_of_lt_of_le q3 hf.size), word, h2, ((q4 word _ h3).fr hf (fun h => h)).kids (fun x _ => hk L a x hin.1), fun x hx => by rw [hbit L a x hin.1]; exact h4 x hx⟩
  · by_cases e1 : L = 3 ∧ a = 0 <;> by_cases e2 : L' = 3 ∧ a' = 0
    · omega
    · rw [e1.1, e1.2, upN_same] at h1; cases h1
      rw [upN_ne e2] at h2
      have := (hc.at_ h2).2.1; omega
    · rw [e2.1, e2.2, upN_same] at h2; cases h2
      rw [upN_ne e1] at h1
      have := (hc.at_ h1).2.1; omega
    · rw [upN_ne e1] at h1; rw [upN_ne e2] at h2; exact hc.inj _ _ _ _ _ h1 h2
  · rw [upN_ne (by omega)] at hb
    obtain ⟨b0, hb0⟩ := hold hb
    obtain ⟨b1, hb1⟩ := ht.up L a b0 hL hb0
    by_cases e : L + 1 = 3 ∧ a / 64 = 0
    · exact ⟨s, by rw [e.1, e.2, upN_same]⟩
    · rw [upN_ne e]
      obtain ⟨g', q1, _⟩ := hc.yes _ _ _ (ht.all _ _ _ _ rfl hb1) hb1
      exact ⟨g', q1⟩
  · obtain ⟨b0, hb0⟩ := ht.low i hi
    obtain ⟨g', q1, _⟩ := hc.yes _ _ _ (ht.all _ _ _ _ rfl hb0) hb0
    exact ⟨g', by rw [upN_ne (by omega)]; exact q1⟩
/-- A node's cells. -/
def nodeA (word : Nat) (k : Nat → Option Nat) : Array Value := (Value.int .u64 word :: (List.range 64).map fun d => ptrV (k d)).toArray
/-- A set's cells. -/
def setA (word : Nat) (k : Nat → Option Nat) (n : Nat) : Array Value := (Value.int .u64 word :: ((List.range 64).map fun d => ptrV (k d)) ++ [Value.int .i64 n]).toArray
theorem setA_c {w : World} {g word n : Nat} {k : Nat → Option Nat} {t : TypeId} (h : Blk w g t (setA word k n)) : NodeC w g word k ∧ w.cell? ⟨g, 65, none⟩ = some (.int .i64 n) := by
  refine ⟨⟨t, _, h, rfl, fun d hd => ?_⟩, ?_⟩
  · show (Value.int .u64 word :: ((List.range 64).map fun d => ptrV (k d)) ++ [Value.int .i64 n]).toArray[1 + d]? = _
    rw [List.getElem?_toArray, Nat.add_comm, List.cons_append, List.getElem?_cons_succ, List.getElem?_append_left (by simpa using hd)]
    simp [hd]
  · rw [h.cell]
    show (Value.int .u64 word :: ((List.range 64).map fun d => ptrV (k d)) ++ [Value.int .i64 n]).toArray[65]? = _
    rw [List.getElem?_toArray, List.cons_append, List.getElem?_cons_succ, List.getElem?_append_right (by simp)]
    simp
/-- What a build does, as one word. -/
def buildV (P : Program) (t : TypeId) (parts : Array (Nat × Value)) (w : World) : Result Value := (Instr.build t parts).run P w
theorem wp_buildV (P : Program) (dst : Option Tmp) (x y : Operand) (i j : Nat) (t ty : TypeId) (ps : String) (af : Array Edge) (gd : Option (Nat × Bool)) (a : Act) (w : World) (K : Act → World → Prop) (Q : Exit → Act → World → Prop) :
    Oper.wp P { dst := dst, op := .build t #[(i, x), (j, y)], type := ty, pos := ps, after := af, guard := gd } a w K Q =
      Oper.upon P { dst := dst, op := .build t #[(i, x), (j, y)], type := ty, pos := ps, after := af, guard := gd } a K Q ((buildV P t #[(i, a.eval x), (j, a.eval y)] w).andThen fun v w' => .ok (.value v) w') := by
  unfold Oper.wp execOp buildV
  simp only [Sem.run_bind, Sem.run_pure, List.map_toArray, List.map_cons, List.map_nil]
end Go.Viv
namespace Go.Proofs.YtclmjcjaebonnaaGreatDoor
open Go.RowKit Go.Viv Go.Sort
theorem wp_loadNode (P : Program) (dst : Option Tmp) (x : Operand) (ty : TypeId) (ps : String) (af : Array Edge) (gd : Option (Nat × Bool)) (a : Act) (w : World) (K : Act → World → Prop) (Q : Exit → Act → World → Prop) :
    Oper.wp P { dst := dst, op := .load 184 x, type := ty, pos := ps, after := af, guard := gd } a w K Q =
      Oper.upon P { dst := dst, op := .load 184 x, type := ty, pos := ps, after := af, guard := gd } a K Q ((loadV P 184 (a.eval x) w).andThen fun v w' => .ok (.value v) w') :=
  wp_loadV P dst x 184 ty ps af gd a w K Q
theorem wp_buildSet (P : Program) (dst : Option Tmp) (x y : Operand) (i j : Nat) (ty : TypeId) (ps : String) (af : Array Edge) (gd : Option (Nat × Bool)) (a : Act) (w : World) (K : Act → World → Prop) (Q : Exit → Act → World → Prop) :
    Oper.wp P { dst := dst, op := .build 186 #[(i, x), (j, y)], type := ty, pos := ps, after := af, guard := gd } a w K Q =
      Oper.upon P { dst := dst, op := .build 186 #[(i, x), (j, y)], type := ty, pos := ps, after := af, guard := gd } a K Q ((buildV P 186 #[(i, a.eval x), (j, a.eval y)] w).andThen fun v w' => .ok (.value v) w') :=
  wp_buildV P dst x y i j 186 ty ps af gd a w K Q
attribute [local go_sem ↓] wp_loadNode wp_buildSet
theorem size_node : (Tryz.prog.info? 184).map (·.size) = some 65 := by kernel_rfl
theorem load_node {w : World} {b word : Nat} {kid : Nat → Option Nat} (h : NodeC w b word kid) : loadV Tryz.prog 184 (.pointer (some ⟨b, 0, none⟩)) w = .ok (.agg (nodeA word kid)) w := by
  have hl := run_loadCells (P := Tryz.prog) w ⟨b, 0, none⟩ 65 (fun j => if j = 0 then .int .u64 word else ptrV (kid (j - 1))) (fun j hj => by
    rw [show (⟨b, 0, none⟩ : Addr).add j = ⟨b, j, none⟩ from by unfold Addr.add; split <;> simp_all]
    by_cases h0 : j = 0
    · rw [h0, if_pos rfl]; exact h.cell0
    · rw [if_neg h0]
      have := h.cellK (d := j - 1) (by omega)
      rwa [show 1 + (j - 1) = j from by omega] at this)
  obtain ⟨i, hi, hsz⟩ := Option.map_eq_some_iff.1 size_node
  have hrun : (sizeOf 184).run Tryz.prog w = .ok 65 w := by simp [sizeOf, typeInfo, hi, hsz]
  have hag : (isAgg 184).run Tryz.prog w = .ok true w := by kernel_rfl
  unfold loadV
  simp only [Instr.loadAt, Instr.sureAddr, loadVar, Sem.run_bind, Sem.run_pure, Result.andThen_ok, hrun, hag, hl, if_true]
  rfl
theorem build_copy (word n : Nat) (kid : Nat → Option Nat) (w : World) : buildV Tryz.prog 186 #[(0, .agg (nodeA word kid)), (1, .int .i64 n)] w = .ok (.agg (setA word kid n)) w := by kernel_rfl
set_option maxRecDepth 100000 in
set_option maxHeartbeats 2000000 in
theorem copy_hib (p : Nat) (l : List Nat) (S : Nat → Prop) (w : World) (h : SetIs w p l S) :
    Calls Tryz.prog 193 #[.pointer (some ⟨p, 0, none⟩)] w fun e w' => ∃ s, e = .returned (.pointer (some ⟨s, 0, none⟩)) ∧ SetIs w' s l (fun k => w.heap.size ≤ k ∧ k < w'.heap.size) ∧ Fr (fun _ => False) w w' := by
  obtain ⟨nb, ht⟩ := h.tree
  have hc := h.count
  obtain ⟨_, word, _, hN, _⟩ := ht.node 3 0 p ht.top
  have hpl := hN.lt
  have cR := cell_regrown hc
  have HC := Lib.hid (copy_any 3 (by decide) p l S nb 0 p w.drew (ht.frF (Fr.refl _ _).drew) ht.top)
  have H := Lib.hid (And.intro ht (And.intro h hN))
  have HB := Lib.hid (build_copy word)
  clear ht h hN
  go_enter Tryz.func193, Tryz.ntmps193
  go_wp2_with fail
  refine Ord.wp_region_reg #[0, 1, 3, 7, 15, 31, 0, 64, 192, 448, 1023, 2047, 4095] [(0, true), (1, true), (2, true), (6, true), (7, true), (8, true), (9, true), (3, false), (4, true), (5, false), (10, false), (11, false), (12, true)] [] (by kernel_rfl) (by kernel_rfl) (by intro c d v a w h; cases d <;> exact h) ?_
  simp only [Ord.pick, List.map_cons, List.map_nil, List.getElem?_toArray, List.getElem?_cons_succ, List.getElem?_cons_zero]
  iterate 7 (apply Ord.c_step; intro K hK; go_simp; first | (refine hK _ ?_; clear hK K))
  apply Ord.c_does (k := true) rfl
  go_wp2_with fail
  refine HC.out.mono ?_
  rintro e w2 ⟨g, nb', rfl, hg, hcp, hf2⟩
  have hB2 : Fr (fun _ => False) w w2 := fr_two (Fr.refl _ _).drew hf2
  obtain ⟨g2, q1, q2, q3, q4⟩ := hcp.yes 3 0 p ⟨by omega, by simp⟩ H.out.1.top
  rw [hg] at q1
  cases q1
  have hN2 : NodeC w2 g word (kidsOf nb' 3 0) := q4 word (kidsOf nb 3 0) (H.out.2.2.fr (Fr.refl (fun _ => False) _).drew (fun h => h))
  have hld := load_node hN2
  have hbu := HB.out l.length (kidsOf nb' 3 0) w2
  have HX := Lib.hid (And.intro hg (And.intro hcp (And.intro hB2 hN2)))
  clear hg hcp hf2 hB2 hN2 q2 q3 q4
  go_wp2_with fail
  refine Ord.behind_cls (reg_of_fr HX.out.2.2.1) ?_
  iterate 1 (apply Ord.c_step; intro K hK; go_simp; first | (refine hK _ ?_; clear hK K))
  apply Ord.c_does (k := true) rfl
  go_wp2_with fail
  refine Ord.behind_cls (reg_of_fr HX.out.2.2.1) ?_
  apply Ord.c_does (k := true) rfl
  go_wp2_with fail
  refine Ord.behind_cls (reg_of_fr HX.out.2.2.1) ?_
  apply Ord.c_does (k := true) rfl
  go_wp2_with fail
  refine Ord.behind_cls (reg_of_fr (HX.out.2.2.1.alloc _)) ?_
  iterate 1 (apply Ord.c_step; intro K hK; go_simp; first | (refine hK _ ?_; clear hK K))
  refine Ord.c_nil ?_
  go_wp2
  go_ret
  obtain ⟨hg, hcp, hB2, hN2⟩ := HX.out
  have hs := setA_c (Blk.new w2 186 (setA word (kidsOf nb' 3 0) l.length))
  have hfa : Fr (fun _ => False) w2 (w2.alloc (.cells (setA word (kidsOf nb' 3 0) l.length) 186)) := (Fr.refl _ _).alloc _
  refine ⟨w2.heap.size, rfl, ⟨H.out.2.1.rise, hs.2, ⟨_, CopyOf.tree (w := w.drew) (H.out.1.frF (Fr.refl _ _).drew) hcp hg hfa (Nat.le_refl _) (fun k h1 h2 => ⟨h1, h2⟩) (by simp) hB2.size (fun word' hn => ?_)⟩, fun k hk => hk.2⟩, hB2.alloc _⟩
  obtain rfl := hn.word_eq hN2
  exact hs.1
end Go.Proofs.YtclmjcjaebonnaaGreatDoor
end
