/-
  Several texts in one. What the plan laws lean on; contracts of package plan: text, asks, check, Check.
-/
import Derived.Test.YtmcigeebeoobdaaGreatDoorPz01
import Derived.Lib.ParseIntBTie
import Derived.Test.YtmcigeebeoobdaaGreatDoorPz00
import Derived.WalkKit
section
namespace Go.Viv
open Go.RowKit
abbrev str (l : List UInt8) : Value := .string ⟨l.toArray⟩
theorem str_eq (l : List UInt8) : str l = .string ⟨l.toArray⟩ := rfl
theorem data_str (l : List UInt8) : (⟨l.toArray⟩ : ByteArray).data.toList = l := by simp
theorem size_str (l : List UInt8) : (⟨l.toArray⟩ : ByteArray).size = l.length := by simp [ByteArray.size]
theorem fr_grow (w : World) (k : Nat) (os : Array Obj) : Fr (fun _ => False) w (Go.Sort.grow (w.drewN k) os) :=
  ⟨rfl, rfl, rfl, by simp [Go.Sort.grow, World.drewN], fun i hi _ => by
    show (w.heap ++ os)[i]? = w.heap[i]?
    rw [Array.getElem?_append_left hi]⟩
theorem fr_bytes (w : World) (e : TypeId) (t : ByteArray) : Fr (fun _ => False) w (Lib.bytesWorld w e t) := by
  unfold Lib.bytesWorld World.freeze
  refine ⟨?_, ?_, ?_, ?_, fun i hi _ => ?_⟩
  · split <;> rfl
  · split <;> rfl
  · split <;> rfl
  · split <;> simp
  · split
    · exact Below.heap_alloc _ _ _ hi
    · simp only [Array.getElem?_modify]
      rw [if_neg (by show ¬ w.heap.size = i; omega)]
      exact Below.heap_alloc _ _ _ hi
theorem fr_below {w w' : World} (h : Below w.heap.size w w') : Fr (fun _ => False) w w' := Fr.of_below h
theorem lt_cell {w : World} {b o : Nat} {v : Value} (h : w.cell? ⟨b, o, none⟩ = some v) : b < w.heap.size := World.block_lt_of_cell? w ⟨b, o, none⟩ h
theorem cell_fr {w w' : World} {b o : Nat} {v : Value} (h : w.cell? ⟨b, o, none⟩ = some v) (hf : Fr (fun _ => False) w w') : w'.cell? ⟨b, o, none⟩ = some v := by
  rw [hf.cell (p := ⟨b, o, none⟩) (lt_cell h) (fun h => h)]; exact h
/-- The first place of a row that answers yes; -1: there is none. -/
def fidx {α : Type} (q : α → Bool) : List α → Nat → Int
  | [], _ => -1
  | x :: r, k => if q x then k else fidx q r (k + 1)
theorem fidx_at {α : Type} {q : α → Bool} {xs : List α} {k : Nat} {x : α} (h : xs[k]? = some x) : fidx q (xs.drop k) k = if q x then (k : Int) else fidx q (xs.drop (k + 1)) (k + 1) := by
  have hk : k < xs.length := by
    rcases Nat.lt_or_ge k xs.length with h' | h'
    · exact h'
    · rw [List.getElem?_eq_none h'] at h; cases h
  rw [List.drop_eq_getElem_cons hk]
  rw [List.getElem?_eq_getElem hk] at h
  rw [Option.some.inj h, fidx]
theorem fidx_any {α : Type} (q : α → Bool) : ∀ (l : List α) (k : Nat), decide (0 ≤ fidx q l k) = l.any q
  | [], _ => by simp [fidx]
  | x :: r, k => by
    rw [fidx]
    cases hx : q x with
    | true => simp [hx]
    | false => simp [hx]; rw [← fidx_any q r (k + 1)]
theorem fidx_ge {α : Type} (q : α → Bool) : ∀ (l : List α) (k : Nat), -1 ≤ fidx q l k ∧ fidx q l k ≤ (k : Int) + l.length
  | [], _ => by simp [fidx]
  | x :: r, k => by
    have := fidx_ge q r (k + 1)
    rw [fidx]
    split <;> simp <;> omega
theorem rowK_at {w : World} {A : Option Addr} {l : List Coln} (h : RowC w A (l.flatMap cellsK)) {k : Nat} {x : Coln} (hk : l[k]? = some x) : ∃ b o, A = some ⟨b, o, none⟩ ∧ b < w.heap.size ∧ w.cell? ⟨b, o + k * 2, none⟩ = some (.int .i64 x.k) ∧ w.cell? ⟨b, o + k * 2 + 1, none⟩ = some (.int .i64 x.c) := by
  rcases h with h | ⟨b, o, h1, h2, h3⟩
  · cases l with
    | nil => simp at hk
    | cons x r => simp [cellsK] at h
  · have g := fun c hc => chunk_get cellsK 2 (fun _ => rfl) l k c hc
    rw [hk] at g
    have e0 := h3 (k * 2) (.int .i64 x.k) (by rw [← Nat.add_zero (k * 2), g 0 (by omega)]; rfl)
    have e1 := h3 (k * 2 + 1) (.int .i64 x.c) (by rw [g 1 (by omega)]; rfl)
    exact ⟨b, o, h1, h2, e0, by rw [Nat.add_assoc]; exact e1⟩
theorem flatK_take : ∀ (l : List Coln) (k : Nat), (l.take k).flatMap cellsK = (l.flatMap cellsK).take (k * 2)
  | [], k => by simp
  | x :: r, 0 => by simp
  | x :: r, k + 1 => by
    rw [List.take_succ_cons, List.flatMap_cons, flatK_take r k, List.flatMap_cons, Nat.succ_mul]
    simp [cellsK]
theorem rowK_take {w : World} {A : Option Addr} {l : List Coln} (h : RowC w A (l.flatMap cellsK)) (k : Nat) : RowC w A ((l.take k).flatMap cellsK) := by
  rw [flatK_take]
  exact h.take _
end Go.Viv
namespace Go.Proofs.YtmcigeebeoobdaaGreatDoor
open Go.RowKit Go.Viv
/-- What a call leans on: the table of powers of ten, the two errors, and the greatest length that is searched at once. -/
structure EnvP (w : World) : Prop where
  tab : Lib.TabIs Tryz.prog w "internal/strconv.uint64pow10" .u64 Lib.pow10Tab
  es : ∃ t p, w.var? Tryz.prog "strconv.ErrSyntax" = some #[.iface t p]
  er : ∃ t p, w.var? Tryz.prog "strconv.ErrRange" = some #[.iface t p]
  max : ∃ m, w.cell? ⟨1, 0, none⟩ = some (.int .i64 m)
  size : 8 ≤ w.heap.size
theorem globPow : Tryz.prog.globalNamed "internal/strconv.uint64pow10" = some 6 := by kernel_rfl
theorem globSy : Tryz.prog.globalNamed "strconv.ErrSyntax" = some 2 := by kernel_rfl
theorem globRa : Tryz.prog.globalNamed "strconv.ErrRange" = some 3 := by kernel_rfl
theorem EnvP.fr {w w' : World} (h : EnvP w) (hf : Fr (fun _ => False) w w') : EnvP w' := by
  have hs := h.size
  have hb : ∀ k, k < 8 → w'.heap[k]? = w.heap[k]? := fun k hk => hf.block k (by omega) (fun h => h)
  refine ⟨?_, ?_, ?_, ?_, Nat.le_trans h.size hf.size⟩
  · have := h.tab
    unfold Lib.TabIs World.var? at this ⊢
    rw [globPow] at this ⊢
    simpa [hb 6 (by omega)] using this
  · obtain ⟨t, p, h2⟩ := h.es
    refine ⟨t, p, ?_⟩
    unfold World.var? at h2 ⊢
    rw [globSy] at h2 ⊢
    simpa [hb 2 (by omega)] using h2
  · obtain ⟨t, p, h2⟩ := h.er
    refine ⟨t, p, ?_⟩
    unfold World.var? at h2 ⊢
    rw [globRa] at h2 ⊢
    simpa [hb 3 (by omega)] using h2
  · obtain ⟨m, h2⟩ := h.max
    exact ⟨m, cell_fr h2 hf⟩
theorem itoa_any (n : Int) (w : World) (he : EnvP w) (hn : inI n) : Calls Tryz.prog 152 #[.int .i64 n] w fun e w' => e = .returned (str (Lib.itoa n)) ∧ Fr (fun _ => False) w w' := by
  refine (Tryz.strconv_Itoa n hn.1 hn.2 w he.tab).mono ?_
  rintro e w' ⟨rfl, k, os, rfl⟩
  exact ⟨rfl, fr_grow _ _ _⟩

theorem asks_any (x : Coln) (w : World) : Calls Tryz.prog 65 #[x.agg] w fun e w' => e = .returned (.bool (askB x)) ∧ Fr (fun _ => False) w w' := by
  obtain ⟨k, c⟩ := x
  obtain ⟨b1, q1⟩ : ∃ b, (k == 1) = b := ⟨_, rfl⟩
  obtain ⟨b2, q2⟩ : ∃ b, (k == 2) = b := ⟨_, rfl⟩
  obtain ⟨b5, q5⟩ : ∃ b, (k == 5) = b := ⟨_, rfl⟩
  have HR := Lib.hid (show askB ⟨k, c⟩ = (b1 || b2 || b5) from by unfold askB; simp only [q1, q2, q5])
  cases b1 <;> cases b2 <;> cases b5
  all_goals
    go_enter Tryz.func65, Tryz.ntmps65
    go_wp2
    go_ret
    exact ⟨by rw [HR.out]; rfl, Fr.alloc1 _ _ _⟩

theorem twice_any (x y : Coln) (all : Bool) (A C : Nat) (w : World) (ha : w.cell? ⟨A, 0, none⟩ = some (.bool all)) (hc : w.cell? ⟨C, 1, none⟩ = some (.int .i64 y.c)) :
    Calls Tryz.prog 107 #[x.agg, .pointer (some ⟨A, 0, none⟩), .pointer (some ⟨C, 0, none⟩)] w fun e w' => e = .returned (.bool (((x.k == 5) == all) && x.c == y.c)) ∧ Fr (fun _ => False) w w' := by
  obtain ⟨k, c⟩ := x
  obtain ⟨yk, yc⟩ := y
  simp only at hc ⊢
  have l1 := lt_cell ha
  have l2 := lt_cell hc
  obtain ⟨b1, q1⟩ : ∃ b, (k == 5) = b := ⟨_, rfl⟩
  obtain ⟨b2, q2⟩ : ∃ b, (c == yc) = b := ⟨_, rfl⟩
  rw [q1, q2]
  cases b1 <;> cases b2 <;> cases all
  all_goals
    go_enter Tryz.func107, Tryz.ntmps107
    go_wp2
    go_ret
    exact ⟨rfl, Fr.alloc1 _ _ _⟩
set_option maxRecDepth 100000 in
set_option maxHeartbeats 1000000 in
theorem fidx_col (f : FuncId) (caps : Array Value) (q : Coln → Bool) (l : List Coln) (A : Option Addr) (cap : Nat) (w : World) (hr : RowC w A (l.flatMap cellsK)) (_hn : l.length ≤ cap) (_hc : cap ≤ 9223372036854775807)
    (hcf : ∀ args W, (callFunc f args).run Tryz.prog W = .ok (.enter f args) W) (hq : ∀ W x, Fr (fun _ => False) w W → Calls Tryz.prog f (#[x.agg] ++ caps) W fun e w' => e = .returned (.bool (q x)) ∧ Fr (fun _ => False) W w') :
    Calls Tryz.prog 108 #[.slice A l.length cap, .func (.func f) #[] caps] w fun e w' => e = .returned (.int .i64 (fidx q l 0)) ∧ Fr (fun _ => False) w w' := by
  have HR := Lib.hid hr
  have HQ := Lib.hid hq
  obtain ⟨n, hnl⟩ : ∃ n, l.length = n := ⟨_, rfl⟩
  have HN := Lib.hid hnl
  rw [hnl] at _hn ⊢
  clear hr hq hnl
  go_enter Tryz.func108, Tryz.ntmps108
  go_wp2_with fail
  go_loopw [5, 8] (fun _ t wr => ∃ k : Nat, k ≤ n ∧ t = .int .i64 k ∧ fidx q l 0 = fidx q (l.drop k) k ∧ Fr (fun _ => False) w wr) (fun _ t _ => n - (intOf t).toNat)
  case atStart => exact ⟨0, by omega, rfl, rfl, Fr.refl _ _⟩
  case round =>
    obtain ⟨k, hk, rfl, hidx, hfr⟩ := hrel
    by_cases hlt : k < n
    · obtain ⟨x, hx⟩ : ∃ x, l[k]? = some x := ⟨_, List.getElem?_eq_getElem (by rw [HN.out]; exact hlt)⟩
      obtain ⟨b, o, rfl, hbw, d0, d1⟩ := rowK_at (HR.out.fr hfr) hx
      rw [fidx_at hx] at hidx
      obtain ⟨t, hb⟩ : ∃ b, q x = b := ⟨_, rfl⟩
      have HC := Lib.hid (show Calls Tryz.prog f (#[x.agg] ++ caps) wr fun e w' => e = .returned (.bool t) ∧ Fr (fun _ => False) wr w' from by rw [← hb]; exact HQ.out wr x hfr)
      have HX := Lib.hid (And.intro hidx (And.intro hb hfr))
      clear hidx hb hfr hx
      obtain ⟨wB, hwB⟩ : ∃ wB, wB = wr := ⟨wr, rfl⟩
      subst hwB
      cases t with
      | true =>
        go_wp2_with (refine HC.out.mono ?_; rintro e w2 ⟨rfl, hf2⟩)
        go_ret
        refine ⟨?_, fr_two HX.out.2.2 hf2⟩
        rw [HX.out.1, if_pos HX.out.2.1]
        rfl
      | false =>
        go_wp2_with (refine HC.out.mono ?_; rintro e w2 ⟨rfl, hf2⟩; have H2 := Lib.hid hf2; clear hf2)
        go_roundw
        case rel =>
          refine ⟨k + 1, by omega, by go_num, ?_, fr_two HX.out.2.2 H2.out⟩
          rw [HX.out.1, if_neg (by rw [HX.out.2.1]; decide)]
        case measure => simp [intOf]; omega
    · obtain rfl : k = n := by omega
      have HX := Lib.hid (And.intro hidx hfr)
      clear hidx hfr
      go_wp2
      go_ret
      refine ⟨?_, HX.out.2⟩
      rw [HX.out.1, List.drop_of_length_le (by rw [HN.out]; exact Nat.le_refl _)]
      rfl
theorem cont_col (f : FuncId) (caps : Array Value) (q : Coln → Bool) (l : List Coln) (A : Option Addr) (cap : Nat) (w : World) (hr : RowC w A (l.flatMap cellsK)) (hn : l.length ≤ cap) (hc : cap ≤ 9223372036854775807)
    (hcf : ∀ args W, (callFunc f args).run Tryz.prog W = .ok (.enter f args) W) (hq : ∀ W x, Fr (fun _ => False) w W → Calls Tryz.prog f (#[x.agg] ++ caps) W fun e w' => e = .returned (.bool (q x)) ∧ Fr (fun _ => False) W w') :
    Calls Tryz.prog 64 #[.slice A l.length cap, .func (.func f) #[] caps] w fun e w' => e = .returned (.bool (l.any q)) ∧ Fr (fun _ => False) w w' := by
  have HC := Lib.hid (fidx_col f caps q l A cap w hr hn hc hcf hq)
  have HA := Lib.hid (fidx_any q l 0)
  obtain ⟨i, hi⟩ : ∃ i, fidx q l 0 = i := ⟨_, rfl⟩
  rw [hi] at HC HA
  clear hq hr hi hcf
  go_enter Tryz.func64, Tryz.ntmps64
  go_wp2_with fail
  refine HC.out.mono ?_
  rintro e w2 ⟨rfl, hf2⟩
  have H2 := Lib.hid hf2
  clear hf2
  go_wp2
  go_ret
  exact ⟨by rw [← HA.out]; rfl, H2.out⟩
end Go.Proofs.YtmcigeebeoobdaaGreatDoor
end

/-
  From a walk to the given row: what PlanChecks wants.
-/
section
namespace Go.Proofs.YtmcigeebeoobdaaGreatDoor
open Go.ChangeShapes Go.WideShapes Go.ChangeAt Go.RowKit Go.Joins Go.Viv
theorem own : ownKnob Tryz.prog.godebug = none := by kernel_rfl
theorem laidOut : laidOutB Tryz.prog = true := by kernel_rfl
theorem gBr : Tryz.prog.globalNamed "math/bits.deBruijn64tab" = some 0 := by kernel_rfl
theorem gBq : Tryz.prog.globalNamed "math/bits.deBruijn32tab" = some 7 := by kernel_rfl
theorem one3 : Tryz.prog.cellsOf 3 = 1 := by kernel_rfl
theorem cellsCol : Tryz.prog.cellsOf 37 = 2 := by kernel_rfl
theorem lay_met (os : Os) (args : Array Value) : laidMetH Tryz.prog Rows.planChecksRow.laid ((World.laidAll Tryz.prog os Rows.planChecksRow.laid).forCall (fun _ _ => 0) ⟨#[], args, []⟩).memory := by
  rw [MakeChecks.laidMetH_plain _ _ _ (by kernel_rfl)]
  exact laidMet_laidAll _ (by kernel_rfl) (by kernel_rfl)
theorem lay_shaped (os : Os) : (World.laidAll Tryz.prog os Rows.planChecksRow.laid).Shaped Tryz.prog :=
  World.shaped_of_ZipB (by kernel_rfl) (by kernel_rfl)
theorem lt_of_var {W : World} {n : String} {g : Nat} {cs : Array Value} (hg : Tryz.prog.globalNamed n = some g) (h : W.var? Tryz.prog n = some cs) : g < W.heap.size := by
  by_cases hlt : g < W.heap.size
  · exact hlt
  · have e : W.heap[g]? = none := Array.getElem?_eq_none (by omega)
    unfold World.var? at h
    rw [hg] at h
    simp [e] at h
theorem star : "*" ++ "errors.errorString" = "*errors.errorString" := by decide
theorem rowErr (u : TypeId) (h : Tryz.prog.typeName? 3 u = some "*errors.errorString") : u = 354 :=
  typeName_ptr_named (nm := "errors.errorString") (by rw [star]; kernel_rfl) (by kernel_rfl) (by decide) u (by rw [star]; exact h)
theorem in_wf {n : Int} (h : (Lit.int .i64 n).wf = true) : inI n := by
  simp [Lit.wf, IntKind.min, IntKind.max, IntKind.signed, IntKind.bits] at h
  exact h
theorem max_of {W : World} (h : W.ShapedOpen Tryz.prog) : ∃ m, W.cell? ⟨1, 0, none⟩ = some (.int .i64 m) :=
  cell_of_shapedOpen_int (t := 3) (zero := #[.int .i64 0]) h (of_decide_eq_true (by kernel_rfl)) (by kernel_rfl) rfl (by kernel_rfl) (by kernel_rfl) Tryz.underlying3
/-- What the condition gives the walks. -/
theorem envP_of_laid {W : World} (hs : W.ShapedOpen Tryz.prog) (h : laidMetH Tryz.prog Rows.planChecksRow.laid W) : EnvP W := by
  rw [MakeChecks.laidMetH_plain _ _ _ (by kernel_rfl)] at h
  have h1 : laidMet Tryz.prog (("math/bits.deBruijn32tab", Rows.laid_math_bits_deBruijn32tab) :: ("math/bits.deBruijn64tab", Rows.laid_math_bits_deBruijn64tab) :: ("internal/strconv.uint64pow10", Lib.tabData .u64 Lib.pow10Tab) :: ("unicode/utf8.acceptRanges", Rows.laid_unicode_utf8_acceptRanges) :: ("strconv.ErrRange", Rows.laid_strconv_ErrRange) :: ("strconv.ErrSyntax", Rows.laid_strconv_ErrSyntax) :: ("unicode/utf8.first", Rows.laid_unicode_utf8_first) :: []) W := h
  have h2 := h1.tail
  have h3 := h2.tail
  have h4 := h3.tail.tail
  have h5 := h4.tail
  refine ⟨Lib.tabIs_of_head globPow (by kernel_rfl) Tryz.underlying358 Tryz.underlying144 (by kernel_rfl) (by kernel_rfl) h3, ?_, ?_, max_of hs, ?_⟩
  · obtain ⟨a0, s0, hv0, _⟩ := laid_sentinel h5 globSy (by kernel_rfl) Tryz.underlying246 rowErr Tryz.underlying354 Tryz.underlying356 rfl rfl Tryz.underlying9 (by kernel_rfl) (by kernel_rfl)
    exact ⟨_, _, hv0⟩
  · obtain ⟨a0, s0, hv0, _⟩ := laid_sentinel h4 globRa (by kernel_rfl) Tryz.underlying246 rowErr Tryz.underlying354 Tryz.underlying356 rfl rfl Tryz.underlying9 (by kernel_rfl) (by kernel_rfl)
    exact ⟨_, _, hv0⟩
  · obtain ⟨ps, ⟨g', t', cs, fuel, p, q, hg', ht', hvar, hd, _, _⟩, _⟩ := h1
    exact lt_of_var gBq hvar
theorem rowI_ints {w : World} {A : Option Addr} {l : List Int} (h : RowC w A (l.flatMap fun n => [Value.int .i64 n])) : RowC w A (ints l) := by
  have e : ∀ l : List Int, (l.flatMap fun n => [Value.int .i64 n]) = ints l := by
    intro l
    induction l with
    | nil => rfl
    | cons x r ih => rw [List.flatMap_cons, ih]; rfl
  rw [← e]; exact h
theorem max_le {n : Nat} (h : n ≤ maxLen) : n ≤ 9223372036854775807 := by unfold maxLen at h; exact h
/-- Columns, and whole numbers, among the arguments. -/
theorem elem_col {H : Type} {enc : TypeId × Value → H} {w : World} {base : Nat} {spare : Nat → Bool} {held : Bool} (n : Nat) (cs : List Value) (x : DataW H × List MemPlace) (h : DataW.trod enc Tryz.prog w base spare held n 37 cs = some x) :
    ∃ v : Coln, cs = cellsK v ∧ inI v.c := by
  obtain ⟨ns, h1, h2, h3⟩ := elem_ints Tryz.underlying37 (by
    rintro (_ | _ | j) f hj
    · obtain rfl := Option.some.inj hj
      exact ⟨rfl, one3, Tryz.underlying3⟩
    · obtain rfl := Option.some.inj hj
      exact ⟨rfl, one3, Tryz.underlying3⟩
    · simp at hj) cellsCol h
  match ns, h2 with
  | [a, b], _ => exact ⟨⟨a, b⟩, h1, in_wf (h3 b (by simp))⟩
theorem elem_int {H : Type} {enc : TypeId × Value → H} {w : World} {base : Nat} {spare : Nat → Bool} {held : Bool} (n : Nat) (cs : List Value) (x : DataW H × List MemPlace) (h : DataW.trod enc Tryz.prog w base spare held n 3 cs = some x) :
    ∃ v : Int, cs = [Value.int .i64 v] ∧ inI v := by
  obtain ⟨k, e, _, wf⟩ := DataW.trod_int Tryz.underlying3 h
  exact ⟨k, e, in_wf wf⟩
theorem open_none {H : Type} {enc : TypeId × Value → H} {w : World} {base : Nat} {spare : Nat → Bool} {held : Bool} {n k c : Nat} {t e : TypeId} {cs : List Value} {x : DataW H × List MemPlace} (ht : Tryz.prog.underlying t = some (.slice e)) (hcs : cs = [.slice none k c])
    (h : DataW.trod enc Tryz.prog w base spare held n t cs = some x) : c = 0 := by
  rcases Go.Deep.open_slice ht h with ⟨e, _⟩ | ⟨a, len, cap, _, _, _, _, e, _⟩
  · rw [hcs] at e; simp at e; exact e.2
  · rw [hcs] at e; simp at e
end Go.Proofs.YtmcigeebeoobdaaGreatDoor
end

/-
  A part's value: its cells; whether it may be. No program in sight.
-/
section
namespace Go.Viv
open Go.RowKit

structure Val where
  k : Int
  a : Int
  b : Int
  deriving DecidableEq
def Val.cells (v : Val) : List Value := [.int .i64 v.k, .int .i64 v.a, .int .i64 v.b]
def Val.agg (v : Val) : Value := .agg #[.int .i64 v.k, .int .i64 v.a, .int .i64 v.b]
def Val.zero : Val := ⟨0, 0, 0⟩
/-- Whether a value may be. -/
def okV (v : Val) : Bool := if v.k = 1 then v.b == 0 else if v.k = 2 then true else if v.k = 3 then v.a == 0 && v.b == 0 else false
/-- A footprint, with what was made since. -/
def Ext (S : Nat → Prop) (w w' : World) (k : Nat) : Prop := S k ∨ (w.heap.size ≤ k ∧ k < w'.heap.size)
end Go.Viv
end

/-
  A world in plain words: handles, slots, what waits. No program in sight.
-/
section
namespace Go.Viv

structure Hnd where
  i : Int
  g : Int
  deriving DecidableEq
def Hnd.zero : Hnd := ⟨0, 0⟩
def Hnd.agg (h : Hnd) : Value := .agg #[.int .i64 h.i, .int .i64 h.g]
def Hnd.cells (h : Hnd) : List Value := [.int .i64 h.i, .int .i64 h.g]

/-- Handles: of each index its generation, and its state: 0 free, 1 live, 2 raised, 9 retired. -/
structure Als where
  top : Int
  gen : List Int
  st : List Nat
def Als.new (n : Nat) (top : Int) : Als := ⟨top, List.replicate n 0, List.replicate n 0⟩
def Als.size (a : Als) : Nat := a.st.length
/-- The least index of a state. -/
def Als.least (a : Als) : Option Nat := a.st.findIdx? (· == 0)
def Als.err (a : Als) : Int := if a.st.any (fun s => s != 9) then 6 else 7
def Als.genAt (a : Als) (i : Nat) : Int := a.gen.getD i 0
def Als.stAt (a : Als) (i : Nat) : Nat := a.st.getD i 0
def Als.give (a : Als) (i s : Nat) : Als := { a with gen := a.gen.set i (a.genAt i + 1), st := a.st.set i s }
/-- Create, Raise: the answer. -/
def Als.tookH (a : Als) : Hnd := match a.least with | some i => ⟨i, a.genAt i + 1⟩ | none => Hnd.zero
def Als.tookE (a : Als) : Int := match a.least with | some _ => 0 | none => a.err
def Als.took (a : Als) (s : Nat) : Als := match a.least with | some i => a.give i s | none => a
/-- State. -/
def Als.of (a : Als) (h : Hnd) : Nat :=
  if h.i < 0 ∨ (a.st.length : Int) ≤ h.i then 0 else if a.genAt h.i.toNat ≠ h.g then 0 else if a.stAt h.i.toNat = 1 ∨ a.stAt h.i.toNat = 2 then a.stAt h.i.toNat else 0
/-- The error of a handle that must be live. -/
def Als.may (a : Als) (h : Hnd) : Int := if a.of h = 0 then 4 else if a.of h = 2 then 5 else 0
def Als.gone (a : Als) (h : Hnd) : Als := { a with st := a.st.set h.i.toNat (if a.top ≤ h.g then 9 else 0) }
def Als.inSt (a : Als) (s : Nat) : List Hnd := ((List.range a.st.length).filter (fun i => a.stAt i == s)).map fun (i : Nat) => ⟨i, a.genAt i⟩
def Als.merged (a : Als) : Als := { a with st := a.st.map fun s => if s = 2 then 1 else s }
def Als.hasAt (a : Als) (i : Int) : Bool := decide (0 ≤ i) && decide (i < a.st.length) && (a.stAt i.toNat == 1 || a.stAt i.toNat == 2)
def Als.atH (a : Als) (i : Int) : Hnd := if a.hasAt i then ⟨i, a.genAt i.toNat⟩ else Hnd.zero

/-- What befell, all of it; where each reader stands. -/
structure Fls where
  bound : Nat
  evs : List (Int × Int)
  rd : List Nat
structure Dsc where
  k : Int
  v : Int
  b : Int
  deriving DecidableEq
def Dsc.cells (d : Dsc) : List Value := [.int .i64 d.k, .int .i64 d.v, .int .i64 d.b]
def Dsc.agg (d : Dsc) : Value := .agg #[.int .i64 d.k, .int .i64 d.v, .int .i64 d.b]
/-- Whether a component may be. -/
def Dsc.may (d : Dsc) : Int := if d.k < 1 ∨ 3 < d.k ∨ d.v < 1 ∨ 4 < d.v ∨ d.b < 0 ∨ 1000 < d.b then 1 else if d.v = 4 ∧ d.k ≠ 3 then 9 else 0
/-- A row of values by their indexes, rising. -/
abbrev SM := List (Nat × Val)
def SM.keys (l : SM) : List Nat := l.map (·.1)
def SM.lk (l : SM) (i : Int) : Option Val := (l.find? fun p => decide ((p.1 : Int) = i)).map (·.2)
def SM.put (i : Nat) (v : Val) : SM → SM
  | [] => [(i, v)]
  | p :: l => if i < p.1 then (i, v) :: p :: l else if i = p.1 then (i, v) :: l else p :: SM.put i v l
def SM.del (i : Int) (l : SM) : SM := l.filter fun p => decide ((p.1 : Int) ≠ i)
/-- A component: what it is, its values, what befell. -/
structure Sls where
  d : Dsc
  l : SM
  fl : Option Fls
def Sls.new (d : Dsc) : Sls := ⟨d, [], if 0 < d.b then some ⟨d.b.toNat, [], []⟩ else none⟩
def Sls.note (s : Sls) (k i : Int) : Sls := { s with fl := s.fl.map fun f => { f with evs := f.evs ++ [(k, i)] } }
def Sls.get (s : Sls) (i : Int) : Option Val := s.l.lk i
def Sls.val (s : Sls) (i : Int) : Val := (s.get i).getD Val.zero
def Sls.has (s : Sls) (i : Int) : Bool := (s.get i).isSome
def Sls.may (s : Sls) (i : Int) (v : Val) : Int := if i < 0 ∨ 65536 ≤ i then 1 else if okV v = false ∨ v.k ≠ s.d.k then 9 else 0
def Sls.lay (s : Sls) (i : Int) (v : Val) : Sls := { s with l := s.l.put i.toNat v }
/-- Put, of what may be; Take; Set, of what is there. -/
def Sls.put (s : Sls) (i : Int) (v : Val) : Sls := (s.lay i v).note (if s.has i then 2 else 1) i
def Sls.take (s : Sls) (i : Int) : Sls := if s.has i then { s with l := s.l.del i }.note 3 i else s
def Sls.setE (s : Sls) (i : Int) (v : Val) : Int := if s.may i v ≠ 0 then s.may i v else if s.has i then 0 else 10
def Sls.set (s : Sls) (i : Int) (v : Val) : Sls := if s.setE i v = 0 then (s.lay i v).note 2 i else s

structure Ops where
  k : Int
  h : Hnd
  c : Int
  v : Val
  deriving DecidableEq
def Ops.ok (o : Ops) : Bool := if o.k = 1 then o.c == 0 && o.v == Val.zero else if o.k = 2 then decide (0 ≤ o.c) && okV o.v else if o.k = 3 then decide (0 ≤ o.c) && o.v == Val.zero else false

/-- Things with parts. -/
structure Els where
  al : Als
  sl : List Sls
def Els.comp (w : Els) (c : Int) : Bool := decide (0 ≤ c) && decide (c < w.sl.length)
def Sls.no : Sls := ⟨⟨0, 0, 0⟩, [], none⟩
def Els.at_ (w : Els) (c : Int) : Sls := w.sl.getD c.toNat Sls.no
def Els.upd (w : Els) (c : Int) (s : Sls) : Els := { w with sl := w.sl.set c.toNat s }
def Els.parts (w : Els) (i : Int) : List Nat := (List.range w.sl.length).filter fun (c : Nat) => (w.at_ c).has i
/-- The error of a call on a part of a thing that must be live. -/
def Els.onE (w : Els) (h : Hnd) (c : Int) : Int := if w.al.may h ≠ 0 then w.al.may h else if w.comp c = false then 11 else 0
def Els.delN (w : Els) (h : Hnd) : Nat := if w.al.may h = 0 then (w.parts h.i).length else 0
def Els.del (w : Els) (h : Hnd) : Els := if w.al.may h = 0 then { al := w.al.gone h, sl := w.sl.map fun s => s.take h.i } else w
def Els.insE (w : Els) (h : Hnd) (c : Int) (v : Val) : Int := if w.onE h c ≠ 0 then w.onE h c else (w.at_ c).may h.i v
def Els.insV (w : Els) (h : Hnd) (c : Int) (v : Val) : Val := if w.insE h c v = 0 then (w.at_ c).val h.i else Val.zero
def Els.insB (w : Els) (h : Hnd) (c : Int) (v : Val) : Bool := if w.insE h c v = 0 then (w.at_ c).has h.i else false
def Els.ins (w : Els) (h : Hnd) (c : Int) (v : Val) : Els := if w.insE h c v = 0 then w.upd c ((w.at_ c).put h.i v) else w
def Els.getE (w : Els) (h : Hnd) (c : Int) : Int := if w.onE h c ≠ 0 then w.onE h c else if (w.at_ c).has h.i then 0 else 10
def Els.getV (w : Els) (h : Hnd) (c : Int) : Val := if w.getE h c = 0 then (w.at_ c).val h.i else Val.zero
def Els.rem (w : Els) (h : Hnd) (c : Int) : Els := if w.getE h c = 0 then w.upd c ((w.at_ c).take h.i) else w
def Els.setE (w : Els) (h : Hnd) (c : Int) (v : Val) : Int := if w.onE h c ≠ 0 then w.onE h c else (w.at_ c).setE h.i v
def Els.set (w : Els) (h : Hnd) (c : Int) (v : Val) : Els := if w.setE h c v = 0 then w.upd c ((w.at_ c).set h.i v) else w
structure Wls extends Els where
  res : List Int
  q : List Ops
  held : Bool
/-- The error of a call that is refused while the world is held. -/
def Wls.mayE (w : Wls) (h : Hnd) : Int := if w.al.of h = 0 then 4 else if w.held then 13 else 0
def Wls.createE (w : Wls) : Int := if w.held then 13 else w.al.tookE
def Wls.createH (w : Wls) : Hnd := if w.held then Hnd.zero else w.al.tookH
def Wls.create (w : Wls) : Wls := if w.held then w else { w with al := w.al.took 1 }
def Wls.delE (w : Wls) (h : Hnd) : Int := if w.mayE h ≠ 0 then w.mayE h else w.al.may h
def Wls.delN (w : Wls) (h : Hnd) : Nat := if w.mayE h ≠ 0 then 0 else w.toEls.delN h
def Wls.del (w : Wls) (h : Hnd) : Wls := if w.mayE h ≠ 0 then w else { w with toEls := w.toEls.del h }
def Wls.insE (w : Wls) (h : Hnd) (c : Int) (v : Val) : Int := if w.mayE h ≠ 0 then w.mayE h else w.toEls.insE h c v
def Wls.insV (w : Wls) (h : Hnd) (c : Int) (v : Val) : Val := if w.mayE h ≠ 0 then Val.zero else w.toEls.insV h c v
def Wls.insB (w : Wls) (h : Hnd) (c : Int) (v : Val) : Bool := if w.mayE h ≠ 0 then false else w.toEls.insB h c v
def Wls.ins (w : Wls) (h : Hnd) (c : Int) (v : Val) : Wls := if w.mayE h ≠ 0 then w else { w with toEls := w.toEls.ins h c v }
def Wls.remE (w : Wls) (h : Hnd) (c : Int) : Int := if w.mayE h ≠ 0 then w.mayE h else w.toEls.getE h c
def Wls.remV (w : Wls) (h : Hnd) (c : Int) : Val := if w.mayE h ≠ 0 then Val.zero else w.toEls.getV h c
def Wls.rem (w : Wls) (h : Hnd) (c : Int) : Wls := if w.mayE h ≠ 0 then w else { w with toEls := w.toEls.rem h c }
/-- What waits is done: how many ops are done, how many are passed over. -/
def Els.opE (w : Els) (o : Ops) : Int := if o.k = 1 then w.al.may o.h else if o.k = 2 then w.insE o.h o.c o.v else w.getE o.h o.c
def Els.op (w : Els) (o : Ops) : Els := if o.k = 1 then w.del o.h else if o.k = 2 then w.ins o.h o.c o.v else w.rem o.h o.c
def Els.ops : Els → List Ops → Els
  | w, [] => w
  | w, o :: l => (w.op o).ops l
def Els.done : Els → List Ops → Nat
  | _, [] => 0
  | w, o :: l => (if w.opE o = 0 then 1 else 0) + (w.op o).done l
def Wls.raisedN (w : Wls) : Nat := (w.al.inSt 2).length
def Wls.merged (w : Wls) : Els := { w.toEls with al := w.al.merged }
def Wls.maint (w : Wls) : Wls := if w.held then w else { w with toEls := w.merged.ops w.q, q := [] }
end Go.Viv
end

/-
  Whole structures, in plain words. No program in sight.
-/
section
namespace Go.Eva
open Go Go.Viv
/-- What a whole structure in memory holds, in plain words. -/
inductive Rs where
  | set (l : List Nat)
  | alloc (a : Als)
  | place (v : Nat) (l : SM)
  | flag (f : Fls)
  | slot (s : Sls)
  | nums (l : List Int)
  | queue (l : List Ops)
  | world (w : Wls)
  | arena (l : List (Int × List Nat)) (s : List (List Nat))
  | ralloc (a : Als)
  | rslot (s : Sls)
  | other (k : Nat) (l : List (List Int))
/-- The plain cells at a structure's head that may be read as they are. -/
def viewRs : Rs → List Value
  | .rslot s => [.int .i64 s.d.k, .int .i64 s.d.v, .int .i64 s.d.b]
  | .ralloc a => [.int .i64 a.st.length, .int .i64 a.top]
  | _ => []
end Go.Eva
end

/-
  A run of a closed call, reckoned by the kernel: memory as a tree of blocks, and what each operation yields there. Plain definitions; no program in sight.
-/
section
namespace Go.Eva
open Go

/-! ### Trees by numbers -/
inductive Pz where
  | h
  | o (p : Pz)
  | i (p : Pz)
def Pz.of : Nat → Nat → Pz
  | 0, _ => .h
  | f + 1, n => match Nat.ble n 1 with
    | true => .h
    | false => match Nat.beq (n % 2) 0 with
      | true => .o (Pz.of f (n / 2))
      | false => .i (Pz.of f (n / 2))
def key (n : Nat) : Pz := Pz.of (n + 1) (n + 1)
inductive Tr (α : Type) where
  | nil
  | node (l : Tr α) (v : Option α) (r : Tr α)
namespace Tr
variable {α : Type}
def val : Tr α → Option α
  | nil => none
  | node _ v _ => v
def left : Tr α → Tr α
  | nil => nil
  | node l _ _ => l
def right : Tr α → Tr α
  | nil => nil
  | node _ _ r => r
def get (t : Tr α) : Pz → Option α
  | .h => t.val
  | .o p => t.left.get p
  | .i p => t.right.get p
def put (t : Tr α) (p : Pz) (v : Option α) : Tr α :=
  match p with
  | .h => node t.left v t.right
  | .o p => node (t.left.put p v) t.val t.right
  | .i p => node t.left t.val (t.right.put p v)
def at_ (t : Tr α) (n : Nat) : Option α := t.get (key n)
def set (t : Tr α) (n : Nat) (v : Option α) : Tr α := t.put (key n) v
end Tr

/-! ### Blocks -/
inductive AObj where
  | cells (c : List Value) (elem : TypeId) (rw : Bool)
  | map (es : List MapEntry) (clock : Nat)
  | res (x : Rs)
structure Hp where
  t : Tr AObj
  next : Nat

/-- What looks at the program alone. -/
def pureRun {α : Type} (P : Program) : Sem α → Option α
  | .pure a => some a
  | .program k => pureRun P (k P)
  | _ => none

mutual
/-- Does a value bear no address? -/
def plainV : Value → Bool
  | .bool _ => true
  | .int _ _ => true
  | .string _ => true
  | .pointer none => true
  | .slice none 0 0 => true
  | .map none => true
  | .func _ ⟨f⟩ ⟨c⟩ => plainL f && plainL c
  | .nilFunc => true
  | .iface _ v => plainV v
  | .nilIface => true
  | .agg ⟨l⟩ => plainL l
  | .tuple ⟨l⟩ => plainL l
  | _ => false
def plainL : List Value → Bool
  | [] => true
  | v :: l => plainV v && plainL l
end

section
variable (P : Program)
def isAggB (t : TypeId) : Option Bool := (P.underlying t).map fun
  | .struct _ | .array _ _ => true
  | _ => false
def sizeB (t : TypeId) : Option Nat := (P.info? t).map (·.size)
def zeroB (t : TypeId) : Option (List Value) := match P.info? t with
  | some i => i.zero.map fun v => v.cells.toList
  | none => none
/-- Are there n more? -/
def has {α : Type} : List α → Nat → Bool
  | _, 0 => true
  | [], _ + 1 => false
  | _ :: l, n + 1 => has l n
def readCells (c : List Value) (o n : Nat) : Option (List Value) :=
  match has (c.drop o) n with
  | true => some ((c.drop o).take n)
  | false => none
def loadB (H : Tr AObj) (t : TypeId) : Value → Option Value
  | .pointer (some ⟨B, o, none⟩) => match H.at_ B with
    | some (.cells c _ _) => match isAggB P t with
      | some true => match sizeB P t with
        | some n => (readCells c o n).map fun l => .agg ⟨l⟩
        | none => none
      | some false => c[o]?
      | none => none
    | some (.res x) => match isAggB P t with
      | some true => match sizeB P t with
        | some n => (readCells (viewRs x) o n).map fun l => .agg ⟨l⟩
        | none => none
      | some false => (viewRs x)[o]?
      | none => none
    | _ => none
  | _ => none
def nilB : Value → Option Value
  | .pointer (some a) => some (.pointer (some a))
  | .func (.func f) a c => some (.func (.func f) a c)
  | .func (.methodOf t n) a c => some (.func (.methodOf t n) a c)
  | .iface t v => some (.iface t v)
  | .map (some r) => some (.map (some r))
  | .slice (some a) n c => some (.slice (some a) n c)
  | _ => none
def onlyPlain (v : Value) : Option Value := match plainV v with
  | true => some v
  | false => none
def semV : Sem Value → Option Value
  | .pure v => onlyPlain v
  | _ => none
def runV (P : Program) (s : Sem Value) : Option Value := match pureRun P s with
  | some v => onlyPlain v
  | none => none
/-- Two addresses of the program's own blocks: are they one? -/
def samePtr (H : Tr AObj) (B o B' o' : Nat) : Option Bool :=
  match Nat.beq B B' with
  | true => some (Nat.beq o o')
  | false => match H.at_ B, H.at_ B' with
    | some (.cells _ _ true), some (.cells _ _ true) => some false
    | _, _ => none
def isEq : BinOp → Option Bool
  | .eql => some true
  | .neq => some false
  | _ => none
def eqB (H : Tr AObj) (xt : TypeId) : Value → Value → Option Bool
  | .pointer none, .pointer none => (match P.underlying xt with | some (.pointer _) => some true | _ => none)
  | .pointer none, .pointer (some _) => (match P.underlying xt with | some (.pointer _) => some false | _ => none)
  | .pointer (some _), .pointer none => (match P.underlying xt with | some (.pointer _) => some false | _ => none)
  | .pointer (some ⟨B, o, none⟩), .pointer (some ⟨B', o', none⟩) => (match P.underlying xt with
    | some (.pointer e) => match sizeB P e with
      | some (_ + 1) => samePtr H B o B' o'
      | _ => none
    | _ => none)
  | .slice (some _) _ _, .slice none 0 0 => (match P.underlying xt with | some (.slice _) => some false | _ => none)
  | .slice none 0 0, .slice (some _) _ _ => (match P.underlying xt with | some (.slice _) => some false | _ => none)
  | .slice none 0 1, .slice none 0 0 => (match P.underlying xt with | some (.slice _) => some false | _ => none)
  | .slice none 0 0, .slice none 0 1 => (match P.underlying xt with | some (.slice _) => some false | _ => none)
  | .iface _ _, .nilIface => (match P.underlying xt with | some (.interface _) => some false | _ => none)
  | .nilIface, .iface _ _ => (match P.underlying xt with | some (.interface _) => some false | _ => none)
  | .map (some _), .map none => (match P.underlying xt with | some (.map _ _) => some false | _ => none)
  | .func _ _ _, .nilFunc => (match P.underlying xt with | some (.func _ _ _) => some false | _ => none)
  | _, _ => none
/-- A struct of whole numbers alone: how many. -/
def flatF : Nat → List Field → Bool
  | _, [] => true
  | o, f :: l => (!(f.name == "_")) && Nat.beq f.offset o && (match P.underlying f.type with | some (.int _) => true | _ => false) && flatF (o + 1) l
def flatI (t : TypeId) : Option Nat := match P.underlying t with
  | some (.struct fs) => (match flatF P 0 fs.toList && !(P.stoodInHeld t) && !(P.eqGuardType P.depth t) with | true => some fs.toList.length | false => none)
  | _ => none
def eqInts : List Value → List Value → Option Bool
  | [], [] => some true
  | .int .i64 a :: l, .int .i64 b :: k => (eqInts l k).map fun r => decide (a = b) && r
  | _, _ => none
def aggB (op : BinOp) (xt : TypeId) (ox oy : Operand) (l k : List Value) : Option Value := match isEq op, flatI P xt, eqInts l k with
  | some p, some n, some b => (match Nat.beq l.length n with | true => some (.bool (b == p)) | false => none)
  | _, _, _ => (match plainL l && plainL k with | true => runV P (do eqGuard op xt ox oy (.agg ⟨l⟩) (.agg ⟨k⟩); binOp op xt (.agg ⟨l⟩) (.agg ⟨k⟩)) | false => none)
def binB (H : Tr AObj) (op : BinOp) (xt : TypeId) (ox oy : Operand) : Value → Value → Option Value
  | .int k a, .int k' b => semV (binOp op xt (.int k a) (.int k' b))
  | .agg ⟨l⟩, .agg ⟨k⟩ => aggB P op xt ox oy l k
  | x, y => match plainV x && plainV y with
    | true => runV P (do eqGuard op xt ox oy x y; binOp op xt x y)
    | false => match isEq op with
      | some p => (eqB P H xt x y).map fun b => .bool (b == p)
      | none => none
def wrapInt : Value → Option Nat
  | .int _ (.ofNat n) => some n
  | _ => none
def fieldAddrB (s : TypeId) (f : Nat) : Value → Option Value
  | .pointer (some ⟨B, o, none⟩) => match P.underlying s with
    | some (.struct fs) => match fs[f]? with
      | some fd => match sizeB P fd.type with
        | some (_ + 1) => some (.pointer (some ⟨B, o + fd.offset, none⟩))
        | _ => none
      | none => none
    | _ => none
  | _ => none
def partB (t : TypeId) (cs : List Value) (off : Nat) : Option Value :=
  match isAggB P t with
  | some true => match sizeB P t with
    | some n => some (.agg ⟨(cs.drop off).take n⟩)
    | none => none
  | some false => cs[off]?
  | none => none
def fieldB (s : TypeId) (f : Nat) : Value → Option Value
  | .agg ⟨cs⟩ => match P.underlying s with
    | some (.struct fs) => match fs[f]? with
      | some fd => partB P fd.type cs fd.offset
      | none => none
    | _ => none
  | _ => none
def indexAddrB (t : TypeId) (x ix : Value) : Option Value :=
  match wrapInt ix, P.underlying t, x with
  | some i, some (.array len elem), .pointer (some ⟨B, o, none⟩) => match Nat.blt i len, sizeB P elem with
    | true, some n => some (.pointer (some ⟨B, o + i * n, none⟩))
    | _, _ => none
  | some i, some (.slice elem), .slice (some ⟨B, o, none⟩) len _ => match Nat.blt i len, sizeB P elem with
    | true, some n => some (.pointer (some ⟨B, o + i * n, none⟩))
    | _, _ => none
  | _, _, _ => none
def indexB (t : TypeId) (x ix : Value) : Option Value :=
  match wrapInt ix, P.underlying t, x with
  | some i, some (.array len elem), .agg ⟨cs⟩ => match Nat.blt i len, sizeB P elem with
    | true, some n => partB P elem cs (i * n)
    | _, _ => none
  | some i, some .string, .string s => (match s[i]? with
    | some b => some (.int .u8 b.toNat)
    | none => none)
  | _, _, _ => none
/-- A slice of known room c: written with c + 1; of room that is not known: with 0. -/
def sliceB (H : Tr AObj) (t : TypeId) (x : Value) (lo hi mx : Option Value) : Option Value :=
  match P.underlying t, x with
  | some (.slice elem), .slice none 0 0 => match lo.elim (some 0) wrapInt, hi.elim (some 0) wrapInt, mx.elim (some 0) wrapInt, sizeB P elem with
    | some 0, some 0, some 0, some _ => (match mx.isNone || hi.isSome with | true => some (.slice none 0 0) | false => none)
    | _, _, _, _ => none
  | some (.slice elem), .slice none 0 1 => match lo.elim (some 0) wrapInt, hi.elim (some 0) wrapInt, mx, sizeB P elem with
    | some 0, some 0, none, some _ => some (.slice none 0 1)
    | _, _, _, _ => none
  | some (.slice elem), .slice (some ⟨B, o, none⟩) len (cap + 1) => match sizeB P elem, lo.elim (some 0) wrapInt, hi.elim (some len) wrapInt, mx.elim (some cap) wrapInt with
    | some n, some l, some h, some m => match Nat.ble l h && Nat.ble h m && Nat.ble m cap && (mx.isNone || hi.isSome) with
      | true => some (.slice (some ⟨B, match Nat.beq m l with | true => o | false => o + l * n, none⟩) (h - l) (m - l + 1))
      | false => none
    | _, _, _, _ => none
  | some (.slice elem), .slice (some ⟨B, o, none⟩) len 0 => match sizeB P elem, lo.elim (some 0) wrapInt, hi.elim (some len) wrapInt, mx with
    | some n, some l, some h, none => match Nat.ble l h && Nat.ble h len, H.at_ B with
      | true, some (.cells _ e true) => match Nat.beq e elem with
        | true => some (.slice (some ⟨B, match Nat.beq h l with | true => (match Nat.beq l 0 with | true => o | false => 1) | false => o + l * n, none⟩) (h - l) 0)
        | false => none
      | _, _ => none
    | some n, some l, some h, some m => match wrapInt m with
      | some m => match Nat.ble l h && Nat.ble h m && Nat.ble m len && (mx.isNone || hi.isSome) && Nat.ble 1 len with
        | true => some (.slice (some ⟨B, match Nat.beq m l with | true => o | false => o + l * n, none⟩) (h - l) (m - l + 1))
        | false => none
      | none => none
    | _, _, _, _ => none
  | some (.array len elem), .pointer (some ⟨B, o, none⟩) => match sizeB P elem, lo.elim (some 0) wrapInt, hi.elim (some len) wrapInt, mx.elim (some len) wrapInt with
    | some n, some l, some h, some m => match Nat.ble l h && Nat.ble h m && Nat.ble m len && (mx.isNone || hi.isSome) with
      | true => some (.slice (some ⟨B, match Nat.beq m l with | true => o | false => o + l * n, none⟩) (h - l) (m - l + 1))
      | false => none
    | _, _, _, _ => none
  | some .string, .string s => match lo.elim (some 0) wrapInt, hi.elim (some s.size) wrapInt, mx with
    | some l, some h, none => match Nat.ble l h && Nat.ble h s.size with
      | true => some (.string (s.extract l h))
      | false => none
    | _, _, _ => none
  | _, _ => none
end
/-! ### Values made of parts -/
def cellsL : Value → List Value
  | .agg ⟨l⟩ => l
  | v => [v]
def oneB : Value → Bool
  | .agg _ => false
  | .tuple _ => false
  | .chan none => false
  | _ => true
/-- vs laid over cells from off on. -/
def spl (cells : List Value) (off : Nat) (vs : List Value) : List Value := cells.take off ++ (vs ++ cells.drop (off + vs.length))
def fillB (place : Nat → Option (Nat × Nat)) : List Value → List (Nat × Value) → Option (List Value)
  | cells, [] => some cells
  | cells, (i, v) :: rest => match place i with
    | none => none
    | some (off, size) => match Nat.beq (cellsL v).length size && Nat.ble (off + (cellsL v).length) cells.length && (cellsL v).all oneB with
      | true => fillB place (spl cells off (cellsL v)) rest
      | false => none
def placesB (P : Program) : List Field → Option (List (Nat × Nat))
  | [] => some []
  | f :: fs => match sizeB P f.type, placesB P fs with
    | some n, some l => some ((f.offset, n) :: l)
    | _, _ => none
def rep (z : List Value) : Nat → List Value
  | 0 => []
  | n + 1 => z ++ rep z n
def mapB (ρ : Operand → Value) : List (Nat × Operand) → List (Nat × Value)
  | [] => []
  | (i, x) :: l => (i, ρ x) :: mapB ρ l
section
variable (P : Program)
def plainZero (t : TypeId) : Option (List Value) := match zeroB P t with
  | some z => match plainL z with
    | true => some z
    | false => none
  | none => none
def buildB (t : TypeId) (parts : List (Nat × Value)) : Option Value :=
  match plainZero P t, P.underlying t with
  | some z, some (.struct fs) => match placesB P fs.toList with
    | some pl => (fillB (fun i => pl[i]?) z parts).map fun l => .agg ⟨l⟩
    | none => none
  | some z, some (.array _ elem) => match sizeB P elem with
    | some size => (fillB (fun i => some (i * size, size)) z parts).map fun l => .agg ⟨l⟩
    | none => none
  | _, _ => none
def lenB (t : TypeId) : Value → Option Value
  | .string s => (match P.underlying t with | some .string => some (.int .i64 (.ofNat s.size)) | _ => none)
  | .slice _ n _ => (match P.underlying t with | some (.slice _) => some (.int .i64 (.ofNat n)) | some (.array n _) => some (.int .i64 (.ofNat n)) | _ => none)
  | .pointer _ => (match P.underlying t with | some (.array n _) => some (.int .i64 (.ofNat n)) | _ => none)
  | .agg _ => (match P.underlying t with | some (.array n _) => some (.int .i64 (.ofNat n)) | _ => none)
  | _ => none
def quietBuiltin (_H : Tr AObj) (b : Builtin) (ts : List TypeId) (args : List Value) : Option Value :=
  match b, ts, args with
  | .len, t :: _, [x] => lenB P t x
  | .cap, t :: _, [.slice none 0 0] => (match P.underlying t with | some (.slice _) => some (.int .i64 0) | _ => none)
  | .max, _, [.int k a, .int k' b] => semV (Builtin.max2 (.int k a) (.int k' b))
  | .min, _, [.int k a, .int k' b] => semV (Builtin.min2 (.int k a) (.int k' b))
  | _, _, _ => none
def zeroVal (e : TypeId) : Option Value := match P.info? e with
  | some i => match i.zero with
    | some z => onlyPlain z
    | none => none
  | none => none
def lookupB (H : Tr AObj) (t : TypeId) (m : Value) (k : Value) (ok : Bool) : Option Value :=
  match P.underlying t, k, m with
  | some (.map kt e), .int kk i, .map (some B) => match P.underlying kt, H.at_ B, zeroVal P e with
    | some (.int ik), some (.map es _), some z => match Instr.findNow (.int ik) (.int kk i) es 0 with
      | some (some (_, v)) => some (match ok with | true => .tuple ⟨[v, .bool true]⟩ | false => v)
      | some none => some (match ok with | true => .tuple ⟨[z, .bool false]⟩ | false => z)
      | none => none
    | _, _, _ => none
  | _, _, _ => none
/-- What is said of operations on what is left open. -/
abbrev Sy := Op → List Value → Option Value
def evQ0 (ρ : Operand → Value) (H : Tr AObj) : Op → Option Value
  | .move x => some (ρ x)
  | .assign x => some (ρ x)
  | .pick c a b => (match ρ c with | .bool true => some (ρ a) | .bool false => some (ρ b) | _ => none)
  | .load t a => loadB P H t (ρ a)
  | .nilCheck x => nilB (ρ x)
  | .binOp op xt x y _ => binB P H op xt x y (ρ x) (ρ y)
  | .unOp op _ x => match plainV (ρ x) with | true => semV (Op.unary op (ρ x)) | false => none
  | .convert s d x => match plainV (ρ x) with | true => runV P (Go.convert s d (ρ x)) | false => none
  | .makeInterface t x => (match P.underlying t with | some (.interface _) => none | some _ => some (.iface t (ρ x)) | none => none)
  | .makeFunc fn f c => some (.func fn ⟨f.toList.map ρ⟩ ⟨c.toList.map ρ⟩)
  | .slice t x l h m => sliceB P H t (ρ x) (l.map ρ) (h.map ρ) (m.map ρ)
  | .fieldAddr s x f => fieldAddrB P s f (ρ x)
  | .field s x f => fieldB P s f (ρ x)
  | .indexAddr t x i => indexAddrB P t (ρ x) (ρ i)
  | .index t x i => indexB P t (ρ x) (ρ i)
  | .lookup t m k ok => lookupB P H t (ρ m) (ρ k) ok
  | .build t parts => buildB P t (mapB ρ parts.toList)
  | .extract t i => (match ρ t with | .tuple ⟨l⟩ => l[i]? | _ => none)
  | .call c => (match c.callee with | .builtin b => quietBuiltin P H b c.argTypes.toList (c.args.toList.map ρ) | _ => none)
  | _ => none
def evQ (sy : Sy) (ρ : Operand → Value) (H : Tr AObj) (o : Op) : Option Value := match sy o (o.operands.toList.map ρ) with
  | some v => some v
  | none => evQ0 P ρ H o
/-- A new block's number is id. -/
def evA (ρ : Operand → Value) (id : Nat) : Op → Option (Value × AObj)
  | .alloc e => (match plainZero P e, sizeB P e with
    | some z, some _ => some (.pointer (some ⟨id, 0, none⟩), .cells z e true)
    | _, _ => none)
  | .box e x => (match sizeB P e with
    | some _ => match (cellsL (ρ x)).all oneB with
      | true => some (.pointer (some ⟨id, 0, none⟩), .cells (cellsL (ρ x)) e true)
      | false => none
    | none => none)
  | .makeMap _ none => some (.map (some id), .map [] 0)
  | .makeSlice t l c => (match P.underlying t, ρ l, ρ c with
    | some (.slice e), .int .i64 (.ofNat n), .int .i64 (.ofNat cap) => match Nat.ble n cap && Nat.ble cap 1000000 && Nat.ble ((((P.info? e).map (·.bytes)).getD 10000000)) 1000000, plainZero P e, sizeB P e with
      | true, some z, some s => match Nat.beq z.length s && Nat.ble 1 s with
        | true => some (.slice (some ⟨id, 0, none⟩) n (cap + 1), .cells (rep z cap) e true)
        | false => none
      | _, _, _ => none
    | _, _, _ => none)
  | .buildSlice t len parts => (match P.underlying t with
    | some (.slice e) => match plainZero P e, sizeB P e with
      | some z, some s => match Nat.beq z.length s && Nat.ble 1 s && Nat.ble (len * s) 1000000 with
        | true => match fillB (fun i => some (i * s, s)) (rep z len) (mapB ρ parts.toList) with
          | some l => some (.slice (some ⟨id, 0, none⟩) len (len + 1), .cells l e true)
          | none => none
        | false => none
      | _, _ => none
    | _ => none)
  | _ => none
def storeB (H : Tr AObj) (t : TypeId) (a v : Value) : Option (Tr AObj) :=
  match a with
  | .pointer (some ⟨B, o, none⟩) => match H.at_ B, sizeB P t with
    | some (.cells c e true), some (n + 1) => match Nat.beq (cellsL v).length (n + 1) && has (c.drop o) (n + 1) && (cellsL v).all oneB with
      | true => some (H.set B (some (.cells (spl c o (cellsL v)) e true)))
      | false => none
    | _, _ => none
  | _ => none
/-- The cells of a slice's, or a string's, first n elements. -/
def firstB (H : Tr AObj) (size n : Nat) : Value → Option (List Value)
  | .slice (some ⟨B, o, none⟩) len _ => match Nat.beq n 0 with
    | true => some []
    | false => match Nat.ble n len, H.at_ B with
      | true, some (.cells c _ _) => readCells c o (n * size)
      | _, _ => none
  | .slice none 0 0 => some []
  | .slice none 0 1 => (match Nat.beq n 0 with | true => some [] | false => none)
  | .string s => some ((s.extract 0 n).data.toList.map fun b => .int .u8 b.toNat)
  | _ => none
def lenV : Value → Option Nat
  | .slice _ n _ => some n
  | .string s => some s.size
  | _ => none
def srcB (xt : TypeId) : Bool := match P.underlying xt with
  | some (.slice _) => true
  | some .string => true
  | _ => false
/-- How many elements are appended, and their cells. -/
def newsB (H : Tr AObj) (size : Nat) (z : List Value) (xt : TypeId) (x : Value) : Option (Nat × List Value) :=
  match P.underlying xt, x with
  | some (.int _), .int _ (.ofNat n) => (match Nat.ble n 1000000 with | true => some (n, rep z n) | false => none)
  | some (.int _), _ => none
  | _, _ => match srcB P xt, lenV x with
    | true, some n => (firstB H size n x).map fun l => (n, l)
    | _, _ => none
def appendB (h : Hp) (ts : List TypeId) (s x : Value) : Option (Value × Hp) :=
  match ts with
  | [st, xt] => match P.underlying st with
    | some (.slice e) => match sizeB P e, plainZero P e with
      | some (size + 1), some z => match newsB P h.t (size + 1) z xt x with
        | some (n, new) => match new.all oneB && Nat.beq new.length (n * (size + 1)) && Nat.beq z.length (size + 1) && Nat.ble n 1000000 && Nat.ble (((P.info? e).map (·.bytes)).getD 10000000) 1000000 with
          | true => app h e (size + 1) n new s
          | false => none
        | none => none
      | _, _ => none
    | _ => none
  | _ => none
where
  app (h : Hp) (e : TypeId) (size n : Nat) (new : List Value) : Value → Option (Value × Hp)
    | .slice none 0 0 => match n with
      | 0 => some (.slice none 0 0, h)
      | n + 1 => some (.slice (some ⟨h.next, 0, none⟩) (n + 1) 0, ⟨h.t.set h.next (some (.cells new e true)), h.next + 1⟩)
    | .slice (some ⟨B, o, none⟩) len (cap + 1) => match Nat.ble (len + n) cap with
      | true => match h.t.at_ B with
        | some (.cells c e' true) => match has (c.drop (o + len * size)) new.length && Nat.ble (o + len * size) c.length with
          | true => some (.slice (some ⟨B, o, none⟩) (len + n) (cap + 1), ⟨h.t.set B (some (.cells (spl c (o + len * size) new) e' true)), h.next⟩)
          | false => none
        | _ => none
      | false => match firstB h.t size len (.slice (some ⟨B, o, none⟩) len (cap + 1)), Nat.ble len 1000000 with
        | some old, true => some (.slice (some ⟨h.next, 0, none⟩) (len + n) 0, ⟨h.t.set h.next (some (.cells (old ++ new) e true)), h.next + 1⟩)
        | _, _ => none
    | .slice (some ⟨B, 0, none⟩) len 0 => match n, h.t.at_ B with
      | 0, _ => some (.slice (some ⟨B, 0, none⟩) len 0, h)
      | n + 1, some (.cells c e' true) => match Nat.beq e e' && has c (len * size) && Nat.ble len 1000000 with
        | true => some (.slice (some ⟨h.next, 0, none⟩) (len + (n + 1)) 0, ⟨(h.t.set B none).set h.next (some (.cells (c.take (len * size) ++ new) e true)), h.next + 1⟩)
        | false => none
      | _, _ => none
    | _ => none
def copyB (H : Tr AObj) (ts : List TypeId) (d x : Value) : Option (Value × Tr AObj) :=
  match ts, d with
  | dt :: _, .slice (some ⟨B, o, none⟩) len _ => match P.underlying dt, lenV x with
    | some (.slice e), some m => match sizeB P e with
      | some size => match firstB H size (Nat.min m len) x, H.at_ B with
        | some new, some (.cells c e' true) => match has (c.drop o) new.length && new.all oneB with
          | true => some (.int .i64 (.ofNat (Nat.min m len)), H.set B (some (.cells (spl c o new) e' true)))
          | false => none
        | _, _ => none
      | none => none
    | _, _ => none
  | dt :: _, .slice none 0 0 => (match P.underlying dt, lenV x with
    | some (.slice e), some _ => (match sizeB P e, x with
      | some _, .slice _ _ _ => some (.int .i64 0, H)
      | some _, .string _ => some (.int .i64 0, H)
      | _, _ => none)
    | _, _ => none)
  | _, _ => none
def mapSetB (H : Tr AObj) (t : TypeId) (m k v : Value) : Option (Tr AObj) :=
  match P.underlying t, k, m with
  | some (.map kt _), .int kk i, .map (some B) => match P.underlying kt, H.at_ B with
    | some (.int ik), some (.map es clk) => match Instr.findNow (.int ik) (.int kk i) es 0 with
      | some (some _) => none
      | some none => some (H.set B (some (.map (es ++ [{ key := .int kk i, val := v, born := clk }]) (clk + 1))))
      | none => none
    | _, _ => none
  | _, _, _ => none
def mapDelB (H : Tr AObj) (ts : List TypeId) (m k : Value) : Option (Tr AObj) :=
  match ts with
  | [t, _] => match P.underlying t, k, m with
    | some (.map kt _), .int kk i, .map (some B) => match P.underlying kt, H.at_ B with
      | some (.int ik), some (.map es clk) => match Instr.findNow (.int ik) (.int kk i) es 0 with
        | some (some (j, _)) => some (H.set B (some (.map (es.eraseIdx j) clk)))
        | some none => some H
        | none => none
      | _, _ => none
    | _, _, _ => none
  | _ => none
end
end Go.Eva
end
