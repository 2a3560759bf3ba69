/-
  What the plan laws lean on; contracts of package plan: text, asks, check, Check.
-/
import Derived.Test.YtibailpbjdfjfaaDoorKit
import Derived.Test.YtibailpbjdfjfaaDoorPlnB
import Derived.Test.YtibailpbjdfjfaaDoorShelf
import Derived.Lib.ParseIntBTie
namespace Go.Viv
open Go.RowKit
abbrev str (l : List UInt8) : Value := .string ⟨l.toArray⟩
theorem str_eq (l : List UInt8) : str l = .string ⟨l.toArray⟩ := rfl
theorem data_str (l : List UInt8) : (⟨l.toArray⟩ : ByteArray).data.toList = l := by simp
theorem size_str (l : List UInt8) : (⟨l.toArray⟩ : ByteArray).size = l.length := by simp [ByteArray.size]
theorem fr_grow (w : World) (k : Nat) (os : Array Obj) : Fr (fun _ => False) w (Go.Sort.grow (w.drewN k) os) :=
  ⟨rfl, rfl, rfl, by simp [Go.Sort.grow, World.drewN], fun i hi _ => by
    show (w.heap ++ os)[i]? = w.heap[i]?
    rw [Array.getElem?_append_left hi]⟩
theorem fr_bytes (w : World) (e : TypeId) (t : ByteArray) : Fr (fun _ => False) w (Lib.bytesWorld w e t) := by
  unfold Lib.bytesWorld World.freeze
  refine ⟨?_, ?_, ?_, ?_, fun i hi _ => ?_⟩
  · split <;> rfl
  · split <;> rfl
  · split <;> rfl
  · split <;> simp
  · split
    · exact Below.heap_alloc _ _ _ hi
    · simp only [Array.getElem?_modify]
      rw [if_neg (by show ¬ w.heap.size = i; omega)]
      exact Below.heap_alloc _ _ _ hi
theorem fr_below {w w' : World} (h : Below w.heap.size w w') : Fr (fun _ => False) w w' := Fr.of_below h
theorem lt_cell {w : World} {b o : Nat} {v : Value} (h : w.cell? ⟨b, o, none⟩ = some v) : b < w.heap.size := World.block_lt_of_cell? w ⟨b, o, none⟩ h
theorem cell_fr {w w' : World} {b o : Nat} {v : Value} (h : w.cell? ⟨b, o, none⟩ = some v) (hf : Fr (fun _ => False) w w') : w'.cell? ⟨b, o, none⟩ = some v := by
  rw [hf.cell (p := ⟨b, o, none⟩) (lt_cell h) (fun h => h)]; exact h
/-- The first place of a row that answers yes; -1: there is none. -/
def fidx {α : Type} (q : α → Bool) : List α → Nat → Int
  | [], _ => -1
  | x :: r, k => if q x then k else fidx q r (k + 1)
theorem fidx_at {α : Type} {q : α → Bool} {xs : List α} {k : Nat} {x : α} (h : xs[k]? = some x) : fidx q (xs.drop k) k = if q x then (k : Int) else fidx q (xs.drop (k + 1)) (k + 1) := by
  have hk : k < xs.length := by
    rcases Nat.lt_or_ge k xs.length with h' | h'
    · exact h'
    · rw [List.getElem?_eq_none h'] at h; cases h
  rw [List.drop_eq_getElem_cons hk]
  rw [List.getElem?_eq_getElem hk] at h
  rw [Option.some.inj h, fidx]
theorem fidx_any {α : Type} (q : α → Bool) : ∀ (l : List α) (k : Nat), decide (0 ≤ fidx q l k) = l.any q
  | [], _ => by simp [fidx]
  | x :: r, k => by
    rw [fidx]
    cases hx : q x with
    | true => simp [hx]
    | false => simp [hx]; rw [← fidx_any q r (k + 1)]
theorem fidx_ge {α : Type} (q : α → Bool) : ∀ (l : List α) (k : Nat), -1 ≤ fidx q l k ∧ fidx q l k ≤ (k : Int) + l.length
  | [], _ => by simp [fidx]
  | x :: r, k => by
    have := fidx_ge q r (k + 1)
    rw [fidx]
    split <;> simp <;> omega
theorem rowK_at {w : World} {A : Option Addr} {l : List Coln} (h : RowC w A (l.flatMap cellsK)) {k : Nat} {x : Coln} (hk : l[k]? = some x) : ∃ b o, A = some ⟨b, o, none⟩ ∧ b < w.heap.size ∧ w.cell? ⟨b, o + k * 2, none⟩ = some (.int .i64 x.k) ∧ w.cell? ⟨b, o + k * 2 + 1, none⟩ = some (.int .i64 x.c) := by
  rcases h with h | ⟨b, o, h1, h2, h3⟩
  · cases l with
    | nil => simp at hk
    | cons x r => simp [cellsK] at h
  · have g := fun c hc => chunk_get cellsK 2 (fun _ => rfl) l k c hc
    rw [hk] at g
    have e0 := h3 (k * 2) (.int .i64 x.k) (by rw [← Nat.add_zero (k * 2), g 0 (by omega)]; rfl)
    have e1 := h3 (k * 2 + 1) (.int .i64 x.c) (by rw [g 1 (by omega)]; rfl)
    exact ⟨b, o, h1, h2, e0, by rw [Nat.add_assoc]; exact e1⟩
theorem flatK_take : ∀ (l : List Coln) (k : Nat), (l.take k).flatMap cellsK = (l.flatMap cellsK).take (k * 2)
  | [], k => by simp
  | x :: r, 0 => by simp
  | x :: r, k + 1 => by
    rw [List.take_succ_cons, List.flatMap_cons, flatK_take r k, List.flatMap_cons, Nat.succ_mul]
    simp [cellsK]
theorem rowK_take {w : World} {A : Option Addr} {l : List Coln} (h : RowC w A (l.flatMap cellsK)) (k : Nat) : RowC w A ((l.take k).flatMap cellsK) := by
  rw [flatK_take]
  exact h.take _
end Go.Viv
namespace Go.Proofs.YtibailpbjdfjfaaDoor
open Go.RowKit Go.Viv
/-- What a call leans on: the table of powers of ten, the two errors, and the greatest length that is searched at once. -/
structure EnvP (w : World) : Prop where
  tab : Lib.TabIs Tryd.prog w "internal/strconv.uint64pow10" .u64 Lib.pow10Tab
  es : ∃ t p, w.var? Tryd.prog "strconv.ErrSyntax" = some #[.iface t p]
  er : ∃ t p, w.var? Tryd.prog "strconv.ErrRange" = some #[.iface t p]
  max : ∃ m, w.cell? ⟨0, 0, none⟩ = some (.int .i64 m)
  size : 8 ≤ w.heap.size
theorem globPow : Tryd.prog.globalNamed "internal/strconv.uint64pow10" = some 1 := by kernel_rfl
theorem globSy : Tryd.prog.globalNamed "strconv.ErrSyntax" = some 2 := by kernel_rfl
theorem globRa : Tryd.prog.globalNamed "strconv.ErrRange" = some 3 := by kernel_rfl
theorem EnvP.fr {w w' : World} (h : EnvP w) (hf : Fr (fun _ => False) w w') : EnvP w' := by
  have hs := h.size
  have hb : ∀ k, k < 8 → w'.heap[k]? = w.heap[k]? := fun k hk => hf.block k (by omega) (fun h => h)
  refine ⟨?_, ?_, ?_, ?_, Nat.le_trans h.size hf.size⟩
  · have := h.tab
    unfold Lib.TabIs World.var? at this ⊢
    rw [globPow] at this ⊢
    simpa [hb 1 (by omega)] using this
  · obtain ⟨t, p, h2⟩ := h.es
    refine ⟨t, p, ?_⟩
    unfold World.var? at h2 ⊢
    rw [globSy] at h2 ⊢
    simpa [hb 2 (by omega)] using h2
  · obtain ⟨t, p, h2⟩ := h.er
    refine ⟨t, p, ?_⟩
    unfold World.var? at h2 ⊢
    rw [globRa] at h2 ⊢
    simpa [hb 3 (by omega)] using h2
  · obtain ⟨m, h2⟩ := h.max
    exact ⟨m, cell_fr h2 hf⟩
theorem itoa_any (n : Int) (w : World) (he : EnvP w) (hn : inI n) : Calls Tryd.prog 17 #[.int .i64 n] w fun e w' => e = .returned (str (Lib.itoa n)) ∧ Fr (fun _ => False) w w' := by
  refine (Tryd.strconv_Itoa n hn.1 hn.2 w he.tab).mono ?_
  rintro e w' ⟨rfl, k, os, rfl⟩
  exact ⟨rfl, fr_grow _ _ _⟩

theorem asks_any (x : Coln) (w : World) : Calls Tryd.prog 26 #[x.agg] w fun e w' => e = .returned (.bool (askB x)) ∧ Fr (fun _ => False) w w' := by
  obtain ⟨k, c⟩ := x
  obtain ⟨b1, q1⟩ : ∃ b, (k == 1) = b := ⟨_, rfl⟩
  obtain ⟨b2, q2⟩ : ∃ b, (k == 2) = b := ⟨_, rfl⟩
  obtain ⟨b5, q5⟩ : ∃ b, (k == 5) = b := ⟨_, rfl⟩
  have HR := Lib.hid (show askB ⟨k, c⟩ = (b1 || b2 || b5) from by unfold askB; simp only [q1, q2, q5])
  cases b1 <;> cases b2 <;> cases b5
  all_goals
    go_enter Tryd.func26, Tryd.ntmps26
    go_wp2
    go_ret
    exact ⟨by rw [HR.out]; rfl, Fr.alloc1 _ _ _⟩

theorem twice_any (x y : Coln) (all : Bool) (A C : Nat) (w : World) (ha : w.cell? ⟨A, 0, none⟩ = some (.bool all)) (hc : w.cell? ⟨C, 1, none⟩ = some (.int .i64 y.c)) :
    Calls Tryd.prog 34 #[x.agg, .pointer (some ⟨A, 0, none⟩), .pointer (some ⟨C, 0, none⟩)] w fun e w' => e = .returned (.bool (((x.k == 5) == all) && x.c == y.c)) ∧ Fr (fun _ => False) w w' := by
  obtain ⟨k, c⟩ := x
  obtain ⟨yk, yc⟩ := y
  simp only at hc ⊢
  have l1 := lt_cell ha
  have l2 := lt_cell hc
  obtain ⟨b1, q1⟩ : ∃ b, (k == 5) = b := ⟨_, rfl⟩
  obtain ⟨b2, q2⟩ : ∃ b, (c == yc) = b := ⟨_, rfl⟩
  rw [q1, q2]
  cases b1 <;> cases b2 <;> cases all
  all_goals
    go_enter Tryd.func34, Tryd.ntmps34
    go_wp2
    go_ret
    exact ⟨rfl, Fr.alloc1 _ _ _⟩
set_option maxRecDepth 100000 in
set_option maxHeartbeats 1000000 in
theorem fidx_col (f : FuncId) (caps : Array Value) (q : Coln → Bool) (l : List Coln) (A : Option Addr) (cap : Nat) (w : World) (hr : RowC w A (l.flatMap cellsK)) (_hn : l.length ≤ cap) (_hc : cap ≤ 9223372036854775807)
    (hcf : ∀ args W, (callFunc f args).run Tryd.prog W = .ok (.enter f args) W) (hq : ∀ W x, Fr (fun _ => False) w W → Calls Tryd.prog f (#[x.agg] ++ caps) W fun e w' => e = .returned (.bool (q x)) ∧ Fr (fun _ => False) W w') :
    Calls Tryd.prog 35 #[.slice A l.length cap, .func (.func f) #[] caps] w fun e w' => e = .returned (.int .i64 (fidx q l 0)) ∧ Fr (fun _ => False) w w' := by
  have HR := Lib.hid hr
  have HQ := Lib.hid hq
  obtain ⟨n, hnl⟩ : ∃ n, l.length = n := ⟨_, rfl⟩
  have HN := Lib.hid hnl
  rw [hnl] at _hn ⊢
  clear hr hq hnl
  go_enter Tryd.func35, Tryd.ntmps35
  go_wp2_with fail
  go_loopw [5, 8] (fun _ t wr => ∃ k : Nat, k ≤ n ∧ t = .int .i64 k ∧ fidx q l 0 = fidx q (l.drop k) k ∧ Fr (fun _ => False) w wr) (fun _ t _ => n - (intOf t).toNat)
  case atStart => exact ⟨0, by omega, rfl, rfl, Fr.refl _ _⟩
  case round =>
    obtain ⟨k, hk, rfl, hidx, hfr⟩ := hrel
    by_cases hlt : k < n
    · obtain ⟨x, hx⟩ : ∃ x, l[k]? = some x := ⟨_, List.getElem?_eq_getElem (by rw [HN.out]; exact hlt)⟩
      obtain ⟨b, o, rfl, hbw, d0, d1⟩ := rowK_at (HR.out.fr hfr) hx
      rw [fidx_at hx] at hidx
      obtain ⟨t, hb⟩ : ∃ b, q x = b := ⟨_, rfl⟩
      have HC := Lib.hid (show Calls Tryd.prog f (#[x.agg] ++ caps) wr fun e w' => e = .returned (.bool t) ∧ Fr (fun _ => False) wr w' from by rw [← hb]; exact HQ.out wr x hfr)
      have HX := Lib.hid (And.intro hidx (And.intro hb hfr))
      clear hidx hb hfr hx
      obtain ⟨wB, hwB⟩ : ∃ wB, wB = wr := ⟨wr, rfl⟩
      subst hwB
      cases t with
      | true =>
        go_wp2_with (refine HC.out.mono ?_; rintro e w2 ⟨rfl, hf2⟩)
        go_ret
        refine ⟨?_, fr_two HX.out.2.2 hf2⟩
        rw [HX.out.1, if_pos HX.out.2.1]
        rfl
      | false =>
        go_wp2_with (refine HC.out.mono ?_; rintro e w2 ⟨rfl, hf2⟩; have H2 := Lib.hid hf2; clear hf2)
        go_roundw
        case rel =>
          refine ⟨k + 1, by omega, by go_num, ?_, fr_two HX.out.2.2 H2.out⟩
          rw [HX.out.1, if_neg (by rw [HX.out.2.1]; decide)]
        case measure => simp [intOf]; omega
    · obtain rfl : k = n := by omega
      have HX := Lib.hid (And.intro hidx hfr)
      clear hidx hfr
      go_wp2
      go_ret
      refine ⟨?_, HX.out.2⟩
      rw [HX.out.1, List.drop_of_length_le (by rw [HN.out]; exact Nat.le_refl _)]
      rfl
theorem cont_col (f : FuncId) (caps : Array Value) (q : Coln → Bool) (l : List Coln) (A : Option Addr) (cap : Nat) (w : World) (hr : RowC w A (l.flatMap cellsK)) (hn : l.length ≤ cap) (hc : cap ≤ 9223372036854775807)
    (hcf : ∀ args W, (callFunc f args).run Tryd.prog W = .ok (.enter f args) W) (hq : ∀ W x, Fr (fun _ => False) w W → Calls Tryd.prog f (#[x.agg] ++ caps) W fun e w' => e = .returned (.bool (q x)) ∧ Fr (fun _ => False) W w') :
    Calls Tryd.prog 25 #[.slice A l.length cap, .func (.func f) #[] caps] w fun e w' => e = .returned (.bool (l.any q)) ∧ Fr (fun _ => False) w w' := by
  have HC := Lib.hid (fidx_col f caps q l A cap w hr hn hc hcf hq)
  have HA := Lib.hid (fidx_any q l 0)
  obtain ⟨i, hi⟩ : ∃ i, fidx q l 0 = i := ⟨_, rfl⟩
  rw [hi] at HC HA
  clear hq hr hi hcf
  go_enter Tryd.func25, Tryd.ntmps25
  go_wp2_with fail
  refine HC.out.mono ?_
  rintro e w2 ⟨rfl, hf2⟩
  have H2 := Lib.hid hf2
  clear hf2
  go_wp2
  go_ret
  exact ⟨by rw [← HA.out]; rfl, H2.out⟩
end Go.Proofs.YtibailpbjdfjfaaDoor
