/-
  A program's text read: code.Split.
-/
import Derived.Test.YtadnbkjjdkgfiaaDoorSplM
import Derived.Test.YtadnbkjjdkgfiaaDoorLstM
import Derived.RangeFuncBox
import Derived.Maps.AppendAt
import Derived.Test.YtadnbkjjdkgfiaaDoorTxtE
import Derived.Test.YtadnbkjjdkgfiaaDoorTameA
import Derived.Test.YtadnbkjjdkgfiaaDoorCodJ
import Derived.Laws.Closers25b
set_option linter.unusedVariables false
namespace Go.Viv
open Go.Lib Go.Proofs.YtadnbkjjdkgfiaaDoor Go.RowKit
theorem pieces2 : Pieces ⟨#[59, 32]⟩ parts2 := ⟨by decide, fun _ h => indexB2_miss h, fun _ _ h => indexB2_hit h⟩
theorem listR_len : ∀ (a : List (List UInt8)) (is : List Insn), listR a = some is → is.length = a.length
  | [], is, h => by simp [listR] at h; simp [h]
  | x :: a, is, h => by
    unfold listR at h
    split at h
    · rename_i i r _ h2
      have := listR_len a r h2
      injection h with h
      rw [← h]
      simp [this]
    · cases h
theorem ins_new (w : World) (i : Insn) : ∀ (j : Nat) u, (cellsI i)[j]? = some u → (w.alloc (.cells #[.int .i64 i.op, .int .i64 i.r, .int .i64 i.s, .int .i64 i.n] 42)).cell? ((⟨w.heap.size, 0, none⟩ : Addr).add j) = some u := fun j u hj => by
  rw [show (⟨w.heap.size, 0, none⟩ : Addr).add j = ⟨w.heap.size, 0 + j, none⟩ by simp [Addr.add]; omega, Nat.zero_add, (Blk.new w 42 #[.int .i64 i.op, .int .i64 i.r, .int .i64 i.s, .int .i64 i.n]).cell, ← Array.getElem?_toList]
  exact hj
theorem ins_at {w : World} {n : Nat} (h : n = w.heap.size) (i : Insn) : ∀ (j : Nat) u, (cellsI i)[j]? = some u → (w.alloc (.cells #[.int .i64 i.op, .int .i64 i.r, .int .i64 i.s, .int .i64 i.n] 42)).cell? ((⟨n, 0, none⟩ : Addr).add j) = some u := by
  subst h
  exact ins_new w i
theorem listR_prefix {a b : List (List UInt8)} (h : a <+: b) (hn : listR a = none) : listR b = none := by
  obtain ⟨r, rfl⟩ := h
  rw [listR_app, hn]
theorem boxed_own {X Y : World} {row : Option Nat} {B : Nat} {t : TypeId} {v : Value} (h : Boxed X B t v) (hg : X.grownBy Y row) (hr : ∀ r, row = some r → ∃ o : Obj, X.heap[r]? = some o ∧ o.isCells = false) : Boxed Y B t v :=
  h.kept hg (fun e => by
    obtain ⟨o, ho, hc⟩ := hr B e.symm
    rw [show X.heap[B]? = _ from h] at ho
    cases ho
    cases hc)
theorem row_own {X Y : World} {row : Option Nat} {base : Nat} {e : TypeId} {size k : Nat} {v : Value} {xs : List Value} (h : X.ownsRow base e size v k xs) (hg : X.grownBy Y row) (hr : ∀ r, row = some r → ∃ o : Obj, X.heap[r]? = some o ∧ o.isCells = false) : Y.ownsRow base e size v k xs := by
  refine h.kept hg ?_
  rcases h.2 with ⟨rfl, _⟩ | ⟨g, cap, cur, rfl, _, hgb, _⟩
  · exact .inl rfl
  · refine .inr fun e' => ?_
    obtain ⟨o, ho, hc⟩ := hr g (by simpa [Value.ownBlock] using e'.symm)
    rw [hgb] at ho
    cases ho
    cases hc
theorem boxed_fr {X Y : World} {B : Nat} {t : TypeId} {v : Value} (h : Boxed X B t v) (hf : Fr (fun _ => False) X Y) : Boxed Y B t v := (hf.block B h.lt (fun h => h)).trans h
theorem boxed_far {X : World} {B : Nat} {t : TypeId} {v : Value} (h : Boxed X B t v) {p : Addr} (hp : B ≠ p.block) (u : Value) : Boxed (X.setCell p u) B t v := (Below.heap_setCell X p u B hp).trans h
theorem others_fr {X Y : World} (hf : Fr (fun _ => False) X Y) : KeepsOthers X Y := ⟨hf.size, fun k _ hk _ => (hf.block k (Array.getElem?_eq_some_iff.1 hk).1 (fun h => h)).trans hk⟩
/-- The three boxes of the iterator. -/
structure Box3 (W : World) (Bs : Nat) : Prop where
  s : ∃ u, Boxed W Bs 9 u
  sep : ∃ u, Boxed W (Bs + 1) 9 u
  save : ∃ u, Boxed W (Bs + 2) 3 u
theorem Box3.own {X Y : World} {row : Option Nat} {Bs : Nat} (h : Box3 X Bs) (hg : X.grownBy Y row) (hr : ∀ r, row = some r → ∃ o : Obj, X.heap[r]? = some o ∧ o.isCells = false) : Box3 Y Bs :=
  ⟨let ⟨u, h⟩ := h.s; ⟨u, boxed_own h hg hr⟩, let ⟨u, h⟩ := h.sep; ⟨u, boxed_own h hg hr⟩, let ⟨u, h⟩ := h.save; ⟨u, boxed_own h hg hr⟩⟩
theorem Box3.set {X : World} {Bs : Nat} (h : Box3 X Bs) (v : Value) : Box3 (X.setCell ⟨Bs, 0, none⟩ v) Bs :=
  ⟨let ⟨u, h⟩ := h.s; ⟨v, h.set v⟩, let ⟨u, h⟩ := h.sep; ⟨u, boxed_far h (by simp) v⟩, let ⟨u, h⟩ := h.save; ⟨u, boxed_far h (by simp) v⟩⟩
theorem Box3.keep {X Y : World} {n₀ Bs : Nat} (h : Box3 X Bs) (k : KeepB n₀ Bs X Y) : Box3 Y Bs :=
  ⟨let ⟨u, h⟩ := h.s; ⟨u, (k.2 Bs (.inr (by omega))).trans h⟩, let ⟨u, h⟩ := h.sep; ⟨u, (k.2 (Bs + 1) (.inr (by omega))).trans h⟩, let ⟨u, h⟩ := h.save; ⟨u, (k.2 (Bs + 2) (.inr (by omega))).trans h⟩⟩
/-- Between two rounds: what has come is read. -/
structure SpI (w : World) (pre : List (List UInt8)) (W : World) (is : List Insn) (v : Value) : Prop where
  read : listR pre = some is
  out : Boxed W (w.heap.size + 2) 51 v
  row : W.ownsRow w.heap.size 42 4 v is.length (is.flatMap cellsI)
  r0 : Boxed W w.heap.size 51 (.slice none 0 0)
  r1 : Boxed W (w.heap.size + 1) 44 (.int .i64 0)
  box : Box3 W (w.heap.size + 3)
/-- A round has left: what came is no program. -/
structure SpX (w : World) (pre : List (List UInt8)) (W : World) : Prop where
  read : listR pre = none
  r0 : Boxed W w.heap.size 51 (.slice none 0 0)
  r1 : Boxed W (w.heap.size + 1) 44 (.int .i64 16)
theorem SpI.own {w X Y : World} {row : Option Nat} {pre : List (List UInt8)} {is : List Insn} {v : Value} (h : SpI w pre X is v) (hg : X.grownBy Y row) (hr : ∀ r, row = some r → ∃ o : Obj, X.heap[r]? = some o ∧ o.isCells = false) : SpI w pre Y is v :=
  ⟨h.read, boxed_own h.out hg hr, row_own h.row hg hr, boxed_own h.r0 hg hr, boxed_own h.r1 hg hr, h.box.own hg hr⟩
theorem SpX.own {w X Y : World} {row : Option Nat} {pre : List (List UInt8)} (h : SpX w pre X) (hg : X.grownBy Y row) (hr : ∀ r, row = some r → ∃ o : Obj, X.heap[r]? = some o ∧ o.isCells = false) : SpX w pre Y :=
  ⟨h.read, boxed_own h.r0 hg hr, boxed_own h.r1 hg hr⟩
theorem SpI.set {w X : World} {pre : List (List UInt8)} {is : List Insn} {v : Value} (h : SpI w pre X is v) (u : Value) : SpI w pre (X.setCell ⟨w.heap.size + 3, 0, none⟩ u) is v := by
  obtain ⟨u0, hb⟩ := h.box.s
  exact ⟨h.read, boxed_far h.out (by simp) u, h.row.kept (grownBy_setCell' X _ u) (.inr (hb.not_row (by decide) h.row).symm), boxed_far h.r0 (by simp) u, boxed_far h.r1 (by simp) u, h.box.set u⟩
theorem SpX.set {w X : World} {pre : List (List UInt8)} (h : SpX w pre X) (u : Value) : SpX w pre (X.setCell ⟨w.heap.size + 3, 0, none⟩ u) :=
  ⟨h.read, boxed_far h.r0 (by simp) u, boxed_far h.r1 (by simp) u⟩
end Go.Viv
namespace Go.Proofs.YtadnbkjjdkgfiaaDoor
open Go.RowKit Go.Viv Go.Shelf
/-- What code.Split hands back. -/
def SplitRes (l : List UInt8) (w : World) (r : Option (List Insn)) : Prop := Calls Tryd.prog 39 #[str l] w fun e w' => ∃ A cap, e = .returned (.tuple #[.slice A (r.getD []).length cap, .int .i64 (if r.isSome then 0 else 16)]) ∧ (r.getD []).length ≤ cap ∧ cap ≤ maxLen ∧ RowC w' A ((r.getD []).flatMap cellsI) ∧ Fr (fun _ => False) w w'
theorem splitSeq_any (l : List UInt8) (sep : ByteArray) (w : World) : Calls Tryd.prog 64 #[str l, .string sep] w fun e w' => e = .returned (.func (.func 85) #[] #[.pointer (some ⟨w.heap.size + 1, 0, none⟩), .pointer (some ⟨w.heap.size, 0, none⟩), .pointer (some ⟨w.heap.size + 2, 0, none⟩)]) ∧ w' = ((w.alloc (.cells #[str l] 9)).alloc (.cells #[.string sep] 9)).alloc (.cells #[.int .i64 0] 3) := by
  have h75 : ∀ W : World, Calls Tryd.prog 75 #[str l, .string sep, .int .i64 0] W fun e w' => e = .returned (.func (.func 85) #[] #[.pointer (some ⟨W.heap.size + 1, 0, none⟩), .pointer (some ⟨W.heap.size, 0, none⟩), .pointer (some ⟨W.heap.size + 2, 0, none⟩)]) ∧ w' = ((W.alloc (.cells #[str l] 9)).alloc (.cells #[.string sep] 9)).alloc (.cells #[.int .i64 0] 3) := fun W => by
    go_enter Tryd.func75, Tryd.ntmps75
    go_wp2
    go_ret
    exact ⟨rfl, rfl⟩
  go_enter Tryd.func64, Tryd.ntmps64
  go_wp2_with (go_at_call 75; refine (h75 _).mono ?_; rintro e w1 ⟨rfl, rfl⟩)
  go_ret
  exact ⟨rfl, rfl⟩
attribute [local go_sem] Oper.semAt_some
set_option maxRecDepth 100000 in
set_option maxHeartbeats 4000000 in
theorem split_go (l : List UInt8) (w : World) (he : EnvC w) (hl : l.length < 4294967281) (hne : l ≠ []) : SplitRes l w (listR (parts2 l)) := by
  have hz : l.isEmpty = false := by cases l with
    | nil => exact absurd rfl hne
    | cons a r => rfl
  unfold SplitRes
  obtain ⟨r, hr0⟩ : ∃ r, listR (parts2 l) = r := ⟨_, rfl⟩
  obtain ⟨er, her⟩ : ∃ er : Int, (if r.isSome then 0 else 16 : Int) = er := ⟨_, rfl⟩
  obtain ⟨js, hjs⟩ : ∃ js, r.getD [] = js := ⟨_, rfl⟩
  rw [hr0, her, hjs]
  refine (callsIn_wide (n := 3)).1 ?_
  refine callsIn_of_wp_marks Tryd.func39 rfl trivial ?_ rfl
  simp only [Tryd.ntmps39, List.size_toArray, List.length_cons, List.length_nil, Nat.reduceAdd, Nat.reduceSub, Array.replicate_succ, Array.replicate_zero, List.push_toArray, List.append_toArray, List.nil_append, List.cons_append]
  gi_wp2_with (first | (gi_at_call 64; refine (callsIn_wide.2 (splitSeq_any l _ _)).mono ?_; rintro e w1 ⟨rfl, rfl⟩) | (refine ⟨trivial, ?_⟩; gi_at_call 64; refine (callsIn_wide.2 (splitSeq_any l _ _)).mono ?_; rintro e w1 ⟨rfl, rfl⟩))
  obtain ⟨m, hm⟩ := he.max
  have h0w : 0 < w.heap.size := World.block_lt_of_cell? _ _ hm
  obtain ⟨W0, hW0⟩ : ∃ W0, (((((w.alloc (.cells #[.slice none 0 0] 51)).alloc (.cells #[.int .i64 0] 44)).alloc (.cells #[.slice none 0 0] 51)).alloc (.cells #[str l] 9)).alloc (.cells #[.string ⟨#[59, 32]⟩] 9)).alloc (.cells #[.int .i64 0] 3) = W0 := ⟨_, rfl⟩
  have sz : W0.heap.size = w.heap.size + 6 := by rw [← hW0]; simp
  have q0 : Boxed W0 w.heap.size 51 (.slice none 0 0) := by rw [← hW0]; exact (((((Boxed.new w 51 _).alloc _).alloc _).alloc _).alloc _).alloc _
  have q1 : Boxed W0 (w.heap.size + 1) 44 (.int .i64 0) := by
    rw [← hW0]
    have := Boxed.new (w.alloc (.cells #[.slice none 0 0] 51)) 44 (.int .i64 0)
    rw [World.size_alloc] at this
    exact (((this.alloc _).alloc _).alloc _).alloc _
  have q2 : Boxed W0 (w.heap.size + 2) 51 (.slice none 0 0) := by
    rw [← hW0]
    have := Boxed.new ((w.alloc (.cells #[.slice none 0 0] 51)).alloc (.cells #[.int .i64 0] 44)) 51 (.slice none 0 0)
    rw [World.size_alloc, World.size_alloc] at this
    exact ((this.alloc _).alloc _).alloc _
  have q3 : Boxed W0 (w.heap.size + 3) 9 (str l) := by
    rw [← hW0]
    have := Boxed.new (((w.alloc (.cells #[.slice none 0 0] 51)).alloc (.cells #[.int .i64 0] 44)).alloc (.cells #[.slice none 0 0] 51)) 9 (str l)
    rw [World.size_alloc, World.size_alloc, World.size_alloc] at this
    exact (this.alloc _).alloc _
  have q4 : Boxed W0 (w.heap.size + 3 + 1) 9 (.string ⟨#[59, 32]⟩) := by
    rw [← hW0]
    have := Boxed.new ((((w.alloc (.cells #[.slice none 0 0] 51)).alloc (.cells #[.int .i64 0] 44)).alloc (.cells #[.slice none 0 0] 51)).alloc (.cells #[str l] 9)) 9 (.string ⟨#[59, 32]⟩)
    rw [World.size_alloc, World.size_alloc, World.size_alloc, World.size_alloc] at this
    exact this.alloc _
  have q5 : Boxed W0 (w.heap.size + 3 + 2) 3 (.int .i64 0) := by
    rw [← hW0]
    have := Boxed.new (((((w.alloc (.cells #[.slice none 0 0] 51)).alloc (.cells #[.int .i64 0] 44)).alloc (.cells #[.slice none 0 0] 51)).alloc (.cells #[str l] 9)).alloc (.cells #[.string ⟨#[59, 32]⟩] 9)) 3 (.int .i64 0)
    rw [World.size_alloc, World.size_alloc, World.size_alloc, World.size_alloc, World.size_alloc] at this
    exact this
  have hB0 : Below w.heap.size w W0 := by
    rw [← hW0]
    exact ((((((Below.refl _ w).alloc (Nat.le_refl _) _).alloc (by simp) _).alloc (by simp; omega) _).alloc (by simp; omega) _).alloc (by simp; omega) _).alloc (by simp; omega) _
  rw [hW0]
  clear hW0
  refine wpIn_rangeFunc_box rfl (by omega) (gf := 85) (lb := #[.pointer (some ⟨w.heap.size + 3 + 1, 0, none⟩), .pointer (some ⟨w.heap.size + 3, 0, none⟩), .pointer (some ⟨w.heap.size + 3 + 2, 0, none⟩)]) rfl trivial (enters_of Tryd.func85 (by kernel_rfl) rfl)
    (n₀ := w.heap.size) (Bs := w.heap.size + 3) (by omega) (by omega) (seq85 (3 - 1) (by omega) (w.heap.size + 3) w.heap.size ⟨#[59, 32]⟩ parts2 pieces2 l hl m W0 q3.cell q3.frozen q4.cell q5.cell ((hB0.cell (p := ⟨0, 0, none⟩) h0w).trans hm) h0w (by omega)) (fun _ => rfl)
    (fun (pre : List (Upto l.length)) W => (∃ is v, SpI w (pre.map Subtype.val) W is v) ∧ Below w.heap.size w W)
    (fun c (pre : List (Upto l.length)) W => c = .ret ∧ SpX w (pre.map Subtype.val) W ∧ Below w.heap.size w W)
    (OwnFrom.and (fun s X Y row hs hg hr => let ⟨is, v, h⟩ := hs; ⟨is, v, h.own hg (fun r e => (hr r e).2)⟩) (ownFrom_below (Nat.le_refl _) (by omega)))
    (fun c => OwnFrom.and (I := fun _ _ => c = .ret) (fun s X Y row hs hg hr => hs) (OwnFrom.and (fun s X Y row hs hg hr => SpX.own hs hg (fun r e => (hr r e).2)) (ownFrom_below (Nat.le_refl _) (by omega))))
    (fun s A v h => ⟨let ⟨is, u, h⟩ := h.1; ⟨is, u, h.set v⟩, h.2.setCell (p := ⟨w.heap.size + 3, 0, none⟩) (by simp) v⟩)
    (fun c s A v h => ⟨h.1, h.2.1.set v, h.2.2.setCell (p := ⟨w.heap.size + 3, 0, none⟩) (by simp) v⟩)
    ⟨⟨[], _, rfl, q2, World.ownsRow_nil _ _ _ _, q0, q1, ⟨⟨_, q3⟩, ⟨_, q4⟩, ⟨_, q5⟩⟩⟩, hB0⟩
    (fun (x : Upto l.length) => { tmps := #[str l, undef, .pointer (some ⟨w.heap.size, 0, none⟩), .pointer (some ⟨w.heap.size + 1, 0, none⟩), .pointer (some ⟨w.heap.size + 2, 0, none⟩), str x.1, undef, undef, str l, .bool false, str l, .func (.func 85) #[] #[.pointer (some ⟨w.heap.size + 3 + 1, 0, none⟩), .pointer (some ⟨w.heap.size + 3, 0, none⟩), .pointer (some ⟨w.heap.size + 3 + 2, 0, none⟩)], str x.1, undef, undef, undef, undef, undef, undef, undef, undef, undef, undef, undef, undef, undef], defers := [] }) ?assign ?body ?done ?stop
  case assign =>
    intro l x W K hK
    gi_wp2
    exact hK
  case body =>
    rintro lp pre ⟨x, hx⟩ W ⟨⟨is, v, hI⟩, hB⟩ hlen
    have hW : EnvC W := he.fr (Fr.of_below hB)
    have hpx : Calls Tryd.prog 26 #[str x] W fun e w' => e = .returned (.tuple #[((parseI (wds 32 x)).getD ⟨0, 0, 0, 0⟩).agg, .int .i64 (errI (parseI (wds 32 x)))]) ∧ Fr (fun _ => False) W w' := by
      have := cparse_any x W hW (by omega)
      rw [words_wds] at this
      exact this
    have hisl : is.length ≤ l.length + 1 := by
      have h1 := listR_len _ _ hI.read
      have h2 := parts2_len l
      rw [List.length_map] at h1
      omega
    obtain ⟨r, hr⟩ : ∃ r, parseI (wds 32 x) = r := ⟨_, rfl⟩
    rw [hr] at hpx
    dsimp only
    have hsize := hB.size
    cases r with
    | none =>
      have hp1 : Calls Tryd.prog 26 #[str x] W fun e w' => e = .returned (.tuple #[Insn.agg ⟨0, 0, 0, 0⟩, .int .i64 16]) ∧ Fr (fun _ => False) W w' := hpx
      gi_wp2_with (refine ⟨trivial, ?_⟩; gi_at_call 26; refine (CallsIn.inRound lp (callsIn_wide.2 hp1)).mono ?_; rintro e w2 ⟨rfl, hf2⟩; have b0 := boxed_fr hI.r0 hf2; have b1 := boxed_fr hI.r1 hf2; have k0 := b0.lt; have k1 := b1.lt; have c0 := b0.cell; have c1 := b1.cell; have f0 := b0.frozen; have f1 := b1.frozen)
      have hbb : Below w.heap.size W w2 := hf2.below hsize (fun _ h => h.elim)
      refine ⟨((others_fr hf2).trans ((KeepsOthers.setCell _ _ _).trans ((KeepsOthers.setCell _ _ _).trans (KeepsOthers.alloc _ _)))).from _, rfl, ⟨?_, ?_, ?_⟩, ?_⟩
      · rw [List.map_append, listR_app, hI.read]
        simp only [List.map_cons, List.map_nil, listR, hr]
      · exact (boxed_far (b0.set _) (by simp) _).alloc _
      · exact ((boxed_far b1 (by simp) _).set _).alloc _
      · exact (((hB.trans hbb).setCell (p := ⟨w.heap.size, 0, none⟩) (Nat.le_refl _) _).setCell (p := ⟨w.heap.size + 1, 0, none⟩) (by simp) _).alloc (by simp [World.setCell]; omega) _
    | some i =>
      have hp1 : Calls Tryd.prog 26 #[str x] W fun e w' => e = .returned (.tuple #[i.agg, .int .i64 0]) ∧ Fr (fun _ => False) W w' := hpx
      obtain ⟨i0, hi, hz0, hz1, hz2⟩ := info_parts info42
      gi_wp2_with (first
        | (refine ⟨trivial, ?_⟩; gi_at_call 26; refine (CallsIn.inRound lp (callsIn_wide.2 hp1)).mono ?_; rintro e w2 ⟨rfl, hf2⟩; have hout := (boxed_fr hI.out hf2).alloc (.cells #[.int .i64 i.op, .int .i64 i.r, .int .i64 i.s, .int .i64 i.n] 42); have hrow := (own_fr hI.row hf2 (fun _ _ h => h)).alloc (.cells #[.int .i64 i.op, .int .i64 i.r, .int .i64 i.s, .int .i64 i.n] 42); have hc := hout.cell; have hn2 : w.heap.size ≤ (w2.alloc (.cells #[.int .i64 i.op, .int .i64 i.r, .int .i64 i.s, .int .i64 i.n] 42)).heap.size := by (have := hf2.size; simp; omega))
        | (gi_at_builtin; refine wpListIn_append_own _ rfl _ _ 51 rfl w.heap.size 42 i0 _ 4 32 Tryd.underlying51 hi hz0 hz1 hz2 rfl (by decide) _ _ _ rfl (hrow.alloc _) ⟨w2.heap.size + 1, 0, none⟩ 1 1 (cellsI i) rfl rfl (ins_at (by simp) i) (by simp [Value.oneCell']) (by unfold maxLen; omega) (by omega) (by simp; have := hf2.size; omega) ?_; intro v' w3 hown' hgrow _; obtain ⟨g', cap', rfl⟩ := ownsRow_succ hown'; obtain ⟨hv1, hv2, hr2, hk2, hb2⟩ := hout.appended (by decide) hrow hn2 (by omega) hown' hgrow; have hc1 := hv1.cell; have hf1 := hv1.frozen))
      have hbb : Below w.heap.size W w2 := hf2.below hsize (fun _ h => h.elim)
      have hs2 := hf2.size
      have hkb : ∀ (k t : Nat) (u : Value), t ≠ 42 → k ≠ w.heap.size + 2 → Boxed W k t u → Boxed (w3.setCell ⟨w.heap.size + 2, 0, none⟩ (.slice (some ⟨g', 0, none⟩) (is.length + 1) cap')) k t u := fun k t u ht hk hb => by
        have b2 := (boxed_fr hb hf2).alloc (.cells #[.int .i64 i.op, .int .i64 i.r, .int .i64 i.s, .int .i64 i.n] 42)
        exact boxed_far ((b2.alloc _).kept hgrow (b2.not_row ht hrow)) hk _
      have hBW : Below w.heap.size W (w3.setCell ⟨w.heap.size + 2, 0, none⟩ (.slice (some ⟨g', 0, none⟩) (is.length + 1) cap')) := (hbb.alloc (by omega) _).trans hb2
      have hKB : KeepB w.heap.size (w.heap.size + 3) W (w3.setCell ⟨w.heap.size + 2, 0, none⟩ (.slice (some ⟨g', 0, none⟩) (is.length + 1) cap')) := by
        refine ⟨hBW.size, fun k hk => ?_⟩
        obtain ⟨u0, e0⟩ := hI.box.s
        obtain ⟨u1, e1⟩ := hI.box.sep
        obtain ⟨u2, e2⟩ := hI.box.save
        rcases hk with hk | ⟨h1, h2⟩
        · exact hBW.block k hk
        · have hc : k = w.heap.size + 3 ∨ k = w.heap.size + 3 + 1 ∨ k = w.heap.size + 3 + 2 := by omega
          rcases hc with rfl | rfl | rfl
          · exact (hkb _ _ _ (by decide) (by omega) e0).trans (Eq.symm e0)
          · exact (hkb _ _ _ (by decide) (by omega) e1).trans (Eq.symm e1)
          · exact (hkb _ _ _ (by decide) (by omega) e2).trans (Eq.symm e2)
      refine ⟨((others_fr hf2).trans ((KeepsOthers.alloc _ _).trans hk2)).from _, hKB, ⟨is ++ [i], _, ?_, hv2, ?_, hkb _ _ _ (by decide) (by omega) hI.r0, hkb _ _ _ (by decide) (by omega) hI.r1, hI.box.keep hKB⟩, hB.trans hBW⟩
      · rw [List.map_append, listR_app, hI.read]
        simp only [List.map_cons, List.map_nil, listR, hr]
      · rw [flatI_snoc, List.length_append]
        simpa using hr2
  case done =>
    rintro D ys W hD hS ⟨⟨is, v, hI⟩, hB⟩ hK
    have hread := hI.read
    rw [hS] at hread
    rw [hread] at hr0
    subst hr0
    obtain rfl : is = js := hjs
    obtain rfl : (0 : Int) = er := her
    obtain ⟨A, cap, rfl, h1, h2, h3⟩ := rowC_of_own hI.row
    have b0 := hI.r0
    have b1 := hI.r1
    have b2 := hI.out
    have k0 := b0.lt
    have k1 := b1.lt
    have c0 := b0.cell
    have c1 := b1.cell
    have c2 := b2.cell
    have f0 := b0.frozen
    have f1 := b1.frozen
    have hrow := hI.row
    have hK2 := ((KeepsOthers.setCell W ⟨w.heap.size, 0, none⟩ (.slice A is.length cap)).trans (KeepsOthers.setCell _ ⟨w.heap.size + 1, 0, none⟩ (.int .i64 0))).same D _ hK rfl
    have hrow1 : (W.setCell ⟨w.heap.size, 0, none⟩ (.slice A is.length cap)).ownsRow w.heap.size 42 4 (.slice A is.length cap) is.length (is.flatMap cellsI) := hrow.kept (grownBy_setCell' W _ _) (.inr (b0.not_row (by decide) hrow).symm)
    have b1' : Boxed (W.setCell ⟨w.heap.size, 0, none⟩ (.slice A is.length cap)) (w.heap.size + 1) 44 (.int .i64 0) := boxed_far b1 (by simp) _
    have hrow2 : ((W.setCell ⟨w.heap.size, 0, none⟩ (.slice A is.length cap)).setCell ⟨w.heap.size + 1, 0, none⟩ (.int .i64 0)).ownsRow w.heap.size 42 4 (.slice A is.length cap) is.length (is.flatMap cellsI) := hrow1.kept (grownBy_setCell' _ _ _) (.inr (b1'.not_row (by decide) hrow1).symm)
    have d0 := (boxed_far (b0.set (.slice A is.length cap)) (p := ⟨w.heap.size + 1, 0, none⟩) (by simp) (.int .i64 0)).cell
    have d1 := ((boxed_far b1 (p := ⟨w.heap.size, 0, none⟩) (by simp) (.slice A is.length cap)).set (.int .i64 0)).cell
    gi_wp2
    refine ⟨by simp, .inl ⟨_, _, rfl, run_takeDeferred hK2, ?_⟩⟩
    have p0 := (World.cell?_of_block (a := ⟨w.heap.size, 0, none⟩) (World.putObj_heap_other (w := (W.setCell ⟨w.heap.size, 0, none⟩ (.slice A is.length cap)).setCell ⟨w.heap.size + 1, 0, none⟩ (.int .i64 0)) (r := D) (k := w.heap.size) (o := .deferred none) (by omega))).trans d0
    have p1 := (World.cell?_of_block (a := ⟨w.heap.size + 1, 0, none⟩) (World.putObj_heap_other (w := (W.setCell ⟨w.heap.size, 0, none⟩ (.slice A is.length cap)).setCell ⟨w.heap.size + 1, 0, none⟩ (.int .i64 0)) (r := D) (k := w.heap.size + 1) (o := .deferred none) (by omega))).trans d1
    refine ⟨.tuple #[.slice A is.length cap, .int .i64 0], by simp [results, Tryd.results39, go_sem, p0, p1], A, cap, rfl, h1, h2, ?_, ?_⟩
    · have hr3 := ownsRow_putObj hrow2 (.deferred none) hK2 rfl
      obtain ⟨A', cap', e', _, _, h3'⟩ := rowC_of_own hr3
      injection e' with e1' _ _
      subst e1'
      exact h3'
    · exact Fr.of_below ((((hB.setCell (p := ⟨w.heap.size, 0, none⟩) (Nat.le_refl _) _).setCell (p := ⟨w.heap.size + 1, 0, none⟩) (by simp) _).trans (belowK_b (w := W0) hB0.size _ D _ _ hD hK2 rfl rfl)))
  case stop =>
    rintro D c pre W hD hSp ⟨rfl, hX, hB⟩ hK
    have hread := listR_prefix hSp hX.read
    rw [hread] at hr0
    subst hr0
    obtain rfl : [] = js := hjs
    obtain rfl : (16 : Int) = er := her
    have b0 := hX.r0
    have b1 := hX.r1
    have c0 := b0.cell
    have c1 := b1.cell
    have f0 := b0.frozen
    have f1 := b1.frozen
    gi_wp2
    refine ⟨by simp, .inl ⟨_, _, rfl, run_takeDeferred hK, ?_⟩⟩
    have p0 := (World.cell?_of_block (a := ⟨w.heap.size, 0, none⟩) (World.putObj_heap_other (w := W) (r := D) (k := w.heap.size) (o := .deferred none) (by omega))).trans c0
    have p1 := (World.cell?_of_block (a := ⟨w.heap.size + 1, 0, none⟩) (World.putObj_heap_other (w := W) (r := D) (k := w.heap.size + 1) (o := .deferred none) (by omega))).trans c1
    refine ⟨.tuple #[.slice none 0 0, .int .i64 16], by simp [results, Tryd.results39, go_sem, p0, p1], none, 0, rfl, Nat.le_refl _, Nat.zero_le _, .inl rfl, ?_⟩
    exact Fr.of_below (hB.trans (belowK_b (w := W0) hB0.size _ D _ _ hD hK rfl rfl))
theorem csplit_any (l : List UInt8) (w : World) (he : EnvC w) (hl : l.length < 4294967281) : SplitRes l w (listsI l) := by
  unfold listsI
  by_cases h : l = []
  · subst h
    rw [if_pos rfl]
    unfold SplitRes
    go_enter Tryd.func39, Tryd.ntmps39
    go_wp2_with fail
    refine bodyPost_ret (v := .tuple #[.slice none 0 0, .int .i64 0]) (by simp [results, Tryd.results39, go_sem]) rfl ?_
    exact ⟨none, 0, rfl, Nat.zero_le _, .inl rfl, ((Fr.refl _ _).alloc _).alloc _⟩
  · rw [if_neg h]
    exact split_go l w he hl h
end Go.Proofs.YtadnbkjjdkgfiaaDoor
/-
  CodeLists' walk: the instructions that are made, and their text.
-/
namespace Go.Viv
open Go.Lib Go.Proofs.YtadnbkjjdkgfiaaDoor Go.RowKit
/-- Instructions that may be, made of numbers. -/
def Tames (ps : List Insn) : Prop := ∀ i ∈ ps, ∃ x, Neat i x
theorem Tames.snoc {ps : List Insn} {i : Insn} (h : Tames ps) (hi : ∃ x, Neat i x) : Tames (ps ++ [i]) := fun j hj => by
  rcases List.mem_append.1 hj with h1 | h1
  · exact h j h1
  · rw [List.mem_singleton.1 h1]; exact hi
abbrev wantT (ps : List Insn) : List UInt8 := Lib.join (ps.map textI) [59, 32]
theorem want_snoc {ps : List Insn} (h : ps ≠ []) (i : Insn) : wantT (ps ++ [i]) = wantT ps ++ [59, 32] ++ textI i := by
  unfold wantT
  rw [List.map_append, List.map_cons, List.map_nil, join_snoc (by simpa using h), List.append_assoc]
theorem want_one (i : Insn) : wantT [i] = textI i := by
  unfold wantT
  rw [List.map_cons, List.map_nil, Lib.join_one]
theorem want_len {ps : List Insn} (h : Tames ps) (hn : ps.length ≤ 20) : (wantT ps).length ≤ 2200 := by
  have := join_len2 [59, 32] (ps.map textI) 100 (fun y hy => by
    obtain ⟨i, hi, rfl⟩ := List.mem_map.1 hy
    obtain ⟨x, hx⟩ := h i hi
    exact text_short i hx.inr)
  rw [List.length_map] at this
  simp at this
  show (Lib.join _ _).length ≤ 2200
  omega
theorem flat1 (xs : List Int) : xs.flatMap (fun n => [Value.int .i64 n]) = xs.map (Value.int .i64) := by
  induction xs with
  | nil => rfl
  | cons x r ih => rw [List.flatMap_cons, ih]; rfl
theorem text_semi {i : Insn} {x : Shp} (h : Neat i x) : ∀ c ∈ textI i, c ≠ 59 := by
  obtain ⟨k, e, h1, h2, h3⟩ := of_some h.of
  have hall : (shapeTab.all fun x => !(x.name.contains 59)) = true := by decide
  have hn : (59 : UInt8) ∉ x.name := by
    have := List.all_eq_true.1 hall x (List.mem_of_getElem? h3)
    simpa using this
  have hi : ∀ n : Int, (59 : UInt8) ∉ Lib.itoa n := fun n => itoa_no n 59 (by decide) (by decide)
  rintro c hc rfl
  rw [text_at i x h.of] at hc
  rcases List.mem_append.1 hc with h4 | h4
  · exact hn h4
  · unfold tellL at h4
    obtain ⟨l, hl, h5⟩ := List.mem_flatten.1 h4
    obtain ⟨d, _, rfl⟩ := List.mem_map.1 hl
    unfold tellC at h5
    split at h5
    · have := hi i.r
      simp_all
    · split at h5
      · have := hi i.s
        simp_all
      · have := hi i.n
        simp_all
theorem parts_want : ∀ {ps : List Insn}, Tames ps → ps ≠ [] → parts2 (wantT ps) = ps.map textI
  | [], _, h => absurd rfl h
  | [i], ht, _ => by
    obtain ⟨x, hx⟩ := ht i (by simp)
    rw [want_one, parts2_end _ (text_semi hx)]
    rfl
  | i :: j :: ps, ht, _ => by
    obtain ⟨x, hx⟩ := ht i (by simp)
    have ih := parts_want (ps := j :: ps) (fun k hk => ht k (by simp [hk])) (by simp)
    have e : wantT (i :: j :: ps) = textI i ++ 59 :: 32 :: wantT (j :: ps) := by
      unfold wantT
      rw [List.map_cons, List.map_cons, Lib.join_cons, Lib.join_cons]
      simp [Lib.joinTail]
    rw [e, parts2_piece _ _ (text_semi hx), ih]
    rfl
theorem listR_texts : ∀ {ps : List Insn}, Tames ps → listR (ps.map textI) = some ps
  | [], _ => rfl
  | i :: ps, ht => by
    obtain ⟨x, hx⟩ := ht i (by simp)
    rw [List.map_cons, listR, parse_neat hx, listR_texts (fun k hk => ht k (by simp [hk]))]
theorem text_ne {i : Insn} {x : Shp} (h : Neat i x) : textI i ≠ [] := by
  obtain ⟨k, e, h1, h2, h3⟩ := of_some h.of
  have hall : ∀ k : Fin 19, 1 ≤ k.1 → nameAt k.1 ≠ [] := by decide
  have hn := hall ⟨k, by omega⟩ h1
  rw [text_at i x h.of]
  intro he
  have h4 : x.name = [] := (List.append_eq_nil_iff.1 he).1
  apply hn
  unfold nameAt
  simp only [h3]
  exact h4
theorem lists_want {ps : List Insn} (ht : Tames ps) : listsI (wantT ps) = some ps := by
  unfold listsI
  by_cases h : ps = []
  · subst h
    rfl
  · have hne : wantT ps ≠ [] := by
      intro he
      have h1 := parts_want ht h
      rw [he] at h1
      cases ps with
      | nil => exact h rfl
      | cons i r =>
        obtain ⟨x, hx⟩ := ht i (by simp)
        rw [List.map_cons] at h1
        have h2 : parts2 [] = [[]] := rfl
        rw [h2] at h1
        injection h1 with h3 _
        exact text_ne hx h3.symm
    rw [if_neg hne, parts_want ht h, listR_texts ht]
end Go.Viv
namespace Go.Proofs.YtadnbkjjdkgfiaaDoor
open Go.RowKit Go.Viv
attribute [local go_sem ↓] wp_appendV
/-- The bytes of a text lie in a block. -/
structure BytesAt (w : World) (g : Nat) (L : List UInt8) : Prop where
  cell : ∀ j (h : j < L.length), w.cell? ⟨g, j, none⟩ = some (.int .u8 (L[j].toNat : Int))
  frozen : ∀ j, j < L.length → w.frozen? ⟨g, j, none⟩ = false
  lt : g < w.heap.size
theorem BytesAt.fr {w w' : World} {g : Nat} {L : List UInt8} (h : BytesAt w g L) (hf : Fr (fun _ => False) w w') : BytesAt w' g L := by
  have hb := hf.block g h.lt (fun h => h)
  refine ⟨fun j hj => (World.cell?_of_block (a := ⟨g, j, none⟩) hb).trans (h.cell j hj), fun j hj => ?_, Nat.lt_of_lt_of_le h.lt hf.size⟩
  have := h.frozen j hj
  simp only [World.frozen?, hb] at this ⊢
  exact this
theorem bytes_of (L : List UInt8) (W : World) : ∃ g cp w1, (convert 9 66 (str L)).run Tryd.prog W = .ok (.slice (some ⟨g, 0, none⟩) L.length cp) w1 ∧ Fr (fun _ => False) W w1 ∧ BytesAt w1 g L ∧ W.heap.size ≤ g := by
  have h := run_bytes_of_string (P := Tryd.prog) W 9 66 5 ⟨L.toArray⟩ Tryd.underlying9 Tryd.underlying66 Tryd.underlying5
  rw [size_str] at h
  refine ⟨_, _, _, h, (Fr.refl _ _).drew.alloc _, ⟨fun j hj => ?_, fun j hj => ?_, ?_⟩, Nat.le_refl _⟩
  · have := World.cell?_alloc_mark W.drew (bytesRow ⟨L.toArray⟩ (grownCap W L.length 0 5)) 5 ((bytesRow ⟨L.toArray⟩ (grownCap W L.length 0 5)).size, (bytesRow ⟨L.toArray⟩ (grownCap W L.length 0 5)).size + 1) j
    refine this.trans ((bytesRow_at ⟨L.toArray⟩ _ j (by simpa using hj)).trans ?_)
    simp
  · have := World.frozen?_alloc_mark W.drew (bytesRow ⟨L.toArray⟩ (grownCap W L.length 0 5)) 5 (bytesRow ⟨L.toArray⟩ (grownCap W L.length 0 5)).size ((bytesRow ⟨L.toArray⟩ (grownCap W L.length 0 5)).size + 1) j
    refine this.trans ?_
    have hs : L.length ≤ (bytesRow ⟨L.toArray⟩ (grownCap W L.length 0 5)).size := by
      unfold bytesRow
      simp
    simp
    omega
  · rw [World.size_alloc]; exact Nat.lt_succ_self _
theorem bytes_back {w : World} {g : Nat} {L : List UInt8} (h : BytesAt w g L) (cp : Nat) : (convert 66 9 (.slice (some ⟨g, 0, none⟩) L.length cp)).run Tryd.prog w = .ok (str L) w :=
  run_convert_bytes_back w 66 9 5 ⟨g, 0, none⟩ cp L Tryd.underlying66 Tryd.underlying5 Tryd.underlying9 (fun j hj => by
    rw [show (⟨g, 0, none⟩ : Addr).add j = ⟨g, 0 + j, none⟩ by simp [Addr.add]; omega, Nat.zero_add]
    exact h.cell j hj)
/-- A byte turned. -/
theorem BytesAt.turn {w : World} {g : Nat} {L : List UInt8} (h : BytesAt w g L) {j : Nat} (hj : j < L.length) (x : Int) (h0 : 0 ≤ x) (h1 : x ≤ 255) : BytesAt (w.setCell ⟨g, j, none⟩ (.int .u8 x)) g (L.set j (UInt8.ofNat x.toNat)) := by
  refine ⟨fun i hi => ?_, fun i hi => ?_, by simpa [World.setCell] using h.lt⟩
  · have hi' : i < L.length := by simpa using hi
    by_cases e : i = j
    · subst e
      rw [World.cell?_setCell_same' _ _ _ (by rw [h.cell i hi']; rfl), List.getElem_set_self]
      congr 2
      simp
      omega
    · rw [World.cell?_setCell_other _ _ _ _ (fun q => e (by injection q with _ q2 _; exact q2.symm)), List.getElem_set_ne (fun h => e h.symm)]
      exact h.cell i hi'
  · rw [World.frozen?_setCell]
    exact h.frozen i (by simp at hi; exact hi)
set_option maxRecDepth 100000 in
set_option maxHeartbeats 4000000 in
theorem clists_law (xs : List Int) (B : Option Addr) (capm : Nat) (l : List UInt8) (at_ by_ : Int) (w : World) (he : EnvC w) (hr : RowC w B (xs.flatMap (fun n => [Value.int .i64 n]))) (hn : xs.length ≤ capm) (hc : capm ≤ maxLen) (hl : l.length < 4294967281) :
    Calls Tryd.prog 12 #[.slice B xs.length capm, str l, .int .i64 at_, .int .u8 by_] w fun e w' => e = .returned (.bool true) ∧ Fr (fun _ => False) w w' := by
  have HE := Lib.hid he
  have HR := Lib.hid hr
  have HL := Lib.hid hl
  unfold maxLen at hc
  obtain ⟨n, hnn⟩ : ∃ n, xs.length = n := ⟨_, rfl⟩
  rw [hnn] at hn ⊢
  have HN := Lib.hid hnn
  clear he hr hl hnn
  go_enter Tryd.func12, Tryd.ntmps12
  go_wp2_with fail
  go_loopw [9, 10, 11] (fun v u t wr => ∃ (k : Nat) (ps : List Insn), k ≤ n ∧ k ≤ 20 ∧ ps.length = k ∧ Tames ps ∧ t = .int .i64 k ∧ u = str (wantT ps) ∧ wr.ownsRow w.heap.size 42 4 v k (ps.flatMap cellsI) ∧ Fr (fun _ => False) w wr) (fun _ _ t _ => n - (intOf t).toNat)
  case atStart => exact ⟨0, [], by omega, by omega, rfl, fun i hi => by simp at hi, rfl, rfl, World.ownsRow_nil _ _ _ _, Fr.refl _ _⟩
  case round =>
    obtain ⟨k, ps, hk, hk20, hpl, htm, rfl, rfl, hown, hfr⟩ := hrel
    obtain ⟨wB, hwB⟩ : ∃ wB, wB = wr := ⟨wr, rfl⟩
    subst hwB
    by_cases hlt : k < n ∧ k < 20
    · obtain ⟨hlt, hlt20⟩ := hlt
      have hlt' : (k : Int) < n := by omega
      have hlt20' : (k : Int) < 20 := by omega
      obtain ⟨x, hx⟩ : ∃ x, xs[k]? = some x := ⟨_, List.getElem?_eq_getElem (by rw [HN.out]; exact hlt)⟩
      have hrw := HR.out.fr hfr
      rw [flat1] at hrw
      rcases hrw with hnil | ⟨b, o, rfl, hbw, hcs⟩
      · have : xs = [] := by simpa using hnil
        rw [this] at hx
        cases hx
      have d0 := hcs k (.int .i64 x) (by rw [List.getElem?_map, hx]; rfl)
      obtain ⟨oo, X, h1, h2, _, hT⟩ := tame_any x 100 64 32 (by omega) (by omega) (by omega) wB
      have hneat := neat_tame oo X h1 h2
      obtain ⟨T, hTT⟩ : ∃ T, tameI oo X 100 64 32 = T := ⟨_, rfl⟩
      rw [hTT] at hT hneat
      clear hTT hcs hx
      obtain ⟨sh, hsh⟩ := hneat
      have htm2 := htm.snoc ⟨sh, hsh⟩
      have hTl := text_short T hsh.inr
      have HT := Lib.hid hT
      have H0 := Lib.hid (And.intro hown (And.intro hfr (And.intro htm2 (And.intro hsh hpl))))
      have HX2 := Lib.hid (fun W => tellsR_any T W hsh.inr)
      have hwl := want_len htm (by omega)
      clear hown hfr htm2 hT
      go_wp2_with fail
      refine HT.out.mono ?_
      rintro e w2 ⟨rfl, hf2⟩
      have hown2 := own_fr H0.out.1 hf2 (fun _ _ h => h)
      have hfr2 := fr_two H0.out.2.1 hf2
      obtain ⟨v2, w3, happ, hown3, hfr3⟩ := app_one (P := Tryd.prog) (T := 51) Tryd.underlying51 info42 rfl (by omega) (hown2.alloc (.cells #[.int .i64 T.op, .int .i64 T.r, .int .i64 T.s, .int .i64 T.n] 42)) (Blk.new _ 42 #[.int .i64 T.op, .int .i64 T.r, .int .i64 T.s, .int .i64 T.n]) rfl (by simp [Value.oneCell']) (by unfold maxLen; omega) (by omega) (by have := hfr2.size; simp; omega)
      have hown4 : w3.ownsRow w.heap.size 42 4 v2 (k + 1) ((ps ++ [T]).flatMap cellsI) := by rw [flatI_snoc]; simpa using hown3
      have hfr4 := hfr3 w (hfr2.alloc _) (Nat.le_refl _)
      obtain ⟨A2, cap2, rfl, q1, q2, q3⟩ := rowC_of_own hown4
      obtain ⟨b2, o2, rfl, hb2, e0, e1, e2, e3⟩ := rowI_at q3 (k := k) (i := T) (by rw [List.getElem?_append_right (by omega), show k - ps.length = 0 by omega]; rfl)
      have hk1 : (k : Int) < k + 1 := by omega
      have H4 := Lib.hid (And.intro hown4 hfr4)
      have hrng : ¬ 9223372036854775807 < (wantT ps).length + 2 := by omega
      have hrng2 : ¬ 9223372036854775807 < (wantT ps).length + 2 + (textI T).length := by omega
      unfold maxLen at q2
      clear hown2 hfr2 hown3 hfr3 hown4 hfr4 q3 hf2
      by_cases hk0 : k = 0
      · have hps : ps = [] := List.eq_nil_of_length_eq_zero (by omega)
        subst hk0 hps
        simp only [Nat.zero_mul, Nat.add_zero] at e0 e1 e2 e3
        go_wp2_with fail
        refine (HX2.out _).mono ?_
        rintro e w5 ⟨rfl, hf5⟩
        have H5 := Lib.hid (And.intro (own_fr H4.out.1 hf5 (fun _ _ h => h)) (fr_two H4.out.2 hf5))
        clear hf5
        go_wp2_with fail
        go_roundw
        case rel => exact ⟨1, [] ++ [T], by omega, by omega, by simp [H0.out.2.2.2.2], H0.out.2.2.1, by go_num, by rw [cat_ls]; exact congrArg str (want_one T).symm, H5.out.1, H5.out.2⟩
        case measure => simp [intOf]; omega
      · have hk0' : (0 : Int) < k := by omega
        go_wp2_with fail
        refine (HX2.out _).mono ?_
        rintro e w5 ⟨rfl, hf5⟩
        have H5 := Lib.hid (And.intro (own_fr H4.out.1 hf5 (fun _ _ h => h)) (fr_two H4.out.2 hf5))
        clear hf5
        go_wp2_with fail
        go_roundw
        case rel => exact ⟨k + 1, ps ++ [T], by omega, by omega, by simp [H0.out.2.2.2.2], H0.out.2.2.1, by go_num, by rw [show (ByteArray.mk #[59, 32]) = ⟨([59, 32] : List UInt8).toArray⟩ from rfl, three_ls, want_snoc (fun h => by rw [h] at hpl; exact hk0 hpl.symm), List.append_assoc], H5.out.1, H5.out.2⟩
        case measure => simp [intOf]; omega
    · have hkc : (∃ h : decide ((k : Int) < n) = false, decide (k < n) = false) ∨ ((k : Int) < n ∧ decide ((k : Int) < 20) = false ∧ decide (k < 20) = false) := by
        by_cases h : k < n
        · exact .inr ⟨by omega, decide_eq_false (by omega), decide_eq_false (by omega)⟩
        · exact .inl ⟨decide_eq_false (by omega), decide_eq_false (by omega)⟩
      obtain ⟨A2, cap2, rfl, q1, q2, q3⟩ := rowC_of_own hown
      have hwl := want_len htm (by omega)
      have HSP := Lib.hid (fun W (hW : EnvC W) => show Calls Tryd.prog 39 #[str (wantT ps)] W fun e w' => ∃ A cap, e = .returned (.tuple #[.slice A k cap, .int .i64 0]) ∧ k ≤ cap ∧ cap ≤ maxLen ∧ RowC w' A (ps.flatMap cellsI) ∧ Fr (fun _ => False) W w' from by
        have := csplit_any (wantT ps) W hW (by omega)
        unfold SplitRes at this
        rw [lists_want htm, Option.getD_some, hpl] at this
        exact this)
      have HLI := Lib.hid (fun W (hW : Env W) (h : RowC W A2 (ps.flatMap cellsI)) => show Calls Tryd.prog 38 #[.slice A2 k cap2] W fun e w' => e = .returned (str (wantT ps)) ∧ Fr (fun _ => False) W w' from by
        have := list_any ps A2 cap2 W hW h (fun i hi => by obtain ⟨x, hx⟩ := htm i hi; exact hx.inr) (fun i hi => by obtain ⟨x, hx⟩ := htm i hi; exact text_short i hx.inr) (by omega) (by omega) (by unfold maxLen at q2; omega)
        rw [hpl] at this
        exact this)
      have HSA := Lib.hid (fun W A3 cap3 (h : RowC W A2 (ps.flatMap cellsI)) (h3 : RowC W A3 (ps.flatMap cellsI)) (h4 : k ≤ cap3) (h5 : cap3 ≤ maxLen) => show Calls Tryd.prog 40 #[.slice A2 k cap2, .slice A3 k cap3] W fun e w' => e = .returned (.bool true) ∧ Fr (fun _ => False) W w' from by
        have := sameI_any ps ps A2 A3 cap2 cap3 W h (by omega) (by unfold maxLen at q2; omega) h3 (by omega) (by unfold maxLen at h5; omega)
        rw [hpl, sameB_eq rfl] at this
        exact this)
      obtain ⟨WT, hWT⟩ : ∃ WT, wantT ps = WT := ⟨_, rfl⟩
      rw [hWT] at HSP HLI hwl
      rw [hWT]
      have H0 := Lib.hid (And.intro q3 (And.intro hfr hwl))
      clear hown hfr hlt hwl q3
      rcases hkc with ⟨g1, g2⟩ | ⟨g1, g2, g3⟩
      · go_wp2_with fail
        refine (HLI.out _ (HE.out.env.fr H0.out.2.1) H0.out.1).mono ?_
        rintro e w2 ⟨rfl, hf2⟩
        have H2 := Lib.hid (And.intro (H0.out.1.fr hf2) (fr_two H0.out.2.1 hf2))
        clear hf2
        go_wp2_with fail
        refine (HSP.out _ (HE.out.fr H2.out.2)).mono ?_
        rintro e w3 ⟨A3, cap3, rfl, r1, r2, r3, hf3⟩
        have H3 := Lib.hid (And.intro (H2.out.1.fr hf3) (And.intro r3 (fr_two H2.out.2 hf3)))
        clear hf3 r3
        go_wp2_with fail
        refine (HSA.out _ _ _ H3.out.1 H3.out.2.1 r1 r2).mono ?_
        rintro e w4 ⟨rfl, hf4⟩
        obtain ⟨g, cp, w5, hconv, hf5, hby, hg⟩ := bytes_of WT w4
        have H5 := Lib.hid (And.intro (fr_two (fr_two H3.out.2.2 hf4) hf5) (And.intro hby (And.intro hg ((fr_two H3.out.2.2 hf4).size))))
        clear hf4 hf5 hby hg
        by_cases hW0 : WT.length = 0
        · obtain ⟨L2, hL2⟩ : ∃ L2, WT = L2 := ⟨_, rfl⟩
          have HL2 := Lib.hid (show L2.length = WT.length ∧ L2.length ≤ 2200 from by rw [← hL2]; exact ⟨rfl, H0.out.2.2⟩)
          have H6 := Lib.hid (show BytesAt w5 g L2 ∧ Fr (fun _ => False) w w5 from by rw [← hL2]; exact ⟨H5.out.2.1, H5.out.1⟩)
          clear hL2
          have hW2 : ((WT.length : Int)) = 0 := by omega
          go_wp2_with fail
          go_loopw [15, 16, 17, 18, 19, 20] (fun t _ _ _ _ _ wr => ∃ i : Nat, i ≤ 2 ∧ t = .int .i64 i ∧ BytesAt wr g L2 ∧ Fr (fun _ => False) w wr) (fun t _ _ _ _ _ _ => 2 - (intOf t).toNat)
          case atStart => exact ⟨0, by omega, rfl, H6.out.1, H6.out.2⟩
          case round =>
            obtain ⟨i, hi, rfl, hby, hfr⟩ := hrel
            obtain ⟨w7, hw7⟩ : ∃ wB, wB = wr := ⟨wr, rfl⟩
            subst hw7
            have hcv := bytes_back hby cp
            rw [HL2.out.1] at hcv
            try rw [hW0] at hcv
            have H8 := Lib.hid (And.intro hby hfr)
            clear hby hfr
            have hi3 : i = 0 ∨ i = 1 ∨ i = 2 := by omega
            rcases hi3 with rfl | rfl | rfl
            · have hX : l.length < 4294967281 := HL.out
              obtain ⟨r, hr⟩ : ∃ r, listsI l = r := ⟨_, rfl⟩
              have HSX := Lib.hid (fun W (hW : EnvC W) => show SplitRes l W r from by rw [← hr]; exact csplit_any l W hW hX)
              have HLX := Lib.hid (fun W => show ListRes l W r from by rw [← hr]; exact lists_any l W hX)
              unfold SplitRes at HSX
              unfold ListRes at HLX
              clear hr hX
              go_wp2_with fail
              refine (HSX.out _ (HE.out.fr (H8.out.2.alloc _))).mono ?_
              rintro e w9 ⟨A5, cap5, rfl, u1, u2, u3, hf9⟩
              have H9 := Lib.hid (And.intro u3 (And.intro (fr_two (H8.out.2.alloc _) hf9) ((H8.out.1.fr (Fr.alloc1 (fun _ => False) _ _)).fr hf9)))
              clear u3 hf9
              obtain ⟨js, hjs⟩ : ∃ js, r.getD [] = js := ⟨_, rfl⟩
              rw [hjs] at H9 HLX u1
              rw [hjs]
              clear hjs
              cases r with
              | none =>
                simp only [Option.isSome_none, Bool.false_eq_true, if_false] at HLX ⊢
                go_wp2_with fail
                refine (HLX.out _).mono ?_
                rintro e w10 ⟨A6, cap6, rfl, v1, v2, v3, hf10⟩
                have H10 := Lib.hid (And.intro (H9.out.1.fr hf10) (And.intro v3 (And.intro (fr_two H9.out.2.1 hf10) (H9.out.2.2.fr hf10))))
                clear v3 hf10
                have hsame := sameI_any js js A5 A6 cap5 cap6 w10 H10.out.1 u1 (by unfold maxLen at u2; omega) H10.out.2.1 v1 (by unfold maxLen at v2; omega)
                rw [sameB_eq rfl] at hsame
                have HSM := Lib.hid hsame
                clear hsame
                go_wp2_with fail
                refine HSM.out.mono ?_
                rintro e w11 ⟨rfl, hf11⟩
                have H11 := Lib.hid (And.intro (fr_two H10.out.2.2.1 hf11) (H10.out.2.2.2.fr hf11))
                clear hf11
                go_wp2_with fail
                go_roundw
                case rel => first | exact ⟨1, by omega, by go_num, H11.out.2, H11.out.1⟩ | exact ⟨_, _, _, _, _, _, _, _, _, _, _, _, _, _, _, _, _, _, _, _, _, _, _, _, _, _, _, _, _, _, _, _, _, _, _, _, _, _, _, _, _, _, _, _, _, _, ⟨1, by omega, by go_num, H11.out.2, H11.out.1⟩, rfl⟩
                case measure => simp [intOf]
              | some js0 =>
                simp only [Option.isSome_some, if_true] at HLX ⊢
                go_wp2_with fail
                refine (HLX.out _).mono ?_
                rintro e w10 ⟨A6, cap6, rfl, v1, v2, v3, hf10⟩
                have H10 := Lib.hid (And.intro (H9.out.1.fr hf10) (And.intro v3 (And.intro (fr_two H9.out.2.1 hf10) (H9.out.2.2.fr hf10))))
                clear v3 hf10
                have hsame := sameI_any js js A5 A6 cap5 cap6 w10 H10.out.1 u1 (by unfold maxLen at u2; omega) H10.out.2.1 v1 (by unfold maxLen at v2; omega)
                rw [sameB_eq rfl] at hsame
                have HSM := Lib.hid hsame
                clear hsame
                go_wp2_with fail
                refine HSM.out.mono ?_
                rintro e w11 ⟨rfl, hf11⟩
                have H11 := Lib.hid (And.intro (fr_two H10.out.2.2.1 hf11) (H10.out.2.2.2.fr hf11))
                clear hf11
                go_wp2_with fail
                go_roundw
                case rel => first | exact ⟨1, by omega, by go_num, H11.out.2, H11.out.1⟩ | exact ⟨_, _, _, _, _, _, _, _, _, _, _, _, _, _, _, _, _, _, _, _, _, _, _, _, _, _, _, _, _, _, _, _, _, _, _, _, _, _, _, _, _, _, _, _, _, _, ⟨1, by omega, by go_num, H11.out.2, H11.out.1⟩, rfl⟩
                case measure => simp [intOf]
            · have hX : L2.length < 4294967281 := (by have := HL2.out.2; omega)
              obtain ⟨r, hr⟩ : ∃ r, listsI L2 = r := ⟨_, rfl⟩
              have HSX := Lib.hid (fun W (hW : EnvC W) => show SplitRes L2 W r from by rw [← hr]; exact csplit_any L2 W hW hX)
              have HLX := Lib.hid (fun W => show ListRes L2 W r from by rw [← hr]; exact lists_any L2 W hX)
              unfold SplitRes at HSX
              unfold ListRes at HLX
              clear hr hX
              go_wp2_with fail
              refine (HSX.out _ (HE.out.fr (H8.out.2.alloc _))).mono ?_
              rintro e w9 ⟨A5, cap5, rfl, u1, u2, u3, hf9⟩
              have H9 := Lib.hid (And.intro u3 (And.intro (fr_two (H8.out.2.alloc _) hf9) ((H8.out.1.fr (Fr.alloc1 (fun _ => False) _ _)).fr hf9)))
              clear u3 hf9
              obtain ⟨js, hjs⟩ : ∃ js, r.getD [] = js := ⟨_, rfl⟩
              rw [hjs] at H9 HLX u1
              rw [hjs]
              clear hjs
              cases r with
              | none =>
                simp only [Option.isSome_none, Bool.false_eq_true, if_false] at HLX ⊢
                go_wp2_with fail
                refine (HLX.out _).mono ?_
                rintro e w10 ⟨A6, cap6, rfl, v1, v2, v3, hf10⟩
                have H10 := Lib.hid (And.intro (H9.out.1.fr hf10) (And.intro v3 (And.intro (fr_two H9.out.2.1 hf10) (H9.out.2.2.fr hf10))))
                clear v3 hf10
                have hsame := sameI_any js js A5 A6 cap5 cap6 w10 H10.out.1 u1 (by unfold maxLen at u2; omega) H10.out.2.1 v1 (by unfold maxLen at v2; omega)
                rw [sameB_eq rfl] at hsame
                have HSM := Lib.hid hsame
                clear hsame
                go_wp2_with fail
                refine HSM.out.mono ?_
                rintro e w11 ⟨rfl, hf11⟩
                have H11 := Lib.hid (And.intro (fr_two H10.out.2.2.1 hf11) (H10.out.2.2.2.fr hf11))
                clear hf11
                go_wp2_with fail
                go_roundw
                case rel => first | exact ⟨2, by omega, by go_num, H11.out.2, H11.out.1⟩ | exact ⟨_, _, _, _, _, _, _, _, _, _, _, _, _, _, _, _, _, _, _, _, _, _, _, _, _, _, _, _, _, _, _, _, _, _, _, _, _, _, _, _, _, _, _, _, _, _, ⟨2, by omega, by go_num, H11.out.2, H11.out.1⟩, rfl⟩
                case measure => simp [intOf]
              | some js0 =>
                simp only [Option.isSome_some, if_true] at HLX ⊢
                go_wp2_with fail
                refine (HLX.out _).mono ?_
                rintro e w10 ⟨A6, cap6, rfl, v1, v2, v3, hf10⟩
                have H10 := Lib.hid (And.intro (H9.out.1.fr hf10) (And.intro v3 (And.intro (fr_two H9.out.2.1 hf10) (H9.out.2.2.fr hf10))))
                clear v3 hf10
                have hsame := sameI_any js js A5 A6 cap5 cap6 w10 H10.out.1 u1 (by unfold maxLen at u2; omega) H10.out.2.1 v1 (by unfold maxLen at v2; omega)
                rw [sameB_eq rfl] at hsame
                have HSM := Lib.hid hsame
                clear hsame
                go_wp2_with fail
                refine HSM.out.mono ?_
                rintro e w11 ⟨rfl, hf11⟩
                have H11 := Lib.hid (And.intro (fr_two H10.out.2.2.1 hf11) (H10.out.2.2.2.fr hf11))
                clear hf11
                go_wp2_with fail
                go_roundw
                case rel => first | exact ⟨2, by omega, by go_num, H11.out.2, H11.out.1⟩ | exact ⟨_, _, _, _, _, _, _, _, _, _, _, _, _, _, _, _, _, _, _, _, _, _, _, _, _, _, _, _, _, _, _, _, _, _, _, _, _, _, _, _, _, _, _, _, _, _, ⟨2, by omega, by go_num, H11.out.2, H11.out.1⟩, rfl⟩
                case measure => simp [intOf]
            · have HA := Lib.hid H8.out.2
              go_wp2_with (go_at_call 30; refine (cawake_any _ (HE.out.fr HA.out)).mono ?_; rintro e w11 ⟨rfl, hf11⟩)
              go_ret
              exact ⟨rfl, fr_two HA.out hf11⟩
        · obtain ⟨M, hM, hMl⟩ := mask_nat at_ 65535 16 (by decide) (by decide)
          have hWl := H0.out.2.2
          have hW1 : (0 : Int) < WT.length := by omega
          have hJl : M % WT.length < WT.length := Nat.mod_lt _ (by omega)
          obtain ⟨J, hJ⟩ : ∃ J, M % WT.length = J := ⟨_, rfl⟩
          rw [hJ] at hJl
          have hJ' : (M : Int) % (WT.length : Int) = (J : Int) := by rw [← hJ]; omega
          have c0 := H5.out.2.1.cell J hJl
          have f0 := H5.out.2.1.frozen J hJl
          have hJ1 : (J : Int) < WT.length := by omega
          have hz : ((WT.length : Int) == 0) = false := beq_eq_false_iff_ne.2 (by omega)
          clear hJ
          obtain ⟨y, hy⟩ : ∃ y, bits .xor .u8 (WT[J].toNat : Int) by_ = y := ⟨_, rfl⟩
          have hy0 : 0 ≤ y := by rw [← hy]; exact bits_lo_u8 .xor _ _
          have hy1 : y ≤ 255 := by rw [← hy]; exact bits_hi_u8 .xor _ _
          obtain ⟨L2, hL2⟩ : ∃ L2, WT.set J (UInt8.ofNat y.toNat) = L2 := ⟨_, rfl⟩
          have HL2 := Lib.hid (show L2.length = WT.length ∧ L2.length ≤ 2200 from by rw [← hL2, List.length_set]; exact ⟨rfl, H0.out.2.2⟩)
          have H6 := Lib.hid (show BytesAt (w5.setCell ⟨g, J, none⟩ (.int .u8 y)) g L2 ∧ Fr (fun _ => False) w (w5.setCell ⟨g, J, none⟩ (.int .u8 y)) from by
            rw [← hL2]
            exact ⟨H5.out.2.1.turn hJl y hy0 hy1, H5.out.1.setCell (p := ⟨g, J, none⟩) (.inr (Nat.le_trans H5.out.2.2.2 H5.out.2.2.1)) _⟩)
          clear hL2 hy0 hy1
          go_wp2_with fail
          obtain ⟨w6, hw6⟩ : ∃ w6, w5.setCell ⟨g, J, none⟩ (.int .u8 y) = w6 := ⟨_, rfl⟩
          rw [hw6] at H6 ⊢
          obtain ⟨bb, hbb⟩ : ∃ b, decide (0 < WT.length) = b := ⟨_, rfl⟩
          rw [hbb, hJ']
          clear hw6 c0 f0 hconv hbb hJ' hW1 hJ1
          go_loopw [15, 16, 17, 18, 19, 20] (fun t _ _ _ _ _ wr => ∃ i : Nat, i ≤ 2 ∧ t = .int .i64 i ∧ BytesAt wr g L2 ∧ Fr (fun _ => False) w wr) (fun t _ _ _ _ _ _ => 2 - (intOf t).toNat)
          case atStart => exact ⟨0, by omega, rfl, H6.out.1, H6.out.2⟩
          case round =>
            obtain ⟨i, hi, rfl, hby, hfr⟩ := hrel
            obtain ⟨w7, hw7⟩ : ∃ wB, wB = wr := ⟨wr, rfl⟩
            subst hw7
            have hcv := bytes_back hby cp
            rw [HL2.out.1] at hcv
            try rw [hW0] at hcv
            have H8 := Lib.hid (And.intro hby hfr)
            clear hby hfr
            have hi3 : i = 0 ∨ i = 1 ∨ i = 2 := by omega
            rcases hi3 with rfl | rfl | rfl
            · have hX : l.length < 4294967281 := HL.out
              obtain ⟨r, hr⟩ : ∃ r, listsI l = r := ⟨_, rfl⟩
              have HSX := Lib.hid (fun W (hW : EnvC W) => show SplitRes l W r from by rw [← hr]; exact csplit_any l W hW hX)
              have HLX := Lib.hid (fun W => show ListRes l W r from by rw [← hr]; exact lists_any l W hX)
              unfold SplitRes at HSX
              unfold ListRes at HLX
              clear hr hX
              go_wp2_with fail
              refine (HSX.out _ (HE.out.fr (H8.out.2.alloc _))).mono ?_
              rintro e w9 ⟨A5, cap5, rfl, u1, u2, u3, hf9⟩
              have H9 := Lib.hid (And.intro u3 (And.intro (fr_two (H8.out.2.alloc _) hf9) ((H8.out.1.fr (Fr.alloc1 (fun _ => False) _ _)).fr hf9)))
              clear u3 hf9
              obtain ⟨js, hjs⟩ : ∃ js, r.getD [] = js := ⟨_, rfl⟩
              rw [hjs] at H9 HLX u1
              rw [hjs]
              clear hjs
              cases r with
              | none =>
                simp only [Option.isSome_none, Bool.false_eq_true, if_false] at HLX ⊢
                go_wp2_with fail
                refine (HLX.out _).mono ?_
                rintro e w10 ⟨A6, cap6, rfl, v1, v2, v3, hf10⟩
                have H10 := Lib.hid (And.intro (H9.out.1.fr hf10) (And.intro v3 (And.intro (fr_two H9.out.2.1 hf10) (H9.out.2.2.fr hf10))))
                clear v3 hf10
                have hsame := sameI_any js js A5 A6 cap5 cap6 w10 H10.out.1 u1 (by unfold maxLen at u2; omega) H10.out.2.1 v1 (by unfold maxLen at v2; omega)
                rw [sameB_eq rfl] at hsame
                have HSM := Lib.hid hsame
                clear hsame
                go_wp2_with fail
                refine HSM.out.mono ?_
                rintro e w11 ⟨rfl, hf11⟩
                have H11 := Lib.hid (And.intro (fr_two H10.out.2.2.1 hf11) (H10.out.2.2.2.fr hf11))
                clear hf11
                go_wp2_with fail
                go_roundw
                case rel => first | exact ⟨1, by omega, by go_num, H11.out.2, H11.out.1⟩ | exact ⟨_, _, _, _, _, _, _, _, _, _, _, _, _, _, _, _, _, _, _, _, _, _, _, _, _, _, _, _, _, _, _, _, _, _, _, _, _, _, _, _, _, _, _, _, _, _, ⟨1, by omega, by go_num, H11.out.2, H11.out.1⟩, rfl⟩
                case measure => simp [intOf]
              | some js0 =>
                simp only [Option.isSome_some, if_true] at HLX ⊢
                go_wp2_with fail
                refine (HLX.out _).mono ?_
                rintro e w10 ⟨A6, cap6, rfl, v1, v2, v3, hf10⟩
                have H10 := Lib.hid (And.intro (H9.out.1.fr hf10) (And.intro v3 (And.intro (fr_two H9.out.2.1 hf10) (H9.out.2.2.fr hf10))))
                clear v3 hf10
                have hsame := sameI_any js js A5 A6 cap5 cap6 w10 H10.out.1 u1 (by unfold maxLen at u2; omega) H10.out.2.1 v1 (by unfold maxLen at v2; omega)
                rw [sameB_eq rfl] at hsame
                have HSM := Lib.hid hsame
                clear hsame
                go_wp2_with fail
                refine HSM.out.mono ?_
                rintro e w11 ⟨rfl, hf11⟩
                have H11 := Lib.hid (And.intro (fr_two H10.out.2.2.1 hf11) (H10.out.2.2.2.fr hf11))
                clear hf11
                go_wp2_with fail
                go_roundw
                case rel => first | exact ⟨1, by omega, by go_num, H11.out.2, H11.out.1⟩ | exact ⟨_, _, _, _, _, _, _, _, _, _, _, _, _, _, _, _, _, _, _, _, _, _, _, _, _, _, _, _, _, _, _, _, _, _, _, _, _, _, _, _, _, _, _, _, _, _, ⟨1, by omega, by go_num, H11.out.2, H11.out.1⟩, rfl⟩
                case measure => simp [intOf]
            · have hX : L2.length < 4294967281 := (by have := HL2.out.2; omega)
              obtain ⟨r, hr⟩ : ∃ r, listsI L2 = r := ⟨_, rfl⟩
              have HSX := Lib.hid (fun W (hW : EnvC W) => show SplitRes L2 W r from by rw [← hr]; exact csplit_any L2 W hW hX)
              have HLX := Lib.hid (fun W => show ListRes L2 W r from by rw [← hr]; exact lists_any L2 W hX)
              unfold SplitRes at HSX
              unfold ListRes at HLX
              clear hr hX
              go_wp2_with fail
              refine (HSX.out _ (HE.out.fr (H8.out.2.alloc _))).mono ?_
              rintro e w9 ⟨A5, cap5, rfl, u1, u2, u3, hf9⟩
              have H9 := Lib.hid (And.intro u3 (And.intro (fr_two (H8.out.2.alloc _) hf9) ((H8.out.1.fr (Fr.alloc1 (fun _ => False) _ _)).fr hf9)))
              clear u3 hf9
              obtain ⟨js, hjs⟩ : ∃ js, r.getD [] = js := ⟨_, rfl⟩
              rw [hjs] at H9 HLX u1
              rw [hjs]
              clear hjs
              cases r with
              | none =>
                simp only [Option.isSome_none, Bool.false_eq_true, if_false] at HLX ⊢
                go_wp2_with fail
                refine (HLX.out _).mono ?_
                rintro e w10 ⟨A6, cap6, rfl, v1, v2, v3, hf10⟩
                have H10 := Lib.hid (And.intro (H9.out.1.fr hf10) (And.intro v3 (And.intro (fr_two H9.out.2.1 hf10) (H9.out.2.2.fr hf10))))
                clear v3 hf10
                have hsame := sameI_any js js A5 A6 cap5 cap6 w10 H10.out.1 u1 (by unfold maxLen at u2; omega) H10.out.2.1 v1 (by unfold maxLen at v2; omega)
                rw [sameB_eq rfl] at hsame
                have HSM := Lib.hid hsame
                clear hsame
                go_wp2_with fail
                refine HSM.out.mono ?_
                rintro e w11 ⟨rfl, hf11⟩
                have H11 := Lib.hid (And.intro (fr_two H10.out.2.2.1 hf11) (H10.out.2.2.2.fr hf11))
                clear hf11
                go_wp2_with fail
                go_roundw
                case rel => first | exact ⟨2, by omega, by go_num, H11.out.2, H11.out.1⟩ | exact ⟨_, _, _, _, _, _, _, _, _, _, _, _, _, _, _, _, _, _, _, _, _, _, _, _, _, _, _, _, _, _, _, _, _, _, _, _, _, _, _, _, _, _, _, _, _, _, ⟨2, by omega, by go_num, H11.out.2, H11.out.1⟩, rfl⟩
                case measure => simp [intOf]
              | some js0 =>
                simp only [Option.isSome_some, if_true] at HLX ⊢
                go_wp2_with fail
                refine (HLX.out _).mono ?_
                rintro e w10 ⟨A6, cap6, rfl, v1, v2, v3, hf10⟩
                have H10 := Lib.hid (And.intro (H9.out.1.fr hf10) (And.intro v3 (And.intro (fr_two H9.out.2.1 hf10) (H9.out.2.2.fr hf10))))
                clear v3 hf10
                have hsame := sameI_any js js A5 A6 cap5 cap6 w10 H10.out.1 u1 (by unfold maxLen at u2; omega) H10.out.2.1 v1 (by unfold maxLen at v2; omega)
                rw [sameB_eq rfl] at hsame
                have HSM := Lib.hid hsame
                clear hsame
                go_wp2_with fail
                refine HSM.out.mono ?_
                rintro e w11 ⟨rfl, hf11⟩
                have H11 := Lib.hid (And.intro (fr_two H10.out.2.2.1 hf11) (H10.out.2.2.2.fr hf11))
                clear hf11
                go_wp2_with fail
                go_roundw
                case rel => first | exact ⟨2, by omega, by go_num, H11.out.2, H11.out.1⟩ | exact ⟨_, _, _, _, _, _, _, _, _, _, _, _, _, _, _, _, _, _, _, _, _, _, _, _, _, _, _, _, _, _, _, _, _, _, _, _, _, _, _, _, _, _, _, _, _, _, ⟨2, by omega, by go_num, H11.out.2, H11.out.1⟩, rfl⟩
                case measure => simp [intOf]
            · have HA := Lib.hid H8.out.2
              go_wp2_with (go_at_call 30; refine (cawake_any _ (HE.out.fr HA.out)).mono ?_; rintro e w11 ⟨rfl, hf11⟩)
              go_ret
              exact ⟨rfl, fr_two HA.out hf11⟩
      · go_wp2_with fail
        refine (HLI.out _ (HE.out.env.fr H0.out.2.1) H0.out.1).mono ?_
        rintro e w2 ⟨rfl, hf2⟩
        have H2 := Lib.hid (And.intro (H0.out.1.fr hf2) (fr_two H0.out.2.1 hf2))
        clear hf2
        go_wp2_with fail
        refine (HSP.out _ (HE.out.fr H2.out.2)).mono ?_
        rintro e w3 ⟨A3, cap3, rfl, r1, r2, r3, hf3⟩
        have H3 := Lib.hid (And.intro (H2.out.1.fr hf3) (And.intro r3 (fr_two H2.out.2 hf3)))
        clear hf3 r3
        go_wp2_with fail
        refine (HSA.out _ _ _ H3.out.1 H3.out.2.1 r1 r2).mono ?_
        rintro e w4 ⟨rfl, hf4⟩
        obtain ⟨g, cp, w5, hconv, hf5, hby, hg⟩ := bytes_of WT w4
        have H5 := Lib.hid (And.intro (fr_two (fr_two H3.out.2.2 hf4) hf5) (And.intro hby (And.intro hg ((fr_two H3.out.2.2 hf4).size))))
        clear hf4 hf5 hby hg
        by_cases hW0 : WT.length = 0
        · obtain ⟨L2, hL2⟩ : ∃ L2, WT = L2 := ⟨_, rfl⟩
          have HL2 := Lib.hid (show L2.length = WT.length ∧ L2.length ≤ 2200 from by rw [← hL2]; exact ⟨rfl, H0.out.2.2⟩)
          have H6 := Lib.hid (show BytesAt w5 g L2 ∧ Fr (fun _ => False) w w5 from by rw [← hL2]; exact ⟨H5.out.2.1, H5.out.1⟩)
          clear hL2
          have hW2 : ((WT.length : Int)) = 0 := by omega
          go_wp2_with fail
          go_loopw [15, 16, 17, 18, 19, 20] (fun t _ _ _ _ _ wr => ∃ i : Nat, i ≤ 2 ∧ t = .int .i64 i ∧ BytesAt wr g L2 ∧ Fr (fun _ => False) w wr) (fun t _ _ _ _ _ _ => 2 - (intOf t).toNat)
          case atStart => exact ⟨0, by omega, rfl, H6.out.1, H6.out.2⟩
          case round =>
            obtain ⟨i, hi, rfl, hby, hfr⟩ := hrel
            obtain ⟨w7, hw7⟩ : ∃ wB, wB = wr := ⟨wr, rfl⟩
            subst hw7
            have hcv := bytes_back hby cp
            rw [HL2.out.1] at hcv
            try rw [hW0] at hcv
            have H8 := Lib.hid (And.intro hby hfr)
            clear hby hfr
            have hi3 : i = 0 ∨ i = 1 ∨ i = 2 := by omega
            rcases hi3 with rfl | rfl | rfl
            · have hX : l.length < 4294967281 := HL.out
              obtain ⟨r, hr⟩ : ∃ r, listsI l = r := ⟨_, rfl⟩
              have HSX := Lib.hid (fun W (hW : EnvC W) => show SplitRes l W r from by rw [← hr]; exact csplit_any l W hW hX)
              have HLX := Lib.hid (fun W => show ListRes l W r from by rw [← hr]; exact lists_any l W hX)
              unfold SplitRes at HSX
              unfold ListRes at HLX
              clear hr hX
              go_wp2_with fail
              refine (HSX.out _ (HE.out.fr (H8.out.2.alloc _))).mono ?_
              rintro e w9 ⟨A5, cap5, rfl, u1, u2, u3, hf9⟩
              have H9 := Lib.hid (And.intro u3 (And.intro (fr_two (H8.out.2.alloc _) hf9) ((H8.out.1.fr (Fr.alloc1 (fun _ => False) _ _)).fr hf9)))
              clear u3 hf9
              obtain ⟨js, hjs⟩ : ∃ js, r.getD [] = js := ⟨_, rfl⟩
              rw [hjs] at H9 HLX u1
              rw [hjs]
              clear hjs
              cases r with
              | none =>
                simp only [Option.isSome_none, Bool.false_eq_true, if_false] at HLX ⊢
                go_wp2_with fail
                refine (HLX.out _).mono ?_
                rintro e w10 ⟨A6, cap6, rfl, v1, v2, v3, hf10⟩
                have H10 := Lib.hid (And.intro (H9.out.1.fr hf10) (And.intro v3 (And.intro (fr_two H9.out.2.1 hf10) (H9.out.2.2.fr hf10))))
                clear v3 hf10
                have hsame := sameI_any js js A5 A6 cap5 cap6 w10 H10.out.1 u1 (by unfold maxLen at u2; omega) H10.out.2.1 v1 (by unfold maxLen at v2; omega)
                rw [sameB_eq rfl] at hsame
                have HSM := Lib.hid hsame
                clear hsame
                go_wp2_with fail
                refine HSM.out.mono ?_
                rintro e w11 ⟨rfl, hf11⟩
                have H11 := Lib.hid (And.intro (fr_two H10.out.2.2.1 hf11) (H10.out.2.2.2.fr hf11))
                clear hf11
                go_wp2_with fail
                go_roundw
                case rel => first | exact ⟨1, by omega, by go_num, H11.out.2, H11.out.1⟩ | exact ⟨_, _, _, _, _, _, _, _, _, _, _, _, _, _, _, _, _, _, _, _, _, _, _, _, _, _, _, _, _, _, _, _, _, _, _, _, _, _, _, _, _, _, _, _, _, _, ⟨1, by omega, by go_num, H11.out.2, H11.out.1⟩, rfl⟩
                case measure => simp [intOf]
              | some js0 =>
                simp only [Option.isSome_some, if_true] at HLX ⊢
                go_wp2_with fail
                refine (HLX.out _).mono ?_
                rintro e w10 ⟨A6, cap6, rfl, v1, v2, v3, hf10⟩
                have H10 := Lib.hid (And.intro (H9.out.1.fr hf10) (And.intro v3 (And.intro (fr_two H9.out.2.1 hf10) (H9.out.2.2.fr hf10))))
                clear v3 hf10
                have hsame := sameI_any js js A5 A6 cap5 cap6 w10 H10.out.1 u1 (by unfold maxLen at u2; omega) H10.out.2.1 v1 (by unfold maxLen at v2; omega)
                rw [sameB_eq rfl] at hsame
                have HSM := Lib.hid hsame
                clear hsame
                go_wp2_with fail
                refine HSM.out.mono ?_
                rintro e w11 ⟨rfl, hf11⟩
                have H11 := Lib.hid (And.intro (fr_two H10.out.2.2.1 hf11) (H10.out.2.2.2.fr hf11))
                clear hf11
                go_wp2_with fail
                go_roundw
                case rel => first | exact ⟨1, by omega, by go_num, H11.out.2, H11.out.1⟩ | exact ⟨_, _, _, _, _, _, _, _, _, _, _, _, _, _, _, _, _, _, _, _, _, _, _, _, _, _, _, _, _, _, _, _, _, _, _, _, _, _, _, _, _, _, _, _, _, _, ⟨1, by omega, by go_num, H11.out.2, H11.out.1⟩, rfl⟩
                case measure => simp [intOf]
            · have hX : L2.length < 4294967281 := (by have := HL2.out.2; omega)
              obtain ⟨r, hr⟩ : ∃ r, listsI L2 = r := ⟨_, rfl⟩
              have HSX := Lib.hid (fun W (hW : EnvC W) => show SplitRes L2 W r from by rw [← hr]; exact csplit_any L2 W hW hX)
              have HLX := Lib.hid (fun W => show ListRes L2 W r from by rw [← hr]; exact lists_any L2 W hX)
              unfold SplitRes at HSX
              unfold ListRes at HLX
              clear hr hX
              go_wp2_with fail
              refine (HSX.out _ (HE.out.fr (H8.out.2.alloc _))).mono ?_
              rintro e w9 ⟨A5, cap5, rfl, u1, u2, u3, hf9⟩
              have H9 := Lib.hid (And.intro u3 (And.intro (fr_two (H8.out.2.alloc _) hf9) ((H8.out.1.fr (Fr.alloc1 (fun _ => False) _ _)).fr hf9)))
              clear u3 hf9
              obtain ⟨js, hjs⟩ : ∃ js, r.getD [] = js := ⟨_, rfl⟩
              rw [hjs] at H9 HLX u1
              rw [hjs]
              clear hjs
              cases r with
              | none =>
                simp only [Option.isSome_none, Bool.false_eq_true, if_false] at HLX ⊢
                go_wp2_with fail
                refine (HLX.out _).mono ?_
                rintro e w10 ⟨A6, cap6, rfl, v1, v2, v3, hf10⟩
                have H10 := Lib.hid (And.intro (H9.out.1.fr hf10) (And.intro v3 (And.intro (fr_two H9.out.2.1 hf10) (H9.out.2.2.fr hf10))))
                clear v3 hf10
                have hsame := sameI_any js js A5 A6 cap5 cap6 w10 H10.out.1 u1 (by unfold maxLen at u2; omega) H10.out.2.1 v1 (by unfold maxLen at v2; omega)
                rw [sameB_eq rfl] at hsame
                have HSM := Lib.hid hsame
                clear hsame
                go_wp2_with fail
                refine HSM.out.mono ?_
                rintro e w11 ⟨rfl, hf11⟩
                have H11 := Lib.hid (And.intro (fr_two H10.out.2.2.1 hf11) (H10.out.2.2.2.fr hf11))
                clear hf11
                go_wp2_with fail
                go_roundw
                case rel => first | exact ⟨2, by omega, by go_num, H11.out.2, H11.out.1⟩ | exact ⟨_, _, _, _, _, _, _, _, _, _, _, _, _, _, _, _, _, _, _, _, _, _, _, _, _, _, _, _, _, _, _, _, _, _, _, _, _, _, _, _, _, _, _, _, _, _, ⟨2, by omega, by go_num, H11.out.2, H11.out.1⟩, rfl⟩
                case measure => simp [intOf]
              | some js0 =>
                simp only [Option.isSome_some, if_true] at HLX ⊢
                go_wp2_with fail
                refine (HLX.out _).mono ?_
                rintro e w10 ⟨A6, cap6, rfl, v1, v2, v3, hf10⟩
                have H10 := Lib.hid (And.intro (H9.out.1.fr hf10) (And.intro v3 (And.intro (fr_two H9.out.2.1 hf10) (H9.out.2.2.fr hf10))))
                clear v3 hf10
                have hsame := sameI_any js js A5 A6 cap5 cap6 w10 H10.out.1 u1 (by unfold maxLen at u2; omega) H10.out.2.1 v1 (by unfold maxLen at v2; omega)
                rw [sameB_eq rfl] at hsame
                have HSM := Lib.hid hsame
                clear hsame
                go_wp2_with fail
                refine HSM.out.mono ?_
                rintro e w11 ⟨rfl, hf11⟩
                have H11 := Lib.hid (And.intro (fr_two H10.out.2.2.1 hf11) (H10.out.2.2.2.fr hf11))
                clear hf11
                go_wp2_with fail
                go_roundw
                case rel => first | exact ⟨2, by omega, by go_num, H11.out.2, H11.out.1⟩ | exact ⟨_, _, _, _, _, _, _, _, _, _, _, _, _, _, _, _, _, _, _, _, _, _, _, _, _, _, _, _, _, _, _, _, _, _, _, _, _, _, _, _, _, _, _, _, _, _, ⟨2, by omega, by go_num, H11.out.2, H11.out.1⟩, rfl⟩
                case measure => simp [intOf]
            · have HA := Lib.hid H8.out.2
              go_wp2_with (go_at_call 30; refine (cawake_any _ (HE.out.fr HA.out)).mono ?_; rintro e w11 ⟨rfl, hf11⟩)
              go_ret
              exact ⟨rfl, fr_two HA.out hf11⟩
        · obtain ⟨M, hM, hMl⟩ := mask_nat at_ 65535 16 (by decide) (by decide)
          have hWl := H0.out.2.2
          have hW1 : (0 : Int) < WT.length := by omega
          have hJl : M % WT.length < WT.length := Nat.mod_lt _ (by omega)
          obtain ⟨J, hJ⟩ : ∃ J, M % WT.length = J := ⟨_, rfl⟩
          rw [hJ] at hJl
          have hJ' : (M : Int) % (WT.length : Int) = (J : Int) := by rw [← hJ]; omega
          have c0 := H5.out.2.1.cell J hJl
          have f0 := H5.out.2.1.frozen J hJl
          have hJ1 : (J : Int) < WT.length := by omega
          have hz : ((WT.length : Int) == 0) = false := beq_eq_false_iff_ne.2 (by omega)
          clear hJ
          obtain ⟨y, hy⟩ : ∃ y, bits .xor .u8 (WT[J].toNat : Int) by_ = y := ⟨_, rfl⟩
          have hy0 : 0 ≤ y := by rw [← hy]; exact bits_lo_u8 .xor _ _
          have hy1 : y ≤ 255 := by rw [← hy]; exact bits_hi_u8 .xor _ _
          obtain ⟨L2, hL2⟩ : ∃ L2, WT.set J (UInt8.ofNat y.toNat) = L2 := ⟨_, rfl⟩
          have HL2 := Lib.hid (show L2.length = WT.length ∧ L2.length ≤ 2200 from by rw [← hL2, List.length_set]; exact ⟨rfl, H0.out.2.2⟩)
          have H6 := Lib.hid (show BytesAt (w5.setCell ⟨g, J, none⟩ (.int .u8 y)) g L2 ∧ Fr (fun _ => False) w (w5.setCell ⟨g, J, none⟩ (.int .u8 y)) from by
            rw [← hL2]
            exact ⟨H5.out.2.1.turn hJl y hy0 hy1, H5.out.1.setCell (p := ⟨g, J, none⟩) (.inr (Nat.le_trans H5.out.2.2.2 H5.out.2.2.1)) _⟩)
          clear hL2 hy0 hy1
          go_wp2_with fail
          obtain ⟨w6, hw6⟩ : ∃ w6, w5.setCell ⟨g, J, none⟩ (.int .u8 y) = w6 := ⟨_, rfl⟩
          rw [hw6] at H6 ⊢
          obtain ⟨bb, hbb⟩ : ∃ b, decide (0 < WT.length) = b := ⟨_, rfl⟩
          rw [hbb, hJ']
          clear hw6 c0 f0 hconv hbb hJ' hW1 hJ1
          go_loopw [15, 16, 17, 18, 19, 20] (fun t _ _ _ _ _ wr => ∃ i : Nat, i ≤ 2 ∧ t = .int .i64 i ∧ BytesAt wr g L2 ∧ Fr (fun _ => False) w wr) (fun t _ _ _ _ _ _ => 2 - (intOf t).toNat)
          case atStart => exact ⟨0, by omega, rfl, H6.out.1, H6.out.2⟩
          case round =>
            obtain ⟨i, hi, rfl, hby, hfr⟩ := hrel
            obtain ⟨w7, hw7⟩ : ∃ wB, wB = wr := ⟨wr, rfl⟩
            subst hw7
            have hcv := bytes_back hby cp
            rw [HL2.out.1] at hcv
            try rw [hW0] at hcv
            have H8 := Lib.hid (And.intro hby hfr)
            clear hby hfr
            have hi3 : i = 0 ∨ i = 1 ∨ i = 2 := by omega
            rcases hi3 with rfl | rfl | rfl
            · have hX : l.length < 4294967281 := HL.out
              obtain ⟨r, hr⟩ : ∃ r, listsI l = r := ⟨_, rfl⟩
              have HSX := Lib.hid (fun W (hW : EnvC W) => show SplitRes l W r from by rw [← hr]; exact csplit_any l W hW hX)
              have HLX := Lib.hid (fun W => show ListRes l W r from by rw [← hr]; exact lists_any l W hX)
              unfold SplitRes at HSX
              unfold ListRes at HLX
              clear hr hX
              go_wp2_with fail
              refine (HSX.out _ (HE.out.fr (H8.out.2.alloc _))).mono ?_
              rintro e w9 ⟨A5, cap5, rfl, u1, u2, u3, hf9⟩
              have H9 := Lib.hid (And.intro u3 (And.intro (fr_two (H8.out.2.alloc _) hf9) ((H8.out.1.fr (Fr.alloc1 (fun _ => False) _ _)).fr hf9)))
              clear u3 hf9
              obtain ⟨js, hjs⟩ : ∃ js, r.getD [] = js := ⟨_, rfl⟩
              rw [hjs] at H9 HLX u1
              rw [hjs]
              clear hjs
              cases r with
              | none =>
                simp only [Option.isSome_none, Bool.false_eq_true, if_false] at HLX ⊢
                go_wp2_with fail
                refine (HLX.out _).mono ?_
                rintro e w10 ⟨A6, cap6, rfl, v1, v2, v3, hf10⟩
                have H10 := Lib.hid (And.intro (H9.out.1.fr hf10) (And.intro v3 (And.intro (fr_two H9.out.2.1 hf10) (H9.out.2.2.fr hf10))))
                clear v3 hf10
                have hsame := sameI_any js js A5 A6 cap5 cap6 w10 H10.out.1 u1 (by unfold maxLen at u2; omega) H10.out.2.1 v1 (by unfold maxLen at v2; omega)
                rw [sameB_eq rfl] at hsame
                have HSM := Lib.hid hsame
                clear hsame
                go_wp2_with fail
                refine HSM.out.mono ?_
                rintro e w11 ⟨rfl, hf11⟩
                have H11 := Lib.hid (And.intro (fr_two H10.out.2.2.1 hf11) (H10.out.2.2.2.fr hf11))
                clear hf11
                go_wp2_with fail
                go_roundw
                case rel => first | exact ⟨1, by omega, by go_num, H11.out.2, H11.out.1⟩ | exact ⟨_, _, _, _, _, _, _, _, _, _, _, _, _, _, _, _, _, _, _, _, _, _, _, _, _, _, _, _, _, _, _, _, _, _, _, _, _, _, _, _, _, _, _, _, _, _, ⟨1, by omega, by go_num, H11.out.2, H11.out.1⟩, rfl⟩
                case measure => simp [intOf]
              | some js0 =>
                simp only [Option.isSome_some, if_true] at HLX ⊢
                go_wp2_with fail
                refine (HLX.out _).mono ?_
                rintro e w10 ⟨A6, cap6, rfl, v1, v2, v3, hf10⟩
                have H10 := Lib.hid (And.intro (H9.out.1.fr hf10) (And.intro v3 (And.intro (fr_two H9.out.2.1 hf10) (H9.out.2.2.fr hf10))))
                clear v3 hf10
                have hsame := sameI_any js js A5 A6 cap5 cap6 w10 H10.out.1 u1 (by unfold maxLen at u2; omega) H10.out.2.1 v1 (by unfold maxLen at v2; omega)
                rw [sameB_eq rfl] at hsame
                have HSM := Lib.hid hsame
                clear hsame
                go_wp2_with fail
                refine HSM.out.mono ?_
                rintro e w11 ⟨rfl, hf11⟩
                have H11 := Lib.hid (And.intro (fr_two H10.out.2.2.1 hf11) (H10.out.2.2.2.fr hf11))
                clear hf11
                go_wp2_with fail
                go_roundw
                case rel => first | exact ⟨1, by omega, by go_num, H11.out.2, H11.out.1⟩ | exact ⟨_, _, _, _, _, _, _, _, _, _, _, _, _, _, _, _, _, _, _, _, _, _, _, _, _, _, _, _, _, _, _, _, _, _, _, _, _, _, _, _, _, _, _, _, _, _, ⟨1, by omega, by go_num, H11.out.2, H11.out.1⟩, rfl⟩
                case measure => simp [intOf]
            · have hX : L2.length < 4294967281 := (by have := HL2.out.2; omega)
              obtain ⟨r, hr⟩ : ∃ r, listsI L2 = r := ⟨_, rfl⟩
              have HSX := Lib.hid (fun W (hW : EnvC W) => show SplitRes L2 W r from by rw [← hr]; exact csplit_any L2 W hW hX)
              have HLX := Lib.hid (fun W => show ListRes L2 W r from by rw [← hr]; exact lists_any L2 W hX)
              unfold SplitRes at HSX
              unfold ListRes at HLX
              clear hr hX
              go_wp2_with fail
              refine (HSX.out _ (HE.out.fr (H8.out.2.alloc _))).mono ?_
              rintro e w9 ⟨A5, cap5, rfl, u1, u2, u3, hf9⟩
              have H9 := Lib.hid (And.intro u3 (And.intro (fr_two (H8.out.2.alloc _) hf9) ((H8.out.1.fr (Fr.alloc1 (fun _ => False) _ _)).fr hf9)))
              clear u3 hf9
              obtain ⟨js, hjs⟩ : ∃ js, r.getD [] = js := ⟨_, rfl⟩
              rw [hjs] at H9 HLX u1
              rw [hjs]
              clear hjs
              cases r with
              | none =>
                simp only [Option.isSome_none, Bool.false_eq_true, if_false] at HLX ⊢
                go_wp2_with fail
                refine (HLX.out _).mono ?_
                rintro e w10 ⟨A6, cap6, rfl, v1, v2, v3, hf10⟩
                have H10 := Lib.hid (And.intro (H9.out.1.fr hf10) (And.intro v3 (And.intro (fr_two H9.out.2.1 hf10) (H9.out.2.2.fr hf10))))
                clear v3 hf10
                have hsame := sameI_any js js A5 A6 cap5 cap6 w10 H10.out.1 u1 (by unfold maxLen at u2; omega) H10.out.2.1 v1 (by unfold maxLen at v2; omega)
                rw [sameB_eq rfl] at hsame
                have HSM := Lib.hid hsame
                clear hsame
                go_wp2_with fail
                refine HSM.out.mono ?_
                rintro e w11 ⟨rfl, hf11⟩
                have H11 := Lib.hid (And.intro (fr_two H10.out.2.2.1 hf11) (H10.out.2.2.2.fr hf11))
                clear hf11
                go_wp2_with fail
                go_roundw
                case rel => first | exact ⟨2, by omega, by go_num, H11.out.2, H11.out.1⟩ | exact ⟨_, _, _, _, _, _, _, _, _, _, _, _, _, _, _, _, _, _, _, _, _, _, _, _, _, _, _, _, _, _, _, _, _, _, _, _, _, _, _, _, _, _, _, _, _, _, ⟨2, by omega, by go_num, H11.out.2, H11.out.1⟩, rfl⟩
                case measure => simp [intOf]
              | some js0 =>
                simp only [Option.isSome_some, if_true] at HLX ⊢
                go_wp2_with fail
                refine (HLX.out _).mono ?_
                rintro e w10 ⟨A6, cap6, rfl, v1, v2, v3, hf10⟩
                have H10 := Lib.hid (And.intro (H9.out.1.fr hf10) (And.intro v3 (And.intro (fr_two H9.out.2.1 hf10) (H9.out.2.2.fr hf10))))
                clear v3 hf10
                have hsame := sameI_any js js A5 A6 cap5 cap6 w10 H10.out.1 u1 (by unfold maxLen at u2; omega) H10.out.2.1 v1 (by unfold maxLen at v2; omega)
                rw [sameB_eq rfl] at hsame
                have HSM := Lib.hid hsame
                clear hsame
                go_wp2_with fail
                refine HSM.out.mono ?_
                rintro e w11 ⟨rfl, hf11⟩
                have H11 := Lib.hid (And.intro (fr_two H10.out.2.2.1 hf11) (H10.out.2.2.2.fr hf11))
                clear hf11
                go_wp2_with fail
                go_roundw
                case rel => first | exact ⟨2, by omega, by go_num, H11.out.2, H11.out.1⟩ | exact ⟨_, _, _, _, _, _, _, _, _, _, _, _, _, _, _, _, _, _, _, _, _, _, _, _, _, _, _, _, _, _, _, _, _, _, _, _, _, _, _, _, _, _, _, _, _, _, ⟨2, by omega, by go_num, H11.out.2, H11.out.1⟩, rfl⟩
                case measure => simp [intOf]
            · have HA := Lib.hid H8.out.2
              go_wp2_with (go_at_call 30; refine (cawake_any _ (HE.out.fr HA.out)).mono ?_; rintro e w11 ⟨rfl, hf11⟩)
              go_ret
              exact ⟨rfl, fr_two HA.out hf11⟩
end Go.Proofs.YtadnbkjjdkgfiaaDoor
