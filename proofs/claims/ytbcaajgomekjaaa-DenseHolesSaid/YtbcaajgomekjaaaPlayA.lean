/-
  The law DensePlays: one call of both.
-/
import Derived.Test.YtbcaajgomekjaaaTabC
import Derived.Deep.QuietTactic
import Derived.BigQuiet
namespace Go.Proofs.Ytbcaajgomekjaaa
open Go.RowKit Go.Maps Go.Viv

theorem quiet_left {P : Program} {f : FuncId} {args : Array Value} {w : World} {n : Nat} {v : Value}
    (h : Calls P f args (w.drewN n) fun e w' => e = .returned v ∧ w.drewN n = w') : Calls P f args (w.drewN n) fun e w'' => e = .returned v ∧ ∃ m, w'' = w.drewN m :=
  h.mono fun _ _ ⟨he, hm⟩ => ⟨he, n, hm.symm⟩

/-- A Dense and a Table of the same rows, apart from each other, made since w0. -/
structure Both (w0 w : World) (p q : Nat) (rs : List (Int × Val)) (S T : Nat → Prop) : Prop where
  den : DenseIs w p rs S
  tab : TableIs w q rs T
  apart : ∀ k, S k → ¬ T k
  fr : Fr (fun _ => False) w0 w
  sup : ∀ k, S k → w0.heap.size ≤ k
  tup : ∀ k, T k → w0.heap.size ≤ k
  slt : ∀ k, S k → k < w.heap.size
  tlt : ∀ k, T k → k < w.heap.size

theorem Both.still {w0 w w' : World} {p q : Nat} {rs : List (Int × Val)} {S T : Nat → Prop} (h : Both w0 w p q rs S T) (hf : Fr (fun _ => False) w w') : Both w0 w' p q rs S T :=
  ⟨h.den.keep hf (fun _ _ h => h), h.tab.keep hf (fun _ _ h => h), h.apart, fr_no h.fr hf, h.sup, h.tup, fun k hk => Nat.lt_of_lt_of_le (h.slt k hk) hf.size, fun k hk => Nat.lt_of_lt_of_le (h.tlt k hk) hf.size⟩

/-- The value in the cells of a local, in no footprint. -/
structure LocN (w : World) (S T : Nat → Prop) (L : Nat) (t : TypeId) (cs : Array Value) : Prop where
  blk : Blk w L t cs
  s : ¬ S L
  t : ¬ T L

/-- One step of both: what is true of the world behind it. -/
structure Step (w w' : World) (S T S' T' : Nat → Prop) : Prop where
  fr : Fr (fun k => S k ∨ T k) w w'
  s : ∀ k, S' k → S k ∨ w.heap.size ≤ k
  t : ∀ k, T' k → T k ∨ w.heap.size ≤ k

theorem Step.loc {w w' : World} {S T S' T' : Nat → Prop} {L : Nat} {t : TypeId} {cs : Array Value} (h : Step w w' S T S' T') (hl : LocN w S T L t cs) : LocN w' S' T' L t cs :=
  ⟨hl.blk.fr h.fr (fun hh => by rcases hh with hh | hh; exact hl.s hh; exact hl.t hh), fun hh => by
    rcases h.s _ hh with h1 | h1
    · exact hl.s h1
    · have := hl.blk.lt; omega, fun hh => by
    rcases h.t _ hh with h1 | h1
    · exact hl.t h1
    · have := hl.blk.lt; omega⟩
theorem Step.trans {a b c : World} {S T S' T' S'' T'' : Nat → Prop} (h : Step a b S T S' T') (k : Step b c S' T' S'' T'') : Step a c S T S'' T'' :=
  ⟨h.fr.trans k.fr (fun i hi => by
    rcases hi with hi | hi
    · rcases h.s _ hi with h1 | h1
      · exact .inl (.inl h1)
      · exact .inr h1
    · rcases h.t _ hi with h1 | h1
      · exact .inl (.inr h1)
      · exact .inr h1), fun i hi => by
    rcases k.s _ hi with h1 | h1
    · exact h.s _ h1
    · exact .inr (Nat.le_trans h.fr.size h1), fun i hi => by
    rcases k.t _ hi with h1 | h1
    · exact h.t _ h1
    · exact .inr (Nat.le_trans h.fr.size h1)⟩
theorem Step.still {w w' : World} {S T : Nat → Prop} (hf : Fr (fun _ => False) w w') : Step w w' S T S T :=
  ⟨hf.mono (fun _ _ h => h.elim), fun _ h => .inl h, fun _ h => .inl h⟩

/-- The Dense has changed. -/
theorem Both.dstep {w0 w w' : World} {p q : Nat} {rs rs' : List (Int × Val)} {S T S' : Nat → Prop} (h : Both w0 w p q rs S T) (hd : DenseIs w' p rs' S') (hf : Fr S w w') (hs : ∀ k, S' k → S k ∨ (w.heap.size ≤ k ∧ k < w'.heap.size)) :
    (DenseIs w' p rs' S' ∧ TableIs w' q rs T ∧ (∀ k, S' k → ¬ T k) ∧ Fr (fun _ => False) w0 w' ∧ (∀ k, S' k → w0.heap.size ≤ k) ∧ (∀ k, T k → w0.heap.size ≤ k) ∧ (∀ k, S' k → k < w'.heap.size) ∧ (∀ k, T k → k < w'.heap.size)) ∧ Step w w' S T S' T := by
  refine ⟨⟨hd, h.tab.keep hf (fun k hk hs => h.apart k hs hk), fun k hk ht => ?_, h.fr.trans hf (fun k hk => .inr (h.sup k hk)), fun k hk => ?_, h.tup, fun k hk => ?_, fun k hk => Nat.lt_of_lt_of_le (h.tlt k hk) hf.size⟩, hf.mono (fun _ _ h => .inl h), fun k hk => ?_, fun k hk => .inl hk⟩
  · rcases hs k hk with h1 | h1
    · exact h.apart k h1 ht
    · have := h.tlt k ht; omega
  · rcases hs k hk with h1 | h1
    · exact h.sup k h1
    · exact Nat.le_trans h.fr.size h1.1
  · rcases hs k hk with h1 | h1
    · exact Nat.lt_of_lt_of_le (h.slt k h1) hf.size
    · exact h1.2
  · rcases hs k hk with h1 | h1
    · exact .inl h1
    · exact .inr h1.1

/-- A Dense of rows rs', a Table of rows rs: between the two calls. -/
structure Half (w0 w : World) (p q : Nat) (rs' rs : List (Int × Val)) (S T : Nat → Prop) : Prop where
  den : DenseIs w p rs' S
  tab : TableIs w q rs T
  apart : ∀ k, S k → ¬ T k
  fr : Fr (fun _ => False) w0 w
  sup : ∀ k, S k → w0.heap.size ≤ k
  tup : ∀ k, T k → w0.heap.size ≤ k
  slt : ∀ k, S k → k < w.heap.size
  tlt : ∀ k, T k → k < w.heap.size

theorem Both.half {w0 w w' : World} {p q : Nat} {rs rs' : List (Int × Val)} {S T S' : Nat → Prop} (h : Both w0 w p q rs S T) (hd : DenseIs w' p rs' S') (hf : Fr S w w') (hs : ∀ k, S' k → S k ∨ (w.heap.size ≤ k ∧ k < w'.heap.size)) :
    Half w0 w' p q rs' rs S' T ∧ Step w w' S T S' T := by
  obtain ⟨⟨a, b, c, d, e, f, g, i⟩, st⟩ := h.dstep hd hf hs
  exact ⟨⟨a, b, c, d, e, f, g, i⟩, st⟩
theorem Half.still {w0 w w' : World} {p q : Nat} {rs rs' : List (Int × Val)} {S T : Nat → Prop} (h : Half w0 w p q rs' rs S T) (hf : Fr (fun _ => False) w w') : Half w0 w' p q rs' rs S T :=
  ⟨h.den.keep hf (fun _ _ h => h), h.tab.keep hf (fun _ _ h => h), h.apart, fr_no h.fr hf, h.sup, h.tup, fun k hk => Nat.lt_of_lt_of_le (h.slt k hk) hf.size, fun k hk => Nat.lt_of_lt_of_le (h.tlt k hk) hf.size⟩
theorem Half.whole {w0 w w' : World} {p q : Nat} {rs rs' : List (Int × Val)} {S T T' : Nat → Prop} (h : Half w0 w p q rs' rs S T) (hd : TableIs w' q rs' T') (hf : Fr T w w') (hs : ∀ k, T' k → T k ∨ (w.heap.size ≤ k ∧ k < w'.heap.size)) :
    Both w0 w' p q rs' S T' ∧ Step w w' S T S T' := by
  refine ⟨⟨h.den.keep hf (fun k hk ht => h.apart k hk ht), hd, fun k hk ht => ?_, h.fr.trans hf (fun k hk => .inr (h.tup k hk)), h.sup, fun k hk => ?_, fun k hk => Nat.lt_of_lt_of_le (h.slt k hk) hf.size, fun k hk => ?_⟩, hf.mono (fun _ _ h => .inr h), fun k hk => .inl hk, fun k hk => ?_⟩
  · rcases hs k ht with h1 | h1
    · exact h.apart k hk h1
    · have := h.slt k hk; omega
  · rcases hs k hk with h1 | h1
    · exact h.tup k h1
    · exact Nat.le_trans h.fr.size h1.1
  · rcases hs k hk with h1 | h1
    · exact Nat.lt_of_lt_of_le (h.tlt k h1) hf.size
    · exact h1.2
  · rcases hs k hk with h1 | h1
    · exact .inl h1
    · exact .inr h1.1

/-- The six calls, as they serve here: first the Dense's, then the Table's. -/
theorem bput {w0 w : World} {p q : Nat} {rs : List (Int × Val)} {S T : Nat → Prop} (h : Both w0 w p q rs S T) (i : Int) (v : Val) (hi : (Lit.int .i64 i).wf = true) :
    Calls Try.prog 8 #[.pointer (some ⟨p, 0, none⟩), .int .i64 i, v.agg] w fun e w' => e = .returned (.tuple #[(getV rs i).agg, .bool (hasV rs i)]) ∧ ∃ S', Half w0 w' p q (putV rs i v) rs S' T ∧ Step w w' S T S' T :=
  (put_any p i v rs S w h.den hi).mono fun e w' ⟨he, hd, hf⟩ => ⟨he, _, h.half hd hf (fun _ h => h)⟩
theorem btake {w0 w : World} {p q : Nat} {rs : List (Int × Val)} {S T : Nat → Prop} (h : Both w0 w p q rs S T) (i : Int) (hi : (Lit.int .i64 i).wf = true) :
    Calls Try.prog 12 #[.pointer (some ⟨p, 0, none⟩), .int .i64 i] w fun e w' => e = .returned (.tuple #[(getV rs i).agg, .bool (hasV rs i)]) ∧ ∃ S', Half w0 w' p q (takeV rs i) rs S' T ∧ Step w w' S T S' T :=
  (take_any p i rs S w h.den hi).mono fun e w' ⟨he, hd, hf⟩ => ⟨he, _, h.half hd hf (fun _ h => .inl h)⟩
theorem bget {w0 w : World} {p q : Nat} {rs : List (Int × Val)} {S T : Nat → Prop} (h : Both w0 w p q rs S T) (i : Int) (hi : (Lit.int .i64 i).wf = true) :
    Calls Try.prog 9 #[.pointer (some ⟨p, 0, none⟩), .int .i64 i] w fun e w' => e = .returned (.tuple #[(getV rs i).agg, .bool (hasV rs i)]) ∧ ∃ S', Half w0 w' p q rs rs S' T ∧ Step w w' S T S' T :=
  (get_any p i rs S w h.den hi).mono fun e w' ⟨he, hf⟩ => ⟨he, S, h.half (h.den.keep hf (fun _ _ h => h)) (hf.mono (fun _ _ h => h.elim)) (fun _ h => .inl h)⟩
theorem hput {w0 w : World} {p q : Nat} {rs : List (Int × Val)} {S T : Nat → Prop} (i : Int) (v : Val) (h : Half w0 w p q (putV rs i v) rs S T) :
    Calls Try.prog 16 #[.pointer (some ⟨q, 0, none⟩), .int .i64 i, v.agg] w fun e w' => e = .returned (.tuple #[(getV rs i).agg, .bool (hasV rs i)]) ∧ ∃ T', Both w0 w' p q (putV rs i v) S T' ∧ Step w w' S T S T' :=
  (tput_any q i v rs T w h.tab).mono fun e w' ⟨he, hd, hf⟩ => ⟨he, _, h.whole hd hf (fun _ h => h)⟩
theorem htake {w0 w : World} {p q : Nat} {rs : List (Int × Val)} {S T : Nat → Prop} (i : Int) (h : Half w0 w p q (takeV rs i) rs S T) :
    Calls Try.prog 17 #[.pointer (some ⟨q, 0, none⟩), .int .i64 i] w fun e w' => e = .returned (.tuple #[(getV rs i).agg, .bool (hasV rs i)]) ∧ ∃ T', Both w0 w' p q (takeV rs i) S T' ∧ Step w w' S T S T' :=
  (ttake_any q i rs T w h.tab).mono fun e w' ⟨he, hd, hf⟩ => ⟨he, _, h.whole hd hf (fun _ h => .inl h)⟩
theorem hget {w0 w : World} {p q : Nat} {rs : List (Int × Val)} {S T : Nat → Prop} (i : Int) (h : Half w0 w p q rs rs S T) :
    Calls Try.prog 18 #[.pointer (some ⟨q, 0, none⟩), .int .i64 i] w fun e w' => e = .returned (.tuple #[(getV rs i).agg, .bool (hasV rs i)]) ∧ ∃ T', Both w0 w' p q rs S T' ∧ Step w w' S T S T' :=
  (tget_any q i rs T w h.tab).mono fun e w' ⟨he, hf⟩ => ⟨he, T, h.whole (h.tab.keep hf (fun _ _ h => h)) (hf.mono (fun _ _ h => h.elim)) (fun _ h => .inl h)⟩
end Go.Proofs.Ytbcaajgomekjaaa
