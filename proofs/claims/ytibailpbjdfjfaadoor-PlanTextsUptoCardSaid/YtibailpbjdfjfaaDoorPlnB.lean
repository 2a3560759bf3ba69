/-
  Plans that may be, one column more, and plans made of numbers. No program in sight.
-/
import Derived.Test.YtibailpbjdfjfaaDoorPlnA
namespace Go.Viv
open Go.Lib
theorem colsE_yes {n : Int} {a r : List Coln} {x : Coln} (h : colE n x a = 0) : colsE n a (x :: r) = colsE n (a ++ [x]) r := by rw [colsE, if_pos h]
theorem colsE_no {n : Int} {a r : List Coln} {x : Coln} (h : colE n x a ≠ 0) : colsE n a (x :: r) = colE n x a := by rw [colsE, if_neg h]
theorem colsE_snoc (n : Int) : ∀ (l a : List Coln) (y : Coln), colsE n a (l ++ [y]) = if colsE n a l = 0 then colE n y (a ++ l) else colsE n a l
  | [], a, y => by
    rw [List.nil_append, List.append_nil]
    by_cases h : colE n y a = 0
    · rw [colsE_yes h, h]; rfl
    · rw [colsE_no h]; rfl
  | x :: r, a, y => by
    have ih := colsE_snoc n r (a ++ [x]) y
    rw [List.cons_append]
    by_cases h : colE n x a = 0
    · rw [colsE_yes h, colsE_yes h, ih]
      simp
    · rw [colsE_no h, colsE_no h, if_neg h]
/-- As far as k columns none has a fault. -/
theorem colsE_take {n : Int} {l : List Coln} {k : Nat} (hk : k < l.length) (h : colsE n [] (l.take k) = 0) : colsE n [] (l.take (k + 1)) = colE n l[k] (l.take k) := by
  rw [List.take_succ_eq_append_getElem hk, colsE_snoc, if_pos h]
  simp
theorem colsE_stop (n : Int) : ∀ (l m a : List Coln), colsE n a l ≠ 0 → colsE n a (l ++ m) = colsE n a l
  | [], m, a, h => absurd rfl h
  | x :: r, m, a, h => by
    rw [List.cons_append]
    by_cases hx : colE n x a = 0
    · rw [colsE_yes hx] at h
      rw [colsE_yes hx, colsE_yes hx]
      exact colsE_stop n r m _ h
    · rw [colsE_no hx, colsE_no hx]
theorem colsE_at {n : Int} {l : List Coln} {k : Nat} (hk : k < l.length) (h : colsE n [] (l.take k) = 0) (hne : colE n l[k] (l.take k) ≠ 0) : colsE n [] l = colE n l[k] (l.take k) := by
  have h1 := colsE_take hk h
  have h2 := colsE_stop n (l.take (k + 1)) (l.drop (k + 1)) [] (by rw [h1]; exact hne)
  rw [List.take_append_drop, h1] at h2
  exact h2
theorem planE_many {n : Int} {l : List Coln} (h : 16 < l.length) : planE n l = 2 := by unfold planE; rw [if_pos h]
theorem planE_fault {n : Int} {l : List Coln} (h : l.length ≤ 16) (h1 : colsE n [] l ≠ 0) : planE n l = colsE n [] l := by
  unfold planE
  rw [if_neg (by omega), if_pos h1]
theorem planE_asks {n : Int} {l : List Coln} (h : l.length ≤ 16) (h1 : colsE n [] l = 0) : planE n l = if l.any askB then 0 else 1 := by
  unfold planE
  rw [if_neg (by omega), if_neg (by simp [h1])]
theorem colE_mono {n m : Int} (hm : n ≤ m) {y : Coln} {a : List Coln} (h : colE n y a = 0) : colE m y a = 0 := by
  unfold colE at h ⊢
  split at h
  · cases h
  · rename_i h1
    rw [if_neg h1]
    split at h
    · cases h
    · rename_i h2
      rw [if_neg (by omega)]
      exact h
theorem colsE_mono {n m : Int} (hm : n ≤ m) : ∀ (l a : List Coln), colsE n a l = 0 → colsE m a l = 0
  | [], _, _ => rfl
  | y :: r, a, h => by
    by_cases h1 : colE n y a = 0
    · rw [colsE_yes h1] at h
      rw [colsE_yes (colE_mono hm h1)]
      exact colsE_mono hm r _ h
    · rw [colsE_no h1] at h
      exact absurd h h1
/-- A plan that may be, of components below a bound: what Tame makes. -/
structure Tame17 (m : Int) (p : List Coln) : Prop where
  len : p.length ≤ 7
  pos : 0 < p.length
  each : ∀ x ∈ p, (1 ≤ x.k ∧ x.k ≤ 4 ∧ 0 ≤ x.c ∧ x.c < m ∧ x.c < 64) ∨ (x.k = 5 ∧ x.c = 0)
  none : colsE m [] p = 0
  asks : p.any askB = true
theorem Tame17.may {m n : Int} {p : List Coln} (h : Tame17 m p) (hn : m ≤ n) : planE n p = 0 := by
  rw [planE_asks (by have := h.len; omega) (colsE_mono hn _ _ h.none), h.asks]
  rfl
theorem Tame17.told {m : Int} {p : List Coln} (h : Tame17 m p) : ∀ x ∈ p, Told x := fun x hx => by
  rcases h.each x hx with ⟨h1, h2, h3, h4, h5⟩ | ⟨h1, h2⟩
  · exact ⟨by omega, by omega, by omega, by omega, by omega⟩
  · exact ⟨by omega, by omega, by omega, by omega, fun _ => h2⟩
theorem Tame17.twice {m n : Int} {p : List Coln} (h : Tame17 m p) (hn : m ≤ n) {x : Coln} (hx : x ∈ p) {k : Int} (hk : 1 ≤ k ∧ k ≤ 4) : planE n (p ++ [if x.k = 5 then x else ⟨k, x.c⟩]) = 15 := by
  have hc : colE n (if x.k = 5 then x else ⟨k, x.c⟩) p = 15 := by
    rcases h.each x hx with ⟨h1, h2, h3, h4, h5⟩ | ⟨h1, h2⟩
    · rw [if_neg (by omega)]
      unfold colE
      simp only
      rw [if_neg (by omega), if_neg (by omega), if_pos]
      refine List.any_eq_true.2 ⟨x, hx, ?_⟩
      unfold twiceB
      rw [show (x.k == 5) = false from beq_eq_false_iff_ne.2 (by omega), show (k == 5) = false from beq_eq_false_iff_ne.2 (by omega)]
      simp
    · rw [if_pos h1]
      unfold colE
      rw [if_neg (by omega), if_neg (by omega), if_pos]
      refine List.any_eq_true.2 ⟨x, hx, ?_⟩
      unfold twiceB
      simp
  have hs : colsE n [] (p ++ [if x.k = 5 then x else ⟨k, x.c⟩]) = 15 := by
    rw [colsE_snoc, if_pos (colsE_mono hn _ _ h.none)]
    exact hc
  rw [planE_fault (by have := h.len; simp; omega) (by rw [hs]; decide), hs]
theorem colE_ent (n : Int) (p : List Coln) (hp : ∀ x ∈ p, x.k = 5 → x.c = 0) : colE n ⟨5, 0⟩ p = if p.any (fun x => x.k == 5) then 15 else 0 := by
  unfold colE
  simp only
  rw [if_neg (by omega), if_neg (by omega)]
  have e : p.any (fun x => twiceB x ⟨5, 0⟩) = p.any (fun x => x.k == 5) := by
    rw [Bool.eq_iff_iff, List.any_eq_true, List.any_eq_true]
    constructor
    · rintro ⟨x, hx, h⟩
      refine ⟨x, hx, ?_⟩
      unfold twiceB at h
      simp at h
      simp [h.1]
    · rintro ⟨x, hx, h⟩
      refine ⟨x, hx, ?_⟩
      have h5 : x.k = 5 := by simpa using h
      unfold twiceB
      simp [h5, hp x hx h5]
  rw [e]
theorem Tame17.fives {m : Int} {p : List Coln} (h : Tame17 m p) : ∀ x ∈ p, x.k = 5 → x.c = 0 := fun x hx h5 => by
  rcases h.each x hx with ⟨h1, h2, h3, h4, h6⟩ | ⟨_, h2⟩
  · omega
  · exact h2
theorem Tame17.ent {m n : Int} {p : List Coln} (h : Tame17 m p) (hn : m ≤ n) : planE n (p ++ [⟨5, 0⟩]) = if p.any (fun x => x.k == 5) then 15 else 0 := by
  have hs : colsE n [] (p ++ [⟨5, 0⟩]) = if p.any (fun x => x.k == 5) then 15 else 0 := by
    rw [colsE_snoc, if_pos (colsE_mono hn _ _ h.none)]
    exact colE_ent n p h.fives
  by_cases hf : p.any (fun x => x.k == 5) = true
  · rw [if_pos hf] at hs ⊢
    rw [planE_fault (by have := h.len; simp; omega) (by rw [hs]; decide), hs]
  · rw [if_neg hf] at hs ⊢
    rw [planE_asks (by have := h.len; simp; omega) hs, if_pos (by simp [askB])]
theorem Tame17.ents {m n : Int} {p : List Coln} (h : Tame17 m p) (hn : m ≤ n) : planE n (p ++ [⟨5, 0⟩] ++ [⟨5, 0⟩]) = 15 := by
  have hs : colsE n [] (p ++ [⟨5, 0⟩] ++ [⟨5, 0⟩]) = 15 := by
    rw [colsE_snoc]
    by_cases hf : p.any (fun x => x.k == 5) = true
    · have h1 : colsE n [] (p ++ [⟨5, 0⟩]) = 15 := by
        rw [colsE_snoc, if_pos (colsE_mono hn _ _ h.none)]
        show colE n ⟨5, 0⟩ p = 15
        rw [colE_ent n p h.fives, if_pos hf]
      rw [if_neg (by rw [h1]; decide), h1]
    · have h1 : colsE n [] (p ++ [⟨5, 0⟩]) = 0 := by
        rw [colsE_snoc, if_pos (colsE_mono hn _ _ h.none)]
        show colE n ⟨5, 0⟩ p = 0
        rw [colE_ent n p h.fives, if_neg hf]
      rw [if_pos h1, List.nil_append, colE_ent n _ (fun x hx h5 => by
        rcases List.mem_append.1 hx with hx | hx
        · exact h.fives x hx h5
        · rw [List.mem_singleton.1 hx]), if_pos (by simp)]
  rw [planE_fault (by have := h.len; simp; omega) (by rw [hs]; decide), hs]
/-- What Tame has made so far. -/
structure TameAt (m : Int) (q : Nat) (ds : List Coln) : Prop where
  len : ds.length ≤ q
  each : ∀ x ∈ ds, 1 ≤ x.k ∧ x.k ≤ 4 ∧ 0 ≤ x.c ∧ x.c < m ∧ x.c < 64
  none : colsE m [] ds = 0
theorem TameAt.nil (m : Int) : TameAt m 0 [] := ⟨by simp, by simp, rfl⟩
theorem TameAt.more {m : Int} {q : Nat} {ds : List Coln} (h : TameAt m q ds) : TameAt m (q + 1) ds := ⟨by have := h.len; omega, h.each, h.none⟩
theorem TameAt.snoc {m : Int} {q : Nat} {ds : List Coln} (h : TameAt m q ds) {y : Coln} (hy : 1 ≤ y.k ∧ y.k ≤ 4 ∧ 0 ≤ y.c ∧ y.c < m ∧ y.c < 64) (hn : ∀ x ∈ ds, x.c ≠ y.c) : TameAt m (q + 1) (ds ++ [y]) := by
  refine ⟨by have := h.len; simp; omega, fun x hx => ?_, ?_⟩
  · rcases List.mem_append.1 hx with hx | hx
    · exact h.each x hx
    · rw [List.mem_singleton.1 hx]; exact hy
  · rw [colsE_snoc, if_pos h.none]
    unfold colE
    rw [if_neg (by omega), if_neg (by omega), if_neg]
    intro ha
    obtain ⟨x, hx, ht⟩ := List.any_eq_true.1 ha
    unfold twiceB at ht
    simp at ht
    exact hn x (by simpa using hx) ht.2
def rwB (x : Coln) : Bool := x.k == 1 || x.k == 2
theorem TameAt.done {m : Int} {q : Nat} {ds : List Coln} (h : TameAt m q ds) (hq : q ≤ 6) (hs : ds.any rwB = true) : Tame17 m ds := by
  have ha : ds.any askB = true := by
    obtain ⟨x, hx, hr⟩ := List.any_eq_true.1 hs
    refine List.any_eq_true.2 ⟨x, hx, ?_⟩
    unfold rwB at hr
    unfold askB
    simp at hr ⊢
    exact .inl hr
  refine ⟨by have := h.len; omega, ?_, fun x hx => .inl (h.each x hx), h.none, ha⟩
  cases ds with
  | nil => simp at hs
  | cons x r => simp
theorem TameAt.ent {m : Int} {q : Nat} {ds : List Coln} (h : TameAt m q ds) (hq : q ≤ 6) : Tame17 m (ds ++ [⟨5, 0⟩]) := by
  refine ⟨by have := h.len; simp; omega, by simp, fun x hx => ?_, ?_, by simp [askB]⟩
  · rcases List.mem_append.1 hx with hx | hx
    · exact .inl (h.each x hx)
    · rw [List.mem_singleton.1 hx]; exact .inr ⟨rfl, rfl⟩
  · rw [colsE_snoc, if_pos h.none]
    show colE m ⟨5, 0⟩ ds = 0
    rw [colE_ent m ds (fun x hx h5 => by have := h.each x hx; omega), if_neg]
    intro ha
    obtain ⟨x, hx, ht⟩ := List.any_eq_true.1 ha
    have := h.each x hx
    have : x.k = 5 := by simpa using ht
    omega
end Go.Viv
