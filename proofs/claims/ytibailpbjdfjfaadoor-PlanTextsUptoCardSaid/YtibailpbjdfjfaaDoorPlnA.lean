/-
  Columns of plans, their texts, and which plans may be. No program in sight.
-/
import Derived.Test.YtibailpbjdfjfaaDoorNum
import Derived.Test.YtibailpbjdfjfaaDoorWords
import Derived.Test.YtibailpbjdfjfaaDoorInts
namespace Go.Viv
open Go.Lib
/-- A column: its kind, its component. -/
structure Coln where
  k : Int
  c : Int
deriving DecidableEq
abbrev Coln.agg (x : Coln) : Value := .agg #[.int .i64 x.k, .int .i64 x.c]
def cellsK (x : Coln) : List Value := [.int .i64 x.k, .int .i64 x.c]
/-- The letter of a kind. -/
def letK (k : Int) : UInt8 := if k = 1 then 114 else if k = 2 then 119 else if k = 3 then 109 else 110
/-- A column's text. -/
def textK (x : Coln) : List UInt8 := if x.k < 1 ∨ 5 < x.k ∨ x.c < 0 then [] else if x.k = 5 then [101] else letK x.k :: itoa x.c
def textP (l : List Coln) : List UInt8 := join (l.map textK) [32]
/-- The kind of a letter; nought: it is none. -/
def kindL (c : UInt8) : Int := if c = 114 then 1 else if c = 119 then 2 else if c = 109 then 3 else if c = 110 then 4 else 0
/-- A text's column. -/
def colP : List UInt8 → Option Coln
  | [] => none
  | c :: d => if c = 101 then (if d = [] then some ⟨5, 0⟩ else none) else if kindL c = 0 ∨ 3 < d.length then none else match num d with
    | some n => if n < 0 then none else some ⟨kindL c, n⟩
    | none => none
theorem colP_cons (c : UInt8) (d : List UInt8) : colP (c :: d) = if c = 101 then (if d = [] then some ⟨5, 0⟩ else none) else if kindL c = 0 ∨ 3 < d.length then none else match num d with
    | some n => if n < 0 then none else some ⟨kindL c, n⟩
    | none => none := rfl
theorem kindL_in (c : UInt8) : kindL c = 0 ∨ (1 ≤ kindL c ∧ kindL c ≤ 4 ∧ letK (kindL c) = c) := by
  unfold kindL
  split
  · rename_i h; subst h; exact .inr (by decide)
  · split
    · rename_i h; subst h; exact .inr (by decide)
    · split
      · rename_i h; subst h; exact .inr (by decide)
      · split
        · rename_i h; subst h; exact .inr (by decide)
        · exact .inl rfl
theorem kindL_let {k : Int} (h1 : 1 ≤ k) (h4 : k ≤ 4) : kindL (letK k) = k ∧ letK k ≠ 101 := by
  have : k = 1 ∨ k = 2 ∨ k = 3 ∨ k = 4 := by omega
  rcases this with rfl | rfl | rfl | rfl <;> decide
/-- What is read is told again. -/
theorem colP_text {l : List UInt8} {x : Coln} (h : colP l = some x) : textK x = l ∧ l.length ≤ 4 ∧ l ≠ [] ∧ 1 ≤ x.k ∧ x.k ≤ 5 ∧ 0 ≤ x.c ∧ inI x.c := by
  cases l with
  | nil => cases h
  | cons c d =>
    rw [colP_cons] at h
    split at h
    · rename_i hc
      split at h
      · rename_i hd
        injection h with h
        subst h hc hd
        exact ⟨by simp [textK], by simp, by simp, by simp, by simp, by simp, by simp [inI]⟩
      · cases h
    · split at h
      · cases h
      · rename_i hk
        split at h
        · rename_i n hn
          split at h
          · cases h
          · rename_i h0
            injection h with h
            subst h
            obtain ⟨e1, e2⟩ := num_some hn
            rcases kindL_in c with e | ⟨g1, g4, gl⟩
            · exact absurd (.inl e) hk
            · refine ⟨?_, by simp; omega, by simp, g1, by show kindL c ≤ 5; omega, by show 0 ≤ n; omega, e2⟩
              unfold textK
              rw [if_neg (by simp; omega), if_neg (by simp; omega)]
              simp only [gl]
              rw [← e1]
        · cases h
/-- What is told short enough is read again. -/
theorem colP_of {x : Coln} (h1 : 1 ≤ x.k) (h5 : x.k ≤ 5) (hc : 0 ≤ x.c) (hi : inI x.c) (he : x.k = 5 → x.c = 0) (hl : (textK x).length ≤ 4) : colP (textK x) = some x := by
  obtain ⟨k, c⟩ := x
  simp only at *
  unfold textK at hl ⊢
  rw [if_neg (by simp; omega)] at hl ⊢
  by_cases h : k = 5
  · subst h
    rw [if_pos rfl]
    rw [he rfl]
    rfl
  · simp only [h, if_false] at hl ⊢
    obtain ⟨e1, e2⟩ := kindL_let (k := k) h1 (by omega)
    rw [colP_cons, if_neg e2, e1, if_neg (by simp at hl; omega), num_itoa c hi]
    simp only
    rw [if_neg (by omega)]
/-- A plan of a text. -/
def planP (l : List UInt8) : Option (List Coln) := if l = [] then some [] else if 100 < (wds 32 l).length then none else (wds 32 l).mapM colP

theorem mapM_text : ∀ (ws : List (List UInt8)) (l : List Coln), ws.mapM colP = some l → l.map textK = ws
  | [], l, h => by simp at h; subst h; rfl
  | x :: r, l, h => by
    rw [List.mapM_cons] at h
    cases hx : colP x with
    | none => rw [hx] at h; cases h
    | some y =>
      rw [hx] at h
      cases hr : r.mapM colP with
      | none => rw [hr] at h; cases h
      | some m =>
        rw [hr] at h
        have e : y :: m = l := by simpa using h
        subst e
        rw [List.map_cons, (colP_text hx).1, mapM_text r m hr]
theorem planP_text {l : List UInt8} {p : List Coln} (h : planP l = some p) : textP p = l := by
  unfold planP at h
  split at h
  · rename_i he
    injection h with h
    subst h he
    rfl
  · split at h
    · cases h
    · unfold textP
      rw [mapM_text _ _ h, join_wds]
/-- Which plans are read again. -/
def Told (x : Coln) : Prop := 1 ≤ x.k ∧ x.k ≤ 5 ∧ 0 ≤ x.c ∧ x.c ≤ 999 ∧ (x.k = 5 → x.c = 0)
theorem itoa_short {n : Int} (h0 : 0 ≤ n) (h : n ≤ 999) : (itoa n).length ≤ 3 := by
  unfold itoa
  rw [if_neg (by omega), decDigits_length]
  exact nd_le 2 n.toNat (by show n.toNat < 1000; omega)
theorem textK_len {x : Coln} (h : Told x) : (textK x).length ≤ 4 ∧ (textK x) ≠ [] := by
  unfold textK
  rw [if_neg (by have := h.1; have := h.2.1; have := h.2.2.1; omega)]
  have := itoa_short h.2.2.1 h.2.2.2.1
  split
  · simp
  · simp; omega
theorem textK_no32 (x : Coln) : (32 : UInt8) ∉ textK x := by
  unfold textK
  split
  · simp
  · split
    · simp
    · rename_i h1 h2
      have hd : (32 : UInt8) ∉ itoa x.c := by
        intro h
        unfold itoa at h
        rw [if_neg (by omega)] at h
        have := dec_dig _ _ h
        cases this
      have hk : letK x.k ≠ 32 := by
        have : x.k = 1 ∨ x.k = 2 ∨ x.k = 3 ∨ x.k = 4 := by omega
        rcases this with e | e | e | e <;> rw [e] <;> decide
      intro h
      rcases List.mem_cons.1 h with h | h
      · exact hk h.symm
      · exact hd h
theorem mapM_told : ∀ (l : List Coln), (∀ x ∈ l, Told x) → (l.map textK).mapM colP = some l
  | [], _ => rfl
  | x :: r, h => by
    have hx := h x (by simp)
    rw [List.map_cons, List.mapM_cons, colP_of hx.1 hx.2.1 hx.2.2.1 (by have := hx.2.2.1; have := hx.2.2.2.1; unfold inI; omega) hx.2.2.2.2 (textK_len hx).1, mapM_told r (fun y hy => h y (by simp [hy]))]
    rfl
theorem join_ne {ws : List (List UInt8)} (h : ws ≠ []) (hx : ∀ x ∈ ws, x ≠ []) : join ws [32] ≠ [] := by
  cases ws with
  | nil => exact absurd rfl h
  | cons x r =>
    rw [join_cons]
    intro e
    exact hx x (by simp) (List.append_eq_nil_iff.1 e).1
theorem planP_told {l : List Coln} (hl : l.length ≤ 100) (h : ∀ x ∈ l, Told x) : planP (textP l) = some l := by
  cases l with
  | nil => rfl
  | cons x r =>
    have hw : wds 32 (textP (x :: r)) = (x :: r).map textK := wds_join 32 _ (by simp) (fun y hy => by
      obtain ⟨z, _, rfl⟩ := List.mem_map.1 hy
      exact textK_no32 z)
    unfold planP
    have hne : textP (x :: r) ≠ [] := join_ne (by simp) (fun y hy => by
      obtain ⟨z, hz, rfl⟩ := List.mem_map.1 hy
      exact (textK_len (h z hz)).2)
    rw [if_neg hne, hw, if_neg (by rw [List.length_map]; omega)]
    exact mapM_told _ h
/-- Asked for twice. -/
def twiceB (x y : Coln) : Bool := ((x.k == 5) == (y.k == 5)) && x.c == y.c
/-- A column's fault. -/
def colE (n : Int) (y : Coln) (ahead : List Coln) : Int :=
  if y.k < 1 ∨ 5 < y.k ∨ (y.k = 5 ∧ y.c ≠ 0) then 1 else if y.k ≠ 5 ∧ (y.c < 0 ∨ n ≤ y.c) then 11 else if ahead.any (fun x => twiceB x y) then 15 else 0
def askB (y : Coln) : Bool := y.k == 1 || y.k == 2 || y.k == 5
/-- The first fault of columns behind others. -/
def colsE (n : Int) : List Coln → List Coln → Int
  | _, [] => 0
  | ahead, y :: r => if colE n y ahead = 0 then colsE n (ahead ++ [y]) r else colE n y ahead
/-- Which plans may be. -/
def planE (n : Int) (l : List Coln) : Int := if 16 < l.length then 2 else if colsE n [] l ≠ 0 then colsE n [] l else if l.any askB then 0 else 1
end Go.Viv
