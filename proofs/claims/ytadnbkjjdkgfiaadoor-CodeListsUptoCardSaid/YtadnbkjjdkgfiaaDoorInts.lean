/-
  Rows of whole numbers, rising ones, and a number laid into one; a row appended to a row of one's own. No program in sight.
-/
import Derived.Test.YtadnbkjjdkgfiaaDoorRowC
namespace Go.Viv
open Go.RowKit Go.Maps

/-- The cells of whole numbers. -/
def ints (l : List Int) : List Value := l.map (Value.int .i64)
theorem ints_len (l : List Int) : (ints l).length = l.length := by simp [ints]
theorem ints_one (l : List Int) : ∀ u ∈ ints l, u.oneCell' = true := by
  intro u hu
  obtain ⟨x, _, rfl⟩ := List.mem_map.1 hu
  rfl
theorem ints_app (a b : List Int) : ints (a ++ b) = ints a ++ ints b := by simp [ints]
theorem rowN_at {w : World} {A : Option Addr} {l : List Int} (h : RowC w A (ints l)) {k : Nat} {x : Int} (hk : l[k]? = some x) : ∃ b o, A = some ⟨b, o, none⟩ ∧ b < w.heap.size ∧ w.cell? ⟨b, o + k, none⟩ = some (.int .i64 x) := by
  rcases h with h | ⟨b, o, h1, h2, h3⟩
  · cases l with
    | nil => simp at hk
    | cons x r => simp [ints] at h
  · exact ⟨b, o, h1, h2, h3 k _ (by simp [ints, hk])⟩
theorem RowC.take {w : World} {A : Option Addr} {cs : List Value} (h : RowC w A cs) (k : Nat) : RowC w A (cs.take k) := by
  rcases h with h | ⟨b, o, h1, h2, h3⟩
  · exact .inl (by rw [h]; simp)
  · refine .inr ⟨b, o, h1, h2, fun i u hi => h3 i u ?_⟩
    rw [List.getElem?_take] at hi
    split at hi
    · exact hi
    · cases hi
theorem RowC.drop {w : World} {b o : Nat} {cs : List Value} (h : RowC w (some ⟨b, o, none⟩) cs) (k : Nat) : RowC w (some ⟨b, o + k, none⟩) (cs.drop k) := by
  rcases h with h | ⟨b', o', h1, h2, h3⟩
  · exact .inl (by rw [h]; simp)
  · injection h1 with h1
    injection h1 with e1 e2
    subst e1 e2
    refine .inr ⟨b, o + k, rfl, h2, fun i u hi => ?_⟩
    rw [Nat.add_assoc]
    exact h3 (k + i) u (by rw [← hi, List.getElem?_drop])
theorem RowC.nil_of_none {w : World} {cs : List Value} (h : RowC w none cs) : cs = [] := by
  rcases h with h | ⟨b, o, h1, _⟩
  · exact h
  · cases h1

/-- A row of ints, wherever its source lies, appended to a row of one's own. -/
theorem app_any {P : Program} {T E : TypeId} {z : Value} {size bytes : Nat} (hT : P.underlying T = some (.slice E)) (hE : (P.info? E).map (fun i => (i.zero, i.size, i.bytes)) = some (some z, size, bytes)) (hz : z.cells.size = size) (hs : 0 < size)
    {W : World} {base n : Nat} {v : Value} {xs : List Value} (hown : W.ownsRow base E size v n xs) {A : Option Addr} {m c : Nat} {news : List Value} (hsrc : RowC W A news) (hA : ∀ a, A = some a → ∃ b o, a = ⟨b, o, none⟩) (hl : news.length = m * size) (h1 : ∀ u ∈ news, u.oneCell' = true)
    (hn : n + m ≤ maxLen) (hb : (n + m) * bytes ≤ 140737488355328) (hbase : base ≤ W.heap.size) :
    ∃ v' w', appendV P T T v (.slice A m c) W = .ok v' w' ∧ w'.ownsRow base E size v' (n + m) (xs ++ news) ∧ ∀ V, Fr (fun _ => False) V W → V.heap.size ≤ base → Fr (fun _ => False) V w' := by
  obtain ⟨i0, hi, hz0, hz1, hz2⟩ := info_parts hE
  rcases A with _ | a
  · have hnil := hsrc.nil_of_none
    subst hnil
    have hm : m = 0 := by
      rcases Nat.eq_zero_or_pos m with h | h
      · exact h
      · have : 0 < m * size := Nat.mul_pos h hs
        simp at hl
        omega
    subst hm
    refine ⟨v, W, ?_, by simpa using hown, fun V hV _ => hV⟩
    unfold appendV
    rcases hown.2 with ⟨rfl, rfl⟩ | ⟨g, cap, cur, rfl, _, _, hnc, _⟩
    · simp [Builtin.append_, run_underlying hT, sizeOf, typeInfo, hi, Builtin.lenOf, Builtin.firstCells]
    · simp [Builtin.append_, run_underlying hT, sizeOf, typeInfo, hi, Builtin.lenOf, Builtin.firstCells, hnc, storeCells]
  · obtain ⟨b, o, rfl⟩ := hA a rfl
    obtain ⟨v', w', h, ho, hgr, _⟩ := run_append_own_at (P := P) W base T T E i0 z size bytes hT hi hz0 hz1 hz2 hz hs v n xs hown ⟨b, o, none⟩ m c news hl (fun j u hj => by
      rw [show (⟨b, o, none⟩ : Addr).add j = ⟨b, o + j, none⟩ from by unfold Addr.add; split <;> simp_all]
      rcases hsrc with hn0 | ⟨b', o', hA, _, hc⟩
      · rw [hn0] at hj; simp at hj
      · injection hA with hA
        injection hA with hA1 hA2
        subst hA1 hA2
        exact hc j u hj) h1 hn hb hbase
    refine ⟨v', w', h, ho, fun V hV hle => hV.grown hgr (fun k hk => .inr ?_)⟩
    have := (hown.lt k hk).1
    omega

/-- Rising, each once. -/
def Rises : List Int → Prop
  | [] => True
  | [_] => True
  | a :: b :: r => a < b ∧ Rises (b :: r)
theorem Rises.tail {a : Int} {r : List Int} (h : Rises (a :: r)) : Rises r := by
  cases r with
  | nil => trivial
  | cons b r => exact h.2
theorem Rises.lt {a : Int} : ∀ {r : List Int}, Rises (a :: r) → ∀ x ∈ r, a < x
  | [], _, x, hx => by simp at hx
  | b :: r, h, x, hx => by
    rcases List.mem_cons.1 hx with rfl | hx
    · exact h.1
    · exact Int.lt_trans h.1 (Rises.lt (a := b) (r := r) h.2 x hx)
theorem Rises.cons {a : Int} {r : List Int} (h : Rises r) (hl : ∀ x ∈ r, a < x) : Rises (a :: r) := by
  cases r with
  | nil => trivial
  | cons b r => exact ⟨hl b (by simp), h⟩
/-- A number laid into a rising row. -/
def insS (i : Int) : List Int → List Int
  | [] => [i]
  | a :: r => if a < i then a :: insS i r else if a = i then a :: r else i :: a :: r
/-- Where it stands, or would. -/
def posS (i : Int) : List Int → Nat
  | [] => 0
  | a :: r => if a < i then posS i r + 1 else 0
theorem posS_le (i : Int) : ∀ l, posS i l ≤ l.length
  | [] => by simp [posS]
  | a :: r => by
    have := posS_le i r
    unfold posS
    split <;> simp <;> omega
theorem posS_lt {i : Int} : ∀ {l : List Int}, Rises l → ∀ {m : Nat} {x : Int}, l[m]? = some x → (x < i ↔ m < posS i l)
  | [], _, m, x, h => by simp at h
  | a :: r, hr, 0, x, h => by
    have e : a = x := by simpa using h
    subst e
    unfold posS
    split <;> simp [*]
  | a :: r, hr, m + 1, x, h => by
    have hx : r[m]? = some x := by simpa using h
    have ih := posS_lt (i := i) hr.tail hx
    unfold posS
    split
    · rw [ih]; omega
    · have := hr.lt x (List.mem_of_getElem? hx)
      constructor
      · intro h; omega
      · intro h; omega
theorem mem_insS {i x : Int} : ∀ {l : List Int}, x ∈ insS i l ↔ x = i ∨ x ∈ l
  | [] => by simp [insS]
  | a :: r => by
    unfold insS
    split
    · simp [mem_insS (l := r)]; constructor <;> (rintro (h | h | h) <;> simp [h])
    · split
      · rename_i h; subst h; simp
      · simp
theorem rises_insS {i : Int} : ∀ {l : List Int}, Rises l → Rises (insS i l)
  | [], _ => trivial
  | a :: r, h => by
    unfold insS
    split
    · rename_i hlt
      refine Rises.cons (rises_insS h.tail) (fun x hx => ?_)
      rcases mem_insS.1 hx with rfl | hx
      · exact hlt
      · exact h.lt x hx
    · split
      · exact h
      · exact ⟨by omega, h⟩
/-- It is there already. -/
theorem insS_there {i : Int} : ∀ {l : List Int}, l[posS i l]? = some i → insS i l = l
  | [], h => by simp at h
  | a :: r, h => by
    unfold insS posS at *
    split
    · rename_i hlt
      rw [if_pos hlt] at h
      rw [insS_there (l := r) (by simpa using h)]
    · rename_i hlt
      rw [if_neg hlt] at h
      have e : a = i := by simpa using h
      rw [if_pos e]
/-- It is laid in. -/
theorem insS_new {i : Int} : ∀ {l : List Int}, l[posS i l]? ≠ some i → insS i l = l.take (posS i l) ++ [i] ++ l.drop (posS i l)
  | [], _ => by simp [insS, posS]
  | a :: r, h => by
    unfold insS
    by_cases hlt : a < i
    · have e : posS i (a :: r) = posS i r + 1 := by simp [posS, hlt]
      rw [e] at h ⊢
      rw [if_pos hlt, insS_new (l := r) (by simpa using h)]
      simp
    · have e : posS i (a :: r) = 0 := by simp [posS, hlt]
      rw [e] at h ⊢
      rw [if_neg hlt, if_neg (fun e => h (by simp [e]))]
      simp
/-- Two rising rows with the same numbers are the same. -/
theorem rises_ext : ∀ {a b : List Int}, Rises a → Rises b → (∀ x, x ∈ a ↔ x ∈ b) → a = b
  | [], [], _, _, _ => rfl
  | [], y :: b, _, _, h => by have := (h y).2 (by simp); simp at this
  | x :: a, [], _, _, h => by have := (h x).1 (by simp); simp at this
  | x :: a, y :: b, ha, hb, h => by
    have e : x = y := by
      rcases List.mem_cons.1 ((h x).1 (by simp)) with e | h1
      · exact e
      · rcases List.mem_cons.1 ((h y).2 (by simp)) with e | h2
        · exact e.symm
        · have := ha.lt y h2
          have := hb.lt x h1
          omega
    subst e
    congr 1
    refine rises_ext ha.tail hb.tail (fun z => ?_)
    constructor
    · intro hz
      rcases List.mem_cons.1 ((h z).1 (by simp [hz])) with e | h1
      · subst e; have := ha.lt z hz; omega
      · exact h1
    · intro hz
      rcases List.mem_cons.1 ((h z).2 (by simp [hz])) with e | h1
      · subst e; have := hb.lt z hz; omega
      · exact h1
end Go.Viv
