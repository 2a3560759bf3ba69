/-
  Instructions' texts: told, read, and told again. No walk in sight.
-/
import Derived.Test.YtadnbkjjdkgfiaaDoorCodJ
import Derived.Test.YtadnbkjjdkgfiaaDoorWords
import Derived.Test.YtadnbkjjdkgfiaaDoorTameD
namespace Go.Viv
open Go.Lib Go.Proofs.YtadnbkjjdkgfiaaDoor Go.RowKit
theorem words_wds (l : List UInt8) : wordsB l = wds 32 l := by
  unfold wordsB
  rw [Lib.splitB_data, ← split_wds]
  rfl
/-- What the letters behind an instruction's word read. -/
def readL : List UInt8 → List (List UInt8) → Insn → Option Insn
  | [], _, i => some i
  | _ :: _, [], _ => none
  | c :: cs, x :: xs, i =>
    if c = 110 then (match num x with | some n => readL cs xs { i with n := n } | none => none)
    else if c = 114 then (match regW x with | some r => readL cs xs { i with r := r } | none => none)
    else if c = 115 then (match regW x with | some r => readL cs xs { i with s := r } | none => none)
    else none
/-- Reading by a shape is reading by its letters. -/
def lettersOf (x : Shp) : List UInt8 := (if x.r then [114] else []) ++ (if x.s then [115] else []) ++ (if x.n then [110] else [])
theorem regW_nil : regW [] = none := rfl
theorem num_nil : num [] = none := by kernel_rfl
theorem parseX_letters (k : Int) (x : Shp) (ws : List (List UInt8)) : parseX k x ws = if ws.length = (lettersOf x).length then readL (lettersOf x) ws ⟨k, 0, 0, 0⟩ else none := by
  obtain ⟨nm, r, s, n, u⟩ := x
  cases r <;> cases s <;> cases n <;> rcases ws with _ | ⟨a, _ | ⟨b, _ | ⟨c, _ | ⟨d, ws⟩⟩⟩⟩
  all_goals simp only [parseX, lettersOf, stepR, stepN, stepW, readL, regW_nil, num_nil, List.headD_cons, List.headD_nil, List.tail_cons, List.tail_nil, List.isEmpty_nil, List.isEmpty_cons, List.length_cons, List.length_nil, Bool.false_eq_true, if_true, if_false, List.append_nil, List.nil_append, List.cons_append]
  all_goals first | rfl | (simp; done) | (split <;> simp_all; done) | skip
  all_goals first
    | (cases num a <;> simp; done)
    | (cases regW a <;> simp; done)
    | (cases regW a <;> cases num b <;> simp; done)
    | (cases regW a <;> cases regW b <;> simp; done)
    | (cases regW a <;> cases regW b <;> cases num c <;> simp; done)
/-- The names, one by one. -/
def nameAt (k : Nat) : List UInt8 := ((shapeTab[k]?).map (·.name)).getD []
theorem letters_form {k : Nat} {x : Shp} (hk : 1 ≤ k ∧ k ≤ 18) (h : shapeTab[k]? = some x) : lettersOf x = formB k := by
  obtain ⟨h1, h2⟩ := hk
  have hc : k = 1 ∨ k = 2 ∨ k = 3 ∨ k = 4 ∨ k = 5 ∨ k = 6 ∨ k = 7 ∨ k = 8 ∨ k = 9 ∨ k = 10 ∨ k = 11 ∨ k = 12 ∨ k = 13 ∨ k = 14 ∨ k = 15 ∨ k = 16 ∨ k = 17 ∨ k = 18 := by omega
  rcases hc with rfl | rfl | rfl | rfl | rfl | rfl | rfl | rfl | rfl | rfl | rfl | rfl | rfl | rfl | rfl | rfl | rfl | rfl
  all_goals
    obtain rfl := Option.some.inj h
    rfl
/-- What the reference reads, found at the k-th name. -/
theorem parse_at {ws : List (List UInt8)} {k : Nat} (hk : 1 ≤ k ∧ k ≤ 18) (h : nameIdx (ws.headD []) = k) : parseI ws = if ws.tail.length = (formB k).length then readL (formB k) ws.tail ⟨k, 0, 0, 0⟩ else none := by
  obtain ⟨x, hx⟩ : ∃ x, shapeTab[k]? = some x := ⟨_, List.getElem?_eq_getElem (by have e : shapeTab.length = 19 := by decide
                                                                                  omega)⟩
  unfold parseI
  rw [h, if_neg (by omega)]
  simp only [Int.toNat_natCast, hx]
  rw [parseX_letters, letters_form hk hx]
/-- A name that is none. -/
theorem parse_no {ws : List (List UInt8)} (h : nameIdx (ws.headD []) < 1) : parseI ws = none := by
  unfold parseI
  rw [if_pos h]
theorem names_apart : ∀ j k : Fin 19, nameAt j = nameAt k → j = k := by decide
/-- The first name is the only one. -/
theorem nameIdx_at {k : Nat} (hk : k ≤ 18) : nameIdx (nameAt k) = k := by
  have hc : k = 0 ∨ k = 1 ∨ k = 2 ∨ k = 3 ∨ k = 4 ∨ k = 5 ∨ k = 6 ∨ k = 7 ∨ k = 8 ∨ k = 9 ∨ k = 10 ∨ k = 11 ∨ k = 12 ∨ k = 13 ∨ k = 14 ∨ k = 15 ∨ k = 16 ∨ k = 17 ∨ k = 18 := by omega
  rcases hc with rfl | rfl | rfl | rfl | rfl | rfl | rfl | rfl | rfl | rfl | rfl | rfl | rfl | rfl | rfl | rfl | rfl | rfl | rfl
  all_goals first | rfl | decide
theorem nameIdx_none {l : List UInt8} (h : ∀ k, 1 ≤ k → k ≤ 18 → nameAt k ≠ l) : nameIdx l < 1 := by
  rcases Int.lt_or_le (nameIdx l) 1 with h1 | h1
  · exact h1
  · obtain ⟨k, x, e, h2, h3, hx⟩ := name_range (l := l) (by omega)
    exfalso
    refine h k h2 h3 ?_
    unfold nameIdx at e
    have key : ∀ (xs : List Shp) (a k : Nat) (x : Shp), nameFrom l xs a = ((a + k : Nat) : Int) → xs[k]? = some x → x.name = l := by
      intro xs
      induction xs with
      | nil => intro a k x _ h; simp at h
      | cons y r ih =>
        intro a k x he hk
        rw [nameFrom] at he
        split at he
        · rename_i hy
          obtain rfl : k = 0 := by omega
          obtain rfl : y = x := by simpa using hk
          exact hy
        · rcases k with _ | k
          · have hr := nameFrom_range l r (a + 1)
            rcases hr with hr | ⟨j, z, hr, _⟩ <;> omega
          · exact ih (a + 1) k x (by rw [he]; congr 1; omega) (by simpa using hk)
    have := key shapeTab 0 k x (by rw [e]; congr 1; omega) hx
    unfold nameAt
    rw [hx]
    exact this

/-- What one letter tells. -/
def tellC (i : Insn) (c : UInt8) : List UInt8 := if c = 114 then [32, 114] ++ itoa i.r else if c = 115 then [32, 114] ++ itoa i.s else [32] ++ itoa i.n
def tellL (i : Insn) (cs : List UInt8) : List UInt8 := (cs.map (tellC i)).flatten
def tellsI (i : Insn) : List UInt8 := if i.op < 1 ∨ 18 < i.op then [] else nameAt i.op.toNat ++ tellL i (formB i.op)
theorem text_at (i : Insn) (x : Shp) (h : ofOp i.op = some x) : textI i = x.name ++ tellL i (lettersOf x) := by
  unfold textI
  rw [h]
  obtain ⟨nm, r, s, n, u⟩ := x
  cases r <;> cases s <;> cases n <;> simp [textW, lettersOf, tellL, tellC, join_cons, joinTail]
theorem tells_text (i : Insn) : tellsI i = textI i := by
  unfold tellsI
  cases h : ofOp i.op with
  | none => rw [if_pos (of_none h)]; unfold textI; rw [h]
  | some x =>
    obtain ⟨k, e, h1, h2, h3⟩ := of_some h
    rw [if_neg (by omega), text_at i x h, e, letters_form ⟨h1, h2⟩ h3]
    unfold nameAt
    simp [h3]
theorem itoa_no (n : Int) (b : UInt8) (hb : isDig b = false) (hb2 : b ≠ 45) : b ∉ itoa n := by
  intro h
  unfold itoa at h
  split at h
  · rcases List.mem_cons.1 h with h | h
    · exact hb2 h
    · rw [dec_dig _ b h] at hb; cases hb
  · rw [dec_dig _ b h] at hb; cases hb
theorem name_no {k : Nat} {x : Shp} (hx : shapeTab[k]? = some x) : (32 : UInt8) ∉ x.name := by
  have hall : (shapeTab.all fun x => !(x.name.contains 32)) = true := by decide
  have := List.all_eq_true.1 hall x (List.mem_of_getElem? hx)
  simpa using this
/-- A text's words are those of its shape. -/
theorem wds_text {i : Insn} {x : Shp} (h : ofOp i.op = some x) : wds 32 (textI i) = textW x i := by
  obtain ⟨k, e, h1, h2, h3⟩ := of_some h
  unfold textI
  rw [h]
  refine wds_join 32 _ (by unfold textW; simp) (fun y hy => ?_)
  have q1 := itoa_no i.r 32 (by decide) (by decide)
  have q2 := itoa_no i.s 32 (by decide) (by decide)
  have q3 := itoa_no i.n 32 (by decide) (by decide)
  unfold textW at hy
  rcases List.mem_append.1 hy with hy | hy
  · rcases List.mem_append.1 hy with hy | hy
    · rcases List.mem_append.1 hy with hy | hy
      · rw [List.mem_singleton.1 hy]; exact name_no h3
      · split at hy
        · rw [List.mem_singleton.1 hy]; simpa using q1
        · simp at hy
    · split at hy
      · rw [List.mem_singleton.1 hy]; simpa using q2
      · simp at hy
  · split at hy
    · rw [List.mem_singleton.1 hy]; exact q3
    · simp at hy
theorem ri0 : regW (114 :: itoa 0) = some 0 := by kernel_rfl
theorem ri1 : regW (114 :: itoa 1) = some 1 := by kernel_rfl
theorem ri2 : regW (114 :: itoa 2) = some 2 := by kernel_rfl
theorem ri3 : regW (114 :: itoa 3) = some 3 := by kernel_rfl
theorem bi0 : ([114, 48] : List UInt8) = 114 :: itoa (((48 : UInt8).toNat : Int) - 48) := by kernel_rfl
theorem bi1 : ([114, 49] : List UInt8) = 114 :: itoa (((49 : UInt8).toNat : Int) - 48) := by kernel_rfl
theorem bi2 : ([114, 50] : List UInt8) = 114 :: itoa (((50 : UInt8).toNat : Int) - 48) := by kernel_rfl
theorem bi3 : ([114, 51] : List UInt8) = 114 :: itoa (((51 : UInt8).toNat : Int) - 48) := by kernel_rfl
theorem reg_itoa {r : Int} (h : 0 ≤ r ∧ r < 4) : regW (114 :: itoa r) = some r := by
  have hc : r = 0 ∨ r = 1 ∨ r = 2 ∨ r = 3 := by omega
  rcases hc with rfl | rfl | rfl | rfl
  · exact ri0
  · exact ri1
  · exact ri2
  · exact ri3
/-- An instruction whose fields are just those that its kind names. -/
structure Neat (i : Insn) (x : Shp) : Prop where
  of : ofOp i.op = some x
  r1 : x.r = true → 0 ≤ i.r ∧ i.r < 4
  r0 : x.r = false → i.r = 0
  s1 : x.s = true → 0 ≤ i.s ∧ i.s < 4
  s0 : x.s = false → i.s = 0
  n1 : inI i.n
  n0 : x.n = false → i.n = 0
theorem parse_neat {i : Insn} {x : Shp} (h : Neat i x) : parseI (wds 32 (textI i)) = some i := by
  obtain ⟨k, e, h1, h2, h3⟩ := of_some h.of
  have hn : nameIdx ((textW x i).headD []) = k := by
    have : (textW x i).headD [] = nameAt k := by unfold nameAt; rw [h3]; rfl
    rw [this, nameIdx_at h2]
  rw [wds_text h.of, parse_at ⟨h1, h2⟩ hn, ← letters_form ⟨h1, h2⟩ h3]
  obtain ⟨op, r, s, n⟩ := i
  obtain ⟨nm, xr, xs, xn, xu⟩ := x
  dsimp only at e
  subst e
  have g1 := h.r1
  have g2 := h.r0
  have g3 := h.s1
  have g4 := h.s0
  have g5 := h.n1
  have g6 := h.n0
  dsimp only at g1 g2 g3 g4 g5 g6
  have z5 := num_itoa n g5
  cases xr <;> cases xs <;> cases xn
  all_goals
    simp only [forall_const, Bool.false_eq_true, false_imp_iff, Bool.true_eq_false] at g1 g2 g3 g4 g6
    try have z1 := reg_itoa g1
    try have z3 := reg_itoa g3
    try subst g2
    try subst g4
    try subst g6
    simp [textW, lettersOf, readL, *]
/-- What was read is told as it stood. -/
theorem regW_back {l : List UInt8} {r : Int} (h : regW l = some r) : l = 114 :: itoa r := by
  unfold regW at h
  split at h
  · rename_i c d
    split at h
    · rename_i hc
      obtain ⟨rfl, h1, h2⟩ := hc
      have e : r = (d.toNat : Int) - 48 := by injection h with h; exact h.symm
      have hd : d.toNat = 48 ∨ d.toNat = 49 ∨ d.toNat = 50 ∨ d.toNat = 51 := by omega
      rcases hd with hd | hd | hd | hd
      · obtain rfl : d = 48 := UInt8.toNat_inj.1 hd
        subst e; exact bi0
      · obtain rfl : d = 49 := UInt8.toNat_inj.1 hd
        subst e; exact bi1
      · obtain rfl : d = 50 := UInt8.toNat_inj.1 hd
        subst e; exact bi2
      · obtain rfl : d = 51 := UInt8.toNat_inj.1 hd
        subst e; exact bi3
    · cases h
  · cases h
theorem name_back {l : List UInt8} {k : Nat} (h1 : 1 ≤ k) (hk : k ≤ 18) (h : nameIdx l = k) : l = nameAt k := by
  rcases Classical.em (∃ j, 1 ≤ j ∧ j ≤ 18 ∧ nameAt j = l) with ⟨j, a, b, e⟩ | hno
  · have := nameIdx_at b
    rw [e, h] at this
    obtain rfl : k = j := by omega
    exact e.symm
  · have := nameIdx_none (l := l) (fun j a b e => hno ⟨j, a, b, e⟩)
    omega
theorem read_back : ∀ (cs : List UInt8) (ws : List (List UInt8)) (i j : Insn), cs = [114, 115] ∨ cs = [] ∨ cs = [114] ∨ cs = [110] ∨ cs = [114, 110] → ws.length = cs.length → readL cs ws i = some j → joinTail [32] ws = tellL j cs := by
  intro cs ws i j hc hl h
  rcases hc with rfl | rfl | rfl | rfl | rfl
  · match ws, hl with
    | [a, b], _ =>
      cases ha : regW a with
      | none => simp [readL, ha] at h
      | some r =>
        cases hb : regW b with
        | none => simp [readL, ha, hb] at h
        | some r2 =>
          simp [readL, ha, hb] at h
          subst h
          rw [regW_back ha, regW_back hb]
          simp [joinTail, tellL, tellC]
  · match ws, hl with
    | [], _ => simp [joinTail, tellL]
  · match ws, hl with
    | [a], _ =>
      cases ha : regW a with
      | none => simp [readL, ha] at h
      | some r =>
        simp [readL, ha] at h
        subst h
        rw [regW_back ha]
        simp [joinTail, tellL, tellC]
  · match ws, hl with
    | [a], _ =>
      cases ha : num a with
      | none => simp [readL, ha] at h
      | some r =>
        simp [readL, ha] at h
        subst h
        rw [(num_some ha).1]
        simp [joinTail, tellL, tellC]
  · match ws, hl with
    | [a, b], _ =>
      cases ha : regW a with
      | none => simp [readL, ha] at h
      | some r =>
        cases hb : num b with
        | none => simp [readL, ha, hb] at h
        | some r2 =>
          simp [readL, ha, hb] at h
          subst h
          rw [regW_back ha, (num_some hb).1]
          simp [joinTail, tellL, tellC]
theorem read_op : ∀ (cs : List UInt8) (ws : List (List UInt8)) (i j : Insn), readL cs ws i = some j → j.op = i.op
  | [], _, i, j, h => by simp [readL] at h; rw [h]
  | _ :: _, [], _, _, h => by simp [readL] at h
  | c :: cs, x :: xs, i, j, h => by
    unfold readL at h
    split at h
    · split at h
      · have h5 := read_op cs xs _ j h; exact h5
      · cases h
    · split at h
      · split at h
        · have h5 := read_op cs xs _ j h; exact h5
        · cases h
      · split at h
        · split at h
          · have h5 := read_op cs xs _ j h; exact h5
          · cases h
        · cases h
theorem form_kinds (op : Int) : formB op = [114, 115] ∨ formB op = [] ∨ formB op = [114] ∨ formB op = [110] ∨ formB op = [114, 110] := by
  unfold formB
  split
  · simp
  · split
    · simp
    · split
      · simp
      · split <;> simp
theorem text_parse {l : List UInt8} {i : Insn} (h : parseI (wds 32 l) = some i) : textI i = l := by
  rcases Int.lt_or_le (nameIdx ((wds 32 l).headD [])) 1 with h1 | h1
  · rw [parse_no h1] at h; cases h
  · obtain ⟨k, x, e, h2, h3, hx⟩ := name_range (l := (wds 32 l).headD []) (by omega)
    rw [parse_at ⟨h2, h3⟩ e] at h
    split at h
    · rename_i hl
      have hop := read_op _ _ _ _ h
      have hb := read_back _ _ _ _ (form_kinds k) hl h
      have hne := wds_ne 32 l
      have hj := join_wds 32 l
      cases hw : wds 32 l with
      | nil => exact absurd hw hne
      | cons y r =>
        rw [hw] at hb hj e
        rw [join_cons] at hj
        simp only [List.tail_cons] at hb
        simp only [List.headD_cons] at e
        dsimp only at hop
        rw [← tells_text]
        unfold tellsI
        rw [if_neg (by omega), hop, Int.toNat_natCast, ← hb, ← name_back h2 h3 e]
        exact hj
    · cases h
end Go.Viv
