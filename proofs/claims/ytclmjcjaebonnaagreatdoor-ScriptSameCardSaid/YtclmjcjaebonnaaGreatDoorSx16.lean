/-
  Several texts in one. A table of slots: what is found, put, struck and grown, in plain words. No program in sight.
-/
import Derived.Test.YtclmjcjaebonnaaGreatDoorSx15
import Derived.Test.YtclmjcjaebonnaaGreatDoorRows
import Derived.Test.YtclmjcjaebonnaaGreatDoorSx00
import Derived.Outline
import Derived.Lib.Hide
import Derived.Deep.RegionHeld3
import Derived.BigRegion
import Derived.Deep.AppendLies
section
set_option linter.unusedSimpArgs false
set_option linter.unusedVariables false
namespace Go.Viv
/-- How many slots are of a kind. -/
def cntK (k : Int) (hs : List HS) : Nat := (hs.filter (fun x => x.k == k)).length
theorem cntK_nil (k : Int) : cntK k [] = 0 := rfl
theorem cntK_cons (k : Int) (x : HS) (l : List HS) : cntK k (x :: l) = (if x.k = k then 1 else 0) + cntK k l := by
  unfold cntK
  by_cases h : x.k = k
  · rw [List.filter_cons_of_pos (by simpa using h), List.length_cons, if_pos h]; omega
  · rw [List.filter_cons_of_neg (by simpa using h), if_neg h]; omega
theorem cntK_set (k : Int) : ∀ (l : List HS) (a : Nat) (x y : HS), l[a]? = some x → cntK k (l.set a y) + (if x.k = k then 1 else 0) = cntK k l + (if y.k = k then 1 else 0)
  | [], a, x, y, h => by simp at h
  | z :: l, 0, x, y, h => by
    simp only [List.getElem?_cons_zero, Option.some.injEq] at h
    subst h
    rw [List.set_cons_zero, cntK_cons, cntK_cons]
    omega
  | z :: l, a + 1, x, y, h => by
    rw [List.getElem?_cons_succ] at h
    have ih := cntK_set k l a x y h
    rw [List.set_cons_succ, cntK_cons, cntK_cons]
    omega
theorem cntK_rep (k : Int) (hk : k ≠ 0) : ∀ n, cntK k (List.replicate n HS.none) = 0
  | 0 => rfl
  | n + 1 => by
    rw [List.replicate_succ, cntK_cons, cntK_rep k hk n, if_neg (by simp [HS.none]; omega)]
theorem cntK_all : ∀ {l : List HS}, (∀ x ∈ l, x.k = 1 ∨ x.k = 2) → cntK 1 l + cntK 2 l = l.length
  | [], _ => rfl
  | x :: l, h => by
    have ih := cntK_all (l := l) fun y hy => h y (List.mem_cons_of_mem _ hy)
    rw [cntK_cons, cntK_cons, List.length_cons]
    rcases h x (by simp) with h | h
    · rw [if_pos h, if_neg (by omega)]; omega
    · rw [if_neg (by omega), if_pos h]; omega
theorem empty_of {hm : Int → Nat} {hs : List HS} (hg : HGood hm hs) (h : cntK 1 hs + cntK 2 hs < hs.length) : ∃ (a : Nat) (x : HS), hs[a]? = some x ∧ x.k = 0 := by
  refine Classical.byContradiction fun hn => ?_
  have : cntK 1 hs + cntK 2 hs = hs.length := cntK_all fun x hx => by
    obtain ⟨a, ha⟩ := List.getElem?_of_mem hx
    rcases hg.kind a x ha with h0 | h1 | h2
    · exact absurd ⟨a, x, ha, h0⟩ hn
    · exact .inl h1
    · exact .inr h2
  omega
/-- find, from a slot on: the slot of an index, and the one that it may take. -/
def findH (hs : List HS) (i : Int) : Nat → Nat → Int → Option (Int × Int)
  | 0, _, _ => none
  | f + 1, k, fr => match hs[k]? with
    | none => none
    | some x => if x.k = 0 then (if fr < 0 then some (-1, (k : Int)) else some (-1, fr)) else if x.k = 1 ∧ x.i = i then some ((k : Int), -1)
      else findH hs i f ((k + 1) % hs.length) (if x.k = 2 ∧ fr < 0 then (k : Int) else fr)
structure Found (hs : List HS) (h : Nat) (i : Int) (r : Int × Int) (a : Nat) (x : HS) : Prop where
  eq : r = ((a : Int), -1)
  at_ : hs[a]? = some x
  k : x.k = 1
  i : x.i = i
structure Missed (hs : List HS) (h : Nat) (i : Int) (r : Int × Int) (a m : Nat) (x : HS) : Prop where
  eq : r = (-1, (a : Int))
  pos : a = (h + m) % hs.length
  lt : m < hs.length
  at_ : hs[a]? = some x
  k : x.k = 0 ∨ x.k = 2
  ahead : ∀ m', m' < m → ∃ y, hs[(h + m') % hs.length]? = some y ∧ y.k ≠ 0
  no : hget hs i = none
theorem findH_spec {hm : Int → Nat} {hs : List HS} (hg : HGood hm hs) (he : ∃ (a : Nat) (x : HS), hs[a]? = some x ∧ x.k = 0) (i : Int) :
    ∀ (f j : Nat) (fr : Int), Past hs (hm i) j i → ((fr = -1) ∨ ∃ m0 x0, m0 < j ∧ fr = (((hm i + m0) % hs.length : Nat) : Int) ∧ hs[(hm i + m0) % hs.length]? = some x0 ∧ x0.k = 2) → hs.length ≤ f + j →
      ∃ r, findH hs i f ((hm i + j) % hs.length) fr = some r ∧ ((∃ a x, Found hs (hm i) i r a x) ∨ ∃ a m x, Missed hs (hm i) i r a m x)
  | 0, j, fr, hp, _, hn => by
    have := past_lt he hp
    omega
  | f + 1, j, fr, hp, hfr, hn => by
    have hj := past_lt he hp
    have hk : (hm i + j) % hs.length < hs.length := Nat.mod_lt _ (by omega)
    obtain ⟨x, hx⟩ : ∃ x, hs[(hm i + j) % hs.length]? = some x := ⟨_, List.getElem?_eq_getElem hk⟩
    unfold findH
    simp only [hx]
    by_cases h0 : x.k = 0
    · rw [if_pos h0]
      have hno := past_absent hg hp hx h0
      rcases hfr with rfl | ⟨m0, x0, g1, rfl, g3, g4⟩
      · rw [if_pos (by decide)]
        exact ⟨_, rfl, .inr ⟨_, j, x, rfl, rfl, hj, hx, .inl h0, fun m' hm' => by obtain ⟨y, h1, h2, _⟩ := hp m' hm'; exact ⟨y, h1, h2⟩, hno⟩⟩
      · rw [if_neg (by omega)]
        exact ⟨_, rfl, .inr ⟨_, m0, x0, rfl, rfl, by omega, g3, .inr g4, fun m' hm' => by obtain ⟨y, h1, h2, _⟩ := hp m' (by omega); exact ⟨y, h1, h2⟩, hno⟩⟩
    · rw [if_neg h0]
      by_cases h1 : x.k = 1 ∧ x.i = i
      · rw [if_pos h1]
        exact ⟨_, rfl, .inl ⟨_, x, rfl, hx, h1.1, h1.2⟩⟩
      · rw [if_neg h1]
        have hp' : Past hs (hm i) (j + 1) i := fun m hm' => by
          by_cases e : m = j
          · subst e
            refine ⟨x, hx, h0, ?_⟩
            cases hf : isF i x with
            | false => rfl
            | true => exact absurd (isF_iff.1 hf) h1
          · exact hp m (by omega)
        rw [Nat.mod_add_mod, Nat.add_assoc]
        refine findH_spec hg he i f (j + 1) _ hp' ?_ (by omega)
        by_cases h2 : x.k = 2 ∧ fr < 0
        · rw [if_pos h2]
          exact .inr ⟨j, x, by omega, rfl, hx, h2.1⟩
        · rw [if_neg h2]
          rcases hfr with h | ⟨m0, x0, g1, g2, g3, g4⟩
          · exact .inl h
          · exact .inr ⟨m0, x0, by omega, g2, g3, g4⟩
def pows : List Nat := [8, 16, 32, 64, 128, 256, 512, 1024, 2048, 4096, 8192, 16384, 32768, 65536, 131072]
theorem pows_le {n : Nat} (h : n ∈ pows) : 8 ≤ n ∧ n ≤ 131072 := by
  simp [pows] at h
  omega
theorem pows_two {n : Nat} (h : n ∈ pows) (h2 : n ≤ 65536) : 2 * n ∈ pows := by
  simp [pows] at h ⊢
  omega
/-- A table of slots that holds l: so many are full, so many are left. -/
structure HashOk (hs : List HS) (l : SM) (nf nl : Nat) : Prop where
  good : HGood (fun i => homeN i hs.length) hs
  pow : hs.length ∈ pows
  get : ∀ i : Int, hget hs i = l.lk i
  full : nf = cntK 1 hs
  left : nl = cntK 2 hs
  room : 4 * (nf + nl) ≤ 3 * hs.length
  len : nf = l.length
theorem HashOk.find {hs : List HS} {l : SM} {nf nl : Nat} (h : HashOk hs l nf nl) (i : Int) (hi : homeN i hs.length < hs.length) :
    ∃ r, findH hs i hs.length (homeN i hs.length) (-1) = some r ∧ ((∃ a x, Found hs (homeN i hs.length) i r a x ∧ l.lk i = some x.v) ∨ ∃ a m x, Missed hs (homeN i hs.length) i r a m x ∧ l.lk i = none) := by
  have hp := pows_le h.pow
  have he := empty_of h.good (by have := h.full; have := h.left; have := h.room; omega)
  obtain ⟨r, h1, h2⟩ := findH_spec h.good he i hs.length 0 (-1) (fun m hm => absurd hm (Nat.not_lt_zero _)) (.inl rfl) (by omega)
  rw [Nat.add_zero, Nat.mod_eq_of_lt hi] at h1
  refine ⟨r, h1, ?_⟩
  rcases h2 with ⟨a, x, hf⟩ | ⟨a, m, x, hm⟩
  · refine .inl ⟨a, x, hf, ?_⟩
    rw [← h.get, ← hf.i]
    exact hget_some h.good hf.at_ hf.k
  · exact .inr ⟨a, m, x, hm, by rw [← h.get]; exact hm.no⟩
theorem SM.lk_nat_none {l : SM} {i : Nat} (h : l.lk (i : Int) = none) : i ∉ l.keys := fun hm => by
  obtain ⟨v, hv⟩ := SM.mem_keys.1 hm
  exact SM.lk_none.1 h _ hv rfl
theorem SM.lk_nat_some {l : SM} {i : Nat} {v : Val} (h : l.lk (i : Int) = some v) : i ∈ l.keys := by
  obtain ⟨k, e, hk⟩ := SM.lk_some h
  obtain rfl : i = k := by omega
  exact SM.mem_keys.2 ⟨v, hk⟩
theorem SM.put_len {l : SM} (hr : RiseN l.keys) (i : Nat) (v : Val) : (SM.put i v l).length = l.length + (if (l.lk (i : Int)).isSome then 0 else 1) := by
  rw [← SM.keys_len, SM.keys_put, ← SM.keys_len l]
  cases h : l.lk (i : Int) with
  | none => simp only [Option.isSome_none]; exact insN_len hr (SM.lk_nat_none h)
  | some w => simp only [Option.isSome_some, if_true, Nat.add_zero]; rw [insN_there hr (SM.lk_nat_some h)]
theorem SM.del_len {l : SM} (hr : RiseN l.keys) {i : Nat} (h : (l.lk (i : Int)).isSome = true) : (SM.del (i : Int) l).length + 1 = l.length := by
  rw [← SM.keys_len, SM.keys_del, ← SM.keys_len l]
  obtain ⟨v, hv⟩ := Option.isSome_iff_exists.1 h
  exact remN_len hr (SM.lk_nat_some hv)
/-- The first slot for an index is one. -/
theorem homeN_lt {i : Int} {n : Nat} (hn : n ∈ pows) : homeN i n < n := by
  have hb := pows_le hn
  unfold homeN
  have h1 : i.toNat * 2654435761 % 4294967296 < 4294967296 := Nat.mod_lt _ (by decide)
  have h2 : n * (4294967296 / n) = 4294967296 := by
    simp [pows] at hn
    rcases hn with rfl | rfl | rfl | rfl | rfl | rfl | rfl | rfl | rfl | rfl | rfl | rfl | rfl | rfl | rfl <;> rfl
  exact Nat.div_lt_of_lt_mul (by rw [Nat.mul_comm (4294967296 / n) n, h2]; exact h1)
/-- A value written over. -/
theorem HashOk.over {hs : List HS} {l : SM} {nf nl : Nat} (h : HashOk hs l nf nl) (hr : RiseN l.keys) {i : Nat} (hi : i < 65536) {a : Nat} {x : HS} (ha : hs[a]? = some x) (hk : x.k = 1) (hxi : x.i = i) (v : Val) : HashOk (hs.set a ⟨1, i, v⟩) (l.put i v) nf nl := by
  have hlk : l.lk (i : Int) = some x.v := by rw [← h.get, ← hxi]; exact hget_some h.good ha hk
  obtain ⟨j, h1, h2, h3⟩ := h.good.path a x ha hk
  rw [hxi] at h2 h3
  have hg : HGood (fun i => homeN i hs.length) (hs.set a ⟨1, i, v⟩) := h.good.laid h1 h2 ha ⟨by omega, by omega⟩ h3 fun b y hb hy1 hy2 => h.good.uniq b a y x hb ha hy1 hk (by rw [hy2, hxi])
  have c1 := cntK_set 1 hs a x ⟨1, i, v⟩ ha
  have c2 := cntK_set 2 hs a x ⟨1, i, v⟩ ha
  rw [if_pos hk, if_pos rfl] at c1
  rw [if_neg (by omega), if_neg (by simp)] at c2
  refine ⟨by rw [List.length_set]; exact hg, by rw [List.length_set]; exact h.pow, fun t => ?_, by rw [h.full]; omega, by rw [h.left]; omega, by rw [List.length_set]; exact h.room, ?_⟩
  · rw [hget_laid hg h.good ha (.inr hxi), SM.lk_put, h.get]
  · rw [SM.put_len hr, hlk]; exact h.len
/-- A new index laid into the slot that it may take. -/
theorem HashOk.new {hs : List HS} {l : SM} {nf nl : Nat} (h : HashOk hs l nf nl) (hr : RiseN l.keys) {i : Nat} (hi : i < 65536) {r : Int × Int} {a m : Nat} {x : HS} (hm : Missed hs (homeN i hs.length) i r a m x) (hroom : 4 * (nf + nl + 1) ≤ 3 * hs.length) (v : Val) :
    HashOk (hs.set a ⟨1, i, v⟩) (l.put i v) (nf + 1) (nl - (if x.k = 2 then 1 else 0)) ∧ (x.k = 2 → 1 ≤ nl) := by
  have hno : l.lk (i : Int) = none := by rw [← h.get]; exact hm.no
  have hg : HGood (fun i => homeN i hs.length) (hs.set a ⟨1, i, v⟩) := h.good.laid hm.lt hm.pos hm.at_ ⟨by omega, by omega⟩ hm.ahead fun b y hb hy1 hy2 => by
    have := hget_some h.good hb hy1
    rw [hy2, hm.no] at this
    cases this
  have c1 := cntK_set 1 hs a x ⟨1, i, v⟩ hm.at_
  have c2 := cntK_set 2 hs a x ⟨1, i, v⟩ hm.at_
  have hk := hm.k
  rw [if_neg (by omega), if_pos rfl] at c1
  rw [if_neg (show ¬ (HS.mk 1 (i : Int) v).k = 2 by simp)] at c2
  have hpos : x.k = 2 → 1 ≤ nl := fun e => by rw [if_pos e] at c2; have := h.left; omega
  refine ⟨⟨by rw [List.length_set]; exact hg, by rw [List.length_set]; exact h.pow, fun t => ?_, by have := h.full; omega, by have := h.left; split at c2 <;> rename_i e <;> simp only [e, if_true, if_false] <;> omega, by rw [List.length_set]; omega, ?_⟩, hpos⟩
  · rw [hget_laid hg h.good hm.at_ (.inl (by omega)), SM.lk_put, h.get]
  · rw [SM.put_len hr, hno, h.len]; rfl
/-- A slot struck. -/
theorem HashOk.strike {hs : List HS} {l : SM} {nf nl : Nat} (h : HashOk hs l nf nl) (hr : RiseN l.keys) {i : Nat} {a : Nat} {x : HS} (ha : hs[a]? = some x) (hk : x.k = 1) (hxi : x.i = i) :
    HashOk (hs.set a ⟨2, 0, Val.zero⟩) (l.del (i : Int)) (nf - 1) (nl + 1) ∧ 1 ≤ nf := by
  have hlk : l.lk (i : Int) = some x.v := by rw [← h.get, ← hxi]; exact hget_some h.good ha hk
  have hd := SM.del_len hr (i := i) (by rw [hlk]; rfl)
  have hg := h.good.struck ha
  have c1 := cntK_set 1 hs a x ⟨2, 0, Val.zero⟩ ha
  have c2 := cntK_set 2 hs a x ⟨2, 0, Val.zero⟩ ha
  rw [if_pos hk, if_neg (by decide)] at c1
  rw [if_neg (by omega), if_pos rfl] at c2
  have hn := h.len
  refine ⟨⟨by rw [List.length_set]; exact hg, by rw [List.length_set]; exact h.pow, fun t => ?_, by have := h.full; omega, by have := h.left; omega, by rw [List.length_set]; have := h.room; omega, by omega⟩, by omega⟩
  rw [hget_struck h.good ha hk, SM.lk_del, h.get, hxi]
/-- An empty table. -/
theorem HashOk.zero {n : Nat} (hn : n ∈ pows) : HashOk (List.replicate n HS.none) [] 0 0 :=
  ⟨HGood.empty _ _, by rw [List.length_replicate]; exact hn, fun i => by rw [hget_empty, SM.lk_nil], (cntK_rep 1 (by decide) n).symm, (cntK_rep 2 (by decide) n).symm, by omega, rfl⟩
theorem HashOk.lk_eq {hs : List HS} {l l' : SM} {nf nl : Nat} (h : HashOk hs l nf nl) (he : ∀ i : Int, l'.lk i = l.lk i) (hl : l'.length = l.length) : HashOk hs l' nf nl :=
  ⟨h.good, h.pow, fun i => by rw [h.get, he], h.full, h.left, h.room, by rw [hl]; exact h.len⟩
/-- What is full of a row of slots, put one by one. -/
def growL : List HS → List HS → Option (List HS)
  | [], cur => some cur
  | x :: r, cur => if x.k = 1 then (match findH cur x.i cur.length (homeN x.i cur.length) (-1) with
    | some (_, fr) => (match cur[fr.toNat]? with
      | some y => if 0 ≤ fr ∧ y.k = 0 ∧ 0 ≤ x.i ∧ x.i < 65536 then growL r (cur.set fr.toNat ⟨1, x.i, x.v⟩) else none
      | none => none)
    | none => none) else growL r cur
end Go.Viv
namespace Go.Viv
theorem growL_spec : ∀ (rest cur : List HS) (lc : SM) (nf : Nat), HashOk cur lc nf 0 → lc.Ok → (∀ x ∈ rest, x.k = 1 → 0 ≤ x.i ∧ x.i < 65536 ∧ lc.lk x.i = none) → rest.Pairwise (fun x y => x.k = 1 → y.k = 1 → x.i ≠ y.i) → 4 * (nf + cntK 1 rest) ≤ 3 * cur.length →
    ∃ cur' l', growL rest cur = some cur' ∧ HashOk cur' l' (nf + cntK 1 rest) 0 ∧ cur'.length = cur.length ∧ ∀ t : Int, l'.lk t = match rest.find? (isF t) with
      | some x => some x.v
      | none => lc.lk t
  | [], cur, lc, nf, h, _, _, _, _ => ⟨cur, lc, rfl, h, rfl, fun t => rfl⟩
  | x :: r, cur, lc, nf, h, hok, hx, hp, hroom => by
    have hp' := List.pairwise_cons.1 hp
    rw [cntK_cons] at hroom ⊢
    unfold growL
    by_cases hk : x.k = 1
    · rw [if_pos hk] at hroom ⊢
      rw [if_pos hk]
      obtain ⟨x1, x2, x3⟩ := hx x (by simp) hk
      obtain ⟨n, hn⟩ : ∃ n : Nat, x.i = n := ⟨x.i.toNat, by omega⟩
      have hlt := homeN_lt (i := x.i) h.pow
      obtain ⟨r0, e1, e2⟩ := h.find x.i hlt
      rcases e2 with ⟨a, y, _, e3⟩ | ⟨a, m, y, hm, _⟩
      · rw [x3] at e3; cases e3
      · rw [hn] at hm
        obtain ⟨h2, h3⟩ := h.new hok.rise (i := n) (by omega) hm (by omega) x.v
        have hy : ¬ y.k = 2 := fun e => by have := h3 e; omega
        rw [if_neg hy] at h2
        have hlk : ∀ t : Int, (SM.put n x.v lc).lk t = if t = n then some x.v else lc.lk t := fun t => SM.lk_put n x.v t lc
        obtain ⟨cur', l', g1, g2, g3, g4⟩ := growL_spec r (cur.set a ⟨1, n, x.v⟩) (SM.put n x.v lc) (nf + 1) h2 (hok.put (by omega) _) (fun z hz hzk => by
          obtain ⟨z1, z2, z3⟩ := hx z (List.mem_cons_of_mem _ hz) hzk
          refine ⟨z1, z2, ?_⟩
          rw [hlk, if_neg (fun e => hp'.1 z hz hk hzk (by rw [e, hn]))]
          exact z3) hp'.2 (by rw [List.length_set]; omega)
        refine ⟨cur', l', ?_, by rw [show nf + (1 + cntK 1 r) = nf + 1 + cntK 1 r by omega]; exact g2, by rw [g3, List.length_set], fun t => ?_⟩
        · rw [e1, hm.eq]
          simp only [Int.toNat_natCast, hn, hm.at_]
          have := hm.k
          rw [if_pos ⟨by omega, by omega, by omega, by omega⟩]
          exact g1
        · rw [g4 t, hlk]
          by_cases ht : t = n
          · have hf : isF t x = true := isF_iff.2 ⟨hk, by rw [hn, ht]⟩
            rw [List.find?_cons_of_pos (by rw [hf]), if_pos ht]
            have : r.find? (isF t) = none := List.find?_eq_none.2 fun z hz hz2 => by
              obtain ⟨z1, z2⟩ := isF_iff.1 hz2
              exact hp'.1 z hz hk z1 (by rw [z2, ht, hn])
            rw [this]
          · have hf : ¬ isF t x = true := fun e => ht (by rw [← (isF_iff.1 e).2, hn])
            rw [List.find?_cons_of_neg hf, if_neg ht]
    · rw [if_neg hk] at hroom ⊢
      rw [if_neg hk]
      obtain ⟨cur', l', g1, g2, g3, g4⟩ := growL_spec r cur lc nf h hok (fun z hz => hx z (List.mem_cons_of_mem _ hz)) hp'.2 (by omega)
      refine ⟨cur', l', g1, by rw [Nat.zero_add]; exact g2, g3, fun t => ?_⟩
      rw [g4 t, List.find?_cons_of_neg (fun e => hk (isF_iff.1 e).1)]
def growN (n nf : Nat) : Nat := if n < 2 * (nf + 1) then 2 * n else n
theorem HashOk.grown {hs : List HS} {l : SM} {nf nl : Nat} (h : HashOk hs l nf nl) (hl : l.length ≤ 65535) : growN hs.length nf ∈ pows ∧ ∃ cur, growL hs (List.replicate (growN hs.length nf) HS.none) = some cur ∧ HashOk cur l nf 0 ∧ cur.length = growN hs.length nf ∧ 4 * (nf + 1) ≤ 3 * growN hs.length nf := by
  have hp := pows_le h.pow
  have hn := h.len
  have hr := h.room
  have hpw : growN hs.length nf ∈ pows := by
    unfold growN
    split
    · refine pows_two h.pow ?_
      have := h.pow
      simp [pows] at this
      omega
    · exact h.pow
  have hge : 4 * (nf + 1) ≤ 3 * growN hs.length nf := by
    unfold growN
    split <;> omega
  refine ⟨hpw, ?_⟩
  have hc : cntK 1 hs = nf := h.full.symm
  obtain ⟨cur, l', g1, g2, g3, g4⟩ := growL_spec hs _ [] 0 (HashOk.zero hpw) SM.Ok.nil (fun x hx hk => by
    obtain ⟨a, ha⟩ := List.getElem?_of_mem hx
    obtain ⟨i1, i2⟩ := h.good.idx a x ha hk
    exact ⟨i1, i2, SM.lk_nil _⟩) (List.pairwise_iff_getElem.2 fun a b ha hb hab hk1 hk2 e => by
      have := h.good.uniq a b _ _ (List.getElem?_eq_getElem ha) (List.getElem?_eq_getElem hb) hk1 hk2 e
      omega) (by rw [List.length_replicate]; omega)
  rw [List.length_replicate] at g3
  rw [hc, Nat.zero_add] at g2
  refine ⟨cur, g1, g2.lk_eq (fun t => ?_) (by rw [← g2.len, hn]), g3, hge⟩
  rw [g4 t, ← h.get]
  unfold hget
  cases hs.find? (isF t) <;> rfl
end Go.Viv
end

/-
  Contracts of package dense: a Dense in memory, and what New, Put, Take, Get, Len, Row do to it.
-/
section
set_option linter.unusedSimpArgs false
set_option linter.unusedVariables false
namespace Go.Proofs.YtclmjcjaebonnaaGreatDoor
open Go.RowKit Go.Maps Go.Viv

def rowCells (r : Int × Val) : List Value := .int .i64 r.1 :: r.2.cells

theorem zero3 (w : World) : (zeroValue 3).run Tryz.prog w = .ok (.int .i64 0) w := by kernel_rfl


theorem rowCells_len (r : Int × Val) : (rowCells r).length = 4 := rfl

def pos (rs : List (Int × Val)) (i : Int) : Option Nat := rs.findIdx? (fun r => r.1 == i)
def getV (rs : List (Int × Val)) (i : Int) : Val := ((rs.find? (fun r => r.1 == i)).map (·.2)).getD Val.zero
def hasV (rs : List (Int × Val)) (i : Int) : Bool := (rs.find? (fun r => r.1 == i)).isSome

theorem pos_some {rs : List (Int × Val)} {i : Int} {k : Nat} (h : pos rs i = some k) : ∃ v, rs[k]? = some (i, v) ∧ k < rs.length ∧ getV rs i = v ∧ hasV rs i = true := by
  obtain ⟨hk, h1, h2⟩ := List.findIdx?_eq_some_iff_getElem.1 h
  have hf : rs.find? (fun r => r.1 == i) = some rs[k] := List.find?_eq_some_iff_getElem.2 ⟨h1, k, hk, rfl, fun j hj => by simpa using h2 j hj⟩
  have h1' : rs[k].1 = i := by simpa using h1
  refine ⟨rs[k].2, ?_, hk, ?_, ?_⟩
  · rw [List.getElem?_eq_getElem hk, ← h1']
  · simp [getV, hf]
  · simp [hasV, hf]
theorem pos_none {rs : List (Int × Val)} {i : Int} (h : pos rs i = none) : getV rs i = Val.zero ∧ hasV rs i = false ∧ ∀ r ∈ rs, r.1 ≠ i := by
  have h1 := List.findIdx?_eq_none_iff.1 h
  have hf : rs.find? (fun r => r.1 == i) = none := List.find?_eq_none.2 (fun r hr => by simpa using h1 r hr)
  exact ⟨by simp [getV, hf], by simp [hasV, hf], fun r hr => by simpa using h1 r hr⟩

def DenseIs (w : World) (p : Nat) (rs : List (Int × Val)) (S : Nat → Prop) : Prop :=
  ∃ sv bm, Blk w p 290 #[sv, .map (some bm)] ∧ w.ownsRow 0 412 4 sv rs.length (rs.flatMap rowCells) ∧ IMap w Tryz.prog 3 3 bm rs.length (fun i => (pos rs i).map (fun n : Nat => (n : Int))) ∧
    (rs.map (·.1)).Nodup ∧ (∀ r ∈ rs, 0 ≤ r.1 ∧ r.1 < 65536) ∧ S p ∧ S bm ∧ ∀ k, sv.ownBlock = some k → S k

theorem DenseIs.keep {w w' : World} {p : Nat} {rs : List (Int × Val)} {S T : Nat → Prop} (h : DenseIs w p rs S) (hf : Fr T w w') (hd : ∀ k, S k → ¬ T k) : DenseIs w' p rs S := by
  obtain ⟨sv, bm, h1, h2, h3, h4, h5, h6, h7, h8⟩ := h
  exact ⟨sv, bm, h1.fr hf (hd _ h6), own_fr h2 hf (fun k hk => hd _ (h8 k hk)), h3.fr hf (hd _ h7), h4, h5, h6, h7, h8⟩
theorem DenseIs.mono {w : World} {p : Nat} {rs : List (Int × Val)} {S T : Nat → Prop} (h : DenseIs w p rs S) (hd : ∀ k, S k → T k) : DenseIs w p rs T := by
  obtain ⟨sv, bm, h1, h2, h3, h4, h5, h6, h7, h8⟩ := h
  exact ⟨sv, bm, h1, h2, h3, h4, h5, hd _ h6, hd _ h7, fun k hk => hd _ (h8 k hk)⟩
theorem DenseIs.len {w : World} {p : Nat} {rs : List (Int × Val)} {S : Nat → Prop} (h : DenseIs w p rs S) : rs.length ≤ 65536 := by
  obtain ⟨sv, bm, h1, h2, h3, h4, h5, h6, h7, h8⟩ := h
  have := nodup_le (rs.map (·.1)) ((List.range 65536).map (fun n : Nat => (n : Int))) h4 (fun x hx => by
    obtain ⟨r, hr, rfl⟩ := List.mem_map.1 hx
    have := h5 r hr
    exact List.mem_map.2 ⟨r.1.toNat, by simp; omega, by omega⟩)
  simpa using this

theorem row_cells {w : World} {g cap : Nat} {rs : List (Int × Val)} (h : w.ownsRow 0 412 4 (.slice (some ⟨g, 0, none⟩) rs.length cap) rs.length (rs.flatMap rowCells)) {k : Nat} {i : Int} {v : Val} (hk : rs[k]? = some (i, v)) :
    w.cell? ⟨g, k * 4, none⟩ = some (.int .i64 i) ∧ w.cell? ⟨g, k * 4 + 1, none⟩ = some (.int .i64 v.k) ∧ w.cell? ⟨g, k * 4 + 1 + 1, none⟩ = some (.int .i64 v.a) ∧ w.cell? ⟨g, k * 4 + 1 + 2, none⟩ = some (.int .i64 v.b) := by
  have hl : k < rs.length := (List.getElem?_eq_some_iff.1 hk).1
  have hc : ∀ c, c < 4 → w.cell? ⟨g, k * 4 + c, none⟩ = (rowCells (i, v))[c]? := fun c hc => by
    rw [h.cellAt _ (by omega), chunk_get rowCells 4 rowCells_len rs k c hc, hk]
    rfl
  exact ⟨hc 0 (by omega), hc 1 (by omega), hc 2 (by omega), hc 3 (by omega)⟩

theorem get_any (p : Nat) (i : Int) (rs : List (Int × Val)) (S : Nat → Prop) (w : World) (h : DenseIs w p rs S) (hi : (Lit.int .i64 i).wf = true) :
    Calls Tryz.prog 300 #[.pointer (some ⟨p, 0, none⟩), .int .i64 i] w fun e w' => e = .returned (.tuple #[(getV rs i).agg, .bool (hasV rs i)]) ∧ Fr (fun _ => False) w w' := by
  obtain ⟨sv, bm, h1, h2, h3, h4, h5, h6, h7, h8⟩ := h
  have c1 := h1.cell 1
  have hpl := h1.lt
  have hrun := fun o => (h3.of_block (w' := w.alloc o) (Below.heap_alloc w o bm h3.lt)).look Tryz.underlying3 Tryz.underlying3 Tryz.underlying283 zero3 hi
  simp at c1
  cases hp : pos rs i with
  | none =>
    obtain ⟨g1, g2, _⟩ := pos_none hp
    rw [g1, g2]
    simp only [hp, Option.map_none, Option.getD_none, Option.isSome_none] at hrun
    clear h2 h3 h5 h8 hp g1 g2
    go_enter Tryz.func300, Tryz.ntmps300
    go_wp2
    exact bodyPost_ret (v := .tuple #[Val.zero.agg, .bool false]) (by simp [results, Tryz.results300, go_sem, Val.zero, Val.agg]) rfl ⟨rfl, (Fr.refl _ _).alloc _⟩
  | some k =>
    obtain ⟨v, hk, hkl, g1, g2⟩ := pos_some hp
    rw [g1, g2]
    obtain ⟨g, cap, cur, rfl, hcap, _, hb, hcs, hct⟩ := own_cases h2 (by omega)
    obtain ⟨k0, k1, k2, k3⟩ := row_cells h2 hk
    have hgl := hb.lt
    have c0 := h1.cell 0
    simp at c0
    simp only [hp, Option.map_some, Option.getD_some, Option.isSome_some] at hrun
    clear h2 h3 h5 h8 hp g1 g2 hct hcs hk k0
    go_enter Tryz.func300, Tryz.ntmps300
    go_wp2
    exact bodyPost_ret (v := .tuple #[v.agg, .bool true]) (by simp [results, Tryz.results300, go_sem, Val.agg]) rfl ⟨rfl, (Fr.refl _ _).alloc _⟩

def putV (rs : List (Int × Val)) (i : Int) (v : Val) : List (Int × Val) :=
  if i < 0 ∨ 65536 ≤ i then rs else
  match pos rs i with
  | some k => rs.set k (i, v)
  | none => rs ++ [(i, v)]


theorem pos_set {rs : List (Int × Val)} {k : Nat} {i : Int} {v v0 : Val} (hk : rs[k]? = some (i, v0)) (j : Int) : pos (rs.set k (i, v)) j = pos rs j := by
  unfold pos
  have hl : k < rs.length := (List.getElem?_eq_some_iff.1 hk).1
  have : ∀ (l : List (Int × Val)) (k : Nat), l[k]? = some (i, v0) → (l.set k (i, v)).findIdx? (fun r => r.1 == j) = l.findIdx? (fun r => r.1 == j) := by
    intro l
    induction l with
    | nil => intro k h; simp at h
    | cons y r ih =>
      intro k h
      cases k with
      | zero => simp at h; subst h; simp [List.findIdx?_cons]
      | succ k => simp at h; simp [List.findIdx?_cons, ih k h]
  exact this rs k hk
theorem fst_set {rs : List (Int × Val)} {k : Nat} {i : Int} {v v0 : Val} (hk : rs[k]? = some (i, v0)) : (rs.set k (i, v)).map (·.1) = rs.map (·.1) := by
  rw [List.map_set]
  obtain ⟨hl, he⟩ := List.getElem?_eq_some_iff.1 hk
  apply List.ext_getElem?
  intro j
  rw [List.getElem?_set]
  split
  · rename_i h; subst h; simp [hl, he]
  · rfl

theorem dense_set {w : World} {p k g cap bm : Nat} {i : Int} {v v0 : Val} {rs : List (Int × Val)} {S : Nat → Prop} (h1 : Blk w p 290 #[.slice (some ⟨g, 0, none⟩) rs.length cap, .map (some bm)])
    (h2 : w.ownsRow 0 412 4 (.slice (some ⟨g, 0, none⟩) rs.length cap) rs.length (rs.flatMap rowCells)) (h3 : IMap w Tryz.prog 3 3 bm rs.length (fun i => (pos rs i).map (fun n : Nat => (n : Int))))
    (h4 : (rs.map (·.1)).Nodup) (h5 : ∀ r ∈ rs, 0 ≤ r.1 ∧ r.1 < 65536) (h6 : S p) (h7 : S bm) (h8 : ∀ k, (Value.slice (some ⟨g, 0, none⟩) rs.length cap).ownBlock = some k → S k) (hk : rs[k]? = some (i, v0)) :
    DenseIs (((w.setCell ⟨g, k * 4 + 1, none⟩ (.int .i64 v.k)).setCell ⟨g, k * 4 + 1 + 1, none⟩ (.int .i64 v.a)).setCell ⟨g, k * 4 + 1 + 2, none⟩ (.int .i64 v.b)) p (rs.set k (i, v)) S := by
  have hl : k < rs.length := (List.getElem?_eq_some_iff.1 hk).1
  have hg : g ≠ p := fun e => own_blk_ne h2 h1 (by decide) (by rw [← e]; rfl)
  have hgm : g ≠ bm := fun e => own_map_ne h2 h3 (by rw [← e]; rfl)
  have hf : Fr (fun x => x = g) w (((w.setCell ⟨g, k * 4 + 1, none⟩ (.int .i64 v.k)).setCell ⟨g, k * 4 + 1 + 1, none⟩ (.int .i64 v.a)).setCell ⟨g, k * 4 + 1 + 2, none⟩ (.int .i64 v.b)) :=
    by
      refine Fr.setCell (Fr.setCell (Fr.setCell (Fr.refl _ w) ?_ _) ?_ _) ?_ _ <;> exact .inl rfl
  have h2' := ((h2.stored (k * 4 + 1) (.int .i64 v.k)).1.stored (k * 4 + 1 + 1) (.int .i64 v.a)).1.stored (k * 4 + 1 + 2) (.int .i64 v.b) |>.1
  refine ⟨_, bm, h1.fr hf (Ne.symm hg), ?_, ?_, by rw [fst_set hk]; exact h4, ?_, h6, h7, h8⟩
  · rw [List.length_set]
    have e : (rs.set k (i, v)).flatMap rowCells = (((rs.flatMap rowCells).set (k * 4 + 1) (.int .i64 v.k)).set (k * 4 + 1 + 1) (.int .i64 v.a)).set (k * 4 + 1 + 2) (.int .i64 v.b) := by
      have hlen := chunk_len rowCells 4 rowCells_len rs
      have hc := fun c hc => chunk_get rowCells 4 rowCells_len rs k c hc
      rw [hk] at hc
      apply List.ext_getElem?
      intro j
      rw [chunk_set rowCells 4 rowCells_len rs k (i, v) hl]
      simp only [List.getElem?_set, List.length_set, hlen]
      have h40 := hc 0 (by omega)
      simp [rowCells, Val.cells] at h40
      rw [List.getElem?_append, List.getElem?_append, List.length_append, List.length_take, hlen, List.getElem?_take, List.getElem?_drop, rowCells_len, show min (k * 4) (rs.length * 4) = k * 4 by omega]
      by_cases a1 : j < k * 4
      · rw [if_pos (by omega), if_pos a1, if_pos a1, if_neg (by omega), if_neg (by omega), if_neg (by omega)]
      · by_cases a2 : j < k * 4 + 4
        · rw [if_pos a2, if_neg a1]
          obtain rfl | rfl | rfl | rfl : j = k * 4 ∨ j = k * 4 + 1 ∨ j = k * 4 + 1 + 1 ∨ j = k * 4 + 1 + 2 := by omega
          · rw [if_neg (by omega), if_neg (by omega), if_neg (by omega)]
            simp [rowCells, h40]
          · rw [if_neg (by omega), if_neg (by omega), if_pos rfl, if_pos (by omega)]
            simp [rowCells, Val.cells]
          · rw [if_neg (by omega), if_pos rfl, if_pos (by omega), show k * 4 + 1 + 1 - k * 4 = 2 by omega]
            simp [rowCells, Val.cells]
          · rw [if_pos rfl, if_pos (by omega), show k * 4 + 1 + 2 - k * 4 = 3 by omega]
            simp [rowCells, Val.cells]
        · rw [if_neg a2, if_neg (by omega), if_neg (by omega), if_neg (by omega), show k * 4 + 4 + (j - (k * 4 + 4)) = j by omega]
    rw [e]
    exact h2'
  · rw [List.length_set]
    have e : (fun i_1 => Option.map (fun n : Nat => (n : Int)) (pos (rs.set k (i, v)) i_1)) = fun i => (pos rs i).map (fun n : Nat => (n : Int)) := by
      funext j; rw [pos_set hk]
    rw [e]
    exact h3.fr hf (Ne.symm hgm)
  · intro r hr
    have hm : r.1 ∈ (rs.set k (i, v)).map (·.1) := List.mem_map.2 ⟨r, hr, rfl⟩
    rw [fst_set hk] at hm
    obtain ⟨r', hr', e⟩ := List.mem_map.1 hm
    rw [← e]
    exact h5 r' hr'

theorem put_found (p : Nat) (i : Int) (v : Val) (rs : List (Int × Val)) (S : Nat → Prop) (w : World) (h : DenseIs w p rs S) (hi : (Lit.int .i64 i).wf = true) (h0 : 0 ≤ i) (h1' : i < 65536) (k : Nat) (hp : pos rs i = some k) :
    Calls Tryz.prog 302 #[.pointer (some ⟨p, 0, none⟩), .int .i64 i, v.agg] w fun e w' => e = .returned (.tuple #[(getV rs i).agg, .bool (hasV rs i)]) ∧ DenseIs w' p (rs.set k (i, v)) S ∧ Fr S w w' := by
  obtain ⟨sv, bm, h1, h2, h3, h4, h5, h6, h7, h8⟩ := h
  have c1 := h1.cell 1
  have hpl := h1.lt
  have hrun := fun o o' => (h3.of_block (w' := (w.alloc o).alloc o') (by rw [Below.heap_alloc _ _ _ (by have := h3.lt; simp; omega), Below.heap_alloc _ _ _ h3.lt])).look Tryz.underlying3 Tryz.underlying3 Tryz.underlying283 zero3 hi
  simp at c1
  obtain ⟨v0, hk, hkl, g1, g2⟩ := pos_some hp
  rw [g1, g2]
  obtain ⟨g, cap, cur, rfl, hcap, _, hb, hcs, hct⟩ := own_cases h2 (by omega)
  obtain ⟨k0, k1, k2, k3⟩ := row_cells h2 hk
  have hgl := hb.lt
  have c0 := h1.cell 0
  have f1 := h2.frozenAt (k * 4 + 1)
  have f2 := h2.frozenAt (k * 4 + 1 + 1)
  have f3 := h2.frozenAt (k * 4 + 1 + 2)
  simp at c0
  simp only [hp, Option.map_some, Option.getD_some, Option.isSome_some] at hrun
  have H2 := Lib.hid h2
  have H3 := Lib.hid h3
  have HK := Lib.hid hk
  have H5 := Lib.hid h5
  have H8 := Lib.hid h8
  clear h8
  have q1 : p < w.heap.size + 1 := by omega
  have q2 : p < w.heap.size + 1 + 1 := by omega
  have q1' : g < w.heap.size + 1 := by omega
  have q2' : g < w.heap.size + 1 + 1 := by omega
  clear h2 h3 h5 hp g1 g2 hct hcs hk k0
  unfold Val.agg
  go_enter Tryz.func302, Tryz.ntmps302
  go_wp2
  go_region
  go_wp2
  refine bodyPost_ret (v := .tuple #[.agg #[.int .i64 v0.k, .int .i64 v0.a, .int .i64 v0.b], .bool true]) (by simp [results, Tryz.results302, go_sem]) rfl ⟨rfl, ?_, ?_⟩
  · have hd := dense_set (v := v) h1 H2.out H3.out h4 H5.out h6 h7 H8.out HK.out
    exact (hd.keep (T := fun _ => False) (((Fr.alloc1 _ _ _).alloc _).alloc _).drew (fun _ _ h => h))
  · exact (((((Fr.refl _ _).setCell (.inl (H8.out g rfl)) _).setCell (.inl (H8.out g rfl)) _).setCell (.inl (H8.out g rfl)) _).alloc _ |>.alloc _ |>.alloc _).drew
end Go.Proofs.YtclmjcjaebonnaaGreatDoor
end

/-
  Contracts of package dense: Put of a new index.
-/
section
set_option linter.unusedSimpArgs false
set_option linter.unusedVariables false
namespace Go.Proofs.YtclmjcjaebonnaaGreatDoor
open Go.RowKit Go.Maps Go.Viv

theorem infoRow : (Tryz.prog.info? 412).map (fun i => (i.zero, i.size, i.bytes)) = some (some (.agg #[.int .i64 0, .int .i64 0, .int .i64 0, .int .i64 0]), 4, 32) := by kernel_rfl

theorem pos_push {rs : List (Int × Val)} {i : Int} {v : Val} (hp : pos rs i = none) (j : Int) : pos (rs ++ [(i, v)]) j = if j = i then some rs.length else pos rs j := by
  unfold pos at *
  rw [List.findIdx?_append]
  by_cases hj : j = i
  · subst hj
    rw [if_pos rfl, hp]
    simp [List.findIdx?_cons]
  · rw [if_neg hj]
    have : ¬ i = j := fun e => hj e.symm
    simp [List.findIdx?_cons, this]

/-- What a new row makes of a Dense: w2 is the world behind the append. -/
theorem dense_push {w2 : World} {p bm : Nat} {i : Int} {v : Val} {rs : List (Int × Val)} {T : Nat → Prop} {sv sv' : Value} (hb : Blk w2 p 290 #[sv, .map (some bm)])
    (ho : w2.ownsRow 0 412 4 sv' (rs.length + 1) (rs.flatMap rowCells ++ [.int .i64 i, .int .i64 v.k, .int .i64 v.a, .int .i64 v.b])) (hm : IMap w2 Tryz.prog 3 3 bm (rs.length + 1) (fun j => if j = i then some (rs.length : Int) else (pos rs j).map (fun n : Nat => (n : Int))))
    (h4 : (rs.map (·.1)).Nodup) (h5 : ∀ r ∈ rs, 0 ≤ r.1 ∧ r.1 < 65536) (h6 : T p) (h7 : T bm) (h8 : ∀ k, sv'.ownBlock = some k → T k) (hp : pos rs i = none) (h0 : 0 ≤ i) (h1 : i < 65536) :
    DenseIs (w2.setCell ⟨p, 0, none⟩ sv') p (rs ++ [(i, v)]) T := by
  have hf : Fr (fun x => x = p) w2 (w2.setCell ⟨p, 0, none⟩ sv') := by
    refine Fr.setCell (Fr.refl _ _) ?_ _; exact .inl rfl
  have hbp : bm ≠ p := hm.ne_blk hb
  have hop : sv'.ownBlock ≠ some p := own_blk_ne ho hb (by decide)
  refine ⟨sv', bm, by simpa using hb.set_ 0 sv', ?_, ?_, ?_, ?_, h6, h7, h8⟩
  · have := own_fr ho hf (fun k hk e => hop (by rw [hk, e]))
    simpa [rowCells, Val.cells] using this
  · have := hm.fr hf hbp
    have e : (fun j => Option.map (fun n : Nat => (n : Int)) (pos (rs ++ [(i, v)]) j)) = fun j => if j = i then some (rs.length : Int) else (pos rs j).map (fun n : Nat => (n : Int)) := by
      funext j
      rw [pos_push hp]
      split <;> rfl
    rw [e]
    simpa using this
  · rw [List.map_append, List.nodup_append]
    refine ⟨h4, by simp, fun a ha b hb' => ?_⟩
    obtain ⟨r, hr, rfl⟩ := List.mem_map.1 ha
    have : b = i := by simpa using hb'
    subst this
    exact (pos_none hp).2.2 r hr
  · intro r hr
    rcases List.mem_append.1 hr with hr | hr
    · exact h5 r hr
    · have : r = (i, v) := by simpa using hr
      subst this
      exact ⟨h0, h1⟩

attribute [local go_sem ↓] wp_appendV
set_option maxHeartbeats 400000 in
theorem put_new (p : Nat) (i : Int) (v : Val) (rs : List (Int × Val)) (S : Nat → Prop) (w : World) (h : DenseIs w p rs S) (hi : (Lit.int .i64 i).wf = true) (h0 : 0 ≤ i) (h1' : i < 65536) (hp : pos rs i = none) :
    Calls Tryz.prog 302 #[.pointer (some ⟨p, 0, none⟩), .int .i64 i, v.agg] w fun e w' => e = .returned (.tuple #[Val.zero.agg, .bool false]) ∧ DenseIs w' p (rs ++ [(i, v)]) (Ext S w w') ∧ Fr S w w' := by
  have hlen := h.len
  obtain ⟨sv, bm, h1, h2, h3, h4, h5, h6, h7, h8⟩ := h
  obtain ⟨i0, hi0, hz0, hz1, hz2⟩ := info_parts infoRow
  have c0 := h1.cell 0
  have c1 := h1.cell 1
  have hpl := h1.lt
  have hbl := h3.lt
  have hrun := fun o o' => (h3.of_block (w' := (w.alloc o).alloc o') (by rw [Below.heap_alloc _ _ _ (by simp; omega), Below.heap_alloc _ _ _ hbl])).look Tryz.underlying3 Tryz.underlying3 Tryz.underlying283 zero3 hi
  simp only [hp, Option.map_none, Option.getD_none, Option.isSome_none] at hrun
  simp at c0 c1
  obtain ⟨A, cap, hsv, hcap⟩ := own_len h2
  -- the map's store
  have m3 := h3.of_block (w' := ((w.alloc (.cells #[.int .i64 v.k, .int .i64 v.a, .int .i64 v.b] 26)).alloc (.cells #[.int .i64 0, .int .i64 0, .int .i64 0] 26)).drew) (by
    show ((w.alloc _).alloc _).heap[bm]? = _
    rw [Below.heap_alloc _ _ _ (by simp; omega), Below.heap_alloc _ _ _ hbl])
  obtain ⟨w1, hst, hm1, hg1⟩ := m3.store Tryz.underlying3 Tryz.underlying3 Tryz.underlying283 (by unfold maxLen; omega) hi (v := (rs.length : Int)) (WalkArith.wf_i64 (by omega))
  have hpb : p ≠ bm := fun e => h3.ne_blk h1 e.symm
  have s1 : w.heap.size + 1 + 1 ≤ w1.heap.size := by have := hg1.size; simpa using this
  have d0 : w1.cell? ⟨p, 0, none⟩ = some (.slice A rs.length cap) := by
    rw [World.cell?_of_block (hg1.block p (by simp; omega) (fun e => hpb (by injection e)))]
    rw [← hsv, ← c0]
    go_simp
  have e0 : w1.cell? ⟨w.heap.size, 0, none⟩ = some (.int .i64 v.k) ∧ w1.cell? ⟨w.heap.size, 1, none⟩ = some (.int .i64 v.a) ∧ w1.cell? ⟨w.heap.size, 2, none⟩ = some (.int .i64 v.b) := by
    have hne : some w.heap.size ≠ some bm := fun e => by injection e; omega
    refine ⟨?_, ?_, ?_⟩ <;> (rw [World.cell?_of_block (hg1.block w.heap.size (by simp; omega) hne)]; go_simp)
  obtain ⟨e0, e1, e2⟩ := e0
  have f0 : w1.frozen? ⟨p, 0, none⟩ = false := by
    rw [World.frozen?_of_block (hg1.block p (by simp; omega) (fun e => hpb (by injection e)))]
    have := h1.frozen 0
    go_simp
  have s2 : p < w1.heap.size := by omega
  have fr1 : Fr (fun x => x = bm) w w1 := by
    refine Fr.grown (((Fr.refl _ w).alloc _).alloc _).drew hg1 ?_
    intro k hk; injection hk with hk; exact .inl hk.symm
  have h2a : (w1.alloc (.cells #[.int .i64 i, .int .i64 v.k, .int .i64 v.a, .int .i64 v.b] 412)).drew.ownsRow 0 412 4 sv rs.length (rs.flatMap rowCells) :=
    ((own_fr h2 fr1 (fun k hk e => own_map_ne h2 h3 (by rw [hk, e]))).alloc _).drew
  obtain ⟨sv', w2, happ, ho2, hg2, _, hat⟩ := run_append_own_at (P := Tryz.prog) _ 0 286 286 412 i0 _ 4 32 Tryz.underlying286 hi0 hz0 hz1 hz2 rfl (by omega) sv rs.length _ h2a
    ⟨w1.heap.size, 0, none⟩ 1 1 [.int .i64 i, .int .i64 v.k, .int .i64 v.a, .int .i64 v.b] rfl (World.news_of_block (cs := #[.int .i64 i, .int .i64 v.k, .int .i64 v.a, .int .i64 v.b]) (t := 412) (fr := (0, 0)) (heap_alloc_new w1 _)) (by simp [Value.oneCell'])
    (by unfold maxLen; omega) (by omega) (Nat.zero_le _)
  change appendV Tryz.prog 286 286 sv (.slice (some ⟨w1.heap.size, 0, none⟩) 1 1) _ = _ at happ
  rw [hsv] at happ
  obtain ⟨A', cap', hsv', hcap'⟩ := own_len ho2
  rw [hsv'] at happ
  have hne : ∀ k, k < w.heap.size → k ≠ bm → sv.ownBlock ≠ some k → w2.heap[k]? = w.heap[k]? := fun k hk hb ho => by
    rw [hg2.block k (by simp; omega) (Ne.symm ho)]
    show (w1.alloc _).heap[k]? = _
    rw [Below.heap_alloc _ _ _ (by omega), fr1.block k hk hb]
  have hnew : ∀ k, w.heap.size ≤ k → k < w.heap.size + 2 → w2.heap[k]? = ((w.alloc (.cells #[.int .i64 v.k, .int .i64 v.a, .int .i64 v.b] 26)).alloc (.cells #[.int .i64 0, .int .i64 0, .int .i64 0] 26)).heap[k]? := fun k hk hk2 => by
    rw [hg2.block k (by simp; omega) (fun e => by have := own_in h2 k e.symm; omega)]
    show (w1.alloc _).heap[k]? = _
    rw [Below.heap_alloc _ _ _ (by omega), hg1.block k (by simp; omega) (fun e => by injection e with e; omega)]
    rfl
  have gp : w2.heap[p]? = w.heap[p]? := hne p hpl hpb (own_blk_ne h2 h1 (by decide))
  have b2 : Blk w2 p 290 #[sv, .map (some bm)] := gp.trans h1
  have k0 := b2.cell 0
  have k1 := b2.frozen 0
  have b3 : Blk w2 (w.heap.size + 1) 26 #[.int .i64 0, .int .i64 0, .int .i64 0] := (hnew _ (by omega) (by omega)).trans (by
    have := heap_alloc_new (w.alloc (.cells #[.int .i64 v.k, .int .i64 v.a, .int .i64 v.b] 26)) (.cells #[.int .i64 0, .int .i64 0, .int .i64 0] 26)
    simpa using this)
  have l0 := b3.cell 0
  have l1 := b3.cell 1
  have l2 := b3.cell 2
  have l3 := b3.frozen 0
  have l4 := b3.frozen 1
  have l5 := b3.frozen 2
  simp at k0 l0 l1 l2
  rw [hsv] at k0
  have t1 : w.heap.size < w1.heap.size := by omega
  unfold Val.agg
  subst hsv
  have hS2 : ∀ k, sv'.ownBlock = some k → (S k ∨ (w.heap.size ≤ k ∧ k < w2.heap.size)) ∧ k ≠ w.heap.size + 1 := fun k hk => by
    rcases hat with e | e
    · have := own_in h2 k (by rw [← e]; exact hk)
      exact ⟨.inl (h8 k (by rw [← e]; exact hk)), by omega⟩
    · rw [e] at hk
      injection hk with hk
      have := own_in ho2 k (by rw [e, hk])
      simp at hk
      exact ⟨.inr ⟨by omega, this⟩, by omega⟩
  have m2 : IMap w2 Tryz.prog 3 3 bm (rs.length + 1) (fun j => if j = i then some (rs.length : Int) else (pos rs j).map (fun n : Nat => (n : Int))) :=
    hm1.of_block (by
      rw [hg2.block bm (by simp; omega) (fun e => own_map_ne h2 h3 e.symm)]
      exact Below.heap_alloc _ _ _ (by omega))
  have hz : w1.heap.size ≤ w2.heap.size := by have := hg2.size; simp at this; omega
  have frw : Fr S w w2 := by
    refine Fr.grown ((fr1.mono (T := S) (fun k _ hk => by rw [hk]; exact h7)).alloc _).drew hg2 (fun k hk => .inl (h8 k hk))
  have HD := Lib.hid (And.intro b2 (And.intro ho2 (And.intro m2 (And.intro h5 (And.intro hS2 (And.intro hp frw))))))
  clear m2 frw hS2
  subst hsv'
  clear h2 h3 h5 h8 hg1 hm1 m3 hp ho2 hg2 hat h2a fr1 hne hnew gp b2 b3
  go_enter Tryz.func302, Tryz.ntmps302
  have HI := Lib.hid (And.intro h0 h1')
  have q0 : decide (i < 0) = false := decide_eq_false (by omega)
  have q1 : decide (65536 ≤ i) = false := decide_eq_false (by omega)
  clear h0 h1'
  go_wp2
  go_region
  go_wp2
  go_region
  go_wp2
  obtain ⟨h0, h1'⟩ := HI.out
  have hq : ¬ p = w.heap.size + 1 := by omega
  have hq' : ¬ w.heap.size + 1 = p := by omega
  refine bodyPost_ret (v := .tuple #[.agg #[.int .i64 0, .int .i64 0, .int .i64 0], .bool false]) (by simp [results, Tryz.results302, go_sem, l0, l1, l2, hq, hq']) rfl ⟨rfl, ?_, ?_⟩
  · obtain ⟨b2, ho2, m2, h5, hS2, hp, frw⟩ := HD.out
    have hd := dense_push (T := fun k => k = p ∨ k = bm ∨ (Value.slice A' (rs.length + 1) cap').ownBlock = some k) b2 ho2 m2 h4 h5 (.inl rfl) (.inr (.inl rfl)) (fun k hk => .inr (.inr hk)) hp h0 h1'
    have hf : Fr (fun k => k = w.heap.size + 1) (w2.setCell ⟨p, 0, none⟩ (.slice A' (rs.length + 1) cap')) ((((w2.setCell ⟨p, 0, none⟩ (.slice A' (rs.length + 1) cap')).setCell ⟨w.heap.size + 1, 0, none⟩ (.int .i64 0)).setCell ⟨w.heap.size + 1, 1, none⟩ (.int .i64 0)).setCell ⟨w.heap.size + 1, 2, none⟩ (.int .i64 0)) := by
      refine Fr.setCell (Fr.setCell (Fr.setCell (Fr.refl _ _) ?_ _) ?_ _) ?_ _ <;> exact .inl rfl
    have hk := hd.keep hf (fun k hk => by
      rcases hk with rfl | rfl | hk
      · omega
      · omega
      · exact (hS2 k hk).2)
    refine hk.mono (fun k hk => ?_)
    rcases hk with rfl | rfl | hk
    · exact .inl h6
    · exact .inl h7
    · rcases (hS2 k hk).1 with h | h
      · exact .inl h
      · exact .inr (by simpa [World.setCell] using h)
  · obtain ⟨b2, ho2, m2, h5, hS2, hp, frw⟩ := HD.out
    refine Fr.setCell (Fr.setCell (Fr.setCell (Fr.setCell frw ?_ _) ?_ _) ?_ _) ?_ _
    · exact .inl h6
    all_goals exact .inr (by simp)
end Go.Proofs.YtclmjcjaebonnaaGreatDoor
end

/-
  Contracts of package dense: New, Len, Row, Put.
-/
section
set_option linter.unusedSimpArgs false
set_option linter.unusedVariables false
namespace Go.Proofs.YtclmjcjaebonnaaGreatDoor
open Go.RowKit Go.Maps Go.Viv

theorem put_out (p : Nat) (i : Int) (v : Val) (w : World) (h : i < 0 ∨ 65536 ≤ i) :
    Calls Tryz.prog 302 #[.pointer (some ⟨p, 0, none⟩), .int .i64 i, v.agg] w fun e w' => e = .returned (.tuple #[Val.zero.agg, .bool false]) ∧ Fr (fun _ => False) w w' := by
  unfold Val.agg
  rcases h with h | h
  · go_enter Tryz.func302, Tryz.ntmps302
    go_wp2
    refine bodyPost_ret (v := .tuple #[.agg #[.int .i64 0, .int .i64 0, .int .i64 0], .bool false]) (by simp [results, Tryz.results302, go_sem]) rfl ⟨rfl, ((Fr.refl _ _).alloc _).alloc _⟩
  · have h' : ¬ i < 0 := by omega
    go_enter Tryz.func302, Tryz.ntmps302
    go_wp2
    refine bodyPost_ret (v := .tuple #[.agg #[.int .i64 0, .int .i64 0, .int .i64 0], .bool false]) (by simp [results, Tryz.results302, go_sem]) rfl ⟨rfl, ((Fr.refl _ _).alloc _).alloc _⟩

theorem hasV_out {w : World} {p : Nat} {rs : List (Int × Val)} {S : Nat → Prop} (h : DenseIs w p rs S) {i : Int} (ho : i < 0 ∨ 65536 ≤ i) : pos rs i = none := by
  obtain ⟨sv, bm, h1, h2, h3, h4, h5, h6, h7, h8⟩ := h
  refine List.findIdx?_eq_none_iff.2 (fun r hr => ?_)
  have := h5 r hr
  simp; omega

theorem put_any (p : Nat) (i : Int) (v : Val) (rs : List (Int × Val)) (S : Nat → Prop) (w : World) (h : DenseIs w p rs S) (hi : (Lit.int .i64 i).wf = true) :
    Calls Tryz.prog 302 #[.pointer (some ⟨p, 0, none⟩), .int .i64 i, v.agg] w fun e w' => e = .returned (.tuple #[(getV rs i).agg, .bool (hasV rs i)]) ∧ DenseIs w' p (putV rs i v) (Ext S w w') ∧ Fr S w w' := by
  by_cases ho : i < 0 ∨ 65536 ≤ i
  · obtain ⟨g1, g2, _⟩ := pos_none (hasV_out h ho)
    rw [g1, g2, putV, if_pos ho]
    exact (put_out p i v w ho).mono fun e w' ⟨he, hf⟩ => ⟨he, (h.keep hf (fun _ _ h => h)).mono (fun k hk => .inl hk), hf.mono (fun _ _ h => h.elim)⟩
  · cases hp : pos rs i with
    | none =>
      obtain ⟨g1, g2, _⟩ := pos_none hp
      rw [g1, g2, putV, if_neg ho, hp]
      exact put_new p i v rs S w h hi (by omega) (by omega) hp
    | some k =>
      rw [putV, if_neg ho, hp]
      exact (put_found p i v rs S w h hi (by omega) (by omega) k hp).mono fun e w' ⟨he, hd, hf⟩ => ⟨he, hd.mono (fun k hk => .inl hk), hf⟩

theorem new_any (w : World) :
    Calls Tryz.prog 137 #[] w fun e w' => ∃ p, e = .returned (.pointer (some ⟨p, 0, none⟩)) ∧ DenseIs w' p [] (fun k => w.heap.size ≤ k ∧ k < w'.heap.size) ∧ Fr (fun _ => False) w w' := by
  have hmm := @run_makeMap Tryz.prog
  go_enter Tryz.func137, Tryz.ntmps137
  go_wp2
  go_ret
  refine ⟨w.heap.size + 1, rfl, ⟨.slice none 0 0, w.heap.size, ?_, World.ownsRow_nil _ _ _ _, ?_, by simp, by simp, ?_, ?_, ?_⟩, ?_⟩
  · have := Blk.new (w.alloc (.map #[] 0)) 290 #[.slice none 0 0, .map (some w.heap.size)]
    simpa using this
  · exact (IMap.made w Tryz.prog 3 3).fr (Fr.alloc1 (fun _ => False) _ _) (fun h => h)
  · simp
  · simp; omega
  · simp [Value.ownBlock]
  · exact ((Fr.refl _ _).alloc _).alloc _
end Go.Proofs.YtclmjcjaebonnaaGreatDoor
end
