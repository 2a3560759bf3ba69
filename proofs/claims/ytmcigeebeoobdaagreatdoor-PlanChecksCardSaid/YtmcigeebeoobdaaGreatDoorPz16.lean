/-
  Several texts in one. slices.Compact at whole numbers of which no two neighbours are one, slices.Clip, over the tree.
-/
import Derived.Test.YtmcigeebeoobdaaGreatDoorPz15
import Derived.Test.YtmcigeebeoobdaaGreatDoorPz02
import Derived.Laws.BitsAllLaws
import Derived.Test.YtmcigeebeoobdaaGreatDoorPz04
import Derived.Laws.BitsLemmas
section
set_option linter.unusedSimpArgs false
set_option linter.unusedVariables false
namespace Go.Proofs.YtmcigeebeoobdaaGreatDoor
open Go Go.RowKit Go.Viv Go.Eva Go.Sym
def apart : List Int → Bool
  | a :: b :: l => !decide (a = b) && apart (b :: l)
  | _ => true
theorem apart_at : ∀ {l : List Int} {j : Nat} {a b : Int}, apart l = true → l[j]? = some a → l[j + 1]? = some b → ¬ b = a
  | [], _, _, _, _, h, _ => by simp at h
  | [x], 0, _, _, _, _, h => by simp at h
  | [x], j + 1, _, _, _, h, _ => by simp at h
  | x :: y :: l, 0, a, b, h, h1, h2 => by
    simp only [apart, Bool.and_eq_true, Bool.not_eq_true', decide_eq_false_iff_not] at h
    simp at h1 h2
    subst h1 h2
    exact fun e => h.1 e.symm
  | x :: y :: l, j + 1, a, b, h, h1, h2 => by
    simp only [apart, Bool.and_eq_true] at h
    exact apart_at (l := y :: l) (j := j) h.2 (by simpa using h1) (by simpa using h2)
def cCompact : Sym.CallS := fun args s => match args with
  | [v] => match (rowB s.t 1 v).bind intsL with
    | some l => if apart l = true ∧ l.length ≤ 1000000 then some (v, s) else none
    | none => none
  | _ => none
def cClip : Sym.CallS := fun args s => match args with
  | [.slice none 0 0] => some (.slice none 0 0, s)
  | [.slice (some ⟨B, 0, none⟩) (n + 1) 0] => match s.t.at_ B with
    | some (.cells _ e true) => if e = 3 ∧ n ≤ 1000000 then some (.slice (some ⟨B, 0, none⟩) (n + 1) (n + 2), s) else none
    | _ => none
  | _ => none
section
variable {G : Nat} {ν : Toks} {W : World} {may : Nat → Prop} {call : CallB}
theorem compact_ok (hc : CallOK Tryz.prog G (LBegin Tryz.prog ν LL W may) ν call) : SpecOK Tryz.prog G (LBegin Tryz.prog ν LL W may) ν 112 cCompact := by
  refine fun_ok rfl (by kernel_rfl) hc fun args s v h' e Lv hlv hG => ?_
  unfold cCompact at e
  split at e <;> try (cases e; done)
  rename_i v0
  split at e <;> try (cases e; done)
  rename_i l hl
  split at e <;> try (cases e; done)
  rename_i hq
  obtain ⟨hap, hmil⟩ := hq
  simp only [Option.some.injEq, Prod.mk.injEq] at e
  obtain ⟨rfl, rfl⟩ := e
  obtain ⟨vs, hv, hvs⟩ := Option.bind_eq_some_iff.1 hl
  obtain rfl := intsL_eq hvs
  have ltv : ∀ X, occ X v0 = true → X < s.next := fun X h => hlv.lt _ (hlv.arg X (by simp [occL, h]))
  obtain ⟨a, n, c, rfl, hlen, hat⟩ := Go.Sym.row_at hv
  have hlc : (intsC l).length = l.length := by simp [intsC]
  rw [hlc] at hlen
  obtain rfl : n = l.length := by omega
  have get : ∀ (T : Tr AObj), (∀ X, X < s.next → T.at_ X = s.t.at_ X) → ∀ j x, l[j]? = some x → ∃ B o cs ty rw, a = some ⟨B, o, none⟩ ∧ T.at_ B = some (.cells cs ty rw) ∧ cs[o + j]? = some (.int .i64 x) := fun T hT j x hx => by
    obtain ⟨B, o, cs, ty, rw_, rfl, hB, g1, g2⟩ := hat j (List.getElem?_eq_some_iff.1 hx).1
    have hyc : ((intsC l).drop (j * 1)).take 1 = [.int .i64 x] := by
      rw [Nat.mul_one]
      have h1 : (intsC l)[j]? = some (.int .i64 x) := by unfold intsC; rw [List.getElem?_map, hx]; rfl
      obtain ⟨p1, p2⟩ := List.getElem?_eq_some_iff.1 h1
      rw [List.drop_eq_getElem_cons p1, p2]
      rfl
    rw [hyc] at g2
    exact ⟨B, o, cs, ty, rw_, rfl, (hT B (ltv B (by simp [occ]))).trans hB, Go.Sym.one_at g2⟩
  refine ⟨[], [], by cases s; rfl, 0, ?_⟩
  by_cases h2 : l.length < 2
  · refine ⟨Tryz.f112, _, Tryz.func112, rfl, by simp [Tryz.f112], ?_⟩; rw [Tryz.ntmps112]
    repeat' (first | simp (disch := omega) only [go_sem, reduceIte, sliceB, Tryz.results112] | (with_reducible refine w_chain0 ?_ ?_; focus (decide +kernel)) | (with_reducible refine condK_of _ _ ?_ ?_ <;> (intro hb; try simp only [decide_eq_true_eq, decide_eq_false_iff_not] at hb)) | (with_reducible refine gdK_of_f _ _ _ _ _ ?_ ?_ <;> (intro hb; try simp only [decide_eq_true_eq, decide_eq_false_iff_not] at hb)) | (with_reducible refine gdK_of_t _ _ _ _ _ ?_ ?_ <;> (intro hb; try simp only [decide_eq_true_eq, decide_eq_false_iff_not] at hb)) | (with_reducible refine gK_of_f _ _ _ ?_ ?_ <;> (intro hb; try simp only [decide_eq_true_eq, decide_eq_false_iff_not] at hb)) | (with_reducible refine gK_of_t _ _ _ ?_ ?_ <;> (intro hb; try simp only [decide_eq_true_eq, decide_eq_false_iff_not] at hb)))
    all_goals (refine ends_mk [] ?_ rfl ?_ ?_ ?_ ?_ <;> (try (intro X hX1 hX2; simp only [KeyIn, or_false, not_or, not_false_eq_true] at hX2)) <;> (try simp (disch := omega) only [go_sem, reduceIte, sliceB, AllMods, DistG, KeyIn, setL, news, not_false_eq_true, or_false, not_or, ne_eq, AllAt, AllObs, Dist, NotIn, kap_zero, kap_succ, kap_nil, inv_lt, inv_self, inv_add, ren_int, intsC_ren, and_true, and_self]) <;> (try omega))
    exact (ren_fix _ fun X h => inv_lt (ltv X h)).symm
  refine ⟨Tryz.f112, _, Tryz.func112, rfl, by simp [Tryz.f112], ?_⟩; rw [Tryz.ntmps112]
  repeat' (first | simp (disch := omega) only [go_sem, reduceIte, sliceB] | (with_reducible refine w_chain0 ?_ ?_; focus (decide +kernel)) | (with_reducible refine condK_of _ _ ?_ ?_ <;> (intro hb; try simp only [decide_eq_true_eq, decide_eq_false_iff_not] at hb)) | (with_reducible refine gdK_of_f _ _ _ _ _ ?_ ?_ <;> (intro hb; try simp only [decide_eq_true_eq, decide_eq_false_iff_not] at hb)) | (with_reducible refine gdK_of_t _ _ _ _ _ ?_ ?_ <;> (intro hb; try simp only [decide_eq_true_eq, decide_eq_false_iff_not] at hb)) | (with_reducible refine gK_of_f _ _ _ ?_ ?_ <;> (intro hb; try simp only [decide_eq_true_eq, decide_eq_false_iff_not] at hb)) | (with_reducible refine gK_of_t _ _ _ ?_ ?_ <;> (intro hb; try simp only [decide_eq_true_eq, decide_eq_false_iff_not] at hb)))
  refine w_loop (fun m T1 h => ∃ j, 1 ≤ j ∧ j ≤ l.length ∧ m = l.length - j ∧ Eva.look T1 0 = .slice a l.length c ∧ Eva.look T1 3 = .int .i64 (j : Int) ∧ s.next ≤ h.next ∧ ∀ X, X < s.next → h.t.at_ X = s.t.at_ X) (l.length - 1) ?_ ?_
  · refine ⟨1, by omega, by omega, by omega, ?_, ?_, Nat.le_refl _, fun _ _ => rfl⟩ <;> (simp (disch := omega) only [go_sem, reduceIte, sliceB]) <;> rfl
  · rintro m T1 h ⟨j, hj1, hj, hm, t0, t3, hnx, hold⟩
    by_cases hlt : j < l.length
    · obtain ⟨i, rfl⟩ : ∃ i, j = i + 1 := ⟨j - 1, by omega⟩
      obtain ⟨x, hx⟩ : ∃ x, l[i]? = some x := ⟨_, List.getElem?_eq_getElem (by omega)⟩
      obtain ⟨y, hy⟩ : ∃ y, l[i + 1]? = some y := ⟨_, List.getElem?_eq_getElem hlt⟩
      have hne := apart_at hap hx hy
      obtain ⟨B, o, cs, ty, rw_, rfl, hB, g1⟩ := get h.t hold i x hx
      obtain ⟨B2, o2, cs2, ty2, rw2, e2, hB2, g2⟩ := get h.t hold (i + 1) y hy
      cases e2
      rw [hB] at hB2
      cases hB2
      have hsub : (((i + 1 : Nat) : Int) - 1).toNat = i := by omega
      repeat' (first | simp (disch := omega) only [go_sem, reduceIte, sliceB, t0, t3, hB, g1, g2, hne, hsub, Int.toNat_natCast] | (with_reducible refine w_chain0 ?_ ?_; focus (decide +kernel)) | (with_reducible refine condK_of _ _ ?_ ?_ <;> (intro hb; try simp only [decide_eq_true_eq, decide_eq_false_iff_not] at hb)) | (with_reducible refine gdK_of_f _ _ _ _ _ ?_ ?_ <;> (intro hb; try simp only [decide_eq_true_eq, decide_eq_false_iff_not] at hb)) | (with_reducible refine gdK_of_t _ _ _ _ _ ?_ ?_ <;> (intro hb; try simp only [decide_eq_true_eq, decide_eq_false_iff_not] at hb)) | (with_reducible refine gK_of_f _ _ _ ?_ ?_ <;> (intro hb; try simp only [decide_eq_true_eq, decide_eq_false_iff_not] at hb)) | (with_reducible refine gK_of_t _ _ _ ?_ ?_ <;> (intro hb; try simp only [decide_eq_true_eq, decide_eq_false_iff_not] at hb)))
      exact ⟨l.length - (i + 1 + 1), by omega, i + 1 + 1, by omega, by omega, rfl, by simp, by omega, hold⟩
    · obtain rfl : j = l.length := by omega
      repeat' (first | simp (disch := omega) only [go_sem, reduceIte, sliceB, t0, t3, Tryz.results112] | (with_reducible refine w_chain0 ?_ ?_; focus (decide +kernel)) | (with_reducible refine condK_of _ _ ?_ ?_ <;> (intro hb; try simp only [decide_eq_true_eq, decide_eq_false_iff_not] at hb)) | (with_reducible refine gdK_of_f _ _ _ _ _ ?_ ?_ <;> (intro hb; try simp only [decide_eq_true_eq, decide_eq_false_iff_not] at hb)) | (with_reducible refine gdK_of_t _ _ _ _ _ ?_ ?_ <;> (intro hb; try simp only [decide_eq_true_eq, decide_eq_false_iff_not] at hb)) | (with_reducible refine gK_of_f _ _ _ ?_ ?_ <;> (intro hb; try simp only [decide_eq_true_eq, decide_eq_false_iff_not] at hb)) | (with_reducible refine gK_of_t _ _ _ ?_ ?_ <;> (intro hb; try simp only [decide_eq_true_eq, decide_eq_false_iff_not] at hb)))
      all_goals (refine ends_mk [] ?_ rfl ?_ ?_ ?_ ?_ <;> (try (intro X hX1 hX2; simp only [KeyIn, or_false, not_or, not_false_eq_true] at hX2)) <;> (try simp (disch := omega) only [go_sem, reduceIte, sliceB, AllMods, DistG, KeyIn, setL, news, not_false_eq_true, or_false, not_or, ne_eq, AllAt, AllObs, Dist, NotIn, kap_zero, kap_succ, kap_nil, inv_lt, inv_self, inv_add, ren_int, intsC_ren, and_true, and_self]) <;> (try omega))
      · exact hold X hX1
      · exact (ren_fix _ fun X h => inv_lt (ltv X h)).symm
theorem clip_ok (hc : CallOK Tryz.prog G (LBegin Tryz.prog ν LL W may) ν call) : SpecOK Tryz.prog G (LBegin Tryz.prog ν LL W may) ν 111 cClip := by
  refine fun_ok rfl (by kernel_rfl) hc fun args s v h' e Lv hlv hG => ?_
  unfold cClip at e
  split at e <;> try (cases e; done)
  · cases e
    refine ⟨[], [], by cases s; rfl, 0, ?_⟩
    refine ⟨Tryz.f111, _, Tryz.func111, rfl, by simp [Tryz.f111], ?_⟩; rw [Tryz.ntmps111]
    repeat' (first | simp (disch := omega) only [go_sem, reduceIte, sliceB, Option.isNone_some, Option.isSome_some, Option.isNone_none, Bool.or_true, Nat.sub_zero, Int.toNat_natCast, Tryz.results111] | (with_reducible refine w_chain0 ?_ ?_; focus (decide +kernel)) | (with_reducible refine condK_of _ _ ?_ ?_ <;> (intro hb; try simp only [decide_eq_true_eq, decide_eq_false_iff_not] at hb)) | (with_reducible refine gdK_of_f _ _ _ _ _ ?_ ?_ <;> (intro hb; try simp only [decide_eq_true_eq, decide_eq_false_iff_not] at hb)) | (with_reducible refine gdK_of_t _ _ _ _ _ ?_ ?_ <;> (intro hb; try simp only [decide_eq_true_eq, decide_eq_false_iff_not] at hb)) | (with_reducible refine gK_of_f _ _ _ ?_ ?_ <;> (intro hb; try simp only [decide_eq_true_eq, decide_eq_false_iff_not] at hb)) | (with_reducible refine gK_of_t _ _ _ ?_ ?_ <;> (intro hb; try simp only [decide_eq_true_eq, decide_eq_false_iff_not] at hb)))
    all_goals (refine ends_mk [] ?_ rfl ?_ ?_ ?_ ?_ <;> (try (intro X hX1 hX2; simp only [KeyIn, or_false, not_or, not_false_eq_true] at hX2)) <;> (try simp (disch := omega) only [go_sem, reduceIte, sliceB, AllMods, DistG, KeyIn, setL, news, not_false_eq_true, or_false, not_or, ne_eq, AllAt, AllObs, Dist, NotIn, kap_zero, kap_succ, kap_nil, inv_lt, inv_self, inv_add, ren_int, intsC_ren, and_true, and_self]) <;> (try omega))
  · rename_i B n
    split at e <;> try (cases e; done)
    rename_i cs ety hB
    split at e <;> try (cases e; done)
    rename_i hq
    obtain ⟨rfl, hn⟩ := hq
    cases e
    have lB := hlv.lt _ (hlv.arg B (by simp [occL, occ]))
    refine ⟨[], [], by cases s; rfl, 0, ?_⟩
    refine ⟨Tryz.f111, _, Tryz.func111, rfl, by simp [Tryz.f111], ?_⟩; rw [Tryz.ntmps111]
    repeat' (first | simp (disch := omega) only [go_sem, reduceIte, sliceB, hB, Option.isNone_some, Option.isSome_some, Option.isNone_none, Bool.or_true, Nat.sub_zero, Int.toNat_natCast, Nat.succ_eq_add_one, Tryz.results111] | (with_reducible refine w_chain0 ?_ ?_; focus (decide +kernel)) | (with_reducible refine condK_of _ _ ?_ ?_ <;> (intro hb; try simp only [decide_eq_true_eq, decide_eq_false_iff_not] at hb)) | (with_reducible refine gdK_of_f _ _ _ _ _ ?_ ?_ <;> (intro hb; try simp only [decide_eq_true_eq, decide_eq_false_iff_not] at hb)) | (with_reducible refine gdK_of_t _ _ _ _ _ ?_ ?_ <;> (intro hb; try simp only [decide_eq_true_eq, decide_eq_false_iff_not] at hb)) | (with_reducible refine gK_of_f _ _ _ ?_ ?_ <;> (intro hb; try simp only [decide_eq_true_eq, decide_eq_false_iff_not] at hb)) | (with_reducible refine gK_of_t _ _ _ ?_ ?_ <;> (intro hb; try simp only [decide_eq_true_eq, decide_eq_false_iff_not] at hb)))
    all_goals (refine ends_mk [] ?_ rfl ?_ ?_ ?_ ?_ <;> (try (intro X hX1 hX2; simp only [KeyIn, or_false, not_or, not_false_eq_true] at hX2)) <;> (try simp (disch := omega) only [go_sem, reduceIte, sliceB, AllMods, DistG, KeyIn, setL, news, not_false_eq_true, or_false, not_or, ne_eq, AllAt, AllObs, Dist, NotIn, kap_zero, kap_succ, kap_nil, inv_lt, inv_self, inv_add, ren_int, intsC_ren, and_true, and_self]) <;> (try omega))
end
end Go.Proofs.YtmcigeebeoobdaaGreatDoor
end

/-
  Sets of numbers in four levels: how they lie in memory. No program in sight.
-/
section
namespace Go.Viv
open Go.RowKit

def ptrV : Option Nat → Value
  | some k => .pointer (some ⟨k, 0, none⟩)
  | none => .pointer none

/-- A node's cells: its word, its kids. -/
def NodeC (w : World) (b : Nat) (word : Nat) (kid : Nat → Option Nat) : Prop :=
  ∃ t cs, Blk w b t cs ∧ cs[0]? = some (.int .u64 (word : Int)) ∧ ∀ d, d < 64 → cs[1 + d]? = some (ptrV (kid d))

section
variable {w w' : World} {b word : Nat} {kid : Nat → Option Nat}
theorem NodeC.lt (h : NodeC w b word kid) : b < w.heap.size := let ⟨_, _, h1, _⟩ := h; h1.lt
theorem NodeC.cell0 (h : NodeC w b word kid) : w.cell? ⟨b, 0, none⟩ = some (.int .u64 (word : Int)) := by
  obtain ⟨t, cs, h1, h2, _⟩ := h
  rw [h1.cell]; exact h2
theorem NodeC.cellK (h : NodeC w b word kid) {d : Nat} (hd : d < 64) : w.cell? ⟨b, 1 + d, none⟩ = some (ptrV (kid d)) := by
  obtain ⟨t, cs, h1, _, h3⟩ := h
  rw [h1.cell]; exact h3 d hd
theorem NodeC.frozen (h : NodeC w b word kid) (i : Nat) : w.frozen? ⟨b, i, none⟩ = false := let ⟨_, _, h1, _⟩ := h; h1.frozen i
theorem NodeC.of_block (h : NodeC w b word kid) (hb : w'.heap[b]? = w.heap[b]?) : NodeC w' b word kid := by
  obtain ⟨t, cs, h1, h2⟩ := h
  exact ⟨t, cs, hb.trans h1, h2⟩
theorem NodeC.kids (h : NodeC w b word kid) {k2 : Nat → Option Nat} (hk : ∀ d, d < 64 → k2 d = kid d) : NodeC w b word k2 := by
  obtain ⟨t, cs, h1, h2, h3⟩ := h
  exact ⟨t, cs, h1, h2, fun d hd => by rw [hk d hd]; exact h3 d hd⟩
theorem NodeC.setWord (h : NodeC w b word kid) (x : Nat) : NodeC (w.setCell ⟨b, 0, none⟩ (.int .u64 (x : Int))) b x kid := by
  obtain ⟨t, cs, h1, h2, h3⟩ := h
  have hlt : 0 < cs.size := (Array.getElem?_eq_some_iff.1 h2).1
  refine ⟨t, _, h1.set_ 0 _, ?_, fun d hd => ?_⟩
  · simp [hlt]
  · rw [Array.getElem?_setIfInBounds_ne (by omega)]
    exact h3 d hd
theorem NodeC.setKid (h : NodeC w b word kid) {d : Nat} (hd : d < 64) (x : Option Nat) : NodeC (w.setCell ⟨b, 1 + d, none⟩ (ptrV x)) b word (fun e => if e = d then x else kid e) := by
  obtain ⟨t, cs, h1, h2, h3⟩ := h
  have hlt : 1 + d < cs.size := (Array.getElem?_eq_some_iff.1 (h3 d hd)).1
  refine ⟨t, _, h1.set_ (1 + d) _, ?_, fun e he => ?_⟩
  · rw [Array.getElem?_setIfInBounds_ne (by omega)]; exact h2
  · by_cases hed : e = d
    · subst hed
      simp [hlt]
    · rw [Array.getElem?_setIfInBounds_ne (by omega)]
      simp only [if_neg hed]
      exact h3 e he
theorem NodeC.far (h : NodeC w b word kid) {a : Addr} (hp : b ≠ a.block) (u : Value) : NodeC (w.setCell a u) b word kid := h.of_block (Below.heap_setCell w a u b hp)
theorem NodeC.alloc (h : NodeC w b word kid) (o : Obj) : NodeC (w.alloc o) b word kid := h.of_block (Below.heap_alloc w o b h.lt)
theorem NodeC.fr {S : Nat → Prop} (h : NodeC w b word kid) (hf : Fr S w w') (hn : ¬ S b) : NodeC w' b word kid := h.of_block (hf.block b h.lt hn)
end

def kidsOf (nb : Nat → Nat → Option Nat) : Nat → Nat → Nat → Option Nat
  | 0, _, _ => none
  | L + 1, a, d => nb L (a * 64 + d)
def bitOf (nb : Nat → Nat → Option Nat) (l : List Nat) : Nat → Nat → Nat → Bool
  | 0, a, d => decide (a * 64 + d ∈ l)
  | L + 1, a, d => (nb L (a * 64 + d)).isSome

/-- A set's nodes: nb L a is the block of the node of level L that has the numbers with i / 64^(L+1) = a. -/
structure Tree (w : World) (p : Nat) (l : List Nat) (S : Nat → Prop) (nb : Nat → Nat → Option Nat) : Prop where
  top : nb 3 0 = some p
  only : ∀ a b, nb 3 a = some b → a = 0
  high : ∀ L a b, nb L a = some b → L ≤ 3
  node : ∀ L a b, nb L a = some b → S b ∧ ∃ word, word < 18446744073709551616 ∧ NodeC w b word (kidsOf nb L a) ∧ ∀ d, d < 64 → word.testBit d = bitOf nb l L a d
  inj : ∀ L a L' a' b, nb L a = some b → nb L' a' = some b → L = L' ∧ a = a'
  up : ∀ L a b, L < 3 → nb L a = some b → ∃ b', nb (L + 1) (a / 64) = some b'
  low : ∀ i, i ∈ l → ∃ b, nb 0 (i / 64) = some b
  lt : ∀ i, i ∈ l → i < 16777216

def upN (nb : Nat → Nat → Option Nat) (L a : Nat) (v : Option Nat) : Nat → Nat → Option Nat := fun L' a' => if L' = L ∧ a' = a then v else nb L' a'
theorem upN_same (nb : Nat → Nat → Option Nat) (L a : Nat) (v : Option Nat) : upN nb L a v L a = v := by unfold upN; rw [if_pos ⟨rfl, rfl⟩]
theorem upN_ne {nb : Nat → Nat → Option Nat} {L a : Nat} {v : Option Nat} {L' a' : Nat} (h : ¬ (L' = L ∧ a' = a)) : upN nb L a v L' a' = nb L' a' := by unfold upN; rw [if_neg h]

section
variable {w w' : World} {p : Nat} {l : List Nat} {S : Nat → Prop} {nb : Nat → Nat → Option Nat}
theorem Tree.mono (h : Tree w p l S nb) {T : Nat → Prop} (hT : ∀ k, S k → T k) : Tree w p l T nb := { h with node := fun L a b hb => ⟨hT _ (h.node L a b hb).1, (h.node L a b hb).2⟩ }
theorem Tree.fr (h : Tree w p l S nb) {T : Nat → Prop} (hf : Fr T w w') (hd : ∀ k, S k → ¬ T k) : Tree w' p l S nb :=
  ⟨h.top, h.only, h.high, fun L a b hb => (by
      obtain ⟨h1, word, h2, h3, h4⟩ := h.node L a b hb
      exact ⟨h1, word, h2, h3.fr hf (hd _ h1), h4⟩), h.inj, h.up, h.low, h.lt⟩
theorem Tree.path (h : Tree w p l S nb) {i : Nat} (hi : i ∈ l) : ∀ L, L ≤ 3 → ∃ b, nb L (i / 64 ^ (L + 1)) = some b
  | 0, _ => by simpa using h.low i hi
  | L + 1, hL => by
    obtain ⟨b, hb⟩ := h.path hi L (by omega)
    obtain ⟨b', hb'⟩ := h.up L _ b (by omega) hb
    exact ⟨b', by rw [Nat.pow_succ 64 (L + 1), ← Nat.div_div_eq_div_mul]; exact hb'⟩

/-- A node grown below another one. -/
theorem Tree.grow (h : Tree w p l S nb) {L a b g d word' : Nat} (hb : nb (L + 1) a = some b) (hd : d < 64) (hn : nb L (a * 64 + d) = none) (hg : ¬ S g)
    (hw : word' < 18446744073709551616) (hbit : ∀ e, e < 64 → word'.testBit e = (decide (e = d) || bitOf nb l (L + 1) a e)) (hB : NodeC w' b word' (fun e => if e = d then some g else kidsOf nb (L + 1) a e))
    (hG : NodeC w' g 0 (fun _ => none)) (hO : ∀ k, S k → k ≠ b → w'.heap[k]? = w.heap[k]?) :
    Tree w' p l (fun k => S k ∨ k = g) (upN nb L (a * 64 + d) (some g)) := by
  have hL := h.high _ _ _ hb
  have hnS : ∀ L' a' b', nb L' a' = some b' → b' ≠ g := fun L' a' b' hb' e => hg (e ▸ (h.node L' a' b' hb').1)
  have hkids : ∀ L' a', ¬ (L' = L + 1 ∧ a' = a) → ∀ e, e < 64 → kidsOf (upN nb L (a * 64 + d) (some g)) L' a' e = kidsOf nb L' a' e := by
    intro L' a' hne e he
    cases L' with
    | zero => rfl
    | succ M =>
      refine upN_ne (fun ⟨h1, h2⟩ => hne ⟨by omega, by omega⟩)
  have hbits : ∀ L' a', ¬ (L' = L + 1 ∧ a' = a) → ∀ e, e < 64 → bitOf (upN nb L (a * 64 + d) (some g)) l L' a' e = bitOf nb l L' a' e := by
    intro L' a' hne e he
    cases L' with
    | zero => rfl
    | succ M =>
      show ((upN nb L (a * 64 + d) (some g)) M (a' * 64 + e)).isSome = (nb M (a' * 64 + e)).isSome
      rw [upN_ne (fun ⟨h1, h2⟩ => hne ⟨by omega, by omega⟩)]
  refine ⟨?_, ?_, ?_, ?_, ?_, ?_, ?_, h.lt⟩
  · rw [upN_ne (by omega)]; exact h.top
  · intro a' b' hb'
    rw [upN_ne (by omega)] at hb'
    exact h.only _ _ hb'
  · intro L' a' b' hb'
    by_cases he : L' = L ∧ a' = a * 64 + d
    · omega
    · rw [upN_ne he] at hb'; exact h.high _ _ _ hb'
  · intro L' a' b' hb'
    by_cases he : L' = L ∧ a' = a * 64 + d
    · obtain ⟨rfl, rfl⟩ := he
      rw [upN_same] at hb'
      obtain rfl := Option.some.inj hb'
      refine ⟨.inr rfl, 0, by decide, ?_, ?_⟩
      · refine hG.kids (fun e he => ?_)
        cases L' with
        | zero => rfl
        | succ M =>
          show upN nb (M + 1) (a * 64 + d) (some g) M ((a * 64 + d) * 64 + e) = none
          rw [upN_ne (by omega)]
          cases hc : nb M ((a * 64 + d) * 64 + e) with
          | none => rfl
          | some c =>
            obtain ⟨b2, hb2⟩ := h.up M _ c (by omega) hc
            rw [show ((a * 64 + d) * 64 + e) / 64 = a * 64 + d by omega, hn] at hb2
            cases hb2
      · intro e he
        rw [Nat.zero_testBit]
        cases L' with
        | zero =>
          show false = decide ((a * 64 + d) * 64 + e ∈ l)
          refine (decide_eq_false (fun hm => ?_)).symm
          obtain ⟨b2, hb2⟩ := h.low _ hm
          rw [show ((a * 64 + d) * 64 + e) / 64 = a * 64 + d by omega, hn] at hb2
          cases hb2
        | succ M =>
          show false = (upN nb (M + 1) (a * 64 + d) (some g) M ((a * 64 + d) * 64 + e)).isSome
          rw [upN_ne (by omega)]
          cases hc : nb M ((a * 64 + d) * 64 + e) with
          | none => rfl
          | some c =>
            obtain ⟨b2, hb2⟩ := h.up M _ c (by omega) hc
            rw [show ((a * 64 + d) * 64 + e) / 64 = a * 64 + d by omega, hn] at hb2
            cases hb2
    · rw [upN_ne he] at hb'
      by_cases he2 : L' = L + 1 ∧ a' = a
      · obtain ⟨rfl, rfl⟩ := he2
        obtain rfl : b = b' := Option.some.inj (hb.symm.trans hb')
        refine ⟨.inl (h.node _ _ _ hb).1, word', hw, hB.kids (fun e he' => ?_), fun e he' => ?_⟩
        · show upN nb L (a' * 64 + d) (some g) L (a' * 64 + e) = _
          by_cases hed : e = d
          · subst hed; rw [upN_same, if_pos rfl]
          · rw [upN_ne (by omega), if_neg hed]; rfl
        · rw [hbit e he']
          show _ = (upN nb L (a' * 64 + d) (some g) L (a' * 64 + e)).isSome
          by_cases hed : e = d
          · subst hed; rw [upN_same]; simp
          · rw [upN_ne (by omega)]
            show _ = (nb L (a' * 64 + e)).isSome
            rw [decide_eq_false hed, Bool.false_or]
            rfl
      · obtain ⟨h1, word, h2, h3, h4⟩ := h.node _ _ _ hb'
        have hne : b' ≠ b := fun e => by
          subst e
          have := h.inj _ _ _ _ _ hb' hb
          exact he2 this
        exact ⟨.inl h1, word, h2, (h3.of_block (hO b' h1 hne)).kids (hkids L' a' he2), fun e he' => by rw [hbits L' a' he2 e he']; exact h4 e he'⟩
  · intro L1 a1 L2 a2 b' h1 h2
    by_cases he1 : L1 = L ∧ a1 = a * 64 + d
    · by_cases he2 : L2 = L ∧ a2 = a * 64 + d
      · omega
      · obtain ⟨rfl, rfl⟩ := he1
        rw [upN_same] at h1
        rw [upN_ne he2] at h2
        exact absurd (Option.some.inj h1).symm (hnS _ _ _ h2)
    · rw [upN_ne he1] at h1
      by_cases he2 : L2 = L ∧ a2 = a * 64 + d
      · obtain ⟨rfl, rfl⟩ := he2
        rw [upN_same] at h2
        exact absurd (Option.some.inj h2).symm (hnS _ _ _ h1)
      · rw [upN_ne he2] at h2
        exact h.inj _ _ _ _ _ h1 h2
  · intro L' a' b' hL' hb'
    by_cases he : L' = L ∧ a' = a * 64 + d
    · obtain ⟨rfl, rfl⟩ := he
      exact ⟨b, by rw [upN_ne (by omega), show (a * 64 + d) / 64 = a by omega]; exact hb⟩
    · rw [upN_ne he] at hb'
      obtain ⟨b2, hb2⟩ := h.up L' a' b' hL' hb'
      by_cases he2 : L' + 1 = L ∧ a' / 64 = a * 64 + d
      · exact ⟨g, by rw [he2.1, he2.2, upN_same]⟩
      · exact ⟨b2, by rw [upN_ne he2]; exact hb2⟩
  · intro i hi
    obtain ⟨b2, hb2⟩ := h.low i hi
    by_cases he2 : 0 = L ∧ i / 64 = a * 64 + d
    · exact ⟨g, by rw [← he2.1, he2.2, upN_same]⟩
    · exact ⟨b2, by rw [upN_ne he2]; exact hb2⟩

/-- A node's word laid anew, its meaning unchanged. -/
theorem Tree.same (h : Tree w p l S nb) {b : Nat} (hO : ∀ k, S k → k ≠ b → w'.heap[k]? = w.heap[k]?) (hB : ∀ word kid, NodeC w b word kid → NodeC w' b word kid) : Tree w' p l S nb :=
  ⟨h.top, h.only, h.high, fun L a b' hb' => (by
      obtain ⟨h1, word, h2, h3, h4⟩ := h.node L a b' hb'
      refine ⟨h1, word, h2, ?_, h4⟩
      by_cases hbb : b' = b
      · subst hbb; exact hB _ _ h3
      · exact h3.of_block (hO b' h1 hbb)), h.inj, h.up, h.low, h.lt⟩

/-- The numbers of one node at the lowest level turned. -/
theorem Tree.leaf (h : Tree w p l S nb) {a b word' : Nat} {l' : List Nat} (hb : nb 0 a = some b) (hw : word' < 18446744073709551616) (hbit : ∀ d, d < 64 → word'.testBit d = decide (a * 64 + d ∈ l'))
    (hB : NodeC w' b word' (fun _ => none)) (hO : ∀ k, S k → k ≠ b → w'.heap[k]? = w.heap[k]?) (hl : ∀ i, i / 64 ≠ a → (i ∈ l' ↔ i ∈ l)) (ha : a < 262144) : Tree w' p l' S nb := by
  refine ⟨h.top, h.only, h.high, ?_, h.inj, h.up, ?_, ?_⟩
  · intro L' a' b' hb'
    obtain ⟨h1, word, h2, h3, h4⟩ := h.node L' a' b' hb'
    by_cases he : L' = 0 ∧ a' = a
    · obtain ⟨rfl, rfl⟩ := he
      obtain rfl : b = b' := Option.some.inj (hb.symm.trans hb')
      exact ⟨h1, word', hw, hB, hbit⟩
    · have hne : b' ≠ b := fun e => by
        subst e
        exact he (h.inj _ _ _ _ _ hb' hb)
      refine ⟨h1, word, h2, h3.of_block (hO b' h1 hne), fun d hd => ?_⟩
      rw [h4 d hd]
      cases L' with
      | zero =>
        show decide _ = decide _
        rw [decide_eq_decide, hl]
        omega
      | succ M => rfl
  · intro i hi
    by_cases hia : i / 64 = a
    · exact ⟨b, by rw [hia]; exact hb⟩
    · exact h.low i ((hl i hia).1 hi)
  · intro i hi
    by_cases hia : i / 64 = a
    · omega
    · exact h.lt i ((hl i hia).1 hi)

/-- An empty node struck. -/
theorem Tree.prune (h : Tree w p l S nb) {L a b g word' : Nat} (hb : nb (L + 1) (a / 64) = some b) (hg : nb L a = some g) (h0 : ∀ kid word, NodeC w g word kid → word = 0)
    (hw : word' < 18446744073709551616) (hbit : ∀ e, e < 64 → word'.testBit e = (!decide (e = a % 64) && bitOf nb l (L + 1) (a / 64) e)) (hB : NodeC w' b word' (fun e => if e = a % 64 then none else kidsOf nb (L + 1) (a / 64) e))
    (hO : ∀ k, S k → k ≠ b → w'.heap[k]? = w.heap[k]?) : Tree w' p l S (upN nb L a none) := by
  have hL := h.high _ _ _ hb
  obtain ⟨hgS, gw, _, hgn, hgb⟩ := h.node _ _ _ hg
  obtain rfl := h0 _ _ hgn
  have hbg : b ≠ g := fun e => by
    subst e
    have := h.inj _ _ _ _ _ hb hg
    omega
  refine ⟨?_, ?_, ?_, ?_, ?_, ?_, ?_, h.lt⟩
  · rw [upN_ne (by omega)]; exact h.top
  · intro a' b' hb'
    rw [upN_ne (by omega)] at hb'
    exact h.only _ _ hb'
  · intro L' a' b' hb'
    by_cases he : L' = L ∧ a' = a
    · omega
    · rw [upN_ne he] at hb'; exact h.high _ _ _ hb'
  · intro L' a' b' hb'
    have he : ¬ (L' = L ∧ a' = a) := fun he => by
      obtain ⟨rfl, rfl⟩ := he
      rw [upN_same] at hb'; cases hb'
    rw [upN_ne he] at hb'
    by_cases he2 : L' = L + 1 ∧ a' = a / 64
    · obtain ⟨rfl, rfl⟩ := he2
      obtain rfl : b = b' := Option.some.inj (hb.symm.trans hb')
      refine ⟨(h.node _ _ _ hb).1, word', hw, hB.kids (fun e he' => ?_), fun e he' => ?_⟩
      · show upN nb L a none L (a / 64 * 64 + e) = _
        by_cases hed : e = a % 64
        · subst hed; rw [show a / 64 * 64 + a % 64 = a by omega, upN_same, if_pos rfl]
        · rw [upN_ne (by omega), if_neg hed]; rfl
      · rw [hbit e he']
        show _ = (upN nb L a none L (a / 64 * 64 + e)).isSome
        by_cases hed : e = a % 64
        · subst hed; rw [show a / 64 * 64 + a % 64 = a by omega, upN_same]; simp
        · rw [upN_ne (by omega)]
          show _ = (nb L (a / 64 * 64 + e)).isSome
          rw [decide_eq_false hed]
          rfl
    · obtain ⟨h1, word, h2, h3, h4⟩ := h.node _ _ _ hb'
      have hne : b' ≠ b := fun e => by
        subst e
        exact he2 (h.inj _ _ _ _ _ hb' hb)
      refine ⟨h1, word, h2, (h3.of_block (hO b' h1 hne)).kids (fun e he' => ?_), fun e he' => ?_⟩
      · cases L' with
        | zero => rfl
        | succ M => exact upN_ne (fun ⟨h1, h2⟩ => he2 ⟨by omega, by omega⟩)
      · rw [h4 e he']
        cases L' with
        | zero => rfl
        | succ M =>
          show (nb M (a' * 64 + e)).isSome = (upN nb L a none M (a' * 64 + e)).isSome
          rw [upN_ne (fun ⟨h1, h2⟩ => he2 ⟨by omega, by omega⟩)]
  · intro L1 a1 L2 a2 b' h1 h2
    have he1 : ¬ (L1 = L ∧ a1 = a) := fun he => by
      obtain ⟨rfl, rfl⟩ := he
      rw [upN_same] at h1; cases h1
    have he2 : ¬ (L2 = L ∧ a2 = a) := fun he => by
      obtain ⟨rfl, rfl⟩ := he
      rw [upN_same] at h2; cases h2
    rw [upN_ne he1] at h1
    rw [upN_ne he2] at h2
    exact h.inj _ _ _ _ _ h1 h2
  · intro L' a' b' hL' hb'
    have he : ¬ (L' = L ∧ a' = a) := fun he => by
      obtain ⟨rfl, rfl⟩ := he
      rw [upN_same] at hb'; cases hb'
    rw [upN_ne he] at hb'
    obtain ⟨b2, hb2⟩ := h.up L' a' b' hL' hb'
    by_cases he2 : L' + 1 = L ∧ a' / 64 = a
    · exfalso
      obtain ⟨rfl, rfl⟩ := he2
      have := hgb (a' % 64) (Nat.mod_lt _ (by decide))
      rw [Nat.zero_testBit] at this
      have e2 : bitOf nb l (L' + 1) (a' / 64) (a' % 64) = (nb L' (a' / 64 * 64 + a' % 64)).isSome := rfl
      rw [e2, show a' / 64 * 64 + a' % 64 = a' by omega, hb'] at this
      cases this
    · exact ⟨b2, by rw [upN_ne he2]; exact hb2⟩
  · intro i hi
    obtain ⟨b2, hb2⟩ := h.low i hi
    by_cases he2 : 0 = L ∧ i / 64 = a
    · exfalso
      obtain ⟨rfl, rfl⟩ := he2
      have := hgb (i % 64) (Nat.mod_lt _ (by decide))
      rw [Nat.zero_testBit] at this
      have e2 : bitOf nb l 0 (i / 64) (i % 64) = decide (i / 64 * 64 + i % 64 ∈ l) := rfl
      rw [e2, show i / 64 * 64 + i % 64 = i by omega, decide_eq_true hi] at this
      cases this
    · exact ⟨b2, by rw [upN_ne he2]; exact hb2⟩
end
end Go.Viv
end

/-
  A region that draws its order, walked once by a list: what reads, and calls that leave the world, are taken as soon as they may come up; what is left comes up in one order. Two forms: over a class of worlds (wp_region_cls); or, where every effect waits for all that stands ahead, in the world as it is (wp_region_bar). No program in sight.
-/
section
namespace Go.Ord
open Go Go.Mix

section
variable {P : Program} {ops : Array Oper} {Q : Exit → Act → World → Prop} {md : Region.Mode} {S : World → Prop}

/-- In every world of the class the operation yields v, and leaves that world. -/
def QY (P : Program) (ops : Array Oper) (S : World → Prop) (o : Oper) (v : Value) (a : Act) : Prop :=
  (Region.wanted o (yielded ops a.tmps) = true ∧ ∀ w, S w → o.quietAt P a (fun w'' => w'' = w) w v) ∨
  (Region.wanted o (yielded ops a.tmps) = false ∧ v = undef)

theorem upon_quiet {o : Oper} {a : Act} {w : World} {v : Value} {K : Act → World → Prop} (h : o.quietAt P a (fun w'' => w'' = w) w v) (hK : K (a.put o.dst v) w) : o.wp P a w K Q := by
  unfold Oper.quietAt at h
  unfold Oper.wp
  generalize (execOp a.eval o).run P w = r at *
  cases r with
  | ok n w' =>
    cases n <;> simp only [Oper.quietUpon] at h <;> simp only [Oper.upon]
    case value u => obtain ⟨rfl, rfl⟩ := h; exact hK
    case skip => obtain ⟨rfl, rfl⟩ := h; exact hK
    case enter f args =>
      obtain ⟨rfl, h⟩ := h
      refine Calls.mono h fun e w'' ⟨he, hw⟩ => ?_
      subst he hw
      exact hK
  | halt x w' => simp only [Oper.quietUpon] at h
theorem QY.wpOp {i : Nat} {o : Oper} {v : Value} {a : Act} (hi : ops[i]? = some o) (hy : QY P ops S o v a) {K : Act → World → Prop} {w : World} (hS : S w) (h : K (a.put o.dst v) w) : wpOp P ops Q i K a w := by
  unfold Go.wpOp
  simp only [hi]
  rcases hy with ⟨hw, hv⟩ | ⟨hw, rfl⟩
  · simp only [hw, if_true]; exact .inl (upon_quiet (hv w hS) h)
  · simp only [hw, Bool.false_eq_true, if_false]; exact h
theorem QY.of_same {o : Oper} {v : Value} {a a' : Act} (hy : QY P ops S o v a) (he : execOp a'.eval o = execOp a.eval o) (hw : Region.wanted o (yielded ops a'.tmps) = Region.wanted o (yielded ops a.tmps)) : QY P ops S o v a' := by
  unfold QY Oper.quietAt at *
  rw [he, hw]
  exact hy
theorem wpOp_putQ {j : Nat} {oi oj : Oper} {v : Value} (hj : ops[j]? = some oj) (hap : oi.apart ops oj = true)
    (hsi : ∀ cs b, oi.op ≠ .select cs b) (hsj : ∀ cs b, oj.op ≠ .select cs b)
    (hQ : ∀ c a w, Q (.panic c) (a.put oi.dst v) w → Q (.panic c) a w) {K : Act → World → Prop} {a : Act} {w : World}
    (hy : QY P ops S oi v a) (h : wpOp P ops Q j K (a.put oi.dst v) w) :
    wpOp P ops Q j (fun a' w' => QY P ops S oi v a' ∧ K (a'.put oi.dst v) w') a w := by
  obtain ⟨h1, h2, h3⟩ := Oper.apart_spec hap
  have keep : ∀ (a : Act), QY P ops S oi v a → ∀ u, QY P ops S oi v (a.put oj.dst u) := fun a hy u =>
    hy.of_same (execOp_put oi hsi a oj.dst u h3) (wanted_put oi a oj.dst u h3)
  have keepD : ∀ d, QY P ops S oi v { a with defers := d :: a.defers } := fun d => hy.of_same rfl rfl
  unfold Go.wpOp at *
  simp only [hj] at *
  rw [wanted_put oj a oi.dst v h1] at h
  split
  · rename_i hw
    simp only [hw, if_true] at h
    rcases h with h | ⟨hasks, hlets⟩
    case inr => exact .inr ⟨by unfold Oper.asks at *; rw [execOp_put oj hsj a oi.dst v h1] at hasks; exact hasks, hlets⟩
    refine .inl ?_
    unfold Oper.wp at *
    rw [execOp_put oj hsj a oi.dst v h1] at h
    generalize (execOp a.eval oj).run P w = r at *
    cases r with
    | ok n w' =>
      cases n <;> simp only [Oper.upon] at h ⊢
      case value u => exact ⟨keep a hy u, by rw [← Act.put_comm a v u h2]; exact h⟩
      case skip => exact ⟨keep a hy _, by rw [← Act.put_comm a v undef h2]; exact h⟩
      case defer d =>
        refine ⟨keep _ (keepD d) _, ?_⟩
        rw [← Act.put_comm _ v undef h2, ← Act.put_defers]
        exact h
      case enter f args =>
        refine Calls.mono h fun e w'' he => ?_
        cases e with
        | returned u => exact ⟨keep a hy u, by rw [← Act.put_comm a v u h2]; exact he⟩
        | panicked c => exact hQ _ _ _ he
        | outgrown => exact he
      case row row args => exact Rows.mono h fun u w'' he => ⟨keep a hy u, by rw [← Act.put_comm a v u h2]; exact he⟩
    | halt x w' =>
      cases x <;> simp only [Oper.upon] at h ⊢
      case panic u => exact hQ _ _ _ h
  · rename_i hw
    simp only [hw] at h
    exact ⟨keep a hy _, by rw [← Act.put_comm a v undef h2]; exact h⟩

/-- What is asked of an operation that reads. -/
def q1 (P : Program) (ops : Array Oper) (S : World → Prop) (next : Act → Prop) (o : Oper) (a : Act) : Prop :=
  if Region.wanted o (yielded ops a.tmps) then ∃ v, (∀ w, S w → o.quietAt P a (fun w'' => w'' = w) w v) ∧ next (a.put o.dst v) else next (a.put o.dst undef)
theorem q1_spec {next : Act → Prop} {o : Oper} {a : Act} (h : q1 P ops S next o a) : ∃ v, QY P ops S o v a ∧ next (a.put o.dst v) := by
  unfold q1 at h
  by_cases hw : Region.wanted o (yielded ops a.tmps) = true
  · rw [if_pos hw] at h
    obtain ⟨v, h1, h2⟩ := h
    exact ⟨v, .inl ⟨hw, h1⟩, h2⟩
  · rw [if_neg hw] at h
    exact ⟨undef, .inr ⟨by simpa using hw, rfl⟩, h⟩
theorem q1_step {next : Act → Prop} {o : Oper} {a : Act} (h : ∀ K : Act → Prop, (∀ a, next a → K a) → if Region.wanted o (yielded ops a.tmps) then ∃ v, (∀ w, S w → o.quietAt P a (fun w'' => w'' = w) w v) ∧ K (a.put o.dst v) else K (a.put o.dst undef)) : q1 P ops S next o a :=
  h _ (fun _ h => h)

/-! ### Over a class of worlds -/
/-- kp i: behind operation number i the class is to be shown. -/
def wpAnyC (P : Program) (md : Region.Mode) (ops : Array Oper) (Q : Exit → Act → World → Prop) (S : World → Prop) (kp : Nat → Bool) : Nat → Array Bool → Act → World → Prop
  | 0, listed, a, w => Region.ready md ops listed = [] ∧ Q .normal a w
  | fuel + 1, listed, a, w =>
    (Region.ready md ops listed = [] → Q .normal a w) ∧
    ∀ i ∈ Region.ready md ops listed, wpOp P ops Q i (fun a' w' => (kp i = true → S w') ∧ wpAnyC P md ops Q S kp fuel (listed.setIfInBounds i true) a' w') a w
theorem wpAny_of_C {kp : Nat → Bool} : ∀ (fuel : Nat) (listed : Array Bool) (a : Act) (w : World), wpAnyC P md ops Q S kp fuel listed a w → wpAny P md ops Q fuel listed a w
  | 0, _, _, _, h => h
  | fuel + 1, _, _, _, h => ⟨h.1, fun i hi => wpOp_mono (fun a' w' h' => wpAny_of_C fuel _ a' w' h'.2) (h.2 i hi)⟩
theorem wpAnyC_first {kp : Nat → Bool} {i : Nat} {oi : Oper} {v : Value} (hi : ops[i]? = some oi) (hsel : ∀ (j : Nat) (o : Oper) cs b, ops[j]? = some o → o.op ≠ .select cs b)
    (hQ : ∀ c a w, Q (.panic c) (a.put oi.dst v) w → Q (.panic c) a w) {m : Array Nat} (hm : maskB md ops m = true) (hk : ∀ j, j < ops.size → kp j = false → (m.getD j 0).testBit i = true) :
    ∀ (fuel : Nat) (listed : Array Bool) (a : Act) (w : World), listed.size = ops.size → Down md ops listed →
      (∀ j oj, ops[j]? = some oj → j ≠ i → listed.getD j true = false → (∀ e ∈ oj.after, Region.binds md e = true → e.on ≠ i) → oi.apart ops oj = true) →
      i ∈ Region.ready md ops listed → QY P ops S oi v a → S w →
      wpAnyC P md ops Q S kp fuel (listed.setIfInBounds i true) (a.put oi.dst v) w → wpAnyC P md ops Q S kp (fuel + 1) listed a w := by
  intro fuel
  have hilt : i < ops.size := (Array.getElem?_eq_some_iff.1 hi).1
  induction fuel with
  | zero =>
    intro listed a w _ _ _ hr hy hS H
    refine ⟨fun h => (by rw [h] at hr; cases hr), fun j hj => ?_⟩
    by_cases hji : j = i
    · subst hji
      exact hy.wpOp hi hS ⟨fun _ => hS, H⟩
    · have := ready_mono hj hji
      rw [H.1] at this
      cases this
  | succ fuel ih =>
    intro listed a w hsz hdown hfree hr hy hS H
    refine ⟨fun h => (by rw [h] at hr; cases hr), fun j hj => ?_⟩
    by_cases hji : j = i
    · subst hji
      exact hy.wpOp hi hS ⟨fun _ => hS, H⟩
    · have h1 := H.2 j (ready_mono hj hji)
      obtain ⟨hjun, oj, hoj, hall⟩ := mem_ready.1 hj
      have hjlt : j < ops.size := (Array.getElem?_eq_some_iff.1 hoj).1
      have hiun2 : listed.getD i false = false := by rw [getD_conv hsz hilt false true]; exact (mem_ready.1 hr).1
      have hwj : Waited md ops listed j := fun o ho e he hb => by
        rw [hoj] at ho
        cases ho
        exact hall e he hb
      have hkj : kp j = true := by
        cases he : kp j with
        | true => rfl
        | false =>
          have := mask_spec hm hdown hilt j hjlt hwj (hk j hjlt he)
          rw [this] at hiun2
          cases hiun2
      have hnot : ∀ e ∈ oj.after, Region.binds md e = true → e.on ≠ i := fun e he hb heq => by
        have h2 := hall e he hb
        rw [heq, hiun2] at h2
        cases h2
      have h2 := wpOp_putQ hoj (hfree j oj hoj hji hjun hnot) (fun cs b => hsel i oi cs b hi) (fun cs b => hsel j oj cs b hoj) hQ hy h1
      have hfree' : ∀ k ok, ops[k]? = some ok → k ≠ i → (listed.setIfInBounds j true).getD k true = false →
          (∀ e ∈ ok.after, Region.binds md e = true → e.on ≠ i) → oi.apart ops ok = true := fun k ok hk hki hun hno => by
        refine hfree k ok hk hki ?_ hno
        by_cases hjk : j = k
        · subst hjk; exact hjun
        · rw [getD_set_ne true hjk] at hun; exact hun
      refine wpOp_mono (fun a' w' h3 => ?_) h2
      obtain ⟨h4, h5, h6⟩ := h3
      have hS' := h5 hkj
      refine ⟨fun _ => hS', ih (listed.setIfInBounds j true) a' w' (by simpa using hsz) (down_set hdown hwj) hfree' (ready_mono hr (Ne.symm hji)) h4 hS' ?_⟩
      rw [Array.setIfInBounds_comm _ _ hji]
      exact h6

structure BehindC (k : Bool) (S : World → Prop) (K : Act → World → Prop) (e : Exit) (a : Act) (w : World) : Prop where
  normal : e = .normal
  keeps : k = true → S w
  next : K a w
/-- THE WALK: true: it reads. -/
def wpC (P : Program) (ops : Array Oper) (Q : Exit → Act → World → Prop) (S : World → Prop) (kp : Nat → Bool) : List (Nat × Bool) → Act → World → Prop
  | [], a, w => Q .normal a w
  | (i, true) :: rest, a, w => match ops[i]? with
    | some o => q1 P ops S (fun a' => wpC P ops Q S kp rest a' w) o a
    | none => False
  | (i, false) :: rest, a, w => match ops[i]? with
    | some o => wpList P ops (BehindC (kp i) S (wpC P ops Q S kp rest)) [o] a w
    | none => False
/-- Whether the list may serve: reads as soon as they may come up, what is left in one order. -/
def ordB (md : Region.Mode) (ops : Array Oper) (m : Array Nat) (kp : Nat → Bool) : List (Nat × Bool) → Array Bool → Bool
  | [], listed => (Region.ready md ops listed).isEmpty
  | (i, true) :: rest, listed => (Region.ready md ops listed).contains i && Region.free md ops listed i && kp i && ((List.range ops.size).all fun j => kp j || (m.getD j 0).testBit i) && ordB md ops m kp rest (listed.setIfInBounds i true)
  | (i, false) :: rest, listed => decide (Region.ready md ops listed = [i]) && ordB md ops m kp rest (listed.setIfInBounds i true)
theorem wpAnyC_of {m : Array Nat} {kp : Nat → Bool} (hs : Region.noSelect ops = true) (hm : maskB md ops m = true) (hQ : ∀ c d v a w, Q (.panic c) (Act.put a d v) w → Q (.panic c) a w) : ∀ (l : List (Nat × Bool)) (listed : Array Bool) (a : Act) (w : World), listed.size = ops.size → Down md ops listed → ordB md ops m kp l listed = true → (l.any (·.2) = true → S w) → (∀ i, (i, false) ∈ l → kp i = false → ∀ j, (j, true) ∈ l → (m.getD i 0).testBit j = true) → wpC P ops Q S kp l a w → wpAnyC P md ops Q S kp l.length listed a w
  | [], listed, a, w, _, _, hB, _, _, h => ⟨by simpa [ordB] using hB, h⟩
  | (i, true) :: rest, listed, a, w, hsz, hd, hB, hS, hL, h => by
    simp only [ordB, Bool.and_eq_true] at hB
    obtain ⟨⟨⟨⟨hr, hf⟩, he⟩, hk⟩, hB⟩ := hB
    simp only [wpC] at h
    have hS0 := hS (by simp)
    have hr' : i ∈ Region.ready md ops listed := by simpa using hr
    have hd' : Down md ops (listed.setIfInBounds i true) := by
      obtain ⟨_, o, ho, hall⟩ := mem_ready.1 hr'
      refine down_set hd (fun o' ho' e he hb => ?_)
      rw [ho] at ho'
      cases ho'
      exact hall e he hb
    have hmask : ∀ j, j < ops.size → kp j = false → (m.getD j 0).testBit i = true := fun j hj hej => by
      have := List.all_eq_true.1 hk j (by simpa using hj)
      rw [hej] at this
      simpa using this
    cases ho : ops[i]? with
    | none => rw [ho] at h; exact h.elim
    | some o =>
      rw [ho] at h
      obtain ⟨v, h1, h2⟩ := q1_spec h
      exact wpAnyC_first ho (Region.noSelect_spec hs) (fun c a w => hQ c _ _ a w) hm hmask _ listed a w hsz hd (Region.free_spec ho hf) hr' h1 hS0 (wpAnyC_of hs hm hQ rest _ _ w (by simpa using hsz) hd' hB (fun _ => hS0) (fun i' hi' hk' j hj => hL i' (by simp [hi']) hk' j (by simp [hj])) h2)
  | (i, false) :: rest, listed, a, w, hsz, hd, hB, hS, hL, h => by
    simp only [ordB, Bool.and_eq_true, decide_eq_true_eq] at hB
    obtain ⟨hr, hB⟩ := hB
    simp only [wpC] at h
    have hr' : i ∈ Region.ready md ops listed := by rw [hr]; simp
    have hilt : i < ops.size := by
      obtain ⟨_, o, ho, _⟩ := mem_ready.1 hr'
      exact (Array.getElem?_eq_some_iff.1 ho).1
    have hwi : Waited md ops listed i := by
      obtain ⟨_, o, ho, hall⟩ := mem_ready.1 hr'
      intro o' ho' e he hb
      rw [ho] at ho'
      cases ho'
      exact hall e he hb
    have hd' := down_set hd hwi
    have hunl : ∀ (l : List (Nat × Bool)) (listed : Array Bool), ordB md ops m kp l listed = true → ∀ j, (j, true) ∈ l → listed.getD j true = false := by
      intro l
      induction l with
      | nil => intro _ _ j hj; simp at hj
      | cons p r ih =>
        intro listed hB j hj
        rcases p with ⟨k, b⟩
        cases b
        · simp only [ordB, Bool.and_eq_true, decide_eq_true_eq] at hB
          rcases List.mem_cons.1 hj with e | hj
          · cases e
          · have := ih _ hB.2 j hj
            by_cases hkj : k = j
            · subst hkj
              have hk : k ∈ Region.ready md ops listed := by rw [hB.1]; simp
              exact (mem_ready.1 hk).1
            · rwa [getD_set_ne true hkj] at this
        · simp only [ordB, Bool.and_eq_true] at hB
          rcases List.mem_cons.1 hj with e | hj
          · cases e
            have hk : j ∈ Region.ready md ops listed := by simpa using hB.1.1.1.1
            exact (mem_ready.1 hk).1
          · have := ih _ hB.2 j hj
            by_cases hkj : k = j
            · subst hkj
              have hk : k ∈ Region.ready md ops listed := by simpa using hB.1.1.1.1
              exact (mem_ready.1 hk).1
            · rwa [getD_set_ne true hkj] at this
    have hno : kp i = false → ∀ j, (j, true) ∈ rest → False := fun hki j hj => by
      have ht := hL i (by simp) hki j (by simp [hj])
      have hjun := hunl rest _ hB j hj
      have hjlt : j < ops.size := by
        rcases Nat.lt_or_ge j ops.size with h | h
        · exact h
        · exfalso
          rw [Array.getD_eq_getD_getElem?, Array.getElem?_eq_none (by simpa [hsz] using h)] at hjun
          cases hjun
      have h1 := mask_spec hm hd hjlt i hilt hwi ht
      by_cases hij : i = j
      · subst hij
        have := (mem_ready.1 hr').1
        rw [getD_conv hsz hilt true false, h1] at this
        cases this
      · rw [getD_set_ne true hij, getD_conv hsz hjlt true false, h1] at hjun
        cases hjun
    cases ho : ops[i]? with
    | none => rw [ho] at h; exact h.elim
    | some o =>
      rw [ho] at h
      simp only [wpList] at h
      refine ⟨fun h0 => absurd (hr ▸ h0) (by simp), fun j hj => ?_⟩
      obtain rfl : j = i := by rw [hr] at hj; simpa using hj
      have nolet : ¬ LetsOut (BehindC (kp j) S (wpC P ops Q S kp rest)) := by
        rintro ⟨a0, w0, hb⟩
        exact absurd hb.normal (by simp)
      have hrest : ∀ w', (kp j = true → S w') → (rest.any (·.2) = true → S w') := fun w' hk hany => by
        cases hkj : kp j with
        | true => exact hk hkj
        | false =>
          obtain ⟨⟨k, b⟩, hkm, hb⟩ := List.any_eq_true.1 hany
          simp only at hb
          subst hb
          exact (hno hkj k hkm).elim
      unfold wpOp
      simp only [ho]
      by_cases hw : Region.wanted o (yielded ops a.tmps) = true
      · rw [if_pos hw] at h ⊢
        rcases h with h | ⟨_, h⟩
        · refine .inl (upon_mono (fun a' w' hb => ⟨hb.keeps, wpAnyC_of hs hm hQ rest _ a' w' (by simpa using hsz) hd' hB (hrest w' hb.keeps) (fun i' hi' hk' j hj => hL i' (by simp [hi']) hk' j (by simp [hj])) hb.next⟩) (fun c a' w' hb => ?_) nolet h)
          exact absurd hb.normal (by simp)
        · exact absurd h nolet
      · rw [if_neg hw] at h ⊢
        exact ⟨h.keeps, wpAnyC_of hs hm hQ rest _ _ w (by simpa using hsz) hd' hB (hrest w h.keeps) (fun i' hi' hk' j hj => hL i' (by simp [hi']) hk' j (by simp [hj])) h.next⟩

/-- The walk along the operations themselves. -/
def pick (ops : Array Oper) (order : List (Nat × Bool)) : List (Nat × Bool × Option Oper) := order.map fun p => (p.1, p.2, ops[p.1]?)
def wpL (P : Program) (ops : Array Oper) (Q : Exit → Act → World → Prop) (S : World → Prop) (kp : Nat → Bool) : List (Nat × Bool × Option Oper) → Act → World → Prop
  | [], a, w => Q .normal a w
  | (_, true, some o) :: rest, a, w => q1 P ops S (fun a' => wpL P ops Q S kp rest a' w) o a
  | (i, false, some o) :: rest, a, w => wpList P ops (BehindC (kp i) S (wpL P ops Q S kp rest)) [o] a w
  | (_, _, none) :: _, _, _ => False
theorem wpC_of_pick {kp : Nat → Bool} : ∀ (l : List (Nat × Bool)), wpL P ops Q S kp (pick ops l) = wpC P ops Q S kp l
  | [] => rfl
  | (i, b) :: rest => by
    funext a w
    have ih := wpC_of_pick (kp := kp) rest
    show wpL P ops Q S kp ((i, b, ops[i]?) :: pick ops rest) a w = _
    cases b <;> cases ho : ops[i]? <;> simp only [wpL, wpC, ho, ih]
/-- Behind all but these the class is to be shown. -/
def kpL (free : List Nat) (i : Nat) : Bool := !free.contains i
/-- THE REGION. m: whom each operation waits for, as masks; order: the walk, true: it reads; free: operations that wait for all that reads. -/
theorem wp_region_cls {id : Nat} {a : Act} {w : World} (m : Array Nat) (order : List (Nat × Bool)) (free : List Nat) (hm : P.follows .mixedOrders = true) (hB : (Region.noSelect ops && (order.length == ops.size) && maskB .any ops m && ordB .any ops m (kpL free) order (Array.replicate ops.size false) && free.all fun i => order.all fun p => !p.2 || (m.getD i 0).testBit p.1) = true)
    (hQ : ∀ c d v a w, Q (.panic c) (Act.put a d v) w → Q (.panic c) a w) (hS : S w.drew)
    (h : wpL P ops Q S (kpL free) (pick ops order) a w.drew) : (Code.region id ops true).wp P Q a w := by
  rw [wpC_of_pick] at h
  simp only [Bool.and_eq_true, beq_iff_eq] at hB
  obtain ⟨⟨⟨⟨hB1, hB2⟩, hB3⟩, hB4⟩, hB5⟩ := hB
  have hd : Down .any ops (Array.replicate ops.size false) := fun j hj => by
    simp only [Array.getD_eq_getD_getElem?, Array.getElem?_replicate] at hj
    split at hj <;> simp at hj
  have h1 := wpAnyC_of (md := .any) (m := m) (kp := kpL free) hB1 hB3 hQ order (Array.replicate ops.size false) a w.drew (by simp) hd hB4 (fun _ => hS) (fun i _ hk j hj => by
    have hi : i ∈ free := by simpa [kpL] using hk
    have := List.all_eq_true.1 (List.all_eq_true.1 hB5 i hi) (j, true) hj
    simpa using this) h
  rw [hB2] at h1
  exact wp_region_any hm (wpAny_of_C _ _ _ _ h1)
/-- THE REGION, where all reads, and calls that leave the world, are met in the world as it is. -/
theorem wp_region_one {id : Nat} {a : Act} {w : World} (m : Array Nat) (order : List (Nat × Bool)) (free : List Nat) (hm : P.follows .mixedOrders = true) (hB : (Region.noSelect ops && (order.length == ops.size) && maskB .any ops m && ordB .any ops m (kpL free) order (Array.replicate ops.size false) && free.all fun i => order.all fun p => !p.2 || (m.getD i 0).testBit p.1) = true)
    (hQ : ∀ c d v a w, Q (.panic c) (Act.put a d v) w → Q (.panic c) a w)
    (h : wpL P ops Q (fun w' => w' = w.drew) (kpL free) (pick ops order) a w.drew) : (Code.region id ops true).wp P Q a w :=
  wp_region_cls (S := fun w' => w' = w.drew) m order free hm hB hQ rfl h
/-- THE REGION, over the worlds with blocks laid behind. -/
theorem wp_region_reg {id : Nat} {a : Act} {w : World} (m : Array Nat) (order : List (Nat × Bool)) (free : List Nat) (hm : P.follows .mixedOrders = true) (hB : (Region.noSelect ops && (order.length == ops.size) && maskB .any ops m && ordB .any ops m (kpL free) order (Array.replicate ops.size false) && free.all fun i => order.all fun p => !p.2 || (m.getD i 0).testBit p.1) = true)
    (hQ : ∀ c d v a w, Q (.panic c) (Act.put a d v) w → Q (.panic c) a w)
    (h : wpL P ops Q (fun w' => ∃ p : Regrown, w' = Go.Sort.grow (redrawn w p.d) p.os) (kpL free) (pick ops order) a w.drew) : (Code.region id ops true).wp P Q a w :=
  wp_region_cls (S := fun w' => ∃ p : Regrown, w' = Go.Sort.grow (redrawn w p.d) p.os) m order free hm hB hQ ⟨⟨w.drawn + 1, #[]⟩, by rw [Go.Sort.grow_empty]; rfl⟩ h
theorem c_read {kp : Nat → Bool} {i : Nat} {o : Oper} {rest : List (Nat × Bool × Option Oper)} {a : Act} {w : World} (h : q1 P ops S (fun a' => wpL P ops Q S kp rest a' w) o a) : wpL P ops Q S kp ((i, true, some o) :: rest) a w := h
/-- One operation that reads. -/
theorem c_step {kp : Nat → Bool} {i : Nat} {o : Oper} {rest : List (Nat × Bool × Option Oper)} {a : Act} {w : World} (h : ∀ K : Act → Prop, (∀ a, wpL P ops Q S kp rest a w → K a) → if Region.wanted o (yielded ops a.tmps) then ∃ v, (∀ w, S w → o.quietAt P a (fun w'' => w'' = w) w v) ∧ K (a.put o.dst v) else K (a.put o.dst undef)) : wpL P ops Q S kp ((i, true, some o) :: rest) a w :=
  h _ (fun _ h => h)
theorem c_does {kp : Nat → Bool} {k : Bool} {i : Nat} {o : Oper} {rest : List (Nat × Bool × Option Oper)} {a : Act} {w : World} (hk : kp i = k) (h : wpList P ops (BehindC k S (wpL P ops Q S kp rest)) [o] a w) : wpL P ops Q S kp ((i, false, some o) :: rest) a w := by
  simp only [wpL, hk]
  exact h
theorem c_nil {kp : Nat → Bool} {a : Act} {w : World} (h : Q .normal a w) : wpL P ops Q S kp [] a w := h
theorem behind_last {K : Act → World → Prop} {a : Act} {w : World} (h : K a w) : BehindC false S K .normal a w := ⟨rfl, fun h => (by cases h), h⟩
theorem behind_cls {K : Act → World → Prop} {a : Act} {w : World} (hS : S w) (h : K a w) : BehindC true S K .normal a w := ⟨rfl, fun _ => hS, h⟩
end
end Go.Ord
end

/-
  Masks of low bits. No program in sight.
-/
section
namespace Go.Viv
theorem i64_mask (n m : Int) (k : Nat) (hk : k ≤ 62) (h : (BitVec.ofInt 64 m).toNat = 2 ^ k - 1) : bits .and .i64 n m = n % ((2 ^ k : Nat) : Int) := by
  have key : (BitVec.ofInt 64 n &&& BitVec.ofInt 64 m).toNat = (n % ((2 ^ 64 : Nat) : Int)).toNat % 2 ^ k := by
    rw [BitVec.toNat_and, BitVec.toNat_ofInt, h, Nat.and_two_pow_sub_one_eq_mod]
  show IntKind.i64.wrap ((BitVec.ofInt 64 n &&& BitVec.ofInt 64 m).toNat : Nat) = _
  rw [key]
  have e1 : (((n % ((2 ^ 64 : Nat) : Int)).toNat % 2 ^ k : Nat) : Int) = n % ((2 ^ k : Nat) : Int) := by
    rw [Int.natCast_emod, Int.toNat_of_nonneg (Int.emod_nonneg _ (by decide))]
    refine Int.emod_emod_of_dvd _ ?_
    exact Int.natCast_dvd_natCast.2 (Nat.pow_dvd_pow 2 (by omega))
  rw [e1]
  have hp : (2 : Nat) ^ k ≤ 2 ^ 62 := Nat.pow_le_pow_right (by decide) hk
  have e62 : (2 : Nat) ^ 62 = 4611686018427387904 := by decide
  have hpos : (0 : Int) < ((2 ^ k : Nat) : Int) := by exact_mod_cast Nat.pow_pos (by decide)
  have h0 := Int.emod_nonneg n (Int.ne_of_gt hpos)
  have h1 := Int.emod_lt_of_pos n hpos
  rw [IntKind.wrap_i64]
  generalize n % ((2 ^ k : Nat) : Int) = r at *
  have h2 : ((2 ^ k : Nat) : Int) ≤ 4611686018427387904 := by rw [e62] at hp; omega
  show (r + 9223372036854775808) % 18446744073709551616 - 9223372036854775808 = r
  omega
theorem mask_nat (x m : Int) (k : Nat) (hk : k ≤ 62) (h : (BitVec.ofInt 64 m).toNat = 2 ^ k - 1) : ∃ r : Nat, bits .and .i64 x m = r ∧ r < 2 ^ k := by
  have hp : (0 : Int) < ((2 ^ k : Nat) : Int) := by exact_mod_cast Nat.pow_pos (by decide)
  have h0 := Int.emod_nonneg x (Int.ne_of_gt hp)
  have h1 := Int.emod_lt_of_pos x hp
  exact ⟨(x % ((2 ^ k : Nat) : Int)).toNat, by rw [i64_mask x m k hk h, Int.toNat_of_nonneg h0], by omega⟩
theorem and_nat (x : Nat) (m : Int) (k : Nat) (hk : k ≤ 62) (h : (BitVec.ofInt 64 m).toNat = 2 ^ k - 1) : bits .and .i64 (x : Int) m = ((x % 2 ^ k : Nat) : Int) := by
  rw [i64_mask _ m k hk h]
  simp
theorem ofInt_wrap (n : Int) : BitVec.ofInt 64 (IntKind.i64.wrap n) = BitVec.ofInt 64 n := by
  apply BitVec.eq_of_toNat_eq
  rw [BitVec.toNat_ofInt, BitVec.toNat_ofInt, IntKind.wrap_i64]
  congr 1
  have e : ((2 ^ 64 : Nat) : Int) = 18446744073709551616 := by decide
  rw [e]
  omega
theorem bit_fdiv (U : Int) (j : Nat) (hj : j < 64) : (U.fdiv (2 ^ j) % 2 = 1) ↔ (BitVec.ofInt 64 U).getLsbD j = true := by
  have hp : (0 : Int) < 2 ^ j := Int.pow_pos (by decide)
  rw [Int.fdiv_eq_ediv_of_nonneg _ (Int.le_of_lt hp)]
  unfold BitVec.getLsbD
  rw [BitVec.toNat_ofInt, Nat.testBit_eq_decide_div_mod_eq, decide_eq_true_eq]
  have e : ((2 ^ 64 : Nat) : Int) = 2 ^ j * (2 * 2 ^ (63 - j)) := by
    rw [← Int.pow_succ', ← Int.pow_add, show j + (63 - j + 1) = 64 by omega]
    rfl
  have hq := Int.emod_nonneg U (show ((2 ^ 64 : Nat) : Int) ≠ 0 by decide)
  have hd := Int.mul_ediv_add_emod U ((2 ^ 64 : Nat) : Int)
  generalize hr : U % ((2 ^ 64 : Nat) : Int) = r at *
  generalize U / ((2 ^ 64 : Nat) : Int) = q at *
  obtain ⟨n, rfl⟩ := Int.eq_ofNat_of_zero_le hq
  have hU : U / 2 ^ j = 2 * (2 ^ (63 - j) * q) + (n : Int) / 2 ^ j := by
    rw [← hd, e, Int.mul_assoc, Int.mul_assoc, Int.add_comm, Int.add_mul_ediv_left _ _ (Int.ne_of_gt hp), Int.add_comm]
  rw [hU, Int.toNat_natCast]
  have hc : ((n / 2 ^ j : Nat) : Int) = (n : Int) / 2 ^ j := by simp
  rw [← hc]
  omega
theorem bit_pow (c j : Nat) (hc : c < 64) : (BitVec.ofInt 64 (IntKind.i64.wrap (2 ^ c))).getLsbD j = decide (j = c) := by
  rw [ofInt_wrap]
  have e : (2 : Int) ^ c = ((2 ^ c : Nat) : Int) := by simp
  unfold BitVec.getLsbD
  rw [BitVec.toNat_ofInt, e, ← Int.natCast_emod, Int.toNat_natCast, Nat.mod_eq_of_lt (Nat.pow_lt_pow_right (by decide) hc), Nat.testBit_two_pow]
  rw [decide_eq_decide]
  omega
theorem bits_or (a b : Int) : BitVec.ofInt 64 (bits .or .i64 a b) = BitVec.ofInt 64 a ||| BitVec.ofInt 64 b := by
  show BitVec.ofInt 64 (IntKind.i64.wrap ((BitVec.ofInt 64 a ||| BitVec.ofInt 64 b).toNat : Nat)) = _
  rw [ofInt_wrap]
  apply BitVec.eq_of_toNat_eq
  rw [BitVec.toNat_ofInt, ← Int.natCast_emod, Int.toNat_natCast, Nat.mod_eq_of_lt (BitVec.isLt _)]
end Go.Viv
end
