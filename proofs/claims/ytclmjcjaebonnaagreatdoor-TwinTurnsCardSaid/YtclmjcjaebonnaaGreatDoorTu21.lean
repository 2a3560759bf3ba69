/-
  Several texts in one. Package res over the tree: New.
-/
import Derived.Test.YtclmjcjaebonnaaGreatDoorTu20
import Derived.Test.YtclmjcjaebonnaaGreatDoorTu00
section
set_option linter.unusedSimpArgs false
set_option linter.unusedVariables false
namespace Go.Proofs.YtclmjcjaebonnaaGreatDoor
open Go Go.RowKit Go.Viv Go.Eva Go.Sym
def cResNew : Sym.CallS := fun args s => match args with
  | [v] => match (rowB s.t 1 v).bind intsL, roomOk v with
    | some l, true => some (.pointer (some ⟨s.next, 0, none⟩), ⟨s.t.set s.next (some (.res (.nums (l.take 32)))), s.next + 1⟩)
    | _, _ => none
  | _ => none
section
variable {G : Nat} {ν : Toks} {W : World} {may : Nat → Prop} {call : CallB}
theorem resNew_ok (hc : CallOK Tryz.prog G (LBegin Tryz.prog ν LL W may) ν call) (hcl : ∀ a h, call 20 a h = cClone 2 1 a h) : SpecOK Tryz.prog G (LBegin Tryz.prog ν LL W may) ν 32 cResNew := by
  refine make_ok rfl (by kernel_rfl) hc fun args s v h' e Lv hlv hG => ?_
  unfold cResNew at e
  split at e <;> try (cases e; done)
  rename_i v0
  split at e <;> try (cases e; done)
  rename_i l hl hr
  simp only [Option.some.injEq, Prod.mk.injEq] at e
  obtain ⟨rfl, rfl⟩ := e
  obtain ⟨vs, h1, h2⟩ := Option.bind_eq_some_iff.1 hl
  have hvs := intsL_eq h2
  subst hvs
  refine ⟨_, rfl, ?_⟩
  unfold rowB at h1
  split at h1 <;> try (cases h1; done)
  · simp only [Option.some.injEq] at h1
    have hl0 : l = [] := List.length_eq_zero_iff.1 (by rw [← intsC_len, ← h1]; rfl)
    subst hl0
    have hfm : LL.fm (.nums []) _ _ _ := (⟨by simp, rfl, .inl ⟨rfl, .inl rfl, rfl⟩⟩ : fmAll (.nums []) _ _ _)
    have c0 : cClone 2 1 [.slice none 0 0] s = some (.slice none 0 0, ⟨fillT s.t s.next (cloneF 2 []) 2, s.next + 2⟩) := by simp [cClone, rowB, lenN, cloneV]
    refine ⟨Tryz.f32, _, Tryz.func32, rfl, by simp [Tryz.f32], ?_⟩; rw [Tryz.ntmps32]
    repeat' (first | simp (disch := omega) only [go_sem, reduceIte, sliceB, hcl, c0, List.length_nil, List.all_nil, min_lo, Int.toNat_natCast, Option.isNone_none, Option.isSome_some, Bool.or_true, Bool.true_or, Nat.sub_zero, fillT_get, fillT_out, Tryz.results32] | (with_reducible refine w_chain0 ?_ ?_; focus (decide +kernel)) | (with_reducible refine condK_of _ _ ?_ ?_ <;> (intro hb; try simp only [decide_eq_true_eq, decide_eq_false_iff_not] at hb)) | (with_reducible refine gdK_of_f _ _ _ _ _ ?_ ?_ <;> (intro hb; try simp only [decide_eq_true_eq, decide_eq_false_iff_not] at hb)) | (with_reducible refine gdK_of_t _ _ _ _ _ ?_ ?_ <;> (intro hb; try simp only [decide_eq_true_eq, decide_eq_false_iff_not] at hb)) | (with_reducible refine gK_of_f _ _ _ ?_ ?_ <;> (intro hb; try simp only [decide_eq_true_eq, decide_eq_false_iff_not] at hb)) | (with_reducible refine gK_of_t _ _ _ ?_ ?_ <;> (intro hb; try simp only [decide_eq_true_eq, decide_eq_false_iff_not] at hb)))
    all_goals (refine makes_mk (L := LL) (s.next + 2) [] (hfm) rfl ?_ ?_ ?_ ?_ ?_ ?_ <;> (try intro X hX1) <;> (try simp (disch := omega) only [go_sem, reduceIte, sliceB, AllMods, DistG, KeyIn, setL, news, not_false_eq_true, or_false, not_or, ne_eq, AllAt, AllObs, Dist, NotIn, kap_zero, kap_succ, kap_nil, inv_lt, inv_self, inv_add, ren_int, intsC_ren, and_true, and_self, occ, occL, Bool.or_true, Bool.true_or, fillT_get, fillT_out]) <;> (try omega))
  · simp only [Option.some.injEq] at h1
    have hl0 : l = [] := List.length_eq_zero_iff.1 (by rw [← intsC_len, ← h1]; rfl)
    subst hl0
    have hfm : LL.fm (.nums []) _ _ _ := (⟨by simp, rfl, .inl ⟨rfl, .inr rfl, rfl⟩⟩ : fmAll (.nums []) _ _ _)
    have c0 : cClone 2 1 [.slice none 0 1] s = some (.slice none 0 1, ⟨fillT s.t s.next (cloneF 2 []) 2, s.next + 2⟩) := by simp [cClone, rowB, lenN, cloneV]
    refine ⟨Tryz.f32, _, Tryz.func32, rfl, by simp [Tryz.f32], ?_⟩; rw [Tryz.ntmps32]
    repeat' (first | simp (disch := omega) only [go_sem, reduceIte, sliceB, hcl, c0, List.length_nil, List.all_nil, min_lo, Int.toNat_natCast, Option.isNone_none, Option.isSome_some, Bool.or_true, Bool.true_or, Nat.sub_zero, fillT_get, fillT_out, Tryz.results32] | (with_reducible refine w_chain0 ?_ ?_; focus (decide +kernel)) | (with_reducible refine condK_of _ _ ?_ ?_ <;> (intro hb; try simp only [decide_eq_true_eq, decide_eq_false_iff_not] at hb)) | (with_reducible refine gdK_of_f _ _ _ _ _ ?_ ?_ <;> (intro hb; try simp only [decide_eq_true_eq, decide_eq_false_iff_not] at hb)) | (with_reducible refine gdK_of_t _ _ _ _ _ ?_ ?_ <;> (intro hb; try simp only [decide_eq_true_eq, decide_eq_false_iff_not] at hb)) | (with_reducible refine gK_of_f _ _ _ ?_ ?_ <;> (intro hb; try simp only [decide_eq_true_eq, decide_eq_false_iff_not] at hb)) | (with_reducible refine gK_of_t _ _ _ ?_ ?_ <;> (intro hb; try simp only [decide_eq_true_eq, decide_eq_false_iff_not] at hb)))
    all_goals (refine makes_mk (L := LL) (s.next + 2) [] (hfm) rfl ?_ ?_ ?_ ?_ ?_ ?_ <;> (try intro X hX1) <;> (try simp (disch := omega) only [go_sem, reduceIte, sliceB, AllMods, DistG, KeyIn, setL, news, not_false_eq_true, or_false, not_or, ne_eq, AllAt, AllObs, Dist, NotIn, kap_zero, kap_succ, kap_nil, inv_lt, inv_self, inv_add, ren_int, intsC_ren, and_true, and_self, occ, occL, Bool.or_true, Bool.true_or, fillT_get, fillT_out]) <;> (try omega))
  · rename_i B o n c
    split at h1 <;> try (cases h1; done)
    rename_i cs ty rw hB
    have lB := hlv.lt _ (hlv.arg B (by simp [occL, occ]))
    have hlen : l.length = n := by have := read_len h1; rw [intsC_len] at this; omega
    cases c with
    | zero => simp [roomOk] at hr
    | succ c =>
      have hc' := ble_iff (show Nat.ble n c = true from hr)
      have key : ∀ h, h ≤ n → readCells cs o h = some (intsC (l.take h)) := fun h hh => by
        have := read_sub (i := 0) (m := h) h1 (by omega)
        rw [Nat.add_zero, List.drop_zero] at this
        rw [this]
        simp [intsC]
      have hz : (match Nat.beq c 0 with | true => o | false => o) = o := by cases Nat.beq c 0 <;> rfl
      have z32 : (32 : Int) = ((32 : Nat) : Int) := rfl
      cases n with
      | zero =>
        have hl0 : l = [] := List.length_eq_zero_iff.1 hlen
        subst hl0
        have hfm : LL.fm (.nums []) _ _ _ := (⟨by simp, rfl, .inl ⟨rfl, .inr rfl, rfl⟩⟩ : fmAll (.nums []) _ _ _)
        have k0 := key 0 (Nat.le_refl _)
        have c0 : cClone 2 1 [.slice (some ⟨B, o, none⟩) 0 (c + 1)] s = some (.slice none 0 1, ⟨fillT s.t s.next (cloneF 2 []) 2, s.next + 2⟩) := by
          have : rowB s.t 1 (.slice (some ⟨B, o, none⟩) 0 (c + 1)) = some [] := by simp only [rowB, hB]; exact k0
          simp [cClone, this, lenN, cloneV]
        by_cases hc0 : c = 0
        · subst hc0
          refine ⟨Tryz.f32, _, Tryz.func32, rfl, by simp [Tryz.f32], ?_⟩; rw [Tryz.ntmps32]
          repeat' (first | simp (disch := omega) only [go_sem, reduceIte, sliceB, hB, hcl, c0, List.length_nil, List.all_nil, min_lo, Int.toNat_natCast, Option.isNone_none, Option.isSome_some, Bool.or_true, Bool.true_or, Nat.sub_zero, hz, fillT_get, fillT_out, Tryz.results32] | (with_reducible refine w_chain0 ?_ ?_; focus (decide +kernel)) | (with_reducible refine condK_of _ _ ?_ ?_ <;> (intro hb; try simp only [decide_eq_true_eq, decide_eq_false_iff_not] at hb)) | (with_reducible refine gdK_of_f _ _ _ _ _ ?_ ?_ <;> (intro hb; try simp only [decide_eq_true_eq, decide_eq_false_iff_not] at hb)) | (with_reducible refine gdK_of_t _ _ _ _ _ ?_ ?_ <;> (intro hb; try simp only [decide_eq_true_eq, decide_eq_false_iff_not] at hb)) | (with_reducible refine gK_of_f _ _ _ ?_ ?_ <;> (intro hb; try simp only [decide_eq_true_eq, decide_eq_false_iff_not] at hb)) | (with_reducible refine gK_of_t _ _ _ ?_ ?_ <;> (intro hb; try simp only [decide_eq_true_eq, decide_eq_false_iff_not] at hb)))
          all_goals (refine makes_mk (L := LL) (s.next + 2) [] (hfm) rfl ?_ ?_ ?_ ?_ ?_ ?_ <;> (try intro X hX1) <;> (try simp (disch := omega) only [go_sem, reduceIte, sliceB, AllMods, DistG, KeyIn, setL, news, not_false_eq_true, or_false, not_or, ne_eq, AllAt, AllObs, Dist, NotIn, kap_zero, kap_succ, kap_nil, inv_lt, inv_self, inv_add, ren_int, intsC_ren, and_true, and_self, occ, occL, Bool.or_true, Bool.true_or, fillT_get, fillT_out]) <;> (try omega))
        · skip
          refine ⟨Tryz.f32, _, Tryz.func32, rfl, by simp [Tryz.f32], ?_⟩; rw [Tryz.ntmps32]
          repeat' (first | simp (disch := omega) only [go_sem, reduceIte, sliceB, hB, hcl, c0, List.length_nil, List.all_nil, min_lo, Int.toNat_natCast, Option.isNone_none, Option.isSome_some, Bool.or_true, Bool.true_or, Nat.sub_zero, hz, fillT_get, fillT_out, Tryz.results32] | (with_reducible refine w_chain0 ?_ ?_; focus (decide +kernel)) | (with_reducible refine condK_of _ _ ?_ ?_ <;> (intro hb; try simp only [decide_eq_true_eq, decide_eq_false_iff_not] at hb)) | (with_reducible refine gdK_of_f _ _ _ _ _ ?_ ?_ <;> (intro hb; try simp only [decide_eq_true_eq, decide_eq_false_iff_not] at hb)) | (with_reducible refine gdK_of_t _ _ _ _ _ ?_ ?_ <;> (intro hb; try simp only [decide_eq_true_eq, decide_eq_false_iff_not] at hb)) | (with_reducible refine gK_of_f _ _ _ ?_ ?_ <;> (intro hb; try simp only [decide_eq_true_eq, decide_eq_false_iff_not] at hb)) | (with_reducible refine gK_of_t _ _ _ ?_ ?_ <;> (intro hb; try simp only [decide_eq_true_eq, decide_eq_false_iff_not] at hb)))
          all_goals (refine makes_mk (L := LL) (s.next + 2) [] (hfm) rfl ?_ ?_ ?_ ?_ ?_ ?_ <;> (try intro X hX1) <;> (try simp (disch := omega) only [go_sem, reduceIte, sliceB, AllMods, DistG, KeyIn, setL, news, not_false_eq_true, or_false, not_or, ne_eq, AllAt, AllObs, Dist, NotIn, kap_zero, kap_succ, kap_nil, inv_lt, inv_self, inv_add, ren_int, intsC_ren, and_true, and_self, occ, occL, Bool.or_true, Bool.true_or, fillT_get, fillT_out]) <;> (try omega))
      | succ n =>
        have hT : ∀ h, 0 < h → h ≤ n + 1 → l.take 32 = l.take h → h ≤ 32 → LL.fm (.nums (l.take 32)) [.slice (some ⟨1, 0, none⟩) h 0] 124 [some (.cells (intsC (l.take h)) 2 true)] := fun h h0 hh he h32 => by
          have hl2 : (l.take h).length = h := by rw [List.length_take]; omega
          rw [he]
          exact (⟨by rw [hl2]; exact h32, rfl, .inr ⟨0, fun e => by rw [e] at hl2; simp at hl2; omega, by rw [hl2], rfl⟩⟩ : fmAll (.nums (l.take h)) _ _ _)
        by_cases h32 : n + 1 ≤ 32
        · skip
          have k0 := key (n + 1) (Nat.le_refl _)
          have hl2 : (l.take (n + 1)).length = (n + 1) := by rw [List.length_take]; omega
          have ho := intsC_one (l.take (n + 1))
          have hfm := hT (n + 1) (by omega) (Nat.le_refl _) (by rw [List.take_of_length_le (by omega), List.take_of_length_le (by omega)]) (by omega)
          have hcc : cClone 2 1 [.slice (some ⟨B, o, none⟩) (n + 1) (c + 1)] s = some (.slice (some ⟨s.next + 1, 0, none⟩) (n + 1) 0, ⟨fillT s.t s.next (cloneF 2 (intsC (l.take (n + 1)))) 2, s.next + 2⟩) := by
            have : rowB s.t 1 (.slice (some ⟨B, o, none⟩) (n + 1) (c + 1)) = some (intsC (l.take (n + 1))) := by
              simp only [rowB, hB, Nat.mul_one]; exact k0
            simp only [cClone, this, lenN, ho, intsC_len, hl2, Nat.mul_one, and_true]
            rw [if_pos (by omega)]
            rfl
          have hne : ¬ intsC (l.take (n + 1)) = [] := fun e => by have := congrArg List.length e; rw [intsC_len, hl2] at this; cases this
          have hF : cloneF 2 (intsC (l.take (n + 1))) (s.next + 1 - s.next) = some (.cells (intsC (l.take (n + 1))) 2 true) := by
            rw [show s.next + 1 - s.next = 1 by omega]
            simp only [cloneF, if_neg hne]
          refine ⟨Tryz.f32, _, Tryz.func32, rfl, by simp [Tryz.f32], ?_⟩; rw [Tryz.ntmps32]
          repeat' (first | simp (disch := omega) only [go_sem, reduceIte, sliceB, hB, hcl, hcc, min_lo, Int.toNat_natCast, Option.isNone_none, Option.isSome_some, Bool.or_true, Bool.true_or, Nat.sub_zero, hz, fillT_get, fillT_out, Tryz.results32] | (with_reducible refine w_chain0 ?_ ?_; focus (decide +kernel)) | (with_reducible refine condK_of _ _ ?_ ?_ <;> (intro hb; try simp only [decide_eq_true_eq, decide_eq_false_iff_not] at hb)) | (with_reducible refine gdK_of_f _ _ _ _ _ ?_ ?_ <;> (intro hb; try simp only [decide_eq_true_eq, decide_eq_false_iff_not] at hb)) | (with_reducible refine gdK_of_t _ _ _ _ _ ?_ ?_ <;> (intro hb; try simp only [decide_eq_true_eq, decide_eq_false_iff_not] at hb)) | (with_reducible refine gK_of_f _ _ _ ?_ ?_ <;> (intro hb; try simp only [decide_eq_true_eq, decide_eq_false_iff_not] at hb)) | (with_reducible refine gK_of_t _ _ _ ?_ ?_ <;> (intro hb; try simp only [decide_eq_true_eq, decide_eq_false_iff_not] at hb)))
          all_goals (refine makes_mk (L := LL) (s.next + 2) [s.next + 1] (hfm) rfl ?_ ?_ ?_ ?_ ?_ ?_ <;> (try intro X hX1) <;> (try simp (disch := omega) only [go_sem, reduceIte, sliceB, AllMods, DistG, KeyIn, setL, news, not_false_eq_true, or_false, not_or, ne_eq, AllAt, AllObs, Dist, NotIn, kap_zero, kap_succ, kap_nil, inv_lt, inv_self, inv_add, ren_int, intsC_ren, and_true, and_self, occ, occL, Bool.or_true, Bool.true_or, hF, fillT_get, fillT_out, intsC_ren]) <;> (try omega))
        · have z : ((32 : Nat) : Int) = 32 := rfl
          have k0 := key 32 (by omega)
          have hl2 : (l.take 32).length = 32 := by rw [List.length_take]; omega
          have ho := intsC_one (l.take 32)
          have hfm := hT 32 (by omega) (by omega) rfl (by omega)
          have hcc : cClone 2 1 [.slice (some ⟨B, o, none⟩) 32 (c + 1)] s = some (.slice (some ⟨s.next + 1, 0, none⟩) 32 0, ⟨fillT s.t s.next (cloneF 2 (intsC (l.take 32))) 2, s.next + 2⟩) := by
            have : rowB s.t 1 (.slice (some ⟨B, o, none⟩) 32 (c + 1)) = some (intsC (l.take 32)) := by
              simp only [rowB, hB, Nat.mul_one]; exact k0
            simp only [cClone, this, lenN, ho, intsC_len, hl2, Nat.mul_one, and_true]
            rw [if_pos (by omega)]
            rfl
          have hne : ¬ intsC (l.take 32) = [] := fun e => by have := congrArg List.length e; rw [intsC_len, hl2] at this; cases this
          have hF : cloneF 2 (intsC (l.take 32)) (s.next + 1 - s.next) = some (.cells (intsC (l.take 32)) 2 true) := by
            rw [show s.next + 1 - s.next = 1 by omega]
            simp only [cloneF, if_neg hne]
          have i32 : (32 : Int).toNat = 32 := rfl
          refine ⟨Tryz.f32, _, Tryz.func32, rfl, by simp [Tryz.f32], ?_⟩; rw [Tryz.ntmps32]
          repeat' (first | simp (disch := omega) only [go_sem, reduceIte, sliceB, hB, z, i32, hcl, hcc, min_hi, Int.toNat_natCast, Option.isNone_none, Option.isSome_some, Bool.or_true, Bool.true_or, Nat.sub_zero, hz, fillT_get, fillT_out, Tryz.results32] | (with_reducible refine w_chain0 ?_ ?_; focus (decide +kernel)) | (with_reducible refine condK_of _ _ ?_ ?_ <;> (intro hb; try simp only [decide_eq_true_eq, decide_eq_false_iff_not] at hb)) | (with_reducible refine gdK_of_f _ _ _ _ _ ?_ ?_ <;> (intro hb; try simp only [decide_eq_true_eq, decide_eq_false_iff_not] at hb)) | (with_reducible refine gdK_of_t _ _ _ _ _ ?_ ?_ <;> (intro hb; try simp only [decide_eq_true_eq, decide_eq_false_iff_not] at hb)) | (with_reducible refine gK_of_f _ _ _ ?_ ?_ <;> (intro hb; try simp only [decide_eq_true_eq, decide_eq_false_iff_not] at hb)) | (with_reducible refine gK_of_t _ _ _ ?_ ?_ <;> (intro hb; try simp only [decide_eq_true_eq, decide_eq_false_iff_not] at hb)))
          all_goals (refine makes_mk (L := LL) (s.next + 2) [s.next + 1] (hfm) rfl ?_ ?_ ?_ ?_ ?_ ?_ <;> (try intro X hX1) <;> (try simp (disch := omega) only [go_sem, reduceIte, sliceB, AllMods, DistG, KeyIn, setL, news, not_false_eq_true, or_false, not_or, ne_eq, AllAt, AllObs, Dist, NotIn, kap_zero, kap_succ, kap_nil, inv_lt, inv_self, inv_add, ren_int, intsC_ren, and_true, and_self, occ, occL, Bool.or_true, Bool.true_or, hF, fillT_get, fillT_out, intsC_ren]) <;> (try omega))
end
end Go.Proofs.YtclmjcjaebonnaaGreatDoor
end

/-
  Package ent over the tree: New.
-/
section
set_option linter.unusedSimpArgs false
set_option linter.unusedVariables false
namespace Go.Proofs.YtclmjcjaebonnaaGreatDoor
open Go Go.RowKit Go.Viv Go.Eva Go.Sym
/-- The first error of a world's components, from the i-th on. -/
def compsE : Nat → List Dsc → Int
  | _, [] => 0
  | i, d :: l => if chkE d.k d.v d.b = 0 then (if i < 64 then compsE (i + 1) l else 2) else chkE d.k d.v d.b
theorem compsE_cons (i : Nat) (d : Dsc) (l : List Dsc) : compsE i (d :: l) = if chkE d.k d.v d.b = 0 then (if i < 64 then compsE (i + 1) l else 2) else chkE d.k d.v d.b := rfl
def allocOk (size top : Int) : Bool := decide (1 ≤ size) && decide (size ≤ 65536) && decide (1 ≤ top) && decide (top ≤ 4294967295)
def regV (A n : Nat) : Value := if n = 0 then .slice none 0 0 else .slice (some ⟨A + 1 + 8 * n, 0, none⟩) n 0
/-- The blocks of new things: A handles, A + 1 components, A + 4 + 8 i the slots, A + 1 + 8 n their row, A + 2 + 8 n what has them. -/
def entF (al : Als) (A : Nat) (ds : List Dsc) (j : Nat) : Option AObj :=
  if j = 0 then some (.res (.alloc al)) else if j = 1 then some (.cells [regV A ds.length] 138 true)
  else if j = 2 + 8 * ds.length then some (.cells [pt A, pt (A + 1)] 122 true)
  else if j = 1 + 8 * ds.length then some (.cells (ptsF (A + 4) 8 ds.length) 143 true)
  else if j < 4 then none else match ds[(j - 4) / 8]? with
    | some d => slotF (A + 4 + 8 * ((j - 4) / 8)) (Sls.new d) ((j - 4) % 8)
    | none => none
def cEntNew : Sym.CallS := fun args s => match args with
  | [.int .i64 size, .int .i64 top, v] => match (rowB s.t 3 v).bind dscsL with
    | some ds => match allocOk size top with
      | false => some (.tuple ⟨[.pointer none, .int .i64 1]⟩, ⟨fillT s.t s.next (fun _ => none) (3 + 8 * ds.length), s.next + (3 + 8 * ds.length)⟩)
      | true => if compsE 0 ds = 0 then some (.tuple ⟨[.pointer (some ⟨s.next + (2 + 8 * ds.length), 0, none⟩), .int .i64 0]⟩, ⟨fillT s.t s.next (entF (Als.new size.toNat top) s.next ds) (3 + 8 * ds.length), s.next + (3 + 8 * ds.length)⟩)
        else some (.tuple ⟨[.pointer none, .int .i64 (compsE 0 ds)]⟩, ⟨fillT s.t s.next (fun _ => none) (3 + 8 * ds.length), s.next + (3 + 8 * ds.length)⟩)
    | none => none
  | _ => none
theorem regV_zero (A : Nat) : regV A 0 = .slice none 0 0 := rfl
theorem regV_succ (A n : Nat) : regV A (n + 1) = .slice (some ⟨A + 1 + 8 * (n + 1), 0, none⟩) (n + 1) 0 := rfl
theorem regF_slot {K j : Nat} {cs : List Value} {x : Sls} (h : j < 4) : regF K cs x (j + 1) = slotF (K + 1) x j := by
  rcases j with _ | _ | _ | _ | j <;> first | rfl | omega
theorem slotF_ge {K j : Nat} {x : Sls} (h : 4 ≤ j) : slotF K x j = none := by
  rcases j with _ | _ | _ | _ | j <;> first | rfl | omega
/-- A row of descriptions, as what is handed in. -/
theorem row_descs {t : Tr AObj} {v : Value} {ds : List Dsc} (h : rowB t 3 v = some (rowsC Dsc.cells ds)) : ∃ a c, v = .slice a ds.length c ∧ ∀ i d, ds[i]? = some d → ∃ B o cs ty rw, a = some ⟨B, o, none⟩ ∧ t.at_ B = some (.cells cs ty rw) ∧ readCells cs (o + i * 3) 3 = some d.cells := by
  unfold rowB at h
  split at h <;> try (cases h; done)
  · have : ds = [] := by
      have e := congrArg List.length (Option.some.inj h)
      rw [rowsC_len dsC_len] at e
      exact List.length_eq_zero_iff.1 (by simp at e; omega)
    subst this
    exact ⟨none, 0, rfl, fun i d hd => by simp at hd⟩
  · have : ds = [] := by
      have e := congrArg List.length (Option.some.inj h)
      rw [rowsC_len dsC_len] at e
      exact List.length_eq_zero_iff.1 (by simp at e; omega)
    subst this
    exact ⟨none, 1, rfl, fun i d hd => by simp at hd⟩
  · rename_i B o n c
    split at h <;> try (cases h; done)
    rename_i cs ty rw hB
    have hl := read_len h
    rw [rowsC_len dsC_len] at hl
    have hn : n = ds.length := by omega
    subst hn
    refine ⟨_, _, rfl, fun i d hd => ⟨B, o, cs, ty, rw, rfl, hB, ?_⟩⟩
    have hi : i < ds.length := (List.getElem?_eq_some_iff.1 hd).1
    rw [read_sub h (by omega)]
    have := rowsC_read (f := Dsc.cells) dsC_len (l := ds) (i := i) (o := 0) (m := 3) (x := d) hd (by omega) []
    simp only [Nat.add_zero, List.append_nil, List.drop_zero] at this
    unfold readCells at this
    split at this <;> try (cases this; done)
    rw [this]
    rfl
section
variable {G : Nat} {ν : Toks} {W : World} {may : Nat → Prop} {call : CallB}
set_option maxHeartbeats 2000000 in
theorem entNew_ok (hc : CallOK Tryz.prog G (LBegin Tryz.prog ν LL W may) ν call) (h1 : ∀ a h, call 35 a h = cNewF a h) (h2 : ∀ a h, call 36 a h = cRegNew a h) (h3 : ∀ a h, call 37 a h = cRegAdd a h) : SpecOK Tryz.prog G (LBegin Tryz.prog ν LL W may) ν 31 cEntNew := by
  refine fun_okX (by kernel_rfl) hc fun args s v h' e Lv hlv hG => ?_
  unfold cEntNew at e
  split at e <;> try (cases e; done)
  rename_i size top v0
  split at e <;> try (cases e; done)
  rename_i ds hds
  obtain ⟨vs, hr1, hr2⟩ := Option.bind_eq_some_iff.1 hds
  have hvs := dscsL_eq hr2
  subst hvs
  split at e
  · rename_i hal
    simp only [Option.some.injEq, Prod.mk.injEq] at e
    obtain ⟨rfl, rfl⟩ := e
    refine ⟨by simp, 0, ?_⟩
    have hE : cNewF [.int .i64 size, .int .i64 top] s = some (.tuple ⟨[.pointer none, .int .i64 1]⟩, s) := by
      unfold allocOk at hal
      simp only [cNewF, cNewE, hal]
    refine ⟨Tryz.f31, _, Tryz.func31, rfl, by simp [Tryz.f31], ?_⟩; rw [Tryz.ntmps31]
    repeat' (first | simp (disch := omega) only [go_sem, reduceIte, sliceB, h1, hE, Tryz.results31] | (with_reducible refine w_chain0 ?_ ?_; focus (decide +kernel)) | (with_reducible refine condK_of _ _ ?_ ?_ <;> (intro hb; try simp only [decide_eq_true_eq, decide_eq_false_iff_not] at hb)) | (with_reducible refine gdK_of_f _ _ _ _ _ ?_ ?_ <;> (intro hb; try simp only [decide_eq_true_eq, decide_eq_false_iff_not] at hb)) | (with_reducible refine gdK_of_t _ _ _ _ _ ?_ ?_ <;> (intro hb; try simp only [decide_eq_true_eq, decide_eq_false_iff_not] at hb)) | (with_reducible refine gK_of_f _ _ _ ?_ ?_ <;> (intro hb; try simp only [decide_eq_true_eq, decide_eq_false_iff_not] at hb)) | (with_reducible refine gK_of_t _ _ _ ?_ ?_ <;> (intro hb; try simp only [decide_eq_true_eq, decide_eq_false_iff_not] at hb)))
    exact endsX_same rfl (by first | omega | (simp only; omega) | simp) fun X hX => rfl
  · rename_i hal
    have hE : cNewF [.int .i64 size, .int .i64 top] s = some (.tuple ⟨[.pointer (some ⟨s.next, 0, none⟩), .int .i64 0]⟩, ⟨s.t.set s.next (some (.res (.alloc (Als.new size.toNat top)))), s.next + 1⟩) := by
      unfold allocOk at hal
      have hx := hal
      simp only [Bool.and_eq_true, decide_eq_true_eq] at hx
      simp only [cNewF, cNewE, hal, cNewA]
      rw [nble_t (by omega), nble_t (by omega), nble_t (by omega), nble_t (by omega)]
      rfl
    generalize hal2 : Als.new size.toNat top = al at *
    have hres0 : compsE 0 ds = 0 → v = .tuple ⟨[.pointer (some ⟨s.next + (2 + 8 * ds.length), 0, none⟩), .int .i64 0]⟩ ∧ h' = ⟨fillT s.t s.next (entF al s.next ds) (3 + 8 * ds.length), s.next + (3 + 8 * ds.length)⟩ := fun h0 => by
      rw [if_pos h0] at e
      simp only [Option.some.injEq, Prod.mk.injEq] at e
      exact ⟨e.1.symm, e.2.symm⟩
    have hres1 : compsE 0 ds ≠ 0 → v = .tuple ⟨[.pointer none, .int .i64 (compsE 0 ds)]⟩ ∧ h' = ⟨fillT s.t s.next (fun _ => none) (3 + 8 * ds.length), s.next + (3 + 8 * ds.length)⟩ := fun h0 => by
      rw [if_neg h0] at e
      simp only [Option.some.injEq, Prod.mk.injEq] at e
      exact ⟨e.1.symm, e.2.symm⟩
    clear e
    obtain ⟨a, c, rfl, hel⟩ := row_descs hr1
    have hle : s.next ≤ h'.next := by
      by_cases h0 : compsE 0 ds = 0
      · rw [(hres0 h0).2]; simp
      · rw [(hres1 h0).2]; simp
    refine ⟨hle, 0, ?_⟩
    generalize hn : ds.length = n at *
    refine ⟨Tryz.f31, _, Tryz.func31, rfl, by simp [Tryz.f31], ?_⟩; rw [Tryz.ntmps31]
    repeat' (first | simp (disch := omega) only [go_sem, reduceIte, sliceB, h1, hE, h2, cRegNew, Tryz.results31] | (with_reducible refine w_chain0 ?_ ?_; focus (decide +kernel)) | (with_reducible refine condK_of _ _ ?_ ?_ <;> (intro hb; try simp only [decide_eq_true_eq, decide_eq_false_iff_not] at hb)) | (with_reducible refine gdK_of_f _ _ _ _ _ ?_ ?_ <;> (intro hb; try simp only [decide_eq_true_eq, decide_eq_false_iff_not] at hb)) | (with_reducible refine gdK_of_t _ _ _ _ _ ?_ ?_ <;> (intro hb; try simp only [decide_eq_true_eq, decide_eq_false_iff_not] at hb)) | (with_reducible refine gK_of_f _ _ _ ?_ ?_ <;> (intro hb; try simp only [decide_eq_true_eq, decide_eq_false_iff_not] at hb)) | (with_reducible refine gK_of_t _ _ _ ?_ ?_ <;> (intro hb; try simp only [decide_eq_true_eq, decide_eq_false_iff_not] at hb)))
    refine w_loop (fun m T1 h1 => ∃ i, i ≤ n ∧ m = n - i ∧ Eva.look T1 25 = .slice a n c ∧ Eva.look T1 26 = .int .i64 (n : Int) ∧ Eva.look T1 27 = .int .i64 (i : Int) ∧ Eva.look T1 8 = .pointer (some ⟨s.next, 0, none⟩) ∧ Eva.look T1 10 = .pointer (some ⟨s.next + 1, 0, none⟩) ∧ h1.next = s.next + 2 + 8 * i ∧
      h1.t.at_ s.next = some (.res (.alloc al)) ∧ h1.t.at_ (s.next + 1) = some (.cells [regV s.next i] 138 true) ∧ (0 < i → h1.t.at_ (s.next + 1 + 8 * i) = some (.cells (ptsF (s.next + 4) 8 i) 143 true)) ∧
      (∀ k d j, k < i → ds[k]? = some d → j < 4 → h1.t.at_ (s.next + 4 + 8 * k + j) = slotF (s.next + 4 + 8 * k) (Sls.new d) j) ∧ compsE 0 ds = compsE i (ds.drop i) ∧ ∀ X, X < s.next → h1.t.at_ X = s.t.at_ X) n ?_ ?_
    · refine ⟨0, by omega, by omega, ?_, ?_, ?_, ?_, ?_, ?_, ?_, ?_, ?_, ?_, rfl, ?_⟩ <;> (try intro X hX1) <;> (try simp (disch := omega) only [go_sem, reduceIte, sliceB, regV_zero]) <;> (try omega) <;> (try rfl)
    · rintro m T1 h1 ⟨i, hi, hm, t25, t26, t27, t8, t10, hnx, wA, wR, wrow, wsl, hcmp, hold⟩
      by_cases hlt : i < n
      · obtain ⟨d, hdi⟩ : ∃ d, ds[i]? = some d := ⟨ds[i]'(by omega), List.getElem?_eq_getElem (by omega)⟩
        obtain ⟨B, o, cs, ty, rw, rfl, hB, hrd⟩ := hel i d hdi
        have lB := hlv.lt _ (hlv.arg B (by simp [occL, occ]))
        have hB1 : h1.t.at_ B = some (.cells cs ty rw) := (hold B lB).trans hB
        have hdrop : ds.drop i = d :: ds.drop (i + 1) := by rw [List.drop_eq_getElem_cons (by omega), (List.getElem?_eq_some_iff.1 hdi).2]
        rw [hdrop, compsE_cons] at hcmp
        unfold readCells at hrd
        split at hrd <;> try (cases hrd; done)
        rename_i hrd1
        have hrd2 := Option.some.inj hrd
        have hdc : d.cells = [.int .i64 d.k, .int .i64 d.v, .int .i64 d.b] := rfl
        have hadd : ∀ T nx, T.at_ (s.next + 1) = some (.cells [regV s.next i] 138 true) → (0 < i → T.at_ (s.next + 1 + 8 * i) = some (.cells (ptsF (s.next + 4) 8 i) 143 true)) →
            cRegAdd [.pointer (some ⟨s.next + 1, 0, none⟩), .agg ⟨[.int .i64 d.k, .int .i64 d.v, .int .i64 d.b]⟩] ⟨T, nx⟩ = regAdd (s.next + 1) i (ptsF (s.next + 4) 8 i) d.k d.v d.b ⟨T, nx⟩ (if i = 0 then T else T.set (s.next + 1 + 8 * i) none) := fun T nx q1 q2 => by
          cases i with
          | zero => simp only [cRegAdd, q1, regV_zero]; rfl
          | succ i =>
            simp only [cRegAdd, q1, regV_succ, q2 (by omega)]
            rw [if_pos ⟨trivial, trivial, ptsF_len _ _ _, by omega⟩, if_neg (by omega)]
        repeat' (first | simp (disch := omega) only [go_sem, reduceIte, sliceB, t25, t26, t27, t8, t10, hnx, hB1, hrd1, hrd2, hdc, h3, Int.toNat_natCast] | (with_reducible refine w_chain0 ?_ ?_; focus (decide +kernel)) | (with_reducible refine condK_of _ _ ?_ ?_ <;> (intro hb; try simp only [decide_eq_true_eq, decide_eq_false_iff_not] at hb)) | (with_reducible refine gdK_of_f _ _ _ _ _ ?_ ?_ <;> (intro hb; try simp only [decide_eq_true_eq, decide_eq_false_iff_not] at hb)) | (with_reducible refine gdK_of_t _ _ _ _ _ ?_ ?_ <;> (intro hb; try simp only [decide_eq_true_eq, decide_eq_false_iff_not] at hb)) | (with_reducible refine gK_of_f _ _ _ ?_ ?_ <;> (intro hb; try simp only [decide_eq_true_eq, decide_eq_false_iff_not] at hb)) | (with_reducible refine gK_of_t _ _ _ ?_ ?_ <;> (intro hb; try simp only [decide_eq_true_eq, decide_eq_false_iff_not] at hb)))
        rw [hadd _ _ (by simp (disch := omega) only [go_sem, reduceIte, sliceB, wR]) (fun h0 => by simp (disch := omega) only [go_sem, reduceIte, sliceB, wrow h0])]
        unfold regAdd
        by_cases hE0 : chkE d.k d.v d.b = 0
        · rw [if_pos hE0] at hcmp ⊢
          by_cases h64 : i < 64
          · rw [if_pos h64] at hcmp ⊢
            repeat' (first | simp (disch := omega) only [go_sem, reduceIte, sliceB, t25, t26, t27, t8, t10, hnx] | (with_reducible refine w_chain0 ?_ ?_; focus (decide +kernel)) | (with_reducible refine condK_of _ _ ?_ ?_ <;> (intro hb; try simp only [decide_eq_true_eq, decide_eq_false_iff_not] at hb)) | (with_reducible refine gdK_of_f _ _ _ _ _ ?_ ?_ <;> (intro hb; try simp only [decide_eq_true_eq, decide_eq_false_iff_not] at hb)) | (with_reducible refine gdK_of_t _ _ _ _ _ ?_ ?_ <;> (intro hb; try simp only [decide_eq_true_eq, decide_eq_false_iff_not] at hb)) | (with_reducible refine gK_of_f _ _ _ ?_ ?_ <;> (intro hb; try simp only [decide_eq_true_eq, decide_eq_false_iff_not] at hb)) | (with_reducible refine gK_of_t _ _ _ ?_ ?_ <;> (intro hb; try simp only [decide_eq_true_eq, decide_eq_false_iff_not] at hb)))
            generalize hT : (if i = 0 then _ else _ : Tr AObj) = T0
            have hT0 : ∀ X, X ≠ s.next + 1 + 8 * i → X ≠ s.next + 2 + 8 * i → T0.at_ X = h1.t.at_ X := fun X x1 x2 => by
              rw [← hT]
              split <;> simp (disch := omega) only [go_sem, reduceIte, sliceB]
            have h0A : s.next + 1 + 8 * i = s.next + 1 ∨ s.next + 1 < s.next + 1 + 8 * i := by omega
            refine ⟨n - (i + 1), by omega, i + 1, by omega, rfl, by simp, by omega, ?_, ?_, ?_, ?_, hcmp, ?_⟩
            · simp (disch := omega) only [go_sem, reduceIte, sliceB, fillT_out, hT0]
              exact wA
            · simp (disch := omega) only [go_sem, reduceIte, sliceB, fillT_out, regV_succ]
              rw [show s.next + 2 + 8 * i + 1 + 6 = s.next + 1 + 8 * (i + 1) by omega]
            · intro _
              simp (disch := omega) only [go_sem, reduceIte, sliceB, fillT_get]
              rw [show s.next + 1 + 8 * (i + 1) - (s.next + 2 + 8 * i + 1) = 6 by omega]
              simp only [regF, ptsF]
              rw [show s.next + 2 + 8 * i + 1 + 1 = s.next + 4 + 8 * i by omega]
            · intro k d' j hk hd' hj
              by_cases hki : k = i
              · subst hki
                rw [hdi] at hd'
                cases hd'
                simp (disch := omega) only [go_sem, reduceIte, sliceB, fillT_get]
                rw [show s.next + 4 + 8 * k + j - (s.next + 2 + 8 * k + 1) = j + 1 by omega]
                rw [regF_slot hj]
                rw [show s.next + 2 + 8 * k + 1 + 1 = s.next + 4 + 8 * k by omega]
              · simp (disch := omega) only [go_sem, reduceIte, sliceB, fillT_out, hT0]
                exact wsl k d' j (by omega) hd' hj
            · intro X hX
              simp (disch := omega) only [go_sem, reduceIte, sliceB, fillT_out, hT0]
              exact hold X hX
          · rw [if_neg h64] at hcmp ⊢
            obtain ⟨rfl, rfl⟩ := hres1 (by rw [hcmp]; decide)
            rw [hcmp]
            repeat' (first | simp (disch := omega) only [go_sem, reduceIte, sliceB, t25, t26, t27, t8, t10, hnx, Tryz.results31] | (with_reducible refine w_chain0 ?_ ?_; focus (decide +kernel)) | (with_reducible refine condK_of _ _ ?_ ?_ <;> (intro hb; try simp only [decide_eq_true_eq, decide_eq_false_iff_not] at hb)) | (with_reducible refine gdK_of_f _ _ _ _ _ ?_ ?_ <;> (intro hb; try simp only [decide_eq_true_eq, decide_eq_false_iff_not] at hb)) | (with_reducible refine gdK_of_t _ _ _ _ _ ?_ ?_ <;> (intro hb; try simp only [decide_eq_true_eq, decide_eq_false_iff_not] at hb)) | (with_reducible refine gK_of_f _ _ _ ?_ ?_ <;> (intro hb; try simp only [decide_eq_true_eq, decide_eq_false_iff_not] at hb)) | (with_reducible refine gK_of_t _ _ _ ?_ ?_ <;> (intro hb; try simp only [decide_eq_true_eq, decide_eq_false_iff_not] at hb)))
            refine endsX_same rfl (by simp only; omega) fun X hX => ?_
            simp (disch := omega) only [go_sem, reduceIte, sliceB, fillT_out]
            exact hold X hX
        · rw [if_neg hE0] at hcmp ⊢
          obtain ⟨rfl, rfl⟩ := hres1 (by rw [hcmp]; exact hE0)
          rw [hcmp]
          generalize chkE d.k d.v d.b = E at *
          repeat' (first | simp (disch := omega) only [go_sem, reduceIte, sliceB, t25, t26, t27, t8, t10, hnx, Tryz.results31] | (with_reducible refine w_chain0 ?_ ?_; focus (decide +kernel)) | (with_reducible refine condK_of _ _ ?_ ?_ <;> (intro hb; try simp only [decide_eq_true_eq, decide_eq_false_iff_not] at hb)) | (with_reducible refine gdK_of_f _ _ _ _ _ ?_ ?_ <;> (intro hb; try simp only [decide_eq_true_eq, decide_eq_false_iff_not] at hb)) | (with_reducible refine gdK_of_t _ _ _ _ _ ?_ ?_ <;> (intro hb; try simp only [decide_eq_true_eq, decide_eq_false_iff_not] at hb)) | (with_reducible refine gK_of_f _ _ _ ?_ ?_ <;> (intro hb; try simp only [decide_eq_true_eq, decide_eq_false_iff_not] at hb)) | (with_reducible refine gK_of_t _ _ _ ?_ ?_ <;> (intro hb; try simp only [decide_eq_true_eq, decide_eq_false_iff_not] at hb)))
          refine endsX_same rfl (by simp only; omega) fun X hX => ?_
          simp (disch := omega) only [go_sem, reduceIte, sliceB, fillT_out]
          exact hold X hX
      · obtain rfl : i = n := by omega
        have hd0 : ds.drop i = [] := List.drop_eq_nil_of_le (by omega)
        rw [hd0] at hcmp
        obtain ⟨rfl, rfl⟩ := hres0 (by rw [hcmp]; rfl)
        repeat' (first | simp (disch := omega) only [go_sem, reduceIte, sliceB, t25, t26, t27, t8, t10, hnx, Tryz.results31] | (with_reducible refine w_chain0 ?_ ?_; focus (decide +kernel)) | (with_reducible refine condK_of _ _ ?_ ?_ <;> (intro hb; try simp only [decide_eq_true_eq, decide_eq_false_iff_not] at hb)) | (with_reducible refine gdK_of_f _ _ _ _ _ ?_ ?_ <;> (intro hb; try simp only [decide_eq_true_eq, decide_eq_false_iff_not] at hb)) | (with_reducible refine gdK_of_t _ _ _ _ _ ?_ ?_ <;> (intro hb; try simp only [decide_eq_true_eq, decide_eq_false_iff_not] at hb)) | (with_reducible refine gK_of_f _ _ _ ?_ ?_ <;> (intro hb; try simp only [decide_eq_true_eq, decide_eq_false_iff_not] at hb)) | (with_reducible refine gK_of_t _ _ _ ?_ ?_ <;> (intro hb; try simp only [decide_eq_true_eq, decide_eq_false_iff_not] at hb)))
        refine endsX_fill (by rw [show s.next + (2 + 8 * i) = s.next + 2 + 8 * i by omega]) (by simp only; omega) (fun j o hj ho => ?_) fun X hX => ?_
        · unfold entF at ho
          rw [hn] at ho
          split at ho
          · rename_i hj0
            subst hj0
            cases ho
            simp (disch := omega) only [go_sem, reduceIte, sliceB]
            exact wA
          · split at ho
            · rename_i hj0
              subst hj0
              cases ho
              simp (disch := omega) only [go_sem, reduceIte, sliceB]
              exact wR
            · split at ho
              · rename_i hj0
                subst hj0
                cases ho
                rw [show s.next + (2 + 8 * i) = s.next + 2 + 8 * i by omega]
                simp (disch := omega) only [go_sem, reduceIte, sliceB, pt]
              · split at ho
                · rename_i hj0
                  subst hj0
                  cases ho
                  rw [show s.next + (1 + 8 * i) = s.next + 1 + 8 * i by omega]
                  simp (disch := omega) only [go_sem, reduceIte, sliceB]
                  exact wrow (by omega)
                · split at ho
                  · cases ho
                  · split at ho
                    · rename_i d hd
                      have hk : (j - 4) / 8 < i := by
                        have := (List.getElem?_eq_some_iff.1 hd).1
                        omega
                      have hj4 : (j - 4) % 8 < 4 := by
                        rcases Nat.lt_or_ge ((j - 4) % 8) 4 with h | h
                        · exact h
                        · rw [slotF_ge h] at ho; cases ho
                      have hjj : s.next + 4 + 8 * ((j - 4) / 8) + (j - 4) % 8 = s.next + j := by omega
                      rw [← ho, ← wsl _ d _ hk hd hj4, hjj]
                      simp (disch := omega) only [go_sem, reduceIte, sliceB]
                    · cases ho
        · simp (disch := omega) only [go_sem, reduceIte, sliceB]
          exact hold X hX
end
end Go.Proofs.YtclmjcjaebonnaaGreatDoor
end

/-
  Rows among the tree's blocks: what a frame leaves, what an append makes, what memory hands in.
-/
section
set_option linter.unusedSimpArgs false
set_option linter.unusedVariables false
namespace Go.Sym
open Go Go.RowKit Go.Viv Go.Eva
theorem rowB_frame {t t' : Tr AObj} {k : Nat} {v : Value} (h : ∀ X, occ X v = true → t'.at_ X = t.at_ X) : rowB t' k v = rowB t k v := by
  unfold rowB
  split <;> try rfl
  rename_i B o n c
  rw [h B (by simp [occ])]
theorem row_ints {t : Tr AObj} {v : Value} {l : List Int} (h : rowB t 1 v = some (intsC l)) : ∃ a c, v = .slice a l.length c ∧ ∀ i x, l[i]? = some x → ∃ B o cs ty rw, a = some ⟨B, o, none⟩ ∧ t.at_ B = some (.cells cs ty rw) ∧ cs[o + i]? = some (.int .i64 x) := by
  unfold rowB at h
  split at h <;> try (cases h; done)
  · have : l = [] := List.length_eq_zero_iff.1 (by rw [← intsC_len, ← Option.some.inj h]; rfl)
    subst this
    exact ⟨none, 0, rfl, fun i x hx => by simp at hx⟩
  · have : l = [] := List.length_eq_zero_iff.1 (by rw [← intsC_len, ← Option.some.inj h]; rfl)
    subst this
    exact ⟨none, 1, rfl, fun i x hx => by simp at hx⟩
  · rename_i B o n c
    split at h <;> try (cases h; done)
    rename_i cs ty rw hB
    have hl := read_len h
    rw [intsC_len] at hl
    have hn : n = l.length := by omega
    subst hn
    refine ⟨_, _, rfl, fun i x hx => ⟨B, o, cs, ty, rw, rfl, hB, ?_⟩⟩
    have hi : i < l.length := (List.getElem?_eq_some_iff.1 hx).1
    unfold readCells at h
    split at h <;> try (cases h; done)
    have h2 : (List.take (l.length * 1) (List.drop o cs))[i]? = (intsC l)[i]? := by rw [Option.some.inj h]
    rw [List.getElem?_take_of_lt (by omega), List.getElem?_drop] at h2
    rw [h2]
    simp [intsC, hx]
def noneT (s : Hp) (n : Nat) : Hp := ⟨fillT s.t s.next (fun _ => none) n, s.next + n⟩
/-- A row appended to an empty literal of one's own. -/
theorem app_lit {P : Program} {h : Hp} {st xt e : TypeId} {k B n c : Nat} {a : Option Addr} {z vs : List Value} (hu : P.underlying st = some (.slice e)) (hx : P.underlying xt = some (.slice e)) (hs : sizeB P e = some (k + 1)) (hz : plainZero P e = some z) (hzl : z.length = k + 1)
    (hb : Nat.ble (((P.info? e).map (·.bytes)).getD 10000000) 1000000 = true) (hB : h.t.at_ B = some (.cells [] e true)) (hr : rowB h.t (k + 1) (.slice a n c) = some vs) (hn : n ≤ 1000000) (hone : vs.all oneB = true) (hl : vs.length = n * (k + 1)) :
    (n = 0 ∧ appendB P h [st, xt] (.slice (some ⟨B, 0, none⟩) 0 1) (.slice a n c) = some (.slice (some ⟨B, 0, none⟩) 0 1, ⟨h.t.set B (some (.cells [] e true)), h.next⟩)) ∨
    (0 < n ∧ appendB P h [st, xt] (.slice (some ⟨B, 0, none⟩) 0 1) (.slice a n c) = some (.slice (some ⟨h.next, 0, none⟩) n 0, ⟨h.t.set h.next (some (.cells vs e true)), h.next + 1⟩)) := by
  have hnews : newsB P h.t (k + 1) z xt (.slice a n c) = some (n, vs) := by
    unfold rowB at hr
    split at hr <;> try (cases hr; done)
    · rename_i e1; simp only [Value.slice.injEq] at e1; obtain ⟨rfl, rfl, rfl⟩ := e1; cases hr
      simp only [newsB, hx, srcB, lenV, firstB, Option.map_some]
    · rename_i e1; simp only [Value.slice.injEq] at e1; obtain ⟨rfl, rfl, rfl⟩ := e1; cases hr
      simp only [newsB, hx, srcB, lenV, firstB, Option.map_some, Nat.beq_refl]
    · rename_i B' o n' c' e1
      simp only [Value.slice.injEq] at e1
      obtain ⟨rfl, rfl, rfl⟩ := e1
      split at hr <;> try (cases hr; done)
      rename_i cs ty rw hB'
      cases n with
      | zero =>
        have : vs = [] := List.length_eq_zero_iff.1 (by rw [hl]; omega)
        subst this
        simp only [newsB, hx, srcB, lenV, firstB, Option.map_some, Nat.beq_refl]
      | succ n =>
        have b0 : Nat.beq (n + 1) 0 = false := rfl
        simp only [newsB, hx, srcB, lenV, firstB, b0, nble_t (Nat.le_refl (n + 1)), hB', hr, Option.map_some]
  have hchk : (vs.all oneB && Nat.beq vs.length (n * (k + 1)) && Nat.beq z.length (k + 1) && Nat.ble n 1000000 && Nat.ble (((P.info? e).map (·.bytes)).getD 10000000) 1000000) = true := by
    rw [hone, hb, nbeq_t hl, nbeq_t hzl, nble_t hn]
    rfl
  cases n with
  | zero =>
    have : vs = [] := List.length_eq_zero_iff.1 (by rw [hl]; omega)
    subst this
    refine .inl ⟨rfl, ?_⟩
    unfold appendB
    simp only [hu, hs, hz, hnews, hchk]
    simp [appendB.app, hB, has, spl]
  | succ n =>
    refine .inr ⟨by omega, ?_⟩
    unfold appendB
    simp only [hu, hs, hz, hnews, hchk]
    have b0 : Nat.ble (n + 1) 0 = false := rfl
    simp [appendB.app, firstB, b0]
def addC (call : CallB) (g : FuncId) (c : CallS) : CallB := fun f a h => if f = g then c a h else call f a h
theorem addC_ok {P : Program} {G : Nat} {W0 : Begin} {ν : Toks} {call : CallB} {g : FuncId} {c : CallS} (h : CallOK P G W0 ν call) (hc : SpecOK P G W0 ν g c) : CallOK P G W0 ν (addC call g c) := by
  intro f args s v h' e
  unfold addC at e
  split at e
  · rename_i hf
    subst hf
    exact hc args s v h' e
  · exact h f args s v h' e
def numOr : Value → Value
  | .int k n => .int k n
  | .bool b => .bool b
  | _ => .chan none
/-- A block of memory as one of the tree's: its whole numbers. -/
def blkOb (W : World) (b : Nat) : Option AObj := match W.heap[b]? with
  | some (.cells cs e _) => some (.cells (cs.toList.map numOr) e false)
  | _ => none
def szOf (W : World) (b : Nat) : Nat := match W.heap[b]? with
  | some (.cells cs _ _) => cs.size
  | _ => 0
theorem numOr_rel {ν : Toks} {φ : Phi} : ∀ l : List Value, VRs ν φ (l.map numOr) l
  | [] => .nil
  | v :: l => .cons (by cases v <;> first | exact .int _ _ | exact .bool _ | exact .bad _) (numOr_rel l)
theorem blk_obj {P : Program} {own : Nat → Prop} {ν : Toks} {φ : Phi} {W : World} {b : Nat} {o : AObj} (h : blkOb W b = some o) : isRes (some o) = false ∧ ObjR P own ν φ W ⟨b, szOf W b, 0⟩ o := by
  unfold blkOb at h
  split at h <;> try (cases h; done)
  rename_i cs e fr hb
  cases h
  refine ⟨rfl, .cells hb (by simp only [szOf, hb]) (fun h => by cases h) ?_⟩
  rw [List.length_map, List.take_length]
  exact numOr_rel _
/-- A row of plain cells in memory, as what is handed in. -/
theorem arg_rowV {W : World} {A : Option Addr} {vs : List Value} {n k cap : Nat} (h : RowC W A vs) (hv : ∀ (i : Nat) (x : Value), vs[i]? = some x → numOr x = x) (hl : vs.length = n * k) (hk : 0 < k) (hc : n ≤ cap) (hA : A = none → cap = 0) :
    ∃ (v : Value) (b : Nat), roomOk v = true ∧ (∀ (ν : Toks), VR ν (phi0 W.heap.size (szOf W)) v (.slice A n cap)) ∧ ∀ t : Tr AObj, (b < W.heap.size → t.at_ b = blkOb W b) → rowB t k v = some vs := by
  rcases Nat.eq_zero_or_pos n with h0 | h0
  · subst h0
    have hl0 : vs = [] := List.length_eq_zero_iff.1 (by omega)
    subst hl0
    cases A with
    | none =>
      obtain rfl := hA rfl
      exact ⟨.slice none 0 0, 0, rfl, fun ν => .sl0, fun t _ => rfl⟩
    | some a => exact ⟨.slice none 0 1, 0, rfl, fun ν => .emp _ _, fun t _ => rfl⟩
  · rcases h with h | ⟨b, o, rfl, hb, hcell⟩
    · exfalso
      rw [h] at hl
      have : n * k = 0 := hl.symm
      rcases Nat.mul_eq_zero.1 this with h | h <;> omega
    · refine ⟨.slice (some ⟨b, o, none⟩) n (cap + 1), b, nble_t hc, fun ν => .slk (r := ⟨b, szOf W b, 0⟩) (by simp [phi0, hb]) hc, fun t ht => ?_⟩
      have hlen : 0 < vs.length := by rw [hl]; exact Nat.mul_pos h0 hk
      have hex : ∃ cs e fr, W.heap[b]? = some (.cells cs e fr) := by
        have := hcell 0 _ (List.getElem?_eq_getElem hlen)
        simp only [World.cell?] at this
        cases hh : W.heap[b]? with
        | none => rw [hh] at this; cases this
        | some ob => cases ob with
          | cells cs e fr => exact ⟨cs, e, fr, rfl⟩
          | _ => rw [hh] at this; simp at this
      obtain ⟨cs, e, fr, hh⟩ := hex
      have hat : t.at_ b = some (.cells (cs.toList.map numOr) e false) := by rw [ht hb]; simp only [blkOb, hh]
      have hg : ∀ i (hi : i < vs.length), cs[o + i]? = some vs[i] := fun i hi => by
        have := hcell i _ (List.getElem?_eq_getElem hi)
        simp only [World.cell?, hh] at this
        simpa using this
      have hsz : o + vs.length ≤ cs.size := by
        have := hg (vs.length - 1) (by omega)
        have := (Array.getElem?_eq_some_iff.1 this).1
        omega
      simp only [rowB, hat]
      unfold readCells
      rw [has_le (by simp; omega)]
      simp only [Option.some.injEq]
      apply List.ext_getElem?
      intro i
      by_cases hi : i < n * k
      · rw [List.getElem?_take_of_lt hi, List.getElem?_drop, List.getElem?_map, Array.getElem?_toList, hg i (by omega), List.getElem?_eq_getElem (show i < vs.length by omega)]
        simp only [Option.map_some, Option.some.injEq]
        exact hv i _ (List.getElem?_eq_getElem (by omega))
      · rw [List.getElem?_eq_none (by simp; omega), List.getElem?_eq_none (by omega)]
/-- A row of whole numbers in memory, as what is handed in. -/
theorem arg_row {W : World} {A : Option Addr} {l : List Int} {n k cap : Nat} (h : RowC W A (intsC l)) (hl : l.length = n * k) (hk : 0 < k) (hc : n ≤ cap) (hA : A = none → cap = 0) :
    ∃ (v : Value) (b : Nat), roomOk v = true ∧ (∀ (ν : Toks), VR ν (phi0 W.heap.size (szOf W)) v (.slice A n cap)) ∧ ∀ t : Tr AObj, (b < W.heap.size → t.at_ b = blkOb W b) → rowB t k v = some (intsC l) :=
  arg_rowV h (fun i x hx => by
    have hi : i < l.length := by
      have := (List.getElem?_eq_some_iff.1 hx).1
      rwa [intsC_len] at this
    rw [intsC_get hi] at hx
    cases hx
    rfl) (by rw [intsC_len]; exact hl) hk hc hA
end Go.Sym
end

/-
  Package world over the tree: New.
-/
section
set_option linter.unusedSimpArgs false
set_option linter.unusedVariables false
namespace Go.Sym
open Go Go.RowKit Go.Viv Go.Eva
end Go.Sym
namespace Go.Proofs.YtclmjcjaebonnaaGreatDoor
open Go Go.RowKit Go.Viv Go.Eva Go.Sym
/-- What a world's making ends in. -/
def newE (size top : Int) (ds : List Dsc) : Int := if allocOk size top = true then compsE 0 ds else 1
/-- The blocks of a new world, from the number ahead of its handles' on. -/
def worldF (A : Nat) (size top : Int) (ds : List Dsc) (rs : List Int) (j : Nat) : Option AObj :=
  if j = 0 then none else if j < 4 + 8 * ds.length then entF (Als.new size.toNat top) A ds (j - 1)
  else if j = 17 + 8 * ds.length then some (.cells [pt (A + 2 + 8 * ds.length), pt (A + 19 + 8 * ds.length), pt (A + 20 + 8 * ds.length), .bool false, .int .i64 size, .int .i64 top] 103 true)
  else if j = 20 + 8 * ds.length then some (.res (.nums (rs.take 32))) else if j = 21 + 8 * ds.length then some (.res (.queue [])) else none
def cWorldNew : Sym.CallS := fun args s => match args with
  | [.agg ⟨[.int .i64 size, .int .i64 top, v, r]⟩] => match (rowB s.t 3 v).bind dscsL, (rowB s.t 1 r).bind intsL, roomOk r with
    | some ds, some rs, true => if newE size top ds = 0 then some (.tuple ⟨[.pointer (some ⟨s.next + (17 + 8 * ds.length), 0, none⟩), .int .i64 0]⟩, ⟨fillT s.t s.next (worldF (s.next + 1) size top ds rs) (22 + 8 * ds.length), s.next + (22 + 8 * ds.length)⟩)
      else some (.tuple ⟨[.pointer none, .int .i64 (newE size top ds)]⟩, ⟨fillT s.t s.next (fun _ => none) (22 + 8 * ds.length), s.next + (22 + 8 * ds.length)⟩)
    | _, _, _ => none
  | _ => none
section
variable {G : Nat} {ν : Toks} {W : World} {may : Nat → Prop} {call : CallB}
set_option maxHeartbeats 2000000 in
theorem worldNew_ok (hc : CallOK Tryz.prog G (LBegin Tryz.prog ν LL W may) ν call) (h1 : ∀ a h, call 31 a h = cEntNew a h) (h2 : ∀ a h, call 32 a h = cResNew a h) (h3 : ∀ a h, call 33 a h = cLazyNew a h) : SpecOK Tryz.prog G (LBegin Tryz.prog ν LL W may) ν 24 cWorldNew := by
  refine fun_okX (by kernel_rfl) hc fun args s v h' e Lv hlv hG => ?_
  unfold cWorldNew at e
  split at e <;> try (cases e; done)
  rename_i size top v0 r0
  split at e <;> try (cases e; done)
  rename_i ds rs hds hrs hrm
  have occV : ∀ X, occ X v0 = true → X < s.next := fun X h => hlv.lt _ (hlv.arg X (by simp [occL, occ, h]))
  have occR : ∀ X, occ X r0 = true → X < s.next := fun X h => hlv.lt _ (hlv.arg X (by simp [occL, occ, h]))
  have hv : ∀ T : Tr AObj, (∀ X, X < s.next → T.at_ X = s.t.at_ X) → (rowB T 3 v0).bind dscsL = some ds := fun T hT => by
    rw [rowB_frame (t := s.t) (fun X h => hT X (occV X h))]; exact hds
  have hr : ∀ T : Tr AObj, (∀ X, X < s.next → T.at_ X = s.t.at_ X) → (rowB T 1 r0).bind intsL = some rs := fun T hT => by
    rw [rowB_frame (t := s.t) (fun X h => hT X (occR X h))]; exact hrs
  obtain ⟨av, nv, cv, rfl⟩ : ∃ a n c, v0 = .slice a n c := by
    cases v0 <;> first | exact ⟨_, _, _, rfl⟩ | (simp [rowB] at hds)
  obtain ⟨ar, nr_, cr, rfl⟩ : ∃ a n c, r0 = .slice a n c := by
    cases r0 <;> first | exact ⟨_, _, _, rfl⟩ | (simp [rowB] at hrs)
  generalize hT : s.t.set s.next (some (.cells [.int .i64 size, .int .i64 top, Value.slice av nv cv, Value.slice ar nr_ cr] 50 true)) = T at *
  have hTc : T.at_ s.next = some (.cells [.int .i64 size, .int .i64 top, .slice av nv cv, .slice ar nr_ cr] 50 true) := by rw [← hT]; exact Tr.at_set_same _ _ _
  have hTo : ∀ X, X < s.next → T.at_ X = s.t.at_ X := fun X hX => by rw [← hT, Tr.at_set_ne _ _ (by omega)]
  by_cases hE : newE size top ds = 0
  · rw [if_pos hE] at e
    simp only [Option.some.injEq, Prod.mk.injEq] at e
    obtain ⟨rfl, rfl⟩ := e
    refine ⟨by simp, 0, ?_⟩
    have hen : cEntNew [.int .i64 size, .int .i64 top, .slice av nv cv] ⟨T, s.next + 1⟩ = some (.tuple ⟨[.pointer (some ⟨s.next + 1 + (2 + 8 * ds.length), 0, none⟩), .int .i64 0]⟩, ⟨fillT T (s.next + 1) (entF (Als.new size.toNat top) (s.next + 1) ds) (3 + 8 * ds.length), s.next + 1 + (3 + 8 * ds.length)⟩) := by
      unfold cEntNew
      simp only [hv T hTo]
      unfold newE at hE
      cases ha : allocOk size top with
      | false => rw [ha] at hE; cases hE
      | true =>
        rw [ha] at hE
        simp only [if_true] at hE ⊢
        rw [if_pos hE]
    generalize hn : ds.length = n at *
    generalize hU : fillT T (s.next + 1) (entF (Als.new size.toNat top) (s.next + 1) ds) (3 + 8 * n) = U at *
    have hUo : ∀ X, X < s.next + 1 → U.at_ X = T.at_ X := fun X hX => by rw [← hU, fillT_out _ _ _ (.inl (by omega))]
    have hUc : U.at_ s.next = some (.cells [.int .i64 size, .int .i64 top, .slice av nv cv, .slice ar nr_ cr] 50 true) := (hUo _ (by omega)).trans hTc
    have hres : ∀ V nx, (∀ X, X < s.next → V.at_ X = U.at_ X) → cResNew [.slice ar nr_ cr] ⟨V, nx⟩ = some (.pointer (some ⟨nx, 0, none⟩), ⟨V.set nx (some (.res (.nums (rs.take 32)))), nx + 1⟩) := fun V nx hV => by
      unfold cResNew
      simp only [hr V (fun X hX => (hV X hX).trans ((hUo X (by omega)).trans (hTo X hX))), hrm]
    have hres0 : ∀ k, cResNew [.slice ar nr_ cr] ⟨cleanT U (s.next + 1 + (3 + 8 * n)) 16, k⟩ = some (.pointer (some ⟨k, 0, none⟩), ⟨(cleanT U (s.next + 1 + (3 + 8 * n)) 16).set k (some (.res (.nums (rs.take 32)))), k + 1⟩) := fun k => hres _ _ fun X hX => clean_out (.inl (by omega))
    refine ⟨Tryz.f24, _, Tryz.func24, rfl, by simp [Tryz.f24], ?_⟩; rw [Tryz.ntmps24]
    repeat' (first | simp (disch := omega) only [go_sem, reduceIte, sliceB, hT, hTc, hU, hUc, h1, hen, Tryz.results24] | (with_reducible refine w_chain0 ?_ ?_; focus (decide +kernel)) | (with_reducible refine condK_of _ _ ?_ ?_ <;> (intro hb; try simp only [decide_eq_true_eq, decide_eq_false_iff_not] at hb)) | (with_reducible refine gdK_of_f _ _ _ _ _ ?_ ?_ <;> (intro hb; try simp only [decide_eq_true_eq, decide_eq_false_iff_not] at hb)) | (with_reducible refine gdK_of_t _ _ _ _ _ ?_ ?_ <;> (intro hb; try simp only [decide_eq_true_eq, decide_eq_false_iff_not] at hb)) | (with_reducible refine gK_of_f _ _ _ ?_ ?_ <;> (intro hb; try simp only [decide_eq_true_eq, decide_eq_false_iff_not] at hb)) | (with_reducible refine gK_of_t _ _ _ ?_ ?_ <;> (intro hb; try simp only [decide_eq_true_eq, decide_eq_false_iff_not] at hb)))
    refine w_plan [(0, []), (1, []), (2, []), (3, []), (8, []), (9, []), (10, []), (11, []), (4, [0, 1, 8, 9, 10, 11]), (5, []), (6, [0, 1, 8, 9, 10, 11, 5]), (7, []), (12, []), (13, []), (14, []), (15, [])] 16 16 (by decide +kernel) ?_
    repeat' (first | simp (disch := omega) only [go_sem, reduceIte, sliceB, hU, hUc, h2, h3, hres0, cLazyNew, veq, veqL, Tryz.results24] | (with_reducible refine w_chain0 ?_ ?_; focus (decide +kernel)) | (with_reducible refine condK_of _ _ ?_ ?_ <;> (intro hb; try simp only [decide_eq_true_eq, decide_eq_false_iff_not] at hb)) | (with_reducible refine gdK_of_f _ _ _ _ _ ?_ ?_ <;> (intro hb; try simp only [decide_eq_true_eq, decide_eq_false_iff_not] at hb)) | (with_reducible refine gdK_of_t _ _ _ _ _ ?_ ?_ <;> (intro hb; try simp only [decide_eq_true_eq, decide_eq_false_iff_not] at hb)) | (with_reducible refine gK_of_f _ _ _ ?_ ?_ <;> (intro hb; try simp only [decide_eq_true_eq, decide_eq_false_iff_not] at hb)) | (with_reducible refine gK_of_t _ _ _ ?_ ?_ <;> (intro hb; try simp only [decide_eq_true_eq, decide_eq_false_iff_not] at hb)))
    have hq : ∀ z : Int, (IntKind.i64 == IntKind.i64 && z == z) = true := fun z => by simp
    refine ⟨⟨hq _, hq _, trivial⟩, ⟨hq _, hq _, trivial⟩, ?_⟩
    rw [show s.next + 1 + (3 + 8 * n) + 13 = s.next + (17 + 8 * n) by omega]
    refine endsX_fill rfl (by simp only; omega) (fun j o hj ho => ?_) fun X hX => ?_
    · unfold worldF at ho
      rw [hn] at ho
      split at ho
      · cases ho
      · split at ho
        · rename_i h0 hj2
          have : U.at_ (s.next + j) = some o := by
            rw [← hU, fillT_get _ _ _ (by omega) (by omega), ← ho]
            congr 1
            omega
          simp (disch := omega) only [go_sem, reduceIte, sliceB]
          exact this
        · split at ho
          · rename_i hj0
            subst hj0
            cases ho
            simp (disch := omega) only [go_sem, reduceIte, sliceB, pt]
            rw [show s.next + 1 + (2 + 8 * n) = s.next + 1 + 2 + 8 * n by omega, show s.next + 1 + (3 + 8 * n) + 16 = s.next + 1 + 19 + 8 * n by omega, show s.next + 1 + 19 + 8 * n + 1 = s.next + 1 + 20 + 8 * n by omega]
          · split at ho
            · rename_i hj0
              subst hj0
              cases ho
              rw [show s.next + 1 + (3 + 8 * n) + 16 = s.next + (20 + 8 * n) by omega]
              simp (disch := omega) only [go_sem, reduceIte, sliceB]
            · split at ho
              · rename_i hj0
                subst hj0
                cases ho
                rw [show s.next + 1 + (3 + 8 * n) + 16 + 1 = s.next + (21 + 8 * n) by omega]
                simp (disch := omega) only [go_sem, reduceIte, sliceB]
              · cases ho
    · simp (disch := omega) only [go_sem, reduceIte, sliceB]
      exact (hUo X (by omega)).trans (hTo X hX)
  · rw [if_neg hE] at e
    simp only [Option.some.injEq, Prod.mk.injEq] at e
    obtain ⟨rfl, rfl⟩ := e
    refine ⟨by simp, 0, ?_⟩
    have hen : cEntNew [.int .i64 size, .int .i64 top, .slice av nv cv] ⟨T, s.next + 1⟩ = some (.tuple ⟨[.pointer none, .int .i64 (newE size top ds)]⟩, ⟨fillT T (s.next + 1) (fun _ => none) (3 + 8 * ds.length), s.next + 1 + (3 + 8 * ds.length)⟩) := by
      unfold cEntNew
      simp only [hv T hTo]
      unfold newE at hE ⊢
      cases ha : allocOk size top with
      | false => rfl
      | true =>
        rw [ha] at hE
        simp only [if_true] at hE ⊢
        rw [if_neg hE]
    generalize newE size top ds = E at *
    refine ⟨Tryz.f24, _, Tryz.func24, rfl, by simp [Tryz.f24], ?_⟩; rw [Tryz.ntmps24]
    repeat' (first | simp (disch := omega) only [go_sem, reduceIte, sliceB, hT, hTc, h1, hen, Tryz.results24] | (with_reducible refine w_chain0 ?_ ?_; focus (decide +kernel)) | (with_reducible refine condK_of _ _ ?_ ?_ <;> (intro hb; try simp only [decide_eq_true_eq, decide_eq_false_iff_not] at hb)) | (with_reducible refine gdK_of_f _ _ _ _ _ ?_ ?_ <;> (intro hb; try simp only [decide_eq_true_eq, decide_eq_false_iff_not] at hb)) | (with_reducible refine gdK_of_t _ _ _ _ _ ?_ ?_ <;> (intro hb; try simp only [decide_eq_true_eq, decide_eq_false_iff_not] at hb)) | (with_reducible refine gK_of_f _ _ _ ?_ ?_ <;> (intro hb; try simp only [decide_eq_true_eq, decide_eq_false_iff_not] at hb)) | (with_reducible refine gK_of_t _ _ _ ?_ ?_ <;> (intro hb; try simp only [decide_eq_true_eq, decide_eq_false_iff_not] at hb)))
    exact endsX_same rfl (by simp only; omega) fun X hX => by
      simp (disch := omega) only [go_sem, reduceIte, sliceB, fillT_out]
      exact hTo X hX
end
end Go.Proofs.YtclmjcjaebonnaaGreatDoor
end
