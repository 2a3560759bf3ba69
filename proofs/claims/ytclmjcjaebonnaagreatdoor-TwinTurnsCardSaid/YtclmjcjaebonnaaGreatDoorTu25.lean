/-
  Several texts in one. TwinTurns: all that it calls, put together; from memory to the tree and back.
-/
import Derived.Test.YtclmjcjaebonnaaGreatDoorTu23
import Derived.Test.YtclmjcjaebonnaaGreatDoorTu24
import Derived.Test.YtclmjcjaebonnaaGreatDoorTu10
section
set_option linter.unusedSimpArgs false
set_option linter.unusedVariables false
namespace Go.Sym
open Go Go.RowKit Go.Viv Go.Eva
end Go.Sym
namespace Go.Proofs.YtclmjcjaebonnaaGreatDoor
open Go Go.RowKit Go.Viv Go.Eva Go.Sym
noncomputable def k0 : CallB := fun _ _ _ => none
noncomputable def k1 : CallB := addC k0 60 (tAdd)
noncomputable def k2 : CallB := addC k1 59 (sNew)
noncomputable def k3 : CallB := addC k2 142 (tRemove)
noncomputable def k4 : CallB := addC k3 88 (tHas)
noncomputable def k5 : CallB := addC k4 141 (tLen)
noncomputable def k6 : CallB := addC k5 140 (tNext)
noncomputable def k7 : CallB := addC k6 152 (tClear)
noncomputable def k8 : CallB := addC k7 193 (tCopy)
noncomputable def k9 : CallB := addC k8 35 (cNewF)
noncomputable def k10 : CallB := addC k9 149 (cVOk)
noncomputable def k11 : CallB := addC k10 136 (cVZero)
noncomputable def k12 : CallB := addC k11 91 (cChk)
noncomputable def k13 : CallB := addC k12 137 (sNewP 1)
noncomputable def k14 : CallB := addC k13 138 (sNewP 2)
noncomputable def k15 : CallB := addC k14 139 (sNewP 3)
noncomputable def k16 : CallB := addC k15 93 (cFlagNew)
noncomputable def k17 : CallB := addC k16 92 (cKept)
noncomputable def k18 : CallB := addC k17 61 (cSlot)
noncomputable def k19 : CallB := addC k18 36 (cRegNew)
noncomputable def k20 : CallB := addC k19 37 (cRegAdd)
noncomputable def k21 : CallB := addC k20 31 (cEntNew)
noncomputable def k22 : CallB := addC k21 20 (cClone 2 1)
noncomputable def k23 : CallB := addC k22 32 (cResNew)
noncomputable def k24 : CallB := addC k23 33 (cLazyNew)
noncomputable def k25 : CallB := addC k24 24 (cWorldNew)
noncomputable def k26 : CallB := addC k25 10 (cLegal)
noncomputable def k27 : CallB := addC k26 22 (cEqI)
noncomputable def k28 : CallB := addC k27 21 (cSame)
noncomputable def k29 : CallB := addC k28 23 (cEqF)
noncomputable def k30 : CallB := addC k29 9 (cAlike)
noncomputable def k31 : CallB := addC k30 25 (cAMay)
noncomputable def k32 : CallB := addC k31 26 (cDMay)
noncomputable def k33 : CallB := addC k32 11 (cMay)
noncomputable def k34 : CallB := addC k33 19 (cClone 54 3)
noncomputable def k35 : CallB := addC k34 8 (cTurn)
noncomputable def k36 : CallB := addC k35 7 (cAwk)
noncomputable def k37 : CallB := addC k36 4 (cTT)
section
variable {G : Nat} {ν : Toks} {W : World} {may : Nat → Prop}
theorem awk_ok (hE : EnvT W) (hm2 : ∀ k, ¬ may k) : SpecOK Tryz.prog G (LBegin Tryz.prog ν LL W may) ν 7 cAwk := by
  intro args s v h' e φ w args' ha hR hG
  unfold cAwk at e
  split at e <;> try (cases e; done)
  simp only [Option.some.injEq, Prod.mk.injEq] at e
  obtain ⟨rfl, rfl⟩ := e
  cases ha
  have hf : Fr (fun _ => False) W w := hR.frame.mono fun k _ h => hm2 k h
  exact (awake27_any (hE.fr hf)).mono fun e w' ⟨he, hf'⟩ => ⟨_, he, φ, .bool true, hR.later hf', fun _ _ => rfl, Nat.le_refl _⟩
theorem k0_ok : CallOK Tryz.prog G (LBegin Tryz.prog ν LL W may) ν k0 := fun _ _ _ _ _ e => by cases e
theorem hh8 : HibC k8 := ⟨fun _ _ => rfl, fun _ _ => rfl, fun _ _ => rfl, fun _ _ => rfl, fun _ _ => rfl, fun _ _ => rfl, fun _ _ => rfl, fun _ _ => rfl⟩
theorem hh13 : HibC k13 := ⟨fun _ _ => rfl, fun _ _ => rfl, fun _ _ => rfl, fun _ _ => rfl, fun _ _ => rfl, fun _ _ => rfl, fun _ _ => rfl, fun _ _ => rfl⟩
theorem hh16 : HibC k16 := ⟨fun _ _ => rfl, fun _ _ => rfl, fun _ _ => rfl, fun _ _ => rfl, fun _ _ => rfl, fun _ _ => rfl, fun _ _ => rfl, fun _ _ => rfl⟩
theorem hh17 : HibC k17 := ⟨fun _ _ => rfl, fun _ _ => rfl, fun _ _ => rfl, fun _ _ => rfl, fun _ _ => rfl, fun _ _ => rfl, fun _ _ => rfl, fun _ _ => rfl⟩
theorem kAll_ok (hE : EnvT W) (hm2 : ∀ k, ¬ may k) : CallOK Tryz.prog G (LBegin Tryz.prog ν LL W may) ν k37 := by
  have hT := hE.tab
  have hm := hm2 0
  have q0 : CallOK Tryz.prog G (LBegin Tryz.prog ν LL W may) ν k0 := k0_ok
  have q1 : CallOK Tryz.prog G (LBegin Tryz.prog ν LL W may) ν k1 := addC_ok q0 (tAdd_ok LL_set)
  have q2 : CallOK Tryz.prog G (LBegin Tryz.prog ν LL W may) ν k2 := addC_ok q1 (tNew_ok LL_set)
  have q3 : CallOK Tryz.prog G (LBegin Tryz.prog ν LL W may) ν k3 := addC_ok q2 (tRemove_ok LL_set)
  have q4 : CallOK Tryz.prog G (LBegin Tryz.prog ν LL W may) ν k4 := addC_ok q3 (tHas_ok LL_set hT hm)
  have q5 : CallOK Tryz.prog G (LBegin Tryz.prog ν LL W may) ν k5 := addC_ok q4 (tLen_ok LL_set hT hm)
  have q6 : CallOK Tryz.prog G (LBegin Tryz.prog ν LL W may) ν k6 := addC_ok q5 (tNext_ok LL_set hT hm)
  have q7 : CallOK Tryz.prog G (LBegin Tryz.prog ν LL W may) ν k7 := addC_ok q6 (tClear_ok LL_set)
  have q8 : CallOK Tryz.prog G (LBegin Tryz.prog ν LL W may) ν k8 := addC_ok q7 (tCopy_ok LL_set)
  have q9 : CallOK Tryz.prog G (LBegin Tryz.prog ν LL W may) ν k9 := addC_ok q8 (newF_ok q8 hh8)
  have q10 : CallOK Tryz.prog G (LBegin Tryz.prog ν LL W may) ν k10 := addC_ok q9 (vOk_ok q9)
  have q11 : CallOK Tryz.prog G (LBegin Tryz.prog ν LL W may) ν k11 := addC_ok q10 (vZero_ok q10 (fun _ _ => rfl))
  have q12 : CallOK Tryz.prog G (LBegin Tryz.prog ν LL W may) ν k12 := addC_ok q11 (chk_ok q11 (fun _ _ => rfl))
  have q13 : CallOK Tryz.prog G (LBegin Tryz.prog ν LL W may) ν k13 := addC_ok q12 (dNew_ok)
  have q14 : CallOK Tryz.prog G (LBegin Tryz.prog ν LL W may) ν k14 := addC_ok q13 (spNew_ok q13 hh13)
  have q15 : CallOK Tryz.prog G (LBegin Tryz.prog ν LL W may) ν k15 := addC_ok q14 (haNew_ok q14)
  have q16 : CallOK Tryz.prog G (LBegin Tryz.prog ν LL W may) ν k16 := addC_ok q15 (flNew_ok q15)
  have q17 : CallOK Tryz.prog G (LBegin Tryz.prog ν LL W may) ν k17 := addC_ok q16 (kept_ok q16 hh16 (fun _ _ => rfl) (fun _ _ => rfl) (fun _ _ => rfl))
  have q18 : CallOK Tryz.prog G (LBegin Tryz.prog ν LL W may) ν k18 := addC_ok q17 (slotNew_ok q17 hh17 (fun _ _ => rfl) (fun _ _ => rfl) (fun _ _ => rfl))
  have q19 : CallOK Tryz.prog G (LBegin Tryz.prog ν LL W may) ν k19 := addC_ok q18 (regNew_ok q18)
  have q20 : CallOK Tryz.prog G (LBegin Tryz.prog ν LL W may) ν k20 := addC_ok q19 (regAdd_ok q19 (fun _ _ => rfl))
  have q21 : CallOK Tryz.prog G (LBegin Tryz.prog ν LL W may) ν k21 := addC_ok q20 (entNew_ok q20 (fun _ _ => rfl) (fun _ _ => rfl) (fun _ _ => rfl))
  have q22 : CallOK Tryz.prog G (LBegin Tryz.prog ν LL W may) ν k22 := addC_ok q21 (cl64_ok q21)
  have q23 : CallOK Tryz.prog G (LBegin Tryz.prog ν LL W may) ν k23 := addC_ok q22 (resNew_ok q22 (fun _ _ => rfl))
  have q24 : CallOK Tryz.prog G (LBegin Tryz.prog ν LL W may) ν k24 := addC_ok q23 (lazyNew_ok q23)
  have q25 : CallOK Tryz.prog G (LBegin Tryz.prog ν LL W may) ν k25 := addC_ok q24 (worldNew_ok q24 (fun _ _ => rfl) (fun _ _ => rfl) (fun _ _ => rfl))
  have q26 : CallOK Tryz.prog G (LBegin Tryz.prog ν LL W may) ν k26 := addC_ok q25 (legal_ok q25 (fun _ _ => rfl))
  have q27 : CallOK Tryz.prog G (LBegin Tryz.prog ν LL W may) ν k27 := addC_ok q26 (eqI_ok q26)
  have q28 : CallOK Tryz.prog G (LBegin Tryz.prog ν LL W may) ν k28 := addC_ok q27 (same_ok q27)
  have q29 : CallOK Tryz.prog G (LBegin Tryz.prog ν LL W may) ν k29 := addC_ok q28 (eqF_ok q28 (fun _ _ => rfl))
  have q30 : CallOK Tryz.prog G (LBegin Tryz.prog ν LL W may) ν k30 := addC_ok q29 (alike_ok q29 (fun _ _ => rfl) (fun _ _ => rfl))
  have q31 : CallOK Tryz.prog G (LBegin Tryz.prog ν LL W may) ν k31 := addC_ok q30 (aMay_ok q30)
  have q32 : CallOK Tryz.prog G (LBegin Tryz.prog ν LL W may) ν k32 := addC_ok q31 (dMay_ok q31)
  have q33 : CallOK Tryz.prog G (LBegin Tryz.prog ν LL W may) ν k33 := addC_ok q32 (may_ok q32 (fun _ _ => rfl) (fun _ _ => rfl))
  have q34 : CallOK Tryz.prog G (LBegin Tryz.prog ν LL W may) ν k34 := addC_ok q33 (clD_ok q33)
  have q35 : CallOK Tryz.prog G (LBegin Tryz.prog ν LL W may) ν k35 := addC_ok q34 (turnC_ok q34 (fun _ _ => rfl) (fun _ _ => rfl))
  have q36 : CallOK Tryz.prog G (LBegin Tryz.prog ν LL W may) ν k36 := addC_ok q35 (awk_ok hE hm2)
  have q37 : CallOK Tryz.prog G (LBegin Tryz.prog ν LL W may) ν k37 := addC_ok q36 (tt_ok q36 (fun _ _ => rfl) (fun _ _ => rfl) (fun _ _ => rfl) (fun _ _ => rfl) (fun _ _ => rfl))
  exact q37
end
end Go.Proofs.YtclmjcjaebonnaaGreatDoor
end

/-
  TwinTurns: from memory to the tree of blocks, and back.
-/
section
set_option linter.unusedSimpArgs false
set_option linter.unusedVariables false
namespace Go.Sym
open Go Go.RowKit Go.Viv Go.Eva
end Go.Sym
namespace Go.Proofs.YtclmjcjaebonnaaGreatDoor
open Go Go.RowKit Go.Viv Go.Eva Go.Sym
def dcD (x : Dc) : Dsc := ⟨x.k, x.v, x.b⟩
theorem cells_flat (l : List Dc) : l.flatMap descC = intsC (l.flatMap fun x => [x.k, x.v, x.b]) := by
  induction l with
  | nil => rfl
  | cons x l ih => rw [List.flatMap_cons, List.flatMap_cons, ih]; simp [intsC, descC]
theorem flat_len (l : List Dc) : (l.flatMap fun x => [x.k, x.v, x.b]).length = l.length * 3 := by
  induction l with
  | nil => rfl
  | cons x l ih => rw [List.flatMap_cons, List.length_append, ih, List.length_cons]; simp; omega
theorem flat_dscs (l : List Dc) : dscsL (intsC (l.flatMap fun x => [x.k, x.v, x.b])) = some (l.map dcD) := by
  induction l with
  | nil => rfl
  | cons x l ih =>
    rw [List.flatMap_cons]
    show (dscsL (intsC (l.flatMap fun x => [x.k, x.v, x.b]))).map (dcD x :: ·) = _
    rw [ih]
    rfl
theorem twinTurns_any (c : Cf) (xs : List Int) (A : Option Addr) (cp : Nat) (W : World) (hc : c.In W) (hA0 : c.A = none → c.ca = 0) (hB0 : c.B = none → c.cb = 0) (hr : RowC W A (ints xs)) (hk : xs.length ≤ cp) (hA : A = none → cp = 0) (hE : EnvT W) :
    Calls Tryz.prog 4 #[c.val, .slice A xs.length cp] W fun e w' => e = .returned (.bool true) ∧ Fr (fun _ => False) W w' := by
  have h0 := hc.comps
  rw [cells_flat] at h0
  obtain ⟨v0, b0, r0, p0, q0⟩ := arg_row (k := 3) (n := c.comps.length) (cap := c.ca) h0 (flat_len _) (by omega) hc.ca hA0
  obtain ⟨v1, b1, r1, p1, q1⟩ := arg_row (k := 1) (n := c.res.length) (cap := c.cb) (l := c.res) hc.res (by omega) (by omega) hc.cb hB0
  obtain ⟨v2, b2, r2, p2, q2⟩ := arg_row (k := 1) (n := xs.length) (cap := cp) (l := xs) hr (by omega) (by omega) hk hA
  let t : Tr AObj := ((Tr.nil.set b0 (blkOb W b0)).set b1 (blkOb W b1)).set b2 (blkOb W b2)
  have ht : ∀ b, b = b0 ∨ b = b1 ∨ b = b2 → t.at_ b = blkOb W b := fun b hb => by
    show (((Tr.nil.set b0 (blkOb W b0)).set b1 (blkOb W b1)).set b2 (blkOb W b2)).at_ b = _
    by_cases h2 : b2 = b
    · subst h2; exact Tr.at_set_same _ _ _
    · rw [Tr.at_set_ne _ _ h2]
      by_cases h1 : b1 = b
      · subst h1; exact Tr.at_set_same _ _ _
      · rw [Tr.at_set_ne _ _ h1]
        by_cases h0 : b0 = b
        · subst h0; exact Tr.at_set_same _ _ _
        · omega
  have htn : ∀ b o, t.at_ b = some o → blkOb W b = some o := fun b o h => by
    by_cases hb : b = b0 ∨ b = b1 ∨ b = b2
    · rw [← ht b hb]; exact h
    · exfalso
      have : t.at_ b = none := by
        show (((Tr.nil.set b0 (blkOb W b0)).set b1 (blkOb W b1)).set b2 (blkOb W b2)).at_ b = _
        rw [Tr.at_set_ne _ _ (by omega), Tr.at_set_ne _ _ (by omega), Tr.at_set_ne _ _ (by omega)]
        exact nil_at b
      rw [this] at h; cases h
  let may : Nat → Prop := fun _ => False
  have hR : Rw Tryz.prog W.heap.size (LBegin Tryz.prog noToks LL W may) noToks (phi0 W.heap.size (szOf W)) ⟨t, W.heap.size⟩ W :=
    Rw.start (W0 := LBegin Tryz.prog noToks LL W may) (Nat.le_refl _) t (szOf W) fun g o ho _ => blk_obj (htn g o ho)
  have hrun : cTT [.agg ⟨[.int .i64 c.size, .int .i64 c.top, v0, v1]⟩, v2] ⟨t, W.heap.size⟩ = some (.bool true, noneT ⟨t, W.heap.size⟩ 100000) := by
    have e0 : (rowB t 3 v0).bind dscsL = some (c.comps.map dcD) := by rw [q0 t (fun _ => ht _ (.inl rfl))]; exact flat_dscs _
    have e1 : (rowB t 1 v1).bind intsL = some c.res := by rw [q1 t (fun _ => ht _ (.inr (.inl rfl)))]; exact intsL_of _
    have e2 : (rowB t 1 v2).bind intsL = some xs := by rw [q2 t (fun _ => ht _ (.inr (.inr rfl)))]; exact intsL_of _
    simp only [cTT, e0, e1, e2, r1, r2]
  have hrun2 : k37 4 [.agg ⟨[.int .i64 c.size, .int .i64 c.top, v0, v1]⟩, v2] ⟨t, W.heap.size⟩ = some (.bool true, noneT ⟨t, W.heap.size⟩ 100000) := hrun
  have hcall := kAll_ok (G := W.heap.size) (ν := noToks) (may := may) hE (fun _ h => h) 4 _ _ _ _ hrun2 (phi0 W.heap.size (szOf W)) W [c.val, .slice A xs.length cp] (.cons (.agg (.cons (.int _ _) (.cons (.int _ _) (.cons (p0 _) (.cons (p1 _) .nil))))) (.cons (p2 _) .nil)) hR (Nat.le_refl _)
  refine hcall.mono ?_
  rintro e w' ⟨z, rfl, φ', hz, hR', _⟩
  cases hz
  exact ⟨rfl, hR'.frame⟩
end Go.Proofs.YtclmjcjaebonnaaGreatDoor
end
