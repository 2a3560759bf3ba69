/-
  PlanChecks returns true for every input: the row, and its tied card.
-/
import Derived.Test.YtmcigeebeoobdaaGreatDoorPz02
import Derived.Test.YtmcigeebeoobdaaGreatDoorPz25
import Derived.Test.YtmcigeebeoobdaaGreatDoorTie
import Derived.Test.YtmcigeebeoobdaaGreatDoorCards
import Derived.Test.YtmcigeebeoobdaaGreatDoorPz26
namespace Go.Proofs.YtmcigeebeoobdaaGreatDoor.planChecks
open Go.ChangeShapes Go.WideShapes Go.ChangeAt Go.RowKit Go.Joins Go.Viv

set_option maxRecDepth 100000 in
theorem lifted (os : Os) (started : os.Started) (H : Type) (enc : TypeId × Value → H) :
    ReturnsInHanded {} Tryz.checked os 7 .any (fun w args => (Rows.planChecksSpec.pre enc Tryz.prog Tryz.f7 [] false w args ∧ laidMetH Tryz.prog Rows.planChecksRow.laid w) ∧ sizedMet enc Tryz.prog Tryz.f7 (OpenSpec.ofChange Rows.planChecksSpec) false w args)
      (Rows.planChecksSpec.post enc Tryz.prog Tryz.f7 false true false false) := by
  refine returnsIn_shaped_and (C := Tryz.checked) (X := fun w _ => laidMetH Tryz.prog Rows.planChecksRow.laid w) (fun _ _ _ hh h => h.of_heap hh) own started (by kernel_rfl) Tryz.func7
    (ChangeSpec.witness_shaped (enc := enc) (C := Tryz.checked) (os := os) (X := fun w _ => laidMetH Tryz.prog Rows.planChecksRow.laid w) false (World.laidAll Tryz.prog os Rows.planChecksRow.laid) #[.int .i64 0, .slice none 0 0, .slice none 0 0] 8 (World.laidAll_os _ _ _) (lay_shaped os) (by kernel_rfl) (by kernel_rfl) (by kernel_rfl) (lay_met os _)) ?_
  intro W base args ds gs before hS hval0 hW hsz hL
  have hval : ∀ (j : Nat) t v, Tryz.f7.params[j]? = some t → args[j]? = some v → Value.okWide Tryz.prog W .any base t v := hval0
  have hW' := hW
  obtain ⟨p, q, hA0, hV, rfl, hfz, hnd⟩ := hW
  have hA : DataW.TrodAll enc Tryz.prog W 0 (fun _ => true) true Tryz.f7.params.toList args.toList ds p := hA0
  have hAk := hA
  have hlt := trodAll_lt _ _ _ _ hAk
  rw [Tryz.params7] at hA hval
  obtain ⟨v0, vs0, d0, ds0, p0, q0, hargs, rfl, rfl, h0, r0⟩ := trodAll_cons hA
  obtain ⟨v1, vs1, d1, ds1, p1, q1, rfl, rfl, rfl, h1, r1⟩ := trodAll_cons r0
  obtain ⟨v2, vs2, d2, ds2, p2, q2, rfl, rfl, rfl, h2, r2⟩ := trodAll_cons r1
  obtain ⟨rfl, rfl, rfl⟩ := trodAll_nil r2
  obtain rfl : args = #[v0, v1, v2] := by cases args; simp_all
  obtain ⟨rfl, rfl⟩ := trodVars_none hV
  obtain ⟨n0, rfl, _, _, w0⟩ := open_int Tryz.underlying3 (hval 0 3 v0 rfl rfl) h0
  obtain ⟨fu1, hfu1⟩ := h1
  obtain ⟨A1, xs1, cp1, hcs1, k1, m1, g1, u1⟩ := Go.Viv.open_row cellsK 2 (fun _ => rfl) (by decide) cellsCol (fun n cs x h => elem_col n cs x h) Tryz.underlying34 hfu1
  obtain rfl : v1 = .slice A1 xs1.length cp1 := by
    obtain ⟨_, _, _, hv1⟩ := okWide_slice Tryz.underlying34 (hval 1 34 v1 rfl rfl)
    subst hv1
    simpa [Value.cells] using hcs1
  obtain ⟨fu2, hfu2⟩ := h2
  obtain ⟨A2, xs2, cp2, hcs2, k2, m2, g2, u2⟩ := Go.Viv.open_row (fun n : Int => [Value.int .i64 n]) 1 (fun _ => rfl) (by decide) one3 (fun n cs x h => elem_int n cs x h) Tryz.underlying22 hfu2
  obtain rfl : v2 = .slice A2 xs2.length cp2 := by
    obtain ⟨_, _, _, hv2⟩ := okWide_slice Tryz.underlying22 (hval 2 22 v2 rfl rfl)
    subst hv2
    simpa [Value.cells] using hcs2
  clear hA0 hval0
  refine (planChecks_any n0 xs1 A1 cp1 xs2 A2 cp2 W (envP_of_laid hS hL) g1 k1 (fun h => by subst h; exact open_none Tryz.underlying34 rfl hfu1) (rowI_ints g2) k2 (fun h => by subst h; exact open_none Tryz.underlying22 rfl hfu2)).mono fun e W' ⟨he, hf⟩ => ?_
  have bel : Below W.heap.size W W' := hf.below (Nat.le_refl _) (fun _ h => h.elim)
  subst he
  exact ⟨_, rfl, _, _, _, [], _, [], hW', trodAll_mk1 (shut_bool Tryz.underlying4 _), trodAll_stays laidOut bel _ _ _ _ (by kernel_rfl) hAk hlt, rfl, bel.frame _, fun h => by cases h⟩

set_option maxHeartbeats 8000000 in
theorem over : Rows.PlanChecksSaid :=
  OpenClaim.holds_of_wide 7 Tryz.f7 rfl rfl rfl rfl rfl rfl rfl ⟨rfl, rfl, rfl, rfl, rfl⟩ rfl rfl rfl rfl rfl (by as_aux_lemma => kernel_rfl) Tryz.func7 closed
    (of_decide_eq_true (by as_aux_lemma => kernel_rfl)) (by unfold Func.isWrapper; first | (rw [if_pos (by decide +kernel)]; as_aux_lemma => kernel_rfl) | (rw [if_neg (by decide +kernel)]; exact ⟨rfl, rfl⟩))
    (fun os started H enc _ => lifted os started H enc)

set_option maxHeartbeats 8000000 in
theorem proved : Rows.PlanChecksCardSaid :=
  Claim7.holds_tied_plain_at .later [] _ _ _ _
    over (fun _ h => by cases h) (by as_aux_lemma => kernel_rfl) (fun _ h => by cases h) planChecks_row_tie rfl ⟨rfl, rfl⟩ (by as_aux_lemma => kernel_rfl) rfl
    (fun f fn hf hfn => by
      obtain rfl : f = 7 := Option.some.inj ((show Tryz.prog.funcNamed "vivarium/vivariumlaw17.PlanChecks" = some 7 by as_aux_lemma => kernel_rfl).symm.trans hf) |>.symm
      obtain rfl : fn = Tryz.f7 := (Option.some.inj (Tryz.func7.symm.trans hfn)).symm
      exact ⟨by as_aux_lemma => kernel_rfl, fun j t ht => by
        rw [Tryz.params7] at ht
        have hm : t ∈ [3, 34, 22] := by simpa using Array.mem_of_getElem? ht
        have hall : ([3, 34, 22].all fun u => !Tryz.prog.wantsStandIn u) = true := by as_aux_lemma => kernel_rfl
        exact (show Tryz.prog.wantsStandIn t = false by simpa using List.all_eq_true.1 hall t hm)⟩)
    (by as_aux_lemma => kernel_rfl)
#print axioms proved
end Go.Proofs.YtmcigeebeoobdaaGreatDoor.planChecks
