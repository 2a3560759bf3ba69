/-
  PlanTexts returns true wherever what it reads is of bulk at most 1048576: the second form's row, and its tied card.
-/
import Derived.Test.YtibailpbjdfjfaaDoorRowKitP
import Derived.Test.YtibailpbjdfjfaaDoorPlnR
import Derived.Test.YtibailpbjdfjfaaDoorTie
import Derived.Test.YtibailpbjdfjfaaDoorCards
namespace Go.Proofs.YtibailpbjdfjfaaDoor.planTexts
open Go.ChangeShapes Go.WideShapes Go.ChangeAt Go.RowKit Go.Joins Go.Viv

theorem reads (os : Os) {H : Type} (enc : TypeId × Value → H) : ∃ x, DataW.whole enc Tryd.prog ((World.laidAll Tryd.prog os Rows.planBoundsRow.laid).forCall (fun _ _ => 0) ⟨#[], #[.slice none 0 0, .slice none 0 0, .string ⟨#[]⟩], []⟩).memory Tryd.f4.params.toList Rows.planTextsSpec.vars false (#[.slice none 0 0, .slice none 0 0, .string ⟨#[]⟩] : Array Value).toList 8 = some x ∧ Rows.uptoSmall H (x.1 ++ x.2.1) = true := by
  have h : ((DataW.whole enc Tryd.prog ((World.laidAll Tryd.prog os Rows.planBoundsRow.laid).forCall (fun _ _ => 0) ⟨#[], #[.slice none 0 0, .slice none 0 0, .string ⟨#[]⟩], []⟩).memory Tryd.f4.params.toList Rows.planTextsSpec.vars false (#[.slice none 0 0, .slice none 0 0, .string ⟨#[]⟩] : Array Value).toList 8).map fun x => Rows.uptoSmall H (x.1 ++ x.2.1)) = some true := by kernel_rfl
  obtain ⟨x, h1, h2⟩ := Option.map_eq_some_iff.1 h
  exact ⟨x, h1, h2⟩

set_option maxRecDepth 100000 in
theorem lifted (os : Os) (started : os.Started) (H : Type) (enc : TypeId × Value → H) (F : Stop.Interp) :
    ReturnsInHanded {} Tryd.checked os 4 .any ((Rows.OpenSpec.upto Rows.planTextsSpec).preRow enc Tryd.prog Tryd.f4 Rows.planTextsUptoRow.domain false Rows.planTextsUptoRow.laid) (((Rows.OpenSpec.upto Rows.planTextsSpec).at F).post enc Tryd.prog Tryd.f4 false true false false) := by
  obtain ⟨x, hx, hb⟩ := reads os enc
  refine returnsInHanded_of_row (C := Tryd.checked) (s := Rows.OpenSpec.upto Rows.planTextsSpec) own started (by kernel_rfl) Tryd.func4
    (witness_row_shaped (enc := enc) (C := Tryd.checked) false (World.laidAll Tryd.prog os Rows.planBoundsRow.laid) #[.slice none 0 0, .slice none 0 0, .string ⟨#[]⟩] (World.laidAll_os _ _ _) (lay_shaped os) (by kernel_rfl)
      (OpenSpec.preRow_of_cond 8 hx rfl (fun k hk => by cases hk; exact hb) (by kernel_rfl) (lay_met os _))) ?_
  intro W base args ds gs before hval0 hW _ hcond hsz hL hS _
  have hval : ∀ (j : Nat) t v, Tryd.f4.params[j]? = some t → args[j]? = some v → Value.okWide Tryd.prog W .any base t v := hval0
  have hbulk : Rows.uptoBulkAll (ds ++ gs) ≤ 1048576 := of_decide_eq_true (hcond _ rfl)
  have hW' := hW
  obtain ⟨p, q, hA0, hV, rfl, hfz, hnd⟩ := hW
  have hA : DataW.TrodAll enc Tryd.prog W 0 (fun _ => true) true Tryd.f4.params.toList args.toList ds p := hA0
  have hAk := hA
  have hlt := trodAll_lt _ _ _ _ hAk
  rw [Tryd.params4] at hA hval
  obtain ⟨v0, vs0, d0, ds0, p0, q0, hargs, rfl, rfl, h0, r0⟩ := trodAll_cons hA
  obtain ⟨v1, vs1, d1, ds1, p1, q1, rfl, rfl, rfl, h1, r1⟩ := trodAll_cons r0
  obtain ⟨v2, vs2, d2, ds2, p2, q2, rfl, rfl, rfl, h2, r2⟩ := trodAll_cons r1
  obtain ⟨rfl, rfl, rfl⟩ := trodAll_nil r2
  obtain rfl : args = #[v0, v1, v2] := by cases args; simp_all
  obtain ⟨rfl, rfl⟩ := trodVars_none hV
  obtain ⟨fu0, hfu0⟩ := h0
  obtain ⟨A0, xs0, cp0, hcs0, k0, m0, g0, u0⟩ := Go.Viv.open_row cellsK 2 (fun _ => rfl) (by decide) cellsCol (fun n cs x h => elem_col n cs x h) Tryd.underlying29 hfu0
  obtain rfl : v0 = .slice A0 xs0.length cp0 := by
    obtain ⟨_, _, _, hv0⟩ := okWide_slice Tryd.underlying29 (hval 0 29 v0 rfl rfl)
    subst hv0
    simpa [Value.cells] using hcs0
  obtain ⟨fu1, hfu1⟩ := h1
  obtain ⟨A1, xs1, cp1, hcs1, k1, m1, g1, u1⟩ := Go.Viv.open_row (fun n : Int => [Value.int .i64 n]) 1 (fun _ => rfl) (by decide) one3 (fun n cs x h => elem_int n cs x h) Tryd.underlying30 hfu1
  obtain rfl : v1 = .slice A1 xs1.length cp1 := by
    obtain ⟨_, _, _, hv1⟩ := okWide_slice Tryd.underlying30 (hval 1 30 v1 rfl rfl)
    subst hv1
    simpa [Value.cells] using hcs1
  obtain ⟨s2, rfl, hd2, _, _⟩ := Go.ChangeMaps.open_string Tryd.underlying9 (hval 2 9 v2 rfl rfl) h2
  obtain ⟨l2, rfl⟩ : ∃ l : List UInt8, s2 = ⟨l.toArray⟩ := ⟨s2.data.toList, by cases s2; simp⟩
  have hr2 : l2.length ≤ 1048576 := by
    have hb2 := hbulk
    rw [hd2] at hb2
    simp [Rows.uptoBulkAll, Rows.uptoBulk] at hb2
    omega
  clear hA0 hval0
  refine (ptexts_any xs0 A0 cp0 xs1 A1 cp1 l2 W (envP_of_laid hS hL) g0 k0 (max_le m0) u0 (rowI_ints g1) k1 (max_le m1) (by omega)).mono fun e W' ⟨he, hf⟩ => ?_
  have bel : Below W.heap.size W W' := hf.below (Nat.le_refl _) (fun _ h => h.elim)
  subst he
  exact ⟨_, rfl, _, _, _, [], _, [], hW', trodAll_mk1 (shut_bool Tryd.underlying4 _), trodAll_stays laidOut bel _ _ _ _ (by kernel_rfl) hAk hlt, rfl, bel.frame _, fun h => by cases h⟩

theorem over : Rows.PlanTextsUptoSaid :=
  OpenClaim.holds_of_cond 4 Tryd.f4 rfl rfl rfl rfl rfl rfl rfl ⟨rfl, rfl, rfl, rfl, rfl⟩ rfl rfl rfl rfl rfl (by kernel_rfl) Tryd.func4 (by kernel_rfl)
    (of_decide_eq_true (by kernel_rfl)) (by unfold Func.isWrapper; first | (rw [if_pos (by decide +kernel)]; kernel_rfl) | (rw [if_neg (by decide +kernel)]; exact ⟨rfl, rfl⟩))
    (fun os started H enc _ F => by rw [OpenClaim.pre_eq_preRow]; exact lifted os started H enc F)

theorem proved : Rows.PlanTextsUptoCardSaid :=
  Claim7.holds_tied_plain_at .later [] _ _ _ _
    over (fun _ h => by cases h) (by kernel_rfl) (fun _ h => by cases h) planTextsUpto_row_tie rfl ⟨rfl, rfl⟩ (by kernel_rfl) rfl
    (fun f fn hf hfn => by
      obtain rfl : f = 4 := Option.some.inj ((show Tryd.prog.funcNamed "vivarium/vivariumlaw17.PlanTexts" = some 4 by kernel_rfl).symm.trans hf) |>.symm
      obtain rfl : fn = Tryd.f4 := (Option.some.inj (Tryd.func4.symm.trans hfn)).symm
      exact ⟨by kernel_rfl, fun j t ht => by
        rw [Tryd.params4] at ht
        have hm : t ∈ [29, 30, 9] := by simpa using Array.mem_of_getElem? ht
        have hall : ([29, 30, 9].all fun u => !Tryd.prog.wantsStandIn u) = true := by kernel_rfl
        exact (show Tryd.prog.wantsStandIn t = false by simpa using List.all_eq_true.1 hall t hm)⟩)
    (by kernel_rfl)
#print axioms proved
end Go.Proofs.YtibailpbjdfjfaaDoor.planTexts
