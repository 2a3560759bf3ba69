/-
  CodeChecks returns true for every input: the row, and its tied card.
-/
import Derived.Test.YtadnbkjjdkgfiaaDoorRowKitC
import Derived.Test.YtadnbkjjdkgfiaaDoorChkH
import Derived.Test.YtadnbkjjdkgfiaaDoorTie
import Derived.Test.YtadnbkjjdkgfiaaDoorCards
import Derived.SevenTiedAt
import Derived.SizedLaws
import Derived.ChangeMaps5
import Derived.Test.YtadnbkjjdkgfiaaDoorRowInss
namespace Go.Proofs.YtadnbkjjdkgfiaaDoor.codeChecks
open Go.ChangeShapes Go.WideShapes Go.ChangeAt Go.RowKit Go.Joins Go.Viv

set_option maxRecDepth 100000 in
theorem lifted (os : Os) (started : os.Started) (H : Type) (enc : TypeId × Value → H) :
    ReturnsInHanded {} Tryd.checked os 11 .any (fun w args => (Rows.codeChecksSpec.pre enc Tryd.prog Tryd.f11 [] false w args ∧ laidMetH Tryd.prog Rows.codeSkipsRow.laid w) ∧ sizedMet enc Tryd.prog Tryd.f11 (OpenSpec.ofChange Rows.codeChecksSpec) false w args)
      (Rows.codeChecksSpec.post enc Tryd.prog Tryd.f11 false true false false) := by
  refine returnsIn_shaped_and (C := Tryd.checked) (X := fun w _ => laidMetH Tryd.prog Rows.codeSkipsRow.laid w) (fun _ _ _ hh h => h.of_heap hh) own started (by kernel_rfl) Tryd.func11
    (ChangeSpec.witness_shaped (enc := enc) (C := Tryd.checked) (os := os) (X := fun w _ => laidMetH Tryd.prog Rows.codeSkipsRow.laid w) false (World.laidAll Tryd.prog os Rows.codeSkipsRow.laid) #[.slice none 0 0, .slice none 0 0] 8 (World.laidAll_os _ _ _) (lay_shapedC os) (by kernel_rfl) (by kernel_rfl) (by kernel_rfl) (lay_metC os _)) ?_
  intro W base args ds gs before hS hval0 hW hsz hL
  have hval : ∀ (j : Nat) t v, Tryd.f11.params[j]? = some t → args[j]? = some v → Value.okWide Tryd.prog W .any base t v := hval0
  have hW' := hW
  obtain ⟨p, q, hA0, hV, rfl, hfz, hnd⟩ := hW
  have hA : DataW.TrodAll enc Tryd.prog W 0 (fun _ => true) true Tryd.f11.params.toList args.toList ds p := hA0
  have hAk := hA
  have hlt := trodAll_lt _ _ _ _ hAk
  have hsz' : (DataW.weightsEach Tryd.prog (Tryd.f11.params.toList ++ Rows.codeChecksSpec.plain.varTypes Tryd.prog) (ds ++ gs)).all (· ≤ reachBytes) = true := hsz
  rw [Tryd.params11] at hA hval
  obtain ⟨v0, vs0, d0, ds0, p0, q0, hargs, rfl, rfl, h0, r0⟩ := trodAll_cons hA
  obtain ⟨v1, vs1, d1, ds1, p1, q1, rfl, rfl, rfl, h1, r1⟩ := trodAll_cons r0
  obtain ⟨rfl, rfl, rfl⟩ := trodAll_nil r1
  obtain rfl : args = #[v0, v1] := by cases args; simp_all
  obtain ⟨rfl, rfl⟩ := trodVars_none hV
  obtain ⟨fu0, hfu0⟩ := h0
  obtain ⟨A0, xs0, cp0, hcs0, k0, m0, g0, _⟩ := Go.Viv.open_row cellsI 4 (fun _ => rfl) (by decide) cells42 (fun n cs x h => elem_ins n cs x h) Tryd.underlying51 hfu0
  obtain rfl : v0 = .slice A0 xs0.length cp0 := by
    obtain ⟨_, _, _, hv0⟩ := okWide_slice Tryd.underlying51 (hval 0 51 v0 rfl rfl)
    subst hv0
    simpa [Value.cells] using hcs0
  obtain ⟨fu1, hfu1⟩ := h1
  obtain ⟨A1, xs1, cp1, hcs1, k1, m1, g1, _⟩ := Go.Viv.open_row (fun n : Int => [Value.int .i64 n]) 1 (fun _ => rfl) (by decide) one3 (fun n cs x h => elem_int n cs x h) Tryd.underlying55 hfu1
  obtain rfl : v1 = .slice A1 xs1.length cp1 := by
    obtain ⟨_, _, _, hv1⟩ := okWide_slice Tryd.underlying55 (hval 1 55 v1 rfl rfl)
    subst hv1
    simpa [Value.cells] using hcs1
  clear hA0 hval0
  refine (checks_any xs0 A0 cp0 xs1 A1 cp1 W (envC_of_laid hS hL) g0 k0 m0 g1 k1 m1).mono fun e W' ⟨he, hf⟩ => ?_
  have bel : Below W.heap.size W W' := hf.below (Nat.le_refl _) (fun _ h => h.elim)
  subst he
  exact ⟨_, rfl, _, _, _, [], _, [], hW', trodAll_mk1 (shut_bool Tryd.underlying4 _), trodAll_stays laidOut bel _ _ _ _ (by kernel_rfl) hAk hlt, rfl, bel.frame _, fun h => by cases h⟩

theorem over : Rows.CodeChecksSaid :=
  OpenClaim.holds_of_wide 11 Tryd.f11 rfl rfl rfl rfl rfl rfl rfl ⟨rfl, rfl, rfl, rfl, rfl⟩ rfl rfl rfl rfl rfl (by kernel_rfl) Tryd.func11 (by kernel_rfl)
    (of_decide_eq_true (by kernel_rfl)) (by unfold Func.isWrapper; first | (rw [if_pos (by decide +kernel)]; kernel_rfl) | (rw [if_neg (by decide +kernel)]; exact ⟨rfl, rfl⟩))
    (fun os started H enc _ => lifted os started H enc)

theorem proved : Rows.CodeChecksCardSaid :=
  Claim7.holds_tied_plain_at .later [] [.data, .data, .data, .data, .sentinel, .sentinel, .pinned] true (true, "93933406b57a6535059cd939bcdf7cf79a800c442bc021bdd6443bdfdf57dc5c") true
    over (fun _ h => by cases h) (by kernel_rfl) (fun _ h => by cases h) codeChecks_row_tie rfl ⟨rfl, rfl⟩ (by kernel_rfl) rfl
    (fun f fn hf hfn => by
      obtain rfl : f = 11 := Option.some.inj ((show Tryd.prog.funcNamed "vivarium/vivariumlaw20.CodeChecks" = some 11 by kernel_rfl).symm.trans hf) |>.symm
      obtain rfl : fn = Tryd.f11 := (Option.some.inj (Tryd.func11.symm.trans hfn)).symm
      exact ⟨by kernel_rfl, fun j t ht => by
        rw [Tryd.params11] at ht
        have hm : t ∈ [51, 55] := by simpa using Array.mem_of_getElem? ht
        have hall : ([51, 55].all fun u => !Tryd.prog.wantsStandIn u) = true := by kernel_rfl
        exact (show Tryd.prog.wantsStandIn t = false by simpa using List.all_eq_true.1 hall t hm)⟩)
    (by kernel_rfl)
#print axioms proved
end Go.Proofs.YtadnbkjjdkgfiaaDoor.codeChecks
