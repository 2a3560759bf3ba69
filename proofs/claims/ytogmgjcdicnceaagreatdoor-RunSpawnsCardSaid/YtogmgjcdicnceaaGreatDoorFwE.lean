/-
  Laws of a finite shape, by the shallow run.
-/
import Derived.Test.YtogmgjcdicnceaaGreatDoorFvH
import Derived.Test.YtogmgjcdicnceaaGreatDoorShx
namespace Go.Proofs.YtogmgjcdicnceaaGreatDoor
open Go Go.RowKit Go.Viv Go.Eva Go.Fv
/-- The shallow run from the start on. -/
noncomputable def runW (l : List Rl) (u : List Ru) (aw : Option Nat) (g : Nat) (args : List Value) : Bool :=
  hput 0 (some (.cells deC 0 false)) H0 fun H => Fw.xW Tryz.prog (syR l u) (0 + 1) (Fw.look3 tab) aw 1000000 1000 g args H (0 + 1) good
theorem fastW_any {ν : Nat → Int} {l : List Rl} {u : List Ru} (hl : ∀ r ∈ l, r.ok ν) (hu : ∀ r ∈ u, r.ok ν) {aw : Option Nat} {g : Nat} (haw : ∀ a, aw = some a → True_ a []) {args : List Value} (ha : ∀ v ∈ args, okV v = true) (h : runW l u aw g args = true) : True_ g (args.map (valT ν)) := by
  intro W hE
  obtain ⟨H, hH, hr⟩ := hput_of HR.start h
  obtain ⟨h', hev⟩ := Fw.fastw_true (P := Tryz.prog) (syR_tok l u) tabOK hH hr
  have htb : TbOK Tryz.prog (0 + 1) (Begin.still W) (toks ν) (awTb aw) := by
    cases aw with
    | none => exact TbOK.none
    | some a =>
      refine TbOK.more TbOK.none fun args s v h' hc φ w args' hv hR _ => ?_
      cases args with
      | cons x l => cases hc
      | nil =>
        cases hc
        cases hv
        refine (haw a rfl w (hE.fr hR.frame)).mono fun e w' hp => ?_
        obtain ⟨rfl, hf⟩ := hp
        exact ⟨_, rfl, φ, .bool true, hR.later hf, Ext.refl _ _, Nat.le_refl _⟩
  have hvs : ∀ (φ : Phi) (l : List Value), (∀ v ∈ l, okV v = true) → VRs (toks ν) φ l (l.map (valT ν)) := fun φ l => by
    induction l with
    | nil => exact fun _ => .nil
    | cons v l ih => exact fun h => .cons (vr_val (h v (List.mem_cons_self ..))) (ih fun x hx => h x (List.mem_cons_of_mem _ hx))
  refine (ev_sound (W0 := Begin.still W) (by kernel_rfl) (syR_ok hl hu) htb _ _ g args tree0 (.bool true) h' hev _ W _ (hvs _ args ha) (start_ok hE _) (Nat.le_refl _)).mono fun e w' hp => ?_
  obtain ⟨v', rfl, φ', hv, hR, _, _⟩ := hp
  cases hv
  exact ⟨rfl, hR.frame⟩
end Go.Proofs.YtogmgjcdicnceaaGreatDoor
