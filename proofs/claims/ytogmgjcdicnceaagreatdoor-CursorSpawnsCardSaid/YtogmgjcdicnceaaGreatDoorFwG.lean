/-
  Rules by which a test is run to the end for both its answers. No program in sight.
-/
import Derived.Test.YtogmgjcdicnceaaGreatDoorFwD
import Derived.Test.YtogmgjcdicnceaaGreatDoorFvG
set_option linter.unusedVariables false
namespace Go.Fw
open Go Go.Eva Go.Fv Go.RowKit Go.Mix Go.Viv
theorem okV_bsub {β : Nat → Bool} {v : Value} (h : okV v = true) : bsub β v = v := by
  unfold bsub
  split
  · cases h
  · rfl
theorem syG_okV {P : Program} {W0 : Begin} {ν : Toks} {R : Rules} (hR : R.OK P W0 ν) {o : Op} {vals : List Value} {v : Value} (h : syG P R o vals = some v) : okV v = true := by
  have any_ : ∀ {o : Op} {vals : List Value}, (match symX o && vals.any isTok with
      | true => findX o vals R.x
      | false => none) = some v → okV v = true := fun h => by
    split at h <;> try (cases h; done)
    obtain ⟨r, hr, _, _, rfl⟩ := findX_of h
    exact (hR.x r hr).1
  unfold syG at h
  split at h
  · split at h
    · split at h
      · rename_i hfr
        cases h
        obtain ⟨r, hr, _, _, _, rfl⟩ := findR_of hfr
        obtain ⟨_, _, _, _, _, _, _, q⟩ := hR.l r hr
        exact q
      · unfold sameT at h
        split at h <;> try (cases h; done)
        split at h <;> try (cases h; done)
        cases h
        rfl
    · unfold aggT at h
      split at h <;> try (cases h; done)
      split at h <;> try (cases h; done)
      split at h <;> try (cases h; done)
      cases h
      rfl
  · split at h <;> try (cases h; done)
    obtain ⟨r, hr, _, _, rfl⟩ := findU_of h
    exact (hR.u r hr).2
  · split at h <;> try (cases h; done)
    obtain ⟨r, hr, _, _, _, rfl⟩ := findC_of h
    exact (hR.c r hr).2
  · split at h <;> try (cases h; done)
    obtain ⟨r, hr, _, _, _, rfl⟩ := findP_of h
    obtain ⟨_, _, _, q⟩ := hR.p r hr
    exact q
  · exact any_ h
theorem syGb_ok {β : Nat → Bool} {P : Program} {W0 : Begin} {ν : Toks} {R : Rules} (hR : R.OK P W0 ν) : SyOK P W0 ν (syb β (syG P R)) := fun φ o ρ ρ' v hρ h w hf => by
  unfold syb at h
  cases hs : syG P R o.op (o.op.operands.toList.map ρ) with
  | none => rw [hs] at h; split at h <;> cases h
  | some u =>
    rw [hs] at h
    have e : u = v := by
      split at h
      · exact (okV_bsub (syG_okV hR hs)).symm.trans (Option.some.inj h)
      · exact Option.some.inj h
    subst e
    exact syG_ok hR φ o ρ ρ' u hρ hs w hf
/-- The rules, and tests of two numbers that are run for both answers. -/
def syF (P : Program) (R : Rules) (F : List Rl) : Sy := fun o vals => match o, vals with
  | .binOp op xt x y yt, [u, v] => (match isTok u || isTok v, findR op u v F with
    | true, some r => some (.tuple ⟨[r]⟩)
    | _, _ => syG P R (.binOp op xt x y yt) [u, v])
  | o, vals => syG P R o vals
theorem syF_tok (P : Program) (R : Rules) (F : List Rl) : SyT (syF P R F) := fun o vals v h => by
  unfold syF at h
  split at h
  · split at h
    · rename_i hb _
      exact anyA (l := [_, _]) (by simpa using hb)
    · exact syG_tok P R _ _ _ h
  · exact syG_tok P R _ _ _ h
/-- What the tests are. -/
def betaOf (ν : Toks) (c : Nat) : Bool := match ν.v c with
  | .bool b => b
  | _ => false
def FOK (ν : Toks) (F : List Rl) : Prop := ∀ r ∈ F, r.ok ν ∧ ∃ c b, r.r = .chan (some c) ∧ ν.v c = .bool b
theorem syF_ok {P : Program} {W0 : Begin} {ν : Toks} {R : Rules} {F : List Rl} (hR : R.OK P W0 ν) (hF : FOK ν F) : SyOK P W0 ν (syb (betaOf ν) (syF P R F)) := fun φ o ρ ρ' v hρ h w hf => by
  have old : syb (betaOf ν) (syG P R) o.op (o.op.operands.toList.map ρ) = some v → ∃ v', (execOp ρ' o).run P w = .ok (.value v') w ∧ VR ν φ v v' := fun h => syGb_ok hR φ o ρ ρ' v hρ h w hf
  unfold syb at h old
  cases hop : o.op <;> rw [hop] at h old <;> try (exact old h)
  case binOp op xt x y yt =>
    have e : (Op.binOp op xt x y yt).operands.toList.map ρ = [ρ x, ρ y] := rfl
    rw [e] at h old
    have h : (syF P R F (.binOp op xt x y yt) [ρ x, ρ y]).map (bsub (betaOf ν)) = some v := h
    have old : (syG P R (.binOp op xt x y yt) [ρ x, ρ y]).map (bsub (betaOf ν)) = some v → ∃ v', (execOp ρ' o).run P w = .ok (.value v') w ∧ VR ν φ v v' := old
    unfold syF at h
    split at h
    · rename_i op' xt' x' y' yt' u' v' heq1 heq2
      cases heq1
      cases heq2
      split at h
      · rename_i r hb hr
        obtain ⟨q, hq, _, _, _, rfl⟩ := findR_of hr
        obtain ⟨_, c, b, hc, hν⟩ := hF q hq
        have hQ : ({ l := F } : Rules).OK P W0 ν := ⟨fun r hr => (hF r hr).1, (fun _ h => by cases h), (fun _ h => by cases h), (fun _ h => by cases h), (fun _ h => by cases h), (fun _ h => by cases h)⟩
        have hs : syG P { l := F } o.op (o.op.operands.toList.map ρ) = some q.r := by
          rw [hop, e]
          show (match isTok (ρ x) || isTok (ρ y) with
            | true => (match findR op (ρ x) (ρ y) F with
              | some v => some v
              | none => sameT (fun _ => false) op (ρ x) (ρ y))
            | false => aggT P (fun _ => false) op xt (ρ x) (ρ y)) = some q.r
          rw [hb, hr]
        obtain ⟨v', h1, h2⟩ := syG_ok hQ φ o ρ ρ' q.r hρ hs w hf
        rw [hc] at h2
        have e2 : v' = ν.v c := by
          generalize v' = z at h2
          cases h2
          rfl
        refine ⟨v', h1, ?_⟩
        rw [hc] at h
        have e3 : v = .bool (betaOf ν c) := (Option.some.inj h).symm
        have e4 : betaOf ν c = b := by
          unfold betaOf
          rw [hν]
        rw [e2, hν, e3, e4]
        exact .bool _
      · exact old h
    · rename_i hno
      exact (hno _ _ _ _ _ _ _ rfl rfl).elim
end Go.Fw
