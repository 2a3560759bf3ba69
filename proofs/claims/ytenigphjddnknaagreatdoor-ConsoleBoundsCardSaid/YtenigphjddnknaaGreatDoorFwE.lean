/-
  Laws of a finite shape, by the shallow run: open values by rules, single calls by cases.
-/
import Derived.Test.YtenigphjddnknaaGreatDoorShx
import Derived.Test.YtenigphjddnknaaGreatDoorRuA
import Derived.Test.YtenigphjddnknaaGreatDoorProg
import Derived.Test.YtenigphjddnknaaGreatDoorFvG
import Derived.KernelRfl
import Derived.WalkKit
import Derived.Test.YtenigphjddnknaaGreatDoorFwD
namespace Go.Proofs.YtenigphjddnknaaGreatDoor
open Go Go.RowKit Go.Viv Go.Eva Go.Fv
/-- The table of math/bits. -/
def deB : List Nat := [0, 1, 56, 2, 57, 49, 28, 3, 61, 58, 42, 50, 38, 29, 17, 4, 62, 47, 59, 36, 45, 43, 51, 22, 53, 39, 33, 30, 24, 18, 12, 5, 63, 55, 48, 27, 60, 41, 37, 16, 46, 35, 44, 21, 52, 32, 23, 11, 54, 26, 40, 15, 34, 20, 31, 10, 25, 14, 19, 9, 13, 8, 7, 6]
def deC : List Value := deB.map fun n => .int .u8 (.ofNat n)
def tree0 : Hp := ⟨Tr.nil.set 7 (some (.cells deC 0 false)), 7 + 1⟩
/-- What is asked of memory. -/
def EnvT (W : World) : Prop := ∃ e fr, W.heap[7]? = some (.cells deC.toArray e fr)
theorem EnvT.fr {W W' : World} (h : EnvT W) (hf : Fr (fun _ => False) W W') : EnvT W' := by
  obtain ⟨e, fr, h⟩ := h
  have hlt : 7 < W.heap.size := by
    rcases Nat.lt_or_ge 7 W.heap.size with h' | h'
    · exact h'
    · rw [Array.getElem?_eq_none h'] at h; cases h
  exact ⟨e, fr, (hf.block _ hlt (fun h => h)).trans h⟩
theorem start_ok {W : World} (hE : EnvT W) (ν : Toks) : Rw Tryz.prog (7 + 1) (Begin.still W) ν (phi0 (7 + 1) (fun _ => 64)) tree0 W := by
  obtain ⟨e, fr, ht⟩ := hE
  have hlt : 7 < W.heap.size := by
    rcases Nat.lt_or_ge 7 W.heap.size with h | h
    · exact h
    · rw [Array.getElem?_eq_none h] at ht; cases ht
  refine Rw.start (W0 := Begin.still W) hlt _ _ (fun g o ho _ => ?_)
  by_cases hg : 7 = g
  · subst hg
    rw [Tr.at_set_same] at ho
    cases ho
    exact ⟨rfl, .cells ht rfl (fun h => by cases h) (by
      have : deC.toArray.toList.take deC.length = deC := by rw [List.take_of_length_le (by simp)]
      rw [this]
      exact VRs.refl _ (by kernel_rfl))⟩
  · rw [Tr.at_set_ne _ _ hg, nil_at] at ho
    cases ho
/-- A call that answers true, and writes nothing old. -/
def True_ (g : Nat) (args : List Value) : Prop := ∀ W, EnvT W → Calls Tryz.prog g ⟨args⟩ W fun e w' => e = .returned (.bool true) ∧ Fr (fun _ => False) W w'
end Go.Proofs.YtenigphjddnknaaGreatDoor
set_option linter.unusedVariables false
namespace Go.Fw
open Go Go.Eva Go.Fv Go.RowKit Go.Mix Go.Viv
theorem okV_bsub {β : Nat → Bool} {v : Value} (h : okV v = true) : bsub β v = v := by
  unfold bsub
  split
  · cases h
  · rfl
theorem syG_okV {P : Program} {W0 : Begin} {ν : Toks} {R : Rules} (hR : R.OK P W0 ν) {o : Op} {vals : List Value} {v : Value} (h : syG P R o vals = some v) : okV v = true := by
  have any_ : ∀ {o : Op} {vals : List Value}, (match symX o && vals.any isTok with
      | true => findX o vals R.x
      | false => none) = some v → okV v = true := fun h => by
    split at h <;> try (cases h; done)
    obtain ⟨r, hr, _, _, rfl⟩ := findX_of h
    exact (hR.x r hr).1
  unfold syG at h
  split at h
  · split at h
    · split at h
      · rename_i hfr
        cases h
        obtain ⟨r, hr, _, _, _, rfl⟩ := findR_of hfr
        obtain ⟨_, _, _, _, _, _, _, q⟩ := hR.l r hr
        exact q
      · unfold sameT at h
        split at h <;> try (cases h; done)
        split at h <;> try (cases h; done)
        cases h
        rfl
    · unfold aggT at h
      split at h <;> try (cases h; done)
      split at h <;> try (cases h; done)
      split at h <;> try (cases h; done)
      cases h
      rfl
  · split at h <;> try (cases h; done)
    obtain ⟨r, hr, _, _, rfl⟩ := findU_of h
    exact (hR.u r hr).2
  · split at h <;> try (cases h; done)
    obtain ⟨r, hr, _, _, _, rfl⟩ := findC_of h
    exact (hR.c r hr).2
  · split at h <;> try (cases h; done)
    obtain ⟨r, hr, _, _, _, rfl⟩ := findP_of h
    obtain ⟨_, _, _, q⟩ := hR.p r hr
    exact q
  · exact any_ h
theorem syGb_ok {β : Nat → Bool} {P : Program} {W0 : Begin} {ν : Toks} {R : Rules} (hR : R.OK P W0 ν) : SyOK P W0 ν (syb β (syG P R)) := fun φ o ρ ρ' v hρ h w hf => by
  unfold syb at h
  cases hs : syG P R o.op (o.op.operands.toList.map ρ) with
  | none => rw [hs] at h; split at h <;> cases h
  | some u =>
    rw [hs] at h
    have e : u = v := by
      split at h
      · exact (okV_bsub (syG_okV hR hs)).symm.trans (Option.some.inj h)
      · exact Option.some.inj h
    subst e
    exact syG_ok hR φ o ρ ρ' u hρ hs w hf
/-- The rules, and tests of two numbers that are run for both answers. -/
def syF (P : Program) (R : Rules) (F : List Rl) : Sy := fun o vals => match o, vals with
  | .binOp op xt x y yt, [u, v] => (match isTok u || isTok v, findR op u v F with
    | true, some r => some (.tuple ⟨[r]⟩)
    | _, _ => syG P R (.binOp op xt x y yt) [u, v])
  | o, vals => syG P R o vals
theorem syF_tok (P : Program) (R : Rules) (F : List Rl) : SyT (syF P R F) := fun o vals v h => by
  unfold syF at h
  split at h
  · split at h
    · rename_i hb _
      exact anyA (l := [_, _]) (by simpa using hb)
    · exact syG_tok P R _ _ _ h
  · exact syG_tok P R _ _ _ h
/-- What the tests are. -/
def betaOf (ν : Toks) (c : Nat) : Bool := match ν.v c with
  | .bool b => b
  | _ => false
def FOK (ν : Toks) (F : List Rl) : Prop := ∀ r ∈ F, r.ok ν ∧ ∃ c b, r.r = .chan (some c) ∧ ν.v c = .bool b
theorem syF_ok {P : Program} {W0 : Begin} {ν : Toks} {R : Rules} {F : List Rl} (hR : R.OK P W0 ν) (hF : FOK ν F) : SyOK P W0 ν (syb (betaOf ν) (syF P R F)) := fun φ o ρ ρ' v hρ h w hf => by
  have old : syb (betaOf ν) (syG P R) o.op (o.op.operands.toList.map ρ) = some v → ∃ v', (execOp ρ' o).run P w = .ok (.value v') w ∧ VR ν φ v v' := fun h => syGb_ok hR φ o ρ ρ' v hρ h w hf
  unfold syb at h old
  cases hop : o.op <;> rw [hop] at h old <;> try (exact old h)
  case binOp op xt x y yt =>
    have e : (Op.binOp op xt x y yt).operands.toList.map ρ = [ρ x, ρ y] := rfl
    rw [e] at h old
    have h : (syF P R F (.binOp op xt x y yt) [ρ x, ρ y]).map (bsub (betaOf ν)) = some v := h
    have old : (syG P R (.binOp op xt x y yt) [ρ x, ρ y]).map (bsub (betaOf ν)) = some v → ∃ v', (execOp ρ' o).run P w = .ok (.value v') w ∧ VR ν φ v v' := old
    unfold syF at h
    split at h
    · rename_i op' xt' x' y' yt' u' v' heq1 heq2
      cases heq1
      cases heq2
      split at h
      · rename_i r hb hr
        obtain ⟨q, hq, _, _, _, rfl⟩ := findR_of hr
        obtain ⟨_, c, b, hc, hν⟩ := hF q hq
        have hQ : ({ l := F } : Rules).OK P W0 ν := ⟨fun r hr => (hF r hr).1, (fun _ h => by cases h), (fun _ h => by cases h), (fun _ h => by cases h), (fun _ h => by cases h), (fun _ h => by cases h)⟩
        have hs : syG P { l := F } o.op (o.op.operands.toList.map ρ) = some q.r := by
          rw [hop, e]
          show (match isTok (ρ x) || isTok (ρ y) with
            | true => (match findR op (ρ x) (ρ y) F with
              | some v => some v
              | none => sameT (fun _ => false) op (ρ x) (ρ y))
            | false => aggT P (fun _ => false) op xt (ρ x) (ρ y)) = some q.r
          rw [hb, hr]
        obtain ⟨v', h1, h2⟩ := syG_ok hQ φ o ρ ρ' q.r hρ hs w hf
        rw [hc] at h2
        have e2 : v' = ν.v c := by
          generalize v' = z at h2
          cases h2
          rfl
        refine ⟨v', h1, ?_⟩
        rw [hc] at h
        have e3 : v = .bool (betaOf ν c) := (Option.some.inj h).symm
        have e4 : betaOf ν c = b := by
          unfold betaOf
          rw [hν]
        rw [e2, hν, e3, e4]
        exact .bool _
      · exact old h
    · rename_i hno
      exact (hno _ _ _ _ _ _ _ rfl rfl).elim
end Go.Fw
namespace Go.Proofs.YtenigphjddnknaaGreatDoor
open Go Go.RowKit Go.Viv Go.Eva Go.Fv Go.Fw
abbrev GG : Nat := 7 + 1
noncomputable abbrev tfn : Nat → SF := look3 tab
def noB (_ : Nat) : Bool := false
/-- The shallow run from the start on. -/
noncomputable def runG (ic : IcF) (R : Rules) (g : Nat) (args : List Value) : Bool :=
  hput 7 (some (.cells deC 0 false)) H0 fun H => xW Tryz.prog (syG Tryz.prog R) GG tfn ic 1000000 1000 g args H GG good
theorem runG_any {W : World} {ν : Toks} {R : Rules} (hE : EnvT W) (hR : R.OK Tryz.prog (Begin.still W) ν) {ic : IcF} {tb : Tb} (hic : IcOK ic tb) (htb : TbOK Tryz.prog GG (Begin.still W) ν tb) {g : Nat} {args args' : List Value} (ha : ∀ φ, VRs ν φ args args') (h : runG ic R g args = true) : Calls Tryz.prog g ⟨args'⟩ W fun e w' => e = .returned (.bool true) ∧ Fr (fun _ => False) W w' := by
  obtain ⟨H, hH, hr⟩ := hput_of HR.start h
  obtain ⟨h', hev⟩ := fastw_true (β := noB) (P := Tryz.prog) (syG_tok Tryz.prog R) tabOK hic hH hr
  refine (ev_sound (W0 := Begin.still W) (by kernel_rfl) (syGb_ok hR) htb _ _ g args tree0 (.bool true) h' hev _ W _ (ha _) (start_ok hE _) (Nat.le_refl _)).mono fun e w' hp => ?_
  obtain ⟨v', rfl, φ', hv, hR, _, _⟩ := hp
  cases hv
  exact ⟨rfl, hR.frame⟩
/-- The same; tests F are run for both answers. -/
noncomputable def runF (ic : IcF) (R : Rules) (F : List Rl) (g : Nat) (args : List Value) : Bool :=
  hput 7 (some (.cells deC 0 false)) H0 fun H => xW Tryz.prog (syF Tryz.prog R F) GG tfn ic 1000000 1000 g args H GG good
theorem runF_any {W : World} {ν : Toks} {R : Rules} {F : List Rl} (hE : EnvT W) (hR : R.OK Tryz.prog (Begin.still W) ν) (hF : FOK ν F) {ic : IcF} {tb : Tb} (hic : IcOK ic tb) (htb : TbOK Tryz.prog GG (Begin.still W) ν tb) {g : Nat} {args args' : List Value} (ha : ∀ φ, VRs ν φ args args') (h : runF ic R F g args = true) : Calls Tryz.prog g ⟨args'⟩ W fun e w' => e = .returned (.bool true) ∧ Fr (fun _ => False) W w' := by
  obtain ⟨H, hH, hr⟩ := hput_of HR.start h
  obtain ⟨h', hev⟩ := fastw_true (β := betaOf ν) (P := Tryz.prog) (syF_tok Tryz.prog R F) tabOK hic hH hr
  refine (ev_sound (W0 := Begin.still W) (by kernel_rfl) (syF_ok hR hF) htb _ _ g args tree0 (.bool true) h' hev _ W _ (ha _) (start_ok hE _) (Nat.le_refl _)).mono fun e w' hp => ?_
  obtain ⟨v', rfl, φ', hv, hR, _, _⟩ := hp
  cases hv
  exact ⟨rfl, hR.frame⟩
theorem aw_ok {W : World} {ν : Toks} (hE : EnvT W) {aw : Option Nat} (haw : ∀ a, aw = some a → True_ a []) : TbOK Tryz.prog GG (Begin.still W) ν (awTb aw) := by
  cases aw with
  | none => exact TbOK.none
  | some a =>
    refine TbOK.more TbOK.none fun args s v h' hc φ w args' hv hR _ => ?_
    cases args with
    | cons x l => cases hc
    | nil =>
      cases hc
      cases hv
      refine (haw a rfl w (hE.fr hR.frame)).mono fun e w' hp => ?_
      obtain ⟨rfl, hf⟩ := hp
      exact ⟨_, rfl, φ, .bool true, hR.later hf, Ext.refl _ _, Nat.le_refl _⟩
theorem okVs {ν : Toks} (φ : Phi) : ∀ (l : List Value), (∀ v ∈ l, okV v = true) → VRs ν φ l (l.map (valT ν))
  | [], _ => .nil
  | v :: l, h => .cons (vr_val (h v (List.mem_cons_self ..))) (okVs φ l fun x hx => h x (List.mem_cons_of_mem _ hx))
/-- No rule. -/
def noRules : Rules := {}
theorem noRules_ok {W0 : Begin} {ν : Toks} : noRules.OK Tryz.prog W0 ν := ⟨fun _ h => absurd h List.not_mem_nil, fun _ h => absurd h List.not_mem_nil, fun _ h => absurd h List.not_mem_nil, fun _ h => absurd h List.not_mem_nil, fun _ h => absurd h List.not_mem_nil, fun _ h => Bool.noConfusion h⟩
/-- A closed call. -/
theorem closed_any {aw : Option Nat} {g : Nat} (haw : ∀ a, aw = some a → True_ a []) (h : runG (awIc aw) noRules g [] = true) : True_ g [] := fun _ hE =>
  runG_any (ν := noToks) (args' := []) hE noRules_ok (awIc_ok aw) (aw_ok hE haw) (fun _ => .nil) h
/-! ### A call by cases -/
/-- Which cases a call has, by its arguments: tests and rules, one behind the other. -/
abbrev Cases := List Value → Option (List (Nat × Rules) × Rules)
noncomputable def casX (ic : IcF) (R : Rules) (g : Nat) (f : Cases) : CtX := fun l H n k => match f l with
  | some (cs, s) => forkX Tryz.prog (syG Tryz.prog R) GG tfn ic 1000000 1000 g (cs.map fun x => (x.1, syG Tryz.prog x.2)) (syG Tryz.prog s) l H n k
  | none => false
noncomputable def casB (tb : Tb) (R : Rules) (g : Nat) (f : Cases) : CtB := fun l h => match f l with
  | some (cs, s) => forkB Tryz.prog (syG Tryz.prog R) GG tb 1000000 1000 g ((cs.map fun x => (x.1, syG Tryz.prog x.2)).map fun x => (x.1, syb noB x.2)) (syb noB (syG Tryz.prog s)) l h
  | none => none
theorem casX_ok {ic : IcF} {tb : Tb} (hic : IcOK ic tb) (R : Rules) (g : Nat) (f : Cases) : CtOK (casX ic R g f) (casB tb R g f) := fun l H t n k hH h => by
  unfold casX at h
  unfold casB
  split at h
  · rename_i cs s hf
    refine forkX_ok tabOK hic (syG_tok _ _) (fun x hx => ?_) l H t n k hH h
    obtain ⟨y, _, rfl⟩ := List.mem_map.1 hx
    exact syG_tok _ _
  · cases h
/-- Some case is the true one. -/
def CasOK (W0 : Begin) (ν : Toks) : List (Nat × Rules) → Rules → Prop
  | [], s => s.OK Tryz.prog W0 ν
  | (c, s1) :: cs, s => ∃ bb, ν.v c = .bool bb ∧ (bb = true → s1.OK Tryz.prog W0 ν) ∧ (bb = false → CasOK W0 ν cs s)
theorem CasOK.upto {W0 : Begin} {ν : Toks} {f : Nat → Nat × Rules} {s : Rules} {A : Nat} : ∀ (m : Nat) (cs : List (Nat × Rules)), (∀ i, i < m → ν.v (f i).1 = .bool (decide (i = A))) → (∀ i, i < m → A = i → (f i).2.OK Tryz.prog W0 ν) → (A < m ∨ CasOK W0 ν cs s) → CasOK W0 ν (Fv.upto (fun i => [f i]) m ++ cs) s
  | 0, cs, _, _, h => by
    rcases h with h | h
    · omega
    · exact h
  | m + 1, cs, hc, h1, h => by
    show CasOK W0 ν ((Fv.upto (fun i => [f i]) m ++ [f m]) ++ cs) s
    rw [List.append_assoc]
    refine CasOK.upto m _ (fun i hi => hc i (by omega)) (fun i hi => h1 i (by omega)) ?_
    by_cases hA : A < m
    · exact .inl hA
    · refine .inr ⟨_, hc m (by omega), fun e => h1 m (by omega) (of_decide_eq_true e).symm, fun e => ?_⟩
      have e := of_decide_eq_false e
      rcases h with h | h
      · omega
      · exact h
theorem CasOK.all {W0 : Begin} {ν : Toks} {f : Nat → Nat × Rules} {s : Rules} {A : Nat} (m : Nat) (hc : ∀ i, i < m → ν.v (f i).1 = .bool (decide (i = A))) (h1 : ∀ i, i < m → A = i → (f i).2.OK Tryz.prog W0 ν) (h2 : m ≤ A → s.OK Tryz.prog W0 ν) : CasOK W0 ν (Fv.upto (fun i => [f i]) m) s := by
  have := CasOK.upto (s := s) m [] hc h1 (by
    rcases Nat.lt_or_ge A m with h | h
    · exact .inl h
    · exact .inr (h2 h))
  rwa [List.append_nil] at this
theorem CasOK.fork {W0 : Begin} {ν : Toks} : ∀ {cs : List (Nat × Rules)} {s : Rules}, CasOK W0 ν cs s → ForkOK Tryz.prog W0 ν ((cs.map fun x => (x.1, syG Tryz.prog x.2)).map fun x => (x.1, syb noB x.2)) (syb noB (syG Tryz.prog s))
  | [], _, h => syGb_ok h
  | (_, _) :: _, _, h => by
    obtain ⟨bb, h1, h2, h3⟩ := h
    exact ⟨bb, h1, fun e => syGb_ok (h2 e), fun e => CasOK.fork (h3 e)⟩
theorem cas_ok {W0 : Begin} {ν : Toks} {R : Rules} (hR : R.OK Tryz.prog W0 ν) {tb : Tb} (htb : TbOK Tryz.prog GG W0 ν tb) {g : Nat} {f : Cases} (hf : ∀ l cs s, f l = some (cs, s) → CasOK W0 ν cs s) : TbOK Tryz.prog GG W0 ν (tb.set g (some (casB tb R g f))) := by
  refine TbOK.more htb fun args s v h' hc φ w args' hv hRw hG => ?_
  unfold casB at hc
  split at hc
  · rename_i cs q hq
    exact fork_sound (by kernel_rfl) (syG_ok hR) htb (hf _ _ _ hq).fork args s v h' hc φ w args' hv hRw hG
  · cases hc
/-- The run of a law, one of whose callees is run by cases. -/
noncomputable def runC (aw : Option Nat) (R : Rules) (g0 : Nat) (f : Cases) (g : Nat) (args : List Value) : Bool := runG (addIc g0 (casX (awIc aw) R g0 f) (awIc aw)) R g args
theorem runC_any {W : World} {ν : Toks} {R : Rules} (hE : EnvT W) (hR : R.OK Tryz.prog (Begin.still W) ν) {aw : Option Nat} (haw : ∀ a, aw = some a → True_ a []) {g0 : Nat} {f : Cases} (hf : ∀ l cs s, f l = some (cs, s) → CasOK (Begin.still W) ν cs s) {g : Nat} {args args' : List Value} (ha : ∀ φ, VRs ν φ args args') (h : runC aw R g0 f g args = true) : Calls Tryz.prog g ⟨args'⟩ W fun e w' => e = .returned (.bool true) ∧ Fr (fun _ => False) W w' :=
  runG_any hE hR (addIc_ok (casX_ok (awIc_ok aw) R g0 f) (awIc_ok aw)) (cas_ok hR (aw_ok hE haw) hf) ha h
end Go.Proofs.YtenigphjddnknaaGreatDoor
