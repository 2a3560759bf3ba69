/-
  A run of a closed call: one operation; a row of them. No program in sight.
-/
import Derived.Test.YtenigphjddnknaaGreatDoorEvaH
import Derived.Scope
namespace Go.Eva
open Go Go.RowKit Go.Mix Go.Viv

section
variable {P : Program} {G : Nat} {W0 : Begin} {ν : Toks} {φ : Phi} {s : Hp} {w : World}

/-- What a call comes to. -/
def CallPost (P : Program) (G : Nat) (W0 : Begin) (ν : Toks) (φ : Phi) (s : Hp) (v : Value) (h' : Hp) (e : Ending) (w' : World) : Prop :=
  ∃ v', e = .returned v' ∧ Step P G W0 ν φ s v h' v' w'
def CallOK (P : Program) (G : Nat) (W0 : Begin) (ν : Toks) (call : CallB) : Prop :=
  ∀ f args s v h', call f args s = some (v, h') → ∀ φ w args', VRs ν φ args args' → Rw P G W0 ν φ s w → G ≤ s.next → Calls P f ⟨args'⟩ w (CallPost P G W0 ν φ s v h')
theorem fn_ok {f : FuncId} (h : okFn P f = true) (args : Array Value) : (callFunc f args).run P w = .ok (.enter f args) w := by
  unfold okFn at h
  cases hf : P.funcs[f]? with
  | none => rw [hf] at h; cases h
  | some fn =>
    rw [hf] at h
    simp only [Bool.and_eq_true, Bool.not_eq_true'] at h
    have h2 : ¬ fn.body = none := by
      intro e
      rw [e] at h
      simp at h
    have h3 : ¬ fn.name = "runtime.NumGoroutine" := by simpa using h.2
    simp [callFunc, hf, h2, h3]
theorem meth_sound {t : TypeId} {name : String} {v v' y : Value} {g : FuncId} (hv : VR ν φ v v') (h : recvB P t name v = some (g, y)) (k : Nat) :
    ∃ y', (Go.method (k + 1) t v' name).run P w = .ok (g, y') w ∧ VR ν φ y y' := by
  unfold recvB at h
  have core : ∀ g p, methB P t name = some (g, p) → ∃ i m, P.info? t = some i ∧ i.methods.find? (·.name == name) = some m ∧ m.path = #[] ∧ m.func = some (g, p) := by
    intro g p hm
    unfold methB at hm
    split at hm <;> try cases hm
    rename_i i hi
    split at hm <;> try cases hm
    rename_i m hf
    split at hm <;> try cases hm
    rename_i hp
    exact ⟨i, m, hi, hf, by simpa using hp, hm⟩
  rcases hm : methB P t name with _ | ⟨f, p⟩
  · rw [hm] at h; cases h
  rcases hu : isPtr P t with _ | u
  · rw [hm, hu] at h; cases p <;> cases h
  rw [hm, hu] at h
  obtain ⟨i, m, h1, h2, h3, h4⟩ := core _ _ hm
  unfold isPtr at hu
  cases hu2 : P.underlying t with
  | none => rw [hu2] at hu; cases hu
  | some d =>
    rw [hu2] at hu
    refine ⟨v', ?_, ?_⟩
    · cases p <;> cases u <;> simp only [Option.some.injEq, Prod.mk.injEq] at h <;> try (cases h; done)
      all_goals
        obtain ⟨rfl, rfl⟩ := h
        cases d <;> simp at hu <;> simp [Go.method, typeInfo, h1, h2, h3, h4, follow, receiverAt, run_underlying hu2, Place.get]
    · cases p <;> cases u <;> simp only [Option.some.injEq, Prod.mk.injEq] at h <;> try (cases h; done)
      all_goals
        obtain ⟨rfl, rfl⟩ := h
        exact hv
/-- What a call calls. -/
theorem target_sound {ρ ρ' : Operand → Value} (hρ : ∀ x, VR ν φ (ρ x) (ρ' x)) {c : Call} {ty : TypeId} {g : FuncId} {args : List Value} (h : targetB P ρ c = some (g, args)) (hg : okFn P g = true) :
    ∃ args', (do let d ← resolve ρ' c ty; invoke d.target d.args : Sem Next).run P w = .ok (.enter g ⟨args'⟩) w ∧ VRs ν φ args args' := by
  have hargs : VRs ν φ (c.args.toList.map ρ) (c.args.toList.map ρ') := VRs.map _ fun x _ => hρ x
  have hmap : c.args.map ρ' = ⟨c.args.toList.map ρ'⟩ := by apply Array.ext'; simp
  unfold targetB at h
  split at h
  · rename_i f hcal
    have hf := hρ f
    split at h <;> try cases h
    · rename_i g' first cap hfv
      rw [hfv] at hf
      cases hf' : ρ' f <;> rw [hf'] at hf <;> try (cases hf; done)
      rename_i fn' f' c'
      cases hf
      rename_i f' c' h1 h2
      refine ⟨(f' ++ c.args.toList.map ρ') ++ c', ?_, (h1.append hargs).append h2⟩
      simp only [resolve, hcal, Sem.run_bind, hf', Deferred.ofValue, Sem.run_pure, Result.andThen_ok, invoke, hmap]
      rw [fn_ok hg]
      simp
    · rename_i t name first _ hfv
      rw [hfv] at hf
      cases hf' : ρ' f <;> rw [hf'] at hf <;> try (cases hf; done)
      cases hf
      rename_i f' c' h1 h2
      have hall := h1.append hargs
      split at h <;> try cases h
      rename_i d x rest hnot hu hx
      rw [hx] at hall
      simp only [Option.map_eq_some_iff] at h
      obtain ⟨⟨g2, y⟩, hr, he⟩ := h
      simp only [Prod.mk.injEq] at he
      obtain ⟨rfl, rfl⟩ := he
      generalize hL : f' ++ c.args.toList.map ρ' = L at hall
      cases hall with
      | @cons _ x' _ rest' hx' hrest =>
        obtain ⟨y', hm, hy⟩ := meth_sound (P := P) (w := w) hx' hr (P.types.size + Made.depth - 1)
        have hk : P.types.size + Made.depth - 1 + 1 = P.types.size + Made.depth := by
          have : 0 < Made.depth := by decide
          omega
        rw [hk] at hm
        refine ⟨y' :: rest', ?_, .cons hy hrest⟩
        have hcm : (callMethod (.iface t x') name ⟨rest'⟩).run P w = .ok (.enter g2 ⟨y' :: rest'⟩) w := by
          simp only [callMethod, Sem.run_bind, program, Sem.run, Result.andThen_ok, hm]
          have := fn_ok (w := w) hg (#[y'] ++ ⟨rest'⟩)
          rw [this]
          simp
        have hL2 : (⟨f'⟩ : Array Value) ++ c.args.map ρ' = ⟨x' :: rest'⟩ := by rw [hmap, ← hL]; simp
        simp only [resolve, hcal, Sem.run_bind, hf', Deferred.ofValue, Sem.run_pure, Result.andThen_ok, hL2, invoke]
        have h0 : (⟨x' :: rest'⟩ : Array Value)[0]? = some x' := rfl
        simp only [h0, Sem.run_bind, run_underlying hu, Result.andThen_ok]
        have hex : (⟨x' :: rest'⟩ : Array Value).extract 1 (⟨x' :: rest'⟩ : Array Value).size = ⟨rest'⟩ := by
          apply Array.ext'
          simp
        rw [hex]
        cases d <;> first
          | exact absurd rfl (hnot _)
          | exact hcm
          | (simp only [Sem.run_pure, Result.andThen_ok]; exact hcm)
  · rename_i r name hcal
    have hr := hρ r
    split at h <;> try cases h
    rename_i t v hfv
    rw [hfv] at hr
    cases hr' : ρ' r <;> rw [hr'] at hr <;> try (cases hr; done)
    cases hr
    rename_i v' hv
    simp only [Option.map_eq_some_iff] at h
    obtain ⟨⟨g2, y⟩, hrv, he⟩ := h
    simp only [Prod.mk.injEq] at he
    obtain ⟨rfl, rfl⟩ := he
    obtain ⟨y', hm, hy⟩ := meth_sound (P := P) (w := w) hv hrv (P.types.size + Made.depth - 1)
    have hk : P.types.size + Made.depth - 1 + 1 = P.types.size + Made.depth := by
      have : 0 < Made.depth := by decide
      omega
    rw [hk] at hm
    refine ⟨y' :: c.args.toList.map ρ', ?_, .cons hy hargs⟩
    simp only [resolve, hcal, Sem.run_bind, hr', Sem.run_pure, Result.andThen_ok]
    unfold invoke
    rw [hmap]
    generalize c.args.toList.map ρ' = L
    have e : #[Value.iface t v'] ++ (⟨L⟩ : Array Value) = ⟨.iface t v' :: L⟩ := by apply Array.ext'; simp
    rw [e]
    have e0 : (⟨.iface t v' :: L⟩ : Array Value)[0]? = some (.iface t v') := rfl
    have e1 : (⟨.iface t v' :: L⟩ : Array Value).extract 1 (⟨.iface t v' :: L⟩ : Array Value).size = ⟨L⟩ := by
      apply Array.ext'
      simp
    simp only [e0, e1, callMethod, Sem.run_bind, program, Sem.run, Result.andThen_ok, hm]
    rw [fn_ok hg]
    simp
  · cases h

/-! ### Operations -/
/-- What is said of operations on what is left open, holds. -/
def SyOK (P : Program) (W0 : Begin) (ν : Toks) (sy : Sy) : Prop :=
  ∀ (φ : Phi) (o : Oper) (ρ ρ' : Operand → Value) (v : Value), (∀ x, VR ν φ (ρ x) (ρ' x)) → sy o.op (o.op.operands.toList.map ρ) = some v → ∀ w, Fr W0.may W0.w w → ∃ v', (execOp ρ' o).run P w = .ok (.value v') w ∧ VR ν φ v v'
theorem syOK_none : SyOK P W0 ν (fun _ _ => none) := fun _ _ _ _ _ _ h => by cases h
theorem opt_rel {ρ ρ' : Operand → Value} (hρ : ∀ x, VR ν φ (ρ x) (ρ' x)) (x : Option Operand) : match x.map ρ, x.map ρ' with | some v, some v' => VR ν φ v v' | none, none => True | _, _ => False := by
  cases x
  · trivial
  · exact hρ _
theorem quiet0_sound (hR : Rw P G W0 ν φ s w) {ρ ρ' : Operand → Value} (hρ : ∀ x, VR ν φ (ρ x) (ρ' x)) {o : Oper} {v : Value} (h : evQ0 P ρ s.t o.op = some v) : ∃ v', (execOp ρ' o).run P w = .ok (.value v') w ∧ VR ν φ v v' := by
  have wrap : ∀ {sm : Sem Value} {u' : Value}, sm.run P w = .ok u' w → (do pure (.value (← sm)) : Sem Next).run P w = .ok (.value u') w := fun h => by
    simp only [Sem.run_bind, h, Result.andThen_ok, Sem.run_pure]
  cases hop : o.op <;> rw [hop] at h <;> simp only [evQ0] at h <;> try (cases h; done)
  case move x => cases h; exact ⟨_, by simp [execOp, hop], hρ x⟩
  case assign x => cases h; exact ⟨_, by simp [execOp, hop], hρ x⟩
  case pick c a b =>
    have hc := hρ c
    split at h <;> try cases h
    · rename_i e; rw [e] at hc; cases hc' : ρ' c <;> rw [hc'] at hc <;> try (cases hc; done)
      cases hc
      exact ⟨_, by simp [execOp, hop, hc', asBool], hρ a⟩
    · rename_i e; rw [e] at hc; cases hc' : ρ' c <;> rw [hc'] at hc <;> try (cases hc; done)
      cases hc
      exact ⟨_, by simp [execOp, hop, hc', asBool], hρ b⟩
  case load t a => obtain ⟨u', h1, h2⟩ := load_sound hR (hρ a) h; exact ⟨u', by simp only [execOp, hop]; exact wrap h1, h2⟩
  case nilCheck x =>
    obtain ⟨rfl, h2⟩ := nil_sound (hρ x) h
    refine ⟨ρ' x, ?_, hρ x⟩
    simp only [execOp, hop]
    revert h2
    generalize ρ' x = u
    intro h2
    cases u <;> simp only [nn] at h2 ⊢ <;> try (first | rfl | (cases h2; done))
    · rename_i a; cases a
      · cases h2
      · rfl
    · rename_i fn f c
      cases fn <;> first | rfl | (cases h2; done)
  case binOp op xt x y yt => obtain ⟨u', h1, h2⟩ := bin_sound hR (hρ x) (hρ y) h; exact ⟨u', by simp only [execOp, hop]; exact wrap h1, h2⟩
  case unOp op xt x =>
    split at h <;> try cases h
    rename_i hp
    have := (hρ x).plain hp
    obtain ⟨h1, h2⟩ := semV_spec (ν := ν) (φ := φ) h
    exact ⟨v, by simp only [execOp, hop, this]; rw [h1]; rfl, h2⟩
  case convert sr d x =>
    split at h <;> try cases h
    rename_i hp
    have := (hρ x).plain hp
    obtain ⟨h1, h2⟩ := runV_spec (ν := ν) (φ := φ) (w := w) h
    exact ⟨v, by simp only [execOp, hop, this]; exact wrap h1, h2⟩
  case makeInterface t x =>
    split at h <;> try cases h
    rename_i d hnot hu
    refine ⟨.iface t (ρ' x), ?_, .iface t (hρ x)⟩
    simp only [execOp, hop]
    refine wrap ?_
    simp only [Instr.makeInterface, Sem.run_bind, run_underlying hu, Result.andThen_ok]
    cases d <;> first | rfl | exact absurd rfl (hnot _)
  case makeFunc fn f c =>
    cases h
    refine ⟨.func fn (f.map ρ') (c.map ρ'), by simp [execOp, hop, Instr.makeFunc], ?_⟩
    have e1 : f.map ρ' = ⟨f.toList.map ρ'⟩ := by apply Array.ext'; simp
    have e2 : c.map ρ' = ⟨c.toList.map ρ'⟩ := by apply Array.ext'; simp
    rw [e1, e2]
    exact .func fn (VRs.map _ fun x _ => hρ x) (VRs.map _ fun x _ => hρ x)
  case slice t x l hh m =>
    obtain ⟨u', h1, h2⟩ := slice_sound hR (hρ x) (opt_rel hρ l) (opt_rel hρ hh) (opt_rel hρ m) h
    exact ⟨u', by simp only [execOp, hop]; exact wrap h1, h2⟩
  case fieldAddr t x f => obtain ⟨u', h1, h2⟩ := fieldAddr_sound (w := w) (hρ x) h; exact ⟨u', by simp only [execOp, hop]; exact wrap h1, h2⟩
  case field t x f => obtain ⟨u', h1, h2⟩ := field_sound (w := w) (hρ x) h; exact ⟨u', by simp only [execOp, hop]; exact wrap h1, h2⟩
  case indexAddr t x i => obtain ⟨u', h1, h2⟩ := indexAddr_sound (w := w) (hρ x) (hρ i) h; exact ⟨u', by simp only [execOp, hop]; exact wrap h1, h2⟩
  case index t x i => obtain ⟨u', h1, h2⟩ := index_sound (w := w) (hρ x) (hρ i) h; exact ⟨u', by simp only [execOp, hop]; exact wrap h1, h2⟩
  case lookup t m k ok => obtain ⟨u', h1, h2⟩ := lookup_sound hR (hρ m) (hρ k) h; exact ⟨u', by simp only [execOp, hop]; exact wrap h1, h2⟩
  case build t parts =>
    obtain ⟨u', h1, h2⟩ := build_sound (w := w) (parts_map (ρ := ρ) (ρ' := ρ') parts.toList fun x _ => hρ x) h
    refine ⟨u', ?_, h2⟩
    simp only [execOp, hop]
    refine wrap ?_
    have : (parts.map fun (i, x) => (i, ρ' x)) = ⟨parts.toList.map fun (i, x) => (i, ρ' x)⟩ := by apply Array.ext'; simp
    rw [this]; exact h1
  case extract t i =>
    have ht := hρ t
    split at h <;> try cases h
    rename_i l e
    rw [e] at ht
    cases ht' : ρ' t <;> rw [ht'] at ht <;> try (cases ht; done)
    cases ht
    rename_i l' hl
    obtain ⟨u', h1, h2⟩ := hl.get h
    exact ⟨u', by simp [execOp, hop, ht', Instr.extract, h1], h2⟩
  case call c =>
    split at h <;> try cases h
    rename_i b hcal
    have hargs : VRs ν φ (c.args.toList.map ρ) (c.args.toList.map ρ') := VRs.map _ fun x _ => hρ x
    have hmap : c.args.map ρ' = ⟨c.args.toList.map ρ'⟩ := by apply Array.ext'; simp
    unfold quietBuiltin at h
    split at h <;> try (cases h; done)
    · rename_i t ts x hts hxs
      rw [hxs] at hargs
      generalize hL : c.args.toList.map ρ' = L at hargs hmap
      cases hargs with
      | cons hx ht =>
      cases ht
      obtain ⟨h1, h2⟩ := len_sound (w := w) hx h
      refine ⟨v, ?_, h2⟩
      simp only [execOp, hop, resolve, hcal, Sem.run_bind, Sem.run_pure, Result.andThen_ok, invoke, builtin, hmap]
      have := h1 c.argTypes o.type (by rw [← Array.getElem?_toList, hts]; rfl)
      rw [this]
      rfl
    · rename_i t ts hts hxs
      rw [hxs] at hargs
      generalize hL : c.args.toList.map ρ' = L at hargs hmap
      cases hargs with
      | cons hx ht =>
      cases ht
      split at h <;> try (cases h; done)
      rename_i e hu
      cases h
      cases hx
      refine ⟨_, ?_, .int _ _⟩
      simp only [execOp, hop, resolve, hcal, Sem.run_bind, Sem.run_pure, Result.andThen_ok, invoke, builtin, hmap]
      have h0 : c.argTypes[0]? = some t := by rw [← Array.getElem?_toList, hts]; rfl
      have h1 : (Builtin.cap_ c.argTypes o.type #[.slice none 0 0]).run P w = .ok (.int .i64 0) w := by
        simp [Builtin.cap_, h0, run_underlying hu, goInt]
      rw [h1]
      rfl
    · rename_i k x k' y hxs
      rw [hxs] at hargs
      generalize hL : c.args.toList.map ρ' = L at hargs hmap
      cases hargs with
      | cons hx ht =>
      cases ht with
      | cons hy ht =>
      cases ht
      have hx := hx.int_
      have hy := hy.int_
      subst hx hy
      obtain ⟨h1, h2⟩ := semV_spec (ν := ν) (φ := φ) h
      refine ⟨v, ?_, h2⟩
      simp only [execOp, hop, resolve, hcal, Sem.run_bind, Sem.run_pure, Result.andThen_ok, invoke, builtin, hmap, Builtin.max_, List.foldlM, h1]
      rfl
    · rename_i k x k' y hxs
      rw [hxs] at hargs
      generalize hL : c.args.toList.map ρ' = L at hargs hmap
      cases hargs with
      | cons hx ht =>
      cases ht with
      | cons hy ht =>
      cases ht
      have hx := hx.int_
      have hy := hy.int_
      subst hx hy
      obtain ⟨h1, h2⟩ := semV_spec (ν := ν) (φ := φ) h
      refine ⟨v, ?_, h2⟩
      simp only [execOp, hop, resolve, hcal, Sem.run_bind, Sem.run_pure, Result.andThen_ok, invoke, builtin, hmap, Builtin.min_, List.foldlM, h1]
      rfl
theorem quiet_sound {sy : Sy} (hsy : SyOK P W0 ν sy) (hR : Rw P G W0 ν φ s w) {ρ ρ' : Operand → Value} (hρ : ∀ x, VR ν φ (ρ x) (ρ' x)) {o : Oper} {v : Value} (h : evQ P sy ρ s.t o.op = some v) : ∃ v', (execOp ρ' o).run P w = .ok (.value v') w ∧ VR ν φ v v' := by
  unfold evQ at h
  cases h0 : sy o.op (o.op.operands.toList.map ρ) with
  | some u => rw [h0] at h; cases h; exact hsy φ o ρ ρ' v hρ h0 w hR.frame
  | none => rw [h0] at h; exact quiet0_sound hR hρ h
/-- What writes, or calls. -/
theorem eff_sound {call : CallB} (hc : CallOK P G W0 ν call) (hR : Rw P G W0 ν φ s w) (hG : G ≤ s.next) {a : Act} {ρ : Operand → Value} (hρ : ∀ x, VR ν φ (ρ x) (a.eval x)) {o : Oper} {v : Value} {h' : Hp} (h : evE P call ρ s o.op = some (v, h'))
    (K : Act → World → Prop) (Q : Exit → Act → World → Prop) (hK : ∀ v' w', Step P G W0 ν φ s v h' v' w' → K (a.put o.dst v') w') : o.wp P a w K Q := by
  unfold Oper.wp
  cases hop : o.op <;> rw [hop] at h <;> simp only [evE] at h <;> try (cases h; done)
  case store t x y =>
    split at h <;> try (cases h; done)
    rename_i H' hs
    simp only [Option.some.injEq, Prod.mk.injEq] at h
    obtain ⟨rfl, rfl⟩ := h
    obtain ⟨w', h1, h2⟩ := store_sound hR (hρ x) (hρ y) hs
    have : (execOp a.eval o).run P w = .ok .skip w' := by simp only [execOp, hop, Sem.run_bind, h1, Result.andThen_ok, Sem.run_pure]
    rw [this]
    exact hK undef w' (Step.same h2 VR.undef_)
  case mapUpdate t m k x =>
    split at h <;> try (cases h; done)
    rename_i H' hs
    simp only [Option.some.injEq, Prod.mk.injEq] at h
    obtain ⟨rfl, rfl⟩ := h
    obtain ⟨w', h1, h2⟩ := mapSet_sound hR (hρ m) (hρ k) (hρ x) hs
    have : (execOp a.eval o).run P w = .ok .skip w' := by simp only [execOp, hop, Sem.run_bind, h1, Result.andThen_ok, Sem.run_pure]
    rw [this]
    exact hK undef w' (Step.same h2 VR.undef_)
  case call c =>
    have viaCall : (match targetB P ρ c with
      | some (g, args) => match okFn P g with
        | true => call g args s
        | false => none
      | none => none) = some (v, h') → Oper.upon P o a K Q ((execOp a.eval o).run P w) := by
      intro h
      split at h <;> try (cases h; done)
      rename_i g args ht
      split at h <;> try (cases h; done)
      rename_i hg
      obtain ⟨args', h1, h2⟩ := target_sound (P := P) (w := w) (ty := o.type) hρ ht hg
      have : (execOp a.eval o).run P w = .ok (.enter g ⟨args'⟩) w := by
        simp only [execOp, hop]
        exact h1
      rw [this]
      simp only [Oper.upon]
      refine (hc g args s v h' h φ w args' h2 hR hG).mono fun e w' hp => ?_
      obtain ⟨v', rfl, hst⟩ := hp
      exact hK v' w' hst
    split at h
    · rename_i s1 x1 hcal hargs
      obtain ⟨v', w', h1, h2⟩ := append_sound (ty := o.type) hR hG (hρ s1) (hρ x1) h
      have : (execOp a.eval o).run P w = .ok (.value v') w' := by
        have hmap : c.args.map a.eval = #[a.eval s1, a.eval x1] := by
          apply Array.ext'
          simp [hargs]
        simp only [execOp, hop, resolve, hcal, Sem.run_bind, Sem.run_pure, Result.andThen_ok, invoke, builtin, hmap, h1]
      rw [this]
      exact hK v' w' h2
    · rename_i x1 hcal hargs
      split at h <;> try (cases h; done)
      rename_i H' hs
      simp only [Option.some.injEq, Prod.mk.injEq] at h
      obtain ⟨rfl, rfl⟩ := h
      obtain ⟨w', h1, h2⟩ := clear_sound (ty := o.type) hR (hρ x1) hs
      have : (execOp a.eval o).run P w = .ok (.value (.tuple #[])) w' := by
        have hmap : c.args.map a.eval = #[a.eval x1] := by
          apply Array.ext'
          simp [hargs]
        simp only [execOp, hop, resolve, hcal, Sem.run_bind, Sem.run_pure, Result.andThen_ok, invoke, builtin, hmap, h1]
      rw [this]
      exact hK _ w' (Step.same h2 (.tuple .nil))
    · rename_i m1 k1 hcal hargs
      split at h <;> try (cases h; done)
      rename_i H' hs
      simp only [Option.some.injEq, Prod.mk.injEq] at h
      obtain ⟨rfl, rfl⟩ := h
      obtain ⟨w', h1, h2⟩ := mapDel_sound (ty := o.type) hR (hρ m1) (hρ k1) hs
      have : (execOp a.eval o).run P w = .ok (.value (.tuple #[])) w' := by
        have hmap : c.args.map a.eval = #[a.eval m1, a.eval k1] := by
          apply Array.ext'
          simp [hargs]
        simp only [execOp, hop, resolve, hcal, Sem.run_bind, Sem.run_pure, Result.andThen_ok, invoke, builtin, hmap, h1]
      rw [this]
      exact hK _ w' (Step.same h2 (.tuple .nil))
    · exact viaCall h
/-- Any operation, taken in its turn. -/
theorem op_sound {sy : Sy} {call : CallB} (hsy : SyOK P W0 ν sy) (hc : CallOK P G W0 ν call) (hR : Rw P G W0 ν φ s w) (hG : G ≤ s.next) {a : Act} {ρ : Operand → Value} (hρ : ∀ x, VR ν φ (ρ x) (a.eval x)) {o : Oper} {v : Value} {h' : Hp} (h : evOp P sy call ρ s o.op = some (v, h'))
    (K : Act → World → Prop) (Q : Exit → Act → World → Prop) (hK : ∀ v' w', Step P G W0 ν φ s v h' v' w' → K (a.put o.dst v') w') : o.wp P a w K Q := by
  unfold evOp at h
  split at h
  · split at h <;> try (cases h; done)
    rename_i v1 hq
    simp only [Option.some.injEq, Prod.mk.injEq] at h
    obtain ⟨rfl, rfl⟩ := h
    obtain ⟨v', h1, h2⟩ := quiet_sound hsy hR hρ hq
    unfold Oper.wp
    rw [h1]
    exact hK v' w ⟨φ, h2, hR, Ext.refl _ _, Nat.le_refl _⟩
  · split at h <;> try (cases h; done)
    rename_i v1 ob hq
    simp only [Option.some.injEq, Prod.mk.injEq] at h
    obtain ⟨rfl, rfl⟩ := h
    have hN : φ s.next = none := hR.fresh _ (Nat.le_refl _)
    have h1 := hR.ghost hN (some ob) (Nat.le_succ s.next)
    obtain ⟨v', w', r, h2, h3, h4⟩ := alloc_sound h1 hN (Nat.lt_succ_self _) hG hρ (Tr.at_set_same _ _ _) hq
    unfold Oper.wp
    rw [h2]
    exact hK v' w' ⟨_, h3, h4, Ext.add r, Nat.le_succ _⟩
  · exact eff_sound hc hR hG hρ h K Q hK
end
end Go.Eva
