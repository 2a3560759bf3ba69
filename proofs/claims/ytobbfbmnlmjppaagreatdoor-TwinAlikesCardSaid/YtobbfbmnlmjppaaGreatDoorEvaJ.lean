/-
  A run of a closed call: a body's code, and calls. No program in sight.
-/
import Derived.Test.YtobbfbmnlmjppaaGreatDoorEvaI
namespace Go.Eva
open Go Go.RowKit Go.Mix

section
variable {P : Program} {G : Nat} {W0 : World} {ν : Toks}

/-- Where the run of a piece of code ends. -/
def Ex.to : Ex → Exit
  | .normal => .normal
  | .exit id => .exit id
  | .ret => .ret
/-- What holds behind a piece of code. -/
structure PostC (P : Program) (G : Nat) (W0 : World) (ν : Toks) (n : Nat) (φ : Phi) (s : Hp) (r : Ex × Tr Value × Hp) (e : Exit) (a : Act) (w : World) : Prop where
  ex : e = r.1.to
  post : ∃ φ', Ar ν φ' n r.2.1 a ∧ Rw P G W0 ν φ' r.2.2 w ∧ Ext s.next φ φ' ∧ s.next ≤ r.2.2.next
theorem PostC.from {n : Nat} {φ φ1 : Phi} {s s1 : Hp} {r : Ex × Tr Value × Hp} {e : Exit} {a : Act} {w : World} (h : PostC P G W0 ν n φ1 s1 r e a w) (hx : Ext s.next φ φ1) (hs : s.next ≤ s1.next) : PostC P G W0 ν n φ s r e a w := by
  obtain ⟨h1, φ', h2, h3, h4, h5⟩ := h
  exact ⟨h1, φ', h2, h3, hx.trans h4 hs, Nat.le_trans hs h5⟩
def CodeOK (P : Program) (G : Nat) (W0 : World) (ν : Toks) (n : Nat) (c : Code) (T : Tr Value) (h : Hp) (r : Ex × Tr Value × Hp) : Prop :=
  ∀ φ a w, Ar ν φ n T a → Rw P G W0 ν φ h w → G ≤ h.next → c.wp P (PostC P G W0 ν n φ h r) a w
def DrawOK (P : Program) (G : Nat) (W0 : World) (ν : Toks) (n : Nat) (draw : DrawB) : Prop :=
  ∀ ops T h r, draw ops T h = some r → ∀ id, CodeOK P G W0 ν n (.region id ops true) T h (.normal, r.1, r.2)
theorem seq_ops {sy : Sy} {call : CallB} (hsy : SyOK P ν sy) (hc : CallOK P G W0 ν call) {n : Nat} {ops : Array Oper} : ∀ (l : List Oper) (k : Nat) (T : Tr Value) (h : Hp) (r : Tr Value × Hp), evSeq P sy G n call ops.toList l T h = some r → ops.toList.drop k = l →
    ∀ φ a w, Ar ν φ n T a → Rw P G W0 ν φ h w → G ≤ h.next → ∀ Q : Exit → Act → World → Prop, (∀ φ' a w, Ar ν φ' n r.1 a → Rw P G W0 ν φ' r.2 w → Ext h.next φ φ' → h.next ≤ r.2.next → Q .normal a w) → wpOps P ops Q (List.range' k l.length) a w
  | [], k, T, h, r, e, _, φ, a, w, hA, hR, hG, Q, hQ => by
    simp only [evSeq, Option.some.injEq] at e
    subst e
    exact hQ φ a w hA hR (Ext.refl _ _) (Nat.le_refl _)
  | o :: l, k, T, h, r, e, hd, φ, a, w, hA, hR, hG, Q, hQ => by
    have ho : ops[k]? = some o := by
      have := congrArg (·[0]?) hd
      simpa using this
    have hd' : ops.toList.drop (k + 1) = l := by
      have := congrArg List.tail hd
      simpa using this
    simp only [List.length_cons, List.range'_succ]
    rw [wpOps_cons]
    unfold wpOp
    simp only [ho]
    simp only [evSeq] at e
    split at e <;> try (cases e; done)
    · rename_i hw
      rw [wanted_sound hA hw]
      simp only [if_true]
      split at e <;> try (cases e; done)
      rename_i v h1 hop
      split at e <;> try (cases e; done)
      rename_i T1 hput
      refine .inl (op_sound hsy hc hR hG (fun x => evl_sound hR hA x) hop _ _ fun v' w' hst => ?_)
      obtain ⟨φ', s1, s2, s3, s4⟩ := hst
      have hA' := (hA.ext (hR.up (Nat.le_refl _) s3)).put s1 hput
      exact seq_ops hsy hc l (k + 1) T1 h1 r e hd' φ' _ w' hA' s2 (Nat.le_trans hG s4) Q (fun φ2 a w q1 q2 q3 q4 => hQ φ2 a w q1 q2 (s3.trans q3 s4) (Nat.le_trans s4 q4))
    · rename_i hw
      rw [wanted_sound hA hw]
      simp only [Bool.false_eq_true, if_false]
      split at e <;> try (cases e; done)
      rename_i T1 hput
      exact seq_ops hsy hc l (k + 1) T1 h r e hd' φ _ w (hA.put VR.undef_ hput) hR hG Q hQ
theorem seq_sound {sy : Sy} {call : CallB} (hsy : SyOK P ν sy) (hc : CallOK P G W0 ν call) {n : Nat} {ops : Array Oper} {T : Tr Value} {h : Hp} {T1 : Tr Value} {h1 : Hp} (e : evSeq P sy G n call ops.toList ops.toList T h = some (T1, h1)) (id : Nat) :
    CodeOK P G W0 ν n (.region id ops false) T h (.normal, T1, h1) := by
  intro φ a w hA hR hG
  refine wp_region ?_
  have := seq_ops hsy hc ops.toList 0 T h (T1, h1) e (by simp) φ a w hA hR hG (PostC P G W0 ν n φ h (.normal, T1, h1)) (fun φ' a w q1 q2 q3 q4 => ⟨rfl, φ', q1, q2, q3, q4⟩)
  rw [List.range_eq_range']
  simpa using this
/-- A loop, from its second round on. -/
def LoopWp (P : Program) (c : Code) (Q : Exit → Act → World → Prop) (a : Act) (w : World) : Prop :=
  ∀ (b : Frame) (k : List Item) (cs : List Frame), ∃ e a' w', Q e a' w' ∧ Arrives P (lone (b.at a (.code c :: .inLoop c :: k)) cs w) b k cs e a' w'
theorem loop_of {c : Code} {Q : Exit → Act → World → Prop} {a : Act} {w : World} (h : LoopWp P c Q a w) : (Code.loop c).wp P Q a w := fun b k cs =>
  let ⟨e, a', w', q, r⟩ := h b k cs; ⟨e, a', w', q, .of_steps (.one step_loop) r⟩
theorem loop_round {c : Code} {Q : Exit → Act → World → Prop} {a : Act} {w : World} (h : c.wp P (Exit.then (LoopWp P c Q) Q) a w) : LoopWp P c Q a w := by
  intro b k cs
  obtain ⟨e, a₁, w₁, hq, harr⟩ := h b (.inLoop c :: k) cs
  cases e with
  | normal =>
    obtain ⟨e₂, a₂, w₂, hq₂, harr₂⟩ := hq b k cs
    exact ⟨e₂, a₂, w₂, hq₂, .of_steps (Steps.trans harr (.one step_inLoop)) harr₂⟩
  | exit id => exact ⟨_, a₁, w₁, hq, .pass (x := .inLoop c) rfl (fun _ _ => .inl (by simp)) harr⟩
  | goto l => exact ⟨_, a₁, w₁, hq, .pass (x := .inLoop c) rfl (fun _ _ => .inl (by simp)) harr⟩
  | ret => exact ⟨_, a₁, w₁, hq, .pass (x := .inLoop c) rfl (fun _ _ => .inl (by simp)) harr⟩
  | panic ch => exact ⟨_, a₁, w₁, hq, .pass (x := .inLoop c) rfl (fun _ _ => .inl (by simp)) harr⟩
  | outgrown => exact ⟨_, a₁, w₁, hq, .pass (x := .inLoop c) rfl (fun _ _ => .inl (by simp)) harr⟩
/-- A loop's body, run by the tree, from any state. -/
def LoopOK (P : Program) (G : Nat) (W0 : World) (ν : Toks) (n : Nat) (c : Code) (T : Tr Value) (h : Hp) (r : Ex × Tr Value × Hp) : Prop :=
  ∀ φ a w, Ar ν φ n T a → Rw P G W0 ν φ h w → G ≤ h.next → LoopWp P c (PostC P G W0 ν n φ h r) a w

theorem code_sound {sy : Sy} (hsy : SyOK P ν sy) {n : Nat} {call : CallB} {draw : DrawB} (hc : CallOK P G W0 ν call) (hd : DrawOK P G W0 ν n draw) : ∀ (f : Nat),
    (∀ c T h r, evC P sy G n call draw f c T h = some r → CodeOK P G W0 ν n c T h r) ∧ (∀ c T h r, evC P sy G n call draw f (.loop c) T h = some r → LoopOK P G W0 ν n c T h r)
  | 0 => ⟨fun c T h r e => by simp [evC] at e, fun c T h r e => by simp [evC] at e⟩
  | f + 1 => by
    obtain ⟨ih, ihl⟩ := code_sound hsy hc hd f
    have hloop : ∀ c T h r, evC P sy G n call draw (f + 1) (.loop c) T h = some r → LoopOK P G W0 ν n c T h r := by
      intro c T h r e φ a w hA hR hG
      simp only [evC] at e
      refine loop_round ?_
      cases e1 : evC P sy G n call draw f c T h with
      | none => rw [e1] at e; cases e
      | some r1 =>
        rw [e1] at e
        have h1 := ih c T h r1 e1 φ a w hA hR hG
        obtain ⟨x, T1, s1⟩ := r1
        refine wp_mono h1 fun e' a' w' hp => ?_
        obtain ⟨hex, φ', hA', hR', hX', hN'⟩ := hp
        subst hex
        cases x with
        | normal =>
          simp only at e
          simp only [Ex.to, Exit.then]
          have h2 := ihl c T1 s1 r e φ' a' w' hA' hR' (Nat.le_trans hG hN')
          intro b k cs
          obtain ⟨e2, a2, w2, q, arr⟩ := h2 b k cs
          exact ⟨e2, a2, w2, q.from hX' hN', arr⟩
        | exit id =>
          simp only [Option.some.injEq] at e
          subst e
          exact ⟨rfl, φ', hA', hR', hX', hN'⟩
        | ret =>
          simp only [Option.some.injEq] at e
          subst e
          exact ⟨rfl, φ', hA', hR', hX', hN'⟩
    refine ⟨fun c T h r e => ?_, hloop⟩
    intro φ a w hA hR hG
    have here : ∀ x, PostC P G W0 ν n φ h (x, T, h) x.to a w := fun x => ⟨rfl, φ, hA, hR, Ext.refl _ _, Nat.le_refl _⟩
    cases c with
    | skip => simp only [evC, Option.some.injEq] at e; subst e; exact wp_skip (here .normal)
    | label l => simp only [evC, Option.some.injEq] at e; subst e; exact wp_label (here .normal)
    | exit id => simp only [evC, Option.some.injEq] at e; subst e; exact wp_exit (here (.exit id))
    | ret => simp only [evC, Option.some.injEq] at e; subst e; exact wp_ret (here .ret)
    | goto l => simp [evC] at e
    | refuse y => simp [evC] at e
    | rangeFunc f' p' a' b' => simp [evC] at e
    | region id ops draw_ =>
      cases draw_ with
      | false =>
        simp only [evC] at e
        split at e <;> try cases e
        rename_i T1 s1 e1
        exact seq_sound hsy hc e1 id φ a w hA hR hG
      | true =>
        simp only [evC] at e
        split at e <;> try cases e
        rename_i T1 s1 e1
        exact hd ops T h _ e1 id φ a w hA hR hG
    | seq x y =>
      simp only [evC] at e
      cases e1 : evC P sy G n call draw f x T h with
      | none => rw [e1] at e; cases e
      | some r1 =>
        rw [e1] at e
        obtain ⟨z, T1, s1⟩ := r1
        refine wp_seq (wp_mono (ih x T h _ e1 φ a w hA hR hG) fun e' a' w' hp => ?_)
        obtain ⟨hex, φ', hA', hR', hX', hN'⟩ := hp
        subst hex
        cases z with
        | normal =>
          simp only at e
          simp only [Ex.to, Exit.then]
          exact wp_mono (ih y T1 s1 r e φ' a' w' hA' hR' (Nat.le_trans hG hN')) fun e2 a2 w2 q => q.from hX' hN'
        | exit id => simp only [Option.some.injEq] at e; subst e; exact ⟨rfl, φ', hA', hR', hX', hN'⟩
        | ret => simp only [Option.some.injEq] at e; subst e; exact ⟨rfl, φ', hA', hR', hX', hN'⟩
    | cond x y z =>
      simp only [evC] at e
      have hv := evl_sound hR hA x
      cases hx : evl G T x <;> rw [hx] at e hv <;> try (cases e; done)
      rename_i b
      have hv' : a.eval x = .bool b := by
        generalize a.eval x = u at hv
        cases hv
        rfl
      cases b with
      | true => exact wp_cond_true hv' (ih y T h r e φ a w hA hR hG)
      | false => exact wp_cond_false hv' (ih z T h r e φ a w hA hR hG)
    | block id body =>
      simp only [evC] at e
      cases e1 : evC P sy G n call draw f body T h with
      | none => rw [e1] at e; cases e
      | some r1 =>
        rw [e1] at e
        obtain ⟨z, T1, s1⟩ := r1
        refine wp_block (wp_mono (ih body T h _ e1 φ a w hA hR hG) fun e' a' w' hp => ?_)
        obtain ⟨hex, φ', hA', hR', hX', hN'⟩ := hp
        subst hex
        cases z with
        | normal => simp only [Option.some.injEq] at e; subst e; exact ⟨rfl, φ', hA', hR', hX', hN'⟩
        | ret => simp only [Option.some.injEq] at e; subst e; exact ⟨rfl, φ', hA', hR', hX', hN'⟩
        | exit id' =>
          simp only at e
          simp only [Ex.to, Exit.inBlock]
          cases hb : Nat.beq id' id with
          | true =>
            rw [hb] at e
            simp only [Option.some.injEq] at e
            subst e
            rw [if_pos (beq_iff hb)]
            exact ⟨rfl, φ', hA', hR', hX', hN'⟩
          | false =>
            rw [hb] at e
            simp only [Option.some.injEq] at e
            subst e
            rw [if_neg (fun h => by rw [h, Nat.beq_refl] at hb; cases hb)]
            exact ⟨rfl, φ', hA', hR', hX', hN'⟩
    | loop body => exact loop_of (hloop body T h r e φ a w hA hR hG)
    | scope body =>
      simp only [evC] at e
      refine wp_scope_straight (wp_mono (ih body T h r e φ a w hA hR hG) fun e' a' w' hp => ?_)
      obtain ⟨hex, φ', hA', hR', hX', hN'⟩ := hp
      obtain ⟨z, T1, s1⟩ := r
      subst hex
      cases z <;> exact ⟨rfl, φ', hA', hR', hX', hN'⟩

/-- The frame in which a function is entered. -/
theorem args0_look : ∀ (l : List Value) (i : Nat) (T : Tr Value) (t : Nat), look (args0 l i T) t = if i ≤ t ∧ t < i + l.length then l.getD (t - i) undef else look T t
  | [], i, T, t => by
    rw [if_neg (by intro h; simp at h; omega)]
    rfl
  | v :: l, i, T, t => by
    rw [args0, args0_look l (i + 1) _ t]
    by_cases h1 : i + 1 ≤ t ∧ t < i + 1 + l.length
    · rw [if_pos h1, if_pos (by simp; omega), show t - i = (t - (i + 1)) + 1 by omega]
      simp
    · rw [if_neg h1]
      by_cases h2 : t = i
      · subst h2
        rw [look_set_same, if_pos (by simp)]
        simp
      · rw [look_set_ne _ _ (Ne.symm h2), if_neg (by simp; omega)]
theorem VRs.getD {ν : Toks} {φ : Phi} {l l' : List Value} (h : VRs ν φ l l') (i : Nat) : VR ν φ (l.getD i undef) (l'.getD i undef) := by
  induction l generalizing l' i with
  | nil => cases h; simp; exact VR.undef_
  | cons v l ih => cases h with | cons h t => cases i with
    | zero => simpa using h
    | succ i => simpa using ih t i
theorem enter_frame {ν : Toks} {φ : Phi} {l l' : List Value} {n : Nat} (h : VRs ν φ l l') (hn : l.length ≤ n) :
    Ar ν φ n (args0 l 0 .nil) { tmps := (⟨l'⟩ : Array Value) ++ Array.replicate (n - (⟨l'⟩ : Array Value).size) undef, defers := [] } := by
  have hl := h.length
  refine ⟨by simp; omega, fun t => ?_, rfl⟩
  rw [args0_look]
  simp only [Array.getD_eq_getD_getElem?]
  by_cases ht : t < l.length
  · rw [if_pos (by omega), Array.getElem?_append_left (by simp; omega)]
    have := h.getD t
    simpa [List.getD] using this
  · rw [if_neg (by omega), Array.getElem?_append_right (by simp; omega)]
    have : look (.nil : Tr Value) t = undef := by
      have : ∀ p : Pz, (Tr.nil : Tr Value).get p = none := by
        intro p
        induction p with
        | h => rfl
        | o p ih => exact ih
        | i p ih => exact ih
      simp [look, Tr.at_, this]
    rw [this]
    by_cases h2 : t - l'.length < n - l'.length
    · simp [h2]; exact VR.undef_
    · simp [h2]; exact VR.undef_
def resOne (tmps : Array Value) : ResultVar → Sem Value
  | .tmp t => pure (tmps.getD t undef)
  | .cell a t => do loadVar t (← asAddr (tmps.getD a undef))
theorem results_eq (fn : Func) (tmps : Array Value) : results fn tmps = (do let vs ← fn.results.mapM (resOne tmps); pure (if h : vs.size = 1 then vs[0] else .tuple vs)) := by
  unfold results
  congr 1
theorem res_sound {φ : Phi} {s : Hp} {w : World} {n : Nat} {T : Tr Value} {a : Act} (hR : Rw P G W0 ν φ s w) (hA : Ar ν φ n T a) : ∀ {l : List ResultVar} {vs : List Value}, resB P s.t T l = some vs →
    ∃ vs', (l.mapM (resOne a.tmps)).run P w = .ok vs' w ∧ VRs ν φ vs vs'
  | [], vs, h => by simp only [resB, Option.some.injEq] at h; subst h; exact ⟨[], by simp [List.mapM_nil], .nil⟩
  | .tmp t :: l, vs, h => by
    simp only [resB, Option.map_eq_some_iff] at h
    obtain ⟨us, h1, rfl⟩ := h
    obtain ⟨us', h2, h3⟩ := res_sound hR hA h1
    exact ⟨_ :: us', by simp [List.mapM_cons, resOne, h2], .cons (hA.tmps t) h3⟩
  | .cell x t :: l, vs, h => by
    simp only [resB] at h
    split at h <;> try (cases h; done)
    rename_i v us h0 h1
    simp only [Option.some.injEq] at h
    subst h
    obtain ⟨us', h2, h3⟩ := res_sound hR hA h1
    obtain ⟨v', h4, h5⟩ := load_sound hR (hA.tmps x) h0
    refine ⟨v' :: us', ?_, .cons h5 h3⟩
    have h6 : (resOne a.tmps (.cell x t)).run P w = .ok v' w := by
      have hp := hA.tmps x
      obtain ⟨u, hu⟩ : ∃ u, a.tmps.getD x undef = u := ⟨_, rfl⟩
      simp only [resOne]
      rw [hu] at h4 hp ⊢
      cases hl : look T x <;> rw [hl] at h0 hp <;> try (cases h0; done)
      cases hp
      · cases h0
      · simp only [Instr.loadAt, Instr.sureAddr, Sem.run_bind, Sem.run_pure, Result.andThen_ok] at h4
        simp only [asAddr, Sem.run_bind, Sem.run_pure, Result.andThen_ok]
        exact h4
    simp only [List.mapM_cons, Sem.run_bind, h6, Result.andThen_ok, h2, Sem.run_pure]
/-- THE RUN OF A CALL, by the tree, is what the machine does. -/
theorem evF_sound {sy : Sy} (hsy : SyOK P ν sy) {draw : Nat → Nat → CallB → DrawB} {k : Nat} (hd : ∀ n call, CallOK P G W0 ν call → DrawOK P G W0 ν n (draw G n call)) : ∀ f, CallOK P G W0 ν (evF P sy G draw k f)
  | 0 => fun g args s v h' e => by simp [evF] at e
  | f + 1 => by
    intro g args s v h' e φ w args' hargs hR hG
    have ih := evF_sound (k := k) hsy hd f
    simp only [evF] at e
    cases hfn : P.funcs[g]? with
    | none => rw [hfn] at e; cases e
    | some fn =>
    rw [hfn] at e
    simp only at e
    cases hb : fn.body with
    | none => rw [hb] at e; cases e
    | some c =>
    rw [hb] at e
    simp only at e
    cases hle : Nat.ble args.length fn.ntmps with
    | false => rw [hle] at e; cases e
    | true =>
    rw [hle] at e
    simp only at e
    cases hc : evC P sy G fn.ntmps (evF P sy G draw k f) (draw G fn.ntmps (evF P sy G draw k f)) k c (args0 args 0 .nil) s with
    | none => rw [hc] at e; cases e
    | some r =>
    obtain ⟨x, T, s1⟩ := r
    rw [hc] at e
    have hfin : ∀ a' w' φ', x ≠ .exit 0 ∨ True → Ar ν φ' fn.ntmps T a' → Rw P G W0 ν φ' s1 w' → (match resB P s1.t T fn.results.toList with
      | some vs => some (packB vs, s1)
      | none => none) = some (v, h') → ∃ u, (results fn a'.tmps).run P w' = .ok u w' ∧ VR ν φ' v u ∧ h' = s1 := by
      intro a' w' φ' _ hA' hR' e
      split at e <;> try (cases e; done)
      rename_i vs hvs
      simp only [Option.some.injEq, Prod.mk.injEq] at e
      obtain ⟨rfl, rfl⟩ := e
      obtain ⟨vs', h1, h2⟩ := res_sound hR' hA' hvs
      refine ⟨if h : (⟨vs'⟩ : Array Value).size = 1 then (⟨vs'⟩ : Array Value)[0] else .tuple ⟨vs'⟩, ?_, ?_, rfl⟩
      · rw [results_eq]
        have : (fn.results.mapM (resOne a'.tmps)).run P w' = .ok ⟨vs'⟩ w' := by
          rw [Array.mapM_eq_mapM_toList, Sem.run_map, h1]
          rfl
        simp only [Sem.run_bind, this, Result.andThen_ok, Sem.run_pure]
      · cases h2 with
        | nil => exact .tuple .nil
        | cons h t =>
          cases t with
          | nil => exact h
          | cons h' t' =>
            rw [dif_neg (by simp)]
            exact .tuple (.cons h (.cons h' t'))
    refine calls_of_wp hfn hb (wp_mono ((code_sound hsy ih (hd _ _ ih) k).1 c _ s _ hc φ _ w (enter_frame hargs (ble_iff hle)) hR hG) fun e' a' w' hp => ?_)
    obtain ⟨hex, φ', hA', hR', hX', hN'⟩ := hp
    subst hex
    cases x with
    | exit id => cases e
    | normal =>
      obtain ⟨u, h1, h2, rfl⟩ := hfin a' w' φ' (.inr trivial) hA' hR' e
      exact ⟨hA'.defers, u, h1, u, rfl, φ', h2, hR', hX', hN'⟩
    | ret =>
      obtain ⟨u, h1, h2, rfl⟩ := hfin a' w' φ' (.inr trivial) hA' hR' e
      exact ⟨hA'.defers, u, h1, u, rfl, φ', h2, hR', hX', hN'⟩
end
end Go.Eva
