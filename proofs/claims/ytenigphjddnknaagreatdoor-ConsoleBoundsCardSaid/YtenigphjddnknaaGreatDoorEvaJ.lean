/-
  A run of a closed call: a body's code, and calls. No program in sight.
-/
import Derived.Test.YtenigphjddnknaaGreatDoorEvaY
import Derived.Defers
namespace Go.Eva
open Go Go.RowKit Go.Mix Go.Viv

section
variable {P : Program} {G : Nat} {W0 : Begin} {ν : Toks}

/-- Where the run of a piece of code ends. -/
def Ex.to : Ex → Exit
  | .normal => .normal
  | .exit id => .exit id
  | .ret => .ret
/-- What holds behind a piece of code. -/
structure PostC (P : Program) (G : Nat) (W0 : Begin) (ν : Toks) (n : Nat) (D : List Deferred) (φ : Phi) (s : Hp) (r : Ex × Tr Value × Hp) (e : Exit) (a : Act) (w : World) : Prop where
  ex : e = r.1.to
  post : ∃ φ', ArD ν φ' n D r.2.1 a ∧ Rw P G W0 ν φ' r.2.2 w ∧ Ext s.next φ φ' ∧ s.next ≤ r.2.2.next
theorem PostC.from {n : Nat} {D : List Deferred} {φ φ1 : Phi} {s s1 : Hp} {r : Ex × Tr Value × Hp} {e : Exit} {a : Act} {w : World} (h : PostC P G W0 ν n D φ1 s1 r e a w) (hx : Ext s.next φ φ1) (hs : s.next ≤ s1.next) : PostC P G W0 ν n D φ s r e a w := by
  obtain ⟨h1, φ', h2, h3, h4, h5⟩ := h
  exact ⟨h1, φ', h2, h3, hx.trans h4 hs, Nat.le_trans hs h5⟩
def CodeOK (P : Program) (G : Nat) (W0 : Begin) (ν : Toks) (n : Nat) (c : Code) (T : Tr Value) (h : Hp) (r : Ex × Tr Value × Hp) : Prop :=
  ∀ {D : List Deferred} φ a w, ArD ν φ n D T a → Rw P G W0 ν φ h w → G ≤ h.next → c.wp P (PostC P G W0 ν n D φ h r) a w
def DrawOK (P : Program) (G : Nat) (W0 : Begin) (ν : Toks) (n : Nat) (draw : DrawB) : Prop :=
  ∀ ops T h r, draw ops T h = some r → ∀ id, CodeOK P G W0 ν n (.region id ops true) T h (.normal, r.1, r.2)
theorem seq_ops {sy : Sy} {call : CallB} (hsy : SyOK P W0 ν sy) (hc : CallOK P G W0 ν call) {n : Nat} {ops : Array Oper} {D : List Deferred} {js : List Nat} : ∀ (l tl : List Oper) (k : Nat) (T : Tr Value) (h : Hp) (r : Tr Value × Hp), evSeq P sy G n call ops.toList l T h = some r → ops.toList.drop k = l ++ tl →
    ∀ φ a w, ArD ν φ n D T a → Rw P G W0 ν φ h w → G ≤ h.next → ∀ Q : Exit → Act → World → Prop, (∀ φ' a w, ArD ν φ' n D r.1 a → Rw P G W0 ν φ' r.2 w → Ext h.next φ φ' → h.next ≤ r.2.next → wpOps P ops Q js a w) → wpOps P ops Q (List.range' k l.length ++ js) a w
  | [], tl, k, T, h, r, e, _, φ, a, w, hA, hR, hG, Q, hQ => by
    simp only [evSeq, Option.some.injEq] at e
    subst e
    exact hQ φ a w hA hR (Ext.refl _ _) (Nat.le_refl _)
  | o :: l, tl, k, T, h, r, e, hd, φ, a, w, hA, hR, hG, Q, hQ => by
    have ho : ops[k]? = some o := by
      have := congrArg (·[0]?) hd
      simpa using this
    have hd' : ops.toList.drop (k + 1) = l ++ tl := by
      have := congrArg List.tail hd
      simpa using this
    simp only [List.length_cons, List.range'_succ, List.cons_append]
    rw [wpOps_cons]
    unfold wpOp
    simp only [ho]
    simp only [evSeq] at e
    split at e <;> try (cases e; done)
    · rename_i hw
      rw [wanted_sound hA hw]
      simp only [if_true]
      split at e <;> try (cases e; done)
      rename_i v h1 hop
      refine .inl (op_sound hsy hc hR hG (fun x => evl_sound hR hA x) hop _ _ fun v' w' hst => ?_)
      obtain ⟨φ', s1, s2, s3, s4⟩ := hst
      split at e
      · split at e <;> try (cases e; done)
        rename_i T1 hput
        have hA' := (hA.ext (hR.up (Nat.le_refl _) s3)).put s1 hput
        exact seq_ops hsy hc l tl (k + 1) T1 h1 r e hd' φ' _ w' hA' s2 (Nat.le_trans hG s4) Q (fun φ2 a w q1 q2 q3 q4 => hQ φ2 a w q1 q2 (s3.trans q3 s4) (Nat.le_trans s4 q4))
      · rename_i c hfk
        obtain ⟨_, rfl, ht⟩ := fkT_tok hfk
        split at e <;> try (cases e; done)
        rename_i T1 T2 hp1 hp2
        split at e <;> try (cases e; done)
        rename_i Ta ha Tb hb e1 e2
        cases e
        obtain ⟨bb, hc'⟩ := test_ok hsy s2.frame ht
        have hv' : v' = .bool bb := by cases s1; exact hc'
        subst hv'
        cases bb with
        | true =>
          have hA' := (hA.ext (hR.up (Nat.le_refl _) s3)).put (VR.bool true) hp1
          exact seq_ops hsy hc l tl (k + 1) T1 h1 _ e1 hd' φ' _ w' hA' s2 (Nat.le_trans hG s4) Q (fun φ2 a w q1 q2 q3 q4 => hQ φ2 a w (ArD.join (bb := true) hsy q2.frame hc' q1) (Rw.join (bb := true) hsy hc' q2) (s3.trans q3 s4) (Nat.le_trans (Nat.le_trans s4 q4) (mxn_l _ _)))
        | false =>
          have hA' := (hA.ext (hR.up (Nat.le_refl _) s3)).put (VR.bool false) hp2
          exact seq_ops hsy hc l tl (k + 1) T2 h1 _ e2 hd' φ' _ w' hA' s2 (Nat.le_trans hG s4) Q (fun φ2 a w q1 q2 q3 q4 => hQ φ2 a w (ArD.join (bb := false) hsy q2.frame hc' q1) (Rw.join (bb := false) hsy hc' q2) (s3.trans q3 s4) (Nat.le_trans (Nat.le_trans s4 q4) (mxn_r _ _)))
    · rename_i hw
      rw [wanted_sound hA hw]
      simp only [Bool.false_eq_true, if_false]
      split at e <;> try (cases e; done)
      rename_i T1 hput
      exact seq_ops hsy hc l tl (k + 1) T1 h r e hd' φ _ w (hA.put VR.undef_ hput) hR hG Q hQ
theorem seq_sound {sy : Sy} {call : CallB} (hsy : SyOK P W0 ν sy) (hc : CallOK P G W0 ν call) {n : Nat} {ops : Array Oper} {T : Tr Value} {h : Hp} {T1 : Tr Value} {h1 : Hp} (e : evSeq P sy G n call ops.toList ops.toList T h = some (T1, h1)) (id : Nat) :
    CodeOK P G W0 ν n (.region id ops false) T h (.normal, T1, h1) := by
  intro D φ a w hA hR hG
  refine wp_region ?_
  have := seq_ops (js := []) hsy hc ops.toList [] 0 T h (T1, h1) e (by simp) φ a w hA hR hG (PostC P G W0 ν n D φ h (.normal, T1, h1)) (fun φ' a w q1 q2 q3 q4 => ⟨rfl, φ', q1, q2, q3, q4⟩)
  rw [List.range_eq_range']
  simpa using this
/-- A loop, from its second round on. -/
def LoopWp (P : Program) (c : Code) (Q : Exit → Act → World → Prop) (a : Act) (w : World) : Prop :=
  ∀ (b : Frame) (k : List Item) (cs : List Frame), ∃ e a' w', Q e a' w' ∧ Arrives P (lone (b.at a (.code c :: .inLoop c :: k)) cs w) b k cs e a' w'
theorem loop_of {c : Code} {Q : Exit → Act → World → Prop} {a : Act} {w : World} (h : LoopWp P c Q a w) : (Code.loop c).wp P Q a w := fun b k cs =>
  let ⟨e, a', w', q, r⟩ := h b k cs; ⟨e, a', w', q, .of_steps (.one step_loop) r⟩
theorem loop_round {c : Code} {Q : Exit → Act → World → Prop} {a : Act} {w : World} (h : c.wp P (Exit.then (LoopWp P c Q) Q) a w) : LoopWp P c Q a w := by
  intro b k cs
  obtain ⟨e, a₁, w₁, hq, harr⟩ := h b (.inLoop c :: k) cs
  cases e with
  | normal =>
    obtain ⟨e₂, a₂, w₂, hq₂, harr₂⟩ := hq b k cs
    exact ⟨e₂, a₂, w₂, hq₂, .of_steps (Steps.trans harr (.one step_inLoop)) harr₂⟩
  | exit id => exact ⟨_, a₁, w₁, hq, .pass (x := .inLoop c) rfl (fun _ _ => .inl (by simp)) harr⟩
  | goto l => exact ⟨_, a₁, w₁, hq, .pass (x := .inLoop c) rfl (fun _ _ => .inl (by simp)) harr⟩
  | ret => exact ⟨_, a₁, w₁, hq, .pass (x := .inLoop c) rfl (fun _ _ => .inl (by simp)) harr⟩
  | panic ch => exact ⟨_, a₁, w₁, hq, .pass (x := .inLoop c) rfl (fun _ _ => .inl (by simp)) harr⟩
  | outgrown => exact ⟨_, a₁, w₁, hq, .pass (x := .inLoop c) rfl (fun _ _ => .inl (by simp)) harr⟩
/-- A loop's body, run by the tree, from any state. -/
def LoopOK (P : Program) (G : Nat) (W0 : Begin) (ν : Toks) (n : Nat) (c : Code) (T : Tr Value) (h : Hp) (r : Ex × Tr Value × Hp) : Prop :=
  ∀ {D : List Deferred} φ a w, ArD ν φ n D T a → Rw P G W0 ν φ h w → G ≤ h.next → LoopWp P c (PostC P G W0 ν n D φ h r) a w

theorem code_sound {sy : Sy} (hsy : SyOK P W0 ν sy) {n : Nat} {call : CallB} {draw : DrawB} (hc : CallOK P G W0 ν call) (hd : DrawOK P G W0 ν n draw) : ∀ (f : Nat),
    (∀ c T h r, evC P sy G n call draw f c T h = some r → CodeOK P G W0 ν n c T h r) ∧ (∀ c T h r, evC P sy G n call draw f (.loop c) T h = some r → LoopOK P G W0 ν n c T h r)
  | 0 => ⟨fun c T h r e => by simp [evC] at e, fun c T h r e => by simp [evC] at e⟩
  | f + 1 => by
    obtain ⟨ih, ihl⟩ := code_sound hsy hc hd f
    have hloop : ∀ c T h r, evC P sy G n call draw (f + 1) (.loop c) T h = some r → LoopOK P G W0 ν n c T h r := by
      intro c T h r e D φ a w hA hR hG
      simp only [evC] at e
      refine loop_round ?_
      cases e1 : evC P sy G n call draw f c T h with
      | none => rw [e1] at e; cases e
      | some r1 =>
        rw [e1] at e
        have h1 := ih c T h r1 e1 φ a w hA hR hG
        obtain ⟨x, T1, s1⟩ := r1
        refine wp_mono h1 fun e' a' w' hp => ?_
        obtain ⟨hex, φ', hA', hR', hX', hN'⟩ := hp
        subst hex
        cases x with
        | normal =>
          simp only at e
          simp only [Ex.to, Exit.then]
          have h2 := ihl c T1 s1 r e φ' a' w' hA' hR' (Nat.le_trans hG hN')
          intro b k cs
          obtain ⟨e2, a2, w2, q, arr⟩ := h2 b k cs
          exact ⟨e2, a2, w2, q.from hX' hN', arr⟩
        | exit id =>
          simp only [Option.some.injEq] at e
          subst e
          exact ⟨rfl, φ', hA', hR', hX', hN'⟩
        | ret =>
          simp only [Option.some.injEq] at e
          subst e
          exact ⟨rfl, φ', hA', hR', hX', hN'⟩
    refine ⟨fun c T h r e => ?_, hloop⟩
    intro D φ a w hA hR hG
    have here : ∀ x, PostC P G W0 ν n D φ h (x, T, h) x.to a w := fun x => ⟨rfl, φ, hA, hR, Ext.refl _ _, Nat.le_refl _⟩
    cases c with
    | skip => simp only [evC, Option.some.injEq] at e; subst e; exact wp_skip (here .normal)
    | label l => simp only [evC, Option.some.injEq] at e; subst e; exact wp_label (here .normal)
    | exit id => simp only [evC, Option.some.injEq] at e; subst e; exact wp_exit (here (.exit id))
    | ret => simp only [evC, Option.some.injEq] at e; subst e; exact wp_ret (here .ret)
    | goto l => simp [evC] at e
    | refuse y => simp [evC] at e
    | rangeFunc f' p' a' b' => simp [evC] at e
    | region id ops draw_ =>
      cases draw_ with
      | false =>
        simp only [evC] at e
        split at e <;> try cases e
        rename_i T1 s1 e1
        exact seq_sound hsy hc e1 id φ a w hA hR hG
      | true =>
        simp only [evC] at e
        split at e <;> try cases e
        rename_i T1 s1 e1
        exact hd ops T h _ e1 id φ a w hA hR hG
    | seq x y =>
      simp only [evC] at e
      cases e1 : evC P sy G n call draw f x T h with
      | none => rw [e1] at e; cases e
      | some r1 =>
        rw [e1] at e
        obtain ⟨z, T1, s1⟩ := r1
        refine wp_seq (wp_mono (ih x T h _ e1 φ a w hA hR hG) fun e' a' w' hp => ?_)
        obtain ⟨hex, φ', hA', hR', hX', hN'⟩ := hp
        subst hex
        cases z with
        | normal =>
          simp only at e
          simp only [Ex.to, Exit.then]
          exact wp_mono (ih y T1 s1 r e φ' a' w' hA' hR' (Nat.le_trans hG hN')) fun e2 a2 w2 q => q.from hX' hN'
        | exit id => simp only [Option.some.injEq] at e; subst e; exact ⟨rfl, φ', hA', hR', hX', hN'⟩
        | ret => simp only [Option.some.injEq] at e; subst e; exact ⟨rfl, φ', hA', hR', hX', hN'⟩
    | cond x y z =>
      simp only [evC] at e
      have hv := evl_sound hR hA x
      cases hx : evl G T x <;> rw [hx] at e hv <;> try (cases e; done)
      · rename_i b
        have hv' : a.eval x = .bool b := by
          generalize a.eval x = u at hv
          cases hv
          rfl
        cases b with
        | true => exact wp_cond_true hv' (ih y T h r e φ a w hA hR hG)
        | false => exact wp_cond_false hv' (ih z T h r e φ a w hA hR hG)
      · rename_i c
        cases c with
        | none => cases e
        | some c =>
          have hv' : a.eval x = ν.v c := by
            generalize a.eval x = u at hv
            cases hv
            rfl
          simp only at e
          split at e <;> try (cases e; done)
          rename_i T1 s1 T2 s2 ht e1 e2
          cases e
          obtain ⟨bb, hc'⟩ := test_ok hsy hR.frame ht
          rw [hc'] at hv'
          cases bb with
          | true =>
            refine wp_cond_true hv' (wp_mono (ih y T h _ e1 φ a w hA hR hG) fun e' a' w' hp => ?_)
            obtain ⟨hex, φ', hA', hR', hX', hN'⟩ := hp
            exact ⟨hex, φ', ArD.join (bb := true) hsy hR'.frame hc' hA', Rw.join (bb := true) hsy hc' hR', hX', Nat.le_trans hN' (mxn_l _ _)⟩
          | false =>
            refine wp_cond_false hv' (wp_mono (ih z T h _ e2 φ a w hA hR hG) fun e' a' w' hp => ?_)
            obtain ⟨hex, φ', hA', hR', hX', hN'⟩ := hp
            exact ⟨hex, φ', ArD.join (bb := false) hsy hR'.frame hc' hA', Rw.join (bb := false) hsy hc' hR', hX', Nat.le_trans hN' (mxn_r _ _)⟩
    | block id body =>
      simp only [evC] at e
      cases e1 : evC P sy G n call draw f body T h with
      | none => rw [e1] at e; cases e
      | some r1 =>
        rw [e1] at e
        obtain ⟨z, T1, s1⟩ := r1
        refine wp_block (wp_mono (ih body T h _ e1 φ a w hA hR hG) fun e' a' w' hp => ?_)
        obtain ⟨hex, φ', hA', hR', hX', hN'⟩ := hp
        subst hex
        cases z with
        | normal => simp only [Option.some.injEq] at e; subst e; exact ⟨rfl, φ', hA', hR', hX', hN'⟩
        | ret => simp only [Option.some.injEq] at e; subst e; exact ⟨rfl, φ', hA', hR', hX', hN'⟩
        | exit id' =>
          simp only at e
          simp only [Ex.to, Exit.inBlock]
          cases hb : Nat.beq id' id with
          | true =>
            rw [hb] at e
            simp only [Option.some.injEq] at e
            subst e
            rw [if_pos (beq_iff hb)]
            exact ⟨rfl, φ', hA', hR', hX', hN'⟩
          | false =>
            rw [hb] at e
            simp only [Option.some.injEq] at e
            subst e
            rw [if_neg (fun h => by rw [h, Nat.beq_refl] at hb; cases hb)]
            exact ⟨rfl, φ', hA', hR', hX', hN'⟩
    | loop body => exact loop_of (hloop body T h r e φ a w hA hR hG)
    | scope body =>
      simp only [evC] at e
      refine wp_scope_straight (wp_mono (ih body T h r e φ a w hA hR hG) fun e' a' w' hp => ?_)
      obtain ⟨hex, φ', hA', hR', hX', hN'⟩ := hp
      obtain ⟨z, T1, s1⟩ := r
      subst hex
      cases z <;> exact ⟨rfl, φ', hA', hR', hX', hN'⟩

/-- The frame in which a function is entered. -/
theorem args0_look : ∀ (l : List Value) (i : Nat) (T : Tr Value) (t : Nat), look (args0 l i T) t = if i ≤ t ∧ t < i + l.length then l.getD (t - i) undef else look T t
  | [], i, T, t => by
    rw [if_neg (by intro h; simp at h; omega)]
    rfl
  | v :: l, i, T, t => by
    rw [args0, args0_look l (i + 1) _ t]
    by_cases h1 : i + 1 ≤ t ∧ t < i + 1 + l.length
    · rw [if_pos h1, if_pos (by simp; omega), show t - i = (t - (i + 1)) + 1 by omega]
      simp
    · rw [if_neg h1]
      by_cases h2 : t = i
      · subst h2
        rw [look_set_same, if_pos (by simp)]
        simp
      · rw [look_set_ne _ _ (Ne.symm h2), if_neg (by simp; omega)]
theorem VRs.getD {ν : Toks} {φ : Phi} {l l' : List Value} (h : VRs ν φ l l') (i : Nat) : VR ν φ (l.getD i undef) (l'.getD i undef) := by
  induction l generalizing l' i with
  | nil => cases h; simp; exact VR.undef_
  | cons v l ih => cases h with | cons h t => cases i with
    | zero => simpa using h
    | succ i => simpa using ih t i
theorem enter_frame {ν : Toks} {φ : Phi} {l l' : List Value} {n : Nat} (h : VRs ν φ l l') (hn : l.length ≤ n) :
    Ar ν φ n (args0 l 0 .nil) { tmps := (⟨l'⟩ : Array Value) ++ Array.replicate (n - (⟨l'⟩ : Array Value).size) undef, defers := [] } := by
  have hl := h.length
  refine ⟨by simp; omega, fun t => ?_, rfl⟩
  rw [args0_look]
  simp only [Array.getD_eq_getD_getElem?]
  by_cases ht : t < l.length
  · rw [if_pos (by omega), Array.getElem?_append_left (by simp; omega)]
    have := h.getD t
    simpa [List.getD] using this
  · rw [if_neg (by omega), Array.getElem?_append_right (by simp; omega)]
    have : look (.nil : Tr Value) t = undef := by
      have : ∀ p : Pz, (Tr.nil : Tr Value).get p = none := by
        intro p
        induction p with
        | h => rfl
        | o p ih => exact ih
        | i p ih => exact ih
      simp [look, Tr.at_, this]
    rw [this]
    by_cases h2 : t - l'.length < n - l'.length
    · simp [h2]; exact VR.undef_
    · simp [h2]; exact VR.undef_
def resOne (tmps : Array Value) : ResultVar → Sem Value
  | .tmp t => pure (tmps.getD t undef)
  | .cell a t => do loadVar t (← asAddr (tmps.getD a undef))
theorem results_eq (fn : Func) (tmps : Array Value) : results fn tmps = (do let vs ← fn.results.mapM (resOne tmps); pure (if h : vs.size = 1 then vs[0] else .tuple vs)) := by
  unfold results
  congr 1
theorem res_sound {φ : Phi} {s : Hp} {w : World} {n : Nat} {D : List Deferred} {T : Tr Value} {a : Act} (hR : Rw P G W0 ν φ s w) (hA : ArD ν φ n D T a) : ∀ {l : List ResultVar} {vs : List Value}, resB P s.t T l = some vs →
    ∃ vs', (l.mapM (resOne a.tmps)).run P w = .ok vs' w ∧ VRs ν φ vs vs'
  | [], vs, h => by simp only [resB, Option.some.injEq] at h; subst h; exact ⟨[], by simp [List.mapM_nil], .nil⟩
  | .tmp t :: l, vs, h => by
    simp only [resB, Option.map_eq_some_iff] at h
    obtain ⟨us, h1, rfl⟩ := h
    obtain ⟨us', h2, h3⟩ := res_sound hR hA h1
    exact ⟨_ :: us', by simp [List.mapM_cons, resOne, h2], .cons (hA.tmps t) h3⟩
  | .cell x t :: l, vs, h => by
    simp only [resB] at h
    split at h <;> try (cases h; done)
    rename_i v us h0 h1
    simp only [Option.some.injEq] at h
    subst h
    obtain ⟨us', h2, h3⟩ := res_sound hR hA h1
    obtain ⟨v', h4, h5⟩ := load_sound hR (hA.tmps x) h0
    refine ⟨v' :: us', ?_, .cons h5 h3⟩
    have h6 : (resOne a.tmps (.cell x t)).run P w = .ok v' w := by
      have hp := hA.tmps x
      obtain ⟨u, hu⟩ : ∃ u, a.tmps.getD x undef = u := ⟨_, rfl⟩
      simp only [resOne]
      rw [hu] at h4 hp ⊢
      cases hl : look T x <;> rw [hl] at h0 hp <;> try (cases h0; done)
      cases hp
      · cases h0
      · simp only [Instr.loadAt, Instr.sureAddr, Sem.run_bind, Sem.run_pure, Result.andThen_ok] at h4
        simp only [asAddr, Sem.run_bind, Sem.run_pure, Result.andThen_ok]
        exact h4
    simp only [List.mapM_cons, Sem.run_bind, h6, Result.andThen_ok, h2, Sem.run_pure]
/-- What a body has deferred. -/
def DefR (ν : Toks) (φ : Phi) (d : Value) (D : List Deferred) : Prop :=
  (d = undef ∧ D = []) ∨ ∃ g l l', d = .func (.func g) ⟨l⟩ ⟨[]⟩ ∧ okFn P g = true ∧ VRs ν φ l l' ∧ D = [{ target := .fn (.func g) #[], args := ⟨l'⟩ }]
theorem DefR.ext {φ φ' : Phi} {d : Value} {D : List Deferred} (h : DefR (P := P) ν φ d D) (hx : ∀ B r, φ B = some r → φ' B = some r) : DefR (P := P) ν φ' d D := by
  rcases h with h | ⟨g, l, l', h1, h2, h3, h4⟩
  · exact .inl h
  · exact .inr ⟨g, l, l', h1, h2, h3.ext hx, h4⟩
def PostS (P : Program) (G : Nat) (W0 : Begin) (ν : Toks) (n : Nat) (φ : Phi) (s : Hp) (r : Ex × Tr Value × Hp × Value) (e : Exit) (a : Act) (w : World) : Prop :=
  e = r.1.to ∧ ∃ D φ', ArD ν φ' n D r.2.1 a ∧ Rw P G W0 ν φ' r.2.2.1 w ∧ DefR (P := P) ν φ' r.2.2.2 D ∧ Ext s.next φ φ' ∧ s.next ≤ r.2.2.1.next
theorem defOf_spec : ∀ {l : List Oper} {c : Call}, defOf l = some c → ∃ o, l = l.dropLast ++ [o] ∧ o.op = .defer c ∧ o.dst = none ∧ o.guard = none
  | [], c, h => by cases h
  | [o], c, h => by
    unfold defOf at h
    split at h <;> try (cases h; done)
    rename_i h1 h2 h3
    cases h
    exact ⟨o, rfl, h1, h2, h3⟩
  | _ :: o :: l, c, h => by
    obtain ⟨q, h1, h2⟩ := defOf_spec (l := o :: l) h
    exact ⟨q, by rw [List.dropLast_cons_cons, List.cons_append, ← h1], h2⟩
theorem spine_sound {sy : Sy} (hsy : SyOK P W0 ν sy) {n : Nat} {call : CallB} {draw : DrawB} (hc : CallOK P G W0 ν call) (hd : DrawOK P G W0 ν n draw) : ∀ (f : Nat) (c : Code) (T : Tr Value) (h : Hp) (d : Value) (r : Ex × Tr Value × Hp × Value), evS P sy G n call draw f c T h d = some r →
    ∀ D φ a w, ArD ν φ n D T a → DefR (P := P) ν φ d D → Rw P G W0 ν φ h w → G ≤ h.next → c.wp P (PostS P G W0 ν n φ h r) a w
  | 0, c, T, h, d, r, e => by simp [evS] at e
  | f + 1, c, T, h, d, r, e => by
    intro D φ a w hA hD hR hG
    have plain : ∀ x T' h', CodeOK P G W0 ν n c T h (x, T', h') → r = (x, T', h', d) → c.wp P (PostS P G W0 ν n φ h r) a w := fun x T' h' hok hr => by
      subst hr
      refine wp_mono (hok φ a w hA hR hG) fun e' a' w' hp => ?_
      obtain ⟨hex, φ', hA', hR', hX', hN'⟩ := hp
      exact ⟨hex, D, φ', hA', hR', hD.ext (hR.up (Nat.le_refl _) hX'), hX', hN'⟩
    have other : ∀ {o : Option (Ex × Tr Value × Hp × Value)}, (match evC P sy G n call draw (f + 1) c T h with | some (x, T', h') => some (x, T', h', d) | none => none) = o → o = some r → c.wp P (PostS P G W0 ν n φ h r) a w := fun e1 e2 => by
      rw [e2] at e1
      split at e1 <;> try (cases e1; done)
      rename_i x T' h' e3
      exact plain x T' h' ((code_sound hsy hc hd (f + 1)).1 c T h _ e3) (by cases e1; rfl)
    unfold evS at e
    split at e
    · rename_i x y
      split at e
      · rename_i T1 h1 d1 e1
        refine wp_seq (wp_mono (spine_sound hsy hc hd f x T h d _ e1 D φ a w hA hD hR hG) fun e' a' w' hp => ?_)
        obtain ⟨hex, D', φ', hA', hR', hD', hX', hN'⟩ := hp
        subst hex
        simp only [Ex.to, Exit.then]
        refine wp_mono (spine_sound hsy hc hd f y T1 h1 d1 r e D' φ' a' w' hA' hD' hR' (Nat.le_trans hG hN')) fun e2 a2 w2 q => ?_
        obtain ⟨q0, D2, φ2, q1, q2, q3, q4, q5⟩ := q
        exact ⟨q0, D2, φ2, q1, q2, q3, hX'.trans q4 hN', Nat.le_trans hN' q5⟩
      · rename_i hno
        cases e1 : evS P sy G n call draw f x T h d with
        | none => rw [e1] at e; cases e
        | some r1 =>
          rw [e1] at e
          obtain ⟨z, T1, h1, d1⟩ := r1
          simp only [Option.some.injEq] at e
          subst e
          refine wp_seq (wp_mono (spine_sound hsy hc hd f x T h d _ e1 D φ a w hA hD hR hG) fun e' a' w' hp => ?_)
          obtain ⟨hex, hp⟩ := hp
          subst hex
          cases z with
          | normal => exact absurd e1 (hno _ _ _)
          | exit id => exact ⟨rfl, hp⟩
          | ret => exact ⟨rfl, hp⟩
    · rename_i id ops
      split at e
      · rename_i c hdef
        split at e <;> try (cases e; done)
        rename_i T1 h1 e1
        split at e <;> try (cases e; done)
        rename_i v hv
        cases e
        obtain ⟨o, hl, ho1, ho2, ho3⟩ := defOf_spec hdef
        refine wp_region ?_
        have hlen : ops.size = ops.toList.dropLast.length + 1 := by
          have := congrArg List.length hl
          simpa using this
        have hat : ops[ops.toList.dropLast.length]? = some o := by
          have h0 : ops.toList[ops.toList.dropLast.length]? = some o := by
            rw [hl]
            simp
          simpa using h0
        have key := seq_ops (js := [ops.toList.dropLast.length]) hsy hc ops.toList.dropLast [o] 0 T h (T1, h1) e1 (by simpa using hl) φ a w hA hR hG (PostS P G W0 ν n φ h (.normal, T1, h1, v)) (fun φ' a w q1 q2 q3 q4 => by
          rw [wpOps_cons]
          unfold wpOp
          simp only [hat, Region.wanted, ho3]
          simp only [if_true]
          left
          unfold dfrB at hv
          split at hv <;> try (cases hv; done)
          rename_i g hcal
          split at hv <;> try (cases hv; done)
          rename_i hok
          cases hv
          have hD0 : D = [] := by
            rcases hD with ⟨_, h⟩ | ⟨_, _, _, h, _⟩
            · exact h
            · cases h
          have hargs : VRs ν φ' (c.args.toList.map (evl G T1)) (c.args.toList.map a.eval) := by
            have : ∀ l : List Operand, VRs ν φ' (l.map (evl G T1)) (l.map a.eval) := fun l => by
              induction l with
              | nil => exact .nil
              | cons x l ih => exact .cons (evl_sound q2 q1 x) ih
            exact this _
          unfold Oper.wp
          have hex : (execOp a.eval o).run P w = .ok (.defer { target := .fn (.func g) #[], args := ⟨c.args.toList.map a.eval⟩ }) w := by
            have hm : c.args.map a.eval = ⟨c.args.toList.map a.eval⟩ := by apply Array.ext'; simp
            simp only [execOp, ho1, resolve, hcal, hm, Act.eval, Deferred.ofValue, Sem.run_bind, Sem.run_pure, Result.andThen_ok]
            simp
          rw [hex]
          simp only [Oper.upon, ho2]
          refine ⟨rfl, [{ target := .fn (.func g) #[], args := ⟨c.args.toList.map a.eval⟩ }], φ', ⟨q1.size, q1.tmps, ?_⟩, q2, .inr ⟨g, _, _, rfl, hok, hargs, rfl⟩, q3, q4⟩
          have := q1.defers
          rw [hD0] at this
          simp [Act.put, this])
        rw [List.range_eq_range', hlen, List.range'_concat]
        simpa using key
      · split at e <;> try (cases e; done)
        rename_i T1 h1 e1
        cases e
        exact plain _ _ _ (seq_sound hsy hc e1 id) rfl
    · rename_i hn1 hn2
      exact other rfl e
/-- A table tells what its calls come to. -/
def TbOK (P : Program) (G : Nat) (W0 : Begin) (ν : Toks) (tb : Tb) : Prop :=
  ∀ f c, tb.at_ f = some c → ∀ args s v h', c args s = some (v, h') → ∀ φ w args', VRs ν φ args args' → Rw P G W0 ν φ s w → G ≤ s.next → Calls P f ⟨args'⟩ w (CallPost P G W0 ν φ s v h')
theorem end_sound {n : Nat} {D : List Deferred} {φ : Phi} {fn : Func} {T : Tr Value} {s1 : Hp} {a : Act} {w : World} {v : Value} {h' : Hp} (_hn : fn.ntmps = n) (hA : ArD ν φ n D T a) (hR : Rw P G W0 ν φ s1 w) (e : evEnd P fn T s1 = some (v, h')) : ∃ u, (results fn a.tmps).run P w = .ok u w ∧ VR ν φ v u ∧ h' = s1 := by
  unfold evEnd at e
  split at e <;> try (cases e; done)
  rename_i vs hvs
  simp only [Option.some.injEq, Prod.mk.injEq] at e
  obtain ⟨rfl, rfl⟩ := e
  obtain ⟨vs', h1, h2⟩ := res_sound hR hA hvs
  refine ⟨if h : (⟨vs'⟩ : Array Value).size = 1 then (⟨vs'⟩ : Array Value)[0] else .tuple ⟨vs'⟩, ?_, ?_, rfl⟩
  · rw [results_eq]
    have : (fn.results.mapM (resOne a.tmps)).run P w = .ok ⟨vs'⟩ w := by
      rw [Array.mapM_eq_mapM_toList, Sem.run_map, h1]
      rfl
    simp only [Sem.run_bind, this, Result.andThen_ok, Sem.run_pure]
  · cases h2 with
    | nil => exact .tuple .nil
    | cons h t =>
      cases t with
      | nil => exact h
      | cons h' t' =>
        rw [dif_neg (by simp)]
        exact .tuple (.cons h (.cons h' t'))
theorem body_sound {sy : Sy} (hsy : SyOK P W0 ν sy) {k : Nat} {call : CallB} {draw : Nat → DrawB} (hc : CallOK P G W0 ν call) (hd : ∀ n, DrawOK P G W0 ν n (draw n)) {g : FuncId} {args args' : List Value} {s : Hp} {fn : Func} {T : Tr Value} {h1 : Hp} {d : Value}
    (e : evBody P sy G k call draw g args s = some (fn, T, h1, d)) {φ : Phi} {w : World} (hargs : VRs ν φ args args') (hR : Rw P G W0 ν φ s w) (hG : G ≤ s.next) :
    ∃ c, P.funcs[g]? = some fn ∧ fn.body = some c ∧ c.wp P (fun e a w => (e = .normal ∨ e = .ret) ∧ ∃ D φ', ArD ν φ' fn.ntmps D T a ∧ Rw P G W0 ν φ' h1 w ∧ DefR (P := P) ν φ' d D ∧ Ext s.next φ φ' ∧ s.next ≤ h1.next) { tmps := (⟨args'⟩ : Array Value) ++ Array.replicate (fn.ntmps - (⟨args'⟩ : Array Value).size) undef, defers := [] } w := by
  unfold evBody at e
  split at e <;> try (cases e; done)
  rename_i fn' hfn
  split at e <;> try (cases e; done)
  rename_i c hb
  split at e <;> try (cases e; done)
  rename_i hle
  split at e <;> try (cases e; done)
  rename_i x T' h' d' hno hs
  cases e
  refine ⟨c, hfn, hb, wp_mono (spine_sound hsy hc (hd _) k c _ s _ _ hs [] φ _ w (enter_frame hargs (ble_iff hle)) (.inl ⟨rfl, rfl⟩) hR hG) fun e' a' w' hp => ?_⟩
  obtain ⟨hex, hp⟩ := hp
  subst hex
  cases x with
  | exit id => exact absurd rfl (hno id)
  | normal => exact ⟨.inl rfl, hp⟩
  | ret => exact ⟨.inr rfl, hp⟩
/-- A deferred call. -/
theorem plain_sound {sy : Sy} (hsy : SyOK P W0 ν sy) {k : Nat} {call : CallB} {draw : Nat → DrawB} (hc : CallOK P G W0 ν call) (hd : ∀ n, DrawOK P G W0 ν n (draw n)) {g : FuncId} {args args' : List Value} {s : Hp} {v : Value} {h2 : Hp}
    (e : evPlain P sy G k call draw g args s = some (v, h2)) {φ : Phi} {w : World} (u : FrameMode) (hargs : VRs ν φ args args') (hR : Rw P G W0 ν φ s w) (hG : G ≤ s.next) :
    CallsD P g ⟨args'⟩ u w fun e u' w' => u' = u ∧ CallPost P G W0 ν φ s v h2 e w' := by
  unfold evPlain at e
  split at e <;> try (cases e; done)
  rename_i fn T h1 d he
  obtain ⟨c, hfn, hb, hwp⟩ := body_sound hsy hc hd he hargs hR hG
  split at e <;> try (cases e; done)
  refine callsD_of_wp hfn hb (wp_mono hwp fun e' a' w' hp => ?_)
  obtain ⟨hex, D, φ', hA', hR', hD', hX', hN'⟩ := hp
  obtain ⟨u', q1, q2, rfl⟩ := end_sound rfl hA' hR' e
  have hD0 : D = [] := by
    rcases hD' with ⟨_, h⟩ | ⟨_, _, _, h, _⟩
    · exact h
    · cases h
  have hdf := hA'.defers.trans hD0
  rcases hex with rfl | rfl
  · exact ⟨hdf, u', q1, u', rfl, φ', q2, hR', hX', hN'⟩
  · exact ⟨hdf, u', q1, u', rfl, φ', q2, hR', hX', hN'⟩
/-- THE RUN OF A CALL, by the tree, is what the machine does. -/
theorem evF_sound {sy : Sy} {tb : Tb} (hsy : SyOK P W0 ν sy) (htb : TbOK P G W0 ν tb) {draw : Nat → Nat → CallB → DrawB} {k : Nat} (hd : ∀ n call, CallOK P G W0 ν call → DrawOK P G W0 ν n (draw G n call)) : ∀ f, CallOK P G W0 ν (evF P sy tb G draw k f)
  | 0 => fun g args s v h' e => by simp [evF] at e
  | f + 1 => by
    intro g args s v h' e φ w args' hargs hR hG
    have ih := evF_sound (k := k) hsy htb hd f
    simp only [evF] at e
    cases ht : tb.at_ g with
    | some c =>
      rw [ht] at e
      exact htb g c ht args s v h' e φ w args' hargs hR hG
    | none =>
    rw [ht] at e
    simp only at e
    split at e <;> try (cases e; done)
    rename_i fn T h1 d he
    obtain ⟨c, hfn, hb, hwp⟩ := body_sound hsy ih (fun n => hd n _ ih) he hargs hR hG
    split at e <;> try (cases e; done)
    · refine calls_of_wp hfn hb (wp_mono hwp fun e' a' w' hp => ?_)
      obtain ⟨hex, D, φ', hA', hR', hD', hX', hN'⟩ := hp
      obtain ⟨u', q1, q2, rfl⟩ := end_sound rfl hA' hR' e
      have hD0 : D = [] := by
        rcases hD' with ⟨_, h⟩ | ⟨_, _, _, h, _⟩
        · exact h
        · cases h
      have hdf := hA'.defers.trans hD0
      rcases hex with rfl | rfl
      · exact ⟨hdf, u', q1, u', rfl, φ', q2, hR', hX', hN'⟩
      · exact ⟨hdf, u', q1, u', rfl, φ', q2, hR', hX', hN'⟩
    · rename_i g2 a2
      split at e <;> try (cases e; done)
      rename_i v2 h2 he2
      refine calls_of_wp_defers hfn hb (wp_mono hwp fun e' a' w' hp => ?_)
      obtain ⟨hex, D, φ', hA', hR', hD', hX', hN'⟩ := hp
      rcases hD' with ⟨h, _⟩ | ⟨g3, l, l', hq, hok, hl, hDl⟩
      · cases h
      cases hq
      have hdf := hA'.defers.trans hDl
      have hlv : Leaves P fn a'.tmps (CallPost P G W0 ν φ s v h') a'.defers .returning w' := by
        rw [hdf]
        refine leaves_cons (by simp) (f := g2) (args := ⟨l'⟩) ?_ ((plain_sound hsy ih (fun n => hd n _ ih) he2 .returning hl hR' (Nat.le_trans hG hN')).mono fun e2 u2 w2 hp2 => ?_)
        · have := fn_ok (P := P) (w := w') hok (⟨l'⟩ ++ #[])
          simpa [invoke] using this
        · obtain ⟨rfl, v', rfl, φ2, r1, r2, r3, r4⟩ := hp2
          have hA2 := hA'.ext (hR'.up (Nat.le_refl _) r3)
          obtain ⟨u', q1, q2, rfl⟩ := end_sound rfl hA2 r2 e
          exact ⟨u', q1, u', rfl, φ2, q2, r2, hX'.trans r3 hN', Nat.le_trans hN' r4⟩
      rcases hex with rfl | rfl
      · exact hlv
      · exact hlv
end
end Go.Eva
