/-
  A run of a closed call: the region in any order. No program in sight.
-/
import Derived.Test.YtenigphjddnknaaGreatDoorEvaK
namespace Go.Eva
open Go Go.RowKit Go.Mix Go.Viv

section
variable {P : Program} {G : Nat} {W0 : Begin} {ν : Toks} {sy : Sy} {call : CallB} {ops : Array Oper} {m : Array Nat} {n base : Nat} {T0 : Tr Value} {h0 : Hp}

/-- Where the region stands when just the listed operations have come up. -/
structure At (P : Program) (G : Nat) (W0 : Begin) (ν : Toks) (ops : Array Oper) (n base : Nat) (D : List Deferred) (T0 : Tr Value) (p : Plan) (φ0 : Phi) (listed : Array Bool) (a : Act) (w : World) (φ : Phi) (c : Nat) : Prop where
  size : listed.size = ops.size
  down : Down .any ops listed
  cK : c ≤ p.K
  cnt1 : ∀ c', c' < c → listed.getD (p.E c') false = true
  cnt2 : ∀ c', c ≤ c' → c' < p.K → listed.getD (p.E c') false = false
  asize : a.tmps.size = n
  defers : a.defers = D
  tm1 : ∀ j t, Writes ops j t → listed.getD j false = true → VR ν φ (p.val j) (a.tmps.getD t undef)
  tm0 : ∀ t, (∀ j, Writes ops j t → listed.getD j false = false) → VR ν φ (look T0 t) (a.tmps.getD t undef)
  rw : Rw P G W0 ν φ (p.H c) w
  gh : ∀ i, i < ops.size → listed.getD i false = false → φ (base + i) = none
  ext : Ext base φ0 φ
  nx : base + ops.size ≤ (p.H c).next

theorem getD_put (listed : Array Bool) (i j : Nat) (hi : i < listed.size) : (listed.setIfInBounds i true).getD j false = if j = i then true else listed.getD j false := by
  simp only [Array.getD_eq_getD_getElem?]
  by_cases e : j = i
  · subst e; simp [hi]
  · rw [Array.getElem?_setIfInBounds_ne (Ne.symm e), if_neg e]
variable {D : List Deferred}
/-- One operation has come up. -/
theorem At.step {p : Plan} {φ0 φ φ' : Phi} {listed : Array Bool} {a a1 : Act} {w w' : World} {c c' i : Nat} {o : Oper} (J : At P G W0 ν ops n base D T0 p φ0 listed a w φ c) (hS : Stat ops m) (ho : ops[i]? = some o)
    (hun : listed.getD i false = false) (hwt : Waited .any ops listed i) {v' : Value} (hv : VR ν φ' (p.val i) v') (hdst : ∀ d, o.dst = some d → d < n) (hR : Rw P G W0 ν φ' (p.H c') w') (hup : ∀ B r, φ B = some r → φ' B = some r)
    (hgh : ∀ j, j < ops.size → j ≠ i → φ (base + j) = none → φ' (base + j) = none) (hext : Ext base φ φ') (hnx : base + ops.size ≤ (p.H c').next)
    (hc : (c' = c ∧ ∀ k, k < p.K → p.E k ≠ i) ∨ (c' = c + 1 ∧ c < p.K ∧ p.E c = i ∧ ∀ k, k < p.K → k ≠ c → p.E k ≠ i)) (ha : a1 = a.put o.dst v') :
    At P G W0 ν ops n base D T0 p φ0 (listed.setIfInBounds i true) a1 w' φ' c' := by
  subst ha
  have hi : i < listed.size := by rw [J.size]; exact lt_of_some ho
  have hputd : (a.put o.dst v').defers = D := by cases hd : o.dst <;> exact J.defers
  have hputs : (a.put o.dst v').tmps.size = n := by cases hd : o.dst <;> simp [Act.put, J.asize]
  have hget : ∀ t, (a.put o.dst v').tmps.getD t undef = if o.dst = some t then v' else a.tmps.getD t undef := fun t => by
    cases hd : o.dst with
    | none => simp [Act.put]
    | some d =>
      simp only [Act.put, Array.getD_eq_getD_getElem?]
      by_cases e : d = t
      · subst e
        have := hdst d hd
        rw [if_pos rfl]
        simp [J.asize, this]
      · rw [Array.getElem?_setIfInBounds_ne e, if_neg (fun h => e (by injection h))]
  refine ⟨by simp [J.size], down_set J.down hwt, ?_, fun k hk => ?_, fun k hk hK => ?_, hputs, hputd, fun j t hw hl => ?_, fun t hno => ?_, hR, fun j hj hl => ?_, J.ext.trans hext (Nat.le_refl _), hnx⟩
  · rcases hc with ⟨rfl, _⟩ | ⟨rfl, h, _⟩
    · exact J.cK
    · exact h
  · rw [getD_put _ _ _ hi]
    split
    · rfl
    · rename_i hne
      rcases hc with ⟨rfl, _⟩ | ⟨rfl, h1, h2, _⟩
      · exact J.cnt1 k hk
      · rcases Nat.lt_or_ge k c with hlt | hge
        · exact J.cnt1 k hlt
        · have : k = c := by omega
          subst this
          exact absurd h2 hne
  · rw [getD_put _ _ _ hi]
    rcases hc with ⟨rfl, h⟩ | ⟨rfl, h1, h2, h3⟩
    · rw [if_neg (h k hK)]; exact J.cnt2 k hk hK
    · rw [if_neg (h3 k hK (by omega))]; exact J.cnt2 k (by omega) hK
  · rw [hget]
    rw [getD_put _ _ _ hi] at hl
    by_cases hj : j = i
    · subst hj
      obtain ⟨q, hq, hd⟩ := hw
      rw [ho] at hq; cases hq
      rw [if_pos hd]; exact hv
    · rw [if_neg hj] at hl
      rw [if_neg (fun hd => hj (hS.uniq j i t hw ⟨o, ho, hd⟩))]
      exact (J.tm1 j t hw hl).ext hup
  · rw [hget]
    have hne : o.dst ≠ some t := fun hd => by
      have := hno i ⟨o, ho, hd⟩
      rw [getD_put _ _ _ hi, if_pos rfl] at this
      cases this
    rw [if_neg hne]
    refine (J.tm0 t fun j hw => ?_).ext hup
    have := hno j hw
    rw [getD_put _ _ _ hi] at this
    split at this
    · cases this
    · exact this
  · rw [getD_put _ _ _ hi] at hl
    split at hl
    · cases hl
    · rename_i hne
      exact hgh j hj hne (J.gh j hj hl)

/-- All that is asked of the operations' own laws. -/
structure Laws (P : Program) (G : Nat) (W0 : Begin) (ν : Toks) (sy : Sy) (call : CallB) : Prop where
  quiet : ∀ {φ : Phi} {s : Hp} {w : World} {ρ ρ' : Operand → Value} {o : Oper} {v : Value}, Rw P G W0 ν φ s w → (∀ x, VR ν φ (ρ x) (ρ' x)) → evQ P sy ρ s.t o.op = some v → ∃ v', (execOp ρ' o).run P w = .ok (.value v') w ∧ VR ν φ v v'
  eff : ∀ {φ : Phi} {s : Hp} {w : World} {a : Act} {ρ : Operand → Value} {o : Oper} {v : Value} {h' : Hp}, Rw P G W0 ν φ s w → G ≤ s.next → (∀ x, VR ν φ (ρ x) (a.eval x)) → evE P call ρ s o.op = some (v, h') →
    ∀ (K : Act → World → Prop) (Q : Exit → Act → World → Prop), (∀ v' w', Step P G W0 ν φ s v h' v' w' → K (a.put o.dst v') w') → o.wp P a w K Q
theorem mapB_same {ρ ρ1 : Operand → Value} : ∀ {l : List (Nat × Operand)}, (∀ x ∈ l.map (·.2), ρ1 x = ρ x) → mapB ρ1 l = mapB ρ l
  | [], _ => rfl
  | (i, x) :: l, h => by
    simp only [mapB]
    rw [h x (by simp), mapB_same fun y hy => h y (by simp at hy ⊢; exact .inr hy)]
theorem map_same {ρ ρ1 : Operand → Value} {l : List Operand} (h : ∀ x ∈ l, ρ1 x = ρ x) : l.map ρ1 = l.map ρ := List.map_congr_left h
theorem call_args {c : Call} {ρ ρ1 : Operand → Value} (h : ∀ x ∈ c.operands, ρ1 x = ρ x) : c.args.toList.map ρ1 = c.args.toList.map ρ :=
  map_same fun x hx => h x (by unfold Call.operands; exact Array.mem_append.2 (.inr (Array.mem_toList_iff.1 hx)))
theorem evQ0_same {H : Tr AObj} {o : Op} {ρ ρ1 : Operand → Value} (h : ∀ x ∈ o.operands, ρ1 x = ρ x) : evQ0 P ρ1 H o = evQ0 P ρ H o := by
  cases o
  case call c => simp only [evQ0, call_args (c := c) h]
  case build t parts =>
    simp only [evQ0]
    rw [mapB_same fun x hx => h x (by simpa [Op.operands] using hx)]
  case makeFunc fn f c =>
    simp only [evQ0]
    rw [map_same fun x hx => h x (by simp [Op.operands]; exact .inl (Array.mem_toList_iff.1 hx)), map_same (l := c.toList) fun x hx => h x (by simp [Op.operands]; exact .inr (Array.mem_toList_iff.1 hx))]
  case slice t x l hi m =>
    have hx := h x (by simp [Op.operands])
    have ho : ∀ y : Option Operand, (∀ z, y = some z → ρ1 z = ρ z) → y.map ρ1 = y.map ρ := fun y hy => by
      cases y
      · rfl
      · simp [hy _ rfl]
    simp only [evQ0, hx]
    rw [ho l fun z hz => h z (by simp [Op.operands, hz]), ho hi fun z hz => h z (by simp [Op.operands, hz]), ho m fun z hz => h z (by simp [Op.operands, hz])]
  all_goals first
    | rfl
    | (simp [Op.operands] at h; simp [evQ0, h])
theorem evQ_same {H : Tr AObj} {o : Op} {ρ ρ1 : Operand → Value} (h : ∀ x ∈ o.operands, ρ1 x = ρ x) : evQ P sy ρ1 H o = evQ P sy ρ H o := by
  unfold evQ
  rw [evQ0_same h, map_same fun x hx => h x (Array.mem_toList_iff.1 hx)]
theorem evA_same {id : Nat} {o : Op} {ρ ρ1 : Operand → Value} (h : ∀ x ∈ o.operands, ρ1 x = ρ x) : evA P ρ1 id o = evA P ρ id o := by
  cases o
  case buildSlice t n parts =>
    simp only [evA]
    rw [mapB_same fun x hx => h x (by simpa [Op.operands] using hx)]
  case makeMap t r => cases r <;> rfl
  all_goals first
    | rfl
    | (simp [Op.operands] at h; simp [evA, h])
theorem target_same {c : Call} {ρ ρ1 : Operand → Value} (h : ∀ x ∈ c.operands, ρ1 x = ρ x) : targetB P ρ1 c = targetB P ρ c := by
  unfold targetB
  rw [call_args h]
  cases hc : c.callee with
  | value f => simp only [h f (by simp [Call.operands, hc])]
  | invoke r m => simp only [h r (by simp [Call.operands, hc])]
  | builtin b => rfl
theorem evE_same {s : Hp} {o : Op} {ρ ρ1 : Operand → Value} (h : ∀ x ∈ o.operands, ρ1 x = ρ x) : evE P call ρ1 s o = evE P call ρ s o := by
  cases o
  case call c =>
    have h' : ∀ x ∈ c.operands, ρ1 x = ρ x := h
    simp only [evE, target_same h']
    split <;> try rfl
    case h_2 =>
      rename_i x1 _ hargs
      rw [h' x1 (by unfold Call.operands; exact Array.mem_append.2 (.inr (Array.mem_toList_iff.1 (by rw [hargs]; simp))))]
    all_goals
      rename_i s1 x1 _ hargs
      rw [h' s1 (by unfold Call.operands; exact Array.mem_append.2 (.inr (Array.mem_toList_iff.1 (by rw [hargs]; simp)))), h' x1 (by unfold Call.operands; exact Array.mem_append.2 (.inr (Array.mem_toList_iff.1 (by rw [hargs]; simp))))]
  all_goals first
    | rfl
    | (simp [Op.operands] at h; simp [evE, h])
open Classical in
theorem any_order (hL : Laws P G W0 ν sy call) (hS : Stat ops m) (hG : G ≤ base) {p : Plan} {done : Nat} {Tf : Tr Value} {hf : Hp} {effs : Nat} {ents : List Ent} (I : Inv P G W0 ν sy call ops m n base T0 h0 p done Tf hf effs ents)
    (hall : ∀ i, i < ops.size → bit done i = true) {φ0 : Phi} {Q : Exit → Act → World → Prop} (hQ : ∀ φ a w, ArD ν φ n D Tf a → Rw P G W0 ν φ hf w → Ext base φ0 φ → base ≤ hf.next → Q .normal a w) :
    ∀ (fuel : Nat) (U : List Nat) (listed : Array Bool) (a : Act) (w : World) (φ : Phi) (c : Nat), At P G W0 ν ops n base D T0 p φ0 listed a w φ c → (∀ i, i < ops.size → listed.getD i false = false → i ∈ U) → U.length ≤ fuel → wpAny P .any ops Q fuel listed a w := by
  have ended : ∀ (listed : Array Bool) (a : Act) (w : World) (φ : Phi) (c : Nat), At P G W0 ν ops n base D T0 p φ0 listed a w φ c → Region.ready .any ops listed = [] → Q .normal a w := by
    intro listed a w φ c J hr
    have all : ∀ i, i < ops.size → listed.getD i false = true := by
      intro i
      induction i using Nat.strongRecOn with
      | _ i ih =>
        intro hi
        cases hl : listed.getD i false with
        | true => rfl
        | false =>
          exfalso
          obtain ⟨o, ho⟩ : ∃ o, ops[i]? = some o := ⟨_, Array.getElem?_eq_getElem hi⟩
          have : i ∈ Region.ready .any ops listed := mem_ready.2 ⟨by rw [getD_conv J.size hi true false]; exact hl, o, ho, fun e he hb => by
            have hlt := hS.topo i o ho e he hb
            exact ih e.on hlt (by omega)⟩
          rw [hr] at this
          cases this
    have hc : c = p.K := by
      rcases Nat.lt_or_ge c p.K with hlt | hge
      · have h1 := J.cnt2 c (Nat.le_refl _) hlt
        rw [all _ (I.ltn _ (I.Edone c hlt).1)] at h1
        cases h1
      · have := J.cK; omega
    subst hc
    have hrw := J.rw
    rw [I.hK] at hrw
    refine hQ φ a w ⟨J.asize, fun t => ?_, J.defers⟩ hrw J.ext (by have := J.nx; rw [I.hK] at this; omega)
    by_cases hw : ∃ j, Writes ops j t
    · obtain ⟨j, hw⟩ := hw
      have hj : j < ops.size := by obtain ⟨q, hq, _⟩ := hw; exact lt_of_some hq
      rw [(I.canT j t hw).1 (hall j hj)]
      exact J.tm1 j t hw (all j hj)
    · have hno : ∀ j, ¬ Writes ops j t := fun j h => hw ⟨j, h⟩
      rw [I.canT0 t hno]
      exact J.tm0 t fun j h => absurd h (hno j)
  intro fuel
  induction fuel with
  | zero =>
    intro U listed a w φ c J hU hlen
    have hr : Region.ready .any ops listed = [] := by
      rcases List.eq_nil_or_concat (Region.ready .any ops listed) with h | ⟨l, i, h⟩
      · exact h
      · exfalso
        have hi : i ∈ Region.ready .any ops listed := by rw [h]; simp
        obtain ⟨h1, o, ho, _⟩ := mem_ready.1 hi
        have := hU i (lt_of_some ho) (by rw [getD_conv J.size (lt_of_some ho) false true]; exact h1)
        have : 0 < U.length := List.length_pos_of_mem this
        omega
    exact ⟨hr, ended listed a w φ c J hr⟩
  | succ fuel ih =>
    intro U listed a w φ c J hU hlen
    refine ⟨ended listed a w φ c J, fun i hi => ?_⟩
    obtain ⟨h1, o, ho, hwt0⟩ := mem_ready.1 hi
    have hilt := lt_of_some ho
    have hun : listed.getD i false = false := by rw [getD_conv J.size hilt false true]; exact h1
    have hwt : Waited .any ops listed i := fun q hq e he hb => by rw [ho] at hq; cases hq; exact hwt0 e he hb
    have g := I.good i o (hall i hilt) ho
    have hiU := hU i hilt hun
    have hrest : ∀ {a1 : Act} {w1 : World} {φ1 : Phi} {c1 : Nat}, At P G W0 ν ops n base D T0 p φ0 (listed.setIfInBounds i true) a1 w1 φ1 c1 → wpAny P .any ops Q fuel (listed.setIfInBounds i true) a1 w1 := fun J1 =>
      ih (U.erase i) _ _ _ _ _ J1 (fun j hj hl => by
        rw [getD_put _ _ _ (by rw [J.size]; exact hilt)] at hl
        split at hl
        · cases hl
        · rename_i hne
          exact (List.mem_erase_of_ne hne).2 (hU j hj hl)) (by rw [List.length_erase_of_mem hiU]; omega)
    have hbef : ∀ j, j < ops.size → bef m i j = true → listed.getD j false = true := fun j hj hb => mask_spec hS.mask J.down hj i hilt hwt hb
    have hbef2 : ∀ j, j < ops.size → bef m j i = true → listed.getD j false = false := fun j hj hb => by
      cases hl : listed.getD j false with
      | false => rfl
      | true =>
        have := mask_spec hS.mask J.down hilt j hj (J.down j hl) hb
        rw [hun] at this; cases this
    have hElt : ∀ k, k < p.K → p.E k < ops.size := fun k hk => I.ltn _ (I.Edone k hk).1
    have hok : Ok m p i c := by
      refine ⟨fun k hk hb => ?_, fun k hk hb => ?_⟩
      · rcases Nat.lt_or_ge k c with h | h
        · exact h
        · have h2 := J.cnt2 k h hk
          rw [hbef _ (hElt k hk) hb] at h2
          cases h2
      · rcases Nat.lt_or_ge k c with h | h
        · have h2 := J.cnt1 k h
          rw [hbef2 _ (hElt k hk) hb] at h2
          cases h2
        · exact h
    have hlook : ∀ t, t ∈ o.looksAt ops → VR ν φ (look (p.T i) t) (a.tmps.getD t undef) := fun t ht => by
      by_cases hw : ∃ j, Writes ops j t
      · obtain ⟨j, hw⟩ := hw
        have hj : j < ops.size := by obtain ⟨q, hq, _⟩ := hw; exact lt_of_some hq
        cases hb : bef m i j with
        | true =>
          rw [(g.tmp t j ht hw).1 hb]
          exact J.tm1 j t hw (hbef j hj hb)
        | false =>
          rw [(g.tmp t j ht hw).2 hb]
          refine J.tm0 t fun k hk => ?_
          have : k = j := hS.uniq k j t hk hw
          subst this
          by_cases e : k = i
          · subst e; exact hun
          · rcases hS.look i o t k ho ht hw e with h2 | h2
            · rw [hb] at h2; cases h2
            · exact hbef2 k hj h2
      · have hno : ∀ j, ¬ Writes ops j t := fun j h => hw ⟨j, h⟩
        rw [g.tmp0 t ht hno]
        exact J.tm0 t fun j h => absurd h (hno j)
    -- what the operation looks at, and nothing else
    let ρ : Operand → Value := fun x => if x ∈ o.op.operands then evl G (p.T i) x else .chan none
    have hρ : ∀ x, VR ν φ (ρ x) (a.eval x) := fun x => by
      by_cases hx : x ∈ o.op.operands
      · simp only [ρ, if_pos hx]
        cases x with
        | tmp t =>
          refine hlook t ?_
          unfold Oper.looksAt
          refine List.mem_append_left _ (List.mem_filterMap.2 ⟨.tmp t, Array.mem_toList_iff.2 hx, rfl⟩)
        | const v =>
          simp only [evl, Act.eval]
          cases hp : plainV v with
          | true => exact VR.refl v hp
          | false => exact .bad v
        | global k =>
          simp only [evl, Act.eval]
          cases hb : Nat.blt k G with
          | true =>
            obtain ⟨r, h1, h2⟩ := J.rw.glob k (blt_iff hb)
            have := VR.ptr (ν := ν) (o := 0) h1
            rw [h2] at this
            exact this
          | false => exact .bad _
        | func f => exact .func _ .nil .nil
      · simp only [ρ, if_neg hx]; exact .bad _
    have hρe : ∀ x ∈ o.op.operands, ρ x = evl G (p.T i) x := fun x hx => by simp only [ρ, if_pos hx]
    have hwant : Region.wanted o (yielded ops a.tmps) = p.wa i := wanted_at (fun j want t hg hd => hlook t (by
      unfold Oper.looksAt
      refine List.mem_append_right _ ?_
      rw [hg]
      simp [hd])) g.want
    unfold wpOp
    simp only [ho]
    rw [hwant]
    cases hwa : p.wa i with
    | false =>
      simp only [Bool.false_eq_true, if_false]
      obtain ⟨hv, hE⟩ := g.skip hwa
      refine hrest (J.step (o := o) hS ho hun hwt (v' := undef) (by rw [hv]; exact VR.undef_) g.dst J.rw (fun _ _ h => h) (fun _ _ _ h => h) (Ext.refl _ _) J.nx (.inl ⟨rfl, hE⟩) rfl)
    | true =>
      simp only [if_true]
      refine .inl ?_
      rcases g.run hwa with ⟨_, hE, h2⟩ | ⟨_, hE, ob, h2, h3⟩ | ⟨_, k, hk, hki, h', h2, h3⟩
      · have h4 := h2 c J.cK hok
        rw [← evQ_same hρe] at h4
        obtain ⟨v', h5, h6⟩ := hL.quiet J.rw hρ h4
        unfold Oper.wp
        rw [h5]
        exact hrest (J.step (o := o) hS ho hun hwt h6 g.dst J.rw (fun _ _ h => h) (fun _ _ _ h => h) (Ext.refl _ _) J.nx (.inl ⟨rfl, hE⟩) rfl)
      · rw [← evA_same hρe] at h2
        have hB := J.gh i hilt hun
        obtain ⟨v', w', r, h5, h6, h7⟩ := alloc_sound J.rw hB (by have := J.nx; omega) (by omega) hρ (h3 c J.cK hok) h2
        unfold Oper.wp
        rw [h5]
        refine hrest (J.step (o := o) hS ho hun hwt h6 g.dst h7 (φ.add_up r hB) (fun j _ hne h => ?_) (fun B hB => Phi.add_ne _ _ (by omega)) J.nx (.inl ⟨rfl, hE⟩) rfl)
        rw [Phi.add_ne _ _ (by omega)]; exact h
      · have hkc : k = c := by
          have h4 := J.cnt1 k
          have h5 := J.cnt2 k
          rcases Nat.lt_trichotomy k c with h | h | h
          · have := h4 h; rw [hki, hun] at this; cases this
          · exact h
          · have h6 := I.chain c k h hk
            rw [hki] at h6
            have h7 := hbef _ (hElt c (by omega)) h6
            have h8 := J.cnt2 c (Nat.le_refl _) (by omega)
            rw [h7] at h8; cases h8
        subst hkc
        rw [← evE_same hρe] at h2
        refine hL.eff J.rw (by have := J.nx; omega) hρ h2 _ _ fun v' w' hst => ?_
        obtain ⟨φ', s1, s2, s3, s4⟩ := hst
        have hup := J.rw.up (Nat.le_refl _) s3
        have hnx := J.nx
        have hgh' : ∀ j, j < ops.size → listed.getD j false = false → φ' (base + j) = none := fun j hj hl => by
          rw [s3 _ (by omega)]; exact J.gh j hj hl
        have hR' := h3.2 φ' w' (fun j hj hb => ?_) s2
        · refine hrest (J.step (o := o) (c' := k + 1) hS ho hun hwt s1 g.dst hR' hup (fun j hj _ h => ?_) (fun B hB => s3 B (by omega)) ?_ (.inr ⟨rfl, hk, hki, fun q hq hne he => ?_⟩) rfl)
          · rw [s3 _ (by omega)]; exact h
          · rw [h3.1]; omega
          · rcases Nat.lt_or_gt_of_ne hne with h | h
            · have h4 := J.cnt1 q h
              rw [he, hun] at h4; cases h4
            · have h6 := I.chain k q h hq
              rw [he] at h6
              have h7 := hbef _ (hElt k hk) h6
              rw [hki, hun] at h7; cases h7
        · exact hgh' j hj (hbef2 j hj hb)
end
end Go.Eva
