/-
  A run of a closed call as plain functions: regions. No program in sight.
-/
import Derived.Test.YtenigphjddnknaaGreatDoorFwB
import Derived.Test.YtenigphjddnknaaGreatDoorFkA
set_option linter.unusedVariables false
namespace Go.Fw
open Go Go.Eva Go.Fv Go.RowKit Go.Mix Go.Viv

/-! ### Two runs joined -/
noncomputable def zN {α β γ : Type} (f : α → β → γ) (x : N16 α) (y : N16 β) : N16 γ := N16.rec (motive := fun _ => N16 γ) (fun a0 a1 a2 a3 a4 a5 a6 a7 a8 a9 a10 a11 a12 a13 a14 a15 => N16.rec (motive := fun _ => N16 γ) (fun b0 b1 b2 b3 b4 b5 b6 b7 b8 b9 b10 b11 b12 b13 b14 b15 => .mk (f a0 b0) (f a1 b1) (f a2 b2) (f a3 b3) (f a4 b4) (f a5 b5) (f a6 b6) (f a7 b7) (f a8 b8) (f a9 b9) (f a10 b10) (f a11 b11) (f a12 b12) (f a13 b13) (f a14 b14) (f a15 b15)) y) x
theorem get_zN {α β γ : Type} (f : α → β → γ) (d : D16) (x : N16 α) (y : N16 β) : N16.get d (zN f x y) = f (N16.get d x) (N16.get d y) := by cases d <;> cases x <;> cases y <;> rfl
noncomputable def jFH (sy : Sy) (c : Nat) (H I : FH) : FH := zN (zN (zN (zN (jo sy c)))) H I
theorem HR.join {sy : Sy} {c : Nat} {H I : FH} {t u : Tr AObj} (h : HR H t) (h' : HR I u) : HR (jFH sy c H I) (Tr.zipW (jo sy c) t u) := fun B => by
  rw [Tr.zipW_at rfl, h B, h' B]
  unfold hget
  cases Pth.of B with
  | bad => rfl
  | mk a b d e =>
    show _ = N16.get e (N16.get d (N16.get b (N16.get a (jFH sy c H I))))
    unfold jFH
    rw [get_zN, get_zN, get_zN, get_zN]
    rfl
noncomputable def jRf (sy : Sy) (c : Nat) (A B : Rf) : Rf := Rf.rec (motive := fun _ => Rf) (fun a0 a1 a2 a3 a4 a5 a6 a7 a8 a9 a10 a11 a12 a13 a14 a15 x => Rf.rec (motive := fun _ => Rf) (fun b0 b1 b2 b3 b4 b5 b6 b7 b8 b9 b10 b11 b12 b13 b14 b15 y => .mk (jv sy c 2 a0 b0) (jv sy c 2 a1 b1) (jv sy c 2 a2 b2) (jv sy c 2 a3 b3) (jv sy c 2 a4 b4) (jv sy c 2 a5 b5) (jv sy c 2 a6 b6) (jv sy c 2 a7 b7) (jv sy c 2 a8 b8) (jv sy c 2 a9 b9) (jv sy c 2 a10 b10) (jv sy c 2 a11 b11) (jv sy c 2 a12 b12) (jv sy c 2 a13 b13) (jv sy c 2 a14 b14) (jv sy c 2 a15 b15) (zN (zN (jv sy c 2)) x y)) B) A
theorem gS_join (sy : Sy) (c : Nat) (s : Sl) (A B : Rf) : gS s (jRf sy c A B) = jv sy c 2 (gS s A) (gS s B) := by
  cases A
  cases B
  cases s with
  | lo d => cases d <;> rfl
  | hi i j =>
    show N16.get j (N16.get i (zN (zN (jv sy c 2)) _ _)) = _
    rw [get_zN, get_zN]
    rfl
theorem RK.join {sy : Sy} {c : Nat} {K : List Nat} {A B : Rf} {T U : Tr Value} (h : RK K A T) (h' : RK K B U) : RK K (jRf sy c A B) (joinT sy c T U) := fun t s hs => by
  rw [gS_join, look_join, h t s hs, h' t s hs]
def vTok (v : Value) (f : Nat → Bool) : Bool := match v with
  | .chan (some c) => f c
  | _ => false
theorem vTok_of {v : Value} {f : Nat → Bool} (h : vTok v f = true) : ∃ c, v = .chan (some c) ∧ f c = true := by
  unfold vTok at h
  split at h
  · exact ⟨_, rfl, h⟩
  · cases h
abbrev KR := Rf → FH → Nat → Bool
/-- The rest of a region for both answers of a test. -/
noncomputable def fkV (m : Mc) (v : Value) (F : Value → KR → Bool) (k : KR) : Bool := match tokOf v with
  | some c => ifB (testB m.sy c) (F (.bool true) fun R1 H1 n1 => F (.bool false) fun R2 H2 n2 => fN (mxn n1 n2) fun n => k (jRf m.sy c R1 R2) (jFH m.sy c H1 H2) n) (F v k)
  | none => F v k
theorem fkV_of {β : Nat → Bool} {m : Mc} {o : Op} {v : Value} {F : Value → KR → Bool} {k : KR} (ho : fkOp m.P o = true) (h : fkV m v F k = true) : (fkT m.P (syb β m.sy) o v = none ∧ F v k = true) ∨ ∃ c, fkT m.P (syb β m.sy) o v = some c ∧ F (.bool true) (fun R1 H1 n1 => F (.bool false) fun R2 H2 n2 => fN (mxn n1 n2) fun n => k (jRf m.sy c R1 R2) (jFH m.sy c H1 H2) n) = true := by
  unfold fkV at h
  cases ht : tokOf v with
  | none =>
    rw [ht] at h
    exact .inl ⟨by simp only [fkT, ho, ht], h⟩
  | some c =>
    rw [ht] at h
    rcases ifB_of h with ⟨h1, h2⟩ | ⟨h1, h2⟩
    · exact .inr ⟨c, by simp only [fkT, ho, ht, testB_syb, h1], h2⟩
    · exact .inl ⟨by simp only [fkT, ho, ht, testB_syb, h1], h2⟩
noncomputable def gw (v : Value) (w : Bool) (H : FH) (n : Nat) (A : KV → Bool) (J : KV) : Bool := vWant v (fun b => ifB (bEq b w) (A J) (J undef H n)) (J undef H n)
noncomputable def gv (v : Value) (w x : Bool) : Bool := vWant v (fun b => ifB (bEq b w) x true) true
/-- A guarded operation: what it does, or nothing. -/
noncomputable def gq (K : List Nat) (E : Env) (all : List Oper) (o : Oper) (R : Rf) (H : FH) (n : Nat) (A : KV → Bool) (J : KV) : Bool := match o.guard with
  | none => A J
  | some (j, want) => match (all[j]?).bind (·.dst) with
    | none => J undef H n
    | some t => rdO 0 K E (.tmp t) R fun v => gw v want H n A J
/-- The same as a test: what is not done needs none. -/
noncomputable def gb (K : List Nat) (E : Env) (all : List Oper) (o : Oper) (R : Rf) (x : Bool) : Bool := match o.guard with
  | none => x
  | some (j, want) => match (all[j]?).bind (·.dst) with
    | none => true
    | some t => rdO 0 K E (.tmp t) R fun v => gv v want x
theorem gq_of {K : List Nat} {E : Env} {all : List Oper} {o : Oper} {R : Rf} {T : Tr Value} {H : FH} {n : Nat} {A : KV → Bool} {J : KV} (hR : RK K R T) (hE : EnvOK E T) (h : gq K E all o R H n A J = true) :
    (wantedB all T o = some true ∧ A J = true) ∨ (wantedB all T o = some false ∧ J undef H n = true) := by
  unfold gq at h
  unfold wantedB
  cases hg : o.guard with
  | none => rw [hg] at h; exact .inl ⟨rfl, h⟩
  | some jw =>
    obtain ⟨j, want⟩ := jw
    rw [hg] at h
    simp only at h ⊢
    cases hd : (all[j]?).bind (·.dst) with
    | none => rw [hd] at h; exact .inr ⟨rfl, h⟩
    | some t =>
      rw [hd] at h
      simp only at h ⊢
      have h := rdO_of hR hE h
      have e : evl 0 T (.tmp t) = Eva.look T t := rfl
      rcases vWant_of h with ⟨b, h1, h⟩ | ⟨h1, h⟩
      · rw [e] at h1
        simp only [h1, ← bEq_eq]
        rcases ifB_of h with ⟨h2, h3⟩ | ⟨h2, h3⟩
        · exact .inl ⟨by rw [h2], h3⟩
        · exact .inr ⟨by rw [h2], h3⟩
      · rw [e] at h1
        refine .inr ⟨?_, h⟩
        simp only [h1]
theorem gb_of {K : List Nat} {E : Env} {all : List Oper} {o : Oper} {R : Rf} {T : Tr Value} {x : Bool} (hR : RK K R T) (hE : EnvOK E T) (hw : wantedB all T o = some true) (h : gb K E all o R x = true) : x = true := by
  unfold gb at h
  unfold wantedB at hw
  cases hg : o.guard with
  | none => rw [hg] at h; exact h
  | some jw =>
    obtain ⟨j, want⟩ := jw
    rw [hg] at h hw
    simp only at h hw
    cases hd : (all[j]?).bind (·.dst) with
    | none => rw [hd] at hw; cases hw
    | some t =>
      rw [hd] at h hw
      simp only at h hw
      have h := rdO_of hR hE h
      have e : evl 0 T (.tmp t) = Eva.look T t := rfl
      rcases vWant_of h with ⟨b, h1, h⟩ | ⟨h1, h⟩
      · rw [e] at h1
        simp only [h1, ← bEq_eq, Option.some.injEq] at hw
        rcases ifB_of h with ⟨h2, h3⟩ | ⟨h2, h3⟩
        · exact h3
        · rw [h2] at hw; cases hw
      · rw [e] at h1
        simp only [h1] at hw
        cases hw
section
variable (P : Program) (G nt : Nat) (K : List Nat)
noncomputable def opD (E : Env) (o : Op) (m : Mc) (R : Rf) (H : FH) (n : Nat) (j : KV) : Bool := match kind o with
  | .quiet => rdL G K E o.operands.toList R fun vs => semQ P o vs m H fun v => j v H n
  | .alloc => rdL G K E o.operands.toList R fun vs => semA P o vs m n fun v ob => born n H j v ob
  | .eff => rdL G K E o.operands.toList R fun vs => semE P o vs m H n j
/-- A plain region. -/
noncomputable def denS (all : List Oper) : List Oper → Env → Mc → Rf → FH → Nat → KR → Bool
  | [], _, _, R, H, n, k => k R H n
  | o :: l, E, m, R, H, n, k => (match fkOp P o.op with
    | false => gq K E all o R H n (fun j => opD P G K E o.op m R H n j) fun v H n => wrO K nt o.dst v R E fun R E => denS all l E m R H n k
    | true => gq K E all o R H n (fun j => opD P G K E o.op m R H n j) fun v H n => fkV m v (fun v k => wrO K nt o.dst v R E fun R E => denS all l E m R H n k) k)
abbrev Res := List (Nat × (FH → Bool))
noncomputable def ck (l : List Bool) (x : Bool) : Bool := List.rec (motive := fun _ => Bool) x (fun b _ ih => yes b ih) l
noncomputable def chk (H : FH) (x : Bool) (l : Res) : Bool := match l with
  | [] => x
  | l => ck (l.map fun e => e.2 H) x
/-- A region that draws its order. -/
noncomputable def denD (ops : Array Oper) (ms : Array Nat) (base : Nat) : List Nat → Nat → Nat → Env → Res → Mc → Rf → FH → Nat → KR → Bool
  | [], done, _, _, _, _, R, H, n, k => (match Nat.beq done (2 ^ ops.size - 1) with | true => k R H n | false => false)
  | i :: rest, done, effs, E, es, m, R, H, n, k => match ops.toList[i]?, within (ms.getD i 0) done && !bit done i, within effs (ms.getD i 0) with
    | some o, true, true => (match kind o.op with
      | .quiet => gq K E ops.toList o R H n (fun j => rdL G K E o.op.operands.toList R fun vs => semQ P o.op vs m H fun v => j v H n) fun v H n => wrO K nt o.dst v R E fun R' E' =>
          denD ops ms base rest (done ||| 2 ^ i) effs E' (match flag ops.toList ms i rest with | true => (i, fun H' => gb K E ops.toList o R (rdL G K E o.op.operands.toList R fun vs => semQ P o.op vs m H' fun v' => veq v' v)) :: es | false => es) m R' H n k
      | .alloc => fN (Nat.add base i) fun id => gq K E ops.toList o R H n (fun j => rdL G K E o.op.operands.toList R fun vs => semA P o.op vs m id fun v ob => oNo (hget id H) (hput id (some ob) H fun H => j v H n)) fun v H n => wrO K nt o.dst v R E fun R' E' =>
          denD ops ms base rest (done ||| 2 ^ i) effs E' (match flag ops.toList ms i rest with | true => (i, fun H' => gb K E ops.toList o R (rdL G K E o.op.operands.toList R fun vs => semA P o.op vs m id fun _ ob => oOb (hget id H') fun ob' => oeq ob ob')) :: es | false => es) m R' H n k
      | .eff => gq K E ops.toList o R H n (fun j => rdL G K E o.op.operands.toList R fun vs => semE P o.op vs m H n fun v H n => chk H (j v H n) (es.filter fun e => !bef ms i e.1)) fun v H n => wrO K nt o.dst v R E fun R' E' =>
          denD ops ms base rest (done ||| 2 ^ i) (effs ||| 2 ^ i) E' es m R' H n k)
    | _, _, _ => false
noncomputable def denR (ops : Array Oper) (m : Mc) (R : Rf) (H : FH) (n : Nat) (k : KR) : Bool := match statB ops with
  | true => fN (Nat.add n ops.size) fun n1 => denD P G nt K ops (Region.before ops) n (orderOf ops) 0 0 [] [] m R H n1 k
  | false => false
end
section
variable {β : Nat → Bool} {m : Mc} {call : CallB} {nt : Nat} {K : List Nat}
theorem opD_of (hsy : SyT (syb β m.sy)) (hc : CallEq m.cx call) {E : Env} {o : Op} {R : Rf} {T : Tr Value} {H : FH} {t : Tr AObj} {n : Nat} {j : KV} (hR : RK K R T) (hE : EnvOK E T) (hH : HR H t) (h : opD m.P m.G K E o m R H n j = true) :
    ∃ v h' H', evOp m.P (syb β m.sy) call (evl m.G T) ⟨t, n⟩ o = some (v, h') ∧ HR H' h'.t ∧ j v H' h'.next = true := by
  unfold opD at h
  unfold evOp
  cases hk : kind o with
  | quiet =>
    rw [hk] at h
    obtain ⟨v, h1, h2⟩ := semQ_of hsy hH rfl (rdL_of hR hE h)
    exact ⟨v, ⟨t, n⟩, H, by simp only [h1], hH, h2⟩
  | alloc =>
    rw [hk] at h
    obtain ⟨v, ob, h1, h2⟩ := semA_of rfl (rdL_of hR hE h)
    obtain ⟨H', h3, h4⟩ := hput_of hH h2
    exact ⟨v, ⟨t.set n (some ob), n + 1⟩, H', by simp only [h1], h3, h4⟩
  | eff =>
    rw [hk] at h
    exact semE_of hc hH rfl (rdL_of hR hE h)
theorem denS_of (hsy : SyT (syb β m.sy)) (hc : CallEq m.cx call) {all : List Oper} : ∀ (l : List Oper) {E : Env} {R : Rf} {T : Tr Value} {H : FH} {t : Tr AObj} {n : Nat} {k : KR}, RK K R T → EnvOK E T → HR H t → denS m.P m.G nt K all l E m R H n k = true →
    ∃ T' h' R' H', evSeq m.P (syb β m.sy) m.G nt call all l T ⟨t, n⟩ = some (T', h') ∧ RK K R' T' ∧ HR H' h'.t ∧ k R' H' h'.next = true
  | [], E, R, T, H, t, n, k, hR, hE, hH, h => ⟨T, ⟨t, n⟩, R, H, rfl, hR, hH, h⟩
  | o :: l, E, R, T, H, t, n, k, hR, hE, hH, h => by
    unfold denS at h
    simp only [evSeq]
    cases hf : fkOp m.P o.op with
    | false =>
      rw [hf] at h
      have hn : ∀ v, fkT m.P (syb β m.sy) o.op v = none := fun v => by simp only [fkT, hf]
      rcases gq_of hR hE h with ⟨h1, h2⟩ | ⟨h1, h2⟩
      · obtain ⟨v, s, H', h3, h4, h5⟩ := opD_of hsy hc hR hE hH h2
        obtain ⟨R', E', T', h6, h7, h8, h9⟩ := wrO_of hR hE h5
        obtain ⟨s1, s2⟩ := s
        simp only [h1, h3, hn, h6]
        exact denS_of hsy hc l h7 h8 h4 h9
      · obtain ⟨R', E', T', h6, h7, h8, h9⟩ := wrO_of hR hE h2
        simp only [h1, h6]
        exact denS_of hsy hc l h7 h8 hH h9
    | true =>
      rw [hf] at h
      rcases gq_of hR hE h with ⟨h1, h2⟩ | ⟨h1, h2⟩
      · obtain ⟨v, s, H', h3, h4, h5⟩ := opD_of hsy hc hR hE hH h2
        obtain ⟨s1, s2⟩ := s
        rcases fkV_of (β := β) hf h5 with ⟨hn, h5⟩ | ⟨c, hn, h5⟩
        · obtain ⟨R', E', T', h6, h7, h8, h9⟩ := wrO_of hR hE h5
          simp only [h1, h3, hn, h6]
          exact denS_of hsy hc l h7 h8 h4 h9
        · obtain ⟨R1, E1, T1, h6, h7, h8, h9⟩ := wrO_of hR hE h5
          obtain ⟨Ta, ⟨ta, na⟩, Ra, Ha, p1, p2, p3, p4⟩ := denS_of hsy hc l h7 h8 h4 h9
          obtain ⟨R2, E2, T2, g6, g7, g8, g9⟩ := wrO_of hR hE p4
          obtain ⟨Tb, ⟨tb, nb⟩, Rb, Hb, q1, q2, q3, q4⟩ := denS_of hsy hc l g7 g8 h4 g9
          simp only [h1, h3, hn, h6, g6, p1, q1, joinH_syb, joinT_syb]
          exact ⟨_, joinH m.sy c ⟨ta, na⟩ ⟨tb, nb⟩, _, _, rfl, RK.join p2 q2, HR.join p3 q3, q4⟩
      · rcases fkV_of (β := β) hf h2 with ⟨_, h2⟩ | ⟨c, hn, _⟩
        · obtain ⟨R', E', T', h6, h7, h8, h9⟩ := wrO_of hR hE h2
          simp only [h1, h6]
          exact denS_of hsy hc l h7 h8 hH h9
        · obtain ⟨_, e, _⟩ := fkT_tok hn
          cases e
theorem ck_of {x : Bool} : ∀ {l : List Bool}, ck l x = true → x = true ∧ ∀ b ∈ l, b = true
  | [], h => ⟨h, fun _ h => by cases h⟩
  | b :: l, h => by
    obtain ⟨h1, h2⟩ := yes_of (x := ck l x) h
    obtain ⟨h3, h4⟩ := ck_of h2
    refine ⟨h3, fun e he => ?_⟩
    rcases List.mem_cons.1 he with rfl | he
    · exact h1
    · exact h4 e he
theorem chk_of {H : FH} {x : Bool} {l : Res} (h : chk H x l = true) : x = true ∧ ∀ e ∈ l, e.2 H = true := by
  unfold chk at h
  split at h
  · exact ⟨h, fun _ h => by cases h⟩
  · obtain ⟨h1, h2⟩ := ck_of h
    exact ⟨h1, fun e he => h2 _ (List.mem_map_of_mem he)⟩
/-- What is read again later. -/
def HeldR (β : Nat → Bool) (m : Mc) (base : Nat) (es : Res) (x : Ent) : Prop := ∃ f, (x.i, f) ∈ es ∧ ∀ H' t', HR H' t' → f H' = true → again m.P (syb β m.sy) m.G base t' x = true
theorem denD_of (hsy : SyT (syb β m.sy)) (hc : CallEq m.cx call) {ops : Array Oper} {ms : Array Nat} {base : Nat} : ∀ (order : List Nat) {done es ed : Nat} {E : Env} {R : Rf} {T : Tr Value} {H : FH} {t : Tr AObj} {n : Nat} {xs : Res} {ents : List Ent} {k : KR},
    (∀ j, bit ed j = true → bit es j = true) → (∀ x ∈ ents, Fv.Good ops.toList ms order x ∨ HeldR β m base xs x) → RK K R T → EnvOK E T → HR H t → denD m.P m.G nt K ops ms base order done es E xs m R H n k = true →
    ∃ T' h' d' R' H', dRun m.P (syb β m.sy) m.G nt call ops.toList ms base order T ⟨t, n⟩ done ed ents = some (T', h', d') ∧ Nat.beq d' (2 ^ ops.size - 1) = true ∧ RK K R' T' ∧ HR H' h'.t ∧ k R' H' h'.next = true
  | [], done, es, ed, E, R, T, H, t, n, xs, ents, k, hsub, hents, hR, hE, hH, h => by
    unfold denD at h
    split at h <;> try (cases h; done)
    rename_i hb
    exact ⟨T, ⟨t, n⟩, done, R, H, rfl, hb, hR, hH, h⟩
  | i :: rest, done, es, ed, E, R, T, H, t, n, xs, ents, k, hsub, hents, hR, hE, hH, h => by
    unfold denD at h
    split at h <;> try (cases h; done)
    rename_i o h1 h2 h3
    have h3' := sub_within h3 hsub
    have down : ∀ x, Fv.Good ops.toList ms (i :: rest) x ∨ HeldR β m base xs x → Fv.Good ops.toList ms rest x ∨ HeldR β m base xs x := fun x hx => hx.imp (fun h e he => h e (List.mem_cons_of_mem _ he)) id
    have more : ∀ x y, HeldR β m base xs x → HeldR β m base (y :: xs) x := fun x y ⟨f, a, b⟩ => ⟨f, List.mem_cons_of_mem _ a, b⟩
    simp only [dRun, h1, h2]
    split at h
    · rename_i hk
      rcases gq_of hR hE h with ⟨g1, g2⟩ | ⟨g1, g2⟩
      · obtain ⟨v, q1, q2⟩ := semQ_of hsy hH rfl (rdL_of hR hE g2)
        obtain ⟨R', E', T', q3, q4, q5, q6⟩ := wrO_of hR hE q2
        simp only [g1, hk, h3', q1, q3]
        refine denD_of hsy hc rest hsub (fun x hx => ?_) q4 q5 hH q6
        cases hf : flag ops.toList ms i rest with
        | true =>
          rcases List.mem_cons.1 hx with rfl | hx
          · refine .inr ⟨_, List.mem_cons_self .., fun H' t' hH' hre => ?_⟩
            obtain ⟨v', p1, p2⟩ := semQ_of hsy hH' rfl (rdL_of hR hE (gb_of hR hE g1 hre))
            unfold again
            simp only [hk, p1]
            exact p2
          · exact (down x (hents x hx)).imp id (more x _)
        | false =>
          rcases List.mem_cons.1 hx with rfl | hx
          · exact .inl (flag_good hf rfl)
          · exact down x (hents x hx)
      · obtain ⟨R', E', T', q3, q4, q5, q6⟩ := wrO_of hR hE g2
        simp only [g1, q3]
        refine denD_of hsy hc rest hsub (fun x hx => ?_) q4 q5 hH q6
        cases hf : flag ops.toList ms i rest with
        | true => exact (down x (hents x hx)).imp id (more x _)
        | false => exact down x (hents x hx)
    · rename_i hk
      have h : gq K E ops.toList o R H n (fun j => rdL m.G K E o.op.operands.toList R fun vs => semA m.P o.op vs m (base + i) fun v ob => oNo (hget (base + i) H) (hput (base + i) (some ob) H fun H => j v H n)) (fun v H n => wrO K nt o.dst v R E fun R' E' =>
          denD m.P m.G nt K ops ms base rest (done ||| 2 ^ i) es E' (match flag ops.toList ms i rest with | true => (i, fun H' => gb K E ops.toList o R (rdL m.G K E o.op.operands.toList R fun vs => semA m.P o.op vs m (base + i) fun _ ob => oOb (hget (base + i) H') fun ob' => oeq ob ob')) :: xs | false => xs) m R' H n k) = true := h
      rcases gq_of hR hE h with ⟨g1, g2⟩ | ⟨g1, g2⟩
      · obtain ⟨v, ob, q1, q2⟩ := semA_of rfl (rdL_of hR hE g2)
        cases hno : hget (base + i) H with
        | some ob' => rw [hno] at q2; cases q2
        | none =>
          rw [hno] at q2
          obtain ⟨H', q7, q8⟩ := hput_of hH q2
          obtain ⟨R', E', T', q3, q4, q5, q6⟩ := wrO_of hR hE q8
          have hno' : t.at_ (base + i) = none := (hH _).trans hno
          simp only [g1, hk, h3', q1, hno', q3]
          refine denD_of hsy hc rest hsub (fun x hx => ?_) q4 q5 q7 q6
          cases hf : flag ops.toList ms i rest with
          | true =>
            rcases List.mem_cons.1 hx with rfl | hx
            · refine .inr ⟨_, List.mem_cons_self .., fun H' t' hH' hre => ?_⟩
              obtain ⟨v', ob2, p1, p2⟩ := semA_of rfl (rdL_of hR hE (gb_of hR hE g1 hre))
              unfold again
              simp only [hk, p1]
              rw [hH']
              cases ho : hget (base + i) H' with
              | none => rw [ho] at p2; cases p2
              | some ob' => rw [ho] at p2; exact p2
            · exact (down x (hents x hx)).imp id (more x _)
          | false =>
            rcases List.mem_cons.1 hx with rfl | hx
            · exact .inl (flag_good hf rfl)
            · exact down x (hents x hx)
      · obtain ⟨R', E', T', q3, q4, q5, q6⟩ := wrO_of hR hE g2
        simp only [g1, q3]
        refine denD_of hsy hc rest hsub (fun x hx => ?_) q4 q5 hH q6
        cases hf : flag ops.toList ms i rest with
        | true => exact (down x (hents x hx)).imp id (more x _)
        | false => exact down x (hents x hx)
    · rename_i hk
      have hsub' : ∀ e', (e' = ed ∨ e' = ed ||| 2 ^ i) → ∀ j, bit e' j = true → bit (es ||| 2 ^ i) j = true := fun e' he j hj => by
        rw [bit_or]
        rcases he with rfl | rfl
        · rw [hsub j hj]; rfl
        · rw [bit_or, Bool.or_eq_true] at hj
          rcases hj with hj | hj
          · rw [hsub j hj]; rfl
          · rw [hj, Bool.or_true]
      rcases gq_of hR hE h with ⟨g1, g2⟩ | ⟨g1, g2⟩
      · obtain ⟨v, s, H', q1, q7, q2⟩ := semE_of hc hH rfl (rdL_of hR hE g2)
        obtain ⟨q2, q8⟩ := chk_of q2
        obtain ⟨R', E', T', q3, q4, q5, q6⟩ := wrO_of hR hE q2
        obtain ⟨s1, s2⟩ := s
        have hag : allAgain m.P (syb β m.sy) m.G ms base i s1 ents = true := agains_of fun x hx => by
          rcases hents x hx with hg | ⟨f, hf1, hf2⟩
          · rw [hg i (List.mem_cons_self ..) (by rw [h1]; simp [isEff, hk])]; rfl
          · cases hb : bef ms i x.i with
            | true => rfl
            | false => rw [hf2 H' s1 q7 (q8 _ (List.mem_filter.2 ⟨hf1, by simp [hb]⟩))]; rfl
        simp only [g1, hk, h3', q1, hag, q3]
        exact denD_of hsy hc rest (hsub' _ (.inr rfl)) (fun x hx => down x (hents x hx)) q4 q5 q7 q6
      · obtain ⟨R', E', T', q3, q4, q5, q6⟩ := wrO_of hR hE g2
        simp only [g1, q3]
        exact denD_of hsy hc rest (hsub' _ (.inl rfl)) (fun x hx => down x (hents x hx)) q4 q5 hH q6
theorem denR_of (hsy : SyT (syb β m.sy)) (hc : CallEq m.cx call) {ops : Array Oper} {R : Rf} {T : Tr Value} {H : FH} {t : Tr AObj} {n : Nat} {k : KR} (hR : RK K R T) (hH : HR H t) (h : denR m.P m.G nt K ops m R H n k = true) :
    ∃ T' h' R' H', evD m.P (syb β m.sy) m.G nt call ops T ⟨t, n⟩ = some (T', h') ∧ RK K R' T' ∧ HR H' h'.t ∧ k R' H' h'.next = true := by
  unfold denR at h
  split at h <;> try (cases h; done)
  rename_i hst
  obtain ⟨T', h', d', R', H', h1, h2, h3, h4, h5⟩ := denD_of (ents := []) (n := n + ops.size) hsy hc (orderOf ops) (fun j hj => hj) (fun x hx => by cases hx) hR (fun t v h => by cases h) hH h
  exact ⟨T', h', R', H', by unfold evD; simp only [hst, h1, h2], h3, h4, h5⟩
end
end Go.Fw
