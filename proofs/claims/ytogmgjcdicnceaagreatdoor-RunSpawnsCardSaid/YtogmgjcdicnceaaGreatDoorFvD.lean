/-
  A run of a closed call, made for the kernel's speed: regions, code, calls; it comes to what the tree's run comes to. No program in sight.
-/
import Derived.Test.YtogmgjcdicnceaaGreatDoorFvC
set_option linter.unusedVariables false
namespace Go.Fv
open Go Go.Eva Go.RowKit Go.Mix Go.Viv

inductive Gd where
  | no
  | never
  | on (a : Od) (w : Bool)
noncomputable def bEq (b w : Bool) : Bool := Bool.rec (motive := fun _ => Bool) (Bool.rec (motive := fun _ => Bool) true false w) w b
theorem bEq_eq (b w : Bool) : bEq b w = (b == w) := by cases b <;> cases w <;> rfl
noncomputable def vWant (v : Value) : (Bool → Bool) → Bool → Bool := Value.rec (motive_1 := fun _ => (Bool → Bool) → Bool → Bool) (motive_2 := fun _ => Unit) (motive_3 := fun _ => Unit) (fun b f _ => f b) (fun _ _ _ _ => false) (fun _ _ _ _ => false) (fun _ _ _ _ _ => false) (fun _ _ _ => false) (fun _ _ _ => false) (fun _ _ _ _ _ => false) (fun _ _ _ => false) (fun _ _ _ => false) (fun _ _ _ _ _ _ _ => false) (fun _ _ => false) (fun _ _ _ _ _ => false) (fun _ _ => false) (fun _ _ _ _ => false) (fun a _ _ d => arr a fun l => List.rec (motive := fun _ => Bool) d (fun _ _ _ => false) l) (fun _ _ => ()) () (fun _ _ _ _ => ()) v
theorem vWant_of {v : Value} {f : Bool → Bool} {d : Bool} (h : vWant v f d = true) : (∃ b, v = .bool b ∧ f b = true) ∨ (v = .tuple ⟨[]⟩ ∧ d = true) := by
  cases v <;> try (cases h; done)
  · exact .inl ⟨_, rfl, h⟩
  · rename_i a
    obtain ⟨l⟩ := a
    cases l with
    | nil => exact .inr ⟨rfl, h⟩
    | cons x l => cases h
noncomputable def xGd (g : Gd) : Rg → Bool → Bool → Bool := Gd.rec (motive := fun _ => Rg → Bool → Bool → Bool) (fun _ y _ => y) (fun _ _ n => n) (fun a w R y n => vWant (rd a R) (fun b => ifB (bEq b w) y n) n) g
def gdOf (all : List Oper) (o : Oper) : Gd := match o.guard with
  | none => .no
  | some (j, want) => match (all[j]?).bind (·.dst) with
    | none => .never
    | some t => .on (odT t) want
theorem xGd_of {all : List Oper} {o : Oper} {R : Rg} {T : Tr Value} {y n : Bool} (hR : RR R T) (h : xGd (gdOf all o) R y n = true) : (wantedB all T o = some true ∧ y = true) ∨ (wantedB all T o = some false ∧ n = true) := by
  unfold gdOf at h
  unfold wantedB
  cases hg : o.guard with
  | none => rw [hg] at h; exact .inl ⟨rfl, h⟩
  | some jw =>
    obtain ⟨j, want⟩ := jw
    rw [hg] at h
    simp only at h ⊢
    cases hd : (all[j]?).bind (·.dst) with
    | none => rw [hd] at h; exact .inr ⟨rfl, h⟩
    | some t =>
      rw [hd] at h
      simp only at h ⊢
      rcases vWant_of h with ⟨b, h1, h⟩ | ⟨h1, h⟩
      · rw [hR.odT t] at h1
        simp only [h1, ← bEq_eq]
        rcases ifB_of h with ⟨h2, h3⟩ | ⟨h2, h3⟩
        · exact .inl ⟨by rw [h2], h3⟩
        · exact .inr ⟨by rw [h2], h3⟩
      · rw [hR.odT t] at h1
        refine .inr ⟨?_, h⟩
        simp only [h1]
inductive Gi where
  | mk (g : Gd) (w : Ds) (c : Ci)
inductive Kx where
  | q | a | e
inductive DSt where
  | mk (kx : Kx) (i m : Nat) (fl : Bool) (g : Gd) (w : Ds) (c : Ci)
inductive XE where
  | mk (al : Bool) (i : Nat) (R : Rg) (v : Value) (c : Ci)
abbrev KR := Rg → FH → Nat → Bool
def nocall : CallX := fun _ _ _ _ _ => false
noncomputable def tb (m i : Nat) : Bool := Nat.beq (Nat.land (Nat.shiftRight m i) 1) 1
theorem tb_eq (m i : Nat) : tb m i = m.testBit i := by
  have h1 : (m >>> i) &&& 1 = (m >>> i) % 2 := Nat.and_one_is_mod _
  have h : tb m i = Nat.beq ((m >>> i) &&& 1) 1 := rfl
  rw [h, Nat.testBit_eq_decide_div_mod_eq, h1, Nat.shiftRight_eq_div_pow, Bool.eq_iff_iff, Nat.beq_eq, decide_eq_true_iff]
noncomputable def oNo (o : Option AObj) (x : Bool) : Bool := Option.rec (motive := fun _ => Bool) x (fun _ => false) o
noncomputable def oOb (o : Option AObj) (f : AObj → Bool) : Bool := Option.rec (motive := fun _ => Bool) false f o
section
variable (P : Program) (sy : Sy) (G : Nat)
noncomputable def xSeq (l : List Gi) : CallX → Rg → FH → Nat → KR → Bool := List.rec (motive := fun _ => CallX → Rg → FH → Nat → KR → Bool) (fun _ R H n k => k R H n)
  (fun i _ ih cx R H n k => Gi.rec (motive := fun _ => Bool) (fun g w c => xGd g R (xI P sy G c cx R H n fun v H n => wr w v R fun R => ih cx R H n k) (wr w undef R fun R => ih cx R H n k)) i) l
def cSeq (nt : Nat) (all l : List Oper) : List Gi := l.map fun o => .mk (gdOf all o) (ds nt o.dst) (cI P G o.op)
noncomputable def xAgain (x : XE) (base : Nat) (H : FH) : Bool := XE.rec (motive := fun _ => Bool) (fun al i R v c => Bool.rec (motive := fun _ => Bool) (xI P sy G c nocall R H 0 fun v' _ _ => veq v' v) (fN (Nat.add base i) fun id => xA P G c R id fun _ ob => oOb (hget id H) fun ob' => oeq ob ob') al) x
noncomputable def xAgains (m base : Nat) (H : FH) (l : List XE) : Bool := List.rec (motive := fun _ => Bool) true (fun x _ ih => ifB (XE.rec (motive := fun _ => Bool) (fun _ i _ _ _ => tb m i) x) ih (yes (xAgain P sy G x base H) ih)) l
noncomputable def xDs (l : List DSt) : CallX → Nat → Rg → FH → Nat → List XE → KR → Bool := List.rec (motive := fun _ => CallX → Nat → Rg → FH → Nat → List XE → KR → Bool) (fun _ _ R H n _ k => k R H n)
  (fun s _ ih cx base R H n es k => DSt.rec (motive := fun _ => Bool) (fun kx i m fl g w c => xGd g R
    (Kx.rec (motive := fun _ => Bool)
      (xI P sy G c cx R H n fun v _ _ => wr w v R fun R' => ifB fl (ih cx base R' H n (.mk false i R v c :: es) k) (ih cx base R' H n es k))
      (fN (Nat.add base i) fun id => xA P G c R id fun v ob => oNo (hget id H) (hput id (some ob) H fun H => wr w v R fun R' => ifB fl (ih cx base R' H n (.mk true i R v c :: es) k) (ih cx base R' H n es k)))
      (xI P sy G c cx R H n fun v H n => yes (xAgains P sy G m base H es) (wr w v R fun R => ih cx base R H n es k))
      kx)
    (wr w undef R fun R => ih cx base R H n es k)) s) l
def flag (ops : List Oper) (m : Array Nat) (i : Nat) (rest : List Nat) : Bool := rest.any fun e => ((ops[e]?).map fun o => isEff o.op).getD false && !bef m e i
def dList (nt : Nat) (ops : Array Oper) (m : Array Nat) : List Nat → Nat → Nat → Option (List DSt)
  | [], done, _ => (match Nat.beq done (2 ^ ops.size - 1) with | true => some [] | false => none)
  | i :: rest, done, effs => match ops.toList[i]?, within (m.getD i 0) done && !bit done i, within effs (m.getD i 0) with
    | some o, true, true => (match kind o.op with
      | .quiet => (match dList nt ops m rest (done ||| 2 ^ i) effs with | some l => some (.mk .q i 0 (flag ops.toList m i rest) (gdOf ops.toList o) (ds nt o.dst) (cQ P G o.op) :: l) | none => none)
      | .alloc => (match dList nt ops m rest (done ||| 2 ^ i) effs with | some l => some (.mk .a i 0 (flag ops.toList m i rest) (gdOf ops.toList o) (ds nt o.dst) (cA P G o.op) :: l) | none => none)
      | .eff => (match dList nt ops m rest (done ||| 2 ^ i) (effs ||| 2 ^ i) with | some l => some (.mk .e i (m.getD i 0) false (gdOf ops.toList o) (ds nt o.dst) (cE P G o.op) :: l) | none => none))
    | _, _, _ => none
def cD (nt : Nat) (ops : Array Oper) : Option (List DSt) := match statB ops with
  | true => dList P G nt ops (Region.before ops) (orderOf ops) 0 0
  | false => none
end
/-! ### A plain region -/
section
variable {P : Program} {sy : Sy} {G : Nat} {cx : CallX} {call : CallB} {nt : Nat}
theorem xSeq_of (hsy : SyT sy) (hc : CallEq cx call) {all : List Oper} : ∀ (l : List Oper) {R : Rg} {T : Tr Value} {H : FH} {t : Tr AObj} {n : Nat} {k : KR}, RR R T → HR H t → xSeq P sy G (cSeq P G nt all l) cx R H n k = true →
    ∃ T' h' R' H', evSeq P sy G nt call all l T ⟨t, n⟩ = some (T', h') ∧ RR R' T' ∧ HR H' h'.t ∧ k R' H' h'.next = true
  | [], R, T, H, t, n, k, hR, hH, h => ⟨T, ⟨t, n⟩, R, H, rfl, hR, hH, h⟩
  | o :: l, R, T, H, t, n, k, hR, hH, h => by
    have h' : xGd (gdOf all o) R (xI P sy G (cI P G o.op) cx R H n fun v H n => wr (ds nt o.dst) v R fun R => xSeq P sy G (cSeq P G nt all l) cx R H n k) (wr (ds nt o.dst) undef R fun R => xSeq P sy G (cSeq P G nt all l) cx R H n k) = true := h
    simp only [evSeq]
    rcases xGd_of hR h' with ⟨h1, h2⟩ | ⟨h1, h2⟩
    · obtain ⟨v, s, H', h3, h4, h5⟩ := cI_of hsy hc hR hH h2
      obtain ⟨R', T', h6, h7, h8⟩ := ds_of hR h5
      obtain ⟨s1, s2⟩ := s
      simp only [h1, h3, h6]
      exact xSeq_of hsy hc l h7 h4 h8
    · obtain ⟨R', T', h6, h7, h8⟩ := ds_of hR h2
      simp only [h1, h6]
      exact xSeq_of hsy hc l h7 hH h8
/-! ### A region that draws its order -/
/-- What is read again later stands in the short list. -/
def Held (P : Program) (G : Nat) (es : List XE) (x : Ent) : Prop := ∃ R, RR R x.T ∧ ((kind x.o = .quiet ∧ XE.mk false x.i R x.v (cQ P G x.o) ∈ es) ∨ (kind x.o = .alloc ∧ XE.mk true x.i R x.v (cA P G x.o) ∈ es))
def Good (ops : List Oper) (m : Array Nat) (rest : List Nat) (x : Ent) : Prop := ∀ e ∈ rest, ((ops[e]?).map fun o => isEff o.op).getD false = true → bef m e x.i = true
theorem flag_good {ops : List Oper} {m : Array Nat} {i : Nat} {rest : List Nat} (h : flag ops m i rest = false) {x : Ent} (hx : x.i = i) : Good ops m rest x := fun e he hef => by
  unfold flag at h
  rw [List.any_eq_false] at h
  have := h e he
  rw [hef, Bool.true_and, Bool.not_eq_true, Bool.not_eq_false'] at this
  rw [hx]
  exact this
theorem agains_mem {m base : Nat} {H : FH} : ∀ {es : List XE}, xAgains P sy G m base H es = true → ∀ al i R v c, XE.mk al i R v c ∈ es → m.testBit i = true ∨ xAgain P sy G (.mk al i R v c) base H = true
  | [], _, al, i, R, v, c, hm => by cases hm
  | .mk al' i' R' v' c' :: es, h, al, i, R, v, c, hm => by
    have h' : ifB (tb m i') (xAgains P sy G m base H es) (yes (xAgain P sy G (.mk al' i' R' v' c') base H) (xAgains P sy G m base H es)) = true := h
    have hrest : xAgains P sy G m base H es = true := by
      rcases ifB_of h' with ⟨_, h⟩ | ⟨_, h⟩
      · exact h
      · exact (yes_of h).2
    rcases List.mem_cons.1 hm with e | hm
    · cases e
      rcases ifB_of h' with ⟨h1, _⟩ | ⟨_, h⟩
      · exact .inl (by rw [← tb_eq]; exact h1)
      · exact .inr (yes_of h).1
    · exact agains_mem hrest al i R v c hm
theorem again_of (hsy : SyT sy) {m : Array Nat} {e base : Nat} {H : FH} {t : Tr AObj} (hH : HR H t) {es : List XE} (h : xAgains P sy G (m.getD e 0) base H es = true) {x : Ent} (hx : Held P G es x) : (bef m e x.i || again P sy G base t x) = true := by
  obtain ⟨R, hR, hx⟩ := hx
  rw [Bool.or_eq_true]
  rcases hx with ⟨hk, hm⟩ | ⟨hk, hm⟩
  · rcases agains_mem h _ _ _ _ _ hm with h1 | h1
    · exact .inl h1
    · right
      have h2 : xI P sy G (cQ P G x.o) nocall R H 0 (fun v' _ _ => veq v' x.v) = true := h1
      obtain ⟨v, h3, h4⟩ := cQ_of hsy hR hH h2
      unfold again
      simp only [hk, h3]
      exact h4
  · rcases agains_mem h _ _ _ _ _ hm with h1 | h1
    · exact .inl h1
    · right
      have h2 : xA P G (cA P G x.o) R (base + x.i) (fun _ ob => oOb (hget (base + x.i) H) fun ob' => oeq ob ob') = true := h1
      obtain ⟨v, ob, h3, h4⟩ := cA_of hR h2
      unfold again
      simp only [hk, h3]
      rw [hH]
      cases ho : hget (base + x.i) H with
      | none => rw [ho] at h4; cases h4
      | some ob' => rw [ho] at h4; exact h4
theorem agains_of {m : Array Nat} {e base : Nat} {t : Tr AObj} : ∀ {l : List Ent}, (∀ x ∈ l, (bef m e x.i || again P sy G base t x) = true) → allAgain P sy G m base e t l = true
  | [], _ => rfl
  | x :: l, h => by
    unfold allAgain
    rw [h x (List.mem_cons_self ..)]
    exact agains_of fun y hy => h y (List.mem_cons_of_mem _ hy)
theorem sub_within {a b c : Nat} (h : within b c = true) (hs : ∀ j, bit a j = true → bit b j = true) : within a c = true := by
  unfold within
  rw [Nat.beq_eq]
  apply Nat.eq_of_testBit_eq
  intro j
  rw [Nat.testBit_and]
  cases ha : a.testBit j with
  | false => rw [Bool.false_and]
  | true =>
    have := within_spec h (hs j ha)
    rw [show c.testBit j = true from this]
    rfl
theorem xDs_of (hsy : SyT sy) (hc : CallEq cx call) {ops : Array Oper} {m : Array Nat} {base : Nat} : ∀ (order : List Nat) {l : List DSt} {done es ed : Nat} {R : Rg} {T : Tr Value} {H : FH} {t : Tr AObj} {n : Nat} {xs : List XE} {ents : List Ent} {k : KR},
    dList P G nt ops m order done es = some l → (∀ j, bit ed j = true → bit es j = true) → (∀ x ∈ ents, Good ops.toList m order x ∨ Held P G xs x) → RR R T → HR H t → xDs P sy G l cx base R H n xs k = true →
    ∃ T' h' d' R' H', dRun P sy G nt call ops.toList m base order T ⟨t, n⟩ done ed ents = some (T', h', d') ∧ Nat.beq d' (2 ^ ops.size - 1) = true ∧ RR R' T' ∧ HR H' h'.t ∧ k R' H' h'.next = true
  | [], l, done, es, ed, R, T, H, t, n, xs, ents, k, hl, hsub, hents, hR, hH, h => by
    unfold dList at hl
    split at hl <;> try (cases hl; done)
    rename_i hb
    cases hl
    exact ⟨T, ⟨t, n⟩, done, R, H, rfl, hb, hR, hH, h⟩
  | i :: rest, l, done, es, ed, R, T, H, t, n, xs, ents, k, hl, hsub, hents, hR, hH, h => by
    unfold dList at hl
    split at hl <;> try (cases hl; done)
    rename_i o h1 h2 h3
    have h3' := sub_within h3 hsub
    have down : ∀ x, Good ops.toList m (i :: rest) x ∨ Held P G xs x → Good ops.toList m rest x ∨ Held P G xs x := fun x hx => hx.imp (fun h e he => h e (List.mem_cons_of_mem _ he)) id
    have more : ∀ x y, Held P G xs x → Held P G (y :: xs) x := fun x y ⟨R, a, b⟩ => ⟨R, a, b.imp (fun ⟨p, q⟩ => ⟨p, List.mem_cons_of_mem _ q⟩) (fun ⟨p, q⟩ => ⟨p, List.mem_cons_of_mem _ q⟩)⟩
    simp only [dRun, h1, h2]
    split at hl
    · rename_i hk
      split at hl <;> try (cases hl; done)
      rename_i l' hl'
      cases hl
      have h' : xGd (gdOf ops.toList o) R (xI P sy G (cQ P G o.op) cx R H n fun v _ _ => wr (ds nt o.dst) v R fun R' => ifB (flag ops.toList m i rest) (xDs P sy G l' cx base R' H n (.mk false i R v (cQ P G o.op) :: xs) k) (xDs P sy G l' cx base R' H n xs k)) (wr (ds nt o.dst) undef R fun R => xDs P sy G l' cx base R H n xs k) = true := h
      rcases xGd_of hR h' with ⟨g1, g2⟩ | ⟨g1, g2⟩
      · obtain ⟨v, q1, q2⟩ := cQ_of hsy hR hH g2
        obtain ⟨R', T', q3, q4, q5⟩ := ds_of hR q2
        simp only [g1, hk, h3', q1, q3]
        rcases ifB_of q5 with ⟨f1, f2⟩ | ⟨f1, f2⟩
        · refine xDs_of hsy hc rest hl' hsub (fun x hx => ?_) q4 hH f2
          rcases List.mem_cons.1 hx with rfl | hx
          · exact .inr ⟨R, hR, .inl ⟨hk, List.mem_cons_self ..⟩⟩
          · exact (down x (hents x hx)).imp id (more x _)
        · refine xDs_of hsy hc rest hl' hsub (fun x hx => ?_) q4 hH f2
          rcases List.mem_cons.1 hx with rfl | hx
          · exact .inl (flag_good f1 rfl)
          · exact down x (hents x hx)
      · obtain ⟨R', T', q3, q4, q5⟩ := ds_of hR g2
        simp only [g1, q3]
        exact xDs_of hsy hc rest hl' hsub (fun x hx => down x (hents x hx)) q4 hH q5
    · rename_i hk
      split at hl <;> try (cases hl; done)
      rename_i l' hl'
      cases hl
      have h' : xGd (gdOf ops.toList o) R (xA P G (cA P G o.op) R (base + i) fun v ob => oNo (hget (base + i) H) (hput (base + i) (some ob) H fun H => wr (ds nt o.dst) v R fun R' => ifB (flag ops.toList m i rest) (xDs P sy G l' cx base R' H n (.mk true i R v (cA P G o.op) :: xs) k) (xDs P sy G l' cx base R' H n xs k))) (wr (ds nt o.dst) undef R fun R => xDs P sy G l' cx base R H n xs k) = true := h
      rcases xGd_of hR h' with ⟨g1, g2⟩ | ⟨g1, g2⟩
      · obtain ⟨v, ob, q1, q2⟩ := cA_of hR g2
        cases hno : hget (base + i) H with
        | some ob' => rw [hno] at q2; cases q2
        | none =>
          rw [hno] at q2
          obtain ⟨H', q6, q7⟩ := hput_of hH q2
          obtain ⟨R', T', q3, q4, q5⟩ := ds_of hR q7
          have hno' : t.at_ (base + i) = none := (hH _).trans hno
          simp only [g1, hk, h3', q1, hno', q3]
          rcases ifB_of q5 with ⟨f1, f2⟩ | ⟨f1, f2⟩
          · refine xDs_of hsy hc rest hl' hsub (fun x hx => ?_) q4 q6 f2
            rcases List.mem_cons.1 hx with rfl | hx
            · exact .inr ⟨R, hR, .inr ⟨hk, List.mem_cons_self ..⟩⟩
            · exact (down x (hents x hx)).imp id (more x _)
          · refine xDs_of hsy hc rest hl' hsub (fun x hx => ?_) q4 q6 f2
            rcases List.mem_cons.1 hx with rfl | hx
            · exact .inl (flag_good f1 rfl)
            · exact down x (hents x hx)
      · obtain ⟨R', T', q3, q4, q5⟩ := ds_of hR g2
        simp only [g1, q3]
        exact xDs_of hsy hc rest hl' hsub (fun x hx => down x (hents x hx)) q4 hH q5
    · rename_i hk
      split at hl <;> try (cases hl; done)
      rename_i l' hl'
      cases hl
      have h' : xGd (gdOf ops.toList o) R (xI P sy G (cE P G o.op) cx R H n fun v H n => yes (xAgains P sy G (m.getD i 0) base H xs) (wr (ds nt o.dst) v R fun R => xDs P sy G l' cx base R H n xs k)) (wr (ds nt o.dst) undef R fun R => xDs P sy G l' cx base R H n xs k) = true := h
      have hsub' : ∀ e', (e' = ed ∨ e' = ed ||| 2 ^ i) → ∀ j, bit e' j = true → bit (es ||| 2 ^ i) j = true := fun e' he j hj => by
        rw [bit_or]
        rcases he with rfl | rfl
        · rw [hsub j hj]; rfl
        · rw [bit_or, Bool.or_eq_true] at hj
          rcases hj with hj | hj
          · rw [hsub j hj]; rfl
          · rw [hj, Bool.or_true]
      rcases xGd_of hR h' with ⟨g1, g2⟩ | ⟨g1, g2⟩
      · obtain ⟨v, s, H', q1, q6, q2⟩ := cE_of hc hR hH g2
        obtain ⟨q7, q2⟩ := yes_of q2
        obtain ⟨R', T', q3, q4, q5⟩ := ds_of hR q2
        obtain ⟨s1, s2⟩ := s
        have hag : allAgain P sy G m base i s1 ents = true := agains_of fun x hx => by
          rcases hents x hx with hg | hg
          · rw [hg i (List.mem_cons_self ..) (by rw [h1]; simp [isEff, hk])]; rfl
          · exact again_of hsy q6 q7 hg
        simp only [g1, hk, h3', q1, hag, q3]
        exact xDs_of hsy hc rest hl' (hsub' _ (.inr rfl)) (fun x hx => down x (hents x hx)) q4 q6 q5
      · obtain ⟨R', T', q3, q4, q5⟩ := ds_of hR g2
        simp only [g1, q3]
        exact xDs_of hsy hc rest hl' (hsub' _ (.inl rfl)) (fun x hx => down x (hents x hx)) q4 hH q5
theorem xD_of (hsy : SyT sy) (hc : CallEq cx call) {ops : Array Oper} {l : List DSt} (hl : cD P G nt ops = some l) {R : Rg} {T : Tr Value} {H : FH} {t : Tr AObj} {n : Nat} {k : KR} (hR : RR R T) (hH : HR H t) (h : xDs P sy G l cx n R H (n + ops.size) [] k = true) :
    ∃ T' h' R' H', evD P sy G nt call ops T ⟨t, n⟩ = some (T', h') ∧ RR R' T' ∧ HR H' h'.t ∧ k R' H' h'.next = true := by
  unfold cD at hl
  split at hl <;> try (cases hl; done)
  rename_i hst
  obtain ⟨T', h', d', R', H', h1, h2, h3, h4, h5⟩ := xDs_of (ents := []) hsy hc (orderOf ops) hl (fun j hj => hj) (fun x hx => by cases hx) hR hH h
  exact ⟨T', h', R', H', by unfold evD; simp only [hst, h1, h2], h3, h4, h5⟩
end
end Go.Fv
