/-
  A run of a closed call as plain functions: code and calls. THE RUN COMES TO WHAT THE TREE'S RUN COMES TO (fastw_ev). No program in sight.
-/
import Derived.Test.YtenigphjddnknaaGreatDoorFwC
import Derived.Test.YtenigphjddnknaaGreatDoorFkA
set_option linter.unusedVariables false
namespace Go.Fw
open Go Go.Eva Go.Fv Go.RowKit Go.Mix Go.Viv

abbrev RegF := Mc → Rf → FH → Nat → KR → Bool
inductive CX where
  | skip
  | reg (f : RegF)
  | dfr (f : RegF) (g : Nat) (q : Rf → (List Value → Bool) → Bool)
  | seq (a b : CX)
  | cond (q : Rf → (Value → Bool) → Bool) (a b : CX)
  | blk (id : Nat) (b : CX)
  | loop (b : CX)
  | scope (b : CX)
  | exit (id : Nat)
  | ret
  | bad
abbrev EntF := List Value → (Rf → Bool) → Bool
abbrev ResF := Mc → Rf → FH → (Value → Bool) → Bool
inductive SF where
  | mk (e : EntF) (c : CX) (r : ResF)
  | bad
abbrev KE := Ex → Rf → FH → Nat → Bool
abbrev XC := CX → Mc → Rf → FH → Nat → KE → Bool
abbrev XK := XC → Mc → Rf → FH → Nat → KE → Bool
abbrev KS := Ex → Rf → FH → Nat → Df → Bool
abbrev XS := CX → Mc → Rf → FH → Nat → Df → KS → Bool
noncomputable def kSkip : XK := fun _ _ R H n k => k .normal R H n
noncomputable def kReg (f : RegF) : XK := fun _ m R H n k => f m R H n fun R H n => k .normal R H n
noncomputable def kSeq (a b : CX) : XK := fun ih m R H n k => ih a m R H n fun e R H n => onEx e (ih b m R H n k) (fun id => k (.exit id) R H n) (k .ret R H n)
noncomputable def kCond (q : Rf → (Value → Bool) → Bool) (a b : CX) : XK := fun ih m R H n k => q R fun v => vBool v (ih a m R H n k) (ih b m R H n k) (vTok v fun c => yes (testB m.sy c) (ih a m R H n fun e1 R1 H1 n1 => onEx e1 (ih b m R H n fun e2 R2 H2 n2 => onEx e2 (fN (mxn n1 n2) fun n => k .normal (jRf m.sy c R1 R2) (jFH m.sy c H1 H2) n) (fun _ => false) false) (fun _ => false) false))
noncomputable def kBlk (id : Nat) (b : CX) : XK := fun ih m R H n k => ih b m R H n fun e R H n => onEx e (k .normal R H n) (fun id' => ifB (Nat.beq id' id) (k .normal R H n) (k (.exit id') R H n)) (k .ret R H n)
noncomputable def kLoop (b : CX) : XK := fun ih m R H n k => ih b m R H n fun e R H n => onEx e (ih (.loop b) m R H n k) (fun id => k (.exit id) R H n) (k .ret R H n)
noncomputable def kScope (b : CX) : XK := fun ih m R H n k => ih b m R H n k
noncomputable def kExit (id : Nat) : XK := fun _ _ R H n k => k (.exit id) R H n
noncomputable def kRet : XK := fun _ _ R H n k => k .ret R H n
noncomputable def kBad : XK := fun _ _ _ _ _ _ => false
noncomputable def xK (c : CX) : XK := CX.rec (motive := fun _ => XK) kSkip kReg (fun _ _ _ => kBad) (fun a b _ _ => kSeq a b) (fun x a b _ _ => kCond x a b) (fun id b _ => kBlk id b) (fun b _ => kLoop b) (fun b _ => kScope b) kExit kRet kBad c
noncomputable def xC (f : Nat) : XC := Nat.rec (motive := fun _ => XC) (fun _ _ _ _ _ _ => false) (fun _ ih c => xK c ih) f
abbrev SK := XS → XC → Mc → Rf → FH → Nat → Df → KS → Bool
noncomputable def sReg (f : RegF) : SK := fun _ _ m R H n d k => f m R H n fun R H n => k .normal R H n d
noncomputable def sDfr (f : RegF) (g : Nat) (q : Rf → (List Value → Bool) → Bool) : SK := fun _ _ m R H n d k => Df.rec (motive := fun _ => Bool) (f m R H n fun R H n => q R fun vs => k .normal R H n (.some g vs)) (fun _ _ => false) d
noncomputable def sSeq (a b : CX) : SK := fun ih _ m R H n d k => ih a m R H n d fun e R H n d => onEx e (ih b m R H n d k) (fun id => k (.exit id) R H n d) (k .ret R H n d)
noncomputable def sOth (c : CX) : SK := fun _ xc m R H n d k => xc c m R H n fun e R H n => k e R H n d
noncomputable def xSK (c : CX) : SK := CX.rec (motive := fun _ => SK) (sOth .skip) sReg sDfr (fun a b _ _ => sSeq a b) (fun x a b _ _ => sOth (.cond x a b)) (fun id b _ => sOth (.blk id b)) (fun b _ => sOth (.loop b)) (fun b _ => sOth (.scope b)) (fun id => sOth (.exit id)) (sOth .ret) (sOth .bad) c
noncomputable def xS (f : Nat) : XS := Nat.rec (motive := fun _ => XS) (fun _ _ _ _ _ _ _ => false) (fun f ih c => xSK c ih (xC (Nat.succ f))) f
noncomputable def xBody (K : Nat) (m : Mc) (sf : SF) (args : List Value) (H : FH) (n : Nat) (k : ResF → Rf → FH → Nat → Df → Bool) : Bool := SF.rec (motive := fun _ => Bool) (fun en c rs => en args fun R => xS K c m R H n .no fun e R H n d => onEx e (k rs R H n d) (fun _ => false) (k rs R H n d)) false sf
noncomputable def xM (K : Nat) (tf : Nat → SF) (g : Nat) (args : List Value) (H : FH) (n : Nat) (k : KV) (m : Mc) : Bool :=
  xBody K m (tf g) args H n fun rs R H n d => Df.rec (motive := fun _ => Bool) (rs m R H fun v => k v H n)
    (fun g2 a2 => xBody K m (tf g2) a2 H n fun rs2 R2 H n d2 => Df.rec (motive := fun _ => Bool) (rs2 m R2 H fun _ => rs m R H fun v => k v H n) (fun _ _ => false) d2) d
/-- Calls that are not looked into. -/
abbrev IcF := Nat → List Value → FH → Nat → KV → Bool → Bool
noncomputable def xW (P : Program) (sy : Sy) (G : Nat) (tf : Nat → SF) (ic : IcF) (K d : Nat) : CallX := Nat.rec (motive := fun _ => CallX) (fun _ _ _ _ _ => false) (fun _ ih g args H n k => ic g args H n k (xM K tf g args H n k ⟨P, sy, G, ih⟩)) d
def IcOK (ic : IcF) (tb : Tb) : Prop := ∀ g l H t n k d, HR H t → ic g l H n k d = true → (tb.at_ g = none ∧ d = true) ∨ ∃ c v h' H', tb.at_ g = some c ∧ c l ⟨t, n⟩ = some (v, h') ∧ HR H' h'.t ∧ k v H' h'.next = true
/-! ### A function's plain form -/
noncomputable def un (l : List Value) (x : Bool) : Bool := List.rec (motive := fun _ => Bool) x (fun _ _ _ => false) l
noncomputable def uc (l : List Value) (f : Value → List Value → Bool) : Bool := List.rec (motive := fun _ => Bool) false (fun v l _ => f v l) l
section
variable (P : Program) (G nt : Nat) (K : List Nat)
noncomputable def entL : Nat → Nat → List Value → Rf → (Rf → Bool) → Bool
  | 0, _, args, R, k => un args (k R)
  | p + 1, i, args, R, k => uc args fun v args => entL p (i + 1) args (match slotOf K i with | some s => pS s v R | none => R) k
noncomputable def entS (np : Nat) : EntF := fun args k => match Nat.ble np nt with
  | true => entL K np 0 args R0 k
  | false => false
noncomputable def resL : List ResultVar → Mc → Rf → FH → (List Value → Bool) → Bool
  | [], _, _, _, k => k []
  | .tmp t :: l, m, R, H, k => rdO G K [] (.tmp t) R fun v => resL l m R H fun vs => k (v :: vs)
  | .cell a t :: l, m, R, H, k => rdO G K [] (.tmp a) R fun u => semL P t u H fun v => resL l m R H fun vs => k (v :: vs)
noncomputable def resS (l : List ResultVar) : ResF := fun m R H k => resL P G K l m R H fun vs => k (packB vs)
/-- Regions of the list B are left out: they are never come to. -/
noncomputable def cX (B : List Nat) : Code → CX
  | .skip => .skip
  | .label _ => .skip
  | .region id ops false => match B.contains id with | true => .bad | false => (match defOf ops.toList with
    | none => .reg fun m R H n k => denS P G nt K ops.toList ops.toList [] m R H n k
    | some c => (match c.callee with
      | .value (.func g) => (match okFn P g with | true => .dfr (fun m R H n k => denS P G nt K ops.toList ops.toList.dropLast [] m R H n k) g (fun R k => rdL G K [] c.args.toList R k) | false => .bad)
      | _ => .bad))
  | .region id ops true => match B.contains id with | true => .bad | false => .reg fun m R H n k => denR P G nt K ops m R H n k
  | .seq a b => .seq (cX B a) (cX B b)
  | .cond x a b => .cond (fun R k => rdO G K [] x R k) (cX B a) (cX B b)
  | .block id b => .blk id (cX B b)
  | .loop b => .loop (cX B b)
  | .scope b => .scope (cX B b)
  | .exit id => .exit id
  | .ret => .ret
  | _ => .bad
noncomputable def sfOf (B : List Nat) (np g : Nat) : SF := match P.funcs[g]? with
  | some fn => (match fn.body with
    | some c => .mk (entS fn.ntmps K np) (cX P G fn.ntmps K B c) (resS P G K fn.results.toList)
    | none => .bad)
  | none => .bad
end
section
variable {β : Nat → Bool} {m : Mc} {call : CallB} {nt : Nat} {K B : List Nat}
theorem envNil {T : Tr Value} : EnvOK [] T := fun t v h => by cases h
theorem xC_of (hsy : SyT (syb β m.sy)) (hc : CallEq m.cx call) : ∀ (f : Nat) (c : Code) {R : Rf} {T : Tr Value} {H : FH} {t : Tr AObj} {n : Nat} {k : KE}, RK K R T → HR H t → xC f (cX m.P m.G nt K B c) m R H n k = true →
    ∃ e T' h' R' H', evC m.P (syb β m.sy) m.G nt call (evD m.P (syb β m.sy) m.G nt call) f c T ⟨t, n⟩ = some (e, T', h') ∧ RK K R' T' ∧ HR H' h'.t ∧ k e R' H' h'.next = true
  | 0, c, R, T, H, t, n, k, hR, hH, h => by cases h
  | f + 1, c, R, T, H, t, n, k, hR, hH, h => by
    have h0 : xK (cX m.P m.G nt K B c) (xC f) m R H n k = true := h
    have ih := xC_of hsy hc f
    cases c with
    | skip => exact ⟨.normal, T, ⟨t, n⟩, R, H, rfl, hR, hH, h0⟩
    | label l => exact ⟨.normal, T, ⟨t, n⟩, R, H, rfl, hR, hH, h0⟩
    | exit id => exact ⟨.exit id, T, ⟨t, n⟩, R, H, rfl, hR, hH, h0⟩
    | ret => exact ⟨.ret, T, ⟨t, n⟩, R, H, rfl, hR, hH, h0⟩
    | goto l => cases h0
    | refuse y => cases h0
    | rangeFunc f' p' a' b' => cases h0
    | region id ops dr =>
      cases dr with
      | false =>
        simp only [cX] at h0
        split at h0
        · cases h0
        split at h0
        · obtain ⟨T', h', R', H', q1, q2, q3, q4⟩ := denS_of hsy hc _ hR envNil hH h0
          exact ⟨.normal, T', h', R', H', by simp only [evC, q1], q2, q3, q4⟩
        · split at h0
          · split at h0 <;> cases h0
          · cases h0
      | true =>
        simp only [cX] at h0
        split at h0
        · cases h0
        obtain ⟨T', h', R', H', q1, q2, q3, q4⟩ := denR_of hsy hc hR hH h0
        exact ⟨.normal, T', h', R', H', by simp only [evC, q1], q2, q3, q4⟩
    | seq a b =>
      obtain ⟨e, T1, h1, R1, H1, q1, q2, q3, q4⟩ := ih a hR hH h0
      obtain ⟨t1, n1⟩ := h1
      rcases onEx_of q4 with ⟨rfl, q⟩ | ⟨id, rfl, q⟩ | ⟨rfl, q⟩
      · obtain ⟨e, T2, h2, R2, H2, p1, p2, p3, p4⟩ := ih b q2 q3 q
        exact ⟨e, T2, h2, R2, H2, by simp only [evC, q1, p1], p2, p3, p4⟩
      · exact ⟨.exit id, T1, ⟨t1, n1⟩, R1, H1, by simp only [evC, q1], q2, q3, q⟩
      · exact ⟨.ret, T1, ⟨t1, n1⟩, R1, H1, by simp only [evC, q1], q2, q3, q⟩
    | cond x a b =>
      have h1 : rdO m.G K [] x R (fun v => vBool v (xC f (cX m.P m.G nt K B a) m R H n k) (xC f (cX m.P m.G nt K B b) m R H n k) (vTok v fun c => yes (testB m.sy c) (xC f (cX m.P m.G nt K B a) m R H n fun e1 R1 H1 n1 => onEx e1 (xC f (cX m.P m.G nt K B b) m R H n fun e2 R2 H2 n2 => onEx e2 (fN (mxn n1 n2) fun n => k .normal (jRf m.sy c R1 R2) (jFH m.sy c H1 H2) n) (fun _ => false) false) (fun _ => false) false))) = true := h0
      rcases vBool_of (rdO_of hR envNil h1) with ⟨q, p⟩ | ⟨q, p⟩ | p
      · obtain ⟨e, T2, h2, R2, H2, p1, p2, p3, p4⟩ := ih a hR hH p
        exact ⟨e, T2, h2, R2, H2, by simp only [evC, q, p1], p2, p3, p4⟩
      · obtain ⟨e, T2, h2, R2, H2, p1, p2, p3, p4⟩ := ih b hR hH p
        exact ⟨e, T2, h2, R2, H2, by simp only [evC, q, p1], p2, p3, p4⟩
      · obtain ⟨c, q, p⟩ := vTok_of p
        obtain ⟨ht, p⟩ := yes_of p
        obtain ⟨e1, T1, ⟨t1, n1⟩, R1, H1, p1, p2, p3, p4⟩ := ih a hR hH p
        rcases onEx_of p4 with ⟨rfl, p4⟩ | ⟨id, _, p4⟩ | ⟨_, p4⟩ <;> try (cases p4; done)
        obtain ⟨e2, T2, ⟨t2, n2⟩, R2, H2, q1, q2, q3, q4⟩ := ih b hR hH p4
        rcases onEx_of q4 with ⟨rfl, q4⟩ | ⟨id, _, q4⟩ | ⟨_, q4⟩ <;> try (cases q4; done)
        exact ⟨.normal, _, joinH m.sy c ⟨t1, n1⟩ ⟨t2, n2⟩, _, _, by simp only [evC, q, testB_syb, ht, p1, q1, joinH_syb, joinT_syb], RK.join p2 q2, HR.join p3 q3, q4⟩
    | block id b =>
      obtain ⟨e, T1, h1, R1, H1, q1, q2, q3, q4⟩ := ih b hR hH h0
      rcases onEx_of q4 with ⟨rfl, q⟩ | ⟨id', rfl, q⟩ | ⟨rfl, q⟩
      · exact ⟨.normal, T1, h1, R1, H1, by simp only [evC, q1], q2, q3, q⟩
      · rcases ifB_of q with ⟨p, q⟩ | ⟨p, q⟩
        · exact ⟨.normal, T1, h1, R1, H1, by simp only [evC, q1, p], q2, q3, q⟩
        · exact ⟨.exit id', T1, h1, R1, H1, by simp only [evC, q1, p], q2, q3, q⟩
      · exact ⟨.ret, T1, h1, R1, H1, by simp only [evC, q1], q2, q3, q⟩
    | loop b =>
      obtain ⟨e, T1, h1, R1, H1, q1, q2, q3, q4⟩ := ih b hR hH h0
      obtain ⟨t1, n1⟩ := h1
      rcases onEx_of q4 with ⟨rfl, q⟩ | ⟨id, rfl, q⟩ | ⟨rfl, q⟩
      · obtain ⟨e, T2, h2, R2, H2, p1, p2, p3, p4⟩ := ih (.loop b) q2 q3 q
        exact ⟨e, T2, h2, R2, H2, by simp only [evC, q1, p1], p2, p3, p4⟩
      · exact ⟨.exit id, T1, ⟨t1, n1⟩, R1, H1, by simp only [evC, q1], q2, q3, q⟩
      · exact ⟨.ret, T1, ⟨t1, n1⟩, R1, H1, by simp only [evC, q1], q2, q3, q⟩
    | scope b =>
      obtain ⟨e, T2, h2, R2, H2, p1, p2, p3, p4⟩ := ih b hR hH h0
      exact ⟨e, T2, h2, R2, H2, by simp only [evC, p1], p2, p3, p4⟩
theorem xS_of (hsy : SyT (syb β m.sy)) (hc : CallEq m.cx call) : ∀ (f : Nat) (c : Code) {R : Rf} {T : Tr Value} {H : FH} {t : Tr AObj} {n : Nat} {d : Df} {k : KS}, RK K R T → HR H t → xS f (cX m.P m.G nt K B c) m R H n d k = true →
    ∃ e T' h' R' H' d', evS m.P (syb β m.sy) m.G nt call (evD m.P (syb β m.sy) m.G nt call) f c T ⟨t, n⟩ (dfV d) = some (e, T', h', dfV d') ∧ RK K R' T' ∧ HR H' h'.t ∧ k e R' H' h'.next d' = true
  | 0, c, R, T, H, t, n, d, k, hR, hH, h => by cases h
  | f + 1, c, R, T, H, t, n, d, k, hR, hH, h => by
    have h0 : xSK (cX m.P m.G nt K B c) (xS f) (xC (f + 1)) m R H n d k = true := h
    have oth : ∀ {c : Code}, (∀ a b, c ≠ .seq a b) → (∀ id ops, c ≠ .region id ops false) → xC (f + 1) (cX m.P m.G nt K B c) m R H n (fun e R H n => k e R H n d) = true →
        ∃ e T' h' R' H' d', evS m.P (syb β m.sy) m.G nt call (evD m.P (syb β m.sy) m.G nt call) (f + 1) c T ⟨t, n⟩ (dfV d) = some (e, T', h', dfV d') ∧ RK K R' T' ∧ HR H' h'.t ∧ k e R' H' h'.next d' = true := fun {c} h1 h2 hx => by
      obtain ⟨e, T', h', R', H', q1, q2, q3, q4⟩ := xC_of hsy hc (f + 1) c hR hH hx
      refine ⟨e, T', h', R', H', d, ?_, q2, q3, q4⟩
      unfold evS
      split
      · exact absurd rfl (h1 _ _)
      · exact absurd rfl (h2 _ _)
      · simp only [q1]
    cases c with
    | seq a b =>
      obtain ⟨e, T1, h1, R1, H1, d1, q1, q2, q3, q4⟩ := xS_of hsy hc f a hR hH h0
      obtain ⟨t1, n1⟩ := h1
      rcases onEx_of q4 with ⟨rfl, q⟩ | ⟨id, rfl, q⟩ | ⟨rfl, q⟩
      · obtain ⟨e, T2, h2, R2, H2, d2, p1, p2, p3, p4⟩ := xS_of hsy hc f b q2 q3 q
        exact ⟨e, T2, h2, R2, H2, d2, by simp only [evS, q1, p1], p2, p3, p4⟩
      · exact ⟨.exit id, T1, ⟨t1, n1⟩, R1, H1, d1, by simp only [evS, q1], q2, q3, q⟩
      · exact ⟨.ret, T1, ⟨t1, n1⟩, R1, H1, d1, by simp only [evS, q1], q2, q3, q⟩
    | region id ops dr =>
      cases dr with
      | true =>
        refine oth (fun a b e => by cases e) (fun i o e => by cases e) ?_
        simp only [cX] at h0 ⊢
        split at h0
        · exact h0
        · exact h0
      | false =>
        simp only [cX] at h0
        split at h0
        · cases h0
        split at h0
        · rename_i hdf
          obtain ⟨T', h', R', H', q1, q2, q3, q4⟩ := denS_of hsy hc _ hR envNil hH h0
          exact ⟨.normal, T', h', R', H', d, by simp only [evS, hdf, q1], q2, q3, q4⟩
        · rename_i c hdf
          split at h0
          · rename_i g hcal
            split at h0
            · rename_i hok
              cases d with
              | some g' l' => cases h0
              | no =>
                obtain ⟨T', h', R', H', q1, q2, q3, q4⟩ := denS_of hsy hc _ hR envNil hH h0
                have q4 := rdL_of q2 envNil q4
                refine ⟨.normal, T', h', R', H', .some g (c.args.toList.map (evl m.G T')), ?_, q2, q3, q4⟩
                simp only [evS, hdf, q1, dfV, dfrB, hcal, hok]
                rfl
            · cases h0
          · cases h0
    | skip => exact oth (fun a b e => by cases e) (fun i o e => by cases e) h0
    | label l => exact oth (fun a b e => by cases e) (fun i o e => by cases e) h0
    | exit id => exact oth (fun a b e => by cases e) (fun i o e => by cases e) h0
    | ret => exact oth (fun a b e => by cases e) (fun i o e => by cases e) h0
    | goto l => exact oth (fun a b e => by cases e) (fun i o e => by cases e) h0
    | refuse y => exact oth (fun a b e => by cases e) (fun i o e => by cases e) h0
    | rangeFunc f' p' a' b' => exact oth (fun a b e => by cases e) (fun i o e => by cases e) h0
    | cond x a b => exact oth (fun a b e => by cases e) (fun i o e => by cases e) h0
    | block id b => exact oth (fun a b e => by cases e) (fun i o e => by cases e) h0
    | loop b => exact oth (fun a b e => by cases e) (fun i o e => by cases e) h0
    | scope b => exact oth (fun a b e => by cases e) (fun i o e => by cases e) h0
theorem un_of {l : List Value} {x : Bool} (h : un l x = true) : l = [] ∧ x = true := by
  cases l with
  | nil => exact ⟨rfl, h⟩
  | cons v l => cases h
theorem uc_of {l : List Value} {f : Value → List Value → Bool} (h : uc l f = true) : ∃ v l', l = v :: l' ∧ f v l' = true := by
  cases l with
  | nil => cases h
  | cons v l => exact ⟨v, l, rfl, h⟩
theorem entL_of : ∀ {p i : Nat} {args : List Value} {R : Rf} {T : Tr Value} {k : Rf → Bool}, RK K R T → entL K p i args R k = true → ∃ R', RK K R' (args0 args i T) ∧ args.length = p ∧ k R' = true
  | 0, i, args, R, T, k, hR, h => by
    obtain ⟨rfl, h⟩ := un_of h
    exact ⟨R, hR, rfl, h⟩
  | p + 1, i, args, R, T, k, hR, h => by
    obtain ⟨v, l, rfl, h⟩ := uc_of h
    have hR' : RK K (match slotOf K i with | some s => pS s v R | none => R) (T.set i (some v)) := fun q u hq => by
      by_cases e : i = q
      · subst e
        rw [hq, look_set_same]
        exact gS_same u v R
      · rw [look_set_ne _ _ e]
        cases hs : slotOf K i with
        | none => exact hR q u hq
        | some s =>
          by_cases e2 : s = u
          · subst e2; exact absurd (slotOf_inj hs hq) e
          · exact (gS_ne _ _ e2).trans (hR q u hq)
    obtain ⟨R', h1, h2, h3⟩ := entL_of hR' h
    exact ⟨R', h1, by simp [h2], h3⟩
theorem resL_of (hsy : SyT (syb β m.sy)) {R : Rf} {T : Tr Value} {H : FH} {t : Tr AObj} (hR : RK K R T) (hH : HR H t) : ∀ {l : List ResultVar} {k : List Value → Bool}, resL m.P m.G K l m R H k = true → ∃ vs, resB m.P t T l = some vs ∧ k vs = true
  | [], k, h => ⟨[], rfl, h⟩
  | .tmp t' :: l, k, h => by
    obtain ⟨vs, h1, h2⟩ := resL_of hsy hR hH (l := l) (rdO_of hR envNil h)
    exact ⟨_, by simp only [resB, h1, Option.map_some]; rfl, h2⟩
  | .cell a ty :: l, k, h => by
    obtain ⟨v, h1, h2⟩ := semL_of hH (rdO_of hR envNil h)
    obtain ⟨vs, h3, h4⟩ := resL_of hsy hR hH (l := l) h2
    have h1' : loadB m.P t ty (Eva.look T a) = some v := h1
    exact ⟨_, by simp only [resB, h1', h3], h4⟩
def zx : N16 (N16 Value) := N16.all (N16.all undef)
/-! ### A table of functions -/
def OKat (P : Program) (G g : Nat) (s : SF) : Prop := s = .bad ∨ ∃ K B np, s = sfOf P G K B np g
abbrev Tab := N16 (N16 (N16 SF))
noncomputable def look3 (tab : Tab) (g : Nat) : SF := match Nat.blt g 4096 with
  | true => N16.get (D16.of (g % 16)) (N16.get (D16.of (g / 16 % 16)) (N16.get (D16.of (g / 256)) tab))
  | false => .bad
def RowOK (P : Program) (G b : Nat) (r : N16 SF) : Prop := ∀ c, c < 16 → OKat P G (16 * b + c) (N16.get (D16.of c) r)
def BlkOK (P : Program) (G a : Nat) (r : N16 (N16 SF)) : Prop := ∀ b, b < 16 → RowOK P G (16 * a + b) (N16.get (D16.of b) r)
theorem fall {p : Nat → Prop} (h0 : p 0) (h1 : p 1) (h2 : p 2) (h3 : p 3) (h4 : p 4) (h5 : p 5) (h6 : p 6) (h7 : p 7) (h8 : p 8) (h9 : p 9) (h10 : p 10) (h11 : p 11) (h12 : p 12) (h13 : p 13) (h14 : p 14) (h15 : p 15) : ∀ c, c < 16 → p c := fun c hc => by
  match c, hc with
  | 0, _ => exact h0
  | 1, _ => exact h1
  | 2, _ => exact h2
  | 3, _ => exact h3
  | 4, _ => exact h4
  | 5, _ => exact h5
  | 6, _ => exact h6
  | 7, _ => exact h7
  | 8, _ => exact h8
  | 9, _ => exact h9
  | 10, _ => exact h10
  | 11, _ => exact h11
  | 12, _ => exact h12
  | 13, _ => exact h13
  | 14, _ => exact h14
  | 15, _ => exact h15
  | c + 16, h => omega
def noRow : N16 SF := N16.all .bad
def noBlk : N16 (N16 SF) := N16.all noRow
theorem noRow_ok {P : Program} {G b : Nat} : RowOK P G b noRow := fun c _ => .inl (N16.get_all _ _)
theorem noBlk_ok {P : Program} {G a : Nat} : BlkOK P G a noBlk := fun b hb => by
  unfold noBlk
  rw [N16.get_all]
  exact noRow_ok
/-- A function's plain form, wherever there is one. -/
def TfOK (P : Program) (G : Nat) (tf : Nat → SF) : Prop := ∀ g, tf g = .bad ∨ ∃ K B np, tf g = sfOf P G K B np g
theorem tab_ok {P : Program} {G : Nat} {tab : Tab} (h : ∀ a, a < 16 → BlkOK P G a (N16.get (D16.of a) tab)) : TfOK P G (look3 tab) := fun g => by
  unfold look3
  cases hb : Nat.blt g 4096 with
  | false => exact .inl rfl
  | true =>
    have hg := nblt_iff.1 hb
    have := h (g / 256) (by omega) (g / 16 % 16) (by omega) (g % 16) (by omega)
    rw [show 16 * (16 * (g / 256) + g / 16 % 16) + g % 16 = g by omega] at this
    exact this
theorem xBody_of (hsy : SyT (syb β m.sy)) (hc : CallEq m.cx call) {tf : Nat → SF} (htf : TfOK m.P m.G tf) {Kf g : Nat} {args : List Value} {H : FH} {t : Tr AObj} {n : Nat} {k : ResF → Rf → FH → Nat → Df → Bool} (hH : HR H t) (h : xBody Kf m (tf g) args H n k = true) :
    ∃ fn T h' d R' H' K, evBody m.P (syb β m.sy) m.G Kf call (fun n => evD m.P (syb β m.sy) m.G n call) g args ⟨t, n⟩ = some (fn, T, h', dfV d) ∧ RK K R' T ∧ HR H' h'.t ∧ k (resS m.P m.G K fn.results.toList) R' H' h'.next d = true := by
  rcases htf g with e | ⟨K, B, np, e⟩
  · rw [e] at h; cases h
  rw [e] at h
  unfold sfOf at h
  unfold evBody
  split at h
  · rename_i fn hfn
    split at h
    · rename_i c hb
      have h : entS fn.ntmps K np args (fun R => xS Kf (cX m.P m.G fn.ntmps K B c) m R H n .no fun e R H n d => onEx e (k (resS m.P m.G K fn.results.toList) R H n d) (fun _ => false) (k (resS m.P m.G K fn.results.toList) R H n d)) = true := h
      unfold entS at h
      split at h <;> try (cases h; done)
      rename_i hle
      obtain ⟨R, hR, hlen, h⟩ := entL_of (T := .nil) (fun t s _ => by rw [gS_R0]; simp [Eva.look, nil_at]) h
      obtain ⟨e, T', h', R', H', d', q1, q2, q3, q4⟩ := xS_of hsy hc Kf c hR hH h
      have q1' : evS m.P (syb β m.sy) m.G fn.ntmps call (evD m.P (syb β m.sy) m.G fn.ntmps call) Kf c (args0 args 0 .nil) ⟨t, n⟩ undef = some (e, T', h', dfV d') := q1
      have hble : Nat.ble args.length fn.ntmps = true := by rw [hlen]; exact hle
      rcases onEx_of q4 with ⟨rfl, q⟩ | ⟨id, rfl, q⟩ | ⟨rfl, q⟩
      · exact ⟨fn, T', h', d', R', H', K, by simp only [hfn, hb, hble, q1'], q2, q3, q⟩
      · cases q
      · exact ⟨fn, T', h', d', R', H', K, by simp only [hfn, hb, hble, q1'], q2, q3, q⟩
    · cases h
  · cases h
theorem res_of (hsy : SyT (syb β m.sy)) {fn : Func} {R : Rf} {T : Tr Value} {H : FH} {h : Hp} {k : Value → Bool} (hR : RK K R T) (hH : HR H h.t) (e : resS m.P m.G K fn.results.toList m R H k = true) : ∃ v, evEnd m.P fn T h = some (v, h) ∧ k v = true := by
  obtain ⟨vs, h1, h2⟩ := resL_of hsy hR hH e
  exact ⟨packB vs, by simp only [evEnd, h1], h2⟩
end
/-- THE RUN comes to what the tree's run comes to. -/
theorem fastw_ev {β : Nat → Bool} {P : Program} {sy : Sy} {G : Nat} (hsy : SyT sy) {tf : Nat → SF} (htf : TfOK P G tf) {ic : IcF} {tb : Tb} (hic : IcOK ic tb) (K : Nat) : ∀ d, CallEq (xW P sy G tf ic K d) (ev P (syb β sy) tb G K d)
  | 0 => fun g l H t n k hH h => by cases h
  | d + 1 => fun g l H t n k hH h => by
    have ih := fastw_ev (β := β) hsy htf hic K d
    rcases hic g l H t n k _ hH h with ⟨hno, hx⟩ | ⟨c, v, h', H', h1, h2, h3, h4⟩
    rotate_left
    · refine ⟨v, h', H', ?_, h3, h4⟩
      show evF P (syb β sy) tb G (fun G n call => evD P (syb β sy) G n call) K (d + 1) g l ⟨t, n⟩ = _
      unfold evF
      rw [h1]
      exact h2
    obtain ⟨fn, T, h', df, R', H', K1, q1, q2, q3, q4⟩ := xBody_of (β := β) (m := ⟨P, sy, G, xW P sy G tf ic K d⟩) (syb_t hsy) ih htf hH hx
    have e0 : ev P (syb β sy) tb G K (d + 1) g l ⟨t, n⟩ = match evBody P (syb β sy) G K (ev P (syb β sy) tb G K d) (fun n => evD P (syb β sy) G n (ev P (syb β sy) tb G K d)) g l ⟨t, n⟩ with
      | some (fn, T, h', dv) => (match dv with
        | .tuple ⟨[]⟩ => evEnd P fn T h'
        | .func (.func g2) ⟨a2⟩ ⟨[]⟩ => (match evPlain P (syb β sy) G K (ev P (syb β sy) tb G K d) (fun n => evD P (syb β sy) G n (ev P (syb β sy) tb G K d)) g2 a2 h' with
          | some (_, h2) => evEnd P fn T h2
          | none => none)
        | _ => none)
      | none => none := by
      show evF P (syb β sy) tb G (fun G n call => evD P (syb β sy) G n call) K (d + 1) g l ⟨t, n⟩ = _
      unfold evF
      rw [hno]
      rfl
    rw [e0, q1]
    cases df with
    | no =>
      obtain ⟨v, p1, p2⟩ := res_of (β := β) (m := ⟨P, sy, G, xW P sy G tf ic K d⟩) (syb_t hsy) q2 q3 q4
      exact ⟨v, h', H', p1, q3, p2⟩
    | some g2 a2 =>
      obtain ⟨t1, n1⟩ := h'
      obtain ⟨fn2, T2, h2, df2, R2, H2, K2, r1, r2, r3, r4⟩ := xBody_of (β := β) (m := ⟨P, sy, G, xW P sy G tf ic K d⟩) (syb_t hsy) ih htf q3 q4
      cases df2 with
      | some g3 a3 => cases r4
      | no =>
        obtain ⟨v2, p1, p2⟩ := res_of (β := β) (m := ⟨P, sy, G, xW P sy G tf ic K d⟩) (syb_t hsy) r2 r3 r4
        obtain ⟨v, p3, p4⟩ := res_of (β := β) (m := ⟨P, sy, G, xW P sy G tf ic K d⟩) (h := h2) (syb_t hsy) q2 r3 p2
        refine ⟨v, h2, H2, ?_, r3, p4⟩
        have e1 : evPlain P (syb β sy) G K (ev P (syb β sy) tb G K d) (fun n => evD P (syb β sy) G n (ev P (syb β sy) tb G K d)) g2 a2 ⟨t1, n1⟩ = some (v2, h2) := by
          unfold evPlain
          rw [r1]
          exact p1
        show (match evPlain P (syb β sy) G K (ev P (syb β sy) tb G K d) (fun n => evD P (syb β sy) G n (ev P (syb β sy) tb G K d)) g2 a2 ⟨t1, n1⟩ with
          | some (_, h2) => evEnd P fn T h2
          | none => none) = _
        rw [e1]
        exact p3
theorem fastw_true {β : Nat → Bool} {P : Program} {sy : Sy} {G : Nat} (hsy : SyT sy) {tf : Nat → SF} (htf : TfOK P G tf) {ic : IcF} {tb : Tb} (hic : IcOK ic tb) {K d g : Nat} {l : List Value} {H : FH} {t : Tr AObj} {n : Nat} (hH : HR H t) (h : xW P sy G tf ic K d g l H n good = true) : ∃ h', ev P (syb β sy) tb G K d g l ⟨t, n⟩ = some (.bool true, h') := by
  obtain ⟨v, h', H', h1, _, h2⟩ := fastw_ev (β := β) hsy htf hic K d g l H t n good hH h
  rcases vBool_of h2 with ⟨rfl, _⟩ | ⟨_, h⟩ | h
  · exact ⟨h', h1⟩
  · cases h
  · cases h
/-! ### Calls that are told -/
noncomputable def awIc (aw : Option Nat) : IcF := fun g l H n k d => ifB (awIs aw g) (vNone l (k (.bool true) H n)) d
theorem awIc_ok (aw : Option Nat) : IcOK (awIc aw) (awTb aw) := fun g l H t n k d hH h => by
  rcases ifB_of h with ⟨hg, hx⟩ | ⟨hg, hx⟩
  · have hg : aw = some g := by
      cases aw with
      | none => cases hg
      | some a => rw [beq_iff (show Nat.beq a g = true from hg)]
    subst hg
    cases l with
    | cons x l => cases hx
    | nil => exact .inr ⟨awC, .bool true, ⟨t, n⟩, H, Tr.at_set_same _ _ _, rfl, hH, hx⟩
  · refine .inl ⟨?_, hx⟩
    cases aw with
    | none => exact nil_at _
    | some a =>
      have hne : a ≠ g := fun e => by subst e; rw [show awIs (some a) a = Nat.beq a a from rfl, Nat.beq_refl] at hg; cases hg
      show (Tr.nil.set a (some awC)).at_ g = none
      rw [Tr.at_set_ne _ _ hne, nil_at]
abbrev CtX := List Value → FH → Nat → KV → Bool
abbrev CtB := List Value → Hp → Option (Value × Hp)
def CtOK (f : CtX) (c : CtB) : Prop := ∀ l H t n k, HR H t → f l H n k = true → ∃ v h' H', c l ⟨t, n⟩ = some (v, h') ∧ HR H' h'.t ∧ k v H' h'.next = true
noncomputable def addIc (a : Nat) (f : CtX) (ic : IcF) : IcF := fun g l H n k d => ifB (Nat.beq g a) (f l H n k) (ic g l H n k d)
theorem addIc_ok {a : Nat} {f : CtX} {c : CtB} {ic : IcF} {tb : Tb} (hf : CtOK f c) (h : IcOK ic tb) : IcOK (addIc a f ic) (tb.set a (some c)) := fun g l H t n k d hH hx => by
  rcases ifB_of hx with ⟨hg, hy⟩ | ⟨hg, hy⟩
  · have hg := beq_iff hg
    subst hg
    obtain ⟨v, h', H', h1, h2, h3⟩ := hf l H t n k hH hy
    exact .inr ⟨c, v, h', H', Tr.at_set_same _ _ _, h1, h2, h3⟩
  · have hne : a ≠ g := fun e => by subst e; rw [Nat.beq_refl] at hg; cases hg
    rw [Tr.at_set_ne _ _ hne]
    exact h g l H t n k d hH hy
/-- One call, run under what is said of each case, and joined. -/
noncomputable def forkX (P : Program) (sy : Sy) (G : Nat) (tf : Nat → SF) (ic : IcF) (K d g : Nat) : List (Nat × Sy) → Sy → CtX
  | [], s => fun l H n k => xW P s G tf ic K d g l H n k
  | (c, s1) :: cs, s => fun l H n k => xW P s1 G tf ic K d g l H n fun v1 H1 n1 => forkX P sy G tf ic K d g cs s l H n fun v2 H2 n2 => fN (mxn n1 n2) fun n => k (jv sy c 2 v1 v2) (jFH sy c H1 H2) n
def forkB (P : Program) (sy : Sy) (G : Nat) (tb : Tb) (K d g : Nat) : List (Nat × Sy) → Sy → CtB
  | [], s => fun l h => ev P s tb G K d g l h
  | (c, s1) :: cs, s => fun l h => match ev P s1 tb G K d g l h, forkB P sy G tb K d g cs s l h with
    | some (v1, h1), some (v2, h2) => some (jv sy c 2 v1 v2, joinH sy c h1 h2)
    | _, _ => none
theorem forkX_ok {β : Nat → Bool} {P : Program} {sy : Sy} {G : Nat} {tf : Nat → SF} (htf : TfOK P G tf) {ic : IcF} {tb : Tb} (hic : IcOK ic tb) {K d g : Nat} : ∀ {cs : List (Nat × Sy)} {s : Sy}, SyT s → (∀ x ∈ cs, SyT x.2) → CtOK (forkX P sy G tf ic K d g cs s) (forkB P sy G tb K d g (cs.map fun x => (x.1, syb β x.2)) (syb β s))
  | [], s, hs, _ => fun l H t n k hH h => fastw_ev hs htf hic K d g l H t n k hH h
  | (c, s1) :: cs, s, hs, hcs => fun l H t n k hH h => by
    obtain ⟨v1, ⟨t1, n1⟩, H1, p1, p2, p3⟩ := fastw_ev (β := β) (hcs _ (List.mem_cons_self ..)) htf hic K d g l H t n _ hH h
    obtain ⟨v2, ⟨t2, n2⟩, H2, q1, q2, q3⟩ := forkX_ok (β := β) (sy := sy) htf hic (K := K) (d := d) (g := g) (cs := cs) hs (fun x hx => hcs x (List.mem_cons_of_mem _ hx)) l H t n _ hH p3
    refine ⟨_, joinH sy c ⟨t1, n1⟩ ⟨t2, n2⟩, _, ?_, HR.join p2 q2, q3⟩
    simp only [List.map_cons, forkB, p1, q1]
/-- Some case is the true one. -/
def ForkOK (P : Program) (W0 : Begin) (ν : Toks) : List (Nat × Sy) → Sy → Prop
  | [], s => SyOK P W0 ν s
  | (c, s1) :: cs, s => ∃ bb, ν.v c = .bool bb ∧ (bb = true → SyOK P W0 ν s1) ∧ (bb = false → ForkOK P W0 ν cs s)
theorem fork_sound {P : Program} {sy : Sy} {G : Nat} {W0 : Begin} {ν : Toks} (hfl : P.follows .mixedOrders = true) (hsy : SyOK P W0 ν sy) {tb : Tb} (htb : TbOK P G W0 ν tb) {K d g : Nat} : ∀ {cs : List (Nat × Sy)} {s : Sy}, ForkOK P W0 ν cs s → ∀ args h v h', forkB P sy G tb K d g cs s args h = some (v, h') → ∀ φ w args', VRs ν φ args args' → Rw P G W0 ν φ h w → G ≤ h.next → Calls P g ⟨args'⟩ w (CallPost P G W0 ν φ h v h')
  | [], s, hs => fun args h v h' e φ w args' hv hR hG => ev_sound hfl hs htb K d g args h v h' e φ w args' hv hR hG
  | (c, s1) :: cs, s, hs => fun args h v h' e φ w args' hv hR hG => by
    obtain ⟨bb, hc, h1, h2⟩ := hs
    simp only [forkB] at e
    split at e <;> try (cases e; done)
    rename_i v1 g1 v2 g2 e1 e2
    cases e
    cases bb with
    | true =>
      refine (ev_sound hfl (h1 rfl) htb K d g args h v1 g1 e1 φ w args' hv hR hG).mono fun e w' hp => ?_
      obtain ⟨v', rfl, φ', q1, q2, q3, q4⟩ := hp
      exact ⟨v', rfl, φ', jv_ok (bb := true) hsy q2.frame hc 2 _ _ _ q1, Rw.join (bb := true) hsy hc q2, q3, Nat.le_trans q4 (mxn_l _ _)⟩
    | false =>
      refine (fork_sound hfl hsy htb (h2 rfl) args h v2 g2 e2 φ w args' hv hR hG).mono fun e w' hp => ?_
      obtain ⟨v', rfl, φ', q1, q2, q3, q4⟩ := hp
      exact ⟨v', rfl, φ', jv_ok (bb := false) hsy q2.frame hc 2 _ _ _ q1, Rw.join (bb := false) hsy hc q2, q3, Nat.le_trans q4 (mxn_r _ _)⟩
end Go.Fw
