/-
  A run of a closed call, made for the kernel's speed: code and calls. THE FAST RUN COMES TO WHAT THE TREE'S RUN COMES TO (fast_ev). No program in sight.
-/
import Derived.Test.YtogmgjcdicnceaaGreatDoorFvD
set_option linter.unusedVariables false
namespace Go.Fv
open Go Go.Eva Go.RowKit Go.Mix Go.Viv

inductive CC where
  | skip
  | reg (l : List Gi)
  | dreg (sz : Nat) (l : List DSt)
  | dfr (l : List Gi) (g : Nat) (as : List Od)
  | seq (a b : CC)
  | cond (x : Od) (a b : CC)
  | blk (id : Nat) (b : CC)
  | loop (b : CC)
  | scope (b : CC)
  | exit (id : Nat)
  | ret
  | bad
inductive Df where
  | no
  | some (g : Nat) (l : List Value)
inductive CR where
  | t (a : Od)
  | c (a : Od) (x : Ci)
inductive CF where
  | mk (nt : Nat) (c : CC) (rs : List CR)
  | bad
abbrev KE := Ex → Rg → FH → Nat → Bool
abbrev XC := CC → CallX → Rg → FH → Nat → KE → Bool
abbrev XK := XC → CallX → Rg → FH → Nat → KE → Bool
abbrev KS := Ex → Rg → FH → Nat → Df → Bool
abbrev XS := CC → CallX → Rg → FH → Nat → Df → KS → Bool
noncomputable def onEx (e : Ex) (x : Bool) (y : Nat → Bool) (z : Bool) : Bool := Ex.rec (motive := fun _ => Bool) x (fun id => y id) z e
section
variable (P : Program) (sy : Sy) (G : Nat)
noncomputable def kSkip : XK := fun _ _ R H n k => k .normal R H n
noncomputable def kReg (l : List Gi) : XK := fun _ cx R H n k => xSeq P sy G l cx R H n fun R H n => k .normal R H n
noncomputable def kDreg (sz : Nat) (l : List DSt) : XK := fun _ cx R H n k => fN (Nat.add n sz) fun n1 => xDs P sy G l cx n R H n1 [] fun R H n => k .normal R H n
noncomputable def kSeq (a b : CC) : XK := fun ih cx R H n k => ih a cx R H n fun e R H n => onEx e (ih b cx R H n k) (fun id => k (.exit id) R H n) (k .ret R H n)
noncomputable def kCond (x : Od) (a b : CC) : XK := fun ih cx R H n k => vBool (rd x R) (ih a cx R H n k) (ih b cx R H n k) false
noncomputable def kBlk (id : Nat) (b : CC) : XK := fun ih cx R H n k => ih b cx R H n fun e R H n => onEx e (k .normal R H n) (fun id' => ifB (Nat.beq id' id) (k .normal R H n) (k (.exit id') R H n)) (k .ret R H n)
noncomputable def kLoop (b : CC) : XK := fun ih cx R H n k => ih b cx R H n fun e R H n => onEx e (ih (.loop b) cx R H n k) (fun id => k (.exit id) R H n) (k .ret R H n)
noncomputable def kScope (b : CC) : XK := fun ih cx R H n k => ih b cx R H n k
noncomputable def kExit (id : Nat) : XK := fun _ _ R H n k => k (.exit id) R H n
noncomputable def kRet : XK := fun _ _ R H n k => k .ret R H n
noncomputable def kBad : XK := fun _ _ _ _ _ _ => false
noncomputable def xK (c : CC) : XK := CC.rec (motive := fun _ => XK) kSkip (kReg P sy G) (kDreg P sy G) (fun _ _ _ => kBad) (fun a b _ _ => kSeq a b) (fun x a b _ _ => kCond x a b) (fun id b _ => kBlk id b) (fun b _ => kLoop b) (fun b _ => kScope b) kExit kRet kBad c
noncomputable def xC (f : Nat) : XC := Nat.rec (motive := fun _ => XC) (fun _ _ _ _ _ _ => false) (fun _ ih c => xK P sy G c ih) f
abbrev SK := XS → XC → CallX → Rg → FH → Nat → Df → KS → Bool
noncomputable def sReg (l : List Gi) : SK := fun _ _ cx R H n d k => xSeq P sy G l cx R H n fun R H n => k .normal R H n d
noncomputable def sDfr (l : List Gi) (g : Nat) (as : List Od) : SK := fun _ _ cx R H n d k => Df.rec (motive := fun _ => Bool) (xSeq P sy G l cx R H n fun R H n => rdsK as R fun vs => k .normal R H n (.some g vs)) (fun _ _ => false) d
noncomputable def sSeq (a b : CC) : SK := fun ih _ cx R H n d k => ih a cx R H n d fun e R H n d => onEx e (ih b cx R H n d k) (fun id => k (.exit id) R H n d) (k .ret R H n d)
noncomputable def sOth (c : CC) : SK := fun _ xc cx R H n d k => xc c cx R H n fun e R H n => k e R H n d
noncomputable def xSK (c : CC) : SK := CC.rec (motive := fun _ => SK) (sOth .skip) (sReg P sy G) (fun sz l => sOth (.dreg sz l)) (sDfr P sy G) (fun a b _ _ => sSeq a b) (fun x a b _ _ => sOth (.cond x a b)) (fun id b _ => sOth (.blk id b)) (fun b _ => sOth (.loop b)) (fun b _ => sOth (.scope b)) (fun id => sOth (.exit id)) (sOth .ret) (sOth .bad) c
noncomputable def xS (f : Nat) : XS := Nat.rec (motive := fun _ => XS) (fun _ _ _ _ _ _ _ => false) (fun f ih c => xSK P sy G c ih (xC P sy G (Nat.succ f))) f
noncomputable def xRes (l : List CR) : Rg → FH → (List Value → Bool) → Bool := List.rec (motive := fun _ => Rg → FH → (List Value → Bool) → Bool) (fun _ _ k => k []) (fun r _ ih R H k => CR.rec (motive := fun _ => Bool) (fun a => rdK a R fun v => ih R H fun l => k (v :: l)) (fun a x => xI P sy G x nocall R H 0 fun v _ _ => ih R H fun l => k (v :: l)) r) l
noncomputable def pack (l : List Value) (k : Value → Bool) : Bool := List.rec (motive := fun _ => Bool) (k (.tuple ⟨[]⟩)) (fun v l _ => List.rec (motive := fun _ => Bool) (k v) (fun x l' _ => k (.tuple ⟨v :: x :: l'⟩)) l) l
noncomputable def xEnd (rs : List CR) (R : Rg) (H : FH) (k : Value → Bool) : Bool := xRes P sy G rs R H fun l => pack l k
noncomputable def xArgs (l : List Value) : Nat → Rg → (Rg → Bool) → Bool := List.rec (motive := fun _ => Nat → Rg → (Rg → Bool) → Bool) (fun _ R k => k R) (fun v _ ih i R k => wr (ds 256 (some i)) v R fun R => fN (Nat.add i 1) fun i => ih i R k) l
noncomputable def xBody (K : Nat) (cx : CallX) (cf : CF) (args : List Value) (H : FH) (n : Nat) (k : List CR → Rg → FH → Nat → Df → Bool) : Bool := CF.rec (motive := fun _ => Bool) (fun nt c rs => yes (Nat.ble args.length nt) (xArgs args 0 R0 fun R => xS P sy G K c cx R H n .no fun e R H n d => onEx e (k rs R H n d) (fun _ => false) (k rs R H n d))) false cf
/-! ### The short forms -/
def cC (nt : Nat) : Code → CC
  | .skip => .skip
  | .label _ => .skip
  | .region _ ops false => (match defOf ops.toList with
    | none => .reg (cSeq P G nt ops.toList ops.toList)
    | some c => (match c.callee with
      | .value (.func g) => (match okFn P g with | true => .dfr (cSeq P G nt ops.toList ops.toList.dropLast) g (c.args.toList.map (od G)) | false => .bad)
      | _ => .bad))
  | .region _ ops true => (match cD P G nt ops with | some l => .dreg ops.size l | none => .bad)
  | .seq a b => .seq (cC nt a) (cC nt b)
  | .cond x a b => .cond (od G x) (cC nt a) (cC nt b)
  | .block id b => .blk id (cC nt b)
  | .loop b => .loop (cC nt b)
  | .scope b => .scope (cC nt b)
  | .exit id => .exit id
  | .ret => .ret
  | _ => .bad
def cR : ResultVar → CR
  | .tmp t => .t (odT t)
  | .cell a t => .c (odT a) (cQ P G (.load t (.tmp a)))
def cF (g : Nat) : CF := match P.funcs[g]? with
  | some fn => (match fn.body with
    | some c => .mk fn.ntmps (cC P G fn.ntmps c) (fn.results.toList.map (cR P G))
    | none => .bad)
  | none => .bad
/-- A call that is told by its contract alone: it answers true, and writes nothing old. -/
noncomputable def vNone (l : List Value) (x : Bool) : Bool := List.rec (motive := fun _ => Bool) x (fun _ _ _ => false) l
noncomputable def awIs (aw : Option Nat) (g : Nat) : Bool := Option.rec (motive := fun _ => Bool) false (fun a => Nat.beq a g) aw
noncomputable def xF (aw : Option Nat) (K d : Nat) : CallX := Nat.rec (motive := fun _ => CallX) (fun _ _ _ _ _ => false) (fun _ ih g args H n k =>
  ifB (awIs aw g) (vNone args (k (.bool true) H n)) (xBody P sy G K ih (cF P G g) args H n fun rs R H n d => Df.rec (motive := fun _ => Bool) (xEnd P sy G rs R H fun v => k v H n)
    (fun g2 a2 => xBody P sy G K ih (cF P G g2) a2 H n fun rs2 R2 H n d2 => Df.rec (motive := fun _ => Bool) (xEnd P sy G rs2 R2 H fun _ => xEnd P sy G rs R H fun v => k v H n) (fun _ _ => false) d2) d)) d
end
section
variable {P : Program} {sy : Sy} {G : Nat} {cx : CallX} {call : CallB} {nt : Nat}
theorem onEx_of {e : Ex} {x z : Bool} {y : Nat → Bool} (h : onEx e x y z = true) : (e = .normal ∧ x = true) ∨ (∃ id, e = .exit id ∧ y id = true) ∨ (e = .ret ∧ z = true) := by
  cases e with
  | normal => exact .inl ⟨rfl, h⟩
  | exit id => exact .inr (.inl ⟨id, rfl, h⟩)
  | ret => exact .inr (.inr ⟨rfl, h⟩)
/-- Code. -/
theorem xC_of (hsy : SyT sy) (hc : CallEq cx call) : ∀ (f : Nat) (c : Code) {R : Rg} {T : Tr Value} {H : FH} {t : Tr AObj} {n : Nat} {k : KE}, RR R T → HR H t → xC P sy G f (cC P G nt c) cx R H n k = true →
    ∃ e T' h' R' H', evC P sy G nt call (evD P sy G nt call) f c T ⟨t, n⟩ = some (e, T', h') ∧ RR R' T' ∧ HR H' h'.t ∧ k e R' H' h'.next = true
  | 0, c, R, T, H, t, n, k, hR, hH, h => by cases h
  | f + 1, c, R, T, H, t, n, k, hR, hH, h => by
    have h0 : xK P sy G (cC P G nt c) (xC P sy G f) cx R H n k = true := h
    have ih := xC_of hsy hc f
    cases c with
    | skip => exact ⟨.normal, T, ⟨t, n⟩, R, H, rfl, hR, hH, h0⟩
    | label l => exact ⟨.normal, T, ⟨t, n⟩, R, H, rfl, hR, hH, h0⟩
    | exit id => exact ⟨.exit id, T, ⟨t, n⟩, R, H, rfl, hR, hH, h0⟩
    | ret => exact ⟨.ret, T, ⟨t, n⟩, R, H, rfl, hR, hH, h0⟩
    | goto l => cases h0
    | refuse y => cases h0
    | rangeFunc f' p' a' b' => cases h0
    | region id ops dr =>
      cases dr with
      | false =>
        simp only [cC] at h0
        split at h0
        · obtain ⟨T', h', R', H', q1, q2, q3, q4⟩ := xSeq_of hsy hc _ hR hH h0
          exact ⟨.normal, T', h', R', H', by simp only [evC, q1], q2, q3, q4⟩
        · split at h0
          · split at h0 <;> cases h0
          · cases h0
      | true =>
        simp only [cC] at h0
        split at h0
        · rename_i l hl
          obtain ⟨T', h', R', H', q1, q2, q3, q4⟩ := xD_of hsy hc hl hR hH h0
          exact ⟨.normal, T', h', R', H', by simp only [evC, q1], q2, q3, q4⟩
        · cases h0
    | seq a b =>
      obtain ⟨e, T1, h1, R1, H1, q1, q2, q3, q4⟩ := ih a hR hH h0
      obtain ⟨t1, n1⟩ := h1
      rcases onEx_of q4 with ⟨rfl, q⟩ | ⟨id, rfl, q⟩ | ⟨rfl, q⟩
      · obtain ⟨e, T2, h2, R2, H2, p1, p2, p3, p4⟩ := ih b q2 q3 q
        exact ⟨e, T2, h2, R2, H2, by simp only [evC, q1, p1], p2, p3, p4⟩
      · exact ⟨.exit id, T1, ⟨t1, n1⟩, R1, H1, by simp only [evC, q1], q2, q3, q⟩
      · exact ⟨.ret, T1, ⟨t1, n1⟩, R1, H1, by simp only [evC, q1], q2, q3, q⟩
    | cond x a b =>
      rcases vBool_of (x := xC P sy G f (cC P G nt a) cx R H n k) h0 with ⟨q, p⟩ | ⟨q, p⟩ | p
      · rw [hR.od G x] at q
        obtain ⟨e, T2, h2, R2, H2, p1, p2, p3, p4⟩ := ih a hR hH p
        exact ⟨e, T2, h2, R2, H2, by simp only [evC, q, p1], p2, p3, p4⟩
      · rw [hR.od G x] at q
        obtain ⟨e, T2, h2, R2, H2, p1, p2, p3, p4⟩ := ih b hR hH p
        exact ⟨e, T2, h2, R2, H2, by simp only [evC, q, p1], p2, p3, p4⟩
      · cases p
    | block id b =>
      obtain ⟨e, T1, h1, R1, H1, q1, q2, q3, q4⟩ := ih b hR hH h0
      rcases onEx_of q4 with ⟨rfl, q⟩ | ⟨id', rfl, q⟩ | ⟨rfl, q⟩
      · exact ⟨.normal, T1, h1, R1, H1, by simp only [evC, q1], q2, q3, q⟩
      · rcases ifB_of q with ⟨p, q⟩ | ⟨p, q⟩
        · exact ⟨.normal, T1, h1, R1, H1, by simp only [evC, q1, p], q2, q3, q⟩
        · exact ⟨.exit id', T1, h1, R1, H1, by simp only [evC, q1, p], q2, q3, q⟩
      · exact ⟨.ret, T1, h1, R1, H1, by simp only [evC, q1], q2, q3, q⟩
    | loop b =>
      obtain ⟨e, T1, h1, R1, H1, q1, q2, q3, q4⟩ := ih b hR hH h0
      obtain ⟨t1, n1⟩ := h1
      rcases onEx_of q4 with ⟨rfl, q⟩ | ⟨id, rfl, q⟩ | ⟨rfl, q⟩
      · obtain ⟨e, T2, h2, R2, H2, p1, p2, p3, p4⟩ := ih (.loop b) q2 q3 q
        exact ⟨e, T2, h2, R2, H2, by simp only [evC, q1, p1], p2, p3, p4⟩
      · exact ⟨.exit id, T1, ⟨t1, n1⟩, R1, H1, by simp only [evC, q1], q2, q3, q⟩
      · exact ⟨.ret, T1, ⟨t1, n1⟩, R1, H1, by simp only [evC, q1], q2, q3, q⟩
    | scope b =>
      obtain ⟨e, T2, h2, R2, H2, p1, p2, p3, p4⟩ := ih b hR hH h0
      exact ⟨e, T2, h2, R2, H2, by simp only [evC, p1], p2, p3, p4⟩
def dfV : Df → Value
  | .no => undef
  | .some g l => .func (.func g) ⟨l⟩ ⟨[]⟩
/-- A body's statements. -/
theorem xS_of (hsy : SyT sy) (hc : CallEq cx call) : ∀ (f : Nat) (c : Code) {R : Rg} {T : Tr Value} {H : FH} {t : Tr AObj} {n : Nat} {d : Df} {k : KS}, RR R T → HR H t → xS P sy G f (cC P G nt c) cx R H n d k = true →
    ∃ e T' h' R' H' d', evS P sy G nt call (evD P sy G nt call) f c T ⟨t, n⟩ (dfV d) = some (e, T', h', dfV d') ∧ RR R' T' ∧ HR H' h'.t ∧ k e R' H' h'.next d' = true
  | 0, c, R, T, H, t, n, d, k, hR, hH, h => by cases h
  | f + 1, c, R, T, H, t, n, d, k, hR, hH, h => by
    have h0 : xSK P sy G (cC P G nt c) (xS P sy G f) (xC P sy G (f + 1)) cx R H n d k = true := h
    have oth : ∀ {c : Code}, (∀ a b, c ≠ .seq a b) → (∀ id ops, c ≠ .region id ops false) → xC P sy G (f + 1) (cC P G nt c) cx R H n (fun e R H n => k e R H n d) = true →
        ∃ e T' h' R' H' d', evS P sy G nt call (evD P sy G nt call) (f + 1) c T ⟨t, n⟩ (dfV d) = some (e, T', h', dfV d') ∧ RR R' T' ∧ HR H' h'.t ∧ k e R' H' h'.next d' = true := fun {c} h1 h2 hx => by
      obtain ⟨e, T', h', R', H', q1, q2, q3, q4⟩ := xC_of hsy hc (f + 1) c hR hH hx
      refine ⟨e, T', h', R', H', d, ?_, q2, q3, q4⟩
      unfold evS
      split
      · exact absurd rfl (h1 _ _)
      · exact absurd rfl (h2 _ _)
      · simp only [q1]
    cases c with
    | seq a b =>
      obtain ⟨e, T1, h1, R1, H1, d1, q1, q2, q3, q4⟩ := xS_of hsy hc f a hR hH h0
      obtain ⟨t1, n1⟩ := h1
      rcases onEx_of q4 with ⟨rfl, q⟩ | ⟨id, rfl, q⟩ | ⟨rfl, q⟩
      · obtain ⟨e, T2, h2, R2, H2, d2, p1, p2, p3, p4⟩ := xS_of hsy hc f b q2 q3 q
        exact ⟨e, T2, h2, R2, H2, d2, by simp only [evS, q1, p1], p2, p3, p4⟩
      · exact ⟨.exit id, T1, ⟨t1, n1⟩, R1, H1, d1, by simp only [evS, q1], q2, q3, q⟩
      · exact ⟨.ret, T1, ⟨t1, n1⟩, R1, H1, d1, by simp only [evS, q1], q2, q3, q⟩
    | region id ops dr =>
      cases dr with
      | true =>
        refine oth (fun a b e => by cases e) (fun i o e => by cases e) ?_
        simp only [cC] at h0 ⊢
        split at h0
        · exact h0
        · exact h0
      | false =>
        simp only [cC] at h0
        split at h0
        · rename_i hdf
          obtain ⟨T', h', R', H', q1, q2, q3, q4⟩ := xSeq_of hsy hc _ hR hH h0
          exact ⟨.normal, T', h', R', H', d, by simp only [evS, hdf, q1], q2, q3, q4⟩
        · rename_i c hdf
          split at h0
          · rename_i g hcal
            split at h0
            · rename_i hok
              cases d with
              | some g' l' => cases h0
              | no =>
                obtain ⟨T', h', R', H', q1, q2, q3, q4⟩ := xSeq_of hsy hc _ hR hH h0
                have q4 := (rdsK_eq _ _ _).symm.trans q4
                have ha : (c.args.toList.map (od G)).map (fun a => rd a R') = c.args.toList.map (evl G T') := by
                  rw [List.map_map]
                  exact List.map_congr_left fun x _ => q2.od G x
                rw [ha] at q4
                refine ⟨.normal, T', h', R', H', .some g (c.args.toList.map (evl G T')), ?_, q2, q3, q4⟩
                simp only [evS, hdf, q1, dfV, dfrB, hcal, hok]
                rfl
            · cases h0
          · cases h0
    | skip => exact oth (fun a b e => by cases e) (fun i o e => by cases e) h0
    | label l => exact oth (fun a b e => by cases e) (fun i o e => by cases e) h0
    | exit id => exact oth (fun a b e => by cases e) (fun i o e => by cases e) h0
    | ret => exact oth (fun a b e => by cases e) (fun i o e => by cases e) h0
    | goto l => exact oth (fun a b e => by cases e) (fun i o e => by cases e) h0
    | refuse y => exact oth (fun a b e => by cases e) (fun i o e => by cases e) h0
    | rangeFunc f' p' a' b' => exact oth (fun a b e => by cases e) (fun i o e => by cases e) h0
    | cond x a b => exact oth (fun a b e => by cases e) (fun i o e => by cases e) h0
    | block id b => exact oth (fun a b e => by cases e) (fun i o e => by cases e) h0
    | loop b => exact oth (fun a b e => by cases e) (fun i o e => by cases e) h0
    | scope b => exact oth (fun a b e => by cases e) (fun i o e => by cases e) h0
theorem xRes_of (hsy : SyT sy) {R : Rg} {T : Tr Value} {H : FH} {t : Tr AObj} (hR : RR R T) (hH : HR H t) : ∀ {l : List ResultVar} {k : List Value → Bool}, xRes P sy G (l.map (cR P G)) R H k = true → ∃ vs, resB P t T l = some vs ∧ k vs = true
  | [], k, h => ⟨[], rfl, h⟩
  | .tmp t' :: l, k, h => by
    have h := (rdK_eq (odT t') R _).symm.trans h
    rw [hR.odT t'] at h
    obtain ⟨vs, h1, h2⟩ := xRes_of hsy hR hH (l := l) h
    exact ⟨_, by simp only [resB, h1, Option.map_some], h2⟩
  | .cell a ty :: l, k, h => by
    have h' : xI P sy G (cQ P G (.load ty (.tmp a))) nocall R H 0 (fun v _ _ => xRes P sy G (l.map (cR P G)) R H fun l => k (v :: l)) = true := h
    obtain ⟨v, h1, h2⟩ := cQ_of hsy hR hH h'
    obtain ⟨vs, h3, h4⟩ := xRes_of hsy hR hH (l := l) h2
    rw [evQ_0 hsy _ rfl] at h1
    have h1' : loadB P t ty (Eva.look T a) = some v := h1
    exact ⟨_, by simp only [resB, h1', h3], h4⟩
theorem pack_eq (l : List Value) (k : Value → Bool) : pack l k = k (packB l) := by
  cases l with
  | nil => rfl
  | cons v l => cases l <;> rfl
theorem xEnd_of (hsy : SyT sy) {fn : Func} {R : Rg} {T : Tr Value} {H : FH} {h : Hp} {k : Value → Bool} (hR : RR R T) (hH : HR H h.t) (e : xEnd P sy G (fn.results.toList.map (cR P G)) R H k = true) : ∃ v, evEnd P fn T h = some (v, h) ∧ k v = true := by
  obtain ⟨vs, h1, h2⟩ := xRes_of hsy hR hH e
  rw [pack_eq] at h2
  exact ⟨packB vs, by simp only [evEnd, h1], h2⟩
theorem xArgs_of : ∀ {l : List Value} {i : Nat} {R : Rg} {T : Tr Value} {k : Rg → Bool}, RR R T → xArgs l i R k = true → ∃ R', RR R' (args0 l i T) ∧ k R' = true
  | [], i, R, T, k, hR, h => ⟨R, hR, h⟩
  | v :: l, i, R, T, k, hR, h => by
    obtain ⟨R', T', h1, h2, h3⟩ := ds_of (n := 256) (d := some i) (v := v) hR h
    simp only [putT] at h1
    split at h1 <;> try (cases h1; done)
    cases h1
    exact xArgs_of (l := l) (i := i + 1) (k := k) h2 h3
theorem xBody_of (hsy : SyT sy) (hc : CallEq cx call) {K g : Nat} {args : List Value} {H : FH} {t : Tr AObj} {n : Nat} {k : List CR → Rg → FH → Nat → Df → Bool} (hH : HR H t) (h : xBody P sy G K cx (cF P G g) args H n k = true) :
    ∃ fn T h' d R' H', evBody P sy G K call (fun n => evD P sy G n call) g args ⟨t, n⟩ = some (fn, T, h', dfV d) ∧ RR R' T ∧ HR H' h'.t ∧ k (fn.results.toList.map (cR P G)) R' H' h'.next d = true := by
  unfold cF at h
  unfold evBody
  split at h
  · rename_i fn hfn
    split at h
    · rename_i c hb
      obtain ⟨h1, h⟩ := yes_of h
      obtain ⟨R, hR, h⟩ := xArgs_of RR.start h
      obtain ⟨e, T', h', R', H', d', q1, q2, q3, q4⟩ := xS_of hsy hc K c hR hH h
      have q1' : evS P sy G fn.ntmps call (evD P sy G fn.ntmps call) K c (args0 args 0 .nil) ⟨t, n⟩ undef = some (e, T', h', dfV d') := q1
      rcases onEx_of q4 with ⟨rfl, q⟩ | ⟨id, rfl, q⟩ | ⟨rfl, q⟩
      · exact ⟨fn, T', h', d', R', H', by simp only [hfn, hb, h1, q1'], q2, q3, q⟩
      · cases q
      · exact ⟨fn, T', h', d', R', H', by simp only [hfn, hb, h1, q1'], q2, q3, q⟩
    · cases h
  · cases h
def awC (args : List Value) (h : Hp) : Option (Value × Hp) := match args with
  | [] => some (.bool true, h)
  | _ => none
def awTb : Option Nat → Tb
  | none => .nil
  | some a => Tr.nil.set a (some awC)
/-- THE FAST RUN comes to what the tree's run comes to. -/
theorem fast_ev (hsy : SyT sy) (aw : Option Nat) (K : Nat) : ∀ d, CallEq (xF P sy G aw K d) (ev P sy (awTb aw) G K d)
  | 0 => fun g l H t n k hH h => by cases h
  | d + 1 => fun g l H t n k hH h => by
    have ih := fast_ev hsy aw K d
    have h : ifB (awIs aw g) (vNone l (k (.bool true) H n)) (xBody P sy G K (xF P sy G aw K d) (cF P G g) l H n fun rs R H n df => Df.rec (motive := fun _ => Bool) (xEnd P sy G rs R H fun v => k v H n)
      (fun g2 a2 => xBody P sy G K (xF P sy G aw K d) (cF P G g2) a2 H n fun rs2 R2 H n d2 => Df.rec (motive := fun _ => Bool) (xEnd P sy G rs2 R2 H fun _ => xEnd P sy G rs R H fun v => k v H n) (fun _ _ => false) d2) df) = true := h
    rcases ifB_of h with ⟨hg, hx⟩ | ⟨hg, hx⟩
    · have hg : aw = some g := by
        cases aw with
        | none => cases hg
        | some a => rw [beq_iff (show Nat.beq a g = true from hg)]
      subst hg
      cases l with
      | cons x l => cases hx
      | nil =>
        refine ⟨.bool true, ⟨t, n⟩, H, ?_, hH, hx⟩
        show evF P sy (awTb (some g)) G (fun G n call => evD P sy G n call) K (d + 1) g [] ⟨t, n⟩ = _
        unfold evF awTb
        rw [Tr.at_set_same]
        rfl
    have hno : (awTb aw).at_ g = none := by
      cases aw with
      | none => exact nil_at _
      | some a =>
        have hne : a ≠ g := fun e => by subst e; rw [show awIs (some a) a = Nat.beq a a from rfl, Nat.beq_refl] at hg; cases hg
        show (Tr.nil.set a (some awC)).at_ g = none
        rw [Tr.at_set_ne _ _ hne, nil_at]
    obtain ⟨fn, T, h', df, R', H', q1, q2, q3, q4⟩ := xBody_of hsy ih hH hx
    have e0 : ev P sy (awTb aw) G K (d + 1) g l ⟨t, n⟩ = match evBody P sy G K (ev P sy (awTb aw) G K d) (fun n => evD P sy G n (ev P sy (awTb aw) G K d)) g l ⟨t, n⟩ with
      | some (fn, T, h', dv) => (match dv with
        | .tuple ⟨[]⟩ => evEnd P fn T h'
        | .func (.func g2) ⟨a2⟩ ⟨[]⟩ => (match evPlain P sy G K (ev P sy (awTb aw) G K d) (fun n => evD P sy G n (ev P sy (awTb aw) G K d)) g2 a2 h' with
          | some (_, h2) => evEnd P fn T h2
          | none => none)
        | _ => none)
      | none => none := by
      show evF P sy (awTb aw) G (fun G n call => evD P sy G n call) K (d + 1) g l ⟨t, n⟩ = _
      unfold evF
      rw [hno]
      rfl
    rw [e0, q1]
    cases df with
    | no =>
      obtain ⟨v, p1, p2⟩ := xEnd_of hsy q2 q3 q4
      exact ⟨v, h', H', p1, q3, p2⟩
    | some g2 a2 =>
      obtain ⟨t1, n1⟩ := h'
      obtain ⟨fn2, T2, h2, df2, R2, H2, r1, r2, r3, r4⟩ := xBody_of hsy ih q3 q4
      cases df2 with
      | some g3 a3 => cases r4
      | no =>
        obtain ⟨v2, p1, p2⟩ := xEnd_of hsy r2 r3 r4
        obtain ⟨v, p3, p4⟩ := xEnd_of (h := h2) hsy q2 r3 p2
        refine ⟨v, h2, H2, ?_, r3, p4⟩
        have e1 : evPlain P sy G K (ev P sy (awTb aw) G K d) (fun n => evD P sy G n (ev P sy (awTb aw) G K d)) g2 a2 ⟨t1, n1⟩ = some (v2, h2) := by
          unfold evPlain
          rw [r1]
          exact p1
        show (match evPlain P sy G K (ev P sy (awTb aw) G K d) (fun n => evD P sy G n (ev P sy (awTb aw) G K d)) g2 a2 ⟨t1, n1⟩ with
          | some (_, h2) => evEnd P fn T h2
          | none => none) = _
        rw [e1]
        exact p3
/-- A fast run that comes to true. -/
noncomputable def good (v : Value) (_ : FH) (_ : Nat) : Bool := vBool v true false false
theorem fast_true (hsy : SyT sy) {aw : Option Nat} {K d g : Nat} {l : List Value} {H : FH} {t : Tr AObj} {n : Nat} (hH : HR H t) (h : xF P sy G aw K d g l H n good = true) : ∃ h', ev P sy (awTb aw) G K d g l ⟨t, n⟩ = some (.bool true, h') := by
  obtain ⟨v, h', H', h1, _, h2⟩ := fast_ev hsy aw K d g l H t n good hH h
  rcases vBool_of h2 with ⟨rfl, _⟩ | ⟨_, h⟩ | h
  · exact ⟨h', h1⟩
  · cases h
  · cases h
end
end Go.Fv
