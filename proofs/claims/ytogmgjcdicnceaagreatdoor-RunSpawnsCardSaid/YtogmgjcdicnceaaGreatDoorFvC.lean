/-
  A run of a closed call, made for the kernel's speed: each operation in its short form does what the tree's does. No program in sight.
-/
import Derived.Test.YtogmgjcdicnceaaGreatDoorFvB
set_option linter.unusedVariables false
namespace Go.Fv
open Go Go.Eva Go.RowKit Go.Viv

def isTok : Value → Bool
  | .chan (some _) => true
  | _ => false
def isArith : Op → Bool
  | .binOp _ _ _ _ _ => true
  | .unOp _ _ _ => true
  | .convert _ _ _ => true
  | _ => false
/-- What is said of open numbers is said of reckonings on open numbers alone. -/
def SyT (sy : Sy) : Prop := ∀ o vals v, sy o vals = some v → isArith o = true ∧ vals.any isTok = true
noncomputable def oV (o : Option Value) : (Value → Bool) → Bool := Option.rec (motive := fun _ => (Value → Bool) → Bool) (fun _ => false) (fun v k => fW v k) o
theorem oV_of {o : Option Value} {k : Value → Bool} (h : oV o k = true) : ∃ v, o = some v ∧ k v = true := by
  cases o with
  | none => cases h
  | some v => exact ⟨v, rfl, (fW_eq v k).symm.trans h⟩
noncomputable def oA (o : Option (Value × AObj)) : (Value → AObj → Bool) → Bool := Option.rec (motive := fun _ => (Value → AObj → Bool) → Bool) (fun _ => false) (fun p k => Prod.rec (motive := fun _ => Bool) (fun v ob => fW v fun v => k v ob) p) o
theorem oA_of {o : Option (Value × AObj)} {k : Value → AObj → Bool} (h : oA o k = true) : ∃ v ob, o = some (v, ob) ∧ k v ob = true := by
  cases o with
  | none => cases h
  | some p => obtain ⟨v, ob⟩ := p; exact ⟨v, ob, rfl, (fW_eq v fun v => k v ob).symm.trans h⟩
noncomputable def oC (o : Option (FuncId × List Value)) : (FuncId → List Value → Bool) → Bool := Option.rec (motive := fun _ => (FuncId → List Value → Bool) → Bool) (fun _ => false) (fun p k => Prod.rec (motive := fun _ => Bool) (fun g l => fN g fun g => fL fV l fun l => k g l) p) o
theorem oC_of {o : Option (FuncId × List Value)} {k : FuncId → List Value → Bool} (h : oC o k = true) : ∃ g l, o = some (g, l) ∧ k g l = true := by
  cases o with
  | none => cases h
  | some p => obtain ⟨g, l⟩ := p; exact ⟨g, l, rfl, (fL_eq fV_eq l fun l => k g l).symm.trans h⟩
noncomputable def oU (o : Option (Value × Ups × Nat)) : (Value → Ups → Nat → Bool) → Bool := Option.rec (motive := fun _ => (Value → Ups → Nat → Bool) → Bool) (fun _ => false) (fun p k => Prod.rec (motive := fun _ => Bool) (fun v q => Prod.rec (motive := fun _ => Bool) (fun us n => fN n fun n => fW v fun v => k v us n) q) p) o
theorem oU_of {o : Option (Value × Ups × Nat)} {k : Value → Ups → Nat → Bool} (h : oU o k = true) : ∃ v us n, o = some (v, us, n) ∧ k v us n = true := by
  cases o with
  | none => cases h
  | some p => obtain ⟨v, us, n⟩ := p; exact ⟨v, us, n, rfl, (fW_eq v fun v => k v us n).symm.trans h⟩
noncomputable def allOne (l : List Value) : Bool := List.rec (motive := fun _ => Bool) true (fun v _ ih => yes (isOne v) ih) l
theorem allOne_of : ∀ {l : List Value}, allOne l = true → l.all oneB = true
  | [], _ => rfl
  | v :: l, h => by
    obtain ⟨h1, h2⟩ := yes_of (x := allOne l) h
    simp only [List.all_cons, (isOne_of h1).2, allOne_of h2, Bool.and_self]
noncomputable def boxK (v : Value) (e : TypeId) (id : Nat) (k : Value → AObj → Bool) : Bool := vAgg v (fun l => yes (allOne l) (k (.pointer (some ⟨id, 0, none⟩)) (.cells l e true))) (yes (isOne v) (k (.pointer (some ⟨id, 0, none⟩)) (.cells [v] e true)))
theorem boxK_of {v : Value} {e : TypeId} {id : Nat} {k : Value → AObj → Bool} (h : boxK v e id k = true) : (cellsL v).all oneB = true ∧ k (.pointer (some ⟨id, 0, none⟩)) (.cells (cellsL v) e true) = true := by
  rcases vAgg_of h with ⟨l, rfl, h⟩ | h
  · exact ⟨allOne_of (yes_of h).1, (yes_of h).2⟩
  · obtain ⟨h1, h2⟩ := yes_of h
    rw [(isOne_of h1).1]
    exact ⟨by simp only [List.all_cons, (isOne_of h1).2]; rfl, h2⟩
section
variable (P : Program) (sy : Sy) (G : Nat)
noncomputable def xQ (o : Op) (R : Rg) (k : Value → Bool) : Bool := oV (evQ P sy (fun x => rd (od G x) R) .nil o) k
noncomputable def xAl (o : Op) (R : Rg) (id : Nat) (k : Value → AObj → Bool) : Bool := oA (evA P (fun x => rd (od G x) R) id o) k
abbrev HI := CallX → Rg → FH → Nat → KV → Bool
noncomputable def hMov (a : Od) : HI := fun _ R H n k => rdK a R fun v => k v H n
noncomputable def kBin (s : Bool) (f : BF) (kd : IntKind) (M : Nat) (u v : Value) (k : Value → Bool) : Bool :=
  vInt u (fun k1 x => vInt v (fun k2 y => ifB (kEq kd k1) (ifB (kEq kd k2) (iNat x (fun x => iNat y (fun y => bf f kd M x y k s) s) s) s) s) s) s
noncomputable def hBin (f : BF) (kd : IntKind) (M : Nat) (a b : Od) (o : Op) : HI := fun _ R H n k => kBin (xQ P sy G o R fun v => k v H n) f kd M (rd a R) (rd b R) fun v => k v H n
noncomputable def kShf (s : Bool) (l : Bool) (kd : IntKind) (M w : Nat) (u v : Value) (k : Value → Bool) : Bool :=
  vInt u (fun k1 x => vInt v (fun _ y => ifB (kEq kd k1) (iNat x (fun x => iNat y (fun y => ifB (Nat.ble y w) (ifB l (inR kd M (Nat.shiftLeft x y) k s) (inR kd M (Nat.shiftRight x y) k s)) s) s) s) s) s) s
noncomputable def hShf (l : Bool) (kd : IntKind) (M w : Nat) (a b : Od) (o : Op) : HI := fun _ R H n k => kShf (xQ P sy G o R fun v => k v H n) l kd M w (rd a R) (rd b R) fun v => k v H n
noncomputable def hNil (a : Od) (o : Op) : HI := fun _ R H n k => vPtr (rd a R) (fun B o => k (.pointer (some ⟨B, o, none⟩)) H n) (xQ P sy G o R fun v => k v H n)
noncomputable def hPick (c a b : Od) : HI := fun _ R H n k => vBool (rd c R) (rdK a R fun v => k v H n) (rdK b R fun v => k v H n) false
noncomputable def kCv (s : Bool) (kd : IntKind) (M : Nat) (u : Value) (k : Value → Bool) : Bool := vInt u (fun _ x => iNat x (fun x => ifB (Nat.ble x M) (k (.int kd (.ofNat x))) s) s) s
noncomputable def hCv (kd : IntKind) (M : Nat) (a : Od) (o : Op) : HI := fun _ R H n k => kCv (xQ P sy G o R fun v => k v H n) kd M (rd a R) fun v => k v H n
noncomputable def hIsn (e sl : Bool) (a : Od) (o : Op) : HI := fun _ R H n k => ifB sl (vSlice (rd a R) (fun _ _ _ _ => k (.bool e) H n) (xQ P sy G o R fun v => k v H n)) (vPtr (rd a R) (fun _ _ => k (.bool e) H n) (xQ P sy G o R fun v => k v H n))
noncomputable def hNt (a : Od) (o : Op) : HI := fun _ R H n k => vBool (rd a R) (k (.bool false) H n) (k (.bool true) H n) (xQ P sy G o R fun v => k v H n)
noncomputable def hIdx (len : Nat) (a i : Od) : HI := fun _ R H n k => vAgg (rd a R) (fun l => vInt (rd i R) (fun _ x => iNat x (fun x => yes (Nat.blt x len) (nthK x l fun v => k v H n)) false) false) false
/-- The blocks that an operation's operands name. -/
def blkOf : Value → Option Nat
  | .pointer (some a) => some a.block
  | .slice (some a) _ _ => some a.block
  | .map (some b) => some b
  | _ => none
noncomputable def mini (H : FH) : List Value → Tr AObj
  | [] => .nil
  | v :: l => match blkOf v with
    | some B => (match hget B H with | some ob => (mini H l).set B (some ob) | none => mini H l)
    | none => mini H l
noncomputable def hQh (o : Op) : HI := fun _ R H n k => oV (evQ P sy (fun x => rd (od G x) R) (mini H (o.operands.toList.map fun x => rd (od G x) R)) o) fun v => k v H n
noncomputable def hLd (a : Od) : HI := fun _ R H n k => vPtr (rd a R) (fun B o => oCells (hget B H) fun c _ _ => nthK o c fun v => k v H n) false
noncomputable def hLdN (m : Nat) (a : Od) : HI := fun _ R H n k => vPtr (rd a R) (fun B o => oCells (hget B H) fun c _ _ => dropK o c fun c => takeK m c fun l => k (.agg ⟨l⟩) H n) false
noncomputable def hSt (a v : Od) : HI := fun _ R H n k => vPtr (rd a R) (fun B o => oCells (hget B H) fun c e r => yes r (rdK v R fun v => yes (isOne v) (setK o v c fun c => hput B (some (.cells c e true)) H fun H => k undef H n))) false
noncomputable def hStN (m : Nat) (a v : Od) : HI := fun _ R H n k => vPtr (rd a R) (fun B o => oCells (hget B H) fun c e r => yes r (vAgg (rd v R) (fun l => yes (lenIs m l) (splK o l c fun c => hput B (some (.cells c e true)) H fun H => k undef H n)) false)) false
noncomputable def hFad (off : Nat) (a : Od) : HI := fun _ R H n k => vPtr (rd a R) (fun B o => fN (Nat.add o off) fun o => k (.pointer (some ⟨B, o, none⟩)) H n) false
noncomputable def hIad (m : Nat) (a i : Od) : HI := fun _ R H n k => vSlice (rd a R) (fun B o len _ => vInt (rd i R) (fun _ x => iNat x (fun x => yes (Nat.blt x len) (fN (Nat.add o (Nat.mul x m)) fun o => k (.pointer (some ⟨B, o, none⟩)) H n)) false) false) false
noncomputable def hIaa (len m : Nat) (a i : Od) : HI := fun _ R H n k => vPtr (rd a R) (fun B o => vInt (rd i R) (fun _ x => iNat x (fun x => yes (Nat.blt x len) (fN (Nat.add o (Nat.mul x m)) fun o => k (.pointer (some ⟨B, o, none⟩)) H n)) false) false) false
noncomputable def hExt (i : Nat) (a : Od) : HI := fun _ R H n k => vTup (rd a R) (fun l => nthK i l fun v => k v H n) false
noncomputable def hLen (a : Od) : HI := fun _ R H n k => vLen (rd a R) (fun m => k (.int .i64 (.ofNat m)) H n) false
noncomputable def hQ (o : Op) : HI := fun _ R H n k => xQ P sy G o R fun v => k v H n
noncomputable def born (n : Nat) (H : FH) (k : KV) (v : Value) (ob : AObj) : Bool := hput n (some ob) H fun H => fN (Nat.add n 1) fun n => k v H n
noncomputable def hAl (o : Op) : HI := fun _ R H n k => xAl P G o R n fun v ob => born n H k v ob
noncomputable def hAlf (o : Op) : HI := fun _ R H n k => xAl P G o R n fun v ob => fOb ob fun ob => born n H k v ob
noncomputable def hBox (e : TypeId) (a : Od) : HI := fun _ R H n k => rdK a R fun v => boxK v e n fun v ob => born n H k v ob
noncomputable def hCall (g : Nat) (as : List Od) : HI := fun c R H n k => rdsK as R fun l => c g l H n k
noncomputable def hCald (c : Call) : HI := fun cx R H n k => oC (targetB P (fun x => rd (od G x) R) c) fun g l => yes (okFn P g) (cx g l H n k)
noncomputable def hApp (c : Call) (a b : Od) : HI := fun _ R H n k => rdK a R fun s => rdK b R fun x => oU (appendG P (fun B => hget B H) n c.argTypes.toList s x) fun v us n => upsH us H fun H => k v H n
noncomputable def hBad : HI := fun _ _ _ _ _ => false
noncomputable def xI (c : Ci) : HI := Ci.rec (motive := fun _ => HI) hMov (hBin P sy G) (hShf P sy G) (hNil P sy G) hPick (hCv P sy G) (hIsn P sy G) (hNt P sy G) hIdx hLd hLdN hSt hStN hFad hIad hIaa hExt hLen (hQ P sy G) (hQh P sy G) (hAl P G) (hAlf P G) hBox hCall (hCald P G) (hApp P) hBad c
abbrev HA := Rg → Nat → (Value → AObj → Bool) → Bool
noncomputable def aAl (o : Op) : HA := fun R n k => xAl P G o R n k
noncomputable def aAlf (o : Op) : HA := fun R n k => xAl P G o R n fun v ob => fOb ob fun ob => k v ob
noncomputable def aBox (e : TypeId) (a : Od) : HA := fun R n k => rdK a R fun v => boxK v e n k
noncomputable def aBad : HA := fun _ _ _ => false
noncomputable def xA (c : Ci) : HA := Ci.rec (motive := fun _ => HA) (fun _ => aBad) (fun _ _ _ _ _ _ => aBad) (fun _ _ _ _ _ _ _ => aBad) (fun _ _ => aBad) (fun _ _ _ => aBad) (fun _ _ _ _ => aBad) (fun _ _ _ _ => aBad) (fun _ _ => aBad) (fun _ _ _ => aBad) (fun _ => aBad) (fun _ _ => aBad) (fun _ _ => aBad) (fun _ _ _ => aBad) (fun _ _ => aBad) (fun _ _ _ => aBad) (fun _ _ _ _ => aBad) (fun _ _ => aBad) (fun _ => aBad) (fun _ => aBad) (fun _ => aBad) (aAl P G) (aAlf P G) aBox (fun _ _ => aBad) (fun _ => aBad) (fun _ _ _ => aBad) aBad c

/-! ### The short forms -/
def bfOf (op : BinOp) (xt : TypeId) : Option (BF × IntKind) := match P.underlying xt with
  | some (.int k) => (match op with
    | .add => some (.add, k)
    | .sub => some (.sub, k)
    | .mul => some (.mul, k)
    | .and => some (.and, k)
    | .or => some (.or, k)
    | .xor => some (.xor, k)
    | .quo => some (.quo, k)
    | .rem => some (.rem, k)
    | .lss => some (.lt, k)
    | .leq => some (.le, k)
    | .gtr => some (.gt, k)
    | .geq => some (.ge, k)
    | .eql => some (.eq, k)
    | .neq => some (.ne, k)
    | _ => none)
  | _ => none
def cBin (o : Op) (op : BinOp) (xt : TypeId) (x y : Operand) : Ci := match bfOf P op xt with
  | some (f, k) => .bin f k (mxN k) (od G x) (od G y) o
  | none => match op, P.underlying xt, y with
    | .shl, some (.int k), _ => .shf true k (mxN k) (wdN k) (od G x) (od G y) o
    | .shr, some (.int k), _ => .shf false k (mxN k) (wdN k) (od G x) (od G y) o
    | .eql, some (.pointer _), .const (.pointer none) => .isn false false (od G x) o
    | .neq, some (.pointer _), .const (.pointer none) => .isn true false (od G x) o
    | .eql, some (.slice _), .const (.slice none 0 0) => .isn false true (od G x) o
    | .neq, some (.slice _), .const (.slice none 0 0) => .isn true true (od G x) o
    | .eql, some (.pointer _), _ => .qh o
    | .neq, some (.pointer _), _ => .qh o
    | _, _, _ => .q o
def cQ (o : Op) : Ci := match o with
  | .move x => .mov (od G x)
  | .assign x => .mov (od G x)
  | .load t a => (match isAggB P t, sizeB P t with
    | some false, _ => .ld (od G a)
    | some true, some n => .ldN n (od G a)
    | _, _ => .bad)
  | .binOp op xt x y yt => cBin P G (.binOp op xt x y yt) op xt x y
  | .nilCheck x => .nil (od G x) (.nilCheck x)
  | .pick c a b => .pick (od G c) (od G a) (od G b)
  | .convert s d x => (match P.underlying s, P.underlying d with
    | some (.int _), some (.int k) => .cv k (mxN k) (od G x) (.convert s d x)
    | _, _ => .q (.convert s d x))
  | .unOp .not t x => .nt (od G x) (.unOp .not t x)
  | .index t x i => (match P.underlying t with
    | some (.array len elem) => (match isAggB P elem, sizeB P elem with
      | some false, some 1 => .idx len (od G x) (od G i)
      | _, _ => .q (.index t x i))
    | _ => .q (.index t x i))
  | .slice t x l h m => .qh (.slice t x l h m)
  | .lookup t m k ok => .qh (.lookup t m k ok)
  | .fieldAddr s x f => (match P.underlying s with
    | some (.struct fs) => match fs[f]? with
      | some fd => match sizeB P fd.type with
        | some (_ + 1) => .fad fd.offset (od G x)
        | _ => .bad
      | none => .bad
    | _ => .bad)
  | .indexAddr t x i => (match P.underlying t with
    | some (.slice elem) => (match sizeB P elem with | some n => .iad n (od G x) (od G i) | none => .bad)
    | some (.array len elem) => (match sizeB P elem with | some n => .iaa len n (od G x) (od G i) | none => .bad)
    | _ => .bad)
  | .extract t i => .ext i (od G t)
  | .call c => (match c.callee, c.argTypes.toList, c.args.toList with
    | .builtin .len, t :: _, [x] => (match P.underlying t with | some (.slice _) => .len (od G x) | _ => .q (.call c))
    | _, _, _ => .q (.call c))
  | o => .q o
def cA (o : Op) : Ci := match o with
  | .box e x => (match sizeB P e with | some _ => .box e (od G x) | none => .bad)
  | .buildSlice t len parts => .alf (.buildSlice t len parts)
  | o => .al o
def cE (o : Op) : Ci := match o with
  | .store t a v => (match isAggB P t, sizeB P t with
    | some false, some 1 => .st (od G a) (od G v)
    | some true, some (n + 1) => .stN (n + 1) (od G a) (od G v)
    | _, _ => .bad)
  | .call c => (match c.callee, c.args.toList with
    | .builtin .append, [s, x] => .app c (od G s) (od G x)
    | .builtin _, _ => .bad
    | .value (.func f), l => (match okFn P f with | true => .call f (l.map (od G)) | false => .bad)
    | _, _ => .cald c)
  | _ => .bad
def cI (o : Op) : Ci := match kind o with
  | .quiet => cQ P G o
  | .alloc => cA P G o
  | .eff => cE P G o
end
/-! ### What they do -/
section
variable {P : Program} {sy : Sy} {G : Nat} {R : Rg} {T : Tr Value} {H : FH} {t : Tr AObj} {n : Nat} {k : KV}
theorem fun_od (hR : RR R T) : (fun x => rd (od G x) R) = evl G T := funext fun x => hR.od G x
theorem more_nil (t : Tr AObj) : More .nil t := fun B ob h => by rw [nil_at] at h; cases h
theorem xQ_of (hR : RR R T) {o : Op} {k : Value → Bool} (h : xQ P sy G o R k = true) : ∃ v, evQ P sy (evl G T) t o = some v ∧ k v = true := by
  obtain ⟨v, h1, h2⟩ := oV_of h
  rw [fun_od hR] at h1
  exact ⟨v, evQ_more (more_nil t) h1, h2⟩
theorem mini_more (hH : HR H t) : ∀ l : List Value, More (mini H l) t
  | [] => more_nil t
  | v :: l => by
    have ih := mini_more hH l
    unfold mini
    split
    · rename_i B _
      split
      · rename_i ob ho
        intro X o hX
        by_cases e : B = X
        · subst e
          rw [Tr.at_set_same] at hX
          rw [hH B, ho]
          exact hX
        · rw [Tr.at_set_ne _ _ e] at hX
          exact ih X o hX
      · exact ih
    · exact ih
theorem xQh_of (hR : RR R T) (hH : HR H t) {o : Op} {call : CallX} (h : xI P sy G (.qh o) call R H n k = true) : ∃ v, evQ P sy (evl G T) t o = some v ∧ k v H n = true := by
  have h : oV (evQ P sy (fun x => rd (od G x) R) (mini H (o.operands.toList.map fun x => rd (od G x) R)) o) (fun v => k v H n) = true := h
  obtain ⟨v, h1, h2⟩ := oV_of h
  rw [fun_od hR] at h1
  exact ⟨v, evQ_more (mini_more hH _) h1, h2⟩
theorem evQ_0 (hsy : SyT sy) {o : Op} (ρ : Operand → Value) (h : isArith o = false) : evQ P sy ρ t o = evQ0 P ρ t o := by
  unfold evQ
  cases hs : sy o (o.operands.toList.map ρ) with
  | none => rfl
  | some v => rw [(hsy _ _ _ hs).1] at h; cases h
theorem wrap_mx (k : IntKind) {z : Nat} (h : z ≤ mxN k) : k.wrap (Int.ofNat z) = Int.ofNat z := by
  cases k <;> (simp only [mxN] at h; unfold IntKind.wrap; simp [IntKind.bits, IntKind.signed]; omega)
theorem mx_lt (k : IntKind) {x : Nat} (h : x ≤ mxN k) : x < 2 ^ k.bits := by
  cases k <;> (simp only [mxN] at h; simp only [IntKind.bits]; omega)
theorem ofInt_mx (k : IntKind) {x : Nat} (h : x ≤ mxN k) : (BitVec.ofInt k.bits (Int.ofNat x)).toNat = x := by
  rw [Int.ofNat_eq_natCast, BitVec.ofInt_natCast, BitVec.toNat_ofNat]
  exact Nat.mod_eq_of_lt (mx_lt k h)
section
variable {xt : TypeId} {k : IntKind} {a b : Int}
theorem s_add : semV (binOp .add xt (.int k a) (.int k b)) = some (.int k (k.wrap (a + b))) := by cases k <;> rfl
theorem s_sub : semV (binOp .sub xt (.int k a) (.int k b)) = some (.int k (k.wrap (a - b))) := by cases k <;> rfl
theorem s_mul : semV (binOp .mul xt (.int k a) (.int k b)) = some (.int k (k.wrap (a * b))) := by cases k <;> rfl
theorem s_and : semV (binOp .and xt (.int k a) (.int k b)) = some (.int k (k.wrap ((BitVec.ofInt k.bits a &&& BitVec.ofInt k.bits b).toNat : Int))) := by cases k <;> rfl
theorem s_or : semV (binOp .or xt (.int k a) (.int k b)) = some (.int k (k.wrap ((BitVec.ofInt k.bits a ||| BitVec.ofInt k.bits b).toNat : Int))) := by cases k <;> rfl
theorem s_xor : semV (binOp .xor xt (.int k a) (.int k b)) = some (.int k (k.wrap ((BitVec.ofInt k.bits a ^^^ BitVec.ofInt k.bits b).toNat : Int))) := by cases k <;> rfl
theorem s_quo (h : b ≠ 0) : semV (binOp .quo xt (.int k a) (.int k b)) = some (.int k (k.wrap (a.tdiv b))) := by
  have e : semV (binOp .quo xt (.int k a) (.int k b)) = semV (Op.intDiv .quo k a b) := by cases k <;> rfl
  rw [e]; unfold Op.intDiv; rw [if_neg h]; rfl
theorem s_rem (h : b ≠ 0) : semV (binOp .rem xt (.int k a) (.int k b)) = some (.int k (a.tmod b)) := by
  have e : semV (binOp .rem xt (.int k a) (.int k b)) = semV (Op.intDiv .rem k a b) := by cases k <;> rfl
  rw [e]; unfold Op.intDiv; rw [if_neg h]; rfl
theorem s_shl {j : IntKind} {y : Nat} (h : y ≤ k.bits) : semV (binOp .shl xt (.int k a) (.int j (Int.ofNat y))) = some (.int k (k.wrap (a * 2 ^ y))) := by
  have e : semV (binOp .shl xt (.int k a) (.int j (Int.ofNat y))) = semV (Op.shift .shl k a j (Int.ofNat y)) := rfl
  rw [e]; unfold Op.shift
  rw [if_neg (by simp only [Int.ofNat_eq_natCast]; omega), show min (Int.ofNat y).toNat k.bits = y by simp only [Int.ofNat_eq_natCast, Int.toNat_natCast]; omega]
  rfl
theorem s_shr {j : IntKind} {y : Nat} (h : y ≤ k.bits) : semV (binOp .shr xt (.int k a) (.int j (Int.ofNat y))) = some (.int k (a.fdiv (2 ^ y))) := by
  have e : semV (binOp .shr xt (.int k a) (.int j (Int.ofNat y))) = semV (Op.shift .shr k a j (Int.ofNat y)) := rfl
  rw [e]; unfold Op.shift
  rw [if_neg (by simp only [Int.ofNat_eq_natCast]; omega), show min (Int.ofNat y).toNat k.bits = y by simp only [Int.ofNat_eq_natCast, Int.toNat_natCast]; omega]
  rfl
theorem s_lss : semV (binOp .lss xt (.int k a) (.int k b)) = some (.bool (decide (a < b))) := by cases k <;> rfl
theorem s_leq : semV (binOp .leq xt (.int k a) (.int k b)) = some (.bool (decide (a ≤ b))) := by cases k <;> rfl
theorem s_gtr : semV (binOp .gtr xt (.int k a) (.int k b)) = some (.bool (decide (b < a))) := by cases k <;> rfl
theorem s_geq : semV (binOp .geq xt (.int k a) (.int k b)) = some (.bool (decide (b ≤ a))) := by cases k <;> rfl
theorem s_eql : semV (binOp .eql xt (.int k a) (.int k b)) = some (.bool (decide (a = b))) := by cases k <;> rfl
theorem s_neq : semV (binOp .neq xt (.int k a) (.int k b)) = some (.bool (!decide (a = b))) := by cases k <;> rfl
end
theorem wd_bits (k : IntKind) : wdN k = k.bits := by cases k <;> rfl
theorem bf_of {f : BF} {op : BinOp} {xt : TypeId} {kd : IntKind} (hf : bfOf P op xt = some (f, kd)) {ox oy : Operand} {x y : Nat} {k : Value → Bool} {s : Bool} (h : bf f kd (mxN kd) x y k s = true) :
    (∃ v, binB P t op xt ox oy (.int kd (.ofNat x)) (.int kd (.ofNat y)) = some v ∧ k v = true) ∨ s = true := by
  unfold bfOf at hf
  split at hf <;> try (cases hf; done)
  rename_i kk _
  have e1 : ∀ op, binB P t op xt ox oy (.int kd (.ofNat x)) (.int kd (.ofNat y)) = semV (binOp op xt (.int kd (.ofNat x)) (.int kd (.ofNat y))) := fun op => rfl
  rw [e1]
  have ofn : ∀ n : Nat, Int.ofNat n = (n : Int) := fun _ => rfl
  cases op with
  | add =>
    simp only [Option.some.injEq, Prod.mk.injEq] at hf
    obtain ⟨rfl, rfl⟩ := hf
    refine (inR_of h).imp (fun ⟨h1, h2⟩ => ⟨_, ?_, h2⟩) id
    rw [s_add, ← wrap_mx kk h1]; rfl
  | sub =>
    simp only [Option.some.injEq, Prod.mk.injEq] at hf
    obtain ⟨rfl, rfl⟩ := hf
    rcases ifB_of (b := Nat.ble y x) h with ⟨h0, h⟩ | ⟨_, h⟩
    · refine (inR_of h).imp (fun ⟨h1, h2⟩ => ⟨_, ?_, h2⟩) id
      have h0 := ble_iff h0
      rw [s_sub, ← wrap_mx kk h1, show Int.ofNat x - Int.ofNat y = Int.ofNat (x - y) by simp only [ofn]; omega]; rfl
    · exact .inr h
  | mul =>
    simp only [Option.some.injEq, Prod.mk.injEq] at hf
    obtain ⟨rfl, rfl⟩ := hf
    refine (inR_of h).imp (fun ⟨h1, h2⟩ => ⟨_, ?_, h2⟩) id
    rw [s_mul, ← wrap_mx kk h1]; rfl
  | and =>
    simp only [Option.some.injEq, Prod.mk.injEq] at hf
    obtain ⟨rfl, rfl⟩ := hf
    rcases two_of h with ⟨hx, hy, h⟩ | h
    · refine (inR_of h).imp (fun ⟨h1, h2⟩ => ⟨_, ?_, h2⟩) id
      rw [s_and, ← wrap_mx kk h1, BitVec.toNat_and, ofInt_mx kk hx, ofInt_mx kk hy]; rfl
    · exact .inr h
  | or =>
    simp only [Option.some.injEq, Prod.mk.injEq] at hf
    obtain ⟨rfl, rfl⟩ := hf
    rcases two_of h with ⟨hx, hy, h⟩ | h
    · refine (inR_of h).imp (fun ⟨h1, h2⟩ => ⟨_, ?_, h2⟩) id
      rw [s_or, ← wrap_mx kk h1, BitVec.toNat_or, ofInt_mx kk hx, ofInt_mx kk hy]; rfl
    · exact .inr h
  | xor =>
    simp only [Option.some.injEq, Prod.mk.injEq] at hf
    obtain ⟨rfl, rfl⟩ := hf
    rcases two_of h with ⟨hx, hy, h⟩ | h
    · refine (inR_of h).imp (fun ⟨h1, h2⟩ => ⟨_, ?_, h2⟩) id
      rw [s_xor, ← wrap_mx kk h1, BitVec.toNat_xor, ofInt_mx kk hx, ofInt_mx kk hy]; rfl
    · exact .inr h
  | quo =>
    simp only [Option.some.injEq, Prod.mk.injEq] at hf
    obtain ⟨rfl, rfl⟩ := hf
    rcases ifB_of (b := Nat.beq y 0) h with ⟨_, h⟩ | ⟨h0, h⟩
    · exact .inr h
    · refine (inR_of h).imp (fun ⟨h1, h2⟩ => ⟨_, ?_, h2⟩) id
      have hy : y ≠ 0 := fun e => by rw [e] at h0; cases h0
      rw [s_quo (by simp only [ofn]; omega), ← wrap_mx kk h1, show (Int.ofNat x).tdiv (Int.ofNat y) = Int.ofNat (x / y) from rfl]; rfl
  | rem =>
    simp only [Option.some.injEq, Prod.mk.injEq] at hf
    obtain ⟨rfl, rfl⟩ := hf
    rcases ifB_of (b := Nat.beq y 0) h with ⟨_, h⟩ | ⟨h0, h⟩
    · exact .inr h
    · refine (inR_of h).imp (fun ⟨h1, h2⟩ => ⟨_, ?_, h2⟩) id
      have hy : y ≠ 0 := fun e => by rw [e] at h0; cases h0
      rw [s_rem (by simp only [ofn]; omega), show (Int.ofNat x).tmod (Int.ofNat y) = Int.ofNat (x % y) from rfl]; rfl
  | lss =>
    simp only [Option.some.injEq, Prod.mk.injEq] at hf
    obtain ⟨rfl, rfl⟩ := hf
    refine .inl ⟨.bool (Nat.blt x y), ?_, (fB_eq (Nat.blt x y) fun b => k (.bool b)).symm.trans h⟩
    rw [s_lss, show decide (Int.ofNat x < Int.ofNat y) = Nat.blt x y by rw [Bool.eq_iff_iff, decide_eq_true_iff, nblt_iff]; simp only [ofn]; omega]
  | leq =>
    simp only [Option.some.injEq, Prod.mk.injEq] at hf
    obtain ⟨rfl, rfl⟩ := hf
    refine .inl ⟨.bool (Nat.ble x y), ?_, (fB_eq (Nat.ble x y) fun b => k (.bool b)).symm.trans h⟩
    rw [s_leq, show decide (Int.ofNat x ≤ Int.ofNat y) = Nat.ble x y by rw [Bool.eq_iff_iff, decide_eq_true_iff, Nat.ble_eq]; simp only [ofn]; omega]
  | gtr =>
    simp only [Option.some.injEq, Prod.mk.injEq] at hf
    obtain ⟨rfl, rfl⟩ := hf
    refine .inl ⟨.bool (Nat.blt y x), ?_, (fB_eq (Nat.blt y x) fun b => k (.bool b)).symm.trans h⟩
    rw [s_gtr, show decide (Int.ofNat y < Int.ofNat x) = Nat.blt y x by rw [Bool.eq_iff_iff, decide_eq_true_iff, nblt_iff]; simp only [ofn]; omega]
  | geq =>
    simp only [Option.some.injEq, Prod.mk.injEq] at hf
    obtain ⟨rfl, rfl⟩ := hf
    refine .inl ⟨.bool (Nat.ble y x), ?_, (fB_eq (Nat.ble y x) fun b => k (.bool b)).symm.trans h⟩
    rw [s_geq, show decide (Int.ofNat y ≤ Int.ofNat x) = Nat.ble y x by rw [Bool.eq_iff_iff, decide_eq_true_iff, Nat.ble_eq]; simp only [ofn]; omega]
  | eql =>
    simp only [Option.some.injEq, Prod.mk.injEq] at hf
    obtain ⟨rfl, rfl⟩ := hf
    refine .inl ⟨.bool (Nat.beq x y), ?_, (fB_eq (Nat.beq x y) fun b => k (.bool b)).symm.trans h⟩
    rw [s_eql, show decide (Int.ofNat x = Int.ofNat y) = Nat.beq x y by rw [Bool.eq_iff_iff, decide_eq_true_iff, Nat.beq_eq]; simp only [ofn]; omega]
  | neq =>
    simp only [Option.some.injEq, Prod.mk.injEq] at hf
    obtain ⟨rfl, rfl⟩ := hf
    refine .inl ⟨.bool (!Nat.beq x y), ?_, ?_⟩
    · rw [s_neq, show decide (Int.ofNat x = Int.ofNat y) = Nat.beq x y by rw [Bool.eq_iff_iff, decide_eq_true_iff, Nat.beq_eq]; simp only [ofn]; omega]
    · rcases ifB_of (b := Nat.beq x y) h with ⟨h1, h2⟩ | ⟨h1, h2⟩ <;> (rw [h1]; exact h2)
  | _ => cases hf
theorem vals_tok {sy : Sy} (hsy : SyT sy) {o : Op} {vals : List Value} (h : vals.any isTok = false) : sy o vals = none := by
  cases hs : sy o vals with
  | none => rfl
  | some v => rw [(hsy _ _ _ hs).2] at h; cases h
theorem isn_ptr {xt e : TypeId} {ox oy : Operand} (hu : P.underlying xt = some (.pointer e)) (B o : Nat) : binB P t .eql xt ox oy (.pointer (some ⟨B, o, none⟩)) (.pointer none) = some (.bool false) ∧ binB P t .neq xt ox oy (.pointer (some ⟨B, o, none⟩)) (.pointer none) = some (.bool true) := by
  constructor <;> simp only [binB, plainV, Bool.false_and, isEq, eqB, hu] <;> rfl
theorem isn_sl {xt e : TypeId} {ox oy : Operand} (hu : P.underlying xt = some (.slice e)) (B o n c : Nat) : binB P t .eql xt ox oy (.slice (some ⟨B, o, none⟩) n c) (.slice none 0 0) = some (.bool false) ∧ binB P t .neq xt ox oy (.slice (some ⟨B, o, none⟩) n c) (.slice none 0 0) = some (.bool true) := by
  constructor <;> simp only [binB, plainV, Bool.false_and, isEq, eqB, hu] <;> rfl
/-- Two values reckoned with. -/
theorem cBin_of (hsy : SyT sy) (hR : RR R T) (hH : HR H t) {op : BinOp} {xt yt : TypeId} {x y : Operand} {call : CallX} (h : xI P sy G (cBin P G (.binOp op xt x y yt) op xt x y) call R H n k = true) :
    ∃ v, evQ P sy (evl G T) t (.binOp op xt x y yt) = some v ∧ k v H n = true := by
  have slow : xQ P sy G (.binOp op xt x y yt) R (fun v => k v H n) = true → ∃ v, evQ P sy (evl G T) t (.binOp op xt x y yt) = some v ∧ k v H n = true := fun h => xQ_of hR h
  have heap : xI P sy G (.qh (.binOp op xt x y yt)) call R H n k = true → ∃ v, evQ P sy (evl G T) t (.binOp op xt x y yt) = some v ∧ k v H n = true := fun h => xQh_of hR hH h
  have hx := hR.od G x
  have hy := hR.od G y
  have fast : ∀ {u w : Value}, rd (od G x) R = u → rd (od G y) R = w → isTok u = false → isTok w = false → ∀ {v : Value}, binB P t op xt x y u w = some v → evQ P sy (evl G T) t (.binOp op xt x y yt) = some v := fun {u w} h1 h2 h3 h4 {v} h5 => by
    have hs : sy (.binOp op xt x y yt) ((Op.binOp op xt x y yt).operands.toList.map (evl G T)) = none := vals_tok hsy (by simp [Op.operands, ← hx, ← hy, h1, h2, h3, h4])
    simp only [evQ, hs, evQ0, ← hx, ← hy, h1, h2, h5]
  have shf : ∀ {l : Bool} {kd : IntKind} {op' : BinOp}, op = op' → (op' = .shl ∧ l = true ∨ op' = .shr ∧ l = false) → kShf (xQ P sy G (.binOp op xt x y yt) R fun v => k v H n) l kd (mxN kd) (wdN kd) (rd (od G x) R) (rd (od G y) R) (fun v => k v H n) = true → ∃ v, evQ P sy (evl G T) t (.binOp op xt x y yt) = some v ∧ k v H n = true := fun {l kd op'} ho hl h => by
    rcases vInt_of h with ⟨k1, a, h1, g1⟩ | g
    · rcases vInt_of g1 with ⟨k2, b, h2, g2⟩ | g
      · rcases ifB_of g2 with ⟨h3, g3⟩ | ⟨_, g⟩
        · rcases iNat_of (n := a) g3 with ⟨a', rfl, g4⟩ | g
          · rcases iNat_of (n := b) g4 with ⟨b', rfl, g5⟩ | g
            · rcases ifB_of (b := Nat.ble b' (wdN kd)) g5 with ⟨h4, g6⟩ | ⟨_, g⟩
              · have e1 : kd = k1 := Fv.kEq_iff h3
                have h4 := ble_iff h4
                rw [wd_bits] at h4
                rcases ifB_of (b := l) g6 with ⟨hl1, g7⟩ | ⟨hl1, g7⟩
                · rcases inR_of g7 with ⟨q1, q2⟩ | g
                  · refine ⟨_, fast h1 h2 rfl rfl ?_, q2⟩
                    rcases hl with ⟨hl, _⟩ | ⟨_, hl⟩
                    · have e : binB P t .shl xt x y (.int kd (.ofNat a')) (.int k2 (.ofNat b')) = semV (binOp .shl xt (.int kd (.ofNat a')) (.int k2 (.ofNat b'))) := rfl
                      rw [ho, hl, ← e1, e, s_shl h4, ← wrap_mx kd q1, show Nat.shiftLeft a' b' = a' * 2 ^ b' from Nat.shiftLeft_eq _ _]
                      simp
                    · rw [hl] at hl1; cases hl1
                  · exact slow g
                · rcases inR_of g7 with ⟨q1, q2⟩ | g
                  · refine ⟨_, fast h1 h2 rfl rfl ?_, q2⟩
                    rcases hl with ⟨_, hl⟩ | ⟨hl, _⟩
                    · rw [hl] at hl1; cases hl1
                    · have e : binB P t .shr xt x y (.int kd (.ofNat a')) (.int k2 (.ofNat b')) = semV (binOp .shr xt (.int kd (.ofNat a')) (.int k2 (.ofNat b'))) := rfl
                      have e2 : (Int.ofNat a').fdiv (2 ^ b') = Int.ofNat (a' / 2 ^ b') := by
                        rw [Int.fdiv_eq_ediv_of_nonneg _ (by exact Int.pow_nonneg (by decide))]
                        simp
                      rw [ho, hl, ← e1, e, s_shr h4, show Nat.shiftRight a' b' = a' / 2 ^ b' from Nat.shiftRight_eq_div_pow _ _, e2]
                  · exact slow g
              · exact slow g
            · exact slow g
          · exact slow g
        · exact slow g
      · exact slow g
    · exact slow g
  have isn : ∀ {e sl : Bool} {w : Value}, rd (od G y) R = w → isTok w = false → (∀ B o, sl = false → binB P t op xt x y (.pointer (some ⟨B, o, none⟩)) w = some (.bool e)) → (∀ B o n c, sl = true → binB P t op xt x y (.slice (some ⟨B, o, none⟩) n c) w = some (.bool e)) →
      xI P sy G (.isn e sl (od G x) (.binOp op xt x y yt)) call R H n k = true → ∃ v, evQ P sy (evl G T) t (.binOp op xt x y yt) = some v ∧ k v H n = true := fun {e sl w} h1 h2 h3 h4 h => by
    rcases ifB_of (b := sl) h with ⟨q, h⟩ | ⟨q, h⟩
    · rcases vSlice_of h with ⟨B, o, len, c, hp, h⟩ | h
      · exact ⟨_, fast hp h1 rfl h2 (h4 B o len c q), h⟩
      · exact slow h
    · rcases vPtr_of h with ⟨B, o, hp, h⟩ | h
      · exact ⟨_, fast hp h1 rfl h2 (h3 B o q), h⟩
      · exact slow h
  unfold cBin at h
  split at h
  · rename_i f kd hf
    have h : kBin (xQ P sy G (.binOp op xt x y yt) R fun v => k v H n) f kd (mxN kd) (rd (od G x) R) (rd (od G y) R) (fun v => k v H n) = true := h
    rcases vInt_of h with ⟨k1, a, h1, h⟩ | h
    · rcases vInt_of h with ⟨k2, b, h2, h⟩ | h
      · rcases ifB_of h with ⟨h3, h⟩ | ⟨_, h⟩
        · rcases ifB_of h with ⟨h4, h⟩ | ⟨_, h⟩
          · rcases iNat_of (n := a) h with ⟨a', rfl, h⟩ | h
            · rcases iNat_of (n := b) h with ⟨b', rfl, h⟩ | h
              · rcases bf_of (t := t) (ox := x) (oy := y) hf h with ⟨v, h5, h6⟩ | h
                · have e1 : kd = k1 := Fv.kEq_iff h3
                  have e2 : kd = k2 := Fv.kEq_iff h4
                  subst e1
                  subst e2
                  exact ⟨v, fast h1 h2 rfl rfl h5, h6⟩
                · exact slow h
              · exact slow h
            · exact slow h
          · exact slow h
        · exact slow h
      · exact slow h
    · exact slow h
  · split at h
    · exact shf rfl (.inl ⟨rfl, rfl⟩) h
    · exact shf rfl (.inr ⟨rfl, rfl⟩) h
    · exact isn (w := .pointer none) rfl rfl (fun B o _ => (isn_ptr (by assumption) B o).1) (fun _ _ _ _ h => by cases h) h
    · exact isn (w := .pointer none) rfl rfl (fun B o _ => (isn_ptr (by assumption) B o).2) (fun _ _ _ _ h => by cases h) h
    · exact isn (w := .slice none 0 0) rfl rfl (fun B o h => by cases h) (fun B o n c _ => (isn_sl (by assumption) B o n c).1) h
    · exact isn (w := .slice none 0 0) rfl rfl (fun B o h => by cases h) (fun B o n c _ => (isn_sl (by assumption) B o n c).2) h
    · exact heap h
    · exact heap h
    · exact slow h
theorem pureRun_bind {α β : Type} (f : α → Sem β) : ∀ (x : Sem α) {a : α}, pureRun P x = some a → pureRun P (x >>= f) = pureRun P (f a)
  | .pure _, _, h => by cases h; rfl
  | .program k, _, h => pureRun_bind f (k P) h
theorem pureRun_und {s : TypeId} {d : TypeDesc} (h : P.underlying s = some d) : pureRun P (underlying s) = some d := by
  show pureRun P (match P.underlying s with | some d => pure d | none => stuck "no such type") = _
  rw [h]
  rfl
theorem conv_int {s d : TypeId} {k1 k2 : IntKind} (h1 : ∃ k, P.underlying s = some (.int k)) (h2 : P.underlying d = some (.int k2)) (n : Int) : runV P (Go.convert s d (.int k1 n)) = some (.int k2 (k2.wrap n)) := by
  obtain ⟨k, h1⟩ := h1
  have e : pureRun P (Go.convert s d (.int k1 n)) = some (.int k2 (k2.wrap n)) := by
    unfold Go.convert
    rw [pureRun_bind _ _ (pureRun_und h1), pureRun_bind _ _ (pureRun_und h2)]
    rfl
  unfold runV
  rw [e]
  rfl
/-- A quiet operation. -/
theorem cQ_of (hsy : SyT sy) (hR : RR R T) (hH : HR H t) {o : Op} {call : CallX} (h : xI P sy G (cQ P G o) call R H n k = true) : ∃ v, evQ P sy (evl G T) t o = some v ∧ k v H n = true := by
  have hq : ∀ {o : Op}, xI P sy G (.q o) call R H n k = true → ∃ v, evQ P sy (evl G T) t o = some v ∧ k v H n = true := fun h => xQ_of hR h
  have hh : ∀ {o : Op}, xI P sy G (.qh o) call R H n k = true → ∃ v, evQ P sy (evl G T) t o = some v ∧ k v H n = true := fun h => xQh_of hR hH h
  cases o with
  | move x =>
    rw [evQ_0 hsy _ rfl]
    exact ⟨_, rfl, by rw [← hR.od G x]; exact (rdK_eq _ _ _).symm.trans h⟩
  | assign x =>
    rw [evQ_0 hsy _ rfl]
    exact ⟨_, rfl, by rw [← hR.od G x]; exact (rdK_eq _ _ _).symm.trans h⟩
  | pick c a b =>
    rw [evQ_0 hsy _ rfl]
    simp only [evQ0]
    rw [← hR.od G c, ← hR.od G a, ← hR.od G b]
    rcases vBool_of (v := rd (od G c) R) h with ⟨q, p⟩ | ⟨q, p⟩ | p
    · exact ⟨_, by simp only [q], (rdK_eq _ _ _).symm.trans p⟩
    · exact ⟨_, by simp only [q], (rdK_eq _ _ _).symm.trans p⟩
    · cases p
  | nilCheck x =>
    have h : vPtr (rd (od G x) R) (fun B o => k (.pointer (some ⟨B, o, none⟩)) H n) (xQ P sy G (.nilCheck x) R fun v => k v H n) = true := h
    rcases vPtr_of h with ⟨B, o, hp, h⟩ | h
    · rw [evQ_0 hsy _ rfl]
      simp only [evQ0]
      rw [← hR.od G x]
      exact ⟨_, by simp only [hp, nilB], h⟩
    · exact xQ_of hR h
  | convert s d x =>
    simp only [cQ] at h
    split at h
    · rename_i k1 k2 h1 h2
      have h : kCv (xQ P sy G (.convert s d x) R fun v => k v H n) k2 (mxN k2) (rd (od G x) R) (fun v => k v H n) = true := h
      rcases vInt_of h with ⟨k3, a, h3, h⟩ | h
      · rcases iNat_of (n := a) h with ⟨a', rfl, h⟩ | h
        · rcases ifB_of (b := Nat.ble a' (mxN k2)) h with ⟨h4, h⟩ | ⟨_, h⟩
          · refine ⟨_, ?_, h⟩
            have hx : evl G T x = .int k3 (.ofNat a') := (hR.od G x).symm.trans h3
            have hs : sy (.convert s d x) ((Op.convert s d x).operands.toList.map (evl G T)) = none := vals_tok hsy (by simp [Op.operands, hx, isTok])
            simp only [evQ, hs, evQ0, hx, plainV]
            rw [conv_int ⟨_, h1⟩ h2, wrap_mx k2 (ble_iff h4)]
          · exact xQ_of hR h
        · exact xQ_of hR h
      · exact xQ_of hR h
    · exact hq h
  | unOp op ty x =>
    cases op with
    | not =>
      have h : vBool (rd (od G x) R) (k (.bool false) H n) (k (.bool true) H n) (xQ P sy G (.unOp .not ty x) R fun v => k v H n) = true := h
      have hs : ∀ b, rd (od G x) R = .bool b → evQ P sy (evl G T) t (.unOp .not ty x) = some (.bool (!b)) := fun b hb => by
        have hx : evl G T x = .bool b := (hR.od G x).symm.trans hb
        have hs : sy (.unOp .not ty x) ((Op.unOp .not ty x).operands.toList.map (evl G T)) = none := vals_tok hsy (by simp [Op.operands, hx, isTok])
        simp only [evQ, hs, evQ0, hx, plainV]
        rfl
      rcases vBool_of h with ⟨q, p⟩ | ⟨q, p⟩ | p
      · exact ⟨_, hs _ q, p⟩
      · exact ⟨_, hs _ q, p⟩
      · exact xQ_of hR p
    | _ => exact hq h
  | index ty x i =>
    simp only [cQ] at h
    split at h
    · rename_i len elem h1
      split at h
      · rename_i h2 h3
        have h : vAgg (rd (od G x) R) (fun l => vInt (rd (od G i) R) (fun _ x => iNat x (fun x => yes (Nat.blt x len) (nthK x l fun v => k v H n)) false) false) false = true := h
        rcases vAgg_of h with ⟨l, hl, h⟩ | h <;> try (cases h; done)
        rcases vInt_of h with ⟨kk, z, hi, h⟩ | h <;> try (cases h; done)
        rcases iNat_of (n := z) h with ⟨z, rfl, h⟩ | h <;> try (cases h; done)
        obtain ⟨h4, h⟩ := yes_of h
        obtain ⟨v, hv, h⟩ := nthK_of h
        rw [evQ_0 hsy _ rfl]
        simp only [evQ0]
        rw [← hR.od G x, ← hR.od G i]
        exact ⟨v, by simp only [hl, hi, indexB, wrapInt, h1, h4, h3, partB, h2, Nat.mul_one, hv], h⟩
      · exact hq h
    · exact hq h
  | slice ty x l hh' m => exact hh h
  | lookup ty m kk ok => exact hh h
  | load ty a =>
    rw [evQ_0 hsy _ rfl]
    simp only [evQ0]
    rw [← hR.od G a]
    simp only [cQ] at h
    split at h
    · rename_i h1
      rcases vPtr_of h with ⟨B, o, hp, h⟩ | h <;> try (cases h; done)
      obtain ⟨c, e, r, hc, h⟩ := oCells_of h
      obtain ⟨v, hv, h⟩ := nthK_of h
      exact ⟨v, by simp only [hp, loadB, hH B, hc, h1, hv], h⟩
    · rename_i m h1 h2
      rcases vPtr_of h with ⟨B, o, hp, h⟩ | h <;> try (cases h; done)
      obtain ⟨c, e, r, hc, h⟩ := oCells_of h
      have h := dropK_of h
      obtain ⟨h3, h4⟩ := takeK_of h
      exact ⟨_, by simp only [hp, loadB, hH B, hc, h1, h2, readCells, h3, Option.map_some], h4⟩
    · cases h
  | binOp op xt x y yt => exact cBin_of hsy hR hH h
  | fieldAddr s x f =>
    rw [evQ_0 hsy _ rfl]
    simp only [evQ0]
    rw [← hR.od G x]
    simp only [cQ] at h
    split at h <;> try (cases h; done)
    rename_i fs h1
    split at h <;> try (cases h; done)
    rename_i fd h2
    split at h <;> try (cases h; done)
    rename_i m h3
    rcases vPtr_of h with ⟨B, o, hp, h⟩ | h <;> try (cases h; done)
    exact ⟨_, by simp only [hp, fieldAddrB, h1, h2, h3]; rfl, h⟩
  | indexAddr ty x i =>
    rw [evQ_0 hsy _ rfl]
    simp only [evQ0]
    rw [← hR.od G x, ← hR.od G i]
    simp only [cQ] at h
    split at h
    · rename_i elem h1
      split at h <;> try (cases h; done)
      rename_i m h2
      rcases vSlice_of h with ⟨B, o, len, c, hp, h⟩ | h <;> try (cases h; done)
      rcases vInt_of h with ⟨kk, z, hi, h⟩ | h <;> try (cases h; done)
      rcases iNat_of h with ⟨z, rfl, h⟩ | h <;> try (cases h; done)
      obtain ⟨h3, h⟩ := yes_of h
      exact ⟨_, by simp only [hp, hi, indexAddrB, wrapInt, h1, h3, h2]; rfl, h⟩
    · rename_i len elem h1
      split at h <;> try (cases h; done)
      rename_i m h2
      rcases vPtr_of h with ⟨B, o, hp, h⟩ | h <;> try (cases h; done)
      rcases vInt_of h with ⟨kk, z, hi, h⟩ | h <;> try (cases h; done)
      rcases iNat_of h with ⟨z, rfl, h⟩ | h <;> try (cases h; done)
      obtain ⟨h3, h⟩ := yes_of h
      exact ⟨_, by simp only [hp, hi, indexAddrB, wrapInt, h1, h3, h2]; rfl, h⟩
    · cases h
  | extract x i =>
    rw [evQ_0 hsy _ rfl]
    simp only [evQ0]
    rw [← hR.od G x]
    rcases vTup_of h with ⟨l, hp, h⟩ | h <;> try (cases h; done)
    obtain ⟨v, hv, h⟩ := nthK_of h
    exact ⟨v, by simp only [hp, hv], h⟩
  | call c =>
    simp only [cQ] at h
    split at h
    · rename_i ty _ x h1 h2 h3
      split at h
      · rename_i h4
        rw [evQ_0 hsy _ rfl]
        simp only [evQ0, h1, h2, h3, List.map_cons, List.map_nil, quietBuiltin]
        rw [← hR.od G x]
        rcases vLen_of h with ⟨a, m, cc, hp, h⟩ | h <;> try (cases h; done)
        exact ⟨_, by simp only [hp, lenB, h4], h⟩
      · exact hq h
    · exact hq h
  | _ => exact hq h
/-- What makes a block. -/
theorem cA_of (hR : RR R T) {o : Op} {id : Nat} {k : Value → AObj → Bool} (h : xA P G (cA P G o) R id k = true) : ∃ v ob, evA P (evl G T) id o = some (v, ob) ∧ k v ob = true := by
  have hal : ∀ {o : Op}, xAl P G o R id k = true → ∃ v ob, evA P (evl G T) id o = some (v, ob) ∧ k v ob = true := fun h => by
    obtain ⟨v, ob, h1, h2⟩ := oA_of h
    rw [fun_od hR] at h1
    exact ⟨v, ob, h1, h2⟩
  unfold cA at h
  split at h
  · rename_i e x
    split at h <;> try (cases h; done)
    rename_i m h1
    have h' := (rdK_eq _ _ _).symm.trans h
    obtain ⟨h2, h3⟩ := boxK_of h'
    rw [hR.od G x] at h2 h3
    exact ⟨_, _, by simp only [evA, h1, h2], h3⟩
  · obtain ⟨v, ob, h1, h2⟩ := oA_of h
    rw [fun_od hR] at h1
    exact ⟨v, ob, h1, (fOb_eq ob fun ob => k v ob).symm.trans h2⟩
  · exact hal h
theorem xI_al (c : Ci) {call : CallX} (hc : ∃ o, c = cA P G o) (h : xI P sy G c call R H n k = true) : xA P G c R n (fun v ob => born n H k v ob) = true := by
  obtain ⟨o, rfl⟩ := hc
  unfold cA at h ⊢
  split
  · split
    · rename_i h1
      simp only [h1] at h
      exact h
    · rename_i h1
      simp only [h1] at h
      cases h
  · exact h
  · rename_i h1 h2
    split at h
    · exact absurd rfl (h1 _ _)
    · exact absurd rfl (h2 _ _ _)
    · exact h
/-- Calls, handed on or handed back. -/
def CallEq (cx : CallX) (call : CallB) : Prop := ∀ g l H t n k, HR H t → cx g l H n k = true → ∃ v h' H', call g l ⟨t, n⟩ = some (v, h') ∧ HR H' h'.t ∧ k v H' h'.next = true
theorem cE_of {cx : CallX} {call : CallB} (hc : CallEq cx call) (hR : RR R T) (hH : HR H t) {o : Op} (h : xI P sy G (cE P G o) cx R H n k = true) : ∃ v h' H', evE P call (evl G T) ⟨t, n⟩ o = some (v, h') ∧ HR H' h'.t ∧ k v H' h'.next = true := by
  unfold cE at h
  split at h
  · rename_i ty a v
    simp only [evE]
    rw [← hR.od G a, ← hR.od G v]
    split at h
    · rename_i h1 h2
      rcases vPtr_of h with ⟨B, o, hp, h⟩ | h <;> try (cases h; done)
      obtain ⟨c, e, r, hcc, h⟩ := oCells_of h
      obtain ⟨rfl, h⟩ := yes_of h
      have h := (rdK_eq _ _ _).symm.trans h
      obtain ⟨h3, h⟩ := yes_of h
      obtain ⟨h4, h⟩ := setK_of h
      obtain ⟨H', h5, h6⟩ := hput_of hH h
      obtain ⟨q1, q2⟩ := isOne_of h3
      refine ⟨undef, ⟨t.set B (some (.cells (spl c o [rd (od G v) R]) e true)), n⟩, H', ?_, h5, h6⟩
      have q3 : ([rd (od G v) R].all oneB) = true := by simp only [List.all_cons, q2]; rfl
      simp only [hp, storeB, hH B, hcc, h2, q1, Nat.zero_add, h4, q3]
      rfl
    · rename_i m h1 h2
      rcases vPtr_of h with ⟨B, o, hp, h⟩ | h <;> try (cases h; done)
      obtain ⟨c, e, r, hcc, h⟩ := oCells_of h
      obtain ⟨rfl, h⟩ := yes_of h
      rcases vAgg_of h with ⟨l, hl, h⟩ | h <;> try (cases h; done)
      obtain ⟨h3, h⟩ := yes_of h
      have h3 := lenIs_of h3
      obtain ⟨h4, h5, h⟩ := splK_of h
      obtain ⟨H', h6, h7⟩ := hput_of hH h
      refine ⟨undef, ⟨t.set B (some (.cells (spl c o l) e true)), n⟩, H', ?_, h6, h7⟩
      rw [h3] at h4
      simp only [hp, hl, storeB, hH B, hcc, h2, cellsL, h3, h4, h5, Nat.beq_refl]
      rfl
    · cases h
  · rename_i c
    split at h
    · rename_i s x h1 h2
      have h := (rdK_eq _ _ _).symm.trans h
      have h := (rdK_eq _ _ _).symm.trans h
      obtain ⟨v, us, m, h3, h⟩ := oU_of h
      obtain ⟨H', h4, h5⟩ := upsH_of hH h
      refine ⟨v, ⟨upsT us t, m⟩, H', ?_, h4, h5⟩
      simp only [evE, h1, h2]
      rw [appendG_eq, ← hR.od G s, ← hR.od G x]
      rw [show (fun B => hget B H) = t.at_ from funext fun B => (hH B).symm] at h3
      simp only [h3, Option.map_some]
    · cases h
    · rename_i f l h1
      split at h <;> try (cases h; done)
      rename_i h2
      have h := (rdsK_eq _ _ _).symm.trans h
      obtain ⟨v, h', H', h3, h4, h5⟩ := hc _ _ _ _ _ _ hH h
      refine ⟨v, h', H', ?_, h4, h5⟩
      have ha : (c.args.toList.map (od G)).map (fun a => rd a R) = c.args.toList.map (evl G T) := by
        rw [List.map_map]
        exact List.map_congr_left fun x _ => hR.od G x
      rw [ha] at h3
      simp only [evE, h1, targetB, evl, List.nil_append, List.append_nil, h2, h3]
    · rename_i hn1 hn2 hn3
      obtain ⟨g, l, h1, h⟩ := oC_of h
      obtain ⟨h2, h⟩ := yes_of h
      rw [fun_od hR] at h1
      obtain ⟨v, h', H', h3, h4, h5⟩ := hc _ _ _ _ _ _ hH h
      refine ⟨v, h', H', ?_, h4, h5⟩
      cases hcal : c.callee with
      | builtin b => first | exact absurd hcal (hn1 _) | exact absurd hcal (hn2 _) | exact absurd hcal (hn3 _)
      | value f => simp only [evE, hcal, h1, h2, h3]
      | invoke r m => simp only [evE, hcal, h1, h2, h3]
  · cases h
/-- Any operation. -/
theorem cI_of (hsy : SyT sy) {cx : CallX} {call : CallB} (hc : CallEq cx call) (hR : RR R T) (hH : HR H t) {o : Op} (h : xI P sy G (cI P G o) cx R H n k = true) : ∃ v h' H', evOp P sy call (evl G T) ⟨t, n⟩ o = some (v, h') ∧ HR H' h'.t ∧ k v H' h'.next = true := by
  unfold cI at h
  unfold evOp
  cases hk : kind o with
  | quiet =>
    rw [hk] at h
    obtain ⟨v, h1, h2⟩ := cQ_of hsy hR hH h
    exact ⟨v, ⟨t, n⟩, H, by simp only [h1], hH, h2⟩
  | alloc =>
    rw [hk] at h
    obtain ⟨v, ob, h1, h2⟩ := cA_of hR (xI_al _ ⟨o, rfl⟩ h)
    obtain ⟨H', h3, h4⟩ := hput_of hH h2
    exact ⟨v, ⟨t.set n (some ob), n + 1⟩, H', by simp only [h1], h3, h4⟩
  | eff =>
    rw [hk] at h
    exact cE_of hc hR hH h
end
end Go.Fv
