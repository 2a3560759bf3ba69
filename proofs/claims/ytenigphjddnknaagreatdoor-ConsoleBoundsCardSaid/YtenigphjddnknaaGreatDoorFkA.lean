/-
  The fast run's parts: values handed on, arithmetic, what is said of open values. No program in sight.
-/
import Derived.Test.YtenigphjddnknaaGreatDoorFvB
set_option linter.unusedVariables false
namespace Go.Fv
open Go Go.Eva Go.RowKit Go.Mix Go.Viv
def isTok : Value → Bool
  | .chan (some _) => true
  | _ => false
/-- Open, or made of open parts. -/
def isTokA : Value → Bool
  | .chan (some _) => true
  | .agg ⟨l⟩ => l.any isTok
  | _ => false
/-- Where something may be said of open values. -/
def symB (o : Op) (vals : List Value) : Bool := match o with
  | .binOp .. => vals.any isTokA
  | .unOp .. => vals.any isTokA
  | .convert .. => vals.any isTokA
  | .load .. => vals.any isTokA
  | .indexAddr .. => vals.any isTokA
  | .slice .. => vals.any isTokA
  | .call _ => vals.any isTokA
  | .pick .. => (match vals with
    | c :: _ => isTokA c
    | [] => false)
  | _ => false
/-- What is told of open values is told of nothing else. -/
def SyT (sy : Sy) : Prop := ∀ o vals v, sy o vals = some v → symB o vals = true
theorem evQ_0 {P : Program} {sy : Sy} {t : Tr AObj} (hsy : SyT sy) {o : Op} (ρ : Operand → Value) (h : symB o (o.operands.toList.map ρ) = false) : evQ P sy ρ t o = evQ0 P ρ t o := by
  unfold evQ
  cases hs : sy o (o.operands.toList.map ρ) with
  | none => rfl
  | some v => rw [hsy _ _ _ hs] at h; cases h
theorem vals_tok {sy : Sy} (hsy : SyT sy) {o : Op} {vals : List Value} (h : vals.any isTokA = false) : sy o vals = none := by
  cases hs : sy o vals with
  | none => rfl
  | some v =>
    have := hsy _ _ _ hs
    cases o <;> simp only [symB] at this <;> try (rw [this] at h; cases h; done)
    all_goals try (cases this; done)
    cases vals with
    | nil => cases this
    | cons c l => simp only [List.any_cons, this, Bool.true_or] at h; cases h
noncomputable def oV (o : Option Value) : (Value → Bool) → Bool := Option.rec (motive := fun _ => (Value → Bool) → Bool) (fun _ => false) (fun v k => fW v k) o
theorem oV_of {o : Option Value} {k : Value → Bool} (h : oV o k = true) : ∃ v, o = some v ∧ k v = true := by
  cases o with
  | none => cases h
  | some v => exact ⟨v, rfl, (fW_eq v k).symm.trans h⟩
noncomputable def oA (o : Option (Value × AObj)) : (Value → AObj → Bool) → Bool := Option.rec (motive := fun _ => (Value → AObj → Bool) → Bool) (fun _ => false) (fun p k => Prod.rec (motive := fun _ => Bool) (fun v ob => fW v fun v => k v ob) p) o
theorem oA_of {o : Option (Value × AObj)} {k : Value → AObj → Bool} (h : oA o k = true) : ∃ v ob, o = some (v, ob) ∧ k v ob = true := by
  cases o with
  | none => cases h
  | some p => obtain ⟨v, ob⟩ := p; exact ⟨v, ob, rfl, (fW_eq v fun v => k v ob).symm.trans h⟩
noncomputable def oC (o : Option (FuncId × List Value)) : (FuncId → List Value → Bool) → Bool := Option.rec (motive := fun _ => (FuncId → List Value → Bool) → Bool) (fun _ => false) (fun p k => Prod.rec (motive := fun _ => Bool) (fun g l => fN g fun g => fL fV l fun l => k g l) p) o
theorem oC_of {o : Option (FuncId × List Value)} {k : FuncId → List Value → Bool} (h : oC o k = true) : ∃ g l, o = some (g, l) ∧ k g l = true := by
  cases o with
  | none => cases h
  | some p => obtain ⟨g, l⟩ := p; exact ⟨g, l, rfl, (fL_eq fV_eq l fun l => k g l).symm.trans h⟩
noncomputable def oU (o : Option (Value × Ups × Nat)) : (Value → Ups → Nat → Bool) → Bool := Option.rec (motive := fun _ => (Value → Ups → Nat → Bool) → Bool) (fun _ => false) (fun p k => Prod.rec (motive := fun _ => Bool) (fun v q => Prod.rec (motive := fun _ => Bool) (fun us n => fN n fun n => fW v fun v => k v us n) q) p) o
theorem oU_of {o : Option (Value × Ups × Nat)} {k : Value → Ups → Nat → Bool} (h : oU o k = true) : ∃ v us n, o = some (v, us, n) ∧ k v us n = true := by
  cases o with
  | none => cases h
  | some p => obtain ⟨v, us, n⟩ := p; exact ⟨v, us, n, rfl, (fW_eq v fun v => k v us n).symm.trans h⟩
noncomputable def allOne (l : List Value) : Bool := List.rec (motive := fun _ => Bool) true (fun v _ ih => yes (isOne v) ih) l
theorem allOne_of : ∀ {l : List Value}, allOne l = true → l.all oneB = true
  | [], _ => rfl
  | v :: l, h => by
    obtain ⟨h1, h2⟩ := yes_of (x := allOne l) h
    simp only [List.all_cons, (isOne_of h1).2, allOne_of h2, Bool.and_self]
noncomputable def boxK (v : Value) (e : TypeId) (id : Nat) (k : Value → AObj → Bool) : Bool := vAgg v (fun l => yes (allOne l) (k (.pointer (some ⟨id, 0, none⟩)) (.cells l e true))) (yes (isOne v) (k (.pointer (some ⟨id, 0, none⟩)) (.cells [v] e true)))
theorem boxK_of {v : Value} {e : TypeId} {id : Nat} {k : Value → AObj → Bool} (h : boxK v e id k = true) : (cellsL v).all oneB = true ∧ k (.pointer (some ⟨id, 0, none⟩)) (.cells (cellsL v) e true) = true := by
  rcases vAgg_of h with ⟨l, rfl, h⟩ | h
  · exact ⟨allOne_of (yes_of h).1, (yes_of h).2⟩
  · obtain ⟨h1, h2⟩ := yes_of h
    rw [(isOne_of h1).1]
    exact ⟨by simp only [List.all_cons, (isOne_of h1).2]; rfl, h2⟩
section
variable (P : Program) (sy : Sy) (G : Nat)
noncomputable def kShf (s : Bool) (l : Bool) (kd : IntKind) (M w : Nat) (u v : Value) (k : Value → Bool) : Bool :=
  vInt u (fun k1 x => vInt v (fun _ y => ifB (kEq kd k1) (iNat x (fun x => iNat y (fun y => ifB (Nat.ble y w) (ifB l (inR kd M (Nat.shiftLeft x y) k s) (inR kd M (Nat.shiftRight x y) k s)) s) s) s) s) s) s
noncomputable def kCv (s : Bool) (kd : IntKind) (M : Nat) (u : Value) (k : Value → Bool) : Bool := vInt u (fun _ x => iNat x (fun x => ifB (Nat.ble x M) (k (.int kd (.ofNat x))) s) s) s
/-- The blocks that an operation's operands name. -/
def blkOf : Value → Option Nat
  | .pointer (some a) => some a.block
  | .slice (some a) _ _ => some a.block
  | .map (some b) => some b
  | _ => none
noncomputable def mini (H : FH) : List Value → Tr AObj
  | [] => .nil
  | v :: l => match blkOf v with
    | some B => (match hget B H with | some ob => (mini H l).set B (some ob) | none => mini H l)
    | none => mini H l
noncomputable def born (n : Nat) (H : FH) (k : KV) (v : Value) (ob : AObj) : Bool := hput n (some ob) H fun H => fN (Nat.add n 1) fun n => k v H n
def bfOf (op : BinOp) (xt : TypeId) : Option (BF × IntKind) := match P.underlying xt with
  | some (.int k) => (match op with
    | .add => some (.add, k)
    | .sub => some (.sub, k)
    | .mul => some (.mul, k)
    | .and => some (.and, k)
    | .or => some (.or, k)
    | .xor => some (.xor, k)
    | .quo => some (.quo, k)
    | .rem => some (.rem, k)
    | .lss => some (.lt, k)
    | .leq => some (.le, k)
    | .gtr => some (.gt, k)
    | .geq => some (.ge, k)
    | .eql => some (.eq, k)
    | .neq => some (.ne, k)
    | _ => none)
  | _ => none
end
section
variable {P : Program} {sy : Sy} {G : Nat} {R : Rg} {T : Tr Value} {H : FH} {t : Tr AObj} {n : Nat} {k : KV}
theorem more_nil (t : Tr AObj) : More .nil t := fun B ob h => by rw [nil_at] at h; cases h
theorem mini_more (hH : HR H t) : ∀ l : List Value, More (mini H l) t
  | [] => more_nil t
  | v :: l => by
    have ih := mini_more hH l
    unfold mini
    split
    · rename_i B _
      split
      · rename_i ob ho
        intro X o hX
        by_cases e : B = X
        · subst e
          rw [Tr.at_set_same] at hX
          rw [hH B, ho]
          exact hX
        · rw [Tr.at_set_ne _ _ e] at hX
          exact ih X o hX
      · exact ih
    · exact ih
theorem wrap_mx (k : IntKind) {z : Nat} (h : z ≤ mxN k) : k.wrap (Int.ofNat z) = Int.ofNat z := by
  cases k <;> (simp only [mxN] at h; unfold IntKind.wrap; simp [IntKind.bits, IntKind.signed]; omega)
theorem mx_lt (k : IntKind) {x : Nat} (h : x ≤ mxN k) : x < 2 ^ k.bits := by
  cases k <;> (simp only [mxN] at h; simp only [IntKind.bits]; omega)
theorem ofInt_mx (k : IntKind) {x : Nat} (h : x ≤ mxN k) : (BitVec.ofInt k.bits (Int.ofNat x)).toNat = x := by
  rw [Int.ofNat_eq_natCast, BitVec.ofInt_natCast, BitVec.toNat_ofNat]
  exact Nat.mod_eq_of_lt (mx_lt k h)
section
variable {xt : TypeId} {k : IntKind} {a b : Int}
theorem s_add : semV (binOp .add xt (.int k a) (.int k b)) = some (.int k (k.wrap (a + b))) := by cases k <;> rfl
theorem s_sub : semV (binOp .sub xt (.int k a) (.int k b)) = some (.int k (k.wrap (a - b))) := by cases k <;> rfl
theorem s_mul : semV (binOp .mul xt (.int k a) (.int k b)) = some (.int k (k.wrap (a * b))) := by cases k <;> rfl
theorem s_and : semV (binOp .and xt (.int k a) (.int k b)) = some (.int k (k.wrap ((BitVec.ofInt k.bits a &&& BitVec.ofInt k.bits b).toNat : Int))) := by cases k <;> rfl
theorem s_or : semV (binOp .or xt (.int k a) (.int k b)) = some (.int k (k.wrap ((BitVec.ofInt k.bits a ||| BitVec.ofInt k.bits b).toNat : Int))) := by cases k <;> rfl
theorem s_xor : semV (binOp .xor xt (.int k a) (.int k b)) = some (.int k (k.wrap ((BitVec.ofInt k.bits a ^^^ BitVec.ofInt k.bits b).toNat : Int))) := by cases k <;> rfl
theorem s_quo (h : b ≠ 0) : semV (binOp .quo xt (.int k a) (.int k b)) = some (.int k (k.wrap (a.tdiv b))) := by
  have e : semV (binOp .quo xt (.int k a) (.int k b)) = semV (Op.intDiv .quo k a b) := by cases k <;> rfl
  rw [e]; unfold Op.intDiv; rw [if_neg h]; rfl
theorem s_rem (h : b ≠ 0) : semV (binOp .rem xt (.int k a) (.int k b)) = some (.int k (a.tmod b)) := by
  have e : semV (binOp .rem xt (.int k a) (.int k b)) = semV (Op.intDiv .rem k a b) := by cases k <;> rfl
  rw [e]; unfold Op.intDiv; rw [if_neg h]; rfl
theorem s_shl {j : IntKind} {y : Nat} (h : y ≤ k.bits) : semV (binOp .shl xt (.int k a) (.int j (Int.ofNat y))) = some (.int k (k.wrap (a * 2 ^ y))) := by
  have e : semV (binOp .shl xt (.int k a) (.int j (Int.ofNat y))) = semV (Op.shift .shl k a j (Int.ofNat y)) := rfl
  rw [e]; unfold Op.shift
  rw [if_neg (by simp only [Int.ofNat_eq_natCast]; omega), show min (Int.ofNat y).toNat k.bits = y by simp only [Int.ofNat_eq_natCast, Int.toNat_natCast]; omega]
  rfl
theorem s_shr {j : IntKind} {y : Nat} (h : y ≤ k.bits) : semV (binOp .shr xt (.int k a) (.int j (Int.ofNat y))) = some (.int k (a.fdiv (2 ^ y))) := by
  have e : semV (binOp .shr xt (.int k a) (.int j (Int.ofNat y))) = semV (Op.shift .shr k a j (Int.ofNat y)) := rfl
  rw [e]; unfold Op.shift
  rw [if_neg (by simp only [Int.ofNat_eq_natCast]; omega), show min (Int.ofNat y).toNat k.bits = y by simp only [Int.ofNat_eq_natCast, Int.toNat_natCast]; omega]
  rfl
theorem s_lss : semV (binOp .lss xt (.int k a) (.int k b)) = some (.bool (decide (a < b))) := by cases k <;> rfl
theorem s_leq : semV (binOp .leq xt (.int k a) (.int k b)) = some (.bool (decide (a ≤ b))) := by cases k <;> rfl
theorem s_gtr : semV (binOp .gtr xt (.int k a) (.int k b)) = some (.bool (decide (b < a))) := by cases k <;> rfl
theorem s_geq : semV (binOp .geq xt (.int k a) (.int k b)) = some (.bool (decide (b ≤ a))) := by cases k <;> rfl
theorem s_eql : semV (binOp .eql xt (.int k a) (.int k b)) = some (.bool (decide (a = b))) := by cases k <;> rfl
theorem s_neq : semV (binOp .neq xt (.int k a) (.int k b)) = some (.bool (!decide (a = b))) := by cases k <;> rfl
end
theorem wd_bits (k : IntKind) : wdN k = k.bits := by cases k <;> rfl
theorem bf_of {f : BF} {op : BinOp} {xt : TypeId} {kd : IntKind} (hf : bfOf P op xt = some (f, kd)) {ox oy : Operand} {x y : Nat} {k : Value → Bool} {s : Bool} (h : bf f kd (mxN kd) x y k s = true) :
    (∃ v, binB P t op xt ox oy (.int kd (.ofNat x)) (.int kd (.ofNat y)) = some v ∧ k v = true) ∨ s = true := by
  unfold bfOf at hf
  split at hf <;> try (cases hf; done)
  rename_i kk _
  have e1 : ∀ op, binB P t op xt ox oy (.int kd (.ofNat x)) (.int kd (.ofNat y)) = semV (binOp op xt (.int kd (.ofNat x)) (.int kd (.ofNat y))) := fun op => rfl
  rw [e1]
  have ofn : ∀ n : Nat, Int.ofNat n = (n : Int) := fun _ => rfl
  cases op with
  | add =>
    simp only [Option.some.injEq, Prod.mk.injEq] at hf
    obtain ⟨rfl, rfl⟩ := hf
    refine (inR_of h).imp (fun ⟨h1, h2⟩ => ⟨_, ?_, h2⟩) id
    rw [s_add, ← wrap_mx kk h1]; rfl
  | sub =>
    simp only [Option.some.injEq, Prod.mk.injEq] at hf
    obtain ⟨rfl, rfl⟩ := hf
    rcases ifB_of (b := Nat.ble y x) h with ⟨h0, h⟩ | ⟨_, h⟩
    · refine (inR_of h).imp (fun ⟨h1, h2⟩ => ⟨_, ?_, h2⟩) id
      have h0 := ble_iff h0
      rw [s_sub, ← wrap_mx kk h1, show Int.ofNat x - Int.ofNat y = Int.ofNat (x - y) by simp only [ofn]; omega]; rfl
    · exact .inr h
  | mul =>
    simp only [Option.some.injEq, Prod.mk.injEq] at hf
    obtain ⟨rfl, rfl⟩ := hf
    refine (inR_of h).imp (fun ⟨h1, h2⟩ => ⟨_, ?_, h2⟩) id
    rw [s_mul, ← wrap_mx kk h1]; rfl
  | and =>
    simp only [Option.some.injEq, Prod.mk.injEq] at hf
    obtain ⟨rfl, rfl⟩ := hf
    rcases two_of h with ⟨hx, hy, h⟩ | h
    · refine (inR_of h).imp (fun ⟨h1, h2⟩ => ⟨_, ?_, h2⟩) id
      rw [s_and, ← wrap_mx kk h1, BitVec.toNat_and, ofInt_mx kk hx, ofInt_mx kk hy]; rfl
    · exact .inr h
  | or =>
    simp only [Option.some.injEq, Prod.mk.injEq] at hf
    obtain ⟨rfl, rfl⟩ := hf
    rcases two_of h with ⟨hx, hy, h⟩ | h
    · refine (inR_of h).imp (fun ⟨h1, h2⟩ => ⟨_, ?_, h2⟩) id
      rw [s_or, ← wrap_mx kk h1, BitVec.toNat_or, ofInt_mx kk hx, ofInt_mx kk hy]; rfl
    · exact .inr h
  | xor =>
    simp only [Option.some.injEq, Prod.mk.injEq] at hf
    obtain ⟨rfl, rfl⟩ := hf
    rcases two_of h with ⟨hx, hy, h⟩ | h
    · refine (inR_of h).imp (fun ⟨h1, h2⟩ => ⟨_, ?_, h2⟩) id
      rw [s_xor, ← wrap_mx kk h1, BitVec.toNat_xor, ofInt_mx kk hx, ofInt_mx kk hy]; rfl
    · exact .inr h
  | quo =>
    simp only [Option.some.injEq, Prod.mk.injEq] at hf
    obtain ⟨rfl, rfl⟩ := hf
    rcases ifB_of (b := Nat.beq y 0) h with ⟨_, h⟩ | ⟨h0, h⟩
    · exact .inr h
    · refine (inR_of h).imp (fun ⟨h1, h2⟩ => ⟨_, ?_, h2⟩) id
      have hy : y ≠ 0 := fun e => by rw [e] at h0; cases h0
      rw [s_quo (by simp only [ofn]; omega), ← wrap_mx kk h1, show (Int.ofNat x).tdiv (Int.ofNat y) = Int.ofNat (x / y) from rfl]; rfl
  | rem =>
    simp only [Option.some.injEq, Prod.mk.injEq] at hf
    obtain ⟨rfl, rfl⟩ := hf
    rcases ifB_of (b := Nat.beq y 0) h with ⟨_, h⟩ | ⟨h0, h⟩
    · exact .inr h
    · refine (inR_of h).imp (fun ⟨h1, h2⟩ => ⟨_, ?_, h2⟩) id
      have hy : y ≠ 0 := fun e => by rw [e] at h0; cases h0
      rw [s_rem (by simp only [ofn]; omega), show (Int.ofNat x).tmod (Int.ofNat y) = Int.ofNat (x % y) from rfl]; rfl
  | lss =>
    simp only [Option.some.injEq, Prod.mk.injEq] at hf
    obtain ⟨rfl, rfl⟩ := hf
    refine .inl ⟨.bool (Nat.blt x y), ?_, (fB_eq (Nat.blt x y) fun b => k (.bool b)).symm.trans h⟩
    rw [s_lss, show decide (Int.ofNat x < Int.ofNat y) = Nat.blt x y by rw [Bool.eq_iff_iff, decide_eq_true_iff, nblt_iff]; simp only [ofn]; omega]
  | leq =>
    simp only [Option.some.injEq, Prod.mk.injEq] at hf
    obtain ⟨rfl, rfl⟩ := hf
    refine .inl ⟨.bool (Nat.ble x y), ?_, (fB_eq (Nat.ble x y) fun b => k (.bool b)).symm.trans h⟩
    rw [s_leq, show decide (Int.ofNat x ≤ Int.ofNat y) = Nat.ble x y by rw [Bool.eq_iff_iff, decide_eq_true_iff, Nat.ble_eq]; simp only [ofn]; omega]
  | gtr =>
    simp only [Option.some.injEq, Prod.mk.injEq] at hf
    obtain ⟨rfl, rfl⟩ := hf
    refine .inl ⟨.bool (Nat.blt y x), ?_, (fB_eq (Nat.blt y x) fun b => k (.bool b)).symm.trans h⟩
    rw [s_gtr, show decide (Int.ofNat y < Int.ofNat x) = Nat.blt y x by rw [Bool.eq_iff_iff, decide_eq_true_iff, nblt_iff]; simp only [ofn]; omega]
  | geq =>
    simp only [Option.some.injEq, Prod.mk.injEq] at hf
    obtain ⟨rfl, rfl⟩ := hf
    refine .inl ⟨.bool (Nat.ble y x), ?_, (fB_eq (Nat.ble y x) fun b => k (.bool b)).symm.trans h⟩
    rw [s_geq, show decide (Int.ofNat y ≤ Int.ofNat x) = Nat.ble y x by rw [Bool.eq_iff_iff, decide_eq_true_iff, Nat.ble_eq]; simp only [ofn]; omega]
  | eql =>
    simp only [Option.some.injEq, Prod.mk.injEq] at hf
    obtain ⟨rfl, rfl⟩ := hf
    refine .inl ⟨.bool (Nat.beq x y), ?_, (fB_eq (Nat.beq x y) fun b => k (.bool b)).symm.trans h⟩
    rw [s_eql, show decide (Int.ofNat x = Int.ofNat y) = Nat.beq x y by rw [Bool.eq_iff_iff, decide_eq_true_iff, Nat.beq_eq]; simp only [ofn]; omega]
  | neq =>
    simp only [Option.some.injEq, Prod.mk.injEq] at hf
    obtain ⟨rfl, rfl⟩ := hf
    refine .inl ⟨.bool (!Nat.beq x y), ?_, ?_⟩
    · rw [s_neq, show decide (Int.ofNat x = Int.ofNat y) = Nat.beq x y by rw [Bool.eq_iff_iff, decide_eq_true_iff, Nat.beq_eq]; simp only [ofn]; omega]
    · rcases ifB_of (b := Nat.beq x y) h with ⟨h1, h2⟩ | ⟨h1, h2⟩ <;> (rw [h1]; exact h2)
  | _ => cases hf
theorem isn_ptr {xt e : TypeId} {ox oy : Operand} (hu : P.underlying xt = some (.pointer e)) (B o : Nat) : binB P t .eql xt ox oy (.pointer (some ⟨B, o, none⟩)) (.pointer none) = some (.bool false) ∧ binB P t .neq xt ox oy (.pointer (some ⟨B, o, none⟩)) (.pointer none) = some (.bool true) := by
  constructor <;> simp only [binB, plainV, Bool.false_and, isEq, eqB, hu] <;> rfl
theorem isn_sl {xt e : TypeId} {ox oy : Operand} (hu : P.underlying xt = some (.slice e)) (B o n c : Nat) : binB P t .eql xt ox oy (.slice (some ⟨B, o, none⟩) n c) (.slice none 0 0) = some (.bool false) ∧ binB P t .neq xt ox oy (.slice (some ⟨B, o, none⟩) n c) (.slice none 0 0) = some (.bool true) := by
  constructor <;> simp only [binB, plainV, Bool.false_and, isEq, eqB, hu] <;> rfl
theorem pureRun_bind {α β : Type} (f : α → Sem β) : ∀ (x : Sem α) {a : α}, pureRun P x = some a → pureRun P (x >>= f) = pureRun P (f a)
  | .pure _, _, h => by cases h; rfl
  | .program k, _, h => pureRun_bind f (k P) h
theorem pureRun_und {s : TypeId} {d : TypeDesc} (h : P.underlying s = some d) : pureRun P (underlying s) = some d := by
  show pureRun P (match P.underlying s with | some d => pure d | none => stuck "no such type") = _
  rw [h]
  rfl
theorem conv_int {s d : TypeId} {k1 k2 : IntKind} (h1 : ∃ k, P.underlying s = some (.int k)) (h2 : P.underlying d = some (.int k2)) (n : Int) : runV P (Go.convert s d (.int k1 n)) = some (.int k2 (k2.wrap n)) := by
  obtain ⟨k, h1⟩ := h1
  have e : pureRun P (Go.convert s d (.int k1 n)) = some (.int k2 (k2.wrap n)) := by
    unfold Go.convert
    rw [pureRun_bind _ _ (pureRun_und h1), pureRun_bind _ _ (pureRun_und h2)]
    rfl
  unfold runV
  rw [e]
  rfl
/-- Calls, handed on or handed back. -/
def CallEq (cx : CallX) (call : CallB) : Prop := ∀ g l H t n k, HR H t → cx g l H n k = true → ∃ v h' H', call g l ⟨t, n⟩ = some (v, h') ∧ HR H' h'.t ∧ k v H' h'.next = true
end

noncomputable def bEq (b w : Bool) : Bool := Bool.rec (motive := fun _ => Bool) (Bool.rec (motive := fun _ => Bool) true false w) w b
theorem bEq_eq (b w : Bool) : bEq b w = (b == w) := by cases b <;> cases w <;> rfl
noncomputable def vWant (v : Value) : (Bool → Bool) → Bool → Bool := Value.rec (motive_1 := fun _ => (Bool → Bool) → Bool → Bool) (motive_2 := fun _ => Unit) (motive_3 := fun _ => Unit) (fun b f _ => f b) (fun _ _ _ _ => false) (fun _ _ _ _ => false) (fun _ _ _ _ _ => false) (fun _ _ _ => false) (fun _ _ _ => false) (fun _ _ _ _ _ => false) (fun _ _ _ => false) (fun _ _ _ => false) (fun _ _ _ _ _ _ _ => false) (fun _ _ => false) (fun _ _ _ _ _ => false) (fun _ _ => false) (fun _ _ _ _ => false) (fun a _ _ d => arr a fun l => List.rec (motive := fun _ => Bool) d (fun _ _ _ => false) l) (fun _ _ => ()) () (fun _ _ _ _ => ()) v
theorem vWant_of {v : Value} {f : Bool → Bool} {d : Bool} (h : vWant v f d = true) : (∃ b, v = .bool b ∧ f b = true) ∨ (v = .tuple ⟨[]⟩ ∧ d = true) := by
  cases v <;> try (cases h; done)
  · exact .inl ⟨_, rfl, h⟩
  · rename_i a
    obtain ⟨l⟩ := a
    cases l with
    | nil => exact .inr ⟨rfl, h⟩
    | cons x l => cases h
noncomputable def oNo (o : Option AObj) (x : Bool) : Bool := Option.rec (motive := fun _ => Bool) x (fun _ => false) o
noncomputable def oOb (o : Option AObj) (f : AObj → Bool) : Bool := Option.rec (motive := fun _ => Bool) false f o
section
variable (P : Program) (sy : Sy) (G : Nat)
def flag (ops : List Oper) (m : Array Nat) (i : Nat) (rest : List Nat) : Bool := rest.any fun e => ((ops[e]?).map fun o => isEff o.op).getD false && !bef m e i
end
section
variable {P : Program} {sy : Sy} {G : Nat} {cx : CallX} {call : CallB} {nt : Nat}
def Good (ops : List Oper) (m : Array Nat) (rest : List Nat) (x : Ent) : Prop := ∀ e ∈ rest, ((ops[e]?).map fun o => isEff o.op).getD false = true → bef m e x.i = true
theorem flag_good {ops : List Oper} {m : Array Nat} {i : Nat} {rest : List Nat} (h : flag ops m i rest = false) {x : Ent} (hx : x.i = i) : Good ops m rest x := fun e he hef => by
  unfold flag at h
  rw [List.any_eq_false] at h
  have := h e he
  rw [hef, Bool.true_and, Bool.not_eq_true, Bool.not_eq_false'] at this
  rw [hx]
  exact this
theorem agains_of {m : Array Nat} {e base : Nat} {t : Tr AObj} : ∀ {l : List Ent}, (∀ x ∈ l, (bef m e x.i || again P sy G base t x) = true) → allAgain P sy G m base e t l = true
  | [], _ => rfl
  | x :: l, h => by
    unfold allAgain
    rw [h x (List.mem_cons_self ..)]
    exact agains_of fun y hy => h y (List.mem_cons_of_mem _ hy)
theorem sub_within {a b c : Nat} (h : within b c = true) (hs : ∀ j, bit a j = true → bit b j = true) : within a c = true := by
  unfold within
  rw [Nat.beq_eq]
  apply Nat.eq_of_testBit_eq
  intro j
  rw [Nat.testBit_and]
  cases ha : a.testBit j with
  | false => rw [Bool.false_and]
  | true =>
    have := within_spec h (hs j ha)
    rw [show c.testBit j = true from this]
    rfl
end

inductive Df where
  | no
  | some (g : Nat) (l : List Value)
noncomputable def onEx (e : Ex) (x : Bool) (y : Nat → Bool) (z : Bool) : Bool := Ex.rec (motive := fun _ => Bool) x (fun id => y id) z e
section
variable (P : Program) (sy : Sy) (G : Nat)
/-- A call that is told by its contract alone: it answers true, and writes nothing old. -/
noncomputable def vNone (l : List Value) (x : Bool) : Bool := List.rec (motive := fun _ => Bool) x (fun _ _ _ => false) l
noncomputable def awIs (aw : Option Nat) (g : Nat) : Bool := Option.rec (motive := fun _ => Bool) false (fun a => Nat.beq a g) aw
end
section
variable {P : Program} {sy : Sy} {G : Nat} {cx : CallX} {call : CallB} {nt : Nat}
theorem onEx_of {e : Ex} {x z : Bool} {y : Nat → Bool} (h : onEx e x y z = true) : (e = .normal ∧ x = true) ∨ (∃ id, e = .exit id ∧ y id = true) ∨ (e = .ret ∧ z = true) := by
  cases e with
  | normal => exact .inl ⟨rfl, h⟩
  | exit id => exact .inr (.inl ⟨id, rfl, h⟩)
  | ret => exact .inr (.inr ⟨rfl, h⟩)
def dfV : Df → Value
  | .no => undef
  | .some g l => .func (.func g) ⟨l⟩ ⟨[]⟩
def awC (args : List Value) (h : Hp) : Option (Value × Hp) := match args with
  | [] => some (.bool true, h)
  | _ => none
def awTb : Option Nat → Tb
  | none => .nil
  | some a => Tr.nil.set a (some awC)
/-- A fast run that comes to true. -/
noncomputable def good (v : Value) (_ : FH) (_ : Nat) : Bool := vBool v true false false
end

end Go.Fv
