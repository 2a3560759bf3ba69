/-
  Several texts in one. A run reckoned with what is left open: numbers, tests. No program in sight.
-/
import Derived.Test.YtmcigeebeoobdaaGreatDoorPz09
import Derived.Test.YtmcigeebeoobdaaGreatDoorPz07
section
namespace Go.Sym
open Go Go.RowKit Go.Viv Go.Eva
section
variable {P : Program} {H : Tr AObj} {t : TypeId} {ox oy : Operand}
theorem clean_zero (t : Tr AObj) (b : Nat) : cleanT t b 0 = t := nr rfl
theorem tt_ : (true == true) = true := nr rfl
theorem tf_ : (true == false) = false := nr rfl
theorem ft_ : (false == true) = false := nr rfl
theorem ff_ : (false == false) = true := nr rfl
theorem want_ {T : Tr Value} {ops : List Oper} {d : Option Tmp} {o : Op} {ty : TypeId} {pos : String} {af : Array Edge} {j : Nat} {b : Bool} : wantedB ops T ⟨d, o, ty, pos, af, some (j, b)⟩ = match (ops[j]?).bind (·.dst) with
    | none => some false
    | some t => match Eva.look T t with
      | .bool c => some (c == b)
      | .tuple ⟨[]⟩ => some false
      | _ => none := nr rfl
theorem semV_pure {v : Value} : semV (.pure v) = onlyPlain v := nr rfl
theorem len1 {α : Type} (a : α) : [a].length = 1 := nr rfl
theorem len2 {α : Type} (a b : α) : [a, b].length = 2 := nr rfl
theorem len3 {α : Type} (a b c : α) : [a, b, c].length = 3 := nr rfl
theorem len4 {α : Type} (a b c d : α) : [a, b, c, d].length = 4 := nr rfl
theorem len5 {α : Type} (a b c d e : α) : [a, b, c, d, e].length = 5 := nr rfl
theorem len6 {α : Type} (a b c d e f : α) : [a, b, c, d, e, f].length = 6 := nr rfl
theorem len7 {α : Type} (a b c d e f g : α) : [a, b, c, d, e, f, g].length = 7 := nr rfl
theorem len8 {α : Type} (a b c d e f g h : α) : [a, b, c, d, e, f, g, h].length = 8 := nr rfl
theorem res_cell {P : Program} (H : Tr AObj) (T : Tr Value) (t : Tmp) (ty : TypeId) (l : List ResultVar) : resB P H T (.cell t ty :: l) = match loadB P H ty (Eva.look T t), resB P H T l with
    | some v, some vs => some (v :: vs)
    | _, _ => none := nr rfl
theorem spl_zn (l : List Value) : spl l 0 [] = l := by simp [spl]
theorem spl_zc (a v : Value) (l vs : List Value) : spl (a :: l) 0 (v :: vs) = v :: spl l 0 vs := by simp [spl]
theorem spl_sc (a : Value) (l vs : List Value) (o : Nat) : spl (a :: l) (o + 1) vs = a :: spl l o vs := by
  simp [spl, Nat.add_right_comm]
theorem un_not (b : Bool) : unB .not (.bool b) = some (.bool (!b)) := nr (by cases b <;> rfl)
theorem wrap_id {x : Int} (h1 : -9223372036854775808 ≤ x) (h2 : x ≤ 9223372036854775807) : IntKind.wrap .i64 x = x := by
  unfold IntKind.wrap
  simp [IntKind.bits, IntKind.signed]
  omega
theorem un_neg {a : Int} (h1 : -9223372036854775808 ≤ 0 - a) (h2 : 0 - a ≤ 9223372036854775807) : unB .neg (.int .i64 a) = some (.int .i64 (-a)) := by
  have e : unB .neg (.int .i64 a) = some (.int .i64 (IntKind.wrap .i64 (0 - a))) := rfl
  rw [e, wrap_id h1 h2]
  simp
theorem bin_int (op : BinOp) (k k' : IntKind) (a b : Int) : binB P H op t ox oy (.int k a) (.int k' b) = semV (binOp op t (.int k a) (.int k' b)) := nr rfl
theorem b_add {a b : Int} (h1 : -9223372036854775808 ≤ a + b) (h2 : a + b ≤ 9223372036854775807) : binB P H .add t ox oy (.int .i64 a) (.int .i64 b) = some (.int .i64 (a + b)) := by
  have : semV (binOp .add t (.int .i64 a) (.int .i64 b)) = some (.int .i64 (IntKind.wrap .i64 (a + b))) := rfl
  rw [bin_int, this, wrap_id h1 h2]
theorem b_sub {a b : Int} (h1 : -9223372036854775808 ≤ a - b) (h2 : a - b ≤ 9223372036854775807) : binB P H .sub t ox oy (.int .i64 a) (.int .i64 b) = some (.int .i64 (a - b)) := by
  have : semV (binOp .sub t (.int .i64 a) (.int .i64 b)) = some (.int .i64 (IntKind.wrap .i64 (a - b))) := rfl
  rw [bin_int, this, wrap_id h1 h2]
theorem b_mul {a b : Int} (h1 : -9223372036854775808 ≤ a * b) (h2 : a * b ≤ 9223372036854775807) : binB P H .mul t ox oy (.int .i64 a) (.int .i64 b) = some (.int .i64 (a * b)) := by
  have : semV (binOp .mul t (.int .i64 a) (.int .i64 b)) = some (.int .i64 (IntKind.wrap .i64 (a * b))) := rfl
  rw [bin_int, this, wrap_id h1 h2]
theorem b_addw {a b : Int} : binB P H .add t ox oy (.int .i64 a) (.int .i64 b) = some (.int .i64 (IntKind.wrap .i64 (a + b))) := nr rfl
theorem b_subw {a b : Int} : binB P H .sub t ox oy (.int .i64 a) (.int .i64 b) = some (.int .i64 (IntKind.wrap .i64 (a - b))) := nr rfl
theorem b_mulw {a b : Int} : binB P H .mul t ox oy (.int .i64 a) (.int .i64 b) = some (.int .i64 (IntKind.wrap .i64 (a * b))) := nr rfl
theorem b_lss (k : IntKind) (a b : Int) : binB P H .lss t ox oy (.int k a) (.int k b) = some (.bool (decide (a < b))) := by
  cases k <;> rfl
theorem b_leq (k : IntKind) (a b : Int) : binB P H .leq t ox oy (.int k a) (.int k b) = some (.bool (decide (a ≤ b))) := by
  cases k <;> rfl
theorem b_gtr (k : IntKind) (a b : Int) : binB P H .gtr t ox oy (.int k a) (.int k b) = some (.bool (decide (b < a))) := by
  cases k <;> rfl
theorem b_geq (k : IntKind) (a b : Int) : binB P H .geq t ox oy (.int k a) (.int k b) = some (.bool (decide (b ≤ a))) := by
  cases k <;> rfl
theorem b_eql (k : IntKind) (a b : Int) : binB P H .eql t ox oy (.int k a) (.int k b) = some (.bool (decide (a = b))) := by
  cases k <;> rfl
theorem b_neq (k : IntKind) (a b : Int) : binB P H .neq t ox oy (.int k a) (.int k b) = some (.bool (decide (a ≠ b))) := by
  have : binB P H .neq t ox oy (.int k a) (.int k b) = some (.bool (a != b)) := by cases k <;> rfl
  rw [this]
  by_cases h : a = b
  · subst h; simp
  · simp [h]
theorem bin_aggeq (l k : List Value) : binB P H .eql t ox oy (.agg ⟨l⟩) (.agg ⟨k⟩) = match flatI P t, eqInts l k with
    | some n, some b => (match Nat.beq l.length n with | true => some (.bool b) | false => none)
    | _, _ => aggB P .eql t ox oy l k := by
  show aggB P .eql t ox oy l k = _
  cases h1 : flatI P t <;> cases h2 : eqInts l k <;> simp only [aggB, isEq, h1, h2]
  rename_i n b
  cases b <;> rfl
theorem bin_aggne (l k : List Value) : binB P H .neq t ox oy (.agg ⟨l⟩) (.agg ⟨k⟩) = match flatI P t, eqInts l k with
    | some n, some b => (match Nat.beq l.length n with | true => some (.bool (!b)) | false => none)
    | _, _ => aggB P .neq t ox oy l k := by
  show aggB P .neq t ox oy l k = _
  cases h1 : flatI P t <;> cases h2 : eqInts l k <;> simp only [aggB, isEq, h1, h2]
  rename_i n b
  cases b <;> rfl
theorem b_quo {a b : Int} (h : b ≠ 0) (h1 : -9223372036854775808 ≤ a.tdiv b) (h2 : a.tdiv b ≤ 9223372036854775807) : binB P H .quo t ox oy (.int .i64 a) (.int .i64 b) = some (.int .i64 (a.tdiv b)) := by
  have e : semV (binOp .quo t (.int .i64 a) (.int .i64 b)) = semV (Op.intDiv .quo .i64 a b) := rfl
  rw [bin_int, e]
  unfold Op.intDiv
  rw [if_neg h]
  show some (Value.int .i64 (IntKind.wrap .i64 (a.tdiv b))) = _
  rw [wrap_id h1 h2]
theorem b_rem {k : IntKind} {a b : Int} (h : b ≠ 0) : binB P H .rem t ox oy (.int k a) (.int k b) = some (.int k (a.tmod b)) := by
  have e : semV (binOp .rem t (.int k a) (.int k b)) = semV (Op.intDiv .rem k a b) := by cases k <;> rfl
  rw [bin_int, e]
  unfold Op.intDiv
  rw [if_neg h]
  rfl
end
attribute [go_sem] un_not un_neg spl_zn spl_zc spl_sc res_cell clean_zero tt_ tf_ ft_ ff_ want_ b_add b_sub b_mul b_lss b_leq b_gtr b_geq b_eql b_neq b_quo b_rem bin_aggeq bin_aggne Option.bind_some
end Go.Sym
end

/-
  Whole structures laid open among the tree's blocks, and put together again; blocks numbered anew. No program in sight.
-/
section
set_option linter.unusedSimpArgs false
set_option linter.unusedVariables false
namespace Go.Sym
open Go Go.RowKit Go.Viv Go.Eva

mutual
/-- A value with its blocks numbered anew. -/
def ren (κ : Nat → Nat) : Value → Value
  | .pointer (some ⟨B, o, none⟩) => .pointer (some ⟨κ B, o, none⟩)
  | .slice (some ⟨B, o, none⟩) n c => .slice (some ⟨κ B, o, none⟩) n c
  | .map (some B) => .map (some (κ B))
  | .func fn ⟨f⟩ ⟨c⟩ => .func fn ⟨renL κ f⟩ ⟨renL κ c⟩
  | .iface t v => .iface t (ren κ v)
  | .agg ⟨l⟩ => .agg ⟨renL κ l⟩
  | .tuple ⟨l⟩ => .tuple ⟨renL κ l⟩
  | v => v
def renL (κ : Nat → Nat) : List Value → List Value
  | [] => []
  | v :: l => ren κ v :: renL κ l
end
theorem renL_length (κ : Nat → Nat) : ∀ l, (renL κ l).length = l.length
  | [] => rfl
  | _ :: l => by simp [renL, renL_length κ l]
theorem renL_append (κ : Nat → Nat) : ∀ l k, renL κ (l ++ k) = renL κ l ++ renL κ k
  | [], _ => rfl
  | v :: l, k => by simp [renL, renL_append κ l k]
mutual
theorem ren_plain (κ : Nat → Nat) : ∀ v, plainV v = true → ren κ v = v
  | .bool b, _ => rfl
  | .int k n, _ => rfl
  | .float k n, h => rfl
  | .complex k a b, h => rfl
  | .string s, _ => rfl
  | .pointer none, _ => rfl
  | .pointer (some a), h => by simp [plainV] at h
  | .slice none 0 0, _ => rfl
  | .slice none (n + 1) c, h => by simp [plainV] at h
  | .slice none 0 (c + 1), h => by simp [plainV] at h
  | .slice (some a) n c, h => by simp [plainV] at h
  | .map none, _ => rfl
  | .map (some r), h => by simp [plainV] at h
  | .chan r, h => rfl
  | .func fn ⟨f⟩ ⟨c⟩, h => by
    simp only [plainV, Bool.and_eq_true] at h
    simp only [ren, renL_plain κ f h.1, renL_plain κ c h.2]
  | .nilFunc, _ => rfl
  | .iface t v, h => by
    simp only [plainV] at h
    simp only [ren, ren_plain κ v h]
  | .nilIface, _ => rfl
  | .agg ⟨l⟩, h => by
    simp only [plainV] at h
    simp only [ren, renL_plain κ l h]
  | .tuple ⟨l⟩, h => by
    simp only [plainV] at h
    simp only [ren, renL_plain κ l h]
theorem renL_plain (κ : Nat → Nat) : ∀ l, plainL l = true → renL κ l = l
  | [], _ => rfl
  | v :: l, h => by
    simp only [plainL, Bool.and_eq_true] at h
    simp only [renL, ren_plain κ v h.1, renL_plain κ l h.2]
end
section
variable {ν : Toks} {φ φ' : Phi} {κ : Nat → Nat}
mutual
/-- What stands for a value under its new numbers. -/
theorem VR.back : ∀ {v u : Value}, VR ν φ (ren κ v) u → VR ν (fun X => φ (κ X)) v u
  | .bool b, _, h => by simp only [ren] at h; cases h; constructor
  | .int k n, _, h => by simp only [ren] at h; cases h; constructor
  | .float k n, _, h => by simp only [ren] at h; cases h
  | .complex k a b, _, h => by simp only [ren] at h; cases h
  | .string s, _, h => by simp only [ren] at h; cases h; constructor
  | .pointer none, _, h => by simp only [ren] at h; cases h; constructor
  | .pointer (some ⟨B, o, none⟩), _, h => by simp only [ren] at h; cases h with | ptr h => exact .ptr h
  | .pointer (some ⟨B, o, some x⟩), _, h => by simp only [ren] at h; cases h
  | .slice none n c, _, h => by simp only [ren] at h; cases h <;> constructor
  | .slice (some ⟨B, o, some x⟩) n c, _, h => by simp only [ren] at h; cases h
  | .slice (some ⟨B, o, none⟩) n c, _, h => by
    simp only [ren] at h
    cases h with
    | slk h hn => exact .slk h hn
    | slu h hn hc => exact .slu h hn hc
    | sle h hc ho => exact .sle h hc ho
  | .map none, _, h => by simp only [ren] at h; cases h; constructor
  | .map (some B), _, h => by simp only [ren] at h; cases h with | map h => exact .map h
  | .chan none, _, h => .bad _
  | .chan (some k), _, h => by simp only [ren] at h; cases h; constructor
  | .func fn ⟨f⟩ ⟨c⟩, _, h => by simp only [ren] at h; cases h with | func _ h1 h2 => exact .func _ (VRs.back h1) (VRs.back h2)
  | .nilFunc, _, h => by simp only [ren] at h; cases h; constructor
  | .iface t v, _, h => by simp only [ren] at h; cases h with | iface _ h => exact .iface _ (VR.back h)
  | .nilIface, _, h => by simp only [ren] at h; cases h; constructor
  | .agg ⟨l⟩, _, h => by simp only [ren] at h; cases h with | agg h => exact .agg (VRs.back h)
  | .tuple ⟨l⟩, _, h => by simp only [ren] at h; cases h with | tuple h => exact .tuple (VRs.back h)
theorem VRs.back : ∀ {l k : List Value}, VRs ν φ (renL κ l) k → VRs ν (fun X => φ (κ X)) l k
  | [], _, h => by simp only [renL] at h; cases h; exact .nil
  | v :: l, _, h => by simp only [renL] at h; cases h with | cons h t => exact .cons (VR.back h) (VRs.back t)
end
mutual
/-- A value under new numbers stands for the same. -/
theorem VR.forth (hk : ∀ X r, φ X = some r → φ' (κ X) = some r) : ∀ {v u : Value}, VR ν φ v u → VR ν φ' (ren κ v) u
  | _, _, .bad v => .bad v
  | _, _, .sym k => .sym k
  | _, _, .bool b => .bool b
  | _, _, .int k n => .int k n
  | _, _, .string s => .string s
  | _, _, .ptr0 => .ptr0
  | _, _, .ptr h => .ptr (hk _ _ h)
  | _, _, .sl0 => .sl0
  | _, _, .slk h hn => .slk (hk _ _ h) hn
  | _, _, .slu h hn hc => .slu (hk _ _ h) hn hc
  | _, _, .sle h hc ho => .sle (hk _ _ h) hc ho
  | _, _, .emp a c => .emp a c
  | _, _, .map0 => .map0
  | _, _, .map h => .map (hk _ _ h)
  | _, _, .func fn h1 h2 => .func fn (VRs.forth hk h1) (VRs.forth hk h2)
  | _, _, .nilFunc => .nilFunc
  | _, _, .iface t h => .iface t (VR.forth hk h)
  | _, _, .nilIface => .nilIface
  | _, _, .agg h => .agg (VRs.forth hk h)
  | _, _, .tuple h => .tuple (VRs.forth hk h)
theorem VRs.forth (hk : ∀ X r, φ X = some r → φ' (κ X) = some r) : ∀ {l l' : List Value}, VRs ν φ l l' → VRs ν φ' (renL κ l) l'
  | _, _, .nil => .nil
  | _, _, .cons h t => .cons (VR.forth hk h) (VRs.forth hk t)
end
end
def renE (κ : Nat → Nat) (e : MapEntry) : MapEntry := ⟨e.key, ren κ e.val, e.born⟩
def renO (κ : Nat → Nat) : AObj → AObj
  | .cells c e rw => .cells (renL κ c) e rw
  | .map es clk => .map (es.map (renE κ)) clk
  | .res x => .res x
theorem isRes_ren (κ : Nat → Nat) (o : AObj) : isRes (some (renO κ o)) = isRes (some o) := by cases o <;> rfl
section
variable {P : Program} {ν : Toks} {φ φ' : Phi} {κ : Nat → Nat} {w w' : World} {r : Ref} {own own' : Nat → Prop}
theorem ER.back : ∀ {es es' : List MapEntry}, ER ν φ (es.map (renE κ)) es' → ER ν (fun X => φ (κ X)) es es'
  | [], _, h => by cases h; exact .nil
  | e :: es, _, h => by
    obtain ⟨k, v, n⟩ := e
    cases h with | cons h t => exact .cons (VR.back h) (ER.back t)
theorem ER.forth (hk : ∀ X r, φ X = some r → φ' (κ X) = some r) {es es' : List MapEntry} (h : ER ν φ es es') : ER ν φ' (es.map (renE κ)) es' := by
  induction h with
  | nil => exact .nil
  | cons h _ ih => exact .cons (VR.forth hk h) ih
theorem ObjR.back {o : AObj} (h : ObjR P own ν φ w r (renO κ o)) : ObjR P own ν (fun X => φ (κ X)) w r o := by
  cases o with
  | cells c e rw => cases h with | cells h hs hrw hc => exact .cells h hs hrw (by rw [renL_length] at hc; exact VRs.back hc)
  | map es clk => cases h with | map h hb he => exact .map h hb (ER.back he)
  | res x => exact .res x
theorem ObjR.forth (hk : ∀ X r, φ X = some r → φ' (κ X) = some r) {o : AObj} (h : ObjR P own ν φ w r o) : ObjR P own ν φ' w r (renO κ o) := by
  cases h with
  | cells h hs hrw hc => exact .cells h hs hrw (by rw [renL_length]; exact VRs.forth hk hc)
  | map h hb he => exact .map h hb (ER.forth hk he)
  | res x => exact .res x
theorem ObjR.owns {o : AObj} (ho : own r.b → own' r.b) (h : ObjR P own ν φ w r o) : ObjR P own' ν φ w r o := by
  cases h with
  | cells h hs hrw hc => exact .cells h hs (fun e => have := hrw e; ⟨this.1, this.2.1, ho this.2.2.1, this.2.2.2⟩) hc
  | map h hb he => exact .map h (ho hb) he
  | res x => exact .res x
end

mutual
/-- Does a block's number stand in a value? -/
def occ (X : Nat) : Value → Bool
  | .pointer (some ⟨B, _, none⟩) => Nat.beq B X
  | .slice (some ⟨B, _, none⟩) _ _ => Nat.beq B X
  | .map (some B) => Nat.beq B X
  | .func _ ⟨f⟩ ⟨c⟩ => occL X f || occL X c
  | .iface _ v => occ X v
  | .agg ⟨l⟩ => occL X l
  | .tuple ⟨l⟩ => occL X l
  | _ => false
def occL (X : Nat) : List Value → Bool
  | [] => false
  | v :: l => occ X v || occL X l
end
section
variable {ν : Toks} {φ : Phi} {X : Nat} {κ : Nat → Nat}
mutual
theorem VR.occurs : ∀ {v u : Value}, VR ν φ v u → occ X v = true → (φ X).isSome = true
  | _, _, .bad v, h => by simp [occ] at h
  | _, _, .sym k, h => by simp [occ] at h
  | _, _, .bool b, h => by simp [occ] at h
  | _, _, .int k n, h => by simp [occ] at h
  | _, _, .string s, h => by simp [occ] at h
  | _, _, .ptr0, h => by simp [occ] at h
  | _, _, .ptr hb, h => by
    simp only [occ] at h
    have := beq_iff h
    subst this
    rw [hb]; rfl
  | _, _, .sl0, h => by simp [occ] at h
  | _, _, .slk hb hn, h => by
    simp only [occ] at h
    have := beq_iff h
    subst this
    rw [hb]; rfl
  | _, _, .slu hb hn hc, h => by
    simp only [occ] at h
    have := beq_iff h
    subst this
    rw [hb]; rfl
  | _, _, .emp a c, h => by simp [occ] at h
  | _, _, .sle hb hc ho, h => by
    simp only [occ] at h
    have := beq_iff h
    subst this
    rw [hb]; rfl
  | _, _, .map0, h => by simp [occ] at h
  | _, _, .map hb, h => by
    simp only [occ] at h
    have := beq_iff h
    subst this
    rw [hb]; rfl
  | _, _, .func fn h1 h2, h => by
    simp only [occ, Bool.or_eq_true] at h
    rcases h with h | h
    · exact VRs.occurs h1 h
    · exact VRs.occurs h2 h
  | _, _, .nilFunc, h => by simp [occ] at h
  | _, _, .iface t h1, h => VR.occurs h1 (by simpa only [occ] using h)
  | _, _, .nilIface, h => by simp [occ] at h
  | _, _, .agg h1, h => VRs.occurs h1 (by simpa only [occ] using h)
  | _, _, .tuple h1, h => VRs.occurs h1 (by simpa only [occ] using h)
theorem VRs.occurs : ∀ {l k : List Value}, VRs ν φ l k → occL X l = true → (φ X).isSome = true
  | _, _, .nil, h => by simp [occL] at h
  | _, _, .cons h1 h2, h => by
    simp only [occL, Bool.or_eq_true] at h
    rcases h with h | h
    · exact VR.occurs h1 h
    · exact VRs.occurs h2 h
end
mutual
theorem VR.fixed (hk : ∀ X r, φ X = some r → κ X = X) : ∀ {v u : Value}, VR ν φ v u → ren κ v = v
  | _, _, .bad v => rfl
  | _, _, .sym k => rfl
  | _, _, .bool b => rfl
  | _, _, .int k n => rfl
  | _, _, .string s => rfl
  | _, _, .ptr0 => rfl
  | _, _, .ptr hb => by simp only [ren, hk _ _ hb]
  | _, _, .sl0 => rfl
  | _, _, .slk hb hn => by simp only [ren, hk _ _ hb]
  | _, _, .slu hb hn hc => by simp only [ren, hk _ _ hb]
  | _, _, .sle hb hc ho => by simp only [ren, hk _ _ hb]
  | _, _, .emp a c => rfl
  | _, _, .map0 => rfl
  | _, _, .map hb => by simp only [ren, hk _ _ hb]
  | _, _, .func fn h1 h2 => by simp only [ren, VRs.fixed hk h1, VRs.fixed hk h2]
  | _, _, .nilFunc => rfl
  | _, _, .iface t h1 => by simp only [ren, VR.fixed hk h1]
  | _, _, .nilIface => rfl
  | _, _, .agg h1 => by simp only [ren, VRs.fixed hk h1]
  | _, _, .tuple h1 => by simp only [ren, VRs.fixed hk h1]
theorem VRs.fixed (hk : ∀ X r, φ X = some r → κ X = X) : ∀ {l k : List Value}, VRs ν φ l k → renL κ l = l
  | _, _, .nil => rfl
  | _, _, .cons h1 h2 => by simp only [renL, VR.fixed hk h1, VRs.fixed hk h2]
end
theorem ER.fixed (hk : ∀ X r, φ X = some r → κ X = X) {es es' : List MapEntry} (h : ER ν φ es es') : es.map (renE κ) = es := by
  induction h with
  | nil => rfl
  | cons h _ ih => simp only [List.map_cons, ih, renE, VR.fixed hk h]
theorem ObjR.fixed {P : Program} {own : Nat → Prop} {w : World} {r : Ref} (hk : ∀ X r, φ X = some r → κ X = X) {o : AObj} (h : ObjR P own ν φ w r o) : renO κ o = o := by
  cases h with
  | cells h hs hrw hc => simp only [renO, VRs.fixed hk hc]
  | map h hb he => simp only [renO, ER.fixed hk he]
  | res x => rfl
end
/-- May a block be a structure's own? -/
def ownable : AObj → Bool
  | .cells _ _ rw => rw
  | _ => true

/-! ### Structures -/
/-- What is told of structures: which are looked at as one (leaf), and the forms of the others: the cells of their own block (number 0), its type, and the blocks that are theirs (numbers 1, 2, ..; none: a number that only stands in a value). -/
structure Frm where
  leaf : Rs → World → Nat → (Nat → Prop) → Prop
  fm : Rs → List Value → TypeId → List (Option AObj) → Prop
  occs : ∀ {x oc e ps}, fm x oc e ps → ∀ i ob, ps[i]? = some (some ob) → (occL (i + 1) oc = true ∨ ∃ j c e' rw', j < i ∧ ps[j]? = some (some (.cells c e' rw')) ∧ occL (i + 1) c = true) ∧ ownable ob = true
  leafF : ∀ {x w w' b F}, leaf x w b F → (∀ k, F k → w'.heap[k]? = w.heap[k]?) → w.heap.size ≤ w'.heap.size → leaf x w' b F
  view : ∀ {x oc e ps}, fm x oc e ps → ∀ (i : Nat) (v : Value), (viewRs x)[i]? = some v → oc[i]? = some v
  leafV : ∀ {x w b F}, leaf x w b F → ∀ (i : Nat) (v : Value), (viewRs x)[i]? = some v → w.cell? ⟨b, i, none⟩ = some v
inductive RI (P : Program) (ν : Toks) (L : Frm) : Rs → World → Ref → (Nat → Prop) → Prop
  | leaf {x : Rs} {w : World} {b : Ref} {F : Nat → Prop} (h : L.leaf x w b.b F) : RI P ν L x w b F
  | form {x : Rs} {w : World} {b : Ref} {F : Nat → Prop} (oc : List Value) (e : TypeId) (ps : List (Option AObj)) (h : L.fm x oc e ps) (ψ : Phi) (h0 : ψ 0 = some b)
      (hψ : ∀ j, ps.length < j → ψ j = none) (hψb : ∀ j r, ψ j = some r → r.b < w.heap.size) (fp : Nat → Nat → Prop) (ho : ObjR P (fun _ => True) ν ψ w b (.cells oc e true))
      (hp : ∀ i ob, ps[i]? = some (some ob) → ∃ r, ψ (i + 1) = some r ∧ ObjR P (fun _ => True) ν ψ w r ob ∧ (isRes (some ob) = false → ∀ k, fp i k ↔ k = r.b))
      (hr : ∀ i x', ps[i]? = some (some (.res x')) → ∀ r, ψ (i + 1) = some r → RI P ν L x' w r (fp i))
      (hn : ∀ i, (∀ ob, ps[i]? ≠ some (some ob)) → ∀ k, ¬ fp i k) (dis : ∀ i j k, fp i k → fp j k → i = j) (far : ∀ i k, fp i k → k ≠ b.b) (hF : ∀ k, F k ↔ k = b.b ∨ ∃ i, fp i k) (bnd : ∀ k, F k → k < w.heap.size) : RI P ν L x w b F
section
variable {P : Program} {ν : Toks} {L : Frm}
theorem RI.same {x : Rs} {w w' : World} {b : Ref} {F : Nat → Prop} (h : RI P ν L x w b F) (hb : ∀ k, F k → w'.heap[k]? = w.heap[k]?) (hs : w.heap.size ≤ w'.heap.size) : RI P ν L x w' b F := by
  induction h with
  | leaf h => exact .leaf (L.leafF h hb hs)
  | @form x w b F oc e ps h ψ h0 hψ hψb fp ho hp hr hn dis far hF bnd ih =>
    refine .form oc e ps h ψ h0 hψ (fun j r hj => Nat.lt_of_lt_of_le (hψb j r hj) hs) fp (ho.far fun _ => hb _ ((hF _).2 (.inl rfl))) (fun i ob hi => ?_) (fun i x' hi r hr' => ?_) hn dis far hF (fun k hk => Nat.lt_of_lt_of_le (bnd k hk) hs)
    · obtain ⟨r, h1, h2, h3⟩ := hp i ob hi
      exact ⟨r, h1, h2.far fun hno => hb _ ((hF _).2 (.inr ⟨i, (h3 hno _).2 rfl⟩)), h3⟩
    · exact ih i x' hi r hr' (fun k hk => hb k ((hF k).2 (.inr ⟨i, hk⟩))) hs
theorem RI.view {x : Rs} {w : World} {b : Ref} {F : Nat → Prop} (h : RI P ν L x w b F) : ∀ (i : Nat) (v : Value), (viewRs x)[i]? = some v → w.cell? ⟨b.b, i, none⟩ = some v := by
  intro i v hv
  cases h with
  | leaf h => exact L.leafV h i v hv
  | form oc e ps h ψ h0 hψ hψb fp ho hp hr hn dis far hF bnd =>
    have h1 := L.view h i v hv
    have hpl : plainV v = true := by
      have := viewRs_plain x
      obtain ⟨v', h2, h3⟩ := (VRs.refl (ν := ν) (φ := ψ) _ this).get hv
      exact plain_of this hv
    cases ho with
    | cells hh hs hrw hc =>
      obtain ⟨v', h2, h3⟩ := hc.get h1
      have := h3.plain hpl
      subst this
      rw [List.getElem?_take] at h2
      split at h2
      · simp only [World.cell?, hh]
        simpa using h2
      · cases h2
where
  plain_of : ∀ {l : List Value} {i : Nat} {v : Value}, plainL l = true → l[i]? = some v → plainV v = true
    | [], i, v, _, h => by simp at h
    | u :: l, 0, v, hp, h => by simp at h; subst h; simp only [plainL, Bool.and_eq_true] at hp; exact hp.1
    | u :: l, i + 1, v, hp, h => by simp only [plainL, Bool.and_eq_true] at hp; exact plain_of hp.2 (by simpa using h)
def LBegin (P : Program) (ν : Toks) (L : Frm) (w : World) (may : Nat → Prop) : Begin := ⟨w, may, fun x _ w b F => RI P ν L x w b F, fun h hb hs => h.same hb hs, fun _ h => h, fun h => h.view⟩
end
end Go.Sym
end

/-
  Whole structures laid open among the tree's blocks. No program in sight.
-/
section
set_option linter.unusedSimpArgs false
set_option linter.unusedVariables false
namespace Go.Sym
open Go Go.RowKit Go.Viv Go.Eva
/-- Blocks laid one behind the other from n on. -/
def layL (κ : Nat → Nat) : Tr AObj → Nat → List (Option AObj) → Tr AObj
  | t, _, [] => t
  | t, n, p :: l => layL κ (t.set n (p.map (renO κ))) (n + 1) l
theorem layL_out (κ : Nat → Nat) : ∀ (l : List (Option AObj)) (t : Tr AObj) (n X : Nat), (X < n ∨ n + l.length ≤ X) → (layL κ t n l).at_ X = t.at_ X
  | [], t, n, X, _ => rfl
  | p :: l, t, n, X, h => by
    simp only [List.length_cons] at h
    unfold layL
    rw [layL_out κ l _ (n + 1) X (by omega), Tr.at_set_ne _ _ (by omega)]
theorem layL_in (κ : Nat → Nat) : ∀ (l : List (Option AObj)) (t : Tr AObj) (n i : Nat) (p : Option AObj), l[i]? = some p → (layL κ t n l).at_ (n + i) = p.map (renO κ)
  | [], t, n, i, p, h => by simp at h
  | q :: l, t, n, 0, p, h => by
    simp at h
    subst h
    unfold layL
    rw [layL_out κ l _ (n + 1) (n + 0) (by omega), Nat.add_zero, Tr.at_set_same]
  | q :: l, t, n, i + 1, p, h => by
    simp at h
    unfold layL
    rw [show n + (i + 1) = n + 1 + i by omega]
    exact layL_in κ l _ (n + 1) i p h
/-- A structure's own cells and blocks in its place. -/
def opened (s : Hp) (B : Nat) (oc : List Value) (e : TypeId) (ps : List (Option AObj)) : Hp :=
  ⟨layL (s.next + ·) ((s.t.set B none).set s.next (some (.cells (renL (s.next + ·) oc) e true))) (s.next + 1) ps, s.next + 1 + ps.length⟩
section
variable {P : Program} {G : Nat} {W0 : Begin} {ν : Toks} {L : Frm} {φ : Phi} {s : Hp} {w : World}
theorem Rw.lay (hri : W0.ri = fun x _ w b F => RI P ν L x w b F) (hG : G ≤ s.next) (hR : Rw P G W0 ν φ s w) {B : Nat} {r : Ref} {x : Rs} (hφ : φ B = some r) (hat : s.t.at_ B = some (.res x)) (hnl : ∀ w b F, ¬ L.leaf x w b F) :
    ∃ oc e ps φ', L.fm x oc e ps ∧ Rw P G W0 ν φ' (opened s B oc e ps) w ∧ Eva.Ext s.next φ φ' ∧ φ' s.next = some r := by
  obtain ⟨fp, q1, q2, q3, q4⟩ := hR.res
  have hx := q1 B r x hφ hat
  rw [hri] at hx
  have hrB : isRes (s.t.at_ B) = true := by rw [hat]; rfl
  cases hx with
  | leaf h => exact absurd h (hnl _ _ _)
  | form oc e ps h ψ h0 hψ hψb fpi ho hp hr hn dis far hF bnd =>
  have hBn : B < s.next := by
    rcases Nat.lt_or_ge B s.next with h | h
    · exact h
    · rw [hR.fresh B h] at hφ; cases hφ
  let φ' : Phi := fun X => if X < s.next then φ X else ψ (X - s.next)
  have hold : ∀ X, X < s.next → φ' X = φ X := fun X h => by simp only [φ', if_pos h]
  have hnew : ∀ j, φ' (s.next + j) = ψ j := fun j => by
    have : ¬ s.next + j < s.next := by omega
    simp only [φ', if_neg this]
    rw [show s.next + j - s.next = j by omega]
  have hge : ∀ X, s.next ≤ X → φ' X = ψ (X - s.next) := fun X h => by
    have : ¬ X < s.next := by omega
    simp only [φ', if_neg this]
  have hk : ∀ j r, ψ j = some r → φ' (s.next + j) = some r := fun j r h => by rw [hnew, h]
  have hup : ∀ X r, φ X = some r → φ' X = some r := fun X r h => by
    rcases Nat.lt_or_ge X s.next with h' | h'
    · rw [hold X h', h]
    · rw [hR.fresh X h'] at h; cases h
  have a1 : ∀ X, X < s.next → X ≠ B → (opened s B oc e ps).t.at_ X = s.t.at_ X := fun X h1 h2 => by
    simp only [opened]
    rw [layL_out _ _ _ _ _ (by omega), Tr.at_set_ne _ _ (by omega), Tr.at_set_ne _ _ (Ne.symm h2)]
  have a2 : (opened s B oc e ps).t.at_ B = none := by
    simp only [opened]
    rw [layL_out _ _ _ _ _ (by omega), Tr.at_set_ne _ _ (by omega), Tr.at_set_same]
  have a3 : (opened s B oc e ps).t.at_ s.next = some (renO (s.next + ·) (.cells oc e true)) := by
    simp only [opened]
    rw [layL_out _ _ _ _ _ (by omega), Tr.at_set_same]
    rfl
  have a4 : ∀ i p, ps[i]? = some p → (opened s B oc e ps).t.at_ (s.next + 1 + i) = p.map (renO (s.next + ·)) := fun i p hi => by
    simp only [opened]
    exact layL_in _ _ _ _ _ _ hi
  /- what is there -/
  have cls : ∀ X o r', φ' X = some r' → (opened s B oc e ps).t.at_ X = some o → (X < s.next ∧ X ≠ B ∧ s.t.at_ X = some o ∧ φ X = some r') ∨ (X = s.next ∧ o = renO (s.next + ·) (.cells oc e true) ∧ r = r') ∨
      ∃ i ob, X = s.next + 1 + i ∧ ps[i]? = some (some ob) ∧ o = renO (s.next + ·) ob ∧ ψ (i + 1) = some r' := by
    intro X o r' hX ho'
    rcases Nat.lt_or_ge X s.next with h1 | h1
    · by_cases h2 : X = B
      · rw [h2, a2] at ho'; cases ho'
      · exact .inl ⟨h1, h2, by rw [← a1 X h1 h2]; exact ho', by rw [← hold X h1]; exact hX⟩
    · rw [hge X h1] at hX
      by_cases h2 : X = s.next
      · subst h2
        rw [Nat.sub_self, h0] at hX
        cases hX
        rw [a3] at ho'
        cases ho'
        exact .inr (.inl ⟨rfl, rfl, rfl⟩)
      · obtain ⟨i, rfl⟩ : ∃ i, X = s.next + 1 + i := ⟨X - s.next - 1, by omega⟩
        rw [show s.next + 1 + i - s.next = i + 1 by omega] at hX
        have hi : i < ps.length := by
          rcases Nat.lt_or_ge i ps.length with h3 | h3
          · exact h3
          · rw [hψ (i + 1) (by omega)] at hX; cases hX
        have h3 := a4 i ps[i] (List.getElem?_eq_getElem hi)
        rw [ho'] at h3
        cases hpi : ps[i] with
        | none => rw [hpi] at h3; cases h3
        | some ob =>
          rw [hpi] at h3
          simp only [Option.map_some, Option.some.injEq] at h3
          exact .inr (.inr ⟨i, ob, rfl, by rw [List.getElem?_eq_getElem hi, hpi], h3, hX⟩)
  have hF0 : fp B r.b := (hF _).2 (.inl rfl)
  have ownF : ∀ k, fp B k → W0.own k ∧ k < w.heap.size := fun k hk => q2 B r k hφ hrB hk
  /- the block that a new one stands at, if it is no structure -/
  have blk : ∀ i ob r', ps[i]? = some (some ob) → ψ (i + 1) = some r' → isRes (some ob) = false → fpi i r'.b := fun i ob r' hi hr' hno => by
    obtain ⟨r1, h1, _, h3⟩ := hp i ob hi
    rw [hr'] at h1
    cases h1
    exact (h3 hno _).2 rfl
  have inF : ∀ i k, fpi i k → fp B k := fun i k hk => (hF k).2 (.inr ⟨i, hk⟩)
  let fp' : Nat → Nat → Prop := fun X => if X < s.next then fp X else fpi (X - s.next - 1)
  have fold : ∀ X, X < s.next → fp' X = fp X := fun X h => by simp only [fp', if_pos h]
  have fnew : ∀ i, fp' (s.next + 1 + i) = fpi i := fun i => by
    have : ¬ s.next + 1 + i < s.next := by omega
    simp only [fp', if_neg this]
    rw [show s.next + 1 + i - s.next - 1 = i by omega]
  refine ⟨oc, e, ps, φ', h, ⟨hR.frame, fun g hg => ?_, fun X hX => ?_, fun X r' hX => ?_, fun X r' o hX hX' => ?_, fun X X' r1 r2 h1 h2 h3 h4 h5 h6 h7 => ?_, fp', ?_⟩, fun X hX => hold X hX, by rw [show s.next = s.next + 0 from rfl, hnew, h0]⟩
  · obtain ⟨r', h1, h2⟩ := hR.glob g hg
    exact ⟨r', hup _ _ h1, h2⟩
  · have hX' : s.next + 1 + ps.length ≤ X := hX
    rw [hge X (by omega)]
    exact hψ _ (by omega)
  · rcases Nat.lt_or_ge X s.next with h1 | h1
    · rw [hold X h1] at hX; exact hR.bound X r' hX
    · rw [hge X h1] at hX; exact hψb _ r' hX
  · rcases cls X o r' hX hX' with ⟨h1, h2, h3, h4⟩ | ⟨rfl, rfl, rfl⟩ | ⟨i, ob, rfl, h2, rfl, h4⟩
    · exact (hR.obj X r' o h4 h3).ext hup
    · exact ObjR.forth hk (ObjR.owns (fun _ => (ownF _ hF0).1) ho)
    · obtain ⟨r1, g1, g2, g3⟩ := hp i ob h2
      rw [h4] at g1
      cases g1
      cases hres : isRes (some ob) with
      | true =>
        obtain ⟨x', hx'⟩ := res_at hres
        cases hx'
        exact .res x'
      | false => exact ObjR.forth hk (ObjR.owns (fun _ => (ownF _ (inF i _ ((g3 hres _).2 rfl))).1) g2)
  · obtain ⟨o1, e1⟩ := Option.isSome_iff_exists.1 h1
    obtain ⟨o2, e2⟩ := Option.isSome_iff_exists.1 h2
    rw [e1] at h3
    rw [e2] at h4
    rcases cls X o1 r1 h5 e1 with ⟨p1, p2, p3, p4⟩ | ⟨rfl, rfl, rfl⟩ | ⟨i, ob, rfl, p2, rfl, p4⟩ <;> rcases cls X' o2 r2 h6 e2 with ⟨k1, k2, k3, k4⟩ | ⟨rfl, rfl, rfl⟩ | ⟨j, ob', rfl, k2, rfl, k4⟩
    · exact hR.inj X X' r1 r2 (by rw [p3]; rfl) (by rw [k3]; rfl) (by rw [p3]; exact h3) (by rw [k3]; exact h4) p4 k4 h7
    · exact absurd (h7 ▸ hF0) (q4 B X r r1 hφ p4 hrB (by rw [p3]; rfl) (by rw [p3]; exact h3))
    · rw [isRes_ren] at h4
      exact absurd (h7 ▸ inF j _ (blk j ob' r2 k2 k4 h4)) (q4 B X r r1 hφ p4 hrB (by rw [p3]; rfl) (by rw [p3]; exact h3))
    · exact absurd (h7 ▸ hF0) (q4 B X' r r2 hφ k4 hrB (by rw [k3]; rfl) (by rw [k3]; exact h4))
    · rfl
    · rw [isRes_ren] at h4
      exact absurd h7.symm (far j _ (blk j ob' r2 k2 k4 h4))
    · rw [isRes_ren] at h3
      exact absurd (h7 ▸ inF i _ (blk i ob r1 p2 p4 h3)) (q4 B X' r r2 hφ k4 hrB (by rw [k3]; rfl) (by rw [k3]; exact h4))
    · rw [isRes_ren] at h3
      exact absurd h7 (far i _ (blk i ob r1 p2 p4 h3))
    · rw [isRes_ren] at h3 h4
      rw [dis i j r1.b (blk i ob r1 p2 p4 h3) (h7 ▸ blk j ob' r2 k2 k4 h4)]
  · refine ⟨fun X r' y hX hX' => ?_, fun X r' k hX hX' hk' => ?_, fun X X' r1 r2 k h1 h2 h3 h4 h5 h6 => ?_, fun X X' r1 r2 h1 h2 h3 h4 h5 h6 => ?_⟩
    · rcases cls X _ r' hX hX' with ⟨h1, h2, h3, h4⟩ | ⟨rfl, h2, rfl⟩ | ⟨i, ob, rfl, h2, h3, h4⟩
      · rw [fold X h1]; exact W0.riX hup (q1 X r' y h4 h3)
      · cases h2
      · rw [fnew, hri]
        cases ob with
        | cells c e' rw' => cases h3
        | map es clk => cases h3
        | res x' => cases h3; exact hr i y h2 r' h4
    · obtain ⟨x', hx'⟩ := res_at hX'
      rcases cls X _ r' hX hx' with ⟨h1, h2, h3, h4⟩ | ⟨rfl, h2, rfl⟩ | ⟨i, ob, rfl, h2, h3, h4⟩
      · rw [fold X h1] at hk'; exact q2 X r' k h4 (by rw [h3]; rfl) hk'
      · cases h2
      · rw [fnew] at hk'
        exact ownF k (inF i k hk')
    · obtain ⟨x1, e1⟩ := res_at h3
      obtain ⟨x2, e2⟩ := res_at h4
      rcases cls X _ r1 h1 e1 with ⟨p1, p2, p3, p4⟩ | ⟨rfl, p2, rfl⟩ | ⟨i, ob, rfl, p2, p3, p4⟩ <;> rcases cls X' _ r2 h2 e2 with ⟨k1, k2, k3, k4⟩ | ⟨rfl, k2, rfl⟩ | ⟨j, ob', rfl, k2, k3, k4⟩ <;> first
        | cases p2; done
        | cases k2; done
        | skip
      · rw [fold X p1] at h5
        rw [fold X' k1] at h6
        exact q3 X X' r1 r2 k p4 k4 (by rw [p3]; rfl) (by rw [k3]; rfl) h5 h6
      · rw [fold X p1] at h5
        rw [fnew] at h6
        exact absurd (q3 X B r1 r k p4 hφ (by rw [p3]; rfl) hrB h5 (inF j k h6)) p2
      · rw [fnew] at h5
        rw [fold X' k1] at h6
        exact absurd (q3 X' B r2 r k k4 hφ (by rw [k3]; rfl) hrB h6 (inF i k h5)) k2
      · rw [fnew] at h5 h6
        rw [dis i j k h5 h6]
    · obtain ⟨x1, e1⟩ := res_at h3
      obtain ⟨o2, e2⟩ := Option.isSome_iff_exists.1 h4
      rw [e2] at h5
      rcases cls X _ r1 h1 e1 with ⟨p1, p2, p3, p4⟩ | ⟨rfl, p2, rfl⟩ | ⟨i, ob, rfl, p2, p3, p4⟩
      · rw [fold X p1] at h6
        rcases cls X' _ r2 h2 e2 with ⟨k1, k2, k3, k4⟩ | ⟨rfl, k2, rfl⟩ | ⟨j, ob', rfl, k2, rfl, k4⟩
        · exact q4 X X' r1 r2 p4 k4 (by rw [p3]; rfl) (by rw [k3]; rfl) (by rw [k3]; exact h5) h6
        · exact p2 (q3 X B r1 r _ p4 hφ (by rw [p3]; rfl) hrB h6 hF0)
        · rw [isRes_ren] at h5
          exact p2 (q3 X B r1 r _ p4 hφ (by rw [p3]; rfl) hrB h6 (inF j _ (blk j ob' r2 k2 k4 h5)))
      · cases p2
      · rw [fnew] at h6
        rcases cls X' _ r2 h2 e2 with ⟨k1, k2, k3, k4⟩ | ⟨rfl, k2, rfl⟩ | ⟨j, ob', rfl, k2, rfl, k4⟩
        · exact q4 B X' r r2 hφ k4 hrB (by rw [k3]; rfl) (by rw [k3]; exact h5) (inF i _ h6)
        · exact far i _ h6 rfl
        · rw [isRes_ren] at h5
          have hij := dis i j _ h6 (blk j ob' r2 k2 k4 h5)
          subst hij
          rw [p2] at k2
          cases k2
          cases ob with
          | cells c e' rw' => cases p3
          | map es clk => cases p3
          | res x' => cases h5
end
end Go.Sym
end

/-
  Whole structures put together again; blocks numbered anew. No program in sight.
-/
section
set_option linter.unusedSimpArgs false
set_option linter.unusedVariables false
namespace Go.Sym
open Go Go.RowKit Go.Viv Go.Eva
/-- Numbers by a list; behind it numbers that nothing bears. -/
def kap (l : List Nat) (n j : Nat) : Nat := l.getD j (n + j)
theorem kap_lt {l : List Nat} {n j : Nat} (h : j < l.length) : kap l n j = l[j] := by
  unfold kap
  rw [List.getD_eq_getElem?_getD, List.getElem?_eq_getElem h]
  rfl
theorem kap_ge {l : List Nat} {n j : Nat} (h : l.length ≤ j) : kap l n j = n + j := by
  unfold kap
  rw [List.getD_eq_getElem?_getD, List.getElem?_eq_none h]
  rfl
theorem kap_inj {l : List Nat} {n i j : Nat} (hn : l.Nodup) (hi : i < l.length) (hj : j < l.length) (h : kap l n i = kap l n j) : i = j := by
  rw [kap_lt hi, kap_lt hj] at h
  exact (List.getElem_inj hn).1 h
section
variable {P : Program} {G : Nat} {W0 : Begin} {ν : Toks} {L : Frm} {φ : Phi} {s : Hp} {w : World}
theorem Rw.fold (hri : W0.ri = fun x _ w b F => RI P ν L x w b F) (hR : Rw P G W0 ν φ s w) {x : Rs} {oc : List Value} {e : TypeId} {ps : List (Option AObj)} (h : L.fm x oc e ps) {l : List Nat} (hl : l.length = ps.length + 1) (hnd : l.Nodup)
    (h0 : s.t.at_ (kap l s.next 0) = some (.cells (renL (kap l s.next) oc) e true)) (hp0 : (φ (kap l s.next 0)).isSome)
    (hps : ∀ i ob, ps[i]? = some (some ob) → s.t.at_ (kap l s.next (i + 1)) = some (renO (kap l s.next) ob))
    {t : Tr AObj} (ht : ∀ X o, t.at_ X = some o → (X = kap l s.next 0 ∧ o = .res x) ∨ (X ≠ kap l s.next 0 ∧ (∀ i ob, ps[i]? = some (some ob) → X ≠ kap l s.next (i + 1)) ∧ s.t.at_ X = some o)) :
    Rw P G W0 ν φ ⟨t, s.next⟩ w := by
  obtain ⟨fpR, q1, q2, q3, q4⟩ := hR.res
  obtain ⟨r0, hr0⟩ := Option.isSome_iff_exists.1 hp0
  have hsm : ∀ i ob, ps[i]? = some (some ob) → (φ (kap l s.next (i + 1))).isSome := by
    intro i
    induction i using Nat.strongRecOn with
    | ind i ih =>
      intro ob hi
      rcases (L.occs h i ob hi).1 with h1 | ⟨j, c, e', rw', hj, hjp, hoc⟩
      · cases ObjR.back (o := .cells oc e true) (hR.obj _ r0 _ hr0 h0) with
        | cells g1 g2 g3 g4 => exact VRs.occurs (φ := fun X => φ (kap l s.next X)) g4 h1
      · obtain ⟨r, hr⟩ := Option.isSome_iff_exists.1 (ih j hj _ hjp)
        cases ObjR.back (o := .cells c e' rw') (hR.obj _ r _ hr (hps j _ hjp)) with
        | cells g1 g2 g3 g4 => exact VRs.occurs (φ := fun X => φ (kap l s.next X)) g4 hoc
  replace hps : ∀ i ob, ps[i]? = some (some ob) → s.t.at_ (kap l s.next (i + 1)) = some (renO (kap l s.next) ob) ∧ (φ (kap l s.next (i + 1))).isSome ∧ ownable ob = true := fun i ob hi => by
    exact ⟨hps i ob hi, hsm i ob hi, (L.occs h i ob hi).2⟩
  generalize hκ : kap l s.next = κ at *
  have kinj : ∀ i j, i ≤ ps.length → j ≤ ps.length → κ i = κ j → i = j := fun i j hi hj hh => by
    rw [← hκ] at hh
    exact kap_inj hnd (by omega) (by omega) hh
  have khi : ∀ j, ps.length < j → φ (κ j) = none := fun j hj => by
    rw [← hκ, kap_ge (by omega)]
    exact hR.fresh _ (by omega)
  have plen : ∀ i (ob : AObj), ps[i]? = some (some ob) → i < ps.length := fun i ob hi => by
    rcases Nat.lt_or_ge i ps.length with h | h
    · exact h
    · rw [List.getElem?_eq_none h] at hi; cases hi
  have a0 : (s.t.at_ (κ 0)).isSome = true := by rw [h0]; rfl
  have n0 : isRes (s.t.at_ (κ 0)) = false := by rw [h0]; rfl
  let fpi : Nat → Nat → Prop := fun i k => match ps[i]? with
    | some (some (.res _)) => fpR (κ (i + 1)) k
    | some (some _) => ∃ r, φ (κ (i + 1)) = some r ∧ k = r.b
    | _ => False
  have fpi_res : ∀ i x', ps[i]? = some (some (.res x')) → ∀ k, fpi i k = fpR (κ (i + 1)) k := fun i x' hi k => by simp only [fpi, hi]
  have fpi_oth : ∀ i ob, ps[i]? = some (some ob) → isRes (some ob) = false → ∀ k, fpi i k ↔ ∃ r, φ (κ (i + 1)) = some r ∧ k = r.b := fun i ob hi hno k => by
    cases ob with
    | cells c e rw => simp only [fpi, hi]
    | map es clk => simp only [fpi, hi]
    | res x' => cases hno
  have fpi_some : ∀ i k, fpi i k → ∃ ob, ps[i]? = some (some ob) := fun i k hk => by
    cases hi : ps[i]? with
    | none => simp only [fpi, hi] at hk
    | some p => cases p with
      | none => simp only [fpi, hi] at hk
      | some ob => exact ⟨ob, rfl⟩
  /- what is told of a block that is the structure's -/
  have prv : ∀ i ob, ps[i]? = some (some ob) → ∃ r, φ (κ (i + 1)) = some r ∧ s.t.at_ (κ (i + 1)) = some (renO κ ob) := fun i ob hi => by
    obtain ⟨h1, h2, _⟩ := hps i ob hi
    obtain ⟨r, hr⟩ := Option.isSome_iff_exists.1 h2
    exact ⟨r, hr, h1⟩
  /- each block of a part, told by its key -/
  have key : ∀ i k, fpi i k → ∃ ob r, ps[i]? = some (some ob) ∧ φ (κ (i + 1)) = some r ∧ s.t.at_ (κ (i + 1)) = some (renO κ ob) ∧ ((isRes (some ob) = true ∧ fpR (κ (i + 1)) k) ∨ (isRes (some ob) = false ∧ k = r.b)) := fun i k hk => by
    obtain ⟨ob, hi⟩ := fpi_some i k hk
    obtain ⟨r, h1, h2⟩ := prv i ob hi
    refine ⟨ob, r, hi, h1, h2, ?_⟩
    cases hres : isRes (some ob) with
    | true =>
      obtain ⟨x', hx'⟩ := res_at hres
      cases hx'
      rw [fpi_res i x' hi] at hk
      exact .inl ⟨rfl, hk⟩
    | false =>
      obtain ⟨r', h3, h4⟩ := (fpi_oth i ob hi hres k).1 hk
      rw [h1] at h3; cases h3
      exact .inr ⟨rfl, h4⟩
  have dis : ∀ i j k, fpi i k → fpi j k → i = j := fun i j k hi hj => by
    obtain ⟨ob, r, g1, g2, g3, g4⟩ := key i k hi
    obtain ⟨ob', r', k1, k2, k3, k4⟩ := key j k hj
    have : κ (i + 1) = κ (j + 1) := by
      rcases g4 with ⟨g4, g5⟩ | ⟨g4, g5⟩ <;> rcases k4 with ⟨k4, k5⟩ | ⟨k4, k5⟩
      · exact q3 _ _ r r' k g2 k2 (by rw [g3, isRes_ren]; exact g4) (by rw [k3, isRes_ren]; exact k4) g5 k5
      · subst k5
        exact absurd g5 (q4 _ _ r r' g2 k2 (by rw [g3, isRes_ren]; exact g4) (by rw [k3]; rfl) (by rw [k3, isRes_ren]; exact k4))
      · subst g5
        exact absurd k5 (q4 _ _ r' r k2 g2 (by rw [k3, isRes_ren]; exact k4) (by rw [g3]; rfl) (by rw [g3, isRes_ren]; exact g4))
      · exact hR.inj _ _ r r' (by rw [g3]; rfl) (by rw [k3]; rfl) (by rw [g3, isRes_ren]; exact g4) (by rw [k3, isRes_ren]; exact k4) g2 k2 (g5.symm.trans k5)
    have := kinj _ _ (by have := plen i ob g1; omega) (by have := plen j ob' k1; omega) this
    omega
  have far : ∀ i k, fpi i k → k ≠ r0.b := fun i k hi e1 => by
    obtain ⟨ob, r, g1, g2, g3, g4⟩ := key i k hi
    rcases g4 with ⟨g4, g5⟩ | ⟨g4, g5⟩
    · subst e1
      exact q4 _ _ r r0 g2 hr0 (by rw [g3, isRes_ren]; exact g4) a0 n0 g5
    · have := hR.inj _ _ r r0 (by rw [g3]; rfl) a0 (by rw [g3, isRes_ren]; exact g4) n0 g2 hr0 (g5.symm.trans e1)
      have := kinj _ _ (by have := plen i ob g1; omega) (by omega) this
      omega
  have o0 := hR.obj _ r0 _ hr0 h0
  have own0 : W0.own r0.b := by
    cases o0 with | cells h hs hrw hc => exact (hrw rfl).2.2.1
  have ownk : ∀ i k, fpi i k → W0.own k ∧ k < w.heap.size := fun i k hi => by
    obtain ⟨ob, r, g1, g2, g3, g4⟩ := key i k hi
    rcases g4 with ⟨g4, g5⟩ | ⟨g4, g5⟩
    · exact q2 _ r k g2 (by rw [g3, isRes_ren]; exact g4) g5
    · subst g5
      refine ⟨?_, hR.bound _ r g2⟩
      have ho := hR.obj _ r _ g2 g3
      have hob := (hps i ob g1).2.2
      cases ob with
      | cells c e rw =>
        cases ho with | cells h hs hrw hc => exact (hrw hob).2.2.1
      | map es clk => cases ho with | map h hb he => exact hb
      | res x' => cases g4
  let F : Nat → Prop := fun k => k = r0.b ∨ ∃ i, fpi i k
  have ownF : ∀ k, F k → W0.own k ∧ k < w.heap.size := fun k hk => by
    rcases hk with rfl | ⟨i, hk⟩
    · exact ⟨own0, hR.bound _ r0 hr0⟩
    · exact ownk i k hk
  have hRI : RI P ν L x w r0 F := by
    refine .form oc e ps h (fun j => φ (κ j)) hr0 (fun j hj => khi j hj) (fun j r hj => hR.bound _ r hj) fpi ?_ (fun i ob hi => ?_) (fun i x' hi r hr => ?_) (fun i hi k hk => ?_) dis far (fun k => Iff.rfl) (fun k hk => (ownF k hk).2)
    · exact ObjR.owns (fun _ => trivial) (ObjR.back (o := .cells oc e true) o0)
    · obtain ⟨r, h1, h2⟩ := prv i ob hi
      refine ⟨r, h1, ObjR.owns (fun _ => trivial) (ObjR.back (hR.obj _ r _ h1 h2)), fun hno k => ?_⟩
      rw [fpi_oth i ob hi hno k]
      constructor
      · rintro ⟨r', h3, h4⟩
        rw [h1] at h3; cases h3
        exact h4
      · exact fun h4 => ⟨r, h1, h4⟩
    · obtain ⟨r', h1, h2⟩ := prv i _ hi
      have hr' : φ (κ (i + 1)) = some r := hr
      rw [h1] at hr'
      cases hr'
      have h3 := q1 _ _ x' h1 h2
      rw [hri] at h3
      have : fpi i = fpR (κ (i + 1)) := funext fun k => fpi_res i x' hi k
      rw [this]
      exact h3
    · obtain ⟨ob, ho⟩ := fpi_some i k hk
      exact hi ob ho
  /- the blocks that are left -/
  have outF : ∀ X r o, φ X = some r → s.t.at_ X = some o → X ≠ κ 0 → (∀ i ob, ps[i]? = some (some ob) → X ≠ κ (i + 1)) → (isRes (some o) = false → ¬ F r.b) ∧ (isRes (some o) = true → ∀ k, fpR X k → ¬ F k) := fun X r o h1 h2 h3 h4 => by
    constructor
    · intro hno hF
      rcases hF with hF | ⟨i, hF⟩
      · exact h3 (hR.inj _ _ r r0 (by rw [h2]; rfl) a0 (by rw [h2]; exact hno) n0 h1 hr0 hF)
      · obtain ⟨ob, r', g1, g2, g3, g4⟩ := key i _ hF
        rcases g4 with ⟨g4, g5⟩ | ⟨g4, g5⟩
        · exact q4 _ X r' r g2 h1 (by rw [g3, isRes_ren]; exact g4) (by rw [h2]; rfl) (by rw [h2]; exact hno) g5
        · exact h4 i ob g1 (hR.inj _ _ r r' (by rw [h2]; rfl) (by rw [g3]; rfl) (by rw [h2]; exact hno) (by rw [g3, isRes_ren]; exact g4) h1 g2 g5)
    · intro hres k hk hF
      rcases hF with rfl | ⟨i, hF⟩
      · exact q4 X _ r r0 h1 hr0 (by rw [h2]; exact hres) a0 n0 hk
      · obtain ⟨ob, r', g1, g2, g3, g4⟩ := key i _ hF
        rcases g4 with ⟨g4, g5⟩ | ⟨g4, g5⟩
        · exact h4 i ob g1 (q3 X _ r r' k h1 g2 (by rw [h2]; exact hres) (by rw [g3, isRes_ren]; exact g4) hk g5)
        · subst g5
          exact q4 X _ r r' h1 g2 (by rw [h2]; exact hres) (by rw [g3]; rfl) (by rw [g3, isRes_ren]; exact g4) hk
  refine ⟨hR.frame, hR.glob, hR.fresh, hR.bound, fun X r' o hX hX' => ?_, fun X X' r1 r2 h1 h2 h3 h4 h5 h6 h7 => ?_, fun X => if X = κ 0 then F else fpR X, fun X r' y hX hX' => ?_, fun X r' k hX hX' hk => ?_, fun X X' r1 r2 k h1 h2 h3 h4 h5 h6 => ?_, fun X X' r1 r2 h1 h2 h3 h4 h5 h6 => ?_⟩
  · rcases ht X o hX' with ⟨rfl, rfl⟩ | ⟨g1, g2, g3⟩
    · exact .res x
    · exact hR.obj X r' o hX g3
  · obtain ⟨o1, e1⟩ := Option.isSome_iff_exists.1 h1
    obtain ⟨o2, e2⟩ := Option.isSome_iff_exists.1 h2
    simp only [e1] at h3
    simp only [e2] at h4
    rcases ht X o1 e1 with ⟨rfl, rfl⟩ | ⟨g1, g2, g3⟩
    · cases h3
    · rcases ht X' o2 e2 with ⟨rfl, rfl⟩ | ⟨k1, k2, k3⟩
      · cases h4
      · exact hR.inj X X' r1 r2 (by rw [g3]; rfl) (by rw [k3]; rfl) (by rw [g3]; exact h3) (by rw [k3]; exact h4) h5 h6 h7
  · rcases ht X _ hX' with ⟨rfl, g0⟩ | ⟨g1, g2, g3⟩
    · cases g0
      rw [hr0] at hX; cases hX
      rw [if_pos rfl, hri]
      exact hRI
    · rw [if_neg g1]
      exact q1 X r' y hX g3
  · obtain ⟨x', hx'⟩ := res_at hX'
    rcases ht X _ hx' with ⟨rfl, g0⟩ | ⟨g1, g2, g3⟩
    · rw [if_pos rfl] at hk
      exact ownF k hk
    · rw [if_neg g1] at hk
      exact q2 X r' k hX (by rw [g3]; rfl) hk
  · obtain ⟨x1, e1⟩ := res_at h3
    obtain ⟨x2, e2⟩ := res_at h4
    rcases ht X _ e1 with ⟨rfl, g0⟩ | ⟨g1, g2, g3⟩ <;> rcases ht X' _ e2 with ⟨rfl, k0⟩ | ⟨k1, k2, k3⟩
    · rfl
    · rw [if_pos rfl] at h5
      rw [if_neg k1] at h6
      exact absurd h5 ((outF X' r2 _ h2 k3 k1 k2).2 rfl k h6)
    · rw [if_neg g1] at h5
      rw [if_pos rfl] at h6
      exact absurd h6 ((outF X r1 _ h1 g3 g1 g2).2 rfl k h5)
    · rw [if_neg g1] at h5
      rw [if_neg k1] at h6
      exact q3 X X' r1 r2 k h1 h2 (by rw [g3]; rfl) (by rw [k3]; rfl) h5 h6
  · obtain ⟨x1, e1⟩ := res_at h3
    obtain ⟨o2, e2⟩ := Option.isSome_iff_exists.1 h4
    simp only [e2] at h5
    rcases ht X' _ e2 with ⟨rfl, rfl⟩ | ⟨k1, k2, k3⟩
    · cases h5
    · rcases ht X _ e1 with ⟨rfl, g0⟩ | ⟨g1, g2, g3⟩
      · rw [if_pos rfl] at h6
        exact (outF X' r2 _ h2 k3 k1 k2).1 h5 h6
      · rw [if_neg g1] at h6
        exact q4 X X' r1 r2 h1 h2 (by rw [g3]; rfl) (by rw [k3]; rfl) (by rw [k3]; exact h5) h6
/-- Blocks numbered anew. -/
theorem Rw.renum (hri : W0.ri = fun x _ w b F => RI P ν L x w b F) (hR : Rw P G W0 ν φ s w) (inv src : Nat → Nat) (t : Tr AObj) (n : Nat) (hg : ∀ g, g < G → inv g = g) (hfr : ∀ X, n ≤ X → φ (inv X) = none)
    (hobj : ∀ X o, t.at_ X = some o → (φ (inv X)).isSome → s.t.at_ (src X) = some (renO inv o) ∧ ∀ r, φ (inv X) = some r → φ (src X) = some r)
    (hinj : ∀ X X', (t.at_ X).isSome = true → (t.at_ X').isSome = true → (φ (inv X)).isSome → (φ (inv X')).isSome → src X = src X' → X = X') : Rw P G W0 ν (fun X => φ (inv X)) ⟨t, n⟩ w := by
  obtain ⟨fp, q1, q2, q3, q4⟩ := hR.res
  have hφ : ∀ X r, φ (inv X) = some r → ∀ o, t.at_ X = some o → s.t.at_ (src X) = some (renO inv o) ∧ φ (src X) = some r := fun X r h o ho => by
    obtain ⟨h3, h5⟩ := hobj X o ho (by rw [h]; rfl)
    exact ⟨h3, h5 r h⟩
  have hsr : ∀ X o, isRes (some o) = true → s.t.at_ (src X) = some (renO inv o) → isRes (s.t.at_ (src X)) = true := fun X o h h' => by rw [h', isRes_ren]; exact h
  refine ⟨hR.frame, fun g hg' => ?_, fun X hX => hfr X hX, fun X r h => hR.bound _ r h, fun X r o h ho => ?_, fun X X' r1 r2 h1 h2 h3 h4 h5 h6 h7 => ?_, fun X => fp (src X), fun X r y h ho => ?_, fun X r k h ho hk => ?_, fun X X' r1 r2 k h1 h2 h3 h4 h5 h6 => ?_, fun X X' r1 r2 h1 h2 h3 h4 h5 h6 => ?_⟩
  · obtain ⟨r, h1, h2⟩ := hR.glob g hg'
    exact ⟨r, by show φ (inv g) = some r; rw [hg g hg']; exact h1, h2⟩
  · obtain ⟨h3, h5⟩ := hφ X r h o ho
    exact ObjR.back (hR.obj _ r _ h5 h3)
  · obtain ⟨o1, e1⟩ := Option.isSome_iff_exists.1 h1
    obtain ⟨o2, e2⟩ := Option.isSome_iff_exists.1 h2
    simp only [e1] at h3
    simp only [e2] at h4
    obtain ⟨p3, p4⟩ := hφ X r1 h5 o1 e1
    obtain ⟨k3, k4⟩ := hφ X' r2 h6 o2 e2
    refine hinj X X' h1 h2 (by rw [h5]; rfl) (by rw [h6]; rfl) ?_
    exact hR.inj _ _ r1 r2 (by rw [p3]; rfl) (by rw [k3]; rfl) (by rw [p3, isRes_ren]; exact h3) (by rw [k3, isRes_ren]; exact h4) p4 k4 h7
  · obtain ⟨h3, h5⟩ := hφ X r h _ ho
    have h7 := q1 _ r y h5 h3
    rw [hri] at h7 ⊢
    exact h7
  · obtain ⟨x, hx⟩ := res_at ho
    obtain ⟨h3, h5⟩ := hφ X r h _ hx
    exact q2 _ r k h5 (hsr X _ rfl h3) hk
  · obtain ⟨x1, e1⟩ := res_at h3
    obtain ⟨x2, e2⟩ := res_at h4
    obtain ⟨p3, p5⟩ := hφ X r1 h1 _ e1
    obtain ⟨k3, k5⟩ := hφ X' r2 h2 _ e2
    exact hinj X X' (by simp only [e1]; rfl) (by simp only [e2]; rfl) (by rw [h1]; rfl) (by rw [h2]; rfl) (q3 _ _ r1 r2 k p5 k5 (hsr X _ rfl p3) (hsr X' _ rfl k3) h5 h6)
  · obtain ⟨x1, e1⟩ := res_at h3
    obtain ⟨o2, e2⟩ := Option.isSome_iff_exists.1 h4
    simp only [e2] at h5
    obtain ⟨p3, p5⟩ := hφ X r1 h1 _ e1
    obtain ⟨k3, k5⟩ := hφ X' r2 h2 _ e2
    exact q4 _ _ r1 r2 p5 k5 (hsr X _ rfl p3) (by rw [k3]; rfl) (by rw [k3, isRes_ren]; exact h5) h6
end
end Go.Sym
end
