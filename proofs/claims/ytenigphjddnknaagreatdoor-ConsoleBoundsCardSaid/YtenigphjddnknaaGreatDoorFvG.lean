/-
  What is said of open values, by rules. No program in sight.
-/
import Derived.Test.YtenigphjddnknaaGreatDoorFkA
set_option linter.unusedVariables false
namespace Go.Fv
open Go Go.Eva Go.RowKit Go.Mix Go.Viv

/-- A rule: two numbers, open or not, and what comes of them. -/
structure Rl where
  op : BinOp
  a : Value
  b : Value
  r : Value
/-- A rule of one number. -/
structure Ru where
  op : UnOp
  a : Value
  r : Value
/-- A number of one kind, as another. -/
structure Rc where
  s : TypeId
  d : TypeId
  a : Value
  r : Value
/-- One of two, as an open test tells. -/
structure Rp where
  c : Nat
  a : Value
  b : Value
  r : Value
/-- Any operation that looks on. -/
structure Rx where
  op : Op → Bool
  args : List Value
  r : Value
structure Rules where
  l : List Rl := []
  u : List Ru := []
  c : List Rc := []
  p : List Rp := []
  x : List Rx := []
  it : Nat → Bool := fun _ => false
def Rules.more (R Q : Rules) : Rules := ⟨Q.l ++ R.l, Q.u ++ R.u, Q.c ++ R.c, Q.p ++ R.p, Q.x ++ R.x, R.it⟩
def opE : BinOp → BinOp → Bool
  | .add, .add | .sub, .sub | .mul, .mul | .quo, .quo | .rem, .rem | .and, .and | .shr, .shr | .eql, .eql | .neq, .neq | .lss, .lss | .gtr, .gtr | .leq, .leq | .geq, .geq => true
  | _, _ => false
theorem opE_iff {a b : BinOp} (h : opE a b = true) : a = b := by
  unfold opE at h
  split at h <;> first | rfl | cases h
/-- An open value, or a plain one. -/
def tEq : Value → Value → Bool
  | .chan (some a), .chan (some b) => Nat.beq a b
  | .int k n, .int j m => k == j && n == m
  | .bool a, .bool b => a == b
  | _, _ => false
theorem tEq_iff {a b : Value} (h : tEq a b = true) : a = b := by
  unfold tEq at h
  split at h
  · rw [beq_iff h]
  · simp at h; rw [h.1, h.2]
  · simp at h; rw [h]
  · cases h
def tEqs : List Value → List Value → Bool
  | [], [] => true
  | a :: l, b :: k => tEq a b && tEqs l k
  | _, _ => false
def findR (op : BinOp) (x y : Value) : List Rl → Option Value
  | [] => none
  | r :: l => match opE r.op op && tEq r.a x && tEq r.b y with
    | true => some r.r
    | false => findR op x y l
def findU (op : UnOp) (x : Value) : List Ru → Option Value
  | [] => none
  | r :: l => match tEq r.a x && (match r.op, op with | .neg, .neg => true | .not, .not => true | _, _ => false) with
    | true => some r.r
    | false => findU op x l
def findC (s d : TypeId) (x : Value) : List Rc → Option Value
  | [] => none
  | r :: l => match Nat.beq r.s s && Nat.beq r.d d && tEq r.a x with
    | true => some r.r
    | false => findC s d x l
def findP (c : Nat) (a b : Value) : List Rp → Option Value
  | [] => none
  | r :: l => match Nat.beq r.c c && tEq r.a a && tEq r.b b with
    | true => some r.r
    | false => findP c a b l
def findX (o : Op) (vals : List Value) : List Rx → Option Value
  | [] => none
  | r :: l => match r.op o && tEqs r.args vals with
    | true => some r.r
    | false => findX o vals l
/-- The same number on both sides. -/
def sameT (it : Nat → Bool) (op : BinOp) : Value → Value → Option Value
  | .chan (some a), .chan (some b) => (match isEq op, Nat.beq a b && it a with
    | some p, true => some (.bool p)
    | _, _ => none)
  | _, _ => none
def i64B (it : Nat → Bool) : Value → Bool
  | .int .i64 _ => true
  | .chan (some k) => it k
  | _ => false
def aggT (P : Program) (it : Nat → Bool) (op : BinOp) (xt : TypeId) : Value → Value → Option Value
  | .agg ⟨l⟩, .agg ⟨k⟩ => (match isEq op, flatI P xt with
    | some p, some n => (match l.any isTok && Nat.beq l.length n && veqL l k && l.all (i64B it) with
      | true => some (.bool p)
      | false => none)
    | _, _ => none)
  | _, _ => none
def symX : Op → Bool
  | .load .. => true
  | .indexAddr .. => true
  | .slice .. => true
  | .call _ => true
  | _ => false
def syG (P : Program) (R : Rules) : Sy := fun o vals => match o, vals with
  | .binOp op xt _ _ _, [x, y] => (match isTok x || isTok y with
    | true => (match findR op x y R.l with
      | some v => some v
      | none => sameT R.it op x y)
    | false => aggT P R.it op xt x y)
  | .unOp op _ _, [x] => (match isTok x with
    | true => findU op x R.u
    | false => none)
  | .convert s d _, [x] => (match isTok x with
    | true => findC s d x R.c
    | false => none)
  | .pick _ _ _, [x, a, b] => (match x with
    | .chan (some c) => findP c a b R.p
    | _ => none)
  | o, vals => (match symX o && vals.any isTok with
    | true => findX o vals R.x
    | false => none)
theorem isTokA_of {v : Value} (h : isTok v = true) : isTokA v = true := by
  unfold isTok at h
  split at h
  · rfl
  · cases h
theorem anyA {l : List Value} (h : l.any isTok = true) : l.any isTokA = true := by
  obtain ⟨x, h1, h2⟩ := List.any_eq_true.1 h
  exact List.any_eq_true.2 ⟨x, h1, isTokA_of h2⟩
theorem symX_tok {o : Op} {vals : List Value} {v : Value} {l : List Rx} (h : (match symX o && vals.any isTok with
    | true => findX o vals l
    | false => none) = some v) : symB o vals = true := by
  split at h <;> try (cases h; done)
  rename_i hb
  simp only [Bool.and_eq_true] at hb
  have h2 := anyA hb.2
  have h1 := hb.1
  cases o <;> simp only [symX] at h1 <;> first | (cases h1; done) | exact h2
theorem syG_tok (P : Program) (R : Rules) : SyT (syG P R) := fun o vals v h => by
  unfold syG at h
  split at h
  · rename_i op xt _ _ _ x y
    split at h
    · rename_i hb
      exact anyA (l := [x, y]) (by simpa using hb)
    · unfold aggT at h
      split at h <;> try (cases h; done)
      split at h <;> try (cases h; done)
      split at h <;> try (cases h; done)
      rename_i l k _ _ _ _ _ _ hb
      simp only [Bool.and_eq_true] at hb
      simp only [symB, List.any_cons, isTokA, hb.1.1.1, Bool.true_or]
  · rename_i x
    split at h <;> try (cases h; done)
    rename_i hb
    exact anyA (l := [x]) (by simpa using hb)
  · rename_i x
    split at h <;> try (cases h; done)
    rename_i hb
    exact anyA (l := [x]) (by simpa using hb)
  · split at h <;> try (cases h; done)
    rfl
  · exact symX_tok h
/-- What a value stands for. -/
def valT (ν : Toks) : Value → Value
  | .chan (some k) => ν.v k
  | v => v
def okV : Value → Bool
  | .chan (some _) => true
  | .int _ _ => true
  | .bool _ => true
  | _ => false
/-- A rule is right. -/
def Rl.ok (ν : Toks) (r : Rl) : Prop := ∃ k n j m, valT ν r.a = .int k n ∧ valT ν r.b = .int j m ∧ (∀ t, semV (binOp r.op t (.int k n) (.int j m)) = some (valT ν r.r)) ∧ okV r.r = true
def Ru.ok (ν : Toks) (r : Ru) : Prop := semV (Op.unary r.op (valT ν r.a)) = some (valT ν r.r) ∧ okV r.r = true
def Rc.ok (P : Program) (ν : Toks) (r : Rc) : Prop := runV P (Go.convert r.s r.d (valT ν r.a)) = some (valT ν r.r) ∧ okV r.r = true
def Rp.ok (ν : Toks) (r : Rp) : Prop := ∃ b, ν.v r.c = .bool b ∧ valT ν r.r = (match b with | true => valT ν r.a | false => valT ν r.b) ∧ okV r.r = true
def Rx.ok (P : Program) (W0 : Begin) (ν : Toks) (r : Rx) : Prop := okV r.r = true ∧ ∀ (o : Oper) (ρ : Operand → Value), r.op o.op = true → o.op.operands.toList.map ρ = r.args.map (valT ν) → ∀ w, Fr W0.may W0.w w → (execOp ρ o).run P w = .ok (.value (valT ν r.r)) w
structure Rules.OK (P : Program) (W0 : Begin) (ν : Toks) (R : Rules) : Prop where
  l : ∀ r ∈ R.l, r.ok ν
  u : ∀ r ∈ R.u, r.ok ν
  c : ∀ r ∈ R.c, r.ok P ν
  p : ∀ r ∈ R.p, r.ok ν
  x : ∀ r ∈ R.x, r.ok P W0 ν
  it : ∀ k, R.it k = true → ∃ n, ν.v k = .int .i64 n
theorem Rules.OK.more {P : Program} {W0 : Begin} {ν : Toks} {R Q : Rules} (h : R.OK P W0 ν) (hl : ∀ r ∈ Q.l, r.ok ν) (hu : ∀ r ∈ Q.u, r.ok ν) (hc : ∀ r ∈ Q.c, r.ok P ν) (hp : ∀ r ∈ Q.p, r.ok ν) (hx : ∀ r ∈ Q.x, r.ok P W0 ν) : (R.more Q).OK P W0 ν := by
  refine ⟨fun r hr => ?_, fun r hr => ?_, fun r hr => ?_, fun r hr => ?_, fun r hr => ?_, h.it⟩
  · rcases List.mem_append.1 hr with hr | hr
    · exact hl r hr
    · exact h.l r hr
  · rcases List.mem_append.1 hr with hr | hr
    · exact hu r hr
    · exact h.u r hr
  · rcases List.mem_append.1 hr with hr | hr
    · exact hc r hr
    · exact h.c r hr
  · rcases List.mem_append.1 hr with hr | hr
    · exact hp r hr
    · exact h.p r hr
  · rcases List.mem_append.1 hr with hr | hr
    · exact hx r hr
    · exact h.x r hr
theorem vr_val {ν : Toks} {φ : Phi} {v : Value} (h : okV v = true) : VR ν φ v (valT ν v) := by
  cases v <;> try (cases h; done)
  · exact .bool _
  · exact .int _ _
  · rename_i r
    cases r with
    | none => cases h
    | some k => exact VR.sym k
theorem tEq_val {ν : Toks} {φ : Phi} {a x x' : Value} (h : tEq a x = true) (hv : VR ν φ x x') : x' = valT ν a := by
  have e := tEq_iff h
  subst e
  unfold tEq at h
  split at h
  · cases hv; rfl
  · cases hv; rfl
  · cases hv; rfl
  · cases h
theorem tEqs_val {ν : Toks} {φ : Phi} : ∀ {a l l' : List Value}, tEqs a l = true → VRs ν φ l l' → l' = a.map (valT ν)
  | [], [], _, _, .nil => rfl
  | a :: k, x :: l, _, h, .cons hv ht => by
    simp only [tEqs, Bool.and_eq_true] at h
    rw [List.map_cons, tEq_val h.1 hv, tEqs_val h.2 ht]
  | [], _ :: _, _, h, _ => by simp [tEqs] at h
  | _ :: _, [], _, h, _ => by simp [tEqs] at h
theorem findR_of {op : BinOp} {x y v : Value} : ∀ {l : List Rl}, findR op x y l = some v → ∃ r ∈ l, r.op = op ∧ tEq r.a x = true ∧ tEq r.b y = true ∧ r.r = v
  | [], h => by cases h
  | r :: l, h => by
    unfold findR at h
    split at h
    · rename_i hb
      simp only [Bool.and_eq_true] at hb
      cases h
      exact ⟨r, List.mem_cons_self .., opE_iff hb.1.1, hb.1.2, hb.2, rfl⟩
    · obtain ⟨q, h1, h2⟩ := findR_of h
      exact ⟨q, List.mem_cons_of_mem _ h1, h2⟩
theorem findU_of {op : UnOp} {x v : Value} : ∀ {l : List Ru}, findU op x l = some v → ∃ r ∈ l, r.op = op ∧ tEq r.a x = true ∧ r.r = v
  | [], h => by cases h
  | r :: l, h => by
    unfold findU at h
    split at h
    · rename_i hb
      simp only [Bool.and_eq_true] at hb
      cases h
      refine ⟨r, List.mem_cons_self .., ?_, hb.1, rfl⟩
      have := hb.2
      split at this
      · rename_i h1; rw [h1]
      · rename_i h1; rw [h1]
      · cases this
    · obtain ⟨q, h1, h2⟩ := findU_of h
      exact ⟨q, List.mem_cons_of_mem _ h1, h2⟩
theorem findC_of {s d : TypeId} {x v : Value} : ∀ {l : List Rc}, findC s d x l = some v → ∃ r ∈ l, r.s = s ∧ r.d = d ∧ tEq r.a x = true ∧ r.r = v
  | [], h => by cases h
  | r :: l, h => by
    unfold findC at h
    split at h
    · rename_i hb
      simp only [Bool.and_eq_true] at hb
      cases h
      exact ⟨r, List.mem_cons_self .., beq_iff hb.1.1, beq_iff hb.1.2, hb.2, rfl⟩
    · obtain ⟨q, h1, h2⟩ := findC_of h
      exact ⟨q, List.mem_cons_of_mem _ h1, h2⟩
theorem findP_of {c : Nat} {a b v : Value} : ∀ {l : List Rp}, findP c a b l = some v → ∃ r ∈ l, r.c = c ∧ tEq r.a a = true ∧ tEq r.b b = true ∧ r.r = v
  | [], h => by cases h
  | r :: l, h => by
    unfold findP at h
    split at h
    · rename_i hb
      simp only [Bool.and_eq_true] at hb
      cases h
      exact ⟨r, List.mem_cons_self .., beq_iff hb.1.1, hb.1.2, hb.2, rfl⟩
    · obtain ⟨q, h1, h2⟩ := findP_of h
      exact ⟨q, List.mem_cons_of_mem _ h1, h2⟩
theorem findX_of {o : Op} {vals : List Value} {v : Value} : ∀ {l : List Rx}, findX o vals l = some v → ∃ r ∈ l, r.op o = true ∧ tEqs r.args vals = true ∧ r.r = v
  | [], h => by cases h
  | r :: l, h => by
    unfold findX at h
    split at h
    · rename_i hb
      simp only [Bool.and_eq_true] at hb
      cases h
      exact ⟨r, List.mem_cons_self .., hb.1, hb.2, rfl⟩
    · obtain ⟨q, h1, h2⟩ := findX_of h
      exact ⟨q, List.mem_cons_of_mem _ h1, h2⟩
theorem i64s {ν : Toks} {φ : Phi} {it : Nat → Bool} (hit : ∀ k, it k = true → ∃ n, ν.v k = .int .i64 n) : ∀ {l l' m' : List Value}, l.all (i64B it) = true → VRs ν φ l l' → VRs ν φ l m' → l' = m' ∧ eqInts l' l' = some true ∧ VRs ν φ l' l'
  | [], _, _, _, .nil, .nil => ⟨rfl, rfl, .nil⟩
  | v :: l, _, _, h, .cons h1 t1, .cons h2 t2 => by
    simp only [List.all_cons, Bool.and_eq_true] at h
    obtain ⟨e, e2, e3⟩ := i64s hit h.2 t1 t2
    have hv := h.1
    unfold i64B at hv
    split at hv
    · cases h1; cases h2
      exact ⟨by rw [e], by simp [eqInts, e2], .cons (.int _ _) e3⟩
    · obtain ⟨n, hn⟩ := hit _ hv
      cases h1; cases h2
      exact ⟨by rw [e], by simp [eqInts, hn, e2], .cons (by rw [hn]; exact .int _ _) e3⟩
    · cases hv
theorem syG_ok {P : Program} {W0 : Begin} {ν : Toks} {R : Rules} (hR : R.OK P W0 ν) : SyOK P W0 ν (syG P R) := by
  intro φ o ρ ρ' v hρ h w hf
  have fin : ∀ {r : Value}, okV r = true → (execOp ρ' o).run P w = .ok (.value (valT ν r)) w → ∃ v', (execOp ρ' o).run P w = .ok (.value v') w ∧ VR ν φ r v' := fun {r} h1 h2 => ⟨_, h2, vr_val h1⟩
  have any_ : ∀ {op : Op}, o.op = op → (match symX op && (op.operands.toList.map ρ).any isTok with
      | true => findX op (op.operands.toList.map ρ) R.x
      | false => none) = some v → ∃ v', (execOp ρ' o).run P w = .ok (.value v') w ∧ VR ν φ v v' := fun {op} hop h => by
    split at h <;> try (cases h; done)
    obtain ⟨r, hr, h1, h2, h3⟩ := findX_of h
    obtain ⟨q1, q2⟩ := hR.x r hr
    subst h3
    refine fin q1 (q2 o ρ' (by rw [hop]; exact h1) ?_ w hf)
    rw [hop]
    exact tEqs_val h2 (VRs.map _ fun x _ => hρ x)
  cases hop : o.op <;> rw [hop] at h <;> try (exact any_ hop h)
  case binOp op xt x y yt =>
    have h : (match isTok (ρ x) || isTok (ρ y) with
      | true => (match findR op (ρ x) (ρ y) R.l with
        | some v => some v
        | none => sameT R.it op (ρ x) (ρ y))
      | false => aggT P R.it op xt (ρ x) (ρ y)) = some v := h
    have num : ∀ {k j : IntKind} {n m : Int} {r : Value}, ρ' x = .int k n → ρ' y = .int j m → semV (binOp op xt (.int k n) (.int j m)) = some r → (execOp ρ' o).run P w = .ok (.value r) w := fun {k j n m r} e1 e2 e3 => by
      obtain ⟨q5, _⟩ := semV_spec (ν := ν) (φ := φ) e3
      simp only [execOp, hop, e1, e2, Sem.run_bind, run_eqGuard_other (P := P) (w := w) (op := op) (t := xt) (ox := x) (oy := y) (a := .int k n) (b := .int j m) (by simp) (by simp), Result.andThen_ok, q5]
      rfl
    split at h
    · split at h
      · rename_i hfr
        cases h
        obtain ⟨r, hr, h1, h2, h3, h4⟩ := findR_of hfr
        obtain ⟨k, n, j, m, q1, q2, q3, q4⟩ := hR.l r hr
        subst h4
        exact fin q4 (num ((tEq_val h2 (hρ x)).trans q1) ((tEq_val h3 (hρ y)).trans q2) (by rw [← h1]; exact q3 xt))
      · unfold sameT at h
        split at h <;> try (cases h; done)
        rename_i a b ea eb
        split at h <;> try (cases h; done)
        rename_i p hp hb
        simp only [Bool.and_eq_true] at hb
        cases h
        have e := beq_iff hb.1
        subst e
        obtain ⟨n, hn⟩ := hR.it _ hb.2
        have h1 := hρ x
        have h2 := hρ y
        rw [ea] at h1
        rw [eb] at h2
        have e1 : ρ' x = ν.v a := by generalize ρ' x = u at h1; cases h1; rfl
        have e2 : ρ' y = ν.v a := by generalize ρ' y = u at h2; cases h2; rfl
        rw [hn] at e1 e2
        refine ⟨.bool p, num e1 e2 ?_, .bool _⟩
        cases op <;> simp only [isEq] at hp <;> cases hp
        · rw [s_eql]; simp
        · rw [s_neq]; simp
    · unfold aggT at h
      split at h <;> try (cases h; done)
      rename_i l k ea eb
      split at h <;> try (cases h; done)
      rename_i p n hp hn
      split at h <;> try (cases h; done)
      rename_i hb
      simp only [Bool.and_eq_true] at hb
      obtain ⟨⟨⟨b1, b2⟩, b3⟩, b4⟩ := hb
      cases h
      have e := veqL_spec b3
      subst e
      have h1 := hρ x
      have h2 := hρ y
      rw [ea] at h1
      rw [eb] at h2
      obtain ⟨l', e1, g1⟩ : ∃ l', ρ' x = .agg ⟨l'⟩ ∧ VRs ν φ l l' := by generalize ρ' x = u at h1; cases h1 with | agg h => exact ⟨_, rfl, h⟩
      obtain ⟨k', e2, g2⟩ : ∃ l', ρ' y = .agg ⟨l'⟩ ∧ VRs ν φ l l' := by generalize ρ' y = u at h2; cases h2 with | agg h => exact ⟨_, rfl, h⟩
      obtain ⟨e3, e4, e5⟩ := i64s hR.it b4 g1 g2
      subst e3
      have hlen : Nat.beq l'.length n = true := by rw [g1.length]; exact b2
      have ha : aggB P op xt x y l' l' = some (.bool p) := by
        unfold aggB
        rw [hp, hn, e4]
        simp only [hlen]
        cases p <;> rfl
      obtain ⟨u', q1, q2⟩ := agg_sound (P := P) (w := w) e5 e5 ha
      refine ⟨u', ?_, q2⟩
      simp only [execOp, hop, e1, e2]
      have : (do pure (.value (← (do eqGuard op xt x y (.agg ⟨l'⟩) (.agg ⟨l'⟩); binOp op xt (.agg ⟨l'⟩) (.agg ⟨l'⟩) : Sem Value))) : Sem Next).run P w = .ok (.value u') w := by
        simp only [Sem.run_bind] at q1 ⊢
        rw [q1]
        rfl
      exact this
  case unOp op t x =>
    have h : (match isTok (ρ x) with | true => findU op (ρ x) R.u | false => none) = some v := h
    split at h <;> try (cases h; done)
    obtain ⟨r, hr, h1, h2, h4⟩ := findU_of h
    obtain ⟨q3, q4⟩ := hR.u r hr
    have e1 := tEq_val h2 (hρ x)
    obtain ⟨q5, _⟩ := semV_spec (ν := ν) (φ := φ) q3
    subst h4
    refine fin q4 ?_
    rw [h1] at q5
    simp only [execOp, hop, e1, q5]
    rfl
  case convert s d x =>
    have h : (match isTok (ρ x) with | true => findC s d (ρ x) R.c | false => none) = some v := h
    split at h <;> try (cases h; done)
    obtain ⟨r, hr, h1, h1', h2, h4⟩ := findC_of h
    obtain ⟨q3, q4⟩ := hR.c r hr
    have e1 := tEq_val h2 (hρ x)
    obtain ⟨q5, _⟩ := runV_spec (ν := ν) (φ := φ) (w := w) q3
    subst h4
    refine fin q4 ?_
    rw [h1, h1'] at q5
    simp only [execOp, hop, e1, Sem.run_bind, q5, Result.andThen_ok, Sem.run_pure]
  case pick x a b =>
    have h : (match ρ x with | .chan (some c) => findP c (ρ a) (ρ b) R.p | _ => none) = some v := h
    split at h <;> try (cases h; done)
    rename_i c ec
    obtain ⟨r, hr, h1, h2, h3, h4⟩ := findP_of h
    obtain ⟨bb, q1, q2, q4⟩ := hR.p r hr
    subst h4
    have hx := hρ x
    rw [ec] at hx
    have e0 : ρ' x = .bool bb := by
      generalize ρ' x = u at hx
      cases hx
      rw [← h1]
      exact q1
    have e1 := tEq_val h2 (hρ a)
    have e2 := tEq_val h3 (hρ b)
    refine fin q4 ?_
    rw [q2, ← e1, ← e2]
    cases bb <;> simp [execOp, hop, e0, asBool]
end Go.Fv
