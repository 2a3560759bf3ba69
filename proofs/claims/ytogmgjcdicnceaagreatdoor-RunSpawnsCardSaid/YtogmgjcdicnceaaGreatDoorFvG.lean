/-
  What is said of open numbers, by rules; closed laws by the fast run. No program in sight.
-/
import Derived.Test.YtogmgjcdicnceaaGreatDoorFvE
set_option linter.unusedVariables false
namespace Go.Fv
open Go Go.Eva Go.RowKit Go.Mix Go.Viv

/-- A rule: two numbers, open or not, and what comes of them. -/
structure Rl where
  op : BinOp
  a : Value
  b : Value
  r : Value
/-- A rule of one number. -/
structure Ru where
  op : UnOp
  a : Value
  r : Value
def opE : BinOp → BinOp → Bool
  | .add, .add | .sub, .sub | .mul, .mul | .quo, .quo | .rem, .rem | .and, .and | .shr, .shr | .eql, .eql | .neq, .neq | .lss, .lss | .gtr, .gtr | .leq, .leq | .geq, .geq => true
  | _, _ => false
theorem opE_iff {a b : BinOp} (h : opE a b = true) : a = b := by
  unfold opE at h
  split at h <;> first | rfl | cases h
/-- An open number, or a plain one. -/
def tEq : Value → Value → Bool
  | .chan (some a), .chan (some b) => Nat.beq a b
  | .int k n, .int j m => k == j && n == m
  | _, _ => false
theorem tEq_iff {a b : Value} (h : tEq a b = true) : a = b := by
  unfold tEq at h
  split at h
  · rw [beq_iff h]
  · simp at h; rw [h.1, h.2]
  · cases h
def findR (op : BinOp) (x y : Value) : List Rl → Option Value
  | [] => none
  | r :: l => match opE r.op op && tEq r.a x && tEq r.b y with
    | true => some r.r
    | false => findR op x y l
def findU (op : UnOp) (x : Value) : List Ru → Option Value
  | [] => none
  | r :: l => match tEq r.a x && (match r.op, op with | .neg, .neg => true | _, _ => false) with
    | true => some r.r
    | false => findU op x l
def syR (l : List Rl) (u : List Ru) : Sy := fun o vals => match o, vals with
  | .binOp op _ _ _ _, [x, y] => (match isTok x || isTok y with
    | true => findR op x y l
    | false => none)
  | .unOp op _ _, [x] => (match isTok x with
    | true => findU op x u
    | false => none)
  | _, _ => none
theorem syR_tok (l : List Rl) (u : List Ru) : SyT (syR l u) := fun o vals v h => by
  unfold syR at h
  split at h
  · split at h <;> try (cases h; done)
    rename_i hb
    exact ⟨rfl, by simpa using hb⟩
  · split at h <;> try (cases h; done)
    rename_i hb
    exact ⟨rfl, by simpa using hb⟩
  · cases h
/-- What a value stands for. -/
def valT (ν : Nat → Int) : Value → Value
  | .chan (some k) => .int .i64 (ν k)
  | v => v
def okV : Value → Bool
  | .chan (some _) => true
  | .int _ _ => true
  | .bool _ => true
  | _ => false
/-- A rule is right. -/
def Rl.ok (ν : Nat → Int) (r : Rl) : Prop := ∃ n m, valT ν r.a = .int .i64 n ∧ valT ν r.b = .int .i64 m ∧ (∀ t, semV (binOp r.op t (.int .i64 n) (.int .i64 m)) = some (valT ν r.r)) ∧ okV r.r = true
def Ru.ok (ν : Nat → Int) (r : Ru) : Prop := ∃ n, valT ν r.a = .int .i64 n ∧ semV (Op.unary r.op (.int .i64 n)) = some (valT ν r.r) ∧ okV r.r = true
def toks (ν : Nat → Int) : Toks := ⟨fun k => .int .i64 (ν k), fun _ => rfl⟩
theorem vr_val {ν : Nat → Int} {φ : Phi} {v : Value} (h : okV v = true) : VR (toks ν) φ v (valT ν v) := by
  cases v <;> try (cases h; done)
  · exact .bool _
  · exact .int _ _
  · rename_i r
    cases r with
    | none => cases h
    | some k => exact VR.sym (ν := toks ν) k
theorem tEq_val {ν : Nat → Int} {φ : Phi} {a x x' : Value} (h : tEq a x = true) (hv : VR (toks ν) φ x x') : a = x ∧ x' = valT ν a := by
  have e := tEq_iff h
  subst e
  refine ⟨rfl, ?_⟩
  unfold tEq at h
  split at h
  · cases hv; rfl
  · cases hv; rfl
  · cases h
theorem findR_of {op : BinOp} {x y v : Value} : ∀ {l : List Rl}, findR op x y l = some v → ∃ r ∈ l, r.op = op ∧ tEq r.a x = true ∧ tEq r.b y = true ∧ r.r = v
  | [], h => by cases h
  | r :: l, h => by
    unfold findR at h
    split at h
    · rename_i hb
      simp only [Bool.and_eq_true] at hb
      cases h
      exact ⟨r, List.mem_cons_self .., opE_iff hb.1.1, hb.1.2, hb.2, rfl⟩
    · obtain ⟨q, h1, h2⟩ := findR_of h
      exact ⟨q, List.mem_cons_of_mem _ h1, h2⟩
theorem findU_of {op : UnOp} {x v : Value} : ∀ {l : List Ru}, findU op x l = some v → ∃ r ∈ l, r.op = op ∧ tEq r.a x = true ∧ r.r = v
  | [], h => by cases h
  | r :: l, h => by
    unfold findU at h
    split at h
    · rename_i hb
      simp only [Bool.and_eq_true] at hb
      cases h
      refine ⟨r, List.mem_cons_self .., ?_, hb.1, rfl⟩
      have := hb.2
      split at this
      · rename_i h1; rw [h1]
      · cases this
    · obtain ⟨q, h1, h2⟩ := findU_of h
      exact ⟨q, List.mem_cons_of_mem _ h1, h2⟩
theorem syR_ok {P : Program} {ν : Nat → Int} {l : List Rl} {u : List Ru} (hl : ∀ r ∈ l, r.ok ν) (hu : ∀ r ∈ u, r.ok ν) : SyOK P (toks ν) (syR l u) := by
  intro φ o ρ ρ' v hρ h w
  cases hop : o.op <;> rw [hop] at h <;> try (simp [syR, Op.operands] at h; done)
  case binOp op t x y yt =>
    have h : (match isTok (ρ x) || isTok (ρ y) with | true => findR op (ρ x) (ρ y) l | false => none) = some v := h
    split at h <;> try (cases h; done)
    obtain ⟨r, hr, h1, h2, h3, h4⟩ := findR_of h
    obtain ⟨n, m, q1, q2, q3, q4⟩ := hl r hr
    obtain ⟨_, e1⟩ := tEq_val h2 (hρ x)
    obtain ⟨_, e2⟩ := tEq_val h3 (hρ y)
    rw [q1] at e1
    rw [q2] at e2
    obtain ⟨q5, _⟩ := semV_spec (ν := toks ν) (φ := φ) (q3 t)
    subst h4
    refine ⟨valT ν r.r, ?_, vr_val q4⟩
    rw [h1] at q5
    simp only [execOp, hop, e1, e2, Sem.run_bind, run_eqGuard_other (P := P) (w := w) (op := op) (t := t) (ox := x) (oy := y) (a := .int .i64 n) (b := .int .i64 m) (by simp) (by simp), Result.andThen_ok, q5]
    rfl
  case unOp op t x =>
    have h : (match isTok (ρ x) with | true => findU op (ρ x) u | false => none) = some v := h
    split at h <;> try (cases h; done)
    obtain ⟨r, hr, h1, h2, h4⟩ := findU_of h
    obtain ⟨n, q1, q3, q4⟩ := hu r hr
    obtain ⟨_, e1⟩ := tEq_val h2 (hρ x)
    rw [q1] at e1
    obtain ⟨q5, _⟩ := semV_spec (ν := toks ν) (φ := φ) q3
    subst h4
    refine ⟨valT ν r.r, ?_, vr_val q4⟩
    rw [h1] at q5
    simp only [execOp, hop, e1, q5]
    rfl
end Go.Fv
