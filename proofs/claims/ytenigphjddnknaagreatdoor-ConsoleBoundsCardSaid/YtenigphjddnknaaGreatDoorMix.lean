/-
  A region that draws its order, walked once by a list of its operations: what only reads is taken as soon as it may come up; what is left comes up in one order alone. No program in sight.
-/
import Derived.OrdersHeld
import Derived.Lib.QuietBelow
import Derived.BigQuiet
import Derived.KernelRfl
namespace Go.Mix
open Go

/-- Operations that yield a value, and are no call of a function. -/
def valueOp (o : Oper) : Bool :=
  match o.op with
  | .move _ | .assign _ | .pick .. | .load .. | .build .. | .binOp .. | .unOp .. | .convert .. | .fieldAddr .. | .field .. | .indexAddr .. | .index .. | .extract .. | .slice .. | .lookup .. | .makeInterface .. => true
  | .call { callee := .builtin .len, .. } | .call { callee := .builtin .cap, .. } | .call { callee := .builtin .min, .. } | .call { callee := .builtin .max, .. } => true
  | _ => false

theorem valueOp_spec {o : Oper} (h : valueOp o = true) (ρ : Operand → Value) : ∃ s : Sem Value, execOp ρ o = Sem.bind s (fun v => .pure (.value v)) := by
  obtain ⟨dst, op, type, pos, after, guard⟩ := o
  cases op <;> simp only [valueOp, Bool.false_eq_true] at h
  case move x => exact ⟨.pure (ρ x), rfl⟩
  case assign x => exact ⟨.pure (ρ x), rfl⟩
  case pick c a b =>
    refine ⟨(asBool (ρ c)).bind fun t => .pure (if t then ρ a else ρ b), ?_⟩
    show Sem.bind (asBool (ρ c)) (fun t => Sem.pure (Next.value (if t = true then ρ a else ρ b))) = _
    generalize ρ c = vc
    cases vc <;> rfl
  case call c =>
    obtain ⟨callee, args, argTypes⟩ := c
    cases callee with
    | builtin b => cases b <;> simp at h <;> exact ⟨_, rfl⟩
    | _ => simp at h
  all_goals exact ⟨_, rfl⟩

theorem run_bind_value (P : Program) (s : Sem Value) (w : World) : (Sem.bind s (fun v => .pure (.value v)) : Sem Next).run P w = (s.run P w).andThen (fun v w' => .ok (.value v) w') := by
  have := Sem.run_bind P w s (fun v => (Sem.pure (.value v) : Sem Next))
  exact this

section
variable {P : Program} {ops : Array Oper} {Q : Exit → Act → World → Prop} {md : Region.Mode} {S : World → Prop}

/-- What is asked behind an operation that is carried out. -/
structure Behind (S : World → Prop) (K : Act → World → Prop) (e : Exit) (a : Act) (w : World) : Prop where
  normal : e = .normal
  keeps : S w
  next : K a w

/-- The walk, by a list of numbers: true: it only reads. -/
def wpMix (P : Program) (ops : Array Oper) (Q : Exit → Act → World → Prop) (S : World → Prop) : List (Nat × Bool) → Act → World → Prop
  | [], a, w => Q .normal a w
  | (i, true) :: rest, a, w => match ops[i]? with
    | some o => valueOp o = true ∧ wpQuiet P ops S (fun a' => wpMix P ops Q S rest a' w) [o] a
    | none => False
  | (i, false) :: rest, a, w => match ops[i]? with
    | some o => wpList P ops (Behind S (wpMix P ops Q S rest)) [o] a w
    | none => False

/-- Whether the list may serve. -/
def orderB (md : Region.Mode) (ops : Array Oper) : List (Nat × Bool) → Array Bool → Bool
  | [], listed => (Region.ready md ops listed).isEmpty
  | (i, true) :: rest, listed => (Region.ready md ops listed).contains i && Region.free md ops listed i && orderB md ops rest (listed.setIfInBounds i true)
  | (i, false) :: rest, listed => decide (Region.ready md ops listed = [i]) && orderB md ops rest (listed.setIfInBounds i true)

theorem yields_of_quiet {o : Oper} {a : Act} {v : Value} (hv : valueOp o = true) (hw : Region.wanted o (yielded ops a.tmps) = true) (h : ∀ w, S w → o.quietAt P a S w v) : YieldsIf P ops S o v a := by
  refine .inl ⟨hw, fun w hS => ?_⟩
  have h1 := h w hS
  obtain ⟨s, hs⟩ := valueOp_spec hv a.eval
  unfold Oper.quietAt at h1
  rw [hs, run_bind_value] at h1 ⊢
  cases hr : s.run P w with
  | ok x w' =>
    rw [hr] at h1
    simp only [Result.andThen_ok, Oper.quietUpon] at h1
    simp only [Result.andThen_ok, h1.1, h1.2]
  | halt x w' =>
    rw [hr] at h1
    simp only [Result.andThen, Oper.quietUpon] at h1

theorem upon_mono {o : Oper} {a : Act} {K K' : Act → World → Prop} {Q' : Exit → Act → World → Prop} (hk : ∀ a w, K a w → K' a w) (hp : ∀ c a w, ¬ Q' (.panic c) a w) (ho : ¬ LetsOut Q') {r : Result Next} (h : o.upon P a K Q' r) : o.upon P a K' Q r := by
  cases r with
  | ok n w' =>
    cases n <;> simp only [Oper.upon] at h ⊢ <;>
      first
        | exact hk _ _ h
        | exact Calls.mono h (fun e w'' he => by
            cases e with
            | returned v => exact hk _ _ he
            | panicked c => exact absurd he (hp _ _ _)
            | outgrown => exact absurd he ho)
        | exact Rows.mono h (fun _ _ he => hk _ _ he)
  | halt x w' =>
    cases x <;> simp only [Oper.upon] at h ⊢
    case panic v => exact absurd h (hp _ _ _)

theorem wpAnyH_of_mix (hs : Region.noSelect ops = true) (hQ : ∀ c d v a w, Q (.panic c) (Act.put a d v) w → Q (.panic c) a w) : ∀ (l : List (Nat × Bool)) (listed : Array Bool) (a : Act) (w : World), orderB md ops l listed = true → S w → wpMix P ops Q S l a w → wpAnyH P md ops Q S l.length listed a w
  | [], listed, a, w, hB, _, h => ⟨by simpa [orderB] using hB, h⟩
  | (i, true) :: rest, listed, a, w, hB, hS, h => by
    simp only [orderB, Bool.and_eq_true] at hB
    simp only [wpMix] at h
    cases ho : ops[i]? with
    | none => rw [ho] at h; exact h.elim
    | some o =>
      rw [ho] at h
      obtain ⟨hv, h⟩ := h
      simp only [wpQuiet] at h
      by_cases hw : Region.wanted o (yielded ops a.tmps) = true
      · rw [if_pos hw] at h
        obtain ⟨v, h1, h2⟩ := h
        exact wpAnyH_take ho hs hB.1.2 hB.1.1 (fun c a w => hQ c _ _ a w) (yields_of_quiet hv hw h1) hS (wpAnyH_of_mix hs hQ rest _ _ w hB.2 hS h2)
      · rw [if_neg hw] at h
        exact wpAnyH_take ho hs hB.1.2 hB.1.1 (fun c a w => hQ c _ _ a w) (v := undef) (.inr ⟨by simpa using hw, rfl⟩) hS (wpAnyH_of_mix hs hQ rest _ _ w hB.2 hS h)
  | (i, false) :: rest, listed, a, w, hB, hS, h => by
    simp only [orderB, Bool.and_eq_true, decide_eq_true_eq] at hB
    simp only [wpMix] at h
    cases ho : ops[i]? with
    | none => rw [ho] at h; exact h.elim
    | some o =>
      rw [ho] at h
      simp only [wpList] at h
      refine wpAnyH_all hB.1 (by simp) (fun j hj => ?_)
      obtain rfl : j = i := by simpa using hj
      have nolet : ¬ LetsOut (Behind S (wpMix P ops Q S rest)) := by
        rintro ⟨a0, w0, hb⟩
        exact absurd hb.normal (by simp)
      unfold wpOp
      simp only [ho]
      by_cases hw : Region.wanted o (yielded ops a.tmps) = true
      · rw [if_pos hw] at h ⊢
        rcases h with h | ⟨_, h⟩
        · refine .inl (upon_mono (fun a' w' hb => ⟨hb.keeps, wpAnyH_of_mix hs hQ rest _ a' w' hB.2 hb.keeps hb.next⟩) (fun c a' w' hb => ?_) nolet h)
          exact absurd hb.normal (by simp)
        · exact absurd h nolet
      · rw [if_neg hw] at h ⊢
        exact ⟨h.keeps, wpAnyH_of_mix hs hQ rest _ _ w hB.2 h.keeps h.next⟩

/-- The class of worlds that are w with blocks laid behind. -/
def Reg (w : World) (w' : World) : Prop := ∃ p : Regrown, w' = Go.Sort.grow (redrawn w p.d) p.os

/-- THE REGION. -/
theorem wp_region_mix {id : Nat} {a : Act} {w : World} (order : List (Nat × Bool)) (hm : P.follows .mixedOrders = true) (hB : (Region.noSelect ops && (order.length == ops.size) && orderB .any ops order (Array.replicate ops.size false)) = true)
    (hQ : ∀ c d v a w, Q (.panic c) (Act.put a d v) w → Q (.panic c) a w)
    (h : wpMix P ops Q (fun w' => ∃ p : Regrown, w' = Go.Sort.grow (redrawn w p.d) p.os) order a w.drew) : (Code.region id ops true).wp P Q a w := by
  simp only [Bool.and_eq_true, beq_iff_eq] at hB
  have h1 := wpAnyH_of_mix (md := .any) hB.1.1 hQ order (Array.replicate ops.size false) a w.drew hB.2 ⟨⟨w.drawn + 1, #[]⟩, by rw [Go.Sort.grow_empty]; rfl⟩ h
  rw [hB.1.2] at h1
  exact wp_region_held hm h1

/-- THE REGION, over whatever class of worlds. -/
theorem wp_region_mixS {id : Nat} {a : Act} {w : World} (order : List (Nat × Bool)) (hm : P.follows .mixedOrders = true) (hB : (Region.noSelect ops && (order.length == ops.size) && orderB .any ops order (Array.replicate ops.size false)) = true)
    (hQ : ∀ c d v a w, Q (.panic c) (Act.put a d v) w → Q (.panic c) a w) (hS : S w.drew)
    (h : wpMix P ops Q S order a w.drew) : (Code.region id ops true).wp P Q a w := by
  simp only [Bool.and_eq_true, beq_iff_eq] at hB
  have h1 := wpAnyH_of_mix (md := .any) hB.1.1 hQ order (Array.replicate ops.size false) a w.drew hB.2 hS h
  rw [hB.1.2] at h1
  exact wp_region_held hm h1

theorem mix_read {i : Nat} {o : Oper} {rest : List (Nat × Bool)} {a : Act} {w : World} (ho : ops[i]? = some o) (hv : valueOp o = true) (h : wpQuiet P ops S (fun a' => wpMix P ops Q S rest a' w) [o] a) : wpMix P ops Q S ((i, true) :: rest) a w := by
  simp only [wpMix, ho]
  exact ⟨hv, h⟩
theorem mix_does {i : Nat} {o : Oper} {rest : List (Nat × Bool)} {a : Act} {w : World} (ho : ops[i]? = some o) (h : wpList P ops (Behind S (wpMix P ops Q S rest)) [o] a w) : wpMix P ops Q S ((i, false) :: rest) a w := by
  simp only [wpMix, ho]
  exact h
theorem mix_nil {a : Act} {w : World} (h : Q .normal a w) : wpMix P ops Q S [] a w := h
/-- A walk of a region where now and then two operations may come up. -/
inductive Tr where
  | nil : Tr
  | read (i : Nat) (t : Tr) : Tr
  | one (i : Nat) (t : Tr) : Tr
  | two (i : Nat) (t : Tr) (j : Nat) (s : Tr) : Tr
def Tr.len : Tr → Nat
  | .nil => 0
  | .read _ t => t.len + 1
  | .one _ t => t.len + 1
  | .two _ t _ _ => t.len + 1
/-- The first steps of a walk by a list, then by a tree. -/
def Tr.of : List (Nat × Bool) → Tr → Tr
  | [], t => t
  | (i, true) :: r, t => .read i (Tr.of r t)
  | (i, false) :: r, t => .one i (Tr.of r t)
def wpTr (P : Program) (ops : Array Oper) (Q : Exit → Act → World → Prop) (S : World → Prop) : Tr → Act → World → Prop
  | .nil, a, w => Q .normal a w
  | .read i t, a, w => match ops[i]? with
    | some o => valueOp o = true ∧ wpQuiet P ops S (fun a' => wpTr P ops Q S t a' w) [o] a
    | none => False
  | .one i t, a, w => match ops[i]? with
    | some o => wpList P ops (Behind S (wpTr P ops Q S t)) [o] a w
    | none => False
  | .two i t j s, a, w => (match ops[i]? with
    | some o => wpList P ops (Behind S (wpTr P ops Q S t)) [o] a w
    | none => False) ∧ (match ops[j]? with
    | some o => wpList P ops (Behind S (wpTr P ops Q S s)) [o] a w
    | none => False)
def orderT (md : Region.Mode) (ops : Array Oper) : Tr → Array Bool → Bool
  | .nil, listed => (Region.ready md ops listed).isEmpty
  | .read i t, listed => (Region.ready md ops listed).contains i && Region.free md ops listed i && orderT md ops t (listed.setIfInBounds i true)
  | .one i t, listed => decide (Region.ready md ops listed = [i]) && orderT md ops t (listed.setIfInBounds i true)
  | .two i t j s, listed => decide (Region.ready md ops listed = [i, j]) && (t.len == s.len) && orderT md ops t (listed.setIfInBounds i true) && orderT md ops s (listed.setIfInBounds j true)
theorem wpOp_of_list {i : Nat} {o : Oper} {a : Act} {w : World} {K : Act → World → Prop} {K' : Act → World → Prop} (hK : ∀ a w, K a w → S w → K' a w) (ho : ops[i]? = some o) (h : wpList P ops (Behind S K) [o] a w) : wpOp P ops Q i K' a w := by
  simp only [wpList] at h
  have nolet : ¬ LetsOut (Behind S K) := by
    rintro ⟨a0, w0, hb⟩
    exact absurd hb.normal (by simp)
  unfold wpOp
  simp only [ho]
  by_cases hw : Region.wanted o (yielded ops a.tmps) = true
  · rw [if_pos hw] at h ⊢
    rcases h with h | ⟨_, h⟩
    · exact .inl (upon_mono (fun a' w' hb => hK a' w' hb.next hb.keeps) (fun c a' w' hb => absurd hb.normal (by simp)) nolet h)
    · exact absurd h nolet
  · rw [if_neg hw] at h ⊢
    exact hK _ _ h.next h.keeps
theorem wpAnyH_of_tr (hs : Region.noSelect ops = true) (hQ : ∀ c d v a w, Q (.panic c) (Act.put a d v) w → Q (.panic c) a w) : ∀ (l : Tr) (listed : Array Bool) (a : Act) (w : World), orderT md ops l listed = true → S w → wpTr P ops Q S l a w → wpAnyH P md ops Q S l.len listed a w
  | .nil, listed, a, w, hB, _, h => ⟨by simpa [orderT] using hB, h⟩
  | .read i rest, listed, a, w, hB, hS, h => by
    simp only [orderT, Bool.and_eq_true] at hB
    simp only [wpTr] at h
    cases ho : ops[i]? with
    | none => rw [ho] at h; exact h.elim
    | some o =>
      rw [ho] at h
      obtain ⟨hv, h⟩ := h
      simp only [wpQuiet] at h
      by_cases hw : Region.wanted o (yielded ops a.tmps) = true
      · rw [if_pos hw] at h
        obtain ⟨v, h1, h2⟩ := h
        exact wpAnyH_take ho hs hB.1.2 hB.1.1 (fun c a w => hQ c _ _ a w) (yields_of_quiet hv hw h1) hS (wpAnyH_of_tr hs hQ rest _ _ w hB.2 hS h2)
      · rw [if_neg hw] at h
        exact wpAnyH_take ho hs hB.1.2 hB.1.1 (fun c a w => hQ c _ _ a w) (v := undef) (.inr ⟨by simpa using hw, rfl⟩) hS (wpAnyH_of_tr hs hQ rest _ _ w hB.2 hS h)
  | .one i rest, listed, a, w, hB, hS, h => by
    simp only [orderT, Bool.and_eq_true, decide_eq_true_eq] at hB
    simp only [wpTr] at h
    cases ho : ops[i]? with
    | none => rw [ho] at h; exact h.elim
    | some o =>
      rw [ho] at h
      refine wpAnyH_all hB.1 (by simp) (fun j hj => ?_)
      obtain rfl : j = i := by simpa using hj
      exact wpOp_of_list (fun a' w' hk hs' => ⟨hs', wpAnyH_of_tr hs hQ rest _ a' w' hB.2 hs' hk⟩) ho h
  | .two i t k s, listed, a, w, hB, hS, h => by
    simp only [orderT, Bool.and_eq_true, decide_eq_true_eq, beq_iff_eq] at hB
    simp only [wpTr] at h
    refine wpAnyH_all hB.1.1.1 (by simp) (fun j hj => ?_)
    rcases List.mem_cons.1 hj with rfl | hj
    · cases ho : ops[j]? with
      | none => rw [ho] at h; exact h.1.elim
      | some o =>
        rw [ho] at h
        exact wpOp_of_list (fun a' w' hk hs' => ⟨hs', wpAnyH_of_tr hs hQ t _ a' w' hB.1.2 hs' hk⟩) ho h.1
    · obtain rfl : j = k := by simpa using hj
      cases ho : ops[j]? with
      | none => rw [ho] at h; exact h.2.elim
      | some o =>
        rw [ho] at h
        exact wpOp_of_list (fun a' w' hk hs' => ⟨hs', by rw [hB.1.1.2]; exact wpAnyH_of_tr hs hQ s _ a' w' hB.2 hs' hk⟩) ho h.2
/-- THE REGION, by a tree, over whatever class of worlds. -/
theorem wp_region_tr {id : Nat} {a : Act} {w : World} (tr : Tr) (hm : P.follows .mixedOrders = true) (hB : (Region.noSelect ops && (tr.len == ops.size) && orderT .any ops tr (Array.replicate ops.size false)) = true)
    (hQ : ∀ c d v a w, Q (.panic c) (Act.put a d v) w → Q (.panic c) a w) (hS : S w.drew)
    (h : wpTr P ops Q S tr a w.drew) : (Code.region id ops true).wp P Q a w := by
  simp only [Bool.and_eq_true, beq_iff_eq] at hB
  have h1 := wpAnyH_of_tr (md := .any) hB.1.1 hQ tr (Array.replicate ops.size false) a w.drew hB.2 hS h
  rw [hB.1.2] at h1
  exact wp_region_held hm h1
theorem tr_read {i : Nat} {o : Oper} {rest : Tr} {a : Act} {w : World} (ho : ops[i]? = some o) (hv : valueOp o = true) (h : wpQuiet P ops S (fun a' => wpTr P ops Q S rest a' w) [o] a) : wpTr P ops Q S (.read i rest) a w := by
  simp only [wpTr, ho]
  exact ⟨hv, h⟩
theorem tr_does {i : Nat} {o : Oper} {rest : Tr} {a : Act} {w : World} (ho : ops[i]? = some o) (h : wpList P ops (Behind S (wpTr P ops Q S rest)) [o] a w) : wpTr P ops Q S (.one i rest) a w := by
  simp only [wpTr, ho]
  exact h
theorem tr_two {i j : Nat} {o o' : Oper} {t s : Tr} {a : Act} {w : World} (ho : ops[i]? = some o) (ho' : ops[j]? = some o') (h : wpList P ops (Behind S (wpTr P ops Q S t)) [o] a w) (h' : wpList P ops (Behind S (wpTr P ops Q S s)) [o'] a w) : wpTr P ops Q S (.two i t j s) a w := by
  simp only [wpTr, ho, ho']
  exact ⟨h, h'⟩
theorem tr_nil {a : Act} {w : World} (h : Q .normal a w) : wpTr P ops Q S .nil a w := h
end
end Go.Mix
