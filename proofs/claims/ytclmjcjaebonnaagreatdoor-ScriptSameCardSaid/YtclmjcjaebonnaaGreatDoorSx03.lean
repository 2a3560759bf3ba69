/-
  Several texts in one. A region that draws its order, walked once by a list of its operations: what only reads is taken as soon as it may come up; what is left comes up in one order alone. No program in sight.
-/
import Derived.OrdersHeld
import Derived.Lib.QuietBelow
import Derived.BigQuiet
import Derived.KernelRfl
import Derived.Test.YtclmjcjaebonnaaGreatDoorSx02
section
namespace Go.Mix
open Go

/-- Operations that yield a value, and are no call of a function. -/
def valueOp (o : Oper) : Bool :=
  match o.op with
  | .move _ | .assign _ | .pick .. | .load .. | .build .. | .binOp .. | .unOp .. | .convert .. | .fieldAddr .. | .field .. | .indexAddr .. | .index .. | .extract .. | .slice .. | .lookup .. | .makeInterface .. => true
  | .call { callee := .builtin .len, .. } | .call { callee := .builtin .cap, .. } | .call { callee := .builtin .min, .. } | .call { callee := .builtin .max, .. } => true
  | _ => false

theorem valueOp_spec {o : Oper} (h : valueOp o = true) (ρ : Operand → Value) : ∃ s : Sem Value, execOp ρ o = Sem.bind s (fun v => .pure (.value v)) := by
  obtain ⟨dst, op, type, pos, after, guard⟩ := o
  cases op <;> simp only [valueOp, Bool.false_eq_true] at h
  case move x => exact ⟨.pure (ρ x), rfl⟩
  case assign x => exact ⟨.pure (ρ x), rfl⟩
  case pick c a b =>
    refine ⟨(asBool (ρ c)).bind fun t => .pure (if t then ρ a else ρ b), ?_⟩
    show Sem.bind (asBool (ρ c)) (fun t => Sem.pure (Next.value (if t = true then ρ a else ρ b))) = _
    generalize ρ c = vc
    cases vc <;> rfl
  case call c =>
    obtain ⟨callee, args, argTypes⟩ := c
    cases callee with
    | builtin b => cases b <;> simp at h <;> exact ⟨_, rfl⟩
    | _ => simp at h
  all_goals exact ⟨_, rfl⟩

theorem run_bind_value (P : Program) (s : Sem Value) (w : World) : (Sem.bind s (fun v => .pure (.value v)) : Sem Next).run P w = (s.run P w).andThen (fun v w' => .ok (.value v) w') := by
  have := Sem.run_bind P w s (fun v => (Sem.pure (.value v) : Sem Next))
  exact this

section
variable {P : Program} {ops : Array Oper} {Q : Exit → Act → World → Prop} {md : Region.Mode} {S : World → Prop}

/-- What is asked behind an operation that is carried out. -/
structure Behind (S : World → Prop) (K : Act → World → Prop) (e : Exit) (a : Act) (w : World) : Prop where
  normal : e = .normal
  keeps : S w
  next : K a w

/-- The walk, by a list of numbers: true: it only reads. -/
def wpMix (P : Program) (ops : Array Oper) (Q : Exit → Act → World → Prop) (S : World → Prop) : List (Nat × Bool) → Act → World → Prop
  | [], a, w => Q .normal a w
  | (i, true) :: rest, a, w => match ops[i]? with
    | some o => valueOp o = true ∧ wpQuiet P ops S (fun a' => wpMix P ops Q S rest a' w) [o] a
    | none => False
  | (i, false) :: rest, a, w => match ops[i]? with
    | some o => wpList P ops (Behind S (wpMix P ops Q S rest)) [o] a w
    | none => False

/-- Whether the list may serve. -/
def orderB (md : Region.Mode) (ops : Array Oper) : List (Nat × Bool) → Array Bool → Bool
  | [], listed => (Region.ready md ops listed).isEmpty
  | (i, true) :: rest, listed => (Region.ready md ops listed).contains i && Region.free md ops listed i && orderB md ops rest (listed.setIfInBounds i true)
  | (i, false) :: rest, listed => decide (Region.ready md ops listed = [i]) && orderB md ops rest (listed.setIfInBounds i true)

theorem yields_of_quiet {o : Oper} {a : Act} {v : Value} (hv : valueOp o = true) (hw : Region.wanted o (yielded ops a.tmps) = true) (h : ∀ w, S w → o.quietAt P a S w v) : YieldsIf P ops S o v a := by
  refine .inl ⟨hw, fun w hS => ?_⟩
  have h1 := h w hS
  obtain ⟨s, hs⟩ := valueOp_spec hv a.eval
  unfold Oper.quietAt at h1
  rw [hs, run_bind_value] at h1 ⊢
  cases hr : s.run P w with
  | ok x w' =>
    rw [hr] at h1
    simp only [Result.andThen_ok, Oper.quietUpon] at h1
    simp only [Result.andThen_ok, h1.1, h1.2]
  | halt x w' =>
    rw [hr] at h1
    simp only [Result.andThen, Oper.quietUpon] at h1

theorem upon_mono {o : Oper} {a : Act} {K K' : Act → World → Prop} {Q' : Exit → Act → World → Prop} (hk : ∀ a w, K a w → K' a w) (hp : ∀ c a w, ¬ Q' (.panic c) a w) (ho : ¬ LetsOut Q') {r : Result Next} (h : o.upon P a K Q' r) : o.upon P a K' Q r := by
  cases r with
  | ok n w' =>
    cases n <;> simp only [Oper.upon] at h ⊢ <;>
      first
        | exact hk _ _ h
        | exact Calls.mono h (fun e w'' he => by
            cases e with
            | returned v => exact hk _ _ he
            | panicked c => exact absurd he (hp _ _ _)
            | outgrown => exact absurd he ho)
        | exact Rows.mono h (fun _ _ he => hk _ _ he)
  | halt x w' =>
    cases x <;> simp only [Oper.upon] at h ⊢
    case panic v => exact absurd h (hp _ _ _)

theorem wpAnyH_of_mix (hs : Region.noSelect ops = true) (hQ : ∀ c d v a w, Q (.panic c) (Act.put a d v) w → Q (.panic c) a w) : ∀ (l : List (Nat × Bool)) (listed : Array Bool) (a : Act) (w : World), orderB md ops l listed = true → S w → wpMix P ops Q S l a w → wpAnyH P md ops Q S l.length listed a w
  | [], listed, a, w, hB, _, h => ⟨by simpa [orderB] using hB, h⟩
  | (i, true) :: rest, listed, a, w, hB, hS, h => by
    simp only [orderB, Bool.and_eq_true] at hB
    simp only [wpMix] at h
    cases ho : ops[i]? with
    | none => rw [ho] at h; exact h.elim
    | some o =>
      rw [ho] at h
      obtain ⟨hv, h⟩ := h
      simp only [wpQuiet] at h
      by_cases hw : Region.wanted o (yielded ops a.tmps) = true
      · rw [if_pos hw] at h
        obtain ⟨v, h1, h2⟩ := h
        exact wpAnyH_take ho hs hB.1.2 hB.1.1 (fun c a w => hQ c _ _ a w) (yields_of_quiet hv hw h1) hS (wpAnyH_of_mix hs hQ rest _ _ w hB.2 hS h2)
      · rw [if_neg hw] at h
        exact wpAnyH_take ho hs hB.1.2 hB.1.1 (fun c a w => hQ c _ _ a w) (v := undef) (.inr ⟨by simpa using hw, rfl⟩) hS (wpAnyH_of_mix hs hQ rest _ _ w hB.2 hS h)
  | (i, false) :: rest, listed, a, w, hB, hS, h => by
    simp only [orderB, Bool.and_eq_true, decide_eq_true_eq] at hB
    simp only [wpMix] at h
    cases ho : ops[i]? with
    | none => rw [ho] at h; exact h.elim
    | some o =>
      rw [ho] at h
      simp only [wpList] at h
      refine wpAnyH_all hB.1 (by simp) (fun j hj => ?_)
      obtain rfl : j = i := by simpa using hj
      have nolet : ¬ LetsOut (Behind S (wpMix P ops Q S rest)) := by
        rintro ⟨a0, w0, hb⟩
        exact absurd hb.normal (by simp)
      unfold wpOp
      simp only [ho]
      by_cases hw : Region.wanted o (yielded ops a.tmps) = true
      · rw [if_pos hw] at h ⊢
        rcases h with h | ⟨_, h⟩
        · refine .inl (upon_mono (fun a' w' hb => ⟨hb.keeps, wpAnyH_of_mix hs hQ rest _ a' w' hB.2 hb.keeps hb.next⟩) (fun c a' w' hb => ?_) nolet h)
          exact absurd hb.normal (by simp)
        · exact absurd h nolet
      · rw [if_neg hw] at h ⊢
        exact ⟨h.keeps, wpAnyH_of_mix hs hQ rest _ _ w hB.2 h.keeps h.next⟩

/-- The class of worlds that are w with blocks laid behind. -/
def Reg (w : World) (w' : World) : Prop := ∃ p : Regrown, w' = Go.Sort.grow (redrawn w p.d) p.os

/-- THE REGION. -/
theorem wp_region_mix {id : Nat} {a : Act} {w : World} (order : List (Nat × Bool)) (hm : P.follows .mixedOrders = true) (hB : (Region.noSelect ops && (order.length == ops.size) && orderB .any ops order (Array.replicate ops.size false)) = true)
    (hQ : ∀ c d v a w, Q (.panic c) (Act.put a d v) w → Q (.panic c) a w)
    (h : wpMix P ops Q (fun w' => ∃ p : Regrown, w' = Go.Sort.grow (redrawn w p.d) p.os) order a w.drew) : (Code.region id ops true).wp P Q a w := by
  simp only [Bool.and_eq_true, beq_iff_eq] at hB
  have h1 := wpAnyH_of_mix (md := .any) hB.1.1 hQ order (Array.replicate ops.size false) a w.drew hB.2 ⟨⟨w.drawn + 1, #[]⟩, by rw [Go.Sort.grow_empty]; rfl⟩ h
  rw [hB.1.2] at h1
  exact wp_region_held hm h1

/-- THE REGION, over whatever class of worlds. -/
theorem wp_region_mixS {id : Nat} {a : Act} {w : World} (order : List (Nat × Bool)) (hm : P.follows .mixedOrders = true) (hB : (Region.noSelect ops && (order.length == ops.size) && orderB .any ops order (Array.replicate ops.size false)) = true)
    (hQ : ∀ c d v a w, Q (.panic c) (Act.put a d v) w → Q (.panic c) a w) (hS : S w.drew)
    (h : wpMix P ops Q S order a w.drew) : (Code.region id ops true).wp P Q a w := by
  simp only [Bool.and_eq_true, beq_iff_eq] at hB
  have h1 := wpAnyH_of_mix (md := .any) hB.1.1 hQ order (Array.replicate ops.size false) a w.drew hB.2 hS h
  rw [hB.1.2] at h1
  exact wp_region_held hm h1

theorem mix_read {i : Nat} {o : Oper} {rest : List (Nat × Bool)} {a : Act} {w : World} (ho : ops[i]? = some o) (hv : valueOp o = true) (h : wpQuiet P ops S (fun a' => wpMix P ops Q S rest a' w) [o] a) : wpMix P ops Q S ((i, true) :: rest) a w := by
  simp only [wpMix, ho]
  exact ⟨hv, h⟩
theorem mix_does {i : Nat} {o : Oper} {rest : List (Nat × Bool)} {a : Act} {w : World} (ho : ops[i]? = some o) (h : wpList P ops (Behind S (wpMix P ops Q S rest)) [o] a w) : wpMix P ops Q S ((i, false) :: rest) a w := by
  simp only [wpMix, ho]
  exact h
theorem mix_nil {a : Act} {w : World} (h : Q .normal a w) : wpMix P ops Q S [] a w := h
/-- A walk of a region where now and then two operations may come up. -/
inductive Tr where
  | nil : Tr
  | read (i : Nat) (t : Tr) : Tr
  | one (i : Nat) (t : Tr) : Tr
  | two (i : Nat) (t : Tr) (j : Nat) (s : Tr) : Tr
def Tr.len : Tr → Nat
  | .nil => 0
  | .read _ t => t.len + 1
  | .one _ t => t.len + 1
  | .two _ t _ _ => t.len + 1
/-- The first steps of a walk by a list, then by a tree. -/
def Tr.of : List (Nat × Bool) → Tr → Tr
  | [], t => t
  | (i, true) :: r, t => .read i (Tr.of r t)
  | (i, false) :: r, t => .one i (Tr.of r t)
def wpTr (P : Program) (ops : Array Oper) (Q : Exit → Act → World → Prop) (S : World → Prop) : Tr → Act → World → Prop
  | .nil, a, w => Q .normal a w
  | .read i t, a, w => match ops[i]? with
    | some o => valueOp o = true ∧ wpQuiet P ops S (fun a' => wpTr P ops Q S t a' w) [o] a
    | none => False
  | .one i t, a, w => match ops[i]? with
    | some o => wpList P ops (Behind S (wpTr P ops Q S t)) [o] a w
    | none => False
  | .two i t j s, a, w => (match ops[i]? with
    | some o => wpList P ops (Behind S (wpTr P ops Q S t)) [o] a w
    | none => False) ∧ (match ops[j]? with
    | some o => wpList P ops (Behind S (wpTr P ops Q S s)) [o] a w
    | none => False)
def orderT (md : Region.Mode) (ops : Array Oper) : Tr → Array Bool → Bool
  | .nil, listed => (Region.ready md ops listed).isEmpty
  | .read i t, listed => (Region.ready md ops listed).contains i && Region.free md ops listed i && orderT md ops t (listed.setIfInBounds i true)
  | .one i t, listed => decide (Region.ready md ops listed = [i]) && orderT md ops t (listed.setIfInBounds i true)
  | .two i t j s, listed => decide (Region.ready md ops listed = [i, j]) && (t.len == s.len) && orderT md ops t (listed.setIfInBounds i true) && orderT md ops s (listed.setIfInBounds j true)
theorem wpOp_of_list {i : Nat} {o : Oper} {a : Act} {w : World} {K : Act → World → Prop} {K' : Act → World → Prop} (hK : ∀ a w, K a w → S w → K' a w) (ho : ops[i]? = some o) (h : wpList P ops (Behind S K) [o] a w) : wpOp P ops Q i K' a w := by
  simp only [wpList] at h
  have nolet : ¬ LetsOut (Behind S K) := by
    rintro ⟨a0, w0, hb⟩
    exact absurd hb.normal (by simp)
  unfold wpOp
  simp only [ho]
  by_cases hw : Region.wanted o (yielded ops a.tmps) = true
  · rw [if_pos hw] at h ⊢
    rcases h with h | ⟨_, h⟩
    · exact .inl (upon_mono (fun a' w' hb => hK a' w' hb.next hb.keeps) (fun c a' w' hb => absurd hb.normal (by simp)) nolet h)
    · exact absurd h nolet
  · rw [if_neg hw] at h ⊢
    exact hK _ _ h.next h.keeps
theorem wpAnyH_of_tr (hs : Region.noSelect ops = true) (hQ : ∀ c d v a w, Q (.panic c) (Act.put a d v) w → Q (.panic c) a w) : ∀ (l : Tr) (listed : Array Bool) (a : Act) (w : World), orderT md ops l listed = true → S w → wpTr P ops Q S l a w → wpAnyH P md ops Q S l.len listed a w
  | .nil, listed, a, w, hB, _, h => ⟨by simpa [orderT] using hB, h⟩
  | .read i rest, listed, a, w, hB, hS, h => by
    simp only [orderT, Bool.and_eq_true] at hB
    simp only [wpTr] at h
    cases ho : ops[i]? with
    | none => rw [ho] at h; exact h.elim
    | some o =>
      rw [ho] at h
      obtain ⟨hv, h⟩ := h
      simp only [wpQuiet] at h
      by_cases hw : Region.wanted o (yielded ops a.tmps) = true
      · rw [if_pos hw] at h
        obtain ⟨v, h1, h2⟩ := h
        exact wpAnyH_take ho hs hB.1.2 hB.1.1 (fun c a w => hQ c _ _ a w) (yields_of_quiet hv hw h1) hS (wpAnyH_of_tr hs hQ rest _ _ w hB.2 hS h2)
      · rw [if_neg hw] at h
        exact wpAnyH_take ho hs hB.1.2 hB.1.1 (fun c a w => hQ c _ _ a w) (v := undef) (.inr ⟨by simpa using hw, rfl⟩) hS (wpAnyH_of_tr hs hQ rest _ _ w hB.2 hS h)
  | .one i rest, listed, a, w, hB, hS, h => by
    simp only [orderT, Bool.and_eq_true, decide_eq_true_eq] at hB
    simp only [wpTr] at h
    cases ho : ops[i]? with
    | none => rw [ho] at h; exact h.elim
    | some o =>
      rw [ho] at h
      refine wpAnyH_all hB.1 (by simp) (fun j hj => ?_)
      obtain rfl : j = i := by simpa using hj
      exact wpOp_of_list (fun a' w' hk hs' => ⟨hs', wpAnyH_of_tr hs hQ rest _ a' w' hB.2 hs' hk⟩) ho h
  | .two i t k s, listed, a, w, hB, hS, h => by
    simp only [orderT, Bool.and_eq_true, decide_eq_true_eq, beq_iff_eq] at hB
    simp only [wpTr] at h
    refine wpAnyH_all hB.1.1.1 (by simp) (fun j hj => ?_)
    rcases List.mem_cons.1 hj with rfl | hj
    · cases ho : ops[j]? with
      | none => rw [ho] at h; exact h.1.elim
      | some o =>
        rw [ho] at h
        exact wpOp_of_list (fun a' w' hk hs' => ⟨hs', wpAnyH_of_tr hs hQ t _ a' w' hB.1.2 hs' hk⟩) ho h.1
    · obtain rfl : j = k := by simpa using hj
      cases ho : ops[j]? with
      | none => rw [ho] at h; exact h.2.elim
      | some o =>
        rw [ho] at h
        exact wpOp_of_list (fun a' w' hk hs' => ⟨hs', by rw [hB.1.1.2]; exact wpAnyH_of_tr hs hQ s _ a' w' hB.2 hs' hk⟩) ho h.2
/-- THE REGION, by a tree, over whatever class of worlds. -/
theorem wp_region_tr {id : Nat} {a : Act} {w : World} (tr : Tr) (hm : P.follows .mixedOrders = true) (hB : (Region.noSelect ops && (tr.len == ops.size) && orderT .any ops tr (Array.replicate ops.size false)) = true)
    (hQ : ∀ c d v a w, Q (.panic c) (Act.put a d v) w → Q (.panic c) a w) (hS : S w.drew)
    (h : wpTr P ops Q S tr a w.drew) : (Code.region id ops true).wp P Q a w := by
  simp only [Bool.and_eq_true, beq_iff_eq] at hB
  have h1 := wpAnyH_of_tr (md := .any) hB.1.1 hQ tr (Array.replicate ops.size false) a w.drew hB.2 hS h
  rw [hB.1.2] at h1
  exact wp_region_held hm h1
theorem tr_read {i : Nat} {o : Oper} {rest : Tr} {a : Act} {w : World} (ho : ops[i]? = some o) (hv : valueOp o = true) (h : wpQuiet P ops S (fun a' => wpTr P ops Q S rest a' w) [o] a) : wpTr P ops Q S (.read i rest) a w := by
  simp only [wpTr, ho]
  exact ⟨hv, h⟩
theorem tr_does {i : Nat} {o : Oper} {rest : Tr} {a : Act} {w : World} (ho : ops[i]? = some o) (h : wpList P ops (Behind S (wpTr P ops Q S rest)) [o] a w) : wpTr P ops Q S (.one i rest) a w := by
  simp only [wpTr, ho]
  exact h
theorem tr_two {i j : Nat} {o o' : Oper} {t s : Tr} {a : Act} {w : World} (ho : ops[i]? = some o) (ho' : ops[j]? = some o') (h : wpList P ops (Behind S (wpTr P ops Q S t)) [o] a w) (h' : wpList P ops (Behind S (wpTr P ops Q S s)) [o'] a w) : wpTr P ops Q S (.two i t j s) a w := by
  simp only [wpTr, ho, ho']
  exact ⟨h, h'⟩
theorem tr_nil {a : Act} {w : World} (h : Q .normal a w) : wpTr P ops Q S .nil a w := h
end
end Go.Mix
end

/-
  A region that draws its order, each of whose effects waits for all that stands ahead of it: walked once, in order. No program in sight.
-/
section
namespace Go.Mix
open Go

/-- What is asked behind an operation that reads. -/
structure Reads (w : World) (K : Act → World → Prop) (e : Exit) (a : Act) (w' : World) : Prop where
  normal : e = .normal
  same : w' = w
  next : K a w'

section
variable {P : Program} {ops : Array Oper} {Q : Exit → Act → World → Prop} {md : Region.Mode}

/-- The walk, by a list of numbers: true: it only reads. -/
def wpSeq (P : Program) (ops : Array Oper) (Q : Exit → Act → World → Prop) : List (Nat × Bool) → Act → World → Prop
  | [], a, w => Q .normal a w
  | (i, true) :: rest, a, w => match ops[i]? with
    | some o => valueOp o = true ∧ wpList P ops (Reads w (wpSeq P ops Q rest)) [o] a w
    | none => False
  | (i, false) :: rest, a, w => match ops[i]? with
    | some o => wpList P ops (Behind (fun _ => True) (wpSeq P ops Q rest)) [o] a w
    | none => False

/-- All that an operation waits for has come up. -/
def Waited (md : Region.Mode) (ops : Array Oper) (listed : Array Bool) (j : Nat) : Prop :=
  ∀ o, ops[j]? = some o → ∀ e ∈ o.after, Region.binds md e = true → listed.getD e.on false = true
def Down (md : Region.Mode) (ops : Array Oper) (listed : Array Bool) : Prop := ∀ j, listed.getD j false = true → Waited md ops listed j

/-- Whether the masks are right: what an operation waits for, it waits for itself, or by another one, ahead of it. -/
def maskB (md : Region.Mode) (ops : Array Oper) (m : Array Nat) : Bool :=
  (List.range ops.size).all fun j => (List.range ops.size).all fun i => !(m.getD j 0).testBit i ||
    ((ops[j]?).map fun o => o.after.toList.any fun e => Region.binds md e && decide (e.on < j) && (e.on == i || (m.getD e.on 0).testBit i)).getD false

theorem mask_spec {m : Array Nat} (hm : maskB md ops m = true) {listed : Array Bool} (hd : Down md ops listed) {i : Nat} (hi : i < ops.size) : ∀ (j : Nat), j < ops.size → Waited md ops listed j → (m.getD j 0).testBit i = true → listed.getD i false = true := by
  intro j
  induction j using Nat.strongRecOn with
  | _ j ih =>
    intro hj hw ht
    have h1 := List.all_eq_true.1 hm j (by simpa using hj)
    have h2 := List.all_eq_true.1 h1 i (by simpa using hi)
    simp only [ht, Bool.not_true, Bool.false_or] at h2
    cases ho : ops[j]? with
    | none => rw [ho] at h2; cases h2
    | some o =>
      rw [ho] at h2
      simp only [Option.map_some, Option.getD_some, List.any_eq_true] at h2
      obtain ⟨e, he, h3⟩ := h2
      simp only [Bool.and_eq_true, decide_eq_true_eq, Bool.or_eq_true, beq_iff_eq] at h3
      obtain ⟨⟨hb, hlt⟩, h3⟩ := h3
      have hl := hw o ho e (Array.mem_toList_iff.1 he) hb
      rcases h3 with h3 | h3
      · rw [← h3]; exact hl
      · exact ih e.on hlt (by omega) (hd _ hl) h3

theorem getD_conv {listed : Array Bool} {j n : Nat} (hs : listed.size = n) (hj : j < n) (d e : Bool) : listed.getD j d = listed.getD j e := by
  have : j < listed.size := by omega
  simp [Array.getD, this]

theorem down_set {listed : Array Bool} (hd : Down md ops listed) {j : Nat} (hw : Waited md ops listed j) : Down md ops (listed.setIfInBounds j true) := by
  intro k hk o ho e he hb
  by_cases hkj : k = j
  · subst hkj
    exact getD_set_true (hw o ho e he hb)
  · rw [getD_set_ne false (Ne.symm hkj)] at hk
    exact getD_set_true (hd k hk o ho e he hb)

/-- Whatever order is picked from here on; what is no effect leaves the world. -/
def wpAnyS (P : Program) (md : Region.Mode) (ops : Array Oper) (Q : Exit → Act → World → Prop) (eff : Nat → Bool) : Nat → Array Bool → Act → World → Prop
  | 0, listed, a, w => Region.ready md ops listed = [] ∧ Q .normal a w
  | fuel + 1, listed, a, w =>
    (Region.ready md ops listed = [] → Q .normal a w) ∧
    ∀ i ∈ Region.ready md ops listed, wpOp P ops Q i (fun a' w' => (eff i = false → w' = w) ∧ wpAnyS P md ops Q eff fuel (listed.setIfInBounds i true) a' w') a w

theorem wpAny_of_S {eff : Nat → Bool} : ∀ (fuel : Nat) (listed : Array Bool) (a : Act) (w : World), wpAnyS P md ops Q eff fuel listed a w → wpAny P md ops Q fuel listed a w
  | 0, _, _, _, h => h
  | fuel + 1, _, _, _, h => ⟨h.1, fun i hi => wpOp_mono (fun a' w' h' => wpAny_of_S fuel _ a' w' h'.2) (h.2 i hi)⟩

theorem wpAnyS_first {eff : Nat → Bool} {i : Nat} {oi : Oper} {v : Value} (hi : ops[i]? = some oi) (hsel : ∀ (j : Nat) (o : Oper) cs b, ops[j]? = some o → o.op ≠ .select cs b)
    (hQ : ∀ c a w, Q (.panic c) (a.put oi.dst v) w → Q (.panic c) a w) {m : Array Nat} (hm : maskB md ops m = true) (hei : eff i = false) (w : World) :
    ∀ (fuel : Nat) (listed : Array Bool) (a : Act),
      listed.size = ops.size → Down md ops listed →
      (∀ j, j < ops.size → eff j = true → listed.getD j true = false → (m.getD j 0).testBit i = true) →
      (∀ j oj, ops[j]? = some oj → j ≠ i → listed.getD j true = false → (∀ e ∈ oj.after, Region.binds md e = true → e.on ≠ i) → oi.apart ops oj = true) →
      i ∈ Region.ready md ops listed → YieldsIf P ops (fun w' => w' = w) oi v a →
      wpAnyS P md ops Q eff fuel (listed.setIfInBounds i true) (a.put oi.dst v) w → wpAnyS P md ops Q eff (fuel + 1) listed a w := by
  intro fuel
  have hilt : i < ops.size := (Array.getElem?_eq_some_iff.1 hi).1
  induction fuel with
  | zero =>
    intro listed a _ _ _ _ hr hy H
    refine ⟨fun h => (by rw [h] at hr; cases hr), fun j hj => ?_⟩
    by_cases hji : j = i
    · subst hji
      exact hy.wpOp hi rfl ⟨fun _ => rfl, H⟩
    · have := ready_mono hj hji
      rw [H.1] at this
      cases this
  | succ fuel ih =>
    intro listed a hsz hdown hmask hfree hr hy H
    refine ⟨fun h => (by rw [h] at hr; cases hr), fun j hj => ?_⟩
    by_cases hji : j = i
    · subst hji
      exact hy.wpOp hi rfl ⟨fun _ => rfl, H⟩
    · have h1 := H.2 j (ready_mono hj hji)
      obtain ⟨hjun, oj, hoj, hall⟩ := mem_ready.1 hj
      have hjlt : j < ops.size := (Array.getElem?_eq_some_iff.1 hoj).1
      have hiun : listed.getD i false = false := by rw [getD_conv hsz hilt false true]; exact (mem_ready.1 hr).1
      have hwj : Waited md ops listed j := fun o ho e he hb => by
        rw [hoj] at ho
        cases ho
        exact hall e he hb
      have hnj : eff j = false := by
        cases he : eff j with
        | false => rfl
        | true =>
          have := mask_spec hm hdown hilt j hjlt hwj (hmask j hjlt he hjun)
          rw [this] at hiun
          cases hiun
      have hnot : ∀ e ∈ oj.after, Region.binds md e = true → e.on ≠ i := fun e he hb heq => by
        have h2 := hall e he hb
        rw [heq, hiun] at h2
        cases h2
      have h2 := wpOp_putIf hoj (hfree j oj hoj hji hjun hnot) (fun cs b => hsel i oi cs b hi) (fun cs b => hsel j oj cs b hoj) hQ hy h1
      have hmask' : ∀ k, k < ops.size → eff k = true → (listed.setIfInBounds j true).getD k true = false → (m.getD k 0).testBit i = true := fun k hk he hun => by
        refine hmask k hk he ?_
        by_cases hjk : j = k
        · subst hjk; exact hjun
        · rw [getD_set_ne true hjk] at hun; exact hun
      have hfree' : ∀ k ok, ops[k]? = some ok → k ≠ i → (listed.setIfInBounds j true).getD k true = false →
          (∀ e ∈ ok.after, Region.binds md e = true → e.on ≠ i) → oi.apart ops ok = true := fun k ok hk hki hun hno => by
        refine hfree k ok hk hki ?_ hno
        by_cases hjk : j = k
        · subst hjk; exact hjun
        · rw [getD_set_ne true hjk] at hun; exact hun
      refine wpOp_mono (fun a' w' h3 => ⟨h3.2.1, ?_⟩) h2
      obtain ⟨h4, h5, h6⟩ := h3
      have hww := h5 hnj
      subst hww
      refine ih (listed.setIfInBounds j true) a' (by simpa using hsz) (down_set hdown hwj) hmask' hfree' (ready_mono hr (Ne.symm hji)) h4 ?_
      rw [Array.setIfInBounds_comm _ _ hji]
      exact h6

theorem reads_spec {o : Oper} {a : Act} {w : World} {K : Act → World → Prop} (hv : valueOp o = true) (h : o.wp P a w (Reads w K .normal) (Reads w K) ∨ (o.asks P a w ∧ LetsOut (Reads w K))) :
    ∃ v, (execOp a.eval o).run P w = .ok (.value v) w ∧ K (a.put o.dst v) w := by
  have nolet : ¬ LetsOut (Reads w K) := by
    rintro ⟨a0, w0, hb⟩
    exact absurd hb.normal (by simp)
  rcases h with h | ⟨_, h⟩
  · obtain ⟨s, hs⟩ := valueOp_spec hv a.eval
    unfold Oper.wp at h
    rw [hs, run_bind_value] at h ⊢
    cases hr : s.run P w with
    | ok x w' =>
      rw [hr] at h
      simp only [Result.andThen_ok, Oper.upon] at h
      obtain ⟨_, h2, h3⟩ := h
      subst h2
      exact ⟨x, rfl, h3⟩
    | halt x w' =>
      rw [hr] at h
      cases x <;> simp only [Result.andThen, Oper.upon] at h
      exact absurd h.normal (by simp)
  · exact absurd h nolet

/-- Whether the list may serve. -/
def seqB (md : Region.Mode) (ops : Array Oper) (m : Array Nat) (eff : Nat → Bool) : List (Nat × Bool) → Array Bool → Bool
  | [], listed => (Region.ready md ops listed).isEmpty
  | (i, true) :: rest, listed => (Region.ready md ops listed).contains i && Region.free md ops listed i && !eff i && ((List.range ops.size).all fun j => !eff j || listed.getD j true || (m.getD j 0).testBit i) && seqB md ops m eff rest (listed.setIfInBounds i true)
  | (i, false) :: rest, listed => decide (Region.ready md ops listed = [i]) && eff i && seqB md ops m eff rest (listed.setIfInBounds i true)

theorem wpAnyS_of_seq {m : Array Nat} {eff : Nat → Bool} (hs : Region.noSelect ops = true) (hm : maskB md ops m = true) (hQ : ∀ c d v a w, Q (.panic c) (Act.put a d v) w → Q (.panic c) a w) : ∀ (l : List (Nat × Bool)) (listed : Array Bool) (a : Act) (w : World), listed.size = ops.size → Down md ops listed → seqB md ops m eff l listed = true → wpSeq P ops Q l a w → wpAnyS P md ops Q eff l.length listed a w
  | [], listed, a, w, _, _, hB, h => ⟨by simpa [seqB] using hB, h⟩
  | (i, true) :: rest, listed, a, w, hsz, hd, hB, h => by
    simp only [seqB, Bool.and_eq_true] at hB
    obtain ⟨⟨⟨⟨hr, hf⟩, he⟩, hk⟩, hB⟩ := hB
    simp only [wpSeq] at h
    have hr' : i ∈ Region.ready md ops listed := by simpa using hr
    have hd' : Down md ops (listed.setIfInBounds i true) := by
      obtain ⟨_, o, ho, hall⟩ := mem_ready.1 hr'
      refine down_set hd (fun o' ho' e he hb => ?_)
      rw [ho] at ho'
      cases ho'
      exact hall e he hb
    have hmask : ∀ j, j < ops.size → eff j = true → listed.getD j true = false → (m.getD j 0).testBit i = true := fun j hj hej hun => by
      have := List.all_eq_true.1 hk j (by simpa using hj)
      rw [hej, hun] at this
      simpa using this
    cases ho : ops[i]? with
    | none => rw [ho] at h; exact h.elim
    | some o =>
      rw [ho] at h
      obtain ⟨hv, h⟩ := h
      simp only [wpList] at h
      by_cases hw : Region.wanted o (yielded ops a.tmps) = true
      · rw [if_pos hw] at h
        obtain ⟨v, h1, h2⟩ := reads_spec hv h
        exact wpAnyS_first ho (Region.noSelect_spec hs) (fun c a w => hQ c _ _ a w) hm (by simpa using he) w _ listed a hsz hd hmask (Region.free_spec ho hf) hr' (.inl ⟨hw, fun _ hww => by subst hww; exact h1⟩) (wpAnyS_of_seq hs hm hQ rest _ _ w (by simpa using hsz) hd' hB h2)
      · rw [if_neg hw] at h
        replace h := h.next
        exact wpAnyS_first (v := undef) ho (Region.noSelect_spec hs) (fun c a w => hQ c _ _ a w) hm (by simpa using he) w _ listed a hsz hd hmask (Region.free_spec ho hf) hr' (.inr ⟨by simpa using hw, rfl⟩) (wpAnyS_of_seq hs hm hQ rest _ _ w (by simpa using hsz) hd' hB h)
  | (i, false) :: rest, listed, a, w, hsz, hd, hB, h => by
    simp only [seqB, Bool.and_eq_true, decide_eq_true_eq] at hB
    obtain ⟨⟨hr, he⟩, hB⟩ := hB
    simp only [wpSeq] at h
    have hr' : i ∈ Region.ready md ops listed := by rw [hr]; simp
    have hd' : Down md ops (listed.setIfInBounds i true) := by
      obtain ⟨_, o, ho, hall⟩ := mem_ready.1 hr'
      refine down_set hd (fun o' ho' e he hb => ?_)
      rw [ho] at ho'
      cases ho'
      exact hall e he hb
    cases ho : ops[i]? with
    | none => rw [ho] at h; exact h.elim
    | some o =>
      rw [ho] at h
      simp only [wpList] at h
      refine ⟨fun h0 => absurd (hr ▸ h0) (by simp), fun j hj => ?_⟩
      obtain rfl : j = i := by rw [hr] at hj; simpa using hj
      have nolet : ¬ LetsOut (Behind (fun _ => True) (wpSeq P ops Q rest)) := by
        rintro ⟨a0, w0, hb⟩
        exact absurd hb.normal (by simp)
      unfold wpOp
      simp only [ho]
      by_cases hw : Region.wanted o (yielded ops a.tmps) = true
      · rw [if_pos hw] at h ⊢
        rcases h with h | ⟨_, h⟩
        · refine .inl (upon_mono (fun a' w' hb => ⟨fun h0 => (by rw [he] at h0; cases h0), wpAnyS_of_seq hs hm hQ rest _ a' w' (by simpa using hsz) hd' hB hb.next⟩) (fun c a' w' hb => ?_) nolet h)
          exact absurd hb.normal (by simp)
        · exact absurd h nolet
      · rw [if_neg hw] at h ⊢
        exact ⟨fun h0 => (by rw [he] at h0; cases h0), wpAnyS_of_seq hs hm hQ rest _ _ w (by simpa using hsz) hd' hB h.next⟩

def effOf (l : List (Nat × Bool)) (j : Nat) : Bool := l.any fun p => p.1 == j && !p.2
/-- THE REGION. -/
theorem wp_region_seq {id : Nat} {a : Act} {w : World} (order : List (Nat × Bool)) (hm : P.follows .mixedOrders = true) (hB : (Region.noSelect ops && (order.length == ops.size) && maskB .any ops (Region.before ops) && seqB .any ops (Region.before ops) (effOf order) order (Array.replicate ops.size false)) = true)
    (hQ : ∀ c d v a w, Q (.panic c) (Act.put a d v) w → Q (.panic c) a w)
    (h : wpSeq P ops Q order a w.drew) : (Code.region id ops true).wp P Q a w := by
  simp only [Bool.and_eq_true, beq_iff_eq] at hB
  have hd : Down .any ops (Array.replicate ops.size false) := fun j hj => by
    simp only [Array.getD_eq_getD_getElem?, Array.getElem?_replicate] at hj
    split at hj <;> simp at hj
  have h1 := wpAnyS_of_seq (md := .any) (m := Region.before ops) (eff := effOf order) hB.1.1.1 hB.1.2 hQ order (Array.replicate ops.size false) a w.drew (by simp) hd hB.2 h
  rw [hB.1.1.2] at h1
  exact wp_region_any hm (wpAny_of_S _ _ _ _ h1)

theorem seq_read {i : Nat} {o : Oper} {rest : List (Nat × Bool)} {a : Act} {w : World} (ho : ops[i]? = some o) (hv : valueOp o = true) (h : wpList P ops (Reads w (wpSeq P ops Q rest)) [o] a w) : wpSeq P ops Q ((i, true) :: rest) a w := by
  simp only [wpSeq, ho]
  exact ⟨hv, h⟩
theorem seq_does {i : Nat} {o : Oper} {rest : List (Nat × Bool)} {a : Act} {w : World} (ho : ops[i]? = some o) (h : wpList P ops (Behind (fun _ => True) (wpSeq P ops Q rest)) [o] a w) : wpSeq P ops Q ((i, false) :: rest) a w := by
  simp only [wpSeq, ho]
  exact h
theorem seq_nil {a : Act} {w : World} (h : Q .normal a w) : wpSeq P ops Q [] a w := h
theorem behind_seq {K : Act → World → Prop} {a : Act} {w : World} (h : K a w) : Behind (fun _ => True) K .normal a w := ⟨rfl, trivial, h⟩
end
end Go.Mix
end

/-
  A run of a closed call: regions that draw their order, looked at once in an order of their own. Plain definitions; no program in sight.
-/
section
namespace Go.Eva
open Go Go.RowKit Go.Mix Go.Viv

mutual
def veq : Value → Value → Bool
  | .bool a, .bool b => a == b
  | .int k a, .int j b => k == j && a == b
  | .string a, .string b => a.data.toList == b.data.toList
  | .pointer none, .pointer none => true
  | .pointer (some ⟨a, o, none⟩), .pointer (some ⟨b, p, none⟩) => Nat.beq a b && Nat.beq o p
  | .slice none a b, .slice none c d => Nat.beq a c && Nat.beq b d
  | .slice (some ⟨a, o, none⟩) n c, .slice (some ⟨b, p, none⟩) m d => Nat.beq a b && Nat.beq o p && Nat.beq n m && Nat.beq c d
  | .map none, .map none => true
  | .map (some a), .map (some b) => Nat.beq a b
  | .func (.func f) ⟨a⟩ ⟨b⟩, .func (.func g) ⟨c⟩ ⟨d⟩ => Nat.beq f g && veqL a c && veqL b d
  | .nilFunc, .nilFunc => true
  | .iface t v, .iface u w => Nat.beq t u && veq v w
  | .nilIface, .nilIface => true
  | .agg ⟨a⟩, .agg ⟨b⟩ => veqL a b
  | .tuple ⟨a⟩, .tuple ⟨b⟩ => veqL a b
  | _, _ => false
def veqL : List Value → List Value → Bool
  | [], [] => true
  | a :: l, b :: k => veq a b && veqL l k
  | _, _ => false
end
def oeq : AObj → AObj → Bool
  | .cells a e r, .cells b f s => veqL a b && Nat.beq e f && r == s
  | .map [] 0, .map [] 0 => true
  | _, _ => false

/-- A number's bit. -/
def bit (m : Nat) (i : Nat) : Bool := m.testBit i
def bef (m : Array Nat) (i j : Nat) : Bool := (m.getD i 0).testBit j
def within (a b : Nat) : Bool := Nat.beq (a &&& b) a

/-! ### What is asked of the region once -/
def looksB (ops : Array Oper) (m : Array Nat) : Bool :=
  (List.range ops.size).all fun i => ((ops[i]?).map fun o => (o.looksAt ops).all fun t => (List.range ops.size).all fun j =>
    Nat.beq i j || ((ops[j]?).map fun q => q.dst != some t || bef m i j || bef m j i).getD true).getD true
def dstsB (ops : Array Oper) : Bool :=
  (List.range ops.size).all fun i => (List.range ops.size).all fun j => Nat.beq i j || ((ops[i]?).map fun o => ((ops[j]?).map fun q => o.dst.isNone || o.dst != q.dst).getD true).getD true
def topoB (ops : Array Oper) : Bool :=
  (List.range ops.size).all fun i => ((ops[i]?).map fun o => o.after.all fun e => !Region.binds .any e || Nat.blt e.on i).getD true
def statB (ops : Array Oper) : Bool :=
  maskB .any ops (Region.before ops) && looksB ops (Region.before ops) && dstsB ops && topoB ops

/-! ### The order: what is no effect as soon as it may come -/
def isEff (o : Op) : Bool := match kind o with
  | .eff => true
  | _ => false
def pickB (ops : List Oper) (m : Array Nat) (done : Nat) (eff : Bool) : List Nat → Option (Nat × List Nat)
  | [] => none
  | i :: l => match within (m.getD i 0) done && (((ops[i]?).map fun o => isEff o.op).getD false == eff) with
    | true => some (i, l)
    | false => (pickB ops m done eff l).map fun (j, r) => (j, i :: r)
def ordB : Nat → List Oper → Array Nat → Nat → List Nat → List Nat
  | 0, _, _, _, _ => []
  | f + 1, ops, m, done, todo => match pickB ops m done false todo with
    | some (i, r) => i :: ordB f ops m (done ||| 2 ^ i) r
    | none => match pickB ops m done true todo with
      | some (i, r) => i :: ordB f ops m (done ||| 2 ^ i) r
      | none => []
def orderOf (ops : Array Oper) : List Nat := ordB ops.size ops.toList (Region.before ops) 0 (List.range ops.size)

structure Ent where
  i : Nat
  o : Op
  T : Tr Value
  v : Value
section
variable (P : Program) (sy : Sy) (G n : Nat) (call : CallB) (ops : List Oper) (m : Array Nat) (base : Nat)
def again (t : Tr AObj) (x : Ent) : Bool := match kind x.o with
  | .quiet => match evQ P sy (evl G x.T) t x.o with
    | some v => veq v x.v
    | none => false
  | .alloc => match evA P (evl G x.T) (base + x.i) x.o, t.at_ (base + x.i) with
    | some (_, ob), some ob' => oeq ob ob'
    | _, _ => false
  | .eff => false
def allAgain (e : Nat) (t : Tr AObj) : List Ent → Bool
  | [] => true
  | x :: l => match bef m e x.i || again P sy G base t x with
    | true => allAgain e t l
    | false => false
def dRun : List Nat → Tr Value → Hp → Nat → Nat → List Ent → Option (Tr Value × Hp × Nat)
  | [], T, h, done, _, _ => some (T, h, done)
  | i :: rest, T, h, done, effs, ents => match ops[i]?, within (m.getD i 0) done && !bit done i with
    | some o, true => match wantedB ops T o with
      | some false => match putT n T o.dst undef with
        | some T' => dRun rest T' h (done ||| 2 ^ i) effs ents
        | none => none
      | some true => match kind o.op, within effs (m.getD i 0) with
        | .quiet, true => match evQ P sy (evl G T) h.t o.op with
          | some v => match putT n T o.dst v with
            | some T' => dRun rest T' h (done ||| 2 ^ i) effs (⟨i, o.op, T, v⟩ :: ents)
            | none => none
          | none => none
        | .alloc, true => match evA P (evl G T) (base + i) o.op, h.t.at_ (base + i) with
          | some (v, ob), none => match putT n T o.dst v with
            | some T' => dRun rest T' ⟨h.t.set (base + i) (some ob), h.next⟩ (done ||| 2 ^ i) effs (⟨i, o.op, T, v⟩ :: ents)
            | none => none
          | _, _ => none
        | .eff, true => match evE P call (evl G T) h o.op with
          | some (v, h') => match allAgain P sy G m base i h'.t ents with
            | true => match putT n T o.dst v with
              | some T' => dRun rest T' h' (done ||| 2 ^ i) (effs ||| 2 ^ i) ents
              | none => none
            | false => none
          | none => none
        | _, _ => none
      | none => none
    | _, _ => none
end
def evD (P : Program) (sy : Sy) (G n : Nat) (call : CallB) (ops : Array Oper) (T : Tr Value) (h : Hp) : Option (Tr Value × Hp) :=
  match statB ops with
  | true => match dRun P sy G n call ops.toList (Region.before ops) h.next (orderOf ops) T ⟨h.t, h.next + ops.size⟩ 0 0 [] with
    | some (T', h', done) => match Nat.beq done (2 ^ ops.size - 1) with
      | true => some (T', h')
      | false => none
    | none => none
  | false => none
/-- The run of a call. -/
def ev (P : Program) (sy : Sy) (tb : Tb) (G k f : Nat) : CallB := evF P sy tb G (fun G n call => evD P sy G n call) k f
end Go.Eva
end

/-
  A run of a closed call: what makes memory, and what writes, is as the tree says. No program in sight.
-/
section
namespace Go.Eva
open Go Go.RowKit Go.Mix Go.Viv

section
variable {P : Program} {G : Nat} {W0 : Begin} {ν : Toks} {φ : Phi} {s : Hp} {w : World}

/-! ### Frames -/
/-- A frame of the tree stands for one of the machine. -/
structure Ar (ν : Toks) (φ : Phi) (n : Nat) (T : Tr Value) (a : Act) : Prop where
  size : a.tmps.size = n
  tmps : ∀ t, VR ν φ (look T t) (a.tmps.getD t undef)
  defers : a.defers = []
theorem Ar.ext {φ' : Phi} {n : Nat} {T : Tr Value} {a : Act} (h : Ar ν φ n T a) (hx : ∀ B r, φ B = some r → φ' B = some r) : Ar ν φ' n T a :=
  ⟨h.size, fun t => (h.tmps t).ext hx, h.defers⟩
theorem look_set_same (T : Tr Value) (d : Nat) (v : Value) : look (T.set d (some v)) d = v := by simp [look, Tr.at_set_same]
theorem look_set_ne (T : Tr Value) {d t : Nat} (v : Value) (h : d ≠ t) : look (T.set d (some v)) t = look T t := by simp [look, Tr.at_set_ne _ _ h]
theorem Ar.put {n : Nat} {T T' : Tr Value} {a : Act} (h : Ar ν φ n T a) {d : Option Tmp} {v v' : Value} (hv : VR ν φ v v') (hp : putT n T d v = some T') : Ar ν φ n T' (a.put d v') := by
  cases d with
  | none => simp only [putT, Option.some.injEq] at hp; subst hp; exact h
  | some d =>
    simp only [putT] at hp
    cases hb : Nat.blt d n with
    | false => rw [hb] at hp; cases hp
    | true =>
      rw [hb] at hp
      simp only [Option.some.injEq] at hp
      subst hp
      have hd := blt_iff hb
      refine ⟨by simp [Act.put, h.size], fun t => ?_, h.defers⟩
      simp only [Act.put]
      by_cases e : d = t
      · subst e
        rw [look_set_same]
        simp [Array.getD_eq_getD_getElem?, h.size, hd]
        exact hv
      · rw [look_set_ne _ _ e]
        have := h.tmps t
        rw [Array.getD_eq_getD_getElem?] at this ⊢
        rwa [Array.getElem?_setIfInBounds_ne e]
theorem evl_sound (hR : Rw P G W0 ν φ s w) {n : Nat} {T : Tr Value} {a : Act} (h : Ar ν φ n T a) (x : Operand) : VR ν φ (evl G T x) (a.eval x) := by
  cases x with
  | tmp t => exact h.tmps t
  | const v =>
    simp only [evl, Act.eval]
    cases hp : plainV v with
    | true => exact VR.refl v hp
    | false => exact .bad v
  | global g =>
    simp only [evl, Act.eval]
    cases hb : Nat.blt g G with
    | true =>
      obtain ⟨r, h1, h2⟩ := hR.glob g (blt_iff hb)
      have := VR.ptr (ν := ν) (o := 0) h1
      rw [h2] at this
      exact this
    | false => exact .bad _
  | func f => exact .func _ .nil .nil
theorem wanted_at {T : Tr Value} {a : Act} {ops : Array Oper} {o : Oper} {b : Bool} (h : ∀ j want t, o.guard = some (j, want) → (ops[j]?).bind (·.dst) = some t → VR ν φ (look T t) (a.tmps.getD t undef)) (hw : wantedB ops.toList T o = some b) : Region.wanted o (yielded ops a.tmps) = b := by
  unfold wantedB at hw
  unfold Region.wanted
  cases hg : o.guard with
  | none => rw [hg] at hw; simp at hw; rw [hw]
  | some jw =>
    obtain ⟨j, want⟩ := jw
    rw [hg] at hw
    simp only at hw ⊢
    unfold yielded
    rw [Array.getElem?_toList] at hw
    cases hd : (ops[j]?).bind (·.dst) with
    | none => rw [hd] at hw; simp at hw; subst hw; simp
    | some t =>
      rw [hd] at hw
      simp only [Option.bind_some] at hw ⊢
      have ht := h j want t hg hd
      rw [Array.getD_eq_getD_getElem?] at ht
      cases hl : look T t <;> rw [hl] at hw ht <;> try (cases hw; done)
      case bool c =>
        cases ht' : a.tmps[t]? with
        | none => rw [ht'] at ht; cases ht
        | some u => simp only [Option.some.injEq] at hw; rw [ht'] at ht; simp at ht; cases ht; simp [hw]
      case tuple l =>
        obtain ⟨l⟩ := l
        cases l <;> simp only at hw <;> cases hw
        cases ht' : a.tmps[t]? with
        | none => simp
        | some u => rw [ht'] at ht; simp at ht; cases ht; rename_i hl2; cases hl2; simp

theorem wanted_sound {n : Nat} {T : Tr Value} {a : Act} (h : Ar ν φ n T a) {ops : Array Oper} {o : Oper} {b : Bool} (hw : wantedB ops.toList T o = some b) : Region.wanted o (yielded ops a.tmps) = b :=
  wanted_at (fun _ _ t _ _ => h.tmps t) hw

/-! ### New blocks -/
theorem run_newRow (e : TypeId) (cs : Array Value) : (newRow e cs).run P w = .ok ⟨w.heap.size, 0, none⟩ (w.alloc (.cells cs e)) := rfl
theorem born_cells (hR : Rw P G W0 ν φ s w) {B : Nat} (hB : φ B = none) (hlt : B < s.next) (hG : G ≤ B) {c : List Value} {e : TypeId} {cs : Array Value} {es : Nat} (ho : s.t.at_ B = some (.cells c e true))
    (he : sizeB P e = some es) (hc : VRs ν φ c (cs.toList.take c.length)) : Rw P G W0 ν (φ.add B ⟨w.heap.size, cs.size, es⟩) s (w.alloc (.cells cs e)) :=
  hR.born hB hlt hG rfl ho _ (.cells (heap_alloc_new w _) rfl (fun _ => ⟨rfl, he, .inr hR.frame.size, rfl⟩) (hc.ext (φ.add_up _ hB)))
theorem take_all {ν : Toks} {φ : Phi} {c c' : List Value} (h : VRs ν φ c c') : VRs ν φ c (c'.take c.length) := by
  rw [← h.length, List.take_length]; exact h
theorem alloc_sound (hR : Rw P G W0 ν φ s w) {B : Nat} (hB : φ B = none) (hlt : B < s.next) (hG : G ≤ B) {ρ ρ' : Operand → Value} (hρ : ∀ x, VR ν φ (ρ x) (ρ' x)) {o : Oper} {v : Value} {ob : AObj}
    (ho : s.t.at_ B = some ob) (h : evA P ρ B o.op = some (v, ob)) :
    ∃ v' w' r, (execOp ρ' o).run P w = .ok (.value v') w' ∧ VR ν (φ.add B r) v v' ∧ Rw P G W0 ν (φ.add B r) s w' := by
  cases hop : o.op <;> rw [hop] at h <;> simp only [evA] at h <;> try cases h
  case alloc e =>
    split at h <;> try cases h
    rename_i z es hz he
    obtain ⟨h1, h2⟩ := plainZero_spec (ν := ν) (φ := φ) hz
    obtain ⟨zv, h3, h4⟩ := run_zero (w := w) h1
    refine ⟨_, _, _, ?_, .ptr (Phi.add_same _ _ _), born_cells hR hB hlt hG ho he (cs := zv.cells) (take_all (by rw [h4]; exact h2))⟩
    simp [execOp, hop, Instr.alloc, h3, newVar, run_newRow]
  case box e x =>
    split at h <;> try cases h
    rename_i es he
    split at h <;> try cases h
    rename_i hone
    have hc := (hρ x).cells hone
    refine ⟨_, _, _, ?_, .ptr (Phi.add_same _ _ _), born_cells hR hB hlt hG ho he (cs := (ρ' x).cells) (take_all hc)⟩
    simp [execOp, hop, Instr.box, newVar, run_newRow]
  case makeMap t r =>
    cases r <;> simp only at h <;> cases h
    refine ⟨_, _, ⟨w.heap.size, 0, 0⟩, ?_, .map (Phi.add_same _ _ _), hR.born hB hlt hG rfl ho (.map #[] 0) (.map (heap_alloc_new w _) (.inr hR.frame.size) .nil)⟩
    simp [execOp, hop, Instr.makeMap, newObj, Sem.run]
  case makeSlice t l c =>
    split at h <;> try cases h
    rename_i e n cap hu hl hc
    split at h <;> try cases h
    rename_i z es hb hz he
    split at h <;> try cases h
    rename_i hb2
    simp only [Bool.and_eq_true] at hb hb2
    obtain ⟨⟨hb1, hb3⟩, hb4⟩ := hb
    have g1 := ble_iff hb1
    have g2 := ble_iff hb3
    have g3 := ble_iff hb4
    have g4 := beq_iff hb2.1
    have g5 := ble_iff hb2.2
    obtain ⟨h1, h2⟩ := plainZero_spec (ν := ν) (φ := φ) hz
    obtain ⟨zv, h3, h4⟩ := run_zero (w := w) h1
    have hl' : ρ' l = .int .i64 n := by have := hρ l; rw [hl] at this; exact this.int_
    have hc' : ρ' c = .int .i64 cap := by have := hρ c; rw [hc] at this; exact this.int_
    cases hi : P.info? e with
    | none => simp [sizeB, hi] at he
    | some ie =>
      rw [hi] at g3
      simp only [Option.map_some, Option.getD_some] at g3
      have hzs : zv.cells.size = es := by rw [← g4, ← h4]; simp
      have hes : ie.size = es := by simpa [sizeB, hi] using he
      have hwn : IntKind.i64.wrap (n : Int) = n := by rw [IntKind.wrap_i64]; omega
      have hwc : IntKind.i64.wrap (cap : Int) = cap := by rw [IntKind.wrap_i64]; omega
      have hbm : ie.bytes * cap ≤ 1000000 * 1000000 := Nat.mul_le_mul g3 g2
      have hbm' : cap * ie.bytes ≤ 1000000 * 1000000 := Nat.mul_le_mul g2 g3
      have hbig : ¬ (281474976710656 < (ie.bytes : Int) * (cap : Int)) := by
        have : ((ie.bytes * cap : Nat) : Int) ≤ ((1000000000000 : Nat) : Int) := Int.ofNat_le.2 (by omega)
        rw [Int.natCast_mul] at this
        omega
      have hrun : (Instr.makeSlice t (.int .i64 n) (.int .i64 cap)).run P w = .ok (.slice (some ⟨w.heap.size, 0, none⟩) n cap) (w.alloc (.cells ((Array.range (cap * es)).map (zv.cells[· % zv.cells.size]!)) e)) := by
        have hcc : ¬ ((cap : Int) < 0) := by omega
        have hnn : ¬ ((n : Int) < 0) := by omega
        have hcn : ¬ (cap < n) := by omega
        by_cases hc0 : cap * es = 0
        · simp [Instr.makeSlice, run_underlying hu, asInt, asIntOf, typeInfo, hi, hwn, hwc, hbig, hcc, hnn, hcn, askRoom, roomBytes, sizeOf, hes, hc0, run_newRow]
          have : Array.range 0 = #[] := rfl
          simp [this]
        · simp [Instr.makeSlice, run_underlying hu, asInt, asIntOf, typeInfo, hi, hwn, hwc, hbig, hcc, hnn, hcn, askRoom, roomBytes, sizeOf, hes, hc0, h3, run_newRow]
      refine ⟨_, _, _, ?_, .slk (Phi.add_same _ _ _) g1, born_cells hR hB hlt hG ho he (cs := (Array.range (cap * es)).map (zv.cells[· % zv.cells.size]!)) (take_all ?_)⟩
      · simp [execOp, hop, hl', hc', hrun]
      · rw [← hzs, rep_range, h4]; exact rep_all h2 _
  case buildSlice t len parts =>
    split at h <;> try cases h
    rename_i e hu
    split at h <;> try cases h
    rename_i z es hz he
    split at h <;> try cases h
    rename_i hb
    simp only [Bool.and_eq_true] at hb
    have g1 := beq_iff hb.1.1
    have g2 := ble_iff hb.1.2
    have g3 := ble_iff hb.2
    split at h <;> try cases h
    rename_i l hf
    obtain ⟨h1, h2⟩ := plainZero_spec (ν := ν) (φ := φ) hz
    obtain ⟨zv, h3, h4⟩ := run_zero (w := w) h1
    have hzs : zv.cells.size = es := by rw [← g1, ← h4]; simp
    obtain ⟨l', h5, h6⟩ := fill_sound (rep_all h2 len) (parts_map (ρ := ρ) (ρ' := ρ') parts.toList fun x _ => hρ x) hf
    have hrun : (Instr.buildSlice t len (parts.map fun (i, x) => (i, ρ' x))).run P w = .ok (.slice (some ⟨w.heap.size, 0, none⟩) len len) (w.alloc (.cells ⟨l'⟩ e)) := by
      have hbig : ¬ (16777216 < len * es) := by omega
      have hpm : (parts.map fun (i, x) => (i, ρ' x)).toList = parts.toList.map fun (i, x) => (i, ρ' x) := by simp
      have hrep : (Array.range (len * es)).map (zv.cells[· % zv.cells.size]!) = ⟨rep z len⟩ := by
        apply Array.ext'
        rw [← hzs, rep_range, h4]
      by_cases hc0 : len * es = 0
      · have hl0 : len = 0 := by
          rcases Nat.mul_eq_zero.1 hc0 with h | h
          · exact h
          · omega
        subst hl0
        simp only [Instr.buildSlice, Sem.run_bind, run_underlying hu, Result.andThen_ok, run_size (w := w) he, hpm]
        have h5' : Instr.fill (fun i => some (i * es, es)) #[] (parts.toList.map fun (i, x) => (i, ρ' x)) = some ⟨l'⟩ := h5
        have hr0 : Array.range 0 = #[] := rfl
        simp [hr0, h5', run_newRow]
      · simp only [Instr.buildSlice, Sem.run_bind, run_underlying hu, Result.andThen_ok, run_size (w := w) he, hpm]
        simp [hbig, hc0, h3, hrep, h5, run_newRow]
    refine ⟨_, _, _, ?_, .slk (Phi.add_same _ _ _) (Nat.le_refl _), born_cells hR hB hlt hG ho he (cs := ⟨l'⟩) (take_all h6)⟩
    simp [execOp, hop, hrun]
end
end Go.Eva
end
