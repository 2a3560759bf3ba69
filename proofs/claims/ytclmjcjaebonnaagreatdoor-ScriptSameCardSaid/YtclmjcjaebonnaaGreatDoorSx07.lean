/-
  Several texts in one. A region that draws its order, walked once by a list: what reads, and calls that leave the world, are taken as soon as they may come up; what is left comes up in one order. Two forms: over a class of worlds (wp_region_cls); or, where every effect waits for all that stands ahead, in the world as it is (wp_region_bar). No program in sight.
-/
import Derived.Test.YtclmjcjaebonnaaGreatDoorSx03
import Derived.Laws.BitsLemmas
import Derived.Test.YtclmjcjaebonnaaGreatDoorProg
import Derived.Test.YtclmjcjaebonnaaGreatDoorSx06
import Derived.Outline
import Derived.Lib.Hide
import Derived.Shelf.Spec.TrailingZeros
import Derived.WalkKit
import Derived.Test.YtclmjcjaebonnaaGreatDoorSx00
section
namespace Go.Ord
open Go Go.Mix

section
variable {P : Program} {ops : Array Oper} {Q : Exit → Act → World → Prop} {md : Region.Mode} {S : World → Prop}

/-- In every world of the class the operation yields v, and leaves that world. -/
def QY (P : Program) (ops : Array Oper) (S : World → Prop) (o : Oper) (v : Value) (a : Act) : Prop :=
  (Region.wanted o (yielded ops a.tmps) = true ∧ ∀ w, S w → o.quietAt P a (fun w'' => w'' = w) w v) ∨
  (Region.wanted o (yielded ops a.tmps) = false ∧ v = undef)

theorem upon_quiet {o : Oper} {a : Act} {w : World} {v : Value} {K : Act → World → Prop} (h : o.quietAt P a (fun w'' => w'' = w) w v) (hK : K (a.put o.dst v) w) : o.wp P a w K Q := by
  unfold Oper.quietAt at h
  unfold Oper.wp
  generalize (execOp a.eval o).run P w = r at *
  cases r with
  | ok n w' =>
    cases n <;> simp only [Oper.quietUpon] at h <;> simp only [Oper.upon]
    case value u => obtain ⟨rfl, rfl⟩ := h; exact hK
    case skip => obtain ⟨rfl, rfl⟩ := h; exact hK
    case enter f args =>
      obtain ⟨rfl, h⟩ := h
      refine Calls.mono h fun e w'' ⟨he, hw⟩ => ?_
      subst he hw
      exact hK
  | halt x w' => simp only [Oper.quietUpon] at h
theorem QY.wpOp {i : Nat} {o : Oper} {v : Value} {a : Act} (hi : ops[i]? = some o) (hy : QY P ops S o v a) {K : Act → World → Prop} {w : World} (hS : S w) (h : K (a.put o.dst v) w) : wpOp P ops Q i K a w := by
  unfold Go.wpOp
  simp only [hi]
  rcases hy with ⟨hw, hv⟩ | ⟨hw, rfl⟩
  · simp only [hw, if_true]; exact .inl (upon_quiet (hv w hS) h)
  · simp only [hw, Bool.false_eq_true, if_false]; exact h
theorem QY.of_same {o : Oper} {v : Value} {a a' : Act} (hy : QY P ops S o v a) (he : execOp a'.eval o = execOp a.eval o) (hw : Region.wanted o (yielded ops a'.tmps) = Region.wanted o (yielded ops a.tmps)) : QY P ops S o v a' := by
  unfold QY Oper.quietAt at *
  rw [he, hw]
  exact hy
theorem wpOp_putQ {j : Nat} {oi oj : Oper} {v : Value} (hj : ops[j]? = some oj) (hap : oi.apart ops oj = true)
    (hsi : ∀ cs b, oi.op ≠ .select cs b) (hsj : ∀ cs b, oj.op ≠ .select cs b)
    (hQ : ∀ c a w, Q (.panic c) (a.put oi.dst v) w → Q (.panic c) a w) {K : Act → World → Prop} {a : Act} {w : World}
    (hy : QY P ops S oi v a) (h : wpOp P ops Q j K (a.put oi.dst v) w) :
    wpOp P ops Q j (fun a' w' => QY P ops S oi v a' ∧ K (a'.put oi.dst v) w') a w := by
  obtain ⟨h1, h2, h3⟩ := Oper.apart_spec hap
  have keep : ∀ (a : Act), QY P ops S oi v a → ∀ u, QY P ops S oi v (a.put oj.dst u) := fun a hy u =>
    hy.of_same (execOp_put oi hsi a oj.dst u h3) (wanted_put oi a oj.dst u h3)
  have keepD : ∀ d, QY P ops S oi v { a with defers := d :: a.defers } := fun d => hy.of_same rfl rfl
  unfold Go.wpOp at *
  simp only [hj] at *
  rw [wanted_put oj a oi.dst v h1] at h
  split
  · rename_i hw
    simp only [hw, if_true] at h
    rcases h with h | ⟨hasks, hlets⟩
    case inr => exact .inr ⟨by unfold Oper.asks at *; rw [execOp_put oj hsj a oi.dst v h1] at hasks; exact hasks, hlets⟩
    refine .inl ?_
    unfold Oper.wp at *
    rw [execOp_put oj hsj a oi.dst v h1] at h
    generalize (execOp a.eval oj).run P w = r at *
    cases r with
    | ok n w' =>
      cases n <;> simp only [Oper.upon] at h ⊢
      case value u => exact ⟨keep a hy u, by rw [← Act.put_comm a v u h2]; exact h⟩
      case skip => exact ⟨keep a hy _, by rw [← Act.put_comm a v undef h2]; exact h⟩
      case defer d =>
        refine ⟨keep _ (keepD d) _, ?_⟩
        rw [← Act.put_comm _ v undef h2, ← Act.put_defers]
        exact h
      case enter f args =>
        refine Calls.mono h fun e w'' he => ?_
        cases e with
        | returned u => exact ⟨keep a hy u, by rw [← Act.put_comm a v u h2]; exact he⟩
        | panicked c => exact hQ _ _ _ he
        | outgrown => exact he
      case row row args => exact Rows.mono h fun u w'' he => ⟨keep a hy u, by rw [← Act.put_comm a v u h2]; exact he⟩
    | halt x w' =>
      cases x <;> simp only [Oper.upon] at h ⊢
      case panic u => exact hQ _ _ _ h
  · rename_i hw
    simp only [hw] at h
    exact ⟨keep a hy _, by rw [← Act.put_comm a v undef h2]; exact h⟩

/-- What is asked of an operation that reads. -/
def q1 (P : Program) (ops : Array Oper) (S : World → Prop) (next : Act → Prop) (o : Oper) (a : Act) : Prop :=
  if Region.wanted o (yielded ops a.tmps) then ∃ v, (∀ w, S w → o.quietAt P a (fun w'' => w'' = w) w v) ∧ next (a.put o.dst v) else next (a.put o.dst undef)
theorem q1_spec {next : Act → Prop} {o : Oper} {a : Act} (h : q1 P ops S next o a) : ∃ v, QY P ops S o v a ∧ next (a.put o.dst v) := by
  unfold q1 at h
  by_cases hw : Region.wanted o (yielded ops a.tmps) = true
  · rw [if_pos hw] at h
    obtain ⟨v, h1, h2⟩ := h
    exact ⟨v, .inl ⟨hw, h1⟩, h2⟩
  · rw [if_neg hw] at h
    exact ⟨undef, .inr ⟨by simpa using hw, rfl⟩, h⟩
theorem q1_step {next : Act → Prop} {o : Oper} {a : Act} (h : ∀ K : Act → Prop, (∀ a, next a → K a) → if Region.wanted o (yielded ops a.tmps) then ∃ v, (∀ w, S w → o.quietAt P a (fun w'' => w'' = w) w v) ∧ K (a.put o.dst v) else K (a.put o.dst undef)) : q1 P ops S next o a :=
  h _ (fun _ h => h)

/-! ### Over a class of worlds -/
/-- kp i: behind operation number i the class is to be shown. -/
def wpAnyC (P : Program) (md : Region.Mode) (ops : Array Oper) (Q : Exit → Act → World → Prop) (S : World → Prop) (kp : Nat → Bool) : Nat → Array Bool → Act → World → Prop
  | 0, listed, a, w => Region.ready md ops listed = [] ∧ Q .normal a w
  | fuel + 1, listed, a, w =>
    (Region.ready md ops listed = [] → Q .normal a w) ∧
    ∀ i ∈ Region.ready md ops listed, wpOp P ops Q i (fun a' w' => (kp i = true → S w') ∧ wpAnyC P md ops Q S kp fuel (listed.setIfInBounds i true) a' w') a w
theorem wpAny_of_C {kp : Nat → Bool} : ∀ (fuel : Nat) (listed : Array Bool) (a : Act) (w : World), wpAnyC P md ops Q S kp fuel listed a w → wpAny P md ops Q fuel listed a w
  | 0, _, _, _, h => h
  | fuel + 1, _, _, _, h => ⟨h.1, fun i hi => wpOp_mono (fun a' w' h' => wpAny_of_C fuel _ a' w' h'.2) (h.2 i hi)⟩
theorem wpAnyC_first {kp : Nat → Bool} {i : Nat} {oi : Oper} {v : Value} (hi : ops[i]? = some oi) (hsel : ∀ (j : Nat) (o : Oper) cs b, ops[j]? = some o → o.op ≠ .select cs b)
    (hQ : ∀ c a w, Q (.panic c) (a.put oi.dst v) w → Q (.panic c) a w) {m : Array Nat} (hm : maskB md ops m = true) (hk : ∀ j, j < ops.size → kp j = false → (m.getD j 0).testBit i = true) :
    ∀ (fuel : Nat) (listed : Array Bool) (a : Act) (w : World), listed.size = ops.size → Down md ops listed →
      (∀ j oj, ops[j]? = some oj → j ≠ i → listed.getD j true = false → (∀ e ∈ oj.after, Region.binds md e = true → e.on ≠ i) → oi.apart ops oj = true) →
      i ∈ Region.ready md ops listed → QY P ops S oi v a → S w →
      wpAnyC P md ops Q S kp fuel (listed.setIfInBounds i true) (a.put oi.dst v) w → wpAnyC P md ops Q S kp (fuel + 1) listed a w := by
  intro fuel
  have hilt : i < ops.size := (Array.getElem?_eq_some_iff.1 hi).1
  induction fuel with
  | zero =>
    intro listed a w _ _ _ hr hy hS H
    refine ⟨fun h => (by rw [h] at hr; cases hr), fun j hj => ?_⟩
    by_cases hji : j = i
    · subst hji
      exact hy.wpOp hi hS ⟨fun _ => hS, H⟩
    · have := ready_mono hj hji
      rw [H.1] at this
      cases this
  | succ fuel ih =>
    intro listed a w hsz hdown hfree hr hy hS H
    refine ⟨fun h => (by rw [h] at hr; cases hr), fun j hj => ?_⟩
    by_cases hji : j = i
    · subst hji
      exact hy.wpOp hi hS ⟨fun _ => hS, H⟩
    · have h1 := H.2 j (ready_mono hj hji)
      obtain ⟨hjun, oj, hoj, hall⟩ := mem_ready.1 hj
      have hjlt : j < ops.size := (Array.getElem?_eq_some_iff.1 hoj).1
      have hiun2 : listed.getD i false = false := by rw [getD_conv hsz hilt false true]; exact (mem_ready.1 hr).1
      have hwj : Waited md ops listed j := fun o ho e he hb => by
        rw [hoj] at ho
        cases ho
        exact hall e he hb
      have hkj : kp j = true := by
        cases he : kp j with
        | true => rfl
        | false =>
          have := mask_spec hm hdown hilt j hjlt hwj (hk j hjlt he)
          rw [this] at hiun2
          cases hiun2
      have hnot : ∀ e ∈ oj.after, Region.binds md e = true → e.on ≠ i := fun e he hb heq => by
        have h2 := hall e he hb
        rw [heq, hiun2] at h2
        cases h2
      have h2 := wpOp_putQ hoj (hfree j oj hoj hji hjun hnot) (fun cs b => hsel i oi cs b hi) (fun cs b => hsel j oj cs b hoj) hQ hy h1
      have hfree' : ∀ k ok, ops[k]? = some ok → k ≠ i → (listed.setIfInBounds j true).getD k true = false →
          (∀ e ∈ ok.after, Region.binds md e = true → e.on ≠ i) → oi.apart ops ok = true := fun k ok hk hki hun hno => by
        refine hfree k ok hk hki ?_ hno
        by_cases hjk : j = k
        · subst hjk; exact hjun
        · rw [getD_set_ne true hjk] at hun; exact hun
      refine wpOp_mono (fun a' w' h3 => ?_) h2
      obtain ⟨h4, h5, h6⟩ := h3
      have hS' := h5 hkj
      refine ⟨fun _ => hS', ih (listed.setIfInBounds j true) a' w' (by simpa using hsz) (down_set hdown hwj) hfree' (ready_mono hr (Ne.symm hji)) h4 hS' ?_⟩
      rw [Array.setIfInBounds_comm _ _ hji]
      exact h6

structure BehindC (k : Bool) (S : World → Prop) (K : Act → World → Prop) (e : Exit) (a : Act) (w : World) : Prop where
  normal : e = .normal
  keeps : k = true → S w
  next : K a w
/-- THE WALK: true: it reads. -/
def wpC (P : Program) (ops : Array Oper) (Q : Exit → Act → World → Prop) (S : World → Prop) (kp : Nat → Bool) : List (Nat × Bool) → Act → World → Prop
  | [], a, w => Q .normal a w
  | (i, true) :: rest, a, w => match ops[i]? with
    | some o => q1 P ops S (fun a' => wpC P ops Q S kp rest a' w) o a
    | none => False
  | (i, false) :: rest, a, w => match ops[i]? with
    | some o => wpList P ops (BehindC (kp i) S (wpC P ops Q S kp rest)) [o] a w
    | none => False
/-- Whether the list may serve: reads as soon as they may come up, what is left in one order. -/
def ordB (md : Region.Mode) (ops : Array Oper) (m : Array Nat) (kp : Nat → Bool) : List (Nat × Bool) → Array Bool → Bool
  | [], listed => (Region.ready md ops listed).isEmpty
  | (i, true) :: rest, listed => (Region.ready md ops listed).contains i && Region.free md ops listed i && kp i && ((List.range ops.size).all fun j => kp j || (m.getD j 0).testBit i) && ordB md ops m kp rest (listed.setIfInBounds i true)
  | (i, false) :: rest, listed => decide (Region.ready md ops listed = [i]) && ordB md ops m kp rest (listed.setIfInBounds i true)
theorem wpAnyC_of {m : Array Nat} {kp : Nat → Bool} (hs : Region.noSelect ops = true) (hm : maskB md ops m = true) (hQ : ∀ c d v a w, Q (.panic c) (Act.put a d v) w → Q (.panic c) a w) : ∀ (l : List (Nat × Bool)) (listed : Array Bool) (a : Act) (w : World), listed.size = ops.size → Down md ops listed → ordB md ops m kp l listed = true → (l.any (·.2) = true → S w) → (∀ i, (i, false) ∈ l → kp i = false → ∀ j, (j, true) ∈ l → (m.getD i 0).testBit j = true) → wpC P ops Q S kp l a w → wpAnyC P md ops Q S kp l.length listed a w
  | [], listed, a, w, _, _, hB, _, _, h => ⟨by simpa [ordB] using hB, h⟩
  | (i, true) :: rest, listed, a, w, hsz, hd, hB, hS, hL, h => by
    simp only [ordB, Bool.and_eq_true] at hB
    obtain ⟨⟨⟨⟨hr, hf⟩, he⟩, hk⟩, hB⟩ := hB
    simp only [wpC] at h
    have hS0 := hS (by simp)
    have hr' : i ∈ Region.ready md ops listed := by simpa using hr
    have hd' : Down md ops (listed.setIfInBounds i true) := by
      obtain ⟨_, o, ho, hall⟩ := mem_ready.1 hr'
      refine down_set hd (fun o' ho' e he hb => ?_)
      rw [ho] at ho'
      cases ho'
      exact hall e he hb
    have hmask : ∀ j, j < ops.size → kp j = false → (m.getD j 0).testBit i = true := fun j hj hej => by
      have := List.all_eq_true.1 hk j (by simpa using hj)
      rw [hej] at this
      simpa using this
    cases ho : ops[i]? with
    | none => rw [ho] at h; exact h.elim
    | some o =>
      rw [ho] at h
      obtain ⟨v, h1, h2⟩ := q1_spec h
      exact wpAnyC_first ho (Region.noSelect_spec hs) (fun c a w => hQ c _ _ a w) hm hmask _ listed a w hsz hd (Region.free_spec ho hf) hr' h1 hS0 (wpAnyC_of hs hm hQ rest _ _ w (by simpa using hsz) hd' hB (fun _ => hS0) (fun i' hi' hk' j hj => hL i' (by simp [hi']) hk' j (by simp [hj])) h2)
  | (i, false) :: rest, listed, a, w, hsz, hd, hB, hS, hL, h => by
    simp only [ordB, Bool.and_eq_true, decide_eq_true_eq] at hB
    obtain ⟨hr, hB⟩ := hB
    simp only [wpC] at h
    have hr' : i ∈ Region.ready md ops listed := by rw [hr]; simp
    have hilt : i < ops.size := by
      obtain ⟨_, o, ho, _⟩ := mem_ready.1 hr'
      exact (Array.getElem?_eq_some_iff.1 ho).1
    have hwi : Waited md ops listed i := by
      obtain ⟨_, o, ho, hall⟩ := mem_ready.1 hr'
      intro o' ho' e he hb
      rw [ho] at ho'
      cases ho'
      exact hall e he hb
    have hd' := down_set hd hwi
    have hunl : ∀ (l : List (Nat × Bool)) (listed : Array Bool), ordB md ops m kp l listed = true → ∀ j, (j, true) ∈ l → listed.getD j true = false := by
      intro l
      induction l with
      | nil => intro _ _ j hj; simp at hj
      | cons p r ih =>
        intro listed hB j hj
        rcases p with ⟨k, b⟩
        cases b
        · simp only [ordB, Bool.and_eq_true, decide_eq_true_eq] at hB
          rcases List.mem_cons.1 hj with e | hj
          · cases e
          · have := ih _ hB.2 j hj
            by_cases hkj : k = j
            · subst hkj
              have hk : k ∈ Region.ready md ops listed := by rw [hB.1]; simp
              exact (mem_ready.1 hk).1
            · rwa [getD_set_ne true hkj] at this
        · simp only [ordB, Bool.and_eq_true] at hB
          rcases List.mem_cons.1 hj with e | hj
          · cases e
            have hk : j ∈ Region.ready md ops listed := by simpa using hB.1.1.1.1
            exact (mem_ready.1 hk).1
          · have := ih _ hB.2 j hj
            by_cases hkj : k = j
            · subst hkj
              have hk : k ∈ Region.ready md ops listed := by simpa using hB.1.1.1.1
              exact (mem_ready.1 hk).1
            · rwa [getD_set_ne true hkj] at this
    have hno : kp i = false → ∀ j, (j, true) ∈ rest → False := fun hki j hj => by
      have ht := hL i (by simp) hki j (by simp [hj])
      have hjun := hunl rest _ hB j hj
      have hjlt : j < ops.size := by
        rcases Nat.lt_or_ge j ops.size with h | h
        · exact h
        · exfalso
          rw [Array.getD_eq_getD_getElem?, Array.getElem?_eq_none (by simpa [hsz] using h)] at hjun
          cases hjun
      have h1 := mask_spec hm hd hjlt i hilt hwi ht
      by_cases hij : i = j
      · subst hij
        have := (mem_ready.1 hr').1
        rw [getD_conv hsz hilt true false, h1] at this
        cases this
      · rw [getD_set_ne true hij, getD_conv hsz hjlt true false, h1] at hjun
        cases hjun
    cases ho : ops[i]? with
    | none => rw [ho] at h; exact h.elim
    | some o =>
      rw [ho] at h
      simp only [wpList] at h
      refine ⟨fun h0 => absurd (hr ▸ h0) (by simp), fun j hj => ?_⟩
      obtain rfl : j = i := by rw [hr] at hj; simpa using hj
      have nolet : ¬ LetsOut (BehindC (kp j) S (wpC P ops Q S kp rest)) := by
        rintro ⟨a0, w0, hb⟩
        exact absurd hb.normal (by simp)
      have hrest : ∀ w', (kp j = true → S w') → (rest.any (·.2) = true → S w') := fun w' hk hany => by
        cases hkj : kp j with
        | true => exact hk hkj
        | false =>
          obtain ⟨⟨k, b⟩, hkm, hb⟩ := List.any_eq_true.1 hany
          simp only at hb
          subst hb
          exact (hno hkj k hkm).elim
      unfold wpOp
      simp only [ho]
      by_cases hw : Region.wanted o (yielded ops a.tmps) = true
      · rw [if_pos hw] at h ⊢
        rcases h with h | ⟨_, h⟩
        · refine .inl (upon_mono (fun a' w' hb => ⟨hb.keeps, wpAnyC_of hs hm hQ rest _ a' w' (by simpa using hsz) hd' hB (hrest w' hb.keeps) (fun i' hi' hk' j hj => hL i' (by simp [hi']) hk' j (by simp [hj])) hb.next⟩) (fun c a' w' hb => ?_) nolet h)
          exact absurd hb.normal (by simp)
        · exact absurd h nolet
      · rw [if_neg hw] at h ⊢
        exact ⟨h.keeps, wpAnyC_of hs hm hQ rest _ _ w (by simpa using hsz) hd' hB (hrest w h.keeps) (fun i' hi' hk' j hj => hL i' (by simp [hi']) hk' j (by simp [hj])) h.next⟩

/-- The walk along the operations themselves. -/
def pick (ops : Array Oper) (order : List (Nat × Bool)) : List (Nat × Bool × Option Oper) := order.map fun p => (p.1, p.2, ops[p.1]?)
def wpL (P : Program) (ops : Array Oper) (Q : Exit → Act → World → Prop) (S : World → Prop) (kp : Nat → Bool) : List (Nat × Bool × Option Oper) → Act → World → Prop
  | [], a, w => Q .normal a w
  | (_, true, some o) :: rest, a, w => q1 P ops S (fun a' => wpL P ops Q S kp rest a' w) o a
  | (i, false, some o) :: rest, a, w => wpList P ops (BehindC (kp i) S (wpL P ops Q S kp rest)) [o] a w
  | (_, _, none) :: _, _, _ => False
theorem wpC_of_pick {kp : Nat → Bool} : ∀ (l : List (Nat × Bool)), wpL P ops Q S kp (pick ops l) = wpC P ops Q S kp l
  | [] => rfl
  | (i, b) :: rest => by
    funext a w
    have ih := wpC_of_pick (kp := kp) rest
    show wpL P ops Q S kp ((i, b, ops[i]?) :: pick ops rest) a w = _
    cases b <;> cases ho : ops[i]? <;> simp only [wpL, wpC, ho, ih]
/-- Behind all but these the class is to be shown. -/
def kpL (free : List Nat) (i : Nat) : Bool := !free.contains i
/-- THE REGION. m: whom each operation waits for, as masks; order: the walk, true: it reads; free: operations that wait for all that reads. -/
theorem wp_region_cls {id : Nat} {a : Act} {w : World} (m : Array Nat) (order : List (Nat × Bool)) (free : List Nat) (hm : P.follows .mixedOrders = true) (hB : (Region.noSelect ops && (order.length == ops.size) && maskB .any ops m && ordB .any ops m (kpL free) order (Array.replicate ops.size false) && free.all fun i => order.all fun p => !p.2 || (m.getD i 0).testBit p.1) = true)
    (hQ : ∀ c d v a w, Q (.panic c) (Act.put a d v) w → Q (.panic c) a w) (hS : S w.drew)
    (h : wpL P ops Q S (kpL free) (pick ops order) a w.drew) : (Code.region id ops true).wp P Q a w := by
  rw [wpC_of_pick] at h
  simp only [Bool.and_eq_true, beq_iff_eq] at hB
  obtain ⟨⟨⟨⟨hB1, hB2⟩, hB3⟩, hB4⟩, hB5⟩ := hB
  have hd : Down .any ops (Array.replicate ops.size false) := fun j hj => by
    simp only [Array.getD_eq_getD_getElem?, Array.getElem?_replicate] at hj
    split at hj <;> simp at hj
  have h1 := wpAnyC_of (md := .any) (m := m) (kp := kpL free) hB1 hB3 hQ order (Array.replicate ops.size false) a w.drew (by simp) hd hB4 (fun _ => hS) (fun i _ hk j hj => by
    have hi : i ∈ free := by simpa [kpL] using hk
    have := List.all_eq_true.1 (List.all_eq_true.1 hB5 i hi) (j, true) hj
    simpa using this) h
  rw [hB2] at h1
  exact wp_region_any hm (wpAny_of_C _ _ _ _ h1)
/-- THE REGION, where all reads, and calls that leave the world, are met in the world as it is. -/
theorem wp_region_one {id : Nat} {a : Act} {w : World} (m : Array Nat) (order : List (Nat × Bool)) (free : List Nat) (hm : P.follows .mixedOrders = true) (hB : (Region.noSelect ops && (order.length == ops.size) && maskB .any ops m && ordB .any ops m (kpL free) order (Array.replicate ops.size false) && free.all fun i => order.all fun p => !p.2 || (m.getD i 0).testBit p.1) = true)
    (hQ : ∀ c d v a w, Q (.panic c) (Act.put a d v) w → Q (.panic c) a w)
    (h : wpL P ops Q (fun w' => w' = w.drew) (kpL free) (pick ops order) a w.drew) : (Code.region id ops true).wp P Q a w :=
  wp_region_cls (S := fun w' => w' = w.drew) m order free hm hB hQ rfl h
/-- THE REGION, over the worlds with blocks laid behind. -/
theorem wp_region_reg {id : Nat} {a : Act} {w : World} (m : Array Nat) (order : List (Nat × Bool)) (free : List Nat) (hm : P.follows .mixedOrders = true) (hB : (Region.noSelect ops && (order.length == ops.size) && maskB .any ops m && ordB .any ops m (kpL free) order (Array.replicate ops.size false) && free.all fun i => order.all fun p => !p.2 || (m.getD i 0).testBit p.1) = true)
    (hQ : ∀ c d v a w, Q (.panic c) (Act.put a d v) w → Q (.panic c) a w)
    (h : wpL P ops Q (fun w' => ∃ p : Regrown, w' = Go.Sort.grow (redrawn w p.d) p.os) (kpL free) (pick ops order) a w.drew) : (Code.region id ops true).wp P Q a w :=
  wp_region_cls (S := fun w' => ∃ p : Regrown, w' = Go.Sort.grow (redrawn w p.d) p.os) m order free hm hB hQ ⟨⟨w.drawn + 1, #[]⟩, by rw [Go.Sort.grow_empty]; rfl⟩ h
theorem c_read {kp : Nat → Bool} {i : Nat} {o : Oper} {rest : List (Nat × Bool × Option Oper)} {a : Act} {w : World} (h : q1 P ops S (fun a' => wpL P ops Q S kp rest a' w) o a) : wpL P ops Q S kp ((i, true, some o) :: rest) a w := h
/-- One operation that reads. -/
theorem c_step {kp : Nat → Bool} {i : Nat} {o : Oper} {rest : List (Nat × Bool × Option Oper)} {a : Act} {w : World} (h : ∀ K : Act → Prop, (∀ a, wpL P ops Q S kp rest a w → K a) → if Region.wanted o (yielded ops a.tmps) then ∃ v, (∀ w, S w → o.quietAt P a (fun w'' => w'' = w) w v) ∧ K (a.put o.dst v) else K (a.put o.dst undef)) : wpL P ops Q S kp ((i, true, some o) :: rest) a w :=
  h _ (fun _ h => h)
theorem c_does {kp : Nat → Bool} {k : Bool} {i : Nat} {o : Oper} {rest : List (Nat × Bool × Option Oper)} {a : Act} {w : World} (hk : kp i = k) (h : wpList P ops (BehindC k S (wpL P ops Q S kp rest)) [o] a w) : wpL P ops Q S kp ((i, false, some o) :: rest) a w := by
  simp only [wpL, hk]
  exact h
theorem c_nil {kp : Nat → Bool} {a : Act} {w : World} (h : Q .normal a w) : wpL P ops Q S kp [] a w := h
theorem behind_last {K : Act → World → Prop} {a : Act} {w : World} (h : K a w) : BehindC false S K .normal a w := ⟨rfl, fun h => (by cases h), h⟩
theorem behind_cls {K : Act → World → Prop} {a : Act} {w : World} (hS : S w) (h : K a w) : BehindC true S K .normal a w := ⟨rfl, fun _ => hS, h⟩
end
end Go.Ord
end

/-
  Masks of low bits. No program in sight.
-/
section
namespace Go.Viv
theorem i64_mask (n m : Int) (k : Nat) (hk : k ≤ 62) (h : (BitVec.ofInt 64 m).toNat = 2 ^ k - 1) : bits .and .i64 n m = n % ((2 ^ k : Nat) : Int) := by
  have key : (BitVec.ofInt 64 n &&& BitVec.ofInt 64 m).toNat = (n % ((2 ^ 64 : Nat) : Int)).toNat % 2 ^ k := by
    rw [BitVec.toNat_and, BitVec.toNat_ofInt, h, Nat.and_two_pow_sub_one_eq_mod]
  show IntKind.i64.wrap ((BitVec.ofInt 64 n &&& BitVec.ofInt 64 m).toNat : Nat) = _
  rw [key]
  have e1 : (((n % ((2 ^ 64 : Nat) : Int)).toNat % 2 ^ k : Nat) : Int) = n % ((2 ^ k : Nat) : Int) := by
    rw [Int.natCast_emod, Int.toNat_of_nonneg (Int.emod_nonneg _ (by decide))]
    refine Int.emod_emod_of_dvd _ ?_
    exact Int.natCast_dvd_natCast.2 (Nat.pow_dvd_pow 2 (by omega))
  rw [e1]
  have hp : (2 : Nat) ^ k ≤ 2 ^ 62 := Nat.pow_le_pow_right (by decide) hk
  have e62 : (2 : Nat) ^ 62 = 4611686018427387904 := by decide
  have hpos : (0 : Int) < ((2 ^ k : Nat) : Int) := by exact_mod_cast Nat.pow_pos (by decide)
  have h0 := Int.emod_nonneg n (Int.ne_of_gt hpos)
  have h1 := Int.emod_lt_of_pos n hpos
  rw [IntKind.wrap_i64]
  generalize n % ((2 ^ k : Nat) : Int) = r at *
  have h2 : ((2 ^ k : Nat) : Int) ≤ 4611686018427387904 := by rw [e62] at hp; omega
  show (r + 9223372036854775808) % 18446744073709551616 - 9223372036854775808 = r
  omega
theorem mask_nat (x m : Int) (k : Nat) (hk : k ≤ 62) (h : (BitVec.ofInt 64 m).toNat = 2 ^ k - 1) : ∃ r : Nat, bits .and .i64 x m = r ∧ r < 2 ^ k := by
  have hp : (0 : Int) < ((2 ^ k : Nat) : Int) := by exact_mod_cast Nat.pow_pos (by decide)
  have h0 := Int.emod_nonneg x (Int.ne_of_gt hp)
  have h1 := Int.emod_lt_of_pos x hp
  exact ⟨(x % ((2 ^ k : Nat) : Int)).toNat, by rw [i64_mask x m k hk h, Int.toNat_of_nonneg h0], by omega⟩
theorem and_nat (x : Nat) (m : Int) (k : Nat) (hk : k ≤ 62) (h : (BitVec.ofInt 64 m).toNat = 2 ^ k - 1) : bits .and .i64 (x : Int) m = ((x % 2 ^ k : Nat) : Int) := by
  rw [i64_mask _ m k hk h]
  simp
theorem ofInt_wrap (n : Int) : BitVec.ofInt 64 (IntKind.i64.wrap n) = BitVec.ofInt 64 n := by
  apply BitVec.eq_of_toNat_eq
  rw [BitVec.toNat_ofInt, BitVec.toNat_ofInt, IntKind.wrap_i64]
  congr 1
  have e : ((2 ^ 64 : Nat) : Int) = 18446744073709551616 := by decide
  rw [e]
  omega
theorem bit_fdiv (U : Int) (j : Nat) (hj : j < 64) : (U.fdiv (2 ^ j) % 2 = 1) ↔ (BitVec.ofInt 64 U).getLsbD j = true := by
  have hp : (0 : Int) < 2 ^ j := Int.pow_pos (by decide)
  rw [Int.fdiv_eq_ediv_of_nonneg _ (Int.le_of_lt hp)]
  unfold BitVec.getLsbD
  rw [BitVec.toNat_ofInt, Nat.testBit_eq_decide_div_mod_eq, decide_eq_true_eq]
  have e : ((2 ^ 64 : Nat) : Int) = 2 ^ j * (2 * 2 ^ (63 - j)) := by
    rw [← Int.pow_succ', ← Int.pow_add, show j + (63 - j + 1) = 64 by omega]
    rfl
  have hq := Int.emod_nonneg U (show ((2 ^ 64 : Nat) : Int) ≠ 0 by decide)
  have hd := Int.mul_ediv_add_emod U ((2 ^ 64 : Nat) : Int)
  generalize hr : U % ((2 ^ 64 : Nat) : Int) = r at *
  generalize U / ((2 ^ 64 : Nat) : Int) = q at *
  obtain ⟨n, rfl⟩ := Int.eq_ofNat_of_zero_le hq
  have hU : U / 2 ^ j = 2 * (2 ^ (63 - j) * q) + (n : Int) / 2 ^ j := by
    rw [← hd, e, Int.mul_assoc, Int.mul_assoc, Int.add_comm, Int.add_mul_ediv_left _ _ (Int.ne_of_gt hp), Int.add_comm]
  rw [hU, Int.toNat_natCast]
  have hc : ((n / 2 ^ j : Nat) : Int) = (n : Int) / 2 ^ j := by simp
  rw [← hc]
  omega
theorem bit_pow (c j : Nat) (hc : c < 64) : (BitVec.ofInt 64 (IntKind.i64.wrap (2 ^ c))).getLsbD j = decide (j = c) := by
  rw [ofInt_wrap]
  have e : (2 : Int) ^ c = ((2 ^ c : Nat) : Int) := by simp
  unfold BitVec.getLsbD
  rw [BitVec.toNat_ofInt, e, ← Int.natCast_emod, Int.toNat_natCast, Nat.mod_eq_of_lt (Nat.pow_lt_pow_right (by decide) hc), Nat.testBit_two_pow]
  rw [decide_eq_decide]
  omega
theorem bits_or (a b : Int) : BitVec.ofInt 64 (bits .or .i64 a b) = BitVec.ofInt 64 a ||| BitVec.ofInt 64 b := by
  show BitVec.ofInt 64 (IntKind.i64.wrap ((BitVec.ofInt 64 a ||| BitVec.ofInt 64 b).toNat : Nat)) = _
  rw [ofInt_wrap]
  apply BitVec.eq_of_toNat_eq
  rw [BitVec.toNat_ofInt, ← Int.natCast_emod, Int.toNat_natCast, Nat.mod_eq_of_lt (BitVec.isLt _)]
end Go.Viv
end

/-
  Contracts of package bits: one, all, With, Without, Has, First; of hibit's ok, digit.
-/
section
namespace Go.Viv
open Go.RowKit
/-- A number's bit. -/
def oneN (i : Int) : Nat := if i < 0 ∨ 64 ≤ i then 0 else 2 ^ i.toNat
theorem oneN_lt (i : Int) : oneN i < 18446744073709551616 := by
  unfold oneN
  split
  · decide
  · have : 2 ^ i.toNat < 2 ^ 64 := Nat.pow_lt_pow_right (by decide) (by omega)
    exact this
theorem oneN_bit (i : Int) (d : Nat) : (oneN i).testBit d = (decide (i = d) && decide (d < 64)) := by
  unfold oneN
  split
  · rw [Nat.zero_testBit]
    by_cases h : i = d
    · rw [decide_eq_true h, decide_eq_false (by omega)]; rfl
    · rw [decide_eq_false h]; rfl
  · rw [Nat.testBit_two_pow]
    by_cases h : i = d
    · rw [decide_eq_true h, decide_eq_true (by omega), decide_eq_true (by omega)]; rfl
    · rw [decide_eq_false h, decide_eq_false (by omega)]; rfl
def allN (l : List Int) : Nat := l.foldl (fun w i => w ||| oneN i) 0
theorem allN_lt (l : List Int) : allN l < 18446744073709551616 := by
  unfold allN
  suffices h : ∀ (l : List Int) (a : Nat), a < 2 ^ 64 → l.foldl (fun w i => w ||| oneN i) a < 2 ^ 64 from h l 0 (by decide)
  intro l
  induction l with
  | nil => intro a h; exact h
  | cons x r ih => intro a h; exact ih _ (Nat.or_lt_two_pow h (oneN_lt x))
theorem allN_one (i : Int) : allN [i] = oneN i := by simp [allN]
theorem wrapU_nat {n : Nat} (h : n < 18446744073709551616) : IntKind.u64.wrap (n : Int) = n := by
  rw [IntKind.wrap_u64]
  omega
/-- Whether a word has a number. -/
def bitI (x : Nat) (i : Int) : Bool := decide (0 ≤ i) && decide (i < 64) && x.testBit i.toNat
theorem and_pow (x k : Nat) : x &&& 2 ^ k = if x.testBit k then 2 ^ k else 0 := by
  apply Nat.eq_of_testBit_eq
  intro j
  rw [Nat.testBit_and, Nat.testBit_two_pow]
  by_cases hj : k = j
  · subst hj
    cases x.testBit k <;> simp
  · rw [decide_eq_false hj, Bool.and_false]
    cases x.testBit k <;> simp [hj]
theorem and_one (x : Nat) (i : Int) : (((x &&& oneN i : Nat) : Int) != 0) = bitI x i := by
  unfold oneN bitI
  by_cases h : i < 0 ∨ 64 ≤ i
  · rw [if_pos h, Nat.and_zero]
    rcases h with h | h
    · rw [decide_eq_false (by omega : ¬ 0 ≤ i)]; rfl
    · rw [decide_eq_false (by omega : ¬ i < 64), Bool.and_false, Bool.false_and]; rfl
  · rw [if_neg h, decide_eq_true (by omega), decide_eq_true (by omega), Bool.true_and, Bool.true_and]
    cases hb : x.testBit i.toNat with
    | true =>
      rw [and_pow, hb]
      have := Nat.pow_pos (n := i.toNat) (show 0 < 2 by decide)
      generalize 2 ^ i.toNat = m at *
      rw [if_pos rfl]
      exact bne_iff_ne.2 (by omega)
    | false =>
      rw [and_pow, hb]
      simp
end Go.Viv
namespace Go.Proofs.YtclmjcjaebonnaaGreatDoor
open Go.RowKit Go.Viv
theorem one_any (i : Int) (w : World) : Calls Tryz.prog 183 #[.int .i64 i] w fun e w' => e = .returned (.int .u64 (oneN i : Nat)) ∧ w = w' := by
  unfold oneN
  by_cases h0 : i < 0
  · rw [if_pos (.inl h0)]
    go_enter Tryz.func183, Tryz.ntmps183
    go_wp2
    go_ret
    exact ⟨rfl, rfl⟩
  · by_cases h1 : 64 ≤ i
    · rw [if_pos (.inr h1)]
      go_enter Tryz.func183, Tryz.ntmps183
      go_wp2
      go_ret
      exact ⟨rfl, rfl⟩
    · rw [if_neg (by omega)]
      obtain ⟨k, rfl⟩ := Int.eq_ofNat_of_zero_le (show 0 ≤ i by omega)
      go_enter Tryz.func183, Tryz.ntmps183
      go_wp2
      go_ret
      refine ⟨?_, rfl⟩
      show Ending.returned (.int .u64 (IntKind.u64.wrap (2 ^ k))) = _
      rw [show (2 : Int) ^ k = ((2 ^ k : Nat) : Int) from by simp, wrapU_nat (show 2 ^ k < 2 ^ 64 from Nat.pow_lt_pow_right (by decide) (by omega))]
set_option maxHeartbeats 1000000 in
theorem all_any (l : List Int) (A : Option Addr) (cap : Nat) (w : World) (hr : RowC w A (ints l)) (_hn : l.length ≤ cap) (_hc : cap ≤ 9223372036854775807) :
    Calls Tryz.prog 135 #[.slice A l.length cap] w fun e w' => e = .returned (.int .u64 (allN l : Nat)) ∧ w = w' := by
  have HR := Lib.hid hr
  obtain ⟨n, hnl⟩ : ∃ n, l.length = n := ⟨_, rfl⟩
  have HN := Lib.hid hnl
  rw [hnl] at _hn ⊢
  clear hr hnl
  go_enter Tryz.func135, Tryz.ntmps135
  go_wp2_with fail
  go_loop [3, 5, 8] (fun u _ t => ∃ k : Nat, k ≤ n ∧ t = .int .i64 k ∧ u = .int .u64 (allN (l.take k) : Nat)) (fun _ _ t => n - (intOf t).toNat)
  case atStart => exact ⟨0, by omega, rfl, rfl⟩
  case round =>
    obtain ⟨k, hk, rfl, rfl⟩ := hrel
    by_cases hlt : k < n
    · obtain ⟨x, hx⟩ : ∃ x, l[k]? = some x := ⟨_, List.getElem?_eq_getElem (by rw [HN.out]; exact hlt)⟩
      obtain ⟨b, o, rfl, hbw, d0⟩ := rowN_at HR.out hx
      have HA := Lib.hid (show allN (l.take (k + 1)) = allN (l.take k) ||| oneN x from by
        unfold allN
        rw [List.take_add_one, hx]
        simp)
      have h1 := allN_lt (l.take k)
      obtain ⟨a, ha⟩ : ∃ a, allN (l.take k) = a := ⟨_, rfl⟩
      rw [ha] at h1 HA ⊢
      have hor := u64_or_nat a (oneN x) h1 (oneN_lt x)
      have HC := Lib.hid (one_any x w)
      clear hx ha
      go_wp2_with fail
      refine HC.out.mono ?_
      rintro e w2 ⟨rfl, rfl⟩
      go_wp2
      go_round
      case rel => exact ⟨k + 1, by omega, by go_num, by rw [HA.out]⟩
      case measure => simp [intOf]; omega
    · obtain rfl : k = n := by omega
      go_wp2
      go_ret
      exact ⟨by rw [List.take_of_length_le (by rw [HN.out]; exact Nat.le_refl _)]; rfl, rfl⟩
theorem with_w (x : Nat) (hx : x < 18446744073709551616) (l : List Int) (A : Option Addr) (cap : Nat) (w : World) (hr : RowC w A (ints l)) (hn : l.length ≤ cap) (hc : cap ≤ 9223372036854775807) :
    Calls Tryz.prog 90 #[.int .u64 x, .slice A l.length cap] w fun e w' => e = .returned (.int .u64 (x ||| allN l : Nat)) ∧ w = w' := by
  have HC := Lib.hid (all_any l A cap w hr hn hc)
  have hor := u64_or_nat x (allN l) hx (allN_lt l)
  obtain ⟨a, ha⟩ : ∃ a, allN l = a := ⟨_, rfl⟩
  obtain ⟨n, hnl⟩ : ∃ n, l.length = n := ⟨_, rfl⟩
  rw [ha, hnl] at HC
  rw [ha] at hor ⊢
  rw [hnl]
  clear hr ha hn hnl
  go_enter Tryz.func90, Tryz.ntmps90
  go_wp2_with fail
  refine HC.out.mono ?_
  rintro e w2 ⟨rfl, rfl⟩
  go_wp2
  go_ret
  exact ⟨rfl, rfl⟩
theorem without_w (x : Nat) (hx : x < 18446744073709551616) (l : List Int) (A : Option Addr) (cap : Nat) (w : World) (hr : RowC w A (ints l)) (hn : l.length ≤ cap) (hc : cap ≤ 9223372036854775807) :
    Calls Tryz.prog 185 #[.int .u64 x, .slice A l.length cap] w fun e w' => e = .returned (.int .u64 (x &&& (18446744073709551615 - allN l) : Nat)) ∧ w = w' := by
  have HC := Lib.hid (all_any l A cap w hr hn hc)
  have hor := u64_andNot_nat x (allN l) hx (allN_lt l)
  obtain ⟨a, ha⟩ : ∃ a, allN l = a := ⟨_, rfl⟩
  obtain ⟨n, hnl⟩ : ∃ n, l.length = n := ⟨_, rfl⟩
  rw [ha, hnl] at HC
  rw [ha] at hor ⊢
  rw [hnl]
  clear hr ha hn hnl
  go_enter Tryz.func185, Tryz.ntmps185
  go_wp2_with fail
  refine HC.out.mono ?_
  rintro e w2 ⟨rfl, rfl⟩
  go_wp2
  go_ret
  exact ⟨rfl, rfl⟩
theorem has_w (x : Nat) (hx : x < 18446744073709551616) (i : Int) (w : World) :
    Calls Tryz.prog 134 #[.int .u64 x, .int .i64 i] w fun e w' => e = .returned (.bool (bitI x i)) ∧ w = w' := by
  have HC := Lib.hid (one_any i w)
  have hor := u64_and_nat x (oneN i) hx (oneN_lt i)
  have HB := Lib.hid (show (((x &&& oneN i : Nat) : Int) != 0) = bitI x i from and_one x i)
  obtain ⟨a, ha⟩ : ∃ a, oneN i = a := ⟨_, rfl⟩
  rw [ha] at HC hor HB
  clear ha
  go_enter Tryz.func134, Tryz.ntmps134
  go_wp2_with fail
  refine HC.out.mono ?_
  rintro e w2 ⟨rfl, rfl⟩
  go_wp2
  go_ret
  exact ⟨by rw [← HB.out]; rfl, rfl⟩
theorem tz_any (x : Nat) (hx : x < 18446744073709551616) (w : World) (hT : TabAt 0 Lib.deBruijn64tab w) :
    Calls Tryz.prog 197 #[.int .u64 x] w fun e w' => e = .returned (.int .i64 (Lib.ctz 64 x)) ∧ w = w' := by
  by_cases hx0 : x = 0
  · subst hx0
    go_enter Tryz.func197, Tryz.ntmps197
    go_wp2
    go_ret
    exact ⟨rfl, rfl⟩
  · obtain ⟨hlow, hk⟩ := Lib.lowest_bit 64 x hx0 hx
    obtain ⟨hi, htab⟩ := Lib.deBruijn64_at _ hk
    have hcell := hT _ hi
    rw [htab] at hcell
    have key := tz64_key x _ hx hx0 hlow
    have h0 : ((x : Int) == 0) = false := by simp; omega
    obtain ⟨k, hkk⟩ : ∃ k, Lib.ctz 64 x = k := ⟨_, rfl⟩
    rw [hkk] at hcell hk key hi ⊢
    obtain ⟨j, hj⟩ : ∃ j, 2 ^ k * 285870213051353865 % 18446744073709551616 / 288230376151711744 = j := ⟨_, rfl⟩
    rw [hj] at hcell key hi
    clear hT htab hlow hkk hj
    go_enter Tryz.func197, Tryz.ntmps197
    go_wp2_with (simp only [key])
    go_ret
    exact ⟨rfl, rfl⟩
/-- hibit's ok, digit. -/
theorem ok_any (i : Int) (w : World) : Calls Tryz.prog 87 #[.int .i64 i] w fun e w' => e = .returned (.bool (decide (0 ≤ i) && decide (i < 16777216))) ∧ w = w' := by
  by_cases h0 : 0 ≤ i
  · rw [decide_eq_true h0]
    obtain ⟨b, hb⟩ : ∃ b, decide (i < 16777216) = b := ⟨_, rfl⟩
    rw [hb]
    go_enter Tryz.func87, Tryz.ntmps87
    go_wp2
    go_ret
    exact ⟨by rw [← hb]; rfl, rfl⟩
  · rw [decide_eq_false h0]
    go_enter Tryz.func87, Tryz.ntmps87
    go_wp2
    go_ret
    exact ⟨rfl, rfl⟩
theorem digit_any (i L : Nat) (_hi : i < 16777216) (hL : L ≤ 3) (w : World) : Calls Tryz.prog 89 #[.int .i64 (i : Int), .int .i64 (L : Int)] w fun e w' => e = .returned (.int .i64 ((i / 64 ^ L % 64 : Nat) : Int)) ∧ w = w' := by
  have hLs : L = 0 ∨ L = 1 ∨ L = 2 ∨ L = 3 := by omega
  rcases hLs with rfl | rfl | rfl | rfl
  all_goals
    go_enter Tryz.func89, Tryz.ntmps89
    go_wp2
    go_ret
    refine ⟨?_, rfl⟩
    first
      | exact congrArg (fun n => Ending.returned (Value.int .i64 n)) ((and_nat i 63 6 (by decide) (by decide)).trans (by simp))
      | exact congrArg (fun n => Ending.returned (Value.int .i64 n)) ((congrArg (fun n => bits .and .i64 n 63) (show (i : Int) / 64 = ((i / 64 : Nat) : Int) from by simp)).trans ((and_nat (i / 64) 63 6 (by decide) (by decide)).trans (by simp)))
      | exact congrArg (fun n => Ending.returned (Value.int .i64 n)) ((congrArg (fun n => bits .and .i64 n 63) (show (i : Int) / 4096 = ((i / 4096 : Nat) : Int) from by simp)).trans ((and_nat (i / 4096) 63 6 (by decide) (by decide)).trans (by simp)))
      | exact congrArg (fun n => Ending.returned (Value.int .i64 n)) ((congrArg (fun n => bits .and .i64 n 63) (show (i : Int) / 262144 = ((i / 262144 : Nat) : Int) from by simp)).trans ((and_nat (i / 262144) 63 6 (by decide) (by decide)).trans (by simp)))
end Go.Proofs.YtclmjcjaebonnaaGreatDoor
end

/-
  Rising rows of numbers: one put in, one struck, the next one. No program in sight.
-/
section
namespace Go.Viv

def RiseN : List Nat → Prop
  | [] => True
  | a :: r => (∀ x ∈ r, a < x) ∧ RiseN r
def insN (i : Nat) : List Nat → List Nat
  | [] => [i]
  | a :: r => if i < a then i :: a :: r else if i = a then a :: r else a :: insN i r
def remN (i : Nat) (l : List Nat) : List Nat := l.filter (fun x => decide (x ≠ i))
def nextN (l : List Nat) (k : Nat) : Option Nat := l.find? (fun x => decide (k ≤ x))

theorem mem_insN {i x : Nat} : ∀ {l : List Nat}, x ∈ insN i l ↔ x = i ∨ x ∈ l
  | [] => by simp [insN]
  | a :: r => by
    unfold insN
    split
    · simp
    · split
      · rename_i h; subst h; simp
      · simp [mem_insN (l := r)]; constructor
        · rintro (h | h | h)
          · exact .inr (.inl h)
          · exact .inl h
          · exact .inr (.inr h)
        · rintro (h | h | h)
          · exact .inr (.inl h)
          · exact .inl h
          · exact .inr (.inr h)
theorem riseN_ins {i : Nat} : ∀ {l : List Nat}, RiseN l → RiseN (insN i l)
  | [], _ => ⟨by simp, trivial⟩
  | a :: r, h => by
    unfold insN
    split
    · rename_i hlt
      exact ⟨fun x hx => by
        rcases List.mem_cons.1 hx with rfl | hx
        · exact hlt
        · exact Nat.lt_trans hlt (h.1 x hx), h⟩
    · split
      · exact h
      · refine ⟨fun x hx => ?_, riseN_ins h.2⟩
        rcases mem_insN.1 hx with rfl | hx
        · omega
        · exact h.1 x hx
theorem insN_there {i : Nat} : ∀ {l : List Nat}, RiseN l → i ∈ l → insN i l = l
  | [], _, h => by simp at h
  | a :: r, h, hm => by
    unfold insN
    rcases List.mem_cons.1 hm with rfl | hm
    · rw [if_neg (Nat.lt_irrefl _), if_pos rfl]
    · have := h.1 i hm
      rw [if_neg (by omega), if_neg (by omega), insN_there h.2 hm]
theorem insN_len {i : Nat} : ∀ {l : List Nat}, RiseN l → i ∉ l → (insN i l).length = l.length + 1
  | [], _, _ => rfl
  | a :: r, h, hm => by
    unfold insN
    split
    · rfl
    · rw [if_neg (fun e => hm (by simp [e])), List.length_cons, insN_len h.2 (fun hx => hm (by simp [hx])), List.length_cons]
theorem mem_remN {i x : Nat} {l : List Nat} : x ∈ remN i l ↔ x ∈ l ∧ x ≠ i := by simp [remN]
theorem riseN_filter {p : Nat → Bool} : ∀ {l : List Nat}, RiseN l → RiseN (l.filter p)
  | [], _ => trivial
  | a :: r, h => by
    rw [List.filter_cons]
    split
    · exact ⟨fun x hx => h.1 x (List.mem_filter.1 hx).1, riseN_filter h.2⟩
    · exact riseN_filter h.2
theorem remN_not {i : Nat} {l : List Nat} (h : i ∉ l) : remN i l = l := by
  unfold remN
  rw [List.filter_eq_self]
  intro x hx
  simp only [decide_eq_true_eq]
  rintro rfl
  exact h hx
theorem remN_len {i : Nat} : ∀ {l : List Nat}, RiseN l → i ∈ l → (remN i l).length + 1 = l.length
  | [], _, h => by simp at h
  | a :: r, h, hm => by
    unfold remN
    rw [List.filter_cons]
    rcases List.mem_cons.1 hm with rfl | hm
    · have hn : i ∉ r := fun hx => Nat.lt_irrefl _ (h.1 i hx)
      have := remN_not hn
      unfold remN at this
      simp only [ne_eq, not_true_eq_false, decide_false, Bool.false_eq_true, if_false]
      rw [show (List.filter (fun x => decide ¬x = i) r) = r from this]
      rfl
    · have hne : a ≠ i := fun e => by subst e; exact Nat.lt_irrefl _ (h.1 a hm)
      simp only [ne_eq, hne, not_false_eq_true, decide_true, if_true, List.length_cons]
      have := remN_len h.2 hm
      unfold remN at this
      simp only [ne_eq] at this
      omega
theorem nextN_some {l : List Nat} {k i : Nat} (hr : RiseN l) (h : nextN l k = some i) : i ∈ l ∧ k ≤ i ∧ ∀ x ∈ l, k ≤ x → i ≤ x := by
  induction l with
  | nil => simp [nextN] at h
  | cons a r ih =>
    unfold nextN at h
    rw [List.find?_cons] at h
    by_cases hk : k ≤ a
    · rw [decide_eq_true hk] at h
      obtain rfl := Option.some.inj h
      exact ⟨by simp, hk, fun x hx _ => by
        rcases List.mem_cons.1 hx with rfl | hx
        · exact Nat.le_refl _
        · exact Nat.le_of_lt (hr.1 x hx)⟩
    · rw [decide_eq_false hk] at h
      obtain ⟨h1, h2, h3⟩ := ih hr.2 h
      exact ⟨by simp [h1], h2, fun x hx hkx => by
        rcases List.mem_cons.1 hx with rfl | hx
        · omega
        · exact h3 x hx hkx⟩
theorem nextN_none {l : List Nat} {k : Nat} : nextN l k = none ↔ ∀ x ∈ l, x < k := by
  unfold nextN
  rw [List.find?_eq_none]
  constructor
  · intro h x hx
    have := h x hx
    simp at this
    exact this
  · intro h x hx
    have := h x hx
    simp
    exact this
theorem nextN_of {l : List Nat} {k i : Nat} (hr : RiseN l) (hi : i ∈ l) (hk : k ≤ i) (hmin : ∀ x ∈ l, k ≤ x → i ≤ x) : nextN l k = some i := by
  cases h : nextN l k with
  | none => have := nextN_none.1 h i hi; omega
  | some j =>
    obtain ⟨h1, h2, h3⟩ := nextN_some hr h
    have a := h3 i hi hk
    have b := hmin j h1 h2
    rw [show j = i by omega]
theorem riseN_ext : ∀ {a b : List Nat}, RiseN a → RiseN b → (∀ x, x ∈ a ↔ x ∈ b) → a = b
  | [], [], _, _, _ => rfl
  | [], y :: s, _, _, h => by have := (h y).2 (by simp); simp at this
  | x :: r, [], _, _, h => by have := (h x).1 (by simp); simp at this
  | x :: r, y :: s, ha, hb, h => by
    have hxy : x = y := by
      have h1 := (h x).1 (by simp)
      have h2 := (h y).2 (by simp)
      rcases List.mem_cons.1 h1 with e | h1
      · exact e
      · rcases List.mem_cons.1 h2 with e | h2
        · exact e.symm
        · have := hb.1 x h1
          have := ha.1 y h2
          omega
    subst hxy
    rw [riseN_ext ha.2 hb.2 (fun z => ?_)]
    constructor
    · intro hz
      have h1 := (h z).1 (by simp [hz])
      rcases List.mem_cons.1 h1 with rfl | h1
      · have := ha.1 z hz; omega
      · exact h1
    · intro hz
      have h1 := (h z).2 (by simp [hz])
      rcases List.mem_cons.1 h1 with rfl | h1
      · have := hb.1 z hz; omega
      · exact h1
end Go.Viv
end

/-
  The walks of regions by footprints. No program in sight.
-/
section
namespace Go.Viv
open Go.RowKit Go.Sort

theorem fr_two {w w1 w2 : World} (h1 : Fr (fun _ => False) w w1) (h2 : Fr (fun _ => False) w1 w2) : Fr (fun _ => False) w w2 := h1.trans h2 (fun _ h => h.elim)
theorem reg_of_fr {W w' : World} (h : Fr (fun _ => False) W w') : ∃ p : Regrown, w' = grow (redrawn W p.d) p.os := regrown_of_below (h.below (Nat.le_refl _) (fun _ h => h.elim))
theorem fr_regrown {V W : World} (h : Fr (fun _ => False) V W) (d : Nat) (os : Array Obj) : Fr (fun _ => False) V (grow (redrawn W d) os) :=
  fr_two h (Fr.of_below (below_regrown W d os))
/-- A contract of a callee that leaves what was there as it was, met in the walk of a region. -/
theorem calls_reg {P : Program} {f : FuncId} {args : Array Value} {W : World} {d : Nat} {os : Array Obj} {v : Value}
    (h : Calls P f args (grow (redrawn W d) os) fun e w' => e = .returned v ∧ Fr (fun _ => False) (grow (redrawn W d) os) w') : Calls P f args (grow (redrawn W d) os) fun e w'' => e = .returned v ∧ ∃ p : Regrown, w'' = grow (redrawn W p.d) p.os :=
  Calls.regrown_of (h.mono fun _ _ ⟨h1, h2⟩ => ⟨h1, h2.below (Nat.le_refl _) (fun _ h => h.elim)⟩)
/-- Behind an operation that a region carries out. -/
theorem behind {K : Act → World → Prop} {a : Act} {W w' : World} (h : Fr (fun _ => False) W w') (hk : K a w') : Mix.Behind (fun w' => ∃ p : Regrown, w' = grow (redrawn W p.d) p.os) K .normal a w' := ⟨rfl, reg_of_fr h, hk⟩
/-- The worlds that are W but for the blocks of S, and new ones. -/
structure Cl (S : Nat → Prop) (W : World) where
  w : World
  fr : Fr S W w
instance (S : Nat → Prop) (W : World) : Inhabited (Cl S W) := ⟨⟨W, Fr.refl _ _⟩⟩
theorem cell_cl {S : Nat → Prop} {W : World} {a : Addr} {v : Value} (h : W.cell? a = some v) (hn : ¬ S a.block) (p : Cl S W) : p.w.cell? a = some v := by
  rw [p.fr.cell (World.block_lt_of_cell? W a h) hn]; exact h
theorem cl_drew (S : Nat → Prop) (W : World) : ∃ p : Cl S W, W.drew = p.w := ⟨⟨W.drew, (Fr.refl _ _).drew⟩, rfl⟩
/-- A contract of a callee, met in a world of the class. -/
theorem calls_cl {P : Program} {f : FuncId} {args : Array Value} {S : Nat → Prop} {W : World} {p : Cl S W} {v : Value} {T : Nat → Prop} (hT : ∀ i, T i → S i ∨ W.heap.size ≤ i)
    (h : Calls P f args p.w fun e w' => e = .returned v ∧ Fr T p.w w') : Calls P f args p.w fun e w'' => e = .returned v ∧ ∃ q : Cl S W, w'' = q.w :=
  h.mono fun _ w' ⟨h1, h2⟩ => ⟨h1, ⟨w', p.fr.trans h2 hT⟩, rfl⟩
/-- Behind an operation that a region carries out. -/
theorem behind_cl {S : Nat → Prop} {K : Act → World → Prop} {a : Act} {W w' : World} (h : Fr S W w') (hk : K a w') : Mix.Behind (fun w' => ∃ p : Cl S W, w' = p.w) K .normal a w' := ⟨rfl, ⟨⟨w', h⟩, rfl⟩, hk⟩
/-- A region that only reads, by its class. -/
theorem wp_region_quiet_cl (S : Nat → Prop) {P : Program} {id : Nat} {Q : Exit → Act → World → Prop} {a : Act} {w : World} {l : List Oper} (hm : P.follows .mixedOrders = true) (hB : Region.lexB .any l.toArray = true)
    (h : wpQuiet P l.toArray (fun w' => ∃ p : Cl S w, w' = p.w) (fun a' => ∀ w', (∃ p : Cl S w, w' = p.w) → Q .normal a' w') l a) : (Code.region id l.toArray true).wp P Q a w :=
  wp_region_quiet (C := fun w' => ∃ p : Cl S w, w' = p.w) hm hB (cl_drew S w) (by simpa using h)
end Go.Viv
end

/-
  Contracts of package hibit: at, Has, Len.
-/
section
namespace Go.Viv
open Go.RowKit
/-- A set of numbers in memory. -/
structure SetIs (w : World) (p : Nat) (l : List Nat) (S : Nat → Prop) : Prop where
  rise : RiseN l
  count : w.cell? ⟨p, 65, none⟩ = some (.int .i64 (l.length : Int))
  tree : ∃ nb, Tree w p l S nb
  inb : ∀ k, S k → k < w.heap.size
theorem SetIs.inS {w : World} {p : Nat} {l : List Nat} {S : Nat → Prop} (h : SetIs w p l S) : S p ∧ p < w.heap.size := by
  obtain ⟨nb, ht⟩ := h.tree
  obtain ⟨h1, _, _, h2, _⟩ := ht.node 3 0 p ht.top
  exact ⟨h1, h2.lt⟩
theorem SetIs.keep {w w' : World} {p : Nat} {l : List Nat} {S T : Nat → Prop} (h : SetIs w p l S) (hf : Fr T w w') (hd : ∀ k, S k → ¬ T k) : SetIs w' p l S := by
  obtain ⟨nb, ht⟩ := h.tree
  have hp := h.inS
  exact ⟨h.rise, by rw [hf.cell hp.2 (hd _ hp.1)]; exact h.count, ⟨nb, ht.fr hf hd⟩, fun k hk => Nat.lt_of_lt_of_le (h.inb k hk) hf.size⟩
theorem SetIs.mono {w : World} {p : Nat} {l : List Nat} {S T : Nat → Prop} (h : SetIs w p l S) (hd : ∀ k, S k → T k) (hb : ∀ k, T k → k < w.heap.size) : SetIs w p l T := by
  obtain ⟨nb, ht⟩ := h.tree
  exact ⟨h.rise, h.count, ⟨nb, ht.mono hd⟩, hb⟩
theorem ht0 {w : World} {p : Nat} {l : List Nat} {S : Nat → Prop} {nb : Nat → Nat → Option Nat} (h : Tree w p l S nb) {a b : Nat} (hb : nb 0 a = some b) : S b ∧ ∃ word, word < 18446744073709551616 ∧ NodeC w b word (fun _ => none) ∧ ∀ d, d < 64 → word.testBit d = decide (a * 64 + d ∈ l) := h.node 0 a b hb
theorem Tree.frF {w w' : World} {p : Nat} {l : List Nat} {S : Nat → Prop} {nb : Nat → Nat → Option Nat} (h : Tree w p l S nb) (hf : Fr (fun _ => False) w w') : Tree w' p l S nb := h.fr hf (fun _ _ h => h)
theorem kids_at (nb : Nat → Nat → Option Nat) (i L : Nat) : kidsOf nb (L + 1) (i / 64 ^ (L + 2)) (i / 64 ^ (L + 1) % 64) = nb L (i / 64 ^ (L + 1)) := by
  show nb L (i / 64 ^ (L + 2) * 64 + i / 64 ^ (L + 1) % 64) = _
  rw [show i / 64 ^ (L + 2) = i / 64 ^ (L + 1) / 64 from by rw [Nat.div_div_eq_div_mul, ← Nat.pow_succ], show i / 64 ^ (L + 1) / 64 * 64 + i / 64 ^ (L + 1) % 64 = i / 64 ^ (L + 1) from by omega]
end Go.Viv
namespace Go.Proofs.YtclmjcjaebonnaaGreatDoor
open Go.RowKit Go.Viv
theorem calls_sym {f : FuncId} {args : Array Value} {w : World} {v : Value} (h : Calls Tryz.prog f args w fun e w' => e = .returned v ∧ w = w') : Calls Tryz.prog f args w fun e w' => e = .returned v ∧ w' = w := h.mono fun _ _ ⟨h1, h2⟩ => ⟨h1, h2.symm⟩
set_option maxRecDepth 100000 in
set_option maxHeartbeats 1000000 in
theorem at_hib (p i lv : Nat) (hi : i < 16777216) (hlv : lv ≤ 3) (l : List Nat) (S : Nat → Prop) (nb : Nat → Nat → Option Nat) (w : World) (h : Tree w p l S nb) :
    Calls Tryz.prog 133 #[.pointer (some ⟨p, 0, none⟩), .int .i64 (i : Int), .int .i64 (lv : Int)] w fun e w' => e = .returned (ptrV (nb lv (i / 64 ^ (lv + 1)))) ∧ Fr (fun _ => False) w w' := by
  have HT := Lib.hid h
  clear h
  go_enter Tryz.func133, Tryz.ntmps133
  go_wp2_with fail
  go_loopw [7, 8] (fun u t wr => ∃ L : Nat, lv ≤ L ∧ L ≤ 3 ∧ t = .int .i64 L ∧ u = ptrV (nb L (i / 64 ^ (L + 1))) ∧ Fr (fun _ => False) w wr) (fun _ t _ => (intOf t).toNat)
  case atStart =>
    refine ⟨3, hlv, by omega, rfl, ?_, Fr.refl _ _⟩
    rw [show (64 : Nat) ^ (3 + 1) = 16777216 from by decide, Nat.div_eq_of_lt hi, HT.out.top]
    rfl
  case round =>
    obtain ⟨L, hL1, hL3, rfl, rfl, hfr⟩ := hrel
    by_cases hlt : lv < L
    · have hlt' : (lv : Int) < L := by omega
      obtain ⟨M, rfl⟩ : ∃ M, L = M + 1 := ⟨L - 1, by omega⟩
      cases hb : nb (M + 1) (i / 64 ^ (M + 1 + 1)) with
      | none =>
        have hno : ∀ M' ≤ M + 1, nb M' (i / 64 ^ (M' + 1)) = none := by
          intro M'
          induction hk : M + 1 - M' generalizing M' with
          | zero => intro h; obtain rfl : M' = M + 1 := (by omega); exact hb
          | succ q ih =>
            intro h
            have h1 := ih (M' + 1) (by omega) (by omega)
            cases hc : nb M' (i / 64 ^ (M' + 1)) with
            | none => rfl
            | some c =>
              obtain ⟨c2, hc2⟩ := HT.out.up M' _ c (by omega) hc
              rw [Nat.div_div_eq_div_mul, ← Nat.pow_succ, h1] at hc2
              cases hc2
        have hz := hno lv (by omega)
        have HZ := Lib.hid (And.intro hz hfr)
        clear hno hb hz hfr
        simp only [ptrV]
        go_wp2
        go_ret
        exact ⟨by rw [HZ.out.1]; rfl, HZ.out.2⟩
      | some b =>
        obtain ⟨_, word, _, hN, _⟩ := HT.out.node _ _ _ hb
        have hd : i / 64 ^ (M + 1) % 64 < 64 := Nat.mod_lt _ (by decide)
        have hk := (hN.fr hfr (fun h => h)).cellK hd
        rw [kids_at] at hk
        have HD := Lib.hid (fun W => digit_any i (M + 1) hi hL3 W)
        obtain ⟨d, hdd⟩ : ∃ d, i / 64 ^ (M + 1) % 64 = d := ⟨_, rfl⟩
        rw [hdd] at hd hk HD
        obtain ⟨r, hr⟩ : ∃ r, ptrV (nb M (i / 64 ^ (M + 1))) = r := ⟨_, rfl⟩
        rw [hr] at hk
        have hd' : (d : Int) < 64 := by omega
        have HR := Lib.hid (And.intro hr hfr)
        clear hN hb hdd hr hfr
        simp only [ptrV]
        go_wp2_with fail
        refine Ord.wp_region_cls (S := fun w' => w' = wr.drew) #[0, 0, 0, 6, 1, 17, 63, 127, 255] [(0, true), (1, true), (2, true), (3, true), (4, true), (5, true), (6, true), (7, true), (8, true)] [] (by kernel_rfl) (by kernel_rfl) (by intro c d v a w h; cases d <;> exact h) rfl ?_
        simp only [Ord.pick, List.map_cons, List.map_nil, List.getElem?_toArray, List.getElem?_cons_succ, List.getElem?_cons_zero]
        iterate 9 (apply Ord.c_step; intro K hK; go_simp; first | (refine hK _ ?_; clear hK K) | (apply Exists.intro; refine ⟨?_, hK _ ?_⟩; (go_at_call 89; exact calls_sym (HD.out _)); clear hK K))
        refine Ord.c_nil ?_
        go_wp2
        go_roundw
        case rel => exact ⟨M, by omega, by omega, by go_num, HR.out.1.symm, HR.out.2.drew⟩
        case measure => simp [intOf]
    · obtain rfl : lv = L := by omega
      obtain ⟨r, hr⟩ : ∃ r, ptrV (nb lv (i / 64 ^ (lv + 1))) = r := ⟨_, rfl⟩
      rw [hr]
      have HF := Lib.hid (And.intro hr hfr)
      clear hfr hr
      go_wp2
      go_ret
      exact ⟨by rw [HF.out.1]; rfl, HF.out.2⟩
set_option maxRecDepth 100000 in
set_option maxHeartbeats 1000000 in
theorem has_nat (p i : Nat) (hi : i < 16777216) (l : List Nat) (S : Nat → Prop) (w : World) (h : SetIs w p l S) :
    Calls Tryz.prog 88 #[.pointer (some ⟨p, 0, none⟩), .int .i64 (i : Int)] w fun e w' => e = .returned (.bool (decide (i ∈ l))) ∧ Fr (fun _ => False) w w' := by
  obtain ⟨nb, ht⟩ := h.tree
  have HT := Lib.hid ht
  have HA := Lib.hid (fun W (hW : Fr (fun _ => False) w W) => at_hib p i 0 hi (by omega) l S nb W (ht.frF hW))
  have HO := Lib.hid (ok_any (i : Int) w)
  rw [decide_eq_true (by omega : 0 ≤ (i : Int)), decide_eq_true (by omega : (i : Int) < 16777216)] at HO
  have HD := Lib.hid (fun W => digit_any i 0 hi (by omega) W)
  clear h ht
  simp only [Nat.zero_add, Nat.pow_one, Nat.pow_zero, Nat.div_one] at HA HD
  cases hb : nb 0 (i / 64) with
  | none =>
    have HN := Lib.hid (show decide (i ∈ l) = false from decide_eq_false (fun hm => by
      obtain ⟨b, hb2⟩ := HT.out.low i hm
      rw [hb] at hb2
      cases hb2))
    rw [hb] at HA
    simp only [ptrV] at HA
    clear hb
    go_enter Tryz.func88, Tryz.ntmps88
    go_wp2_with fail
    refine HO.out.mono ?_
    rintro e w1 ⟨rfl, rfl⟩
    go_wp2_with fail
    refine (HA.out _ (Fr.refl _ _)).mono ?_
    rintro e w2 ⟨rfl, hf2⟩
    have H2 := Lib.hid hf2
    clear hf2
    go_wp2_with fail
    refine Ord.wp_region_cls (S := fun w' => w' = w2.drew) #[0, 1, 3, 7, 15, 31, 63, 7, 135, 511, 1023, 2047] [(0, true), (1, true), (2, true), (3, true), (4, true), (5, true), (6, true), (7, true), (8, true), (9, true), (10, true), (11, true)] [] (by kernel_rfl) (by kernel_rfl) (by intro c d v a w h; cases d <;> exact h) rfl ?_
    simp only [Ord.pick, List.map_cons, List.map_nil, List.getElem?_toArray, List.getElem?_cons_succ, List.getElem?_cons_zero]
    iterate 12 (apply Ord.c_step; intro K hK; go_simp; first | (refine hK _ ?_; clear hK K))
    refine Ord.c_nil ?_
    go_wp2
    go_ret
    exact ⟨by rw [HN.out]; rfl, H2.out.drew⟩
  | some b =>
    obtain ⟨_, word, hw, hN, hbit⟩ := ht0 HT.out hb
    have hd : i % 64 < 64 := Nat.mod_lt _ (by decide)
    have HB := Lib.hid (show bitI word ((i % 64 : Nat) : Int) = decide (i ∈ l) from by
      unfold bitI
      rw [decide_eq_true (by omega), decide_eq_true (by omega), Int.toNat_natCast, hbit _ hd]
      show (true && true && decide (i / 64 * 64 + i % 64 ∈ l)) = _
      rw [show i / 64 * 64 + i % 64 = i by omega]
      rfl)
    have HH := Lib.hid (fun W => has_w word hw ((i % 64 : Nat) : Int) W)
    have HC := Lib.hid (fun W (hW : Fr (fun _ => False) w W) => (hN.fr hW (fun h => h)).cell0)
    rw [hb] at HA
    simp only [ptrV] at HA
    obtain ⟨d, hdd⟩ : ∃ d, i % 64 = d := ⟨_, rfl⟩
    rw [hdd] at HD HB HH
    clear hb hN hbit hd hdd
    go_enter Tryz.func88, Tryz.ntmps88
    go_wp2_with fail
    refine HO.out.mono ?_
    rintro e w1 ⟨rfl, rfl⟩
    go_wp2_with fail
    refine (HA.out _ (Fr.refl _ _)).mono ?_
    rintro e w2 ⟨rfl, hf2⟩
    have hc := HC.out _ hf2
    have H2 := Lib.hid hf2
    clear hf2
    go_wp2_with fail
    refine Ord.wp_region_cls (S := fun w' => w' = w2.drew) #[0, 1, 3, 7, 15, 31, 63, 7, 135, 511, 1023, 2047] [(0, true), (1, true), (2, true), (3, true), (4, true), (5, true), (6, true), (7, true), (8, true), (9, true), (10, true), (11, true)] [] (by kernel_rfl) (by kernel_rfl) (by intro c d v a w h; cases d <;> exact h) rfl ?_
    simp only [Ord.pick, List.map_cons, List.map_nil, List.getElem?_toArray, List.getElem?_cons_succ, List.getElem?_cons_zero]
    iterate 12 (apply Ord.c_step; intro K hK; go_simp; first | (refine hK _ ?_; clear hK K) | (apply Exists.intro; refine ⟨?_, hK _ ?_⟩; (first | (go_at_call 89; exact calls_sym (HD.out _)) | (go_at_call 134; exact calls_sym (HH.out _))); clear hK K))
    refine Ord.c_nil ?_
    go_wp2
    go_ret
    exact ⟨by rw [← HB.out]; rfl, H2.out.drew⟩
end Go.Proofs.YtclmjcjaebonnaaGreatDoor
end
