/-
  A region that draws its order, each of whose effects waits for all that stands ahead of it: walked once, in order. No program in sight.
-/
import Derived.Test.YtenigphjddnknaaGreatDoorMix
namespace Go.Mix
open Go

/-- What is asked behind an operation that reads. -/
structure Reads (w : World) (K : Act → World → Prop) (e : Exit) (a : Act) (w' : World) : Prop where
  normal : e = .normal
  same : w' = w
  next : K a w'

section
variable {P : Program} {ops : Array Oper} {Q : Exit → Act → World → Prop} {md : Region.Mode}

/-- The walk, by a list of numbers: true: it only reads. -/
def wpSeq (P : Program) (ops : Array Oper) (Q : Exit → Act → World → Prop) : List (Nat × Bool) → Act → World → Prop
  | [], a, w => Q .normal a w
  | (i, true) :: rest, a, w => match ops[i]? with
    | some o => valueOp o = true ∧ wpList P ops (Reads w (wpSeq P ops Q rest)) [o] a w
    | none => False
  | (i, false) :: rest, a, w => match ops[i]? with
    | some o => wpList P ops (Behind (fun _ => True) (wpSeq P ops Q rest)) [o] a w
    | none => False

/-- All that an operation waits for has come up. -/
def Waited (md : Region.Mode) (ops : Array Oper) (listed : Array Bool) (j : Nat) : Prop :=
  ∀ o, ops[j]? = some o → ∀ e ∈ o.after, Region.binds md e = true → listed.getD e.on false = true
def Down (md : Region.Mode) (ops : Array Oper) (listed : Array Bool) : Prop := ∀ j, listed.getD j false = true → Waited md ops listed j

/-- Whether the masks are right: what an operation waits for, it waits for itself, or by another one, ahead of it. -/
def maskB (md : Region.Mode) (ops : Array Oper) (m : Array Nat) : Bool :=
  (List.range ops.size).all fun j => (List.range ops.size).all fun i => !(m.getD j 0).testBit i ||
    ((ops[j]?).map fun o => o.after.toList.any fun e => Region.binds md e && decide (e.on < j) && (e.on == i || (m.getD e.on 0).testBit i)).getD false

theorem mask_spec {m : Array Nat} (hm : maskB md ops m = true) {listed : Array Bool} (hd : Down md ops listed) {i : Nat} (hi : i < ops.size) : ∀ (j : Nat), j < ops.size → Waited md ops listed j → (m.getD j 0).testBit i = true → listed.getD i false = true := by
  intro j
  induction j using Nat.strongRecOn with
  | _ j ih =>
    intro hj hw ht
    have h1 := List.all_eq_true.1 hm j (by simpa using hj)
    have h2 := List.all_eq_true.1 h1 i (by simpa using hi)
    simp only [ht, Bool.not_true, Bool.false_or] at h2
    cases ho : ops[j]? with
    | none => rw [ho] at h2; cases h2
    | some o =>
      rw [ho] at h2
      simp only [Option.map_some, Option.getD_some, List.any_eq_true] at h2
      obtain ⟨e, he, h3⟩ := h2
      simp only [Bool.and_eq_true, decide_eq_true_eq, Bool.or_eq_true, beq_iff_eq] at h3
      obtain ⟨⟨hb, hlt⟩, h3⟩ := h3
      have hl := hw o ho e (Array.mem_toList_iff.1 he) hb
      rcases h3 with h3 | h3
      · rw [← h3]; exact hl
      · exact ih e.on hlt (by omega) (hd _ hl) h3

theorem getD_conv {listed : Array Bool} {j n : Nat} (hs : listed.size = n) (hj : j < n) (d e : Bool) : listed.getD j d = listed.getD j e := by
  have : j < listed.size := by omega
  simp [Array.getD, this]

theorem down_set {listed : Array Bool} (hd : Down md ops listed) {j : Nat} (hw : Waited md ops listed j) : Down md ops (listed.setIfInBounds j true) := by
  intro k hk o ho e he hb
  by_cases hkj : k = j
  · subst hkj
    exact getD_set_true (hw o ho e he hb)
  · rw [getD_set_ne false (Ne.symm hkj)] at hk
    exact getD_set_true (hd k hk o ho e he hb)

/-- Whatever order is picked from here on; what is no effect leaves the world. -/
def wpAnyS (P : Program) (md : Region.Mode) (ops : Array Oper) (Q : Exit → Act → World → Prop) (eff : Nat → Bool) : Nat → Array Bool → Act → World → Prop
  | 0, listed, a, w => Region.ready md ops listed = [] ∧ Q .normal a w
  | fuel + 1, listed, a, w =>
    (Region.ready md ops listed = [] → Q .normal a w) ∧
    ∀ i ∈ Region.ready md ops listed, wpOp P ops Q i (fun a' w' => (eff i = false → w' = w) ∧ wpAnyS P md ops Q eff fuel (listed.setIfInBounds i true) a' w') a w

theorem wpAny_of_S {eff : Nat → Bool} : ∀ (fuel : Nat) (listed : Array Bool) (a : Act) (w : World), wpAnyS P md ops Q eff fuel listed a w → wpAny P md ops Q fuel listed a w
  | 0, _, _, _, h => h
  | fuel + 1, _, _, _, h => ⟨h.1, fun i hi => wpOp_mono (fun a' w' h' => wpAny_of_S fuel _ a' w' h'.2) (h.2 i hi)⟩

theorem wpAnyS_first {eff : Nat → Bool} {i : Nat} {oi : Oper} {v : Value} (hi : ops[i]? = some oi) (hsel : ∀ (j : Nat) (o : Oper) cs b, ops[j]? = some o → o.op ≠ .select cs b)
    (hQ : ∀ c a w, Q (.panic c) (a.put oi.dst v) w → Q (.panic c) a w) {m : Array Nat} (hm : maskB md ops m = true) (hei : eff i = false) (w : World) :
    ∀ (fuel : Nat) (listed : Array Bool) (a : Act),
      listed.size = ops.size → Down md ops listed →
      (∀ j, j < ops.size → eff j = true → listed.getD j true = false → (m.getD j 0).testBit i = true) →
      (∀ j oj, ops[j]? = some oj → j ≠ i → listed.getD j true = false → (∀ e ∈ oj.after, Region.binds md e = true → e.on ≠ i) → oi.apart ops oj = true) →
      i ∈ Region.ready md ops listed → YieldsIf P ops (fun w' => w' = w) oi v a →
      wpAnyS P md ops Q eff fuel (listed.setIfInBounds i true) (a.put oi.dst v) w → wpAnyS P md ops Q eff (fuel + 1) listed a w := by
  intro fuel
  have hilt : i < ops.size := (Array.getElem?_eq_some_iff.1 hi).1
  induction fuel with
  | zero =>
    intro listed a _ _ _ _ hr hy H
    refine ⟨fun h => (by rw [h] at hr; cases hr), fun j hj => ?_⟩
    by_cases hji : j = i
    · subst hji
      exact hy.wpOp hi rfl ⟨fun _ => rfl, H⟩
    · have := ready_mono hj hji
      rw [H.1] at this
      cases this
  | succ fuel ih =>
    intro listed a hsz hdown hmask hfree hr hy H
    refine ⟨fun h => (by rw [h] at hr; cases hr), fun j hj => ?_⟩
    by_cases hji : j = i
    · subst hji
      exact hy.wpOp hi rfl ⟨fun _ => rfl, H⟩
    · have h1 := H.2 j (ready_mono hj hji)
      obtain ⟨hjun, oj, hoj, hall⟩ := mem_ready.1 hj
      have hjlt : j < ops.size := (Array.getElem?_eq_some_iff.1 hoj).1
      have hiun : listed.getD i false = false := by rw [getD_conv hsz hilt false true]; exact (mem_ready.1 hr).1
      have hwj : Waited md ops listed j := fun o ho e he hb => by
        rw [hoj] at ho
        cases ho
        exact hall e he hb
      have hnj : eff j = false := by
        cases he : eff j with
        | false => rfl
        | true =>
          have := mask_spec hm hdown hilt j hjlt hwj (hmask j hjlt he hjun)
          rw [this] at hiun
          cases hiun
      have hnot : ∀ e ∈ oj.after, Region.binds md e = true → e.on ≠ i := fun e he hb heq => by
        have h2 := hall e he hb
        rw [heq, hiun] at h2
        cases h2
      have h2 := wpOp_putIf hoj (hfree j oj hoj hji hjun hnot) (fun cs b => hsel i oi cs b hi) (fun cs b => hsel j oj cs b hoj) hQ hy h1
      have hmask' : ∀ k, k < ops.size → eff k = true → (listed.setIfInBounds j true).getD k true = false → (m.getD k 0).testBit i = true := fun k hk he hun => by
        refine hmask k hk he ?_
        by_cases hjk : j = k
        · subst hjk; exact hjun
        · rw [getD_set_ne true hjk] at hun; exact hun
      have hfree' : ∀ k ok, ops[k]? = some ok → k ≠ i → (listed.setIfInBounds j true).getD k true = false →
          (∀ e ∈ ok.after, Region.binds md e = true → e.on ≠ i) → oi.apart ops ok = true := fun k ok hk hki hun hno => by
        refine hfree k ok hk hki ?_ hno
        by_cases hjk : j = k
        · subst hjk; exact hjun
        · rw [getD_set_ne true hjk] at hun; exact hun
      refine wpOp_mono (fun a' w' h3 => ⟨h3.2.1, ?_⟩) h2
      obtain ⟨h4, h5, h6⟩ := h3
      have hww := h5 hnj
      subst hww
      refine ih (listed.setIfInBounds j true) a' (by simpa using hsz) (down_set hdown hwj) hmask' hfree' (ready_mono hr (Ne.symm hji)) h4 ?_
      rw [Array.setIfInBounds_comm _ _ hji]
      exact h6

theorem reads_spec {o : Oper} {a : Act} {w : World} {K : Act → World → Prop} (hv : valueOp o = true) (h : o.wp P a w (Reads w K .normal) (Reads w K) ∨ (o.asks P a w ∧ LetsOut (Reads w K))) :
    ∃ v, (execOp a.eval o).run P w = .ok (.value v) w ∧ K (a.put o.dst v) w := by
  have nolet : ¬ LetsOut (Reads w K) := by
    rintro ⟨a0, w0, hb⟩
    exact absurd hb.normal (by simp)
  rcases h with h | ⟨_, h⟩
  · obtain ⟨s, hs⟩ := valueOp_spec hv a.eval
    unfold Oper.wp at h
    rw [hs, run_bind_value] at h ⊢
    cases hr : s.run P w with
    | ok x w' =>
      rw [hr] at h
      simp only [Result.andThen_ok, Oper.upon] at h
      obtain ⟨_, h2, h3⟩ := h
      subst h2
      exact ⟨x, rfl, h3⟩
    | halt x w' =>
      rw [hr] at h
      cases x <;> simp only [Result.andThen, Oper.upon] at h
      exact absurd h.normal (by simp)
  · exact absurd h nolet

/-- Whether the list may serve. -/
def seqB (md : Region.Mode) (ops : Array Oper) (m : Array Nat) (eff : Nat → Bool) : List (Nat × Bool) → Array Bool → Bool
  | [], listed => (Region.ready md ops listed).isEmpty
  | (i, true) :: rest, listed => (Region.ready md ops listed).contains i && Region.free md ops listed i && !eff i && ((List.range ops.size).all fun j => !eff j || listed.getD j true || (m.getD j 0).testBit i) && seqB md ops m eff rest (listed.setIfInBounds i true)
  | (i, false) :: rest, listed => decide (Region.ready md ops listed = [i]) && eff i && seqB md ops m eff rest (listed.setIfInBounds i true)

theorem wpAnyS_of_seq {m : Array Nat} {eff : Nat → Bool} (hs : Region.noSelect ops = true) (hm : maskB md ops m = true) (hQ : ∀ c d v a w, Q (.panic c) (Act.put a d v) w → Q (.panic c) a w) : ∀ (l : List (Nat × Bool)) (listed : Array Bool) (a : Act) (w : World), listed.size = ops.size → Down md ops listed → seqB md ops m eff l listed = true → wpSeq P ops Q l a w → wpAnyS P md ops Q eff l.length listed a w
  | [], listed, a, w, _, _, hB, h => ⟨by simpa [seqB] using hB, h⟩
  | (i, true) :: rest, listed, a, w, hsz, hd, hB, h => by
    simp only [seqB, Bool.and_eq_true] at hB
    obtain ⟨⟨⟨⟨hr, hf⟩, he⟩, hk⟩, hB⟩ := hB
    simp only [wpSeq] at h
    have hr' : i ∈ Region.ready md ops listed := by simpa using hr
    have hd' : Down md ops (listed.setIfInBounds i true) := by
      obtain ⟨_, o, ho, hall⟩ := mem_ready.1 hr'
      refine down_set hd (fun o' ho' e he hb => ?_)
      rw [ho] at ho'
      cases ho'
      exact hall e he hb
    have hmask : ∀ j, j < ops.size → eff j = true → listed.getD j true = false → (m.getD j 0).testBit i = true := fun j hj hej hun => by
      have := List.all_eq_true.1 hk j (by simpa using hj)
      rw [hej, hun] at this
      simpa using this
    cases ho : ops[i]? with
    | none => rw [ho] at h; exact h.elim
    | some o =>
      rw [ho] at h
      obtain ⟨hv, h⟩ := h
      simp only [wpList] at h
      by_cases hw : Region.wanted o (yielded ops a.tmps) = true
      · rw [if_pos hw] at h
        obtain ⟨v, h1, h2⟩ := reads_spec hv h
        exact wpAnyS_first ho (Region.noSelect_spec hs) (fun c a w => hQ c _ _ a w) hm (by simpa using he) w _ listed a hsz hd hmask (Region.free_spec ho hf) hr' (.inl ⟨hw, fun _ hww => by subst hww; exact h1⟩) (wpAnyS_of_seq hs hm hQ rest _ _ w (by simpa using hsz) hd' hB h2)
      · rw [if_neg hw] at h
        replace h := h.next
        exact wpAnyS_first (v := undef) ho (Region.noSelect_spec hs) (fun c a w => hQ c _ _ a w) hm (by simpa using he) w _ listed a hsz hd hmask (Region.free_spec ho hf) hr' (.inr ⟨by simpa using hw, rfl⟩) (wpAnyS_of_seq hs hm hQ rest _ _ w (by simpa using hsz) hd' hB h)
  | (i, false) :: rest, listed, a, w, hsz, hd, hB, h => by
    simp only [seqB, Bool.and_eq_true, decide_eq_true_eq] at hB
    obtain ⟨⟨hr, he⟩, hB⟩ := hB
    simp only [wpSeq] at h
    have hr' : i ∈ Region.ready md ops listed := by rw [hr]; simp
    have hd' : Down md ops (listed.setIfInBounds i true) := by
      obtain ⟨_, o, ho, hall⟩ := mem_ready.1 hr'
      refine down_set hd (fun o' ho' e he hb => ?_)
      rw [ho] at ho'
      cases ho'
      exact hall e he hb
    cases ho : ops[i]? with
    | none => rw [ho] at h; exact h.elim
    | some o =>
      rw [ho] at h
      simp only [wpList] at h
      refine ⟨fun h0 => absurd (hr ▸ h0) (by simp), fun j hj => ?_⟩
      obtain rfl : j = i := by rw [hr] at hj; simpa using hj
      have nolet : ¬ LetsOut (Behind (fun _ => True) (wpSeq P ops Q rest)) := by
        rintro ⟨a0, w0, hb⟩
        exact absurd hb.normal (by simp)
      unfold wpOp
      simp only [ho]
      by_cases hw : Region.wanted o (yielded ops a.tmps) = true
      · rw [if_pos hw] at h ⊢
        rcases h with h | ⟨_, h⟩
        · refine .inl (upon_mono (fun a' w' hb => ⟨fun h0 => (by rw [he] at h0; cases h0), wpAnyS_of_seq hs hm hQ rest _ a' w' (by simpa using hsz) hd' hB hb.next⟩) (fun c a' w' hb => ?_) nolet h)
          exact absurd hb.normal (by simp)
        · exact absurd h nolet
      · rw [if_neg hw] at h ⊢
        exact ⟨fun h0 => (by rw [he] at h0; cases h0), wpAnyS_of_seq hs hm hQ rest _ _ w (by simpa using hsz) hd' hB h.next⟩

def effOf (l : List (Nat × Bool)) (j : Nat) : Bool := l.any fun p => p.1 == j && !p.2
/-- THE REGION. -/
theorem wp_region_seq {id : Nat} {a : Act} {w : World} (order : List (Nat × Bool)) (hm : P.follows .mixedOrders = true) (hB : (Region.noSelect ops && (order.length == ops.size) && maskB .any ops (Region.before ops) && seqB .any ops (Region.before ops) (effOf order) order (Array.replicate ops.size false)) = true)
    (hQ : ∀ c d v a w, Q (.panic c) (Act.put a d v) w → Q (.panic c) a w)
    (h : wpSeq P ops Q order a w.drew) : (Code.region id ops true).wp P Q a w := by
  simp only [Bool.and_eq_true, beq_iff_eq] at hB
  have hd : Down .any ops (Array.replicate ops.size false) := fun j hj => by
    simp only [Array.getD_eq_getD_getElem?, Array.getElem?_replicate] at hj
    split at hj <;> simp at hj
  have h1 := wpAnyS_of_seq (md := .any) (m := Region.before ops) (eff := effOf order) hB.1.1.1 hB.1.2 hQ order (Array.replicate ops.size false) a w.drew (by simp) hd hB.2 h
  rw [hB.1.1.2] at h1
  exact wp_region_any hm (wpAny_of_S _ _ _ _ h1)

theorem seq_read {i : Nat} {o : Oper} {rest : List (Nat × Bool)} {a : Act} {w : World} (ho : ops[i]? = some o) (hv : valueOp o = true) (h : wpList P ops (Reads w (wpSeq P ops Q rest)) [o] a w) : wpSeq P ops Q ((i, true) :: rest) a w := by
  simp only [wpSeq, ho]
  exact ⟨hv, h⟩
theorem seq_does {i : Nat} {o : Oper} {rest : List (Nat × Bool)} {a : Act} {w : World} (ho : ops[i]? = some o) (h : wpList P ops (Behind (fun _ => True) (wpSeq P ops Q rest)) [o] a w) : wpSeq P ops Q ((i, false) :: rest) a w := by
  simp only [wpSeq, ho]
  exact h
theorem seq_nil {a : Act} {w : World} (h : Q .normal a w) : wpSeq P ops Q [] a w := h
theorem behind_seq {K : Act → World → Prop} {a : Act} {w : World} (h : K a w) : Behind (fun _ => True) K .normal a w := ⟨rfl, trivial, h⟩
end
end Go.Mix
