/-
  A run reckoned with what is left open: predicates that a body's code comes to, over the tree of blocks. No program in sight.
-/
import Derived.Test.YtmcigeebeoobdaaGreatDoorPz07
namespace Go.Sym
open Go Go.RowKit Go.Mix Go.Viv Go.Eva

/-- What comes of a partial result. -/
def onSome {α : Type} (x : Option α) (K : α → Prop) : Prop := ∃ v, x = some v ∧ K v
theorem onSome_some {α : Type} (v : α) (K : α → Prop) : onSome (some v) K = K v := by simp [onSome]
def onBool (v : Value) (A B : Prop) : Prop := match v with
  | .bool true => A
  | .bool false => B
  | _ => False
theorem onBool_true (A B : Prop) : onBool (.bool true) A B = A := rfl
theorem onBool_false (A B : Prop) : onBool (.bool false) A B = B := rfl
theorem onBool_of {b : Bool} {A B : Prop} (h1 : b = true → A) (h2 : b = false → B) : onBool (.bool b) A B := by
  cases b
  · exact h2 rfl
  · exact h1 rfl
def guardK (b : Option Bool) (A B : Prop) : Prop := match b with
  | some true => A
  | some false => B
  | none => False
theorem guardK_true (A B : Prop) : guardK (some true) A B = A := rfl
theorem guardK_false (A B : Prop) : guardK (some false) A B = B := rfl
theorem guardK_of {b : Bool} {A B : Prop} (h1 : b = true → A) (h2 : b = false → B) : guardK (some b) A B := by
  cases b
  · exact h2 rfl
  · exact h1 rfl
theorem guardK_mono {b : Option Bool} {A B A' B' : Prop} (h : guardK b A B) (h1 : A → A') (h2 : B → B') : guardK b A' B' := by
  cases b with
  | none => exact h
  | some b => cases b
              · exact h2 h
              · exact h1 h

def sy0 : Sy := fun _ _ => none
section
variable (P : Program) (G n : Nat) (call : CallB)
def opK (o : Op) (T : Tr Value) (h : Hp) (K : Value → Hp → Prop) : Prop := onSome (evOp P sy0 call (evl G T) h o) fun r => K r.1 r.2
/-- Operations one behind the other. -/
def R (all : List Oper) : List Oper → Tr Value → Hp → (Tr Value → Hp → Prop) → Prop
  | [], T, h, K => K T h
  | o :: l, T, h, K => guardK (wantedB all T o) (opK P G call o.op T h fun v h' => onSome (putT n T o.dst v) fun T' => R all l T' h' K) (onSome (putT n T o.dst undef) fun T' => R all l T' h K)
theorem R_sound {all : List Oper} : ∀ {l : List Oper} {T : Tr Value} {h : Hp} {K : Tr Value → Hp → Prop}, R P G n call all l T h K → ∃ r, evSeq P sy0 G n call all l T h = some r ∧ K r.1 r.2
  | [], T, h, K, hK => ⟨(T, h), rfl, hK⟩
  | o :: l, T, h, K, hK => by
    unfold R at hK
    simp only [evSeq]
    cases hw : wantedB all T o with
    | none => rw [hw] at hK; exact hK.elim
    | some b =>
      rw [hw] at hK
      cases b with
      | true =>
        obtain ⟨⟨v, h'⟩, h1, T', h2, h3⟩ := hK
        obtain ⟨r, h4, h5⟩ := R_sound h3
        simp only [h1]
        simp only [h2]
        exact ⟨r, h4, h5⟩
      | false =>
        obtain ⟨T', h2, h3⟩ := hK
        obtain ⟨r, h4, h5⟩ := R_sound h3
        simp only [h2]
        exact ⟨r, h4, h5⟩
/-! ### Regions that draw their order -/
/-- What is looked at once: an order, and behind each effect what is read again. -/
def againK (base : Nat) (t : Tr AObj) (x : Ent) : Prop := match kind x.o with
  | .quiet => onSome (evQ0 P (evl G x.T) t x.o) fun v => veq v x.v = true
  | .alloc => onSome (evA P (evl G x.T) (base + x.i) x.o) fun r => onSome (t.at_ (base + x.i)) fun ob => oeq r.2 ob = true
  | .eff => False
def againsK (base : Nat) (m : Array Nat) (e : Nat) (t : Tr AObj) : List Ent → Prop
  | [] => True
  | x :: l => (bef m e x.i = true ∨ againK P G base t x) ∧ againsK base m e t l
def DR (ops : List Oper) (m : Array Nat) (base : Nat) : List Nat → Tr Value → Hp → Nat → Nat → List Ent → (Tr Value → Hp → Nat → Prop) → Prop
  | [], T, h, done, _, _, K => K T h done
  | i :: rest, T, h, done, effs, ents, K => onSome ops[i]? fun o => (within (m.getD i 0) done && !bit done i) = true ∧ guardK (wantedB ops T o)
      ((match kind o.op with
      | .quiet => within effs (m.getD i 0) = true ∧ onSome (evQ0 P (evl G T) h.t o.op) fun v => onSome (putT n T o.dst v) fun T' => DR ops m base rest T' h (done ||| 2 ^ i) effs (⟨i, o.op, T, v⟩ :: ents) K
      | .alloc => within effs (m.getD i 0) = true ∧ onSome (evA P (evl G T) (base + i) o.op) fun r => h.t.at_ (base + i) = none ∧ onSome (putT n T o.dst r.1) fun T' => DR ops m base rest T' ⟨h.t.set (base + i) (some r.2), h.next⟩ (done ||| 2 ^ i) effs (⟨i, o.op, T, r.1⟩ :: ents) K
      | .eff => within effs (m.getD i 0) = true ∧ onSome (evE P call (evl G T) h o.op) fun r => againsK P G base m i r.2.t ents ∧ onSome (putT n T o.dst r.1) fun T' => DR ops m base rest T' r.2 (done ||| 2 ^ i) (effs ||| 2 ^ i) ents K))
      (onSome (putT n T o.dst undef) fun T' => DR ops m base rest T' h (done ||| 2 ^ i) effs ents K)
theorem agains_spec {base : Nat} {m : Array Nat} {e : Nat} {t : Tr AObj} : ∀ {l : List Ent}, againsK P G base m e t l → allAgain P sy0 G m base e t l = true
  | [], _ => rfl
  | x :: l, h => by
    unfold againsK at h
    unfold allAgain
    have h2 := agains_spec h.2
    have h1 : (bef m e x.i || again P sy0 G base t x) = true := by
      rcases h.1 with h1 | h1
      · rw [h1]; rfl
      · have : again P sy0 G base t x = true := by
          unfold againK at h1
          unfold again
          cases hk : kind x.o with
          | quiet =>
            rw [hk] at h1
            obtain ⟨v, h1, h2⟩ := h1
            have h1' : evQ P sy0 (evl G x.T) t x.o = some v := h1
            simp only [h1', h2]
          | alloc =>
            rw [hk] at h1
            obtain ⟨r, h1, ob, h3, h4⟩ := h1
            obtain ⟨r1, r2⟩ := r
            simp only [h1, h3, h4]
          | eff => rw [hk] at h1; exact h1.elim
        rw [this, Bool.or_true]
    rw [h1]
    exact h2
theorem DR_sound {ops : List Oper} {m : Array Nat} {base : Nat} : ∀ {l : List Nat} {T : Tr Value} {h : Hp} {done effs : Nat} {ents : List Ent} {K : Tr Value → Hp → Nat → Prop}, DR P G n call ops m base l T h done effs ents K →
    ∃ r, dRun P sy0 G n call ops m base l T h done effs ents = some r ∧ K r.1 r.2.1 r.2.2
  | [], T, h, done, effs, ents, K, hK => ⟨(T, h, done), rfl, hK⟩
  | i :: l, T, h, done, effs, ents, K, hK => by
    unfold DR at hK
    obtain ⟨o, ho, hm, hK⟩ := hK
    simp only [dRun, ho, hm]
    cases hw : wantedB ops T o with
    | none => rw [hw] at hK; exact hK.elim
    | some b =>
      rw [hw] at hK
      cases b with
      | false =>
        obtain ⟨T', h2, h3⟩ := hK
        simp only [h2]
        exact DR_sound h3
      | true =>
        have hK' : (match kind o.op with
          | .quiet => within effs (m.getD i 0) = true ∧ onSome (evQ0 P (evl G T) h.t o.op) fun v => onSome (putT n T o.dst v) fun T' => DR P G n call ops m base l T' h (done ||| 2 ^ i) effs (⟨i, o.op, T, v⟩ :: ents) K
          | .alloc => within effs (m.getD i 0) = true ∧ onSome (evA P (evl G T) (base + i) o.op) fun r => h.t.at_ (base + i) = none ∧ onSome (putT n T o.dst r.1) fun T' => DR P G n call ops m base l T' ⟨h.t.set (base + i) (some r.2), h.next⟩ (done ||| 2 ^ i) effs (⟨i, o.op, T, r.1⟩ :: ents) K
          | .eff => within effs (m.getD i 0) = true ∧ onSome (evE P call (evl G T) h o.op) fun r => againsK P G base m i r.2.t ents ∧ onSome (putT n T o.dst r.1) fun T' => DR P G n call ops m base l T' r.2 (done ||| 2 ^ i) (effs ||| 2 ^ i) ents K) := hK
        cases hk : kind o.op with
        | quiet =>
          rw [hk] at hK'
          obtain ⟨h0, v, h1, T', h2, h3⟩ := hK'
          have h1' : evQ P sy0 (evl G T) h.t o.op = some v := h1
          simp only [h0, h1', h2]
          exact DR_sound h3
        | alloc =>
          rw [hk] at hK'
          obtain ⟨h0, ⟨v, ob⟩, h1, hn, T', h2, h3⟩ := hK'
          simp only [h0, h1, hn, h2]
          exact DR_sound h3
        | eff =>
          rw [hk] at hK'
          obtain ⟨h0, ⟨v, h'⟩, h1, ha, T', h2, h3⟩ := hK'
          simp only [h0, h1, agains_spec P G ha, h2]
          exact DR_sound h3

theorem onSome_mono {α : Type} {x : Option α} {K K' : α → Prop} (h : ∀ v, K v → K' v) : onSome x K → onSome x K' := fun ⟨v, h1, h2⟩ => ⟨v, h1, h v h2⟩
theorem DR_mono {P : Program} {G n : Nat} {call : CallB} {ops : List Oper} {m : Array Nat} {base : Nat} {K K' : Tr Value → Hp → Nat → Prop} (hK : ∀ T h d, K T h d → K' T h d) : ∀ {l : List Nat} {T : Tr Value} {h : Hp} {done effs : Nat} {ents : List Ent}, DR P G n call ops m base l T h done effs ents K → DR P G n call ops m base l T h done effs ents K'
  | [], T, h, done, effs, ents, hr => hK _ _ _ hr
  | i :: l, T, h, done, effs, ents, hr => by
    unfold DR at hr ⊢
    refine onSome_mono (fun o ho => ⟨ho.1, guardK_mono ho.2 (fun hr => ?_) (fun hr => onSome_mono (fun T' h' => DR_mono hK h') hr)⟩) hr
    cases hk : kind o.op with
    | quiet => rw [hk] at hr; exact ⟨hr.1, onSome_mono (fun v => onSome_mono fun T' h' => DR_mono hK h') hr.2⟩
    | alloc => rw [hk] at hr; exact ⟨hr.1, onSome_mono (fun v hv => ⟨hv.1, onSome_mono (fun T' h' => DR_mono hK h') hv.2⟩) hr.2⟩
    | eff => rw [hk] at hr; exact ⟨hr.1, onSome_mono (fun v hv => ⟨hv.1, onSome_mono (fun T' h' => DR_mono hK h') hv.2⟩) hr.2⟩
/-! ### Orders in a chain -/
def cleanT (t : Tr AObj) (b : Nat) : Nat → Tr AObj
  | 0 => t
  | k + 1 => cleanT (t.set (b + k) none) b k
theorem clean_out : ∀ {k : Nat} {t : Tr AObj} {b X : Nat}, (X < b ∨ b + k ≤ X) → (cleanT t b k).at_ X = t.at_ X
  | 0, t, b, X, _ => rfl
  | k + 1, t, b, X, h => by
    unfold cleanT
    rw [clean_out (by omega), Tr.at_set_ne _ _ (by omega)]
theorem clean_in : ∀ {k : Nat} {t : Tr AObj} {b X : Nat}, b ≤ X → X < b + k → (cleanT t b k).at_ X = none
  | 0, t, b, X, h1, h2 => by omega
  | k + 1, t, b, X, h1, h2 => by
    unfold cleanT
    by_cases h : X = b + k
    · subst h
      rw [clean_out (by omega), Tr.at_set_same]
    · exact clean_in h1 (by omega)
def isAl (o : Op) : Bool := match kind o with
  | .alloc => true
  | _ => false
/-- Is each effect behind all that stands ahead of it, and ahead of all behind it? -/
def chainB (ops : Array Oper) : Bool :=
  (List.range ops.size).all fun i => within ((Region.before ops).getD i 0) (2 ^ i - 1) && (match (ops[i]?).map fun o => isEff o.op with
    | some true => Nat.beq ((Region.before ops).getD i 0) (2 ^ i - 1) && (List.range ops.size).all fun j => Nat.ble j i || bit ((Region.before ops).getD j 0) i
    | _ => true)
def opD (base i : Nat) (o : Op) (T : Tr Value) (h : Hp) (K : Value → Hp → Prop) : Prop := match kind o with
  | .quiet => onSome (evQ0 P (evl G T) h.t o) fun v => K v h
  | .alloc => onSome (evA P (evl G T) (base + i) o) fun r => h.t.at_ (base + i) = none ∧ K r.1 ⟨h.t.set (base + i) (some r.2), h.next⟩
  | .eff => onSome (evE P call (evl G T) h o) fun r => K r.1 r.2
def RD (base : Nat) (all : List Oper) : List Oper → Nat → Tr Value → Hp → (Tr Value → Hp → Prop) → Prop
  | [], _, T, h, K => K T h
  | o :: l, i, T, h, K => guardK (wantedB all T o) (opD P G call base i o.op T h fun v h' => onSome (putT n T o.dst v) fun T' => RD base all l (i + 1) T' h' K) (onSome (putT n T o.dst undef) fun T' => RD base all l (i + 1) T' h K)
theorem done_succ (i : Nat) : (2 ^ i - 1) ||| 2 ^ i = 2 ^ (i + 1) - 1 := by
  apply Nat.eq_of_testBit_eq
  intro j
  simp only [Nat.testBit_or, Nat.testBit_two_pow_sub_one, Nat.testBit_two_pow]
  by_cases h1 : j < i
  · have h2 : j < i + 1 := by omega
    simp [h1, h2]
  · by_cases h2 : j = i
    · subst h2; simp
    · have h3 : ¬ j < i + 1 := by omega
      have h4 : ¬ i = j := fun h => h2 h.symm
      simp [h1, h3, h4]
theorem within_of {a b : Nat} (h : ∀ j, a.testBit j = true → b.testBit j = true) : within a b = true := by
  refine nbeq_of ?_
  apply Nat.eq_of_testBit_eq
  intro j
  rw [Nat.testBit_and]
  cases ha : a.testBit j with
  | true => rw [h j ha]; rfl
  | false => rfl
where nbeq_of {a b : Nat} (h : a = b) : Nat.beq a b = true := by subst h; exact Nat.beq_refl a
theorem chain_run {ops : Array Oper} {base : Nat} (hc : chainB ops = true) : ∀ (l : List Oper) (i : Nat) {T : Tr Value} {h : Hp} {K : Tr Value → Hp → Prop} {effs : Nat} {ents : List Ent}, ops.toList.drop i = l → (∀ j, effs.testBit j = true → j < i ∧ (ops[j]?).map (fun o => isEff o.op) = some true) → (∀ x ∈ ents, x.i < i) →
    RD P G n call base ops.toList l i T h K → DR P G n call ops.toList (Region.before ops) base (List.range' i l.length) T h (2 ^ i - 1) effs ents fun T' h' done => done = 2 ^ (i + l.length) - 1 ∧ K T' h'
  | [], i, T, h, K, effs, ents, hd, he, hx, hr => ⟨rfl, hr⟩
  | o :: l, i, T, h, K, effs, ents, hd, he, hx, hr => by
    have ho : ops.toList[i]? = some o := by
      have := congrArg (·[0]?) hd
      simpa using this
    have hi : i < ops.size := by
      rcases Nat.lt_or_ge i ops.size with h | h
      · exact h
      · rw [List.getElem?_eq_none (by simpa using h)] at ho; cases ho
    have hd' : ops.toList.drop (i + 1) = l := by
      have := congrArg List.tail hd
      simpa using this
    have hall := List.all_eq_true.1 hc i (List.mem_range.2 hi)
    simp only [Bool.and_eq_true] at hall
    obtain ⟨hw1, hw2⟩ := hall
    have hops : ops[i]? = some o := by simpa using ho
    have hbit : bit (2 ^ i - 1) i = false := by simp [bit, Nat.testBit_two_pow_sub_one]
    have heff : within effs ((Region.before ops).getD i 0) = true := within_of fun j hj => by
      obtain ⟨h1, h2⟩ := he j hj
      have h3 := List.all_eq_true.1 hc j (List.mem_range.2 (by omega))
      simp only [Bool.and_eq_true] at h3
      rw [h2] at h3
      simp only [Bool.and_eq_true] at h3
      have h4 := List.all_eq_true.1 h3.2.2 i (List.mem_range.2 hi)
      simp only [Bool.or_eq_true] at h4
      rcases h4 with h4 | h4
      · have := ble_iff h4; omega
      · exact h4
    have hlen : i + (o :: l).length = i + 1 + l.length := by simp only [List.length_cons]; omega
    rw [hlen]
    simp only [List.length_cons, List.range'_succ]
    unfold DR
    refine ⟨o, ho, by rw [hw1, hbit]; rfl, ?_⟩
    rw [done_succ]
    unfold RD at hr
    have hents : ∀ x : Ent, (∀ x ∈ ents, x.i < i) → x.i = i → ∀ y ∈ x :: ents, y.i < i + 1 := fun x h1 h2 y hy => by
      rcases List.mem_cons.1 hy with rfl | hy
      · omega
      · have := h1 y hy; omega
    refine guardK_mono hr (fun hr => ?_) (fun hr => ?_)
    · unfold opD at hr
      cases hk : kind o.op with
      | quiet =>
        rw [hk] at hr
        obtain ⟨v, h1, T', h2, h3⟩ := hr
        exact ⟨heff, v, h1, T', h2, chain_run hc l (i + 1) hd' (fun j hj => ⟨by have := (he j hj).1; omega, (he j hj).2⟩) (hents _ hx rfl) h3⟩
      | alloc =>
        rw [hk] at hr
        obtain ⟨r, h1, hno, T', h2, h3⟩ := hr
        exact ⟨heff, r, h1, hno, T', h2, chain_run hc l (i + 1) hd' (fun j hj => ⟨by have := (he j hj).1; omega, (he j hj).2⟩) (hents _ hx rfl) h3⟩
      | eff =>
        rw [hk] at hr
        obtain ⟨r, h1, T', h2, h3⟩ := hr
        have hie : isEff o.op = true := by unfold isEff; rw [hk]
        rw [hops] at hw2
        simp only [Option.map_some, hie, Bool.and_eq_true] at hw2
        have hm := beq_iff hw2.1
        refine ⟨heff, r, h1, ?_, T', h2, chain_run hc l (i + 1) hd' (fun j hj => ?_) (fun y hy => by have := hx y hy; omega) h3⟩
        · clear h1 h2 h3 hents
          induction ents with
          | nil => exact trivial
          | cons x ents ih =>
            refine ⟨.inl ?_, ih (fun y hy => hx y (List.mem_cons_of_mem _ hy))⟩
            have hlt := hx x (by simp)
            show ((Region.before ops).getD i 0).testBit x.i = true
            rw [hm]
            simp [Nat.testBit_two_pow_sub_one, hlt]
        · rw [Nat.testBit_or, Nat.testBit_two_pow] at hj
          by_cases hji : i = j
          · subst hji; exact ⟨by omega, by rw [hops]; simp only [Option.map_some, hie]⟩
          · simp only [decide_eq_false hji, Bool.or_false] at hj
            exact ⟨by have := (he j hj).1; omega, (he j hj).2⟩
    · obtain ⟨T', h2, h3⟩ := hr
      exact ⟨T', h2, chain_run hc l (i + 1) hd' (fun j hj => ⟨by have := (he j hj).1; omega, (he j hj).2⟩) (fun y hy => by have := hx y hy; omega) h3⟩

/-! ### Code -/
def seqK (Q : Ex → Tr Value → Hp → Prop) (K : Tr Value → Hp → Prop) : Ex → Tr Value → Hp → Prop
  | .normal, T, h => K T h
  | .exit id, T, h => Q (.exit id) T h
  | .ret, T, h => Q .ret T h
def blockK (id : Nat) (Q : Ex → Tr Value → Hp → Prop) : Ex → Tr Value → Hp → Prop
  | .normal, T, h => Q .normal T h
  | .exit id', T, h => (match Nat.beq id' id with | true => Q .normal T h | false => Q (.exit id') T h)
  | .ret, T, h => Q .ret T h
def wpC : Code → Tr Value → Hp → (Ex → Tr Value → Hp → Prop) → Prop
  | .skip, T, h, Q => Q .normal T h
  | .label _, T, h, Q => Q .normal T h
  | .region _ ops false, T, h, Q => R P G n call ops.toList ops.toList T h fun T' h' => Q .normal T' h'
  | .region _ ops true, T, h, Q => statB ops = true ∧ ∃ ord k m, DR P G n call ops.toList (Region.before ops) (h.next + m) ord T ⟨cleanT h.t (h.next + m) k, h.next + m + ops.size⟩ 0 0 [] fun T' h' done => Nat.beq done (2 ^ ops.size - 1) = true ∧ Q .normal T' h'
  | .seq a b, T, h, Q => wpC a T h (seqK Q fun T' h' => wpC b T' h' Q)
  | .cond x a b, T, h, Q => onBool (evl G T x) (wpC a T h Q) (wpC b T h Q)
  | .block id body, T, h, Q => wpC body T h (blockK id Q)
  | .loop body, T, h, Q => ∃ I : Nat → Tr Value → Hp → Prop, (∃ m, I m T h) ∧ ∀ m T h, I m T h → wpC body T h (seqK Q fun T' h' => ∃ m', m' < m ∧ I m' T' h')
  | .scope body, T, h, Q => wpC body T h Q
  | .exit id, T, h, Q => Q (.exit id) T h
  | .ret, T, h, Q => Q .ret T h
  | .rangeFunc _ _ _ _, _, _, _ => False
  | .goto _, _, _, _ => False
  | .refuse _, _, _, _ => False
end

section
variable {P : Program} {G n : Nat} {call : CallB}
/-- A region whose effects are in a chain: one operation behind the other. k: blocks are made in it (else 0). -/
theorem w_chain (k sz : Nat) {id : Nat} {ops : Array Oper} {T : Tr Value} {h : Hp} {Q : Ex → Tr Value → Hp → Prop} (hst : (statB ops && chainB ops && Nat.beq ops.size sz) = true) (hr : RD P G n call h.next ops.toList ops.toList 0 T ⟨cleanT h.t h.next k, h.next + sz⟩ (Q .normal)) : wpC P G n call (.region id ops true) T h Q := by
  simp only [Bool.and_eq_true] at hst
  have hsz := beq_iff hst.2
  subst hsz
  refine ⟨hst.1.1, List.range' 0 ops.toList.length, k, 0, ?_⟩
  have := chain_run P G n call hst.1.2 ops.toList 0 (effs := 0) (ents := []) rfl (fun j hj => by simp at hj) (fun x hx => by simp at hx) hr
  refine DR_mono (fun T' h' done hd => ?_) this
  obtain ⟨h1, h2⟩ := hd
  subst h1
  exact ⟨by simp only [Nat.zero_add, Array.length_toList]; exact Nat.beq_refl _, h2⟩
/-! ### Orders by a plan -/
def elemB : List Nat → Nat → Bool
  | [], _ => false
  | a :: l, b => match Nat.beq a b with
    | true => true
    | false => elemB l b
section
variable (P : Program) (G n : Nat) (call : CallB)
def againsR (base : Nat) (rc : List Nat) (t : Tr AObj) : List Ent → Prop
  | [] => True
  | x :: l => (match elemB rc x.i with
    | true => againK P G base t x
    | false => True) ∧ againsR base rc t l
/-- Operations in the plan's order; behind each effect what is read again. -/
def PD (base : Nat) (ops : List Oper) : List (Nat × List Nat) → Tr Value → Hp → List Ent → (Tr Value → Hp → Prop) → Prop
  | [], T, h, _, K => K T h
  | (i, rc) :: rest, T, h, ents, K => onSome ops[i]? fun o => guardK (wantedB ops T o)
      ((match kind o.op with
      | .quiet => onSome (evQ0 P (evl G T) h.t o.op) fun v => onSome (putT n T o.dst v) fun T' => PD base ops rest T' h (⟨i, o.op, T, v⟩ :: ents) K
      | .alloc => onSome (evA P (evl G T) (base + i) o.op) fun r => h.t.at_ (base + i) = none ∧ onSome (putT n T o.dst r.1) fun T' => PD base ops rest T' ⟨h.t.set (base + i) (some r.2), h.next⟩ (⟨i, o.op, T, r.1⟩ :: ents) K
      | .eff => onSome (evE P call (evl G T) h o.op) fun r => againsR P G base rc r.2.t ents ∧ onSome (putT n T o.dst r.1) fun T' => PD base ops rest T' r.2 ents K))
      (onSome (putT n T o.dst undef) fun T' => PD base ops rest T' h ents K)
end
def planB (ops : Array Oper) (m : Array Nat) : List (Nat × List Nat) → Nat → Nat → List Nat → Bool
  | [], done, _, _ => Nat.beq done (2 ^ ops.size - 1)
  | (i, rc) :: rest, done, effs, prior => within (m.getD i 0) done && !bit done i && within effs (m.getD i 0) && (match (ops[i]?).map fun o => isEff o.op with
    | some true => (prior.all fun j => bef m i j || elemB rc j) && planB ops m rest (done ||| 2 ^ i) (effs ||| 2 ^ i) prior
    | some false => planB ops m rest (done ||| 2 ^ i) effs (i :: prior)
    | none => false)
theorem within_sub {a b c : Nat} (h : ∀ j, a.testBit j = true → b.testBit j = true) (hb : within b c = true) : within a c = true := by
  refine within_of fun j hj => ?_
  have h1 := beq_iff hb
  have h2 := h j hj
  rw [← h1, Nat.testBit_and] at h2
  simp only [Bool.and_eq_true] at h2
  exact h2.2
theorem or_sub {a b c : Nat} (h : ∀ j, a.testBit j = true → b.testBit j = true) : ∀ j, (a ||| c).testBit j = true → (b ||| c).testBit j = true := fun j hj => by
  rw [Nat.testBit_or] at hj ⊢
  simp only [Bool.or_eq_true] at hj ⊢
  rcases hj with hj | hj
  · exact .inl (h j hj)
  · exact .inr hj
theorem plan_run {P : Program} {G n : Nat} {call : CallB} {ops : Array Oper} {base : Nat} {K : Tr Value → Hp → Prop} : ∀ (l : List (Nat × List Nat)) {T : Tr Value} {h : Hp} {done effs effs' : Nat} {prior : List Nat} {ents : List Ent}, planB ops (Region.before ops) l done effs' prior = true → (∀ j, effs.testBit j = true → effs'.testBit j = true) → (∀ x ∈ ents, x.i ∈ prior) →
    PD P G n call base ops.toList l T h ents K → DR P G n call ops.toList (Region.before ops) base (l.map (·.1)) T h done effs ents fun T' h' done => Nat.beq done (2 ^ ops.size - 1) = true ∧ K T' h'
  | [], T, h, done, effs, effs', prior, ents, hp, he, hx, hr => ⟨hp, hr⟩
  | (i, rc) :: l, T, h, done, effs, effs', prior, ents, hp, he, hx, hr => by
    unfold planB at hp
    simp only [Bool.and_eq_true] at hp
    obtain ⟨⟨⟨h1, h2⟩, h3⟩, h4⟩ := hp
    obtain ⟨o, ho, hg⟩ := hr
    have hops : ops[i]? = some o := by simpa using ho
    have hw := within_sub he h3
    simp only [List.map_cons]
    unfold DR
    refine ⟨o, ho, by simp only [Bool.and_eq_true]; exact ⟨h1, h2⟩, ?_⟩
    rw [hops] at h4
    simp only [Option.map_some] at h4
    refine guardK_mono hg (fun hr => ?_) (fun hr => ?_)
    · cases hk : kind o.op with
      | quiet =>
        have e : isEff o.op = false := by unfold isEff; rw [hk]
        rw [e] at h4
        rw [hk] at hr
        exact ⟨hw, onSome_mono (fun v => onSome_mono fun T' h' => plan_run l h4 he (fun x hx' => by
          rcases List.mem_cons.1 hx' with rfl | hx'
          · simp
          · exact List.mem_cons_of_mem _ (hx x hx')) h') hr⟩
      | alloc =>
        have e : isEff o.op = false := by unfold isEff; rw [hk]
        rw [e] at h4
        rw [hk] at hr
        exact ⟨hw, onSome_mono (fun v hv => ⟨hv.1, onSome_mono (fun T' h' => plan_run l h4 he (fun x hx' => by
          rcases List.mem_cons.1 hx' with rfl | hx'
          · simp
          · exact List.mem_cons_of_mem _ (hx x hx')) h') hv.2⟩) hr⟩
      | eff =>
        have e : isEff o.op = true := by unfold isEff; rw [hk]
        rw [e] at h4
        rw [hk] at hr
        simp only [Bool.and_eq_true] at h4
        refine ⟨hw, onSome_mono (fun v hv => ⟨?_, onSome_mono (fun T' h' => plan_run l h4.2 (or_sub he) hx h') hv.2⟩) hr⟩
        have hall := List.all_eq_true.1 h4.1
        have key : ∀ (ents : List Ent), (∀ x ∈ ents, x.i ∈ prior) → againsR P G base rc v.2.t ents → againsK P G base (Region.before ops) i v.2.t ents := by
          intro ents
          induction ents with
          | nil => exact fun _ _ => trivial
          | cons x ents ih =>
            intro hx hag
            refine ⟨?_, ih (fun y hy => hx y (List.mem_cons_of_mem _ hy)) hag.2⟩
            have := hall x.i (hx x (by simp))
            simp only [Bool.or_eq_true] at this
            rcases this with h5 | h5
            · exact .inl h5
            · have h6 := hag.1
              rw [h5] at h6
              exact .inr h6
        exact key ents hx hv.1
    · obtain ⟨T', q1, q2⟩ := hr
      refine ⟨T', q1, ?_⟩
      cases e : isEff o.op with
      | true =>
        rw [e] at h4
        simp only [Bool.and_eq_true] at h4
        exact plan_run l h4.2 (fun j hj => by
          rw [Nat.testBit_or]
          simp only [Bool.or_eq_true]
          exact .inl (he j hj)) hx q2
      | false =>
        rw [e] at h4
        exact plan_run l h4 he (fun x hx' => List.mem_cons_of_mem _ (hx x hx')) q2
theorem w_plan (plan : List (Nat × List Nat)) (k sz : Nat) {P : Program} {G n : Nat} {call : CallB} {id : Nat} {ops : Array Oper} {T : Tr Value} {h : Hp} {Q : Ex → Tr Value → Hp → Prop} (hst : (statB ops && planB ops (Region.before ops) plan 0 0 [] && Nat.beq ops.size sz) = true)
    (hr : PD P G n call h.next ops.toList plan T ⟨cleanT h.t h.next k, h.next + sz⟩ [] (Q .normal)) : wpC P G n call (.region id ops true) T h Q := by
  simp only [Bool.and_eq_true] at hst
  have hsz := beq_iff hst.2
  subst hsz
  exact ⟨hst.1.1, plan.map (·.1), k, 0, plan_run plan hst.1.2 (fun j hj => hj) (fun x hx => by simp at hx) hr⟩
def noAl (ops : Array Oper) : Bool := (List.range ops.size).all fun i => ((ops[i]?).map fun o => !isAl o.op).getD true
theorem RD_base {P : Program} {G n : Nat} {call : CallB} {base base' : Nat} {all : List Oper} : ∀ {l : List Oper} {i : Nat} {T : Tr Value} {h : Hp} {K : Tr Value → Hp → Prop}, (∀ o ∈ l, isAl o.op = false) → RD P G n call base all l i T h K → RD P G n call base' all l i T h K
  | [], _, _, _, _, _, h => h
  | o :: l, i, T, h, K, ha, hr => by
    unfold RD at hr ⊢
    have h1 := ha o (by simp)
    have h2 : ∀ o ∈ l, isAl o.op = false := fun o ho => ha o (by simp [ho])
    refine guardK_mono hr (fun hr => ?_) (fun hr => onSome_mono (fun T' h' => RD_base h2 h') hr)
    unfold opD at hr ⊢
    cases hk : kind o.op with
    | quiet => rw [hk] at hr; exact onSome_mono (fun v => onSome_mono fun T' h' => RD_base h2 h') hr
    | alloc => unfold isAl at h1; rw [hk] at h1; cases h1
    | eff => rw [hk] at hr; exact onSome_mono (fun v => onSome_mono fun T' h' => RD_base h2 h') hr
theorem wpC_more {P : Program} {G n : Nat} {call : CallB} {id : Nat} {ops : Array Oper} {T : Tr Value} {t : Tr AObj} {m m' : Nat} {Q : Ex → Tr Value → Hp → Prop} (hm : m ≤ m') (h : wpC P G n call (.region id ops true) T ⟨t, m'⟩ Q) : wpC P G n call (.region id ops true) T ⟨t, m⟩ Q := by
  obtain ⟨h1, ord, k, m2, h2⟩ := h
  exact ⟨h1, ord, k, m' - m + m2, by simp only at h2 ⊢; rw [show m + (m' - m + m2) = m' + m2 by omega]; exact h2⟩
/-- A chain in which no block is made: the next number may be any greater one. -/
theorem w_chain0 {P : Program} {G n : Nat} {call : CallB} {id : Nat} {ops : Array Oper} {T : Tr Value} {h : Hp} {Q : Ex → Tr Value → Hp → Prop} (hst : (statB ops && chainB ops && noAl ops && Nat.ble ops.size 64) = true) (hr : RD P G n call 0 ops.toList ops.toList 0 T ⟨h.t, h.next + 64⟩ (Q .normal)) : wpC P G n call (.region id ops true) T h Q := by
  simp only [Bool.and_eq_true] at hst
  have hle := ble_iff hst.2
  have hal : ∀ o ∈ ops.toList, isAl o.op = false := fun o ho => by
    obtain ⟨i, hi, rfl⟩ := List.getElem_of_mem ho
    have hi' : i < ops.size := by simpa using hi
    have := List.all_eq_true.1 hst.1.2 i (List.mem_range.2 hi')
    rw [Array.getElem?_eq_getElem hi'] at this
    simp only [Option.map_some, Option.getD_some] at this
    cases h : isAl (ops.toList[i]).op with
    | false => rfl
    | true =>
      have h' : isAl (ops[i]).op = true := h
      rw [h'] at this
      cases this
  refine wpC_more (t := h.t) (m := h.next) (m' := h.next + 64 - ops.size) (by omega) ?_
  refine w_chain 0 ops.size (by simp only [Bool.and_eq_true]; exact ⟨hst.1.1, Nat.beq_refl _⟩) ?_
  show RD P G n call (h.next + 64 - ops.size) ops.toList ops.toList 0 T ⟨h.t, h.next + 64 - ops.size + ops.size⟩ (Q .normal)
  rw [show h.next + 64 - ops.size + ops.size = h.next + 64 by omega]
  exact RD_base hal hr
end
section
variable {P : Program} {G n : Nat} {W0 : Begin} {ν : Toks} {call : CallB}
def PostQ (P : Program) (G : Nat) (W0 : Begin) (ν : Toks) (n : Nat) (φ : Phi) (s : Hp) (Q : Ex → Tr Value → Hp → Prop) (e : Exit) (a : Act) (w : World) : Prop := ∃ x T h, Q x T h ∧ PostC P G W0 ν n φ s (x, T, h) e a w
theorem PostQ.from {φ φ1 : Phi} {s s1 : Hp} {Q : Ex → Tr Value → Hp → Prop} {e : Exit} {a : Act} {w : World} (h : PostQ P G W0 ν n φ1 s1 Q e a w) (hx : Ext s.next φ φ1) (hs : s.next ≤ s1.next) : PostQ P G W0 ν n φ s Q e a w := by
  obtain ⟨x, T, h', hq, hp⟩ := h
  exact ⟨x, T, h', hq, hp.from hx hs⟩
def VT (P : Program) (G : Nat) (W0 : Begin) (ν : Toks) (n : Nat) (c : Code) (T : Tr Value) (h : Hp) (Q : Ex → Tr Value → Hp → Prop) : Prop :=
  ∀ φ a w, Ar ν φ n T a → Rw P G W0 ν φ h w → G ≤ h.next → c.wp P (PostQ P G W0 ν n φ h Q) a w
theorem VT.of_code {c : Code} {T : Tr Value} {h : Hp} {r : Ex × Tr Value × Hp} (hc : CodeOK P G W0 ν n c T h r) {Q : Ex → Tr Value → Hp → Prop} (hq : Q r.1 r.2.1 r.2.2) : VT P G W0 ν n c T h Q := fun φ a w hA hR hG =>
  wp_mono (hc φ a w hA hR hG) fun _ _ _ hp => ⟨r.1, r.2.1, r.2.2, hq, hp⟩
/-- What is reckoned so is done. -/
theorem wpC_sound (hf : P.follows .mixedOrders = true) (hc : CallOK P G W0 ν call) : ∀ {c : Code} {T : Tr Value} {h : Hp} {Q : Ex → Tr Value → Hp → Prop}, wpC P G n call c T h Q → VT P G W0 ν n c T h Q
  | .skip, T, h, Q, hq => fun φ a w hA hR _ => wp_skip ⟨.normal, T, h, hq, rfl, φ, hA, hR, Ext.refl _ _, Nat.le_refl _⟩
  | .label _, T, h, Q, hq => fun φ a w hA hR _ => wp_label ⟨.normal, T, h, hq, rfl, φ, hA, hR, Ext.refl _ _, Nat.le_refl _⟩
  | .exit id, T, h, Q, hq => fun φ a w hA hR _ => wp_exit ⟨.exit id, T, h, hq, rfl, φ, hA, hR, Ext.refl _ _, Nat.le_refl _⟩
  | .ret, T, h, Q, hq => fun φ a w hA hR _ => wp_ret ⟨.ret, T, h, hq, rfl, φ, hA, hR, Ext.refl _ _, Nat.le_refl _⟩
  | .goto _, _, _, _, hq => hq.elim
  | .refuse _, _, _, _, hq => hq.elim
  | .rangeFunc _ _ _ _, _, _, _, hq => hq.elim
  | .region id ops false, T, h, Q, hq => by
    obtain ⟨⟨T1, h1⟩, e, hk⟩ := R_sound P G n call hq
    exact VT.of_code (seq_sound syOK_none hc e id) hk
  | .region id ops true, T, h, Q, hq => by
    obtain ⟨hst, ord, k, m, hd⟩ := hq
    obtain ⟨⟨T1, h1, done⟩, e, hk, hQ⟩ := DR_sound P G n call hd
    intro φ a w hA hR hG
    have hcl : ∀ (k : Nat) (t : Tr AObj), Rw P G W0 ν φ ⟨t, h.next + m⟩ w → Rw P G W0 ν φ ⟨cleanT t (h.next + m) k, h.next + m⟩ w := by
      intro k
      induction k with
      | zero => exact fun t h => h
      | succ k ih => exact fun t h' => ih _ (h'.kill _)
    exact wp_mono (VT.of_code (draw_run hf syOK_none hc (h := ⟨cleanT h.t (h.next + m) k, h.next + m⟩) hst e hk id) hQ φ a w hA (hcl k h.t (hR.more (Nat.le_add_right _ _))) (by show G ≤ h.next + m; omega)) fun _ _ _ hp => hp.from (Eva.Ext.refl _ _) (by show h.next ≤ h.next + m; omega)
  | .scope body, T, h, Q, hq => fun φ a w hA hR hG => by
    refine wp_scope_straight (wp_mono (wpC_sound hf hc (c := body) hq φ a w hA hR hG) fun e' a' w' hp => ?_)
    obtain ⟨x, T1, h1, hQ, hex, hp⟩ := hp
    subst hex
    cases x <;> exact ⟨_, T1, h1, hQ, rfl, hp⟩
  | .cond x y z, T, h, Q, hq => fun φ a w hA hR hG => by
    have hv := evl_sound hR hA x
    have hq' : onBool (evl G T x) (wpC P G n call y T h Q) (wpC P G n call z T h Q) := hq
    cases hx : evl G T x <;> rw [hx] at hq' hv <;> try (exact hq'.elim)
    rename_i b
    have hv' : a.eval x = .bool b := by
      generalize a.eval x = u at hv
      cases hv
      rfl
    cases b with
    | true => exact wp_cond_true hv' (wpC_sound hf hc (c := y) hq' φ a w hA hR hG)
    | false => exact wp_cond_false hv' (wpC_sound hf hc (c := z) hq' φ a w hA hR hG)
  | .seq x y, T, h, Q, hq => fun φ a w hA hR hG => by
    refine wp_seq (wp_mono (wpC_sound hf hc (c := x) hq φ a w hA hR hG) fun e' a' w' hp => ?_)
    obtain ⟨z, T1, h1, hQ, hex, φ', hA', hR', hX', hN'⟩ := hp
    subst hex
    cases z with
    | normal => exact wp_mono (wpC_sound hf hc (c := y) hQ φ' a' w' hA' hR' (Nat.le_trans hG hN')) fun e2 a2 w2 q => q.from hX' hN'
    | exit id => exact ⟨.exit id, T1, h1, hQ, rfl, φ', hA', hR', hX', hN'⟩
    | ret => exact ⟨.ret, T1, h1, hQ, rfl, φ', hA', hR', hX', hN'⟩
  | .block id body, T, h, Q, hq => fun φ a w hA hR hG => by
    refine wp_block (wp_mono (wpC_sound hf hc (c := body) hq φ a w hA hR hG) fun e' a' w' hp => ?_)
    obtain ⟨z, T1, h1, hQ, hex, φ', hA', hR', hX', hN'⟩ := hp
    subst hex
    cases z with
    | normal => exact ⟨.normal, T1, h1, hQ, rfl, φ', hA', hR', hX', hN'⟩
    | ret => exact ⟨.ret, T1, h1, hQ, rfl, φ', hA', hR', hX', hN'⟩
    | exit id' =>
      simp only [blockK] at hQ
      simp only [Ex.to, Exit.inBlock]
      cases hb : Nat.beq id' id with
      | true =>
        rw [hb] at hQ
        rw [if_pos (beq_iff hb)]
        exact ⟨.normal, T1, h1, hQ, rfl, φ', hA', hR', hX', hN'⟩
      | false =>
        rw [hb] at hQ
        rw [if_neg (fun h => by rw [h, Nat.beq_refl] at hb; cases hb)]
        exact ⟨.exit id', T1, h1, hQ, rfl, φ', hA', hR', hX', hN'⟩
  | .loop body, T, h, Q, hq => fun φ a w hA hR hG => by
    obtain ⟨I, ⟨m0, hI⟩, hstep⟩ := hq
    refine loop_of ?_
    have key : ∀ m T h, I m T h → ∀ φ a w, Ar ν φ n T a → Rw P G W0 ν φ h w → G ≤ h.next → LoopWp P body (PostQ P G W0 ν n φ h Q) a w := by
      intro m
      induction m using Nat.strongRecOn with
      | ind m ih =>
        intro T h hI φ a w hA hR hG
        refine loop_round (wp_mono (wpC_sound hf hc (c := body) (hstep m T h hI) φ a w hA hR hG) fun e' a' w' hp => ?_)
        obtain ⟨z, T1, h1, hQ, hex, φ', hA', hR', hX', hN'⟩ := hp
        subst hex
        cases z with
        | normal =>
          obtain ⟨m', hlt, hI'⟩ := hQ
          have h2 := ih m' hlt T1 h1 hI' φ' a' w' hA' hR' (Nat.le_trans hG hN')
          simp only [Ex.to, Exit.then]
          intro b k cs
          obtain ⟨e2, a2, w2, q, arr⟩ := h2 b k cs
          exact ⟨e2, a2, w2, q.from hX' hN', arr⟩
        | exit id => exact ⟨.exit id, T1, h1, hQ, rfl, φ', hA', hR', hX', hN'⟩
        | ret => exact ⟨.ret, T1, h1, hQ, rfl, φ', hA', hR', hX', hN'⟩
    exact key m0 T h hI φ a w hA hR hG

/-! ### Functions -/
/-- What a body's end comes to. -/
def endK (P : Program) (rs : List ResultVar) (K : Value → Hp → Prop) : Ex → Tr Value → Hp → Prop
  | .exit _, _, _ => False
  | .normal, T, h => onSome (resB P h.t T rs) fun vs => K (packB vs) h
  | .ret, T, h => onSome (resB P h.t T rs) fun vs => K (packB vs) h
/-- A call comes to what its body comes to. -/
def wpF (P : Program) (G : Nat) (call : CallB) (g : FuncId) (args : List Value) (h : Hp) (K : Value → Hp → Prop) : Prop :=
  ∃ fn c, P.funcs[g]? = some fn ∧ fn.body = some c ∧ args.length ≤ fn.ntmps ∧ wpC P G fn.ntmps call c (args0 args 0 .nil) h (endK P fn.results.toList K)
def CallQ (P : Program) (G : Nat) (W0 : Begin) (ν : Toks) (φ : Phi) (s : Hp) (K : Value → Hp → Prop) (e : Ending) (w' : World) : Prop := ∃ v h', K v h' ∧ CallPost P G W0 ν φ s v h' e w'
theorem wpF_sound (hf : P.follows .mixedOrders = true) (hc : CallOK P G W0 ν call) {g : FuncId} {args : List Value} {h : Hp} {K : Value → Hp → Prop} (hq : wpF P G call g args h K) :
    ∀ φ w args', VRs ν φ args args' → Rw P G W0 ν φ h w → G ≤ h.next → Calls P g ⟨args'⟩ w (CallQ P G W0 ν φ h K) := by
  intro φ w args' hargs hR hG
  obtain ⟨fn, c, hfn, hb, hle, hq⟩ := hq
  refine calls_of_wp hfn hb (wp_mono (wpC_sound hf hc hq φ _ w (enter_frame hargs hle) hR hG) fun e' a' w' hp => ?_)
  obtain ⟨z, T, s1, hQ, hex, φ', hA', hR', hX', hN'⟩ := hp
  subst hex
  have fin : onSome (resB P s1.t T fn.results.toList) (fun vs => K (packB vs) s1) → ∃ u v, (results fn a'.tmps).run P w' = .ok u w' ∧ VR ν φ' v u ∧ K v s1 := by
    rintro ⟨vs, hvs, hk⟩
    obtain ⟨vs', h1, h2⟩ := res_sound hR' hA' hvs
    refine ⟨if h : (⟨vs'⟩ : Array Value).size = 1 then (⟨vs'⟩ : Array Value)[0] else .tuple ⟨vs'⟩, packB vs, ?_, ?_, hk⟩
    · rw [results_eq]
      have : (fn.results.mapM (resOne a'.tmps)).run P w' = .ok ⟨vs'⟩ w' := by
        rw [Array.mapM_eq_mapM_toList, Sem.run_map, h1]
        rfl
      simp only [Sem.run_bind, this, Result.andThen_ok, Sem.run_pure]
    · cases h2 with
      | nil => exact .tuple .nil
      | cons h t =>
        cases t with
        | nil => exact h
        | cons h' t' =>
          rw [dif_neg (by simp)]
          exact .tuple (.cons h (.cons h' t'))
  cases z with
  | exit id => exact hQ.elim
  | normal =>
    obtain ⟨u, v, h1, h2, h3⟩ := fin hQ
    exact ⟨hA'.defers, u, h1, v, s1, h3, u, rfl, φ', h2, hR', hX', hN'⟩
  | ret =>
    obtain ⟨u, v, h1, h2, h3⟩ := fin hQ
    exact ⟨hA'.defers, u, h1, v, s1, h3, u, rfl, φ', h2, hR', hX', hN'⟩
/-- What a call comes to, in any memory that the tree stands for. -/
def CallV (P : Program) (G : Nat) (W0 : Begin) (ν : Toks) (g : FuncId) (args : List Value) (h : Hp) (K : Value → Hp → Prop) : Prop :=
  ∀ φ w args', VRs ν φ args args' → Rw P G W0 ν φ h w → G ≤ h.next → Calls P g ⟨args'⟩ w (CallQ P G W0 ν φ h K)
/-- A call comes to what its body comes to, in any memory that the tree stands for. -/
theorem callV_body {g : FuncId} {args : List Value} {h : Hp} {K : Value → Hp → Prop} (hq : ∃ fn c, P.funcs[g]? = some fn ∧ fn.body = some c ∧ args.length ≤ fn.ntmps ∧ VT P G W0 ν fn.ntmps c (args0 args 0 .nil) h (endK P fn.results.toList K)) : CallV P G W0 ν g args h K := by
  intro φ w args' hargs hR hG
  obtain ⟨fn, c, hfn, hb, hle, hq⟩ := hq
  refine calls_of_wp hfn hb (wp_mono (hq φ _ w (enter_frame hargs hle) hR hG) fun e' a' w' hp => ?_)
  obtain ⟨z, T, s1, hQ, hex, φ', hA', hR', hX', hN'⟩ := hp
  subst hex
  have fin : onSome (resB P s1.t T fn.results.toList) (fun vs => K (packB vs) s1) → ∃ u v, (results fn a'.tmps).run P w' = .ok u w' ∧ VR ν φ' v u ∧ K v s1 := by
    rintro ⟨vs, hvs, hk⟩
    obtain ⟨vs', h1, h2⟩ := res_sound hR' hA' hvs
    refine ⟨if h : (⟨vs'⟩ : Array Value).size = 1 then (⟨vs'⟩ : Array Value)[0] else .tuple ⟨vs'⟩, packB vs, ?_, ?_, hk⟩
    · rw [results_eq]
      have : (fn.results.mapM (resOne a'.tmps)).run P w' = .ok ⟨vs'⟩ w' := by
        rw [Array.mapM_eq_mapM_toList, Sem.run_map, h1]
        rfl
      simp only [Sem.run_bind, this, Result.andThen_ok, Sem.run_pure]
    · cases h2 with
      | nil => exact .tuple .nil
      | cons h t =>
        cases t with
        | nil => exact h
        | cons h' t' =>
          rw [dif_neg (by simp)]
          exact .tuple (.cons h (.cons h' t'))
  cases z with
  | exit id => exact hQ.elim
  | normal =>
    obtain ⟨u, v, h1, h2, h3⟩ := fin hQ
    exact ⟨hA'.defers, u, h1, v, s1, h3, u, rfl, φ', h2, hR', hX', hN'⟩
  | ret =>
    obtain ⟨u, v, h1, h2, h3⟩ := fin hQ
    exact ⟨hA'.defers, u, h1, v, s1, h3, u, rfl, φ', h2, hR', hX', hN'⟩
/-! ### Codes one behind the other, each reckoned by itself -/
theorem VT.seq {n : Nat} {x y : Code} {T : Tr Value} {h : Hp} {Q : Ex → Tr Value → Hp → Prop} (hx : VT P G W0 ν n x T h fun z T1 h1 => match z with | .normal => VT P G W0 ν n y T1 h1 Q | z => Q z T1 h1) : VT P G W0 ν n (.seq x y) T h Q := fun φ a w hA hR hG => by
  refine wp_seq (wp_mono (hx φ a w hA hR hG) fun e' a' w' hp => ?_)
  obtain ⟨z, T1, h1, hQ, hex, φ', hA', hR', hX', hN'⟩ := hp
  subst hex
  cases z with
  | normal => exact wp_mono (hQ φ' a' w' hA' hR' (Nat.le_trans hG hN')) fun e2 a2 w2 q => q.from hX' hN'
  | exit id => exact ⟨.exit id, T1, h1, hQ, rfl, φ', hA', hR', hX', hN'⟩
  | ret => exact ⟨.ret, T1, h1, hQ, rfl, φ', hA', hR', hX', hN'⟩
theorem VT.cond {n : Nat} {x : Operand} {y z : Code} {T : Tr Value} {h : Hp} {Q : Ex → Tr Value → Hp → Prop} (hq : onBool (evl G T x) (VT P G W0 ν n y T h Q) (VT P G W0 ν n z T h Q)) : VT P G W0 ν n (.cond x y z) T h Q := fun φ a w hA hR hG => by
  have hv := evl_sound hR hA x
  cases hx : evl G T x <;> rw [hx] at hq hv <;> try (exact hq.elim)
  rename_i b
  have hv' : a.eval x = .bool b := by
    generalize a.eval x = u at hv
    cases hv
    rfl
  cases b with
  | true => exact wp_cond_true hv' (hq φ a w hA hR hG)
  | false => exact wp_cond_false hv' (hq φ a w hA hR hG)
theorem VT.block {n : Nat} {id : Nat} {body : Code} {T : Tr Value} {h : Hp} {Q : Ex → Tr Value → Hp → Prop} (hq : VT P G W0 ν n body T h (blockK id Q)) : VT P G W0 ν n (.block id body) T h Q := fun φ a w hA hR hG => by
  refine wp_block (wp_mono (hq φ a w hA hR hG) fun e' a' w' hp => ?_)
  obtain ⟨z, T1, h1, hQ, hex, φ', hA', hR', hX', hN'⟩ := hp
  subst hex
  cases z with
  | normal => exact ⟨.normal, T1, h1, hQ, rfl, φ', hA', hR', hX', hN'⟩
  | ret => exact ⟨.ret, T1, h1, hQ, rfl, φ', hA', hR', hX', hN'⟩
  | exit id' =>
    simp only [blockK] at hQ
    simp only [Ex.to, Exit.inBlock]
    cases hb : Nat.beq id' id with
    | true =>
      rw [hb] at hQ
      rw [if_pos (beq_iff hb)]
      exact ⟨.normal, T1, h1, hQ, rfl, φ', hA', hR', hX', hN'⟩
    | false =>
      rw [hb] at hQ
      rw [if_neg (fun h => by rw [h, Nat.beq_refl] at hb; cases hb)]
      exact ⟨.exit id', T1, h1, hQ, rfl, φ', hA', hR', hX', hN'⟩
theorem VT.scope {n : Nat} {body : Code} {T : Tr Value} {h : Hp} {Q : Ex → Tr Value → Hp → Prop} (hq : VT P G W0 ν n body T h Q) : VT P G W0 ν n (.scope body) T h Q := fun φ a w hA hR hG => by
  refine wp_scope_straight (wp_mono (hq φ a w hA hR hG) fun e' a' w' hp => ?_)
  obtain ⟨x, T1, h1, hQ, hex, hp⟩ := hp
  subst hex
  cases x <;> exact ⟨_, T1, h1, hQ, rfl, hp⟩
theorem VT.loop {n : Nat} {body : Code} {T : Tr Value} {h : Hp} {Q : Ex → Tr Value → Hp → Prop} (I : Nat → Tr Value → Hp → Prop) (m0 : Nat) (hI : I m0 T h) (hstep : ∀ m T h, I m T h → VT P G W0 ν n body T h (fun z T1 h1 => match z with | .normal => ∃ m', m' < m ∧ I m' T1 h1 | z => Q z T1 h1)) : VT P G W0 ν n (.loop body) T h Q := fun φ a w hA hR hG => by
  refine loop_of ?_
  have key : ∀ m T h, I m T h → ∀ φ a w, Ar ν φ n T a → Rw P G W0 ν φ h w → G ≤ h.next → LoopWp P body (PostQ P G W0 ν n φ h Q) a w := by
    intro m
    induction m using Nat.strongRecOn with
    | ind m ih =>
      intro T h hI φ a w hA hR hG
      refine loop_round (wp_mono (hstep m T h hI φ a w hA hR hG) fun e' a' w' hp => ?_)
      obtain ⟨z, T1, h1, hQ, hex, φ', hA', hR', hX', hN'⟩ := hp
      subst hex
      cases z with
      | normal =>
        obtain ⟨m', hlt, hI'⟩ := hQ
        have h2 := ih m' hlt T1 h1 hI' φ' a' w' hA' hR' (Nat.le_trans hG hN')
        simp only [Ex.to, Exit.then]
        intro b k cs
        obtain ⟨e2, a2, w2, q, arr⟩ := h2 b k cs
        exact ⟨e2, a2, w2, q.from hX' hN', arr⟩
      | exit id => exact ⟨.exit id, T1, h1, hQ, rfl, φ', hA', hR', hX', hN'⟩
      | ret => exact ⟨.ret, T1, h1, hQ, rfl, φ', hA', hR', hX', hN'⟩
  exact key m0 T h hI φ a w hA hR hG
/-- A step that memory does not see. -/
def Gh (P : Program) (G : Nat) (W0 : Begin) (ν : Toks) (h h1 : Hp) : Prop := ∀ φ w, Rw P G W0 ν φ h w → G ≤ h.next → ∃ φ', Rw P G W0 ν φ' h1 w ∧ Ext h.next φ φ' ∧ h.next ≤ h1.next
theorem VT.ghost {n : Nat} {c : Code} {T : Tr Value} {h h1 : Hp} {Q : Ex → Tr Value → Hp → Prop} (hg : Gh P G W0 ν h h1) (hq : VT P G W0 ν n c T h1 Q) : VT P G W0 ν n c T h Q := fun φ a w hA hR hG => by
  obtain ⟨φ', hR', hX, hN⟩ := hg φ w hR hG
  exact wp_mono (hq φ' a w (hA.ext (hR.up (Nat.le_refl _) hX)) hR' (Nat.le_trans hG hN)) fun _ _ _ hp => hp.from hX hN
/-- Calls that a table tells. -/
def tbC (tb : Tb) : CallB := fun g args h => match tb.at_ g with
  | some c => c args h
  | none => none
theorem tbC_ok {tb : Tb} (h : TbOK P G W0 ν tb) : CallOK P G W0 ν (tbC tb) := by
  intro g args s v h' e
  unfold tbC at e
  split at e
  · rename_i c hc
    exact h g c hc args s v h' e
  · cases e
end
end Go.Sym
