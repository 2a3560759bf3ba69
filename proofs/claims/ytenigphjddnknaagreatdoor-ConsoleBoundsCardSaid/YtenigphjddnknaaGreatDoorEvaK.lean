/-
  A run of a closed call: a region that draws its order comes out the same in whatever order it comes up. No program in sight.
-/
import Derived.Test.YtenigphjddnknaaGreatDoorEvaJ
namespace Go.Eva
open Go Go.RowKit Go.Mix Go.Viv

/-! ### Numbers as sets -/
theorem bit_or (d i j : Nat) : bit (d ||| 2 ^ i) j = (bit d j || decide (i = j)) := by
  unfold bit
  rw [Nat.testBit_or, Nat.testBit_two_pow]
theorem within_spec {a b : Nat} (h : within a b = true) {j : Nat} (hj : bit a j = true) : bit b j = true := by
  unfold within at h
  have h1 := beq_iff h
  unfold bit at hj ⊢
  rw [← h1, Nat.testBit_and] at hj
  simp at hj
  exact hj.2

theorem oeq_spec {a b : AObj} (h : oeq a b = true) : a = b := by
  cases a with
  | cells c e r =>
    cases b with
    | cells c' e' r' =>
      simp only [oeq, Bool.and_eq_true, beq_iff_eq] at h
      obtain ⟨⟨h1, h2⟩, h3⟩ := h
      rw [veqL_spec h1, beq_iff h2, h3]
    | map es clk => simp [oeq] at h
    | res x => simp [oeq] at h
  | res x => cases b <;> simp [oeq] at h
  | map es clk =>
    cases b with
    | cells c' e' r' => simp [oeq] at h
    | res x => simp [oeq] at h
    | map es' clk' => cases es <;> cases es' <;> cases clk <;> cases clk' <;> first | rfl | (simp [oeq] at h)

/-! ### What the region is -/
def Writes (ops : Array Oper) (j t : Nat) : Prop := ∃ o, ops[j]? = some o ∧ o.dst = some t
structure Stat (ops : Array Oper) (m : Array Nat) : Prop where
  mask : maskB .any ops m = true
  look : ∀ i o t j, ops[i]? = some o → t ∈ o.looksAt ops → Writes ops j t → j ≠ i → bef m i j = true ∨ bef m j i = true
  uniq : ∀ i j t, Writes ops i t → Writes ops j t → i = j
  topo : ∀ i o, ops[i]? = some o → ∀ e ∈ o.after, Region.binds .any e = true → e.on < i
theorem lt_of_some {α : Type} {l : Array α} {i : Nat} {x : α} (h : l[i]? = some x) : i < l.size := (Array.getElem?_eq_some_iff.1 h).1
theorem stat_spec {ops : Array Oper} (h : statB ops = true) : Stat ops (Region.before ops) := by
  unfold statB at h
  simp only [Bool.and_eq_true] at h
  obtain ⟨⟨⟨h1, h2⟩, h3⟩, h4⟩ := h
  refine ⟨h1, fun i o t j ho ht ⟨q, hq, hd⟩ hne => ?_, fun i j t ⟨o, ho, hd⟩ ⟨q, hq, hd'⟩ => ?_, fun i o ho e he hb => ?_⟩
  · have a1 := List.all_eq_true.1 h2 i (by simpa using lt_of_some ho)
    rw [ho] at a1
    simp only [Option.map_some, Option.getD_some] at a1
    have a2 := List.all_eq_true.1 (List.all_eq_true.1 a1 t ht) j (by simpa using lt_of_some hq)
    rw [hq] at a2
    have : Nat.beq i j = false := by
      cases hb : Nat.beq i j with
      | false => rfl
      | true => exact absurd (beq_iff hb).symm hne
    simpa [this, hd] using a2
  · have a1 := List.all_eq_true.1 (List.all_eq_true.1 h3 i (by simpa using lt_of_some ho)) j (by simpa using lt_of_some hq)
    cases hb : Nat.beq i j with
    | true => exact beq_iff hb
    | false => simp [hb, ho, hq, hd, hd'] at a1
  · have a1 := List.all_eq_true.1 h4 i (by simpa using lt_of_some ho)
    rw [ho] at a1
    simp only [Option.map_some, Option.getD_some] at a1
    have a2 := Array.all_eq_true'.1 a1 e he
    simp [hb] at a2
    exact a2

/-! ### What was found in one order -/
structure Plan where
  val : Nat → Value
  T : Nat → Tr Value
  wa : Nat → Bool
  H : Nat → Hp
  K : Nat
  E : Nat → Nat
def Ok (m : Array Nat) (p : Plan) (i c : Nat) : Prop := (∀ c', c' < p.K → bef m i (p.E c') = true → c' < c) ∧ (∀ c', c' < p.K → bef m (p.E c') i = true → c ≤ c')
section
variable (P : Program) (G : Nat) (W0 : Begin) (ν : Toks) (sy : Sy) (call : CallB) (ops : Array Oper) (m : Array Nat) (n base : Nat) (T0 : Tr Value) (h0 : Hp)
/-- From the heap h' to the one that the next effect finds: blocks that nothing stands for yet. -/
def Adds (cond : Nat → Prop) (h' h'' : Hp) : Prop :=
  h''.next = h'.next ∧ ∀ φ w, (∀ j, j < ops.size → cond j → φ (base + j) = none) → Rw P G W0 ν φ h' w → Rw P G W0 ν φ h'' w
structure GoodAt (p : Plan) (i : Nat) (o : Oper) : Prop where
  want : wantedB ops.toList (p.T i) o = some (p.wa i)
  tmp : ∀ t j, t ∈ o.looksAt ops → Writes ops j t → (bef m i j = true → look (p.T i) t = p.val j) ∧ (bef m i j = false → look (p.T i) t = look T0 t)
  tmp0 : ∀ t, t ∈ o.looksAt ops → (∀ j, ¬ Writes ops j t) → look (p.T i) t = look T0 t
  dst : ∀ d, o.dst = some d → d < n
  skip : p.wa i = false → p.val i = undef ∧ ∀ c, c < p.K → p.E c ≠ i
  run : p.wa i = true →
    (kind o.op = .quiet ∧ (∀ c, c < p.K → p.E c ≠ i) ∧ ∀ c, c ≤ p.K → Ok m p i c → evQ P sy (evl G (p.T i)) (p.H c).t o.op = some (p.val i)) ∨
    (kind o.op = .alloc ∧ (∀ c, c < p.K → p.E c ≠ i) ∧ ∃ ob, evA P (evl G (p.T i)) (base + i) o.op = some (p.val i, ob) ∧ ∀ c, c ≤ p.K → Ok m p i c → (p.H c).t.at_ (base + i) = some ob) ∨
    (kind o.op = .eff ∧ ∃ c, c < p.K ∧ p.E c = i ∧ ∃ h', evE P call (evl G (p.T i)) (p.H c) o.op = some (p.val i, h') ∧ Adds P G W0 ν ops base (fun j => bef m j i = true) h' (p.H (c + 1)))
structure Inv (p : Plan) (done : Nat) (T : Tr Value) (h : Hp) (effs : Nat) (ents : List Ent) : Prop where
  hK : p.H p.K = h
  canT : ∀ j t, Writes ops j t → (bit done j = true → look T t = p.val j) ∧ (bit done j = false → look T t = look T0 t)
  canT0 : ∀ t, (∀ j, ¬ Writes ops j t) → look T t = look T0 t
  topo : ∀ j, bit done j = true → ∀ k, bef m j k = true → bit done k = true
  ltn : ∀ j, bit done j = true → j < ops.size
  Edone : ∀ c, c < p.K → bit done (p.E c) = true ∧ bit effs (p.E c) = true
  effs : ∀ j, bit effs j = true → ∃ c, c < p.K ∧ p.E c = j
  chain : ∀ c c', c < c' → c' < p.K → bef m (p.E c') (p.E c) = true
  good : ∀ i o, bit done i = true → ops[i]? = some o → GoodAt P G W0 ν sy call ops m n base T0 p i o
  ents : ∀ i o, bit done i = true → ops[i]? = some o → p.wa i = true → kind o.op ≠ .eff → ⟨i, o.op, p.T i, p.val i⟩ ∈ ents
  start : Adds P G W0 ν ops base (fun _ => True) h0 (p.H 0)
end
def upd {α : Type} (f : Nat → α) (i : Nat) (x : α) : Nat → α := fun j => if j = i then x else f j
theorem upd_same {α : Type} (f : Nat → α) (i : Nat) (x : α) : upd f i x i = x := by simp [upd]
theorem upd_ne {α : Type} (f : Nat → α) {i j : Nat} (x : α) (h : j ≠ i) : upd f i x j = f j := by simp [upd, h]
section
variable {P : Program} {G : Nat} {W0 : Begin} {ν : Toks} {sy : Sy} {call : CallB} {ops : Array Oper} {m : Array Nat} {n base : Nat} {T0 : Tr Value} {h0 : Hp}

/-- What reads finds the same where there is more. -/
def More (t t' : Tr AObj) : Prop := ∀ B o, t.at_ B = some o → t'.at_ B = some o
theorem More.set {t : Tr AObj} {B : Nat} (h : t.at_ B = none) (o : AObj) : More t (t.set B (some o)) := fun X x hX => by
  by_cases e : B = X
  · subst e; rw [h] at hX; cases hX
  · rw [Tr.at_set_ne _ _ e]; exact hX

theorem put_look {T T' : Tr Value} {d : Option Tmp} {v : Value} (h : putT n T d v = some T') : (∀ t, d = some t → look T' t = v ∧ t < n) ∧ ∀ t, d ≠ some t → look T' t = look T t := by
  cases d with
  | none => simp only [putT, Option.some.injEq] at h; subst h; exact ⟨fun t ht => (by cases ht), fun t _ => rfl⟩
  | some d =>
    simp only [putT] at h
    cases hb : Nat.blt d n with
    | false => rw [hb] at h; cases h
    | true =>
      rw [hb] at h
      simp only [Option.some.injEq] at h
      subst h
      exact ⟨fun t ht => by cases ht; exact ⟨look_set_same _ _ _, blt_iff hb⟩, fun t ht => look_set_ne _ _ (fun e => ht (by rw [e]))⟩
/-- One operation more has come up, at the heap as it is, or with a block more. -/
theorem Inv.step (hS : Stat ops m) {p : Plan} {done effs : Nat} {T T' : Tr Value} {h h' : Hp} {ents ents' : List Ent} (I : Inv P G W0 ν sy call ops m n base T0 h0 p done T h effs ents)
    {i : Nat} {o : Oper} (ho : ops[i]? = some o) (hnd : bit done i = false) (hm : within (m.getD i 0) done = true) {b : Bool} {v : Value} (hw : wantedB ops.toList T o = some b) (hput : putT n T o.dst v = some T')
    (hents : ∀ x ∈ ents, x ∈ ents') (p' : Plan) (hval : p'.val = upd p.val i v) (hT : p'.T = upd p.T i T) (hwa : p'.wa = upd p.wa i b)
    (hE : ∀ c, c < p.K → p'.E c = p.E c) (hKK : p.K ≤ p'.K) (hK : p'.H p'.K = h') (hEi : ∀ c, c < p'.K → p.K ≤ c → p'.E c = i) (effs' : Nat)
    (heffs : ∀ j, bit effs' j = true ↔ bit effs j = true ∨ (j = i ∧ p.K < p'.K)) (hK1 : p'.K ≤ p.K + 1)
    (hchain : p.K < p'.K → within effs (m.getD i 0) = true)
    (hold : ∀ j q, bit done j = true → ops[j]? = some q → (p.wa j = true →
      (kind q.op = .quiet ∧ (∀ c, c < p.K → p.E c ≠ j) ∧ ∀ c, c ≤ p.K → Ok m p j c → evQ P sy (evl G (p.T j)) (p.H c).t q.op = some (p.val j)) ∨
      (kind q.op = .alloc ∧ (∀ c, c < p.K → p.E c ≠ j) ∧ ∃ ob, evA P (evl G (p.T j)) (base + j) q.op = some (p.val j, ob) ∧ ∀ c, c ≤ p.K → Ok m p j c → (p.H c).t.at_ (base + j) = some ob) ∨
      (kind q.op = .eff ∧ ∃ c, c < p.K ∧ p.E c = j ∧ ∃ h', evE P call (evl G (p.T j)) (p.H c) q.op = some (p.val j, h') ∧ Adds P G W0 ν ops base (fun k => bef m k j = true) h' (p.H (c + 1)))) →
      (p.wa j = true →
      (kind q.op = .quiet ∧ (∀ c, c < p'.K → p'.E c ≠ j) ∧ ∀ c, c ≤ p'.K → Ok m p' j c → evQ P sy (evl G (p.T j)) (p'.H c).t q.op = some (p.val j)) ∨
      (kind q.op = .alloc ∧ (∀ c, c < p'.K → p'.E c ≠ j) ∧ ∃ ob, evA P (evl G (p.T j)) (base + j) q.op = some (p.val j, ob) ∧ ∀ c, c ≤ p'.K → Ok m p' j c → (p'.H c).t.at_ (base + j) = some ob) ∨
      (kind q.op = .eff ∧ ∃ c, c < p'.K ∧ p'.E c = j ∧ ∃ h', evE P call (evl G (p.T j)) (p'.H c) q.op = some (p.val j, h') ∧ Adds P G W0 ν ops base (fun k => bef m k j = true) h' (p'.H (c + 1)))))
    (hskip : b = false → v = undef ∧ ∀ c, c < p'.K → p'.E c ≠ i)
    (hrun : b = true →
      (kind o.op = .quiet ∧ (∀ c, c < p'.K → p'.E c ≠ i) ∧ ∀ c, c ≤ p'.K → Ok m p' i c → evQ P sy (evl G T) (p'.H c).t o.op = some v) ∨
      (kind o.op = .alloc ∧ (∀ c, c < p'.K → p'.E c ≠ i) ∧ ∃ ob, evA P (evl G T) (base + i) o.op = some (v, ob) ∧ ∀ c, c ≤ p'.K → Ok m p' i c → (p'.H c).t.at_ (base + i) = some ob) ∨
      (kind o.op = .eff ∧ ∃ c, c < p'.K ∧ p'.E c = i ∧ ∃ h', evE P call (evl G T) (p'.H c) o.op = some (v, h') ∧ Adds P G W0 ν ops base (fun k => bef m k i = true) h' (p'.H (c + 1))))
    (hent : b = true → kind o.op ≠ .eff → ⟨i, o.op, T, v⟩ ∈ ents') (hstart : Adds P G W0 ν ops base (fun _ => True) h0 (p'.H 0)) :
    Inv P G W0 ν sy call ops m n base T0 h0 p' (done ||| 2 ^ i) T' h' effs' ents' := by
  have hne : ∀ j, bit done j = true → j ≠ i := fun j hj e => by rw [e, hnd] at hj; cases hj
  have hdn : ∀ j, bit (done ||| 2 ^ i) j = true → bit done j = true ∨ j = i := fun j hj => by
    rw [bit_or] at hj
    simp at hj
    exact hj.imp id Eq.symm
  have hdn' : ∀ j, bit (done ||| 2 ^ i) j = false → bit done j = false ∧ j ≠ i := fun j hj => by
    rw [bit_or] at hj
    simp at hj
    exact ⟨hj.1, fun e => hj.2 e.symm⟩
  have hup : ∀ j, bit done j = true → bit (done ||| 2 ^ i) j = true := fun j hj => by rw [bit_or, hj]; rfl
  obtain ⟨hl1, hl2⟩ := put_look hput
  have hbi : ∀ k, bef m i k = true → bit done k = true := fun k hk => within_spec hm hk
  have hvj : ∀ j, j ≠ i → p'.val j = p.val j := fun j hj => by rw [hval, upd_ne _ _ hj]
  refine ⟨hK, fun j t hwr => ?_, fun t hno => ?_, fun j hj k hk => ?_, fun j hj => ?_, fun c hc => ?_, fun j hj => ?_, fun c c' hcc hc' => ?_, fun j q hj hq => ?_, fun j q hj hq hwj hkd => ?_, hstart⟩
  · by_cases e : j = i
    · subst e
      obtain ⟨q, hq, hd⟩ := hwr
      rw [ho] at hq; cases hq
      refine ⟨fun _ => by rw [hval, upd_same]; exact (hl1 t hd).1, fun hf => ?_⟩
      exact absurd rfl (hdn' _ hf).2
    · have hdt : o.dst ≠ some t := fun hd => e (hS.uniq j i t hwr ⟨o, ho, hd⟩)
      rw [hl2 t hdt, hvj j e]
      obtain ⟨c1, c2⟩ := I.canT j t hwr
      refine ⟨fun hb => c1 ((hdn j hb).resolve_right e), fun hb => c2 (hdn' j hb).1⟩
  · have hdt : o.dst ≠ some t := fun hd => hno i ⟨o, ho, hd⟩
    rw [hl2 t hdt]
    exact I.canT0 t hno
  · rcases hdn j hj with hj | rfl
    · exact hup k (I.topo j hj k hk)
    · exact hup k (hbi k hk)
  · rcases hdn j hj with hj | rfl
    · exact I.ltn j hj
    · exact lt_of_some ho
  · by_cases hcK : c < p.K
    · rw [hE c hcK]
      exact ⟨hup _ (I.Edone c hcK).1, (heffs _).2 (.inl (I.Edone c hcK).2)⟩
    · rw [hEi c hc (by omega)]
      exact ⟨by rw [bit_or]; simp, (heffs i).2 (.inr ⟨rfl, by omega⟩)⟩
  · rcases (heffs j).1 hj with hj | ⟨rfl, hlt⟩
    · obtain ⟨c, hc, he⟩ := I.effs j hj
      exact ⟨c, by omega, by rw [hE c hc]; exact he⟩
    · exact ⟨p.K, hlt, hEi _ hlt (Nat.le_refl _)⟩
  · by_cases h1 : c' < p.K
    · rw [hE c' h1, hE c (by omega)]
      exact I.chain c c' hcc h1
    · have hlt : p.K < p'.K := by omega
      rw [hEi c' hc' (by omega), hE c (by omega)]
      exact within_spec (hchain hlt) (I.Edone c (by omega)).2
  · rcases hdn j hj with hj | rfl
    · have g := I.good j q hj hq
      have hji := hne j hj
      have e1 : p'.T j = p.T j := by rw [hT, upd_ne _ _ hji]
      have e2 : p'.wa j = p.wa j := by rw [hwa, upd_ne _ _ hji]
      refine ⟨by rw [e1, e2]; exact g.want, fun t k ht hwr => ?_, by rw [e1]; exact g.tmp0, g.dst, fun hf => ?_, fun hr => ?_⟩
      · rw [e1]
        obtain ⟨c1, c2⟩ := g.tmp t k ht hwr
        refine ⟨fun hb => ?_, c2⟩
        rw [c1 hb, hvj k (hne k (I.topo j hj k hb))]
      · rw [e2] at hf
        obtain ⟨s1, s2⟩ := g.skip hf
        refine ⟨by rw [hvj j hji]; exact s1, fun c hc => ?_⟩
        by_cases hcK : c < p.K
        · rw [hE c hcK]; exact s2 c hcK
        · rw [hEi c hc (by omega)]; exact Ne.symm hji
      · rw [e2] at hr
        have := hold j q hj hq g.run hr
        rw [e1, hvj j hji]
        exact this
    · rw [ho] at hq; cases hq
      have e1 : p'.T j = T := by rw [hT, upd_same]
      have e2 : p'.wa j = b := by rw [hwa, upd_same]
      have e3 : p'.val j = v := by rw [hval, upd_same]
      refine ⟨by rw [e1, e2]; exact hw, fun t k ht hwr => ?_, fun t ht hno => by rw [e1]; exact I.canT0 t hno, fun d hd => (hl1 d hd).2, fun hf => ?_, fun hr => ?_⟩
      · rw [e1]
        obtain ⟨c1, c2⟩ := I.canT k t hwr
        refine ⟨fun hb => ?_, fun hb => ?_⟩
        · have hk := hbi k hb
          rw [c1 hk, hvj k (hne k hk)]
        · cases hdk : bit done k with
          | false => exact c2 hdk
          | true =>
            exfalso
            rcases hS.look j _ t k ho ht hwr (hne k hdk) with h1 | h1
            · rw [hb] at h1; cases h1
            · have := I.topo k hdk j h1
              rw [hnd] at this; cases this
      · rw [e2] at hf; rw [e3]; exact hskip hf
      · rw [e2] at hr; rw [e1, e3]; exact hrun hr
  · rcases hdn j hj with hj | rfl
    · have hji := hne j hj
      have e1 : p'.T j = p.T j := by rw [hT, upd_ne _ _ hji]
      have e2 : p'.wa j = p.wa j := by rw [hwa, upd_ne _ _ hji]
      rw [e1, hvj j hji]
      exact hents _ (I.ents j q hj hq (by rw [← e2]; exact hwj) hkd)
    · rw [ho] at hq; cases hq
      have e1 : p'.T j = T := by rw [hT, upd_same]
      have e2 : p'.wa j = b := by rw [hwa, upd_same]
      have e3 : p'.val j = v := by rw [hval, upd_same]
      rw [e1, e3]
      exact hent (by rw [← e2]; exact hwj) hkd

theorem again_spec {t : Tr AObj} {x : Ent} (h : again P sy G base t x = true) :
    (kind x.o = .quiet ∧ evQ P sy (evl G x.T) t x.o = some x.v) ∨ (kind x.o = .alloc ∧ ∃ v ob, evA P (evl G x.T) (base + x.i) x.o = some (v, ob) ∧ t.at_ (base + x.i) = some ob) := by
  unfold again at h
  split at h
  · rename_i hk
    split at h <;> try cases h
    rename_i v hv
    exact .inl ⟨hk, by rw [hv, veq_spec h]⟩
  · rename_i hk
    split at h <;> try cases h
    rename_i v ob ob' h1 h2
    exact .inr ⟨hk, v, ob, h1, by rw [h2, oeq_spec h]⟩
  · cases h
theorem allAgain_spec {e : Nat} {t : Tr AObj} : ∀ {l : List Ent}, allAgain P sy G m base e t l = true → ∀ x ∈ l, bef m e x.i = true ∨ again P sy G base t x = true
  | [], _, x, hx => by cases hx
  | y :: l, h, x, hx => by
    simp only [allAgain] at h
    split at h <;> try cases h
    rename_i hb
    rcases List.mem_cons.1 hx with rfl | hx
    · simpa using hb
    · exact allAgain_spec h x hx
theorem run_inv (hS : Stat ops m) (hmore : ∀ ρ t t' o v, More t t' → evQ P sy ρ t o = some v → evQ P sy ρ t' o = some v) : ∀ (l : List Nat) {p : Plan} {T : Tr Value} {h : Hp} {done effs : Nat} {ents : List Ent} {Tf : Tr Value} {hf : Hp} {df : Nat},
    dRun P sy G n call ops.toList m base l T h done effs ents = some (Tf, hf, df) → Inv P G W0 ν sy call ops m n base T0 h0 p done T h effs ents →
    ∃ p' effs' ents', Inv P G W0 ν sy call ops m n base T0 h0 p' df Tf hf effs' ents'
  | [], p, T, h, done, effs, ents, Tf, hf, df, e, I => by
    simp only [dRun, Option.some.injEq, Prod.mk.injEq] at e
    obtain ⟨rfl, rfl, rfl⟩ := e
    exact ⟨p, effs, ents, I⟩
  | i :: l, p, T, h, done, effs, ents, Tf, hf, df, e, I => by
    simp only [dRun] at e
    split at e <;> try cases e
    rename_i o ho hb
    rw [Array.getElem?_toList] at ho
    simp only [Bool.and_eq_true, Bool.not_eq_true'] at hb
    obtain ⟨hm, hnd⟩ := hb
    have hjne : ∀ j, bit done j = true → j ≠ i := fun j hj e => by rw [e, hnd] at hj; cases hj
    split at e <;> try cases e
    · -- passed over
      rename_i hw
      split at e <;> try cases e
      rename_i T' hput
      refine run_inv hS hmore l e (I.step (p' := { p with val := upd p.val i undef, T := upd p.T i T, wa := upd p.wa i false }) hS ho hnd hm hw hput (fun x hx => hx) rfl rfl rfl (fun _ _ => rfl) (Nat.le_refl _) I.hK
        (fun c h1 h2 => by exact absurd h1 (by simp only; omega)) effs (fun j => ⟨.inl, fun h => h.elim id fun h => absurd h.2 (Nat.lt_irrefl _)⟩) (Nat.le_succ _) (fun h => absurd h (Nat.lt_irrefl _)) (fun j q _ _ h => h)
        (fun _ => ⟨rfl, fun c hc he => ?_⟩) (fun h => by cases h) (fun h => by cases h) I.start)
      exact hjne _ (I.Edone c hc).1 he
    · rename_i hw
      split at e <;> try cases e
      · -- it reads
        rename_i hk heff
        split at e <;> try cases e
        rename_i v hv
        split at e <;> try cases e
        rename_i T' hput
        have hEi : ∀ c, c < p.K → p.E c ≠ i := fun c hc he => hjne _ (I.Edone c hc).1 he
        refine run_inv hS hmore l e (I.step (p' := { p with val := upd p.val i v, T := upd p.T i T, wa := upd p.wa i true }) hS ho hnd hm hw hput (fun x hx => List.mem_cons_of_mem _ hx) rfl rfl rfl (fun _ _ => rfl) (Nat.le_refl _) I.hK
          (fun c h1 h2 => by exact absurd h1 (by simp only; omega)) effs (fun j => ⟨.inl, fun h => h.elim id fun h => absurd h.2 (Nat.lt_irrefl _)⟩) (Nat.le_succ _) (fun h => absurd h (Nat.lt_irrefl _)) (fun j q _ _ h => h)
          (fun h => by cases h) (fun _ => .inl ⟨hk, hEi, fun c hc hok => ?_⟩) (fun _ _ => List.mem_cons_self) I.start)
        have : c = p.K := by
          rcases Nat.lt_or_ge c p.K with hlt | hge
          · have h2 := hok.1 (p.K - 1) (by simp only; omega) (within_spec heff (I.Edone (p.K - 1) (by omega)).2)
            omega
          · simp only at hc; omega
        subst this
        simp only [I.hK]
        exact hv
      · -- a new block
        rename_i hk heff
        split at e <;> try cases e
        rename_i v ob hv hat
        split at e <;> try cases e
        rename_i T' hput
        have hEi : ∀ c, c < p.K → p.E c ≠ i := fun c hc he => hjne _ (I.Edone c hc).1 he
        have hmo : More h.t (h.t.set (base + i) (some ob)) := More.set hat ob
        have hlast : ∀ c, c ≤ p.K → Ok m p i c → c = p.K := fun c hc hok => by
          rcases Nat.lt_or_ge c p.K with hlt | hge
          · have h2 := hok.1 (p.K - 1) (by omega) (within_spec heff (I.Edone (p.K - 1) (by omega)).2)
            omega
          · omega
        have hH : ∀ c, c < p.K → upd p.H p.K ⟨h.t.set (base + i) (some ob), h.next⟩ c = p.H c := fun c hc => upd_ne _ _ (by omega)
        have hadd : ∀ (cond : Nat → Prop) (g g' : Hp), cond i → (Adds P G W0 ν ops base cond g g' → g' = h → Adds P G W0 ν ops base cond g ⟨h.t.set (base + i) (some ob), h.next⟩) := fun cond g g' hci ha hg' => by
          subst hg'
          refine ⟨ha.1, fun φ w hφ hR => ?_⟩
          exact (ha.2 φ w hφ hR).ghost (hφ i (lt_of_some ho) hci) _ (Nat.le_refl _)
        refine run_inv hS hmore l e (I.step (p' := { p with val := upd p.val i v, T := upd p.T i T, wa := upd p.wa i true, H := upd p.H p.K ⟨h.t.set (base + i) (some ob), h.next⟩ }) hS ho hnd hm hw hput (fun x hx => List.mem_cons_of_mem _ hx) rfl rfl rfl (fun _ _ => rfl) (Nat.le_refl _)
          (upd_same _ _ _)
          (fun c h1 h2 => by exact absurd h1 (by simp only; omega)) effs (fun j => ⟨.inl, fun h => h.elim id fun h => absurd h.2 (Nat.lt_irrefl _)⟩) (Nat.le_succ _) (fun h => absurd h (Nat.lt_irrefl _)) (fun j q hj hq hold hwj => ?_)
          (fun h => by cases h) (fun _ => .inr (.inl ⟨hk, hEi, ob, hv, fun c hc hok => ?_⟩)) (fun _ _ => List.mem_cons_self) ?_)
        · rcases hold hwj with ⟨h1, h2, h3⟩ | ⟨h1, h2, ob', h3, h4⟩ | ⟨h1, c, h2, h3, g, h4, h5⟩
          · refine .inl ⟨h1, h2, fun c hc hok => ?_⟩
            simp only at hc
            rcases Nat.lt_or_ge c p.K with hlt | hge
            · simp only [hH c hlt]; exact h3 c hc hok
            · have : c = p.K := by omega
              subst this
              simp only [upd_same]
              exact hmore _ _ _ _ _ hmo (by have := h3 p.K (Nat.le_refl _) hok; rwa [I.hK] at this)
          · refine .inr (.inl ⟨h1, h2, ob', h3, fun c hc hok => ?_⟩)
            simp only at hc
            rcases Nat.lt_or_ge c p.K with hlt | hge
            · simp only [hH c hlt]; exact h4 c hc hok
            · have : c = p.K := by omega
              subst this
              simp only [upd_same]
              exact hmo _ _ (by have := h4 p.K (Nat.le_refl _) hok; rwa [I.hK] at this)
          · refine .inr (.inr ⟨h1, c, h2, h3, g, by simp only [hH c h2]; exact h4, ?_⟩)
            rcases Nat.lt_or_ge (c + 1) p.K with hlt | hge
            · simp only [hH (c + 1) hlt]; exact h5
            · have : c + 1 = p.K := by omega
              simp only [this, upd_same]
              rw [this] at h5
              exact hadd _ _ _ (by rw [← h3]; exact within_spec heff (I.Edone c h2).2) h5 I.hK
        · simp only at hc
          have := hlast c hc hok
          subst this
          simp only [upd_same, Tr.at_set_same]
        · rcases Nat.eq_or_lt_of_le (Nat.zero_le p.K) with h0' | h0'
          · simp only [← h0', upd_same]
            have := I.start
            rw [h0'] at this
            rw [← h0'] at this
            exact hadd _ _ _ trivial (by rw [← h0'] at *; exact I.start) (by have := I.hK; rw [← h0'] at this; exact this)
          · simp only [hH 0 h0']; exact I.start
      · -- an effect
        rename_i hk heff
        split at e <;> try cases e
        rename_i v h' hv
        split at e <;> try cases e
        rename_i hag
        split at e <;> try cases e
        rename_i T' hput
        have hEi : ∀ c, c < p.K → p.E c ≠ i := fun c hc he => hjne _ (I.Edone c hc).1 he
        have hH : ∀ c, c ≤ p.K → upd p.H (p.K + 1) h' c = p.H c := fun c hc => upd_ne _ _ (by omega)
        have hE' : ∀ c, c < p.K → upd p.E p.K i c = p.E c := fun c hc => upd_ne _ _ (by omega)
        have hag' := allAgain_spec hag
        refine run_inv hS hmore l e (I.step (p' := { p with val := upd p.val i v, T := upd p.T i T, wa := upd p.wa i true, H := upd p.H (p.K + 1) h', K := p.K + 1, E := upd p.E p.K i }) hS ho hnd hm hw hput (fun x hx => hx) rfl rfl rfl hE' (Nat.le_succ _)
          (upd_same _ _ _) (fun c h1 h2 => ?_) (effs ||| 2 ^ i) (fun j => ?_) (Nat.le_refl _) (fun _ => heff) (fun j q hj hq hold hwj => ?_)
          (fun h => by cases h) (fun _ => .inr (.inr ⟨hk, p.K, Nat.lt_succ_self _, upd_same _ _ _, h', ?_, ?_⟩)) (fun _ h => absurd hk h) ?_)
        · simp only at h1
          have : c = p.K := by omega
          subst this
          exact upd_same _ _ _
        · rw [bit_or]
          simp
          constructor
          · rintro (h | h)
            · exact .inl h
            · exact .inr h.symm
          · rintro (h | h)
            · exact .inl h
            · exact .inr h.symm
        · have hji := hjne j hj
          have hEj : ∀ c, c < p.K + 1 → (∀ c, c < p.K → p.E c ≠ j) → upd p.E p.K i c ≠ j := fun c hc h2 => by
            rcases Nat.lt_or_ge c p.K with hlt | hge
            · rw [hE' c hlt]; exact h2 c hlt
            · have : c = p.K := by omega
              subst this; rw [upd_same]; exact Ne.symm hji
          have hok' : ∀ c, c ≤ p.K → Ok m { p with val := upd p.val i v, T := upd p.T i T, wa := upd p.wa i true, H := upd p.H (p.K + 1) h', K := p.K + 1, E := upd p.E p.K i } j c → Ok m p j c := fun c hc hok =>
            ⟨fun c' hc' hb => hok.1 c' (by simp only; omega) (by simp only [hE' c' hc']; exact hb), fun c' hc' hb => hok.2 c' (by simp only; omega) (by simp only [hE' c' hc']; exact hb)⟩
          have hnb : ∀ c, c ≤ p.K + 1 → p.K < c → Ok m { p with val := upd p.val i v, T := upd p.T i T, wa := upd p.wa i true, H := upd p.H (p.K + 1) h', K := p.K + 1, E := upd p.E p.K i } j c → bef m i j = false := fun c hc hgt hok => by
            cases hbb : bef m i j with
            | false => rfl
            | true =>
              have := hok.2 p.K (by simp only; omega) (by simp only [upd_same]; exact hbb)
              omega
          rcases hold hwj with ⟨h1, h2, h3⟩ | ⟨h1, h2, ob', h3, h4⟩ | ⟨h1, c, h2, h3, g, h4, h5⟩
          · refine .inl ⟨h1, fun c hc => hEj c hc h2, fun c hc hok => ?_⟩
            simp only at hc
            rcases Nat.lt_or_ge p.K c with hlt | hge
            · have hb := hnb c hc hlt hok
              have : c = p.K + 1 := by omega
              subst this
              simp only [upd_same]
              rcases hag' _ (I.ents j q hj hq hwj (by rw [h1]; intro h; cases h)) with h6 | h6
              · simp only at h6; rw [hb] at h6; cases h6
              · rcases again_spec h6 with ⟨_, h7⟩ | ⟨h7, _⟩
                · exact h7
                · simp only at h7; rw [h1] at h7; cases h7
            · simp only [hH c hge]; exact h3 c hge (hok' c hge hok)
          · refine .inr (.inl ⟨h1, fun c hc => hEj c hc h2, ob', h3, fun c hc hok => ?_⟩)
            simp only at hc
            rcases Nat.lt_or_ge p.K c with hlt | hge
            · have hb := hnb c hc hlt hok
              have : c = p.K + 1 := by omega
              subst this
              simp only [upd_same]
              rcases hag' _ (I.ents j q hj hq hwj (by rw [h1]; intro h; cases h)) with h6 | h6
              · simp only at h6; rw [hb] at h6; cases h6
              · rcases again_spec h6 with ⟨h7, _⟩ | ⟨_, v2, ob2, h7, h8⟩
                · simp only at h7; rw [h1] at h7; cases h7
                · simp only at h7 h8
                  rw [h3] at h7
                  cases h7
                  exact h8
            · simp only [hH c hge]; exact h4 c hge (hok' c hge hok)
          · refine .inr (.inr ⟨h1, c, by simp only; omega, by simp only [hE' c h2]; exact h3, g, by simp only [hH c (by omega)]; exact h4, by simp only [hH (c + 1) (by omega)]; exact h5⟩)
        · simp only [hH p.K (Nat.le_refl _), I.hK]; exact hv
        · simp only [upd_same]
          exact ⟨rfl, fun φ w _ hR => hR⟩
        · simp only [hH 0 (Nat.zero_le _)]; exact I.start
end
end Go.Eva
