/-
  A run of a closed call: what the kernel reckons, the machine does. No program in sight.
-/
import Derived.Test.YtenigphjddnknaaGreatDoorEvaL
namespace Go.Eva
open Go Go.RowKit Go.Mix Go.Viv

section
variable {P : Program} {G : Nat} {W0 : Begin} {ν : Toks} {sy : Sy}

/-! ### What reads finds the same where there is more -/
theorem load_more {t t' : Tr AObj} (hm : More t t') {ty : TypeId} {u v : Value} (h : loadB P t ty u = some v) : loadB P t' ty u = some v := by
  unfold loadB at h ⊢
  split at h <;> try (cases h; done)
  rename_i B o
  cases ht : t.at_ B with
  | none => rw [ht] at h; cases h
  | some ob => rw [ht] at h; rw [hm B ob ht]; exact h
theorem same_more {t t' : Tr AObj} (hm : More t t') {B o B' o' : Nat} {b : Bool} (h : samePtr t B o B' o' = some b) : samePtr t' B o B' o' = some b := by
  unfold samePtr at h ⊢
  split at h
  · exact h
  · split at h <;> try (cases h; done)
    rename_i h1 h2
    rw [hm _ _ h1, hm _ _ h2]
    exact h
theorem eq_more {t t' : Tr AObj} (hm : More t t') {xt : TypeId} {x y : Value} {b : Bool} (h : eqB P t xt x y = some b) : eqB P t' xt x y = some b := by
  unfold eqB at h ⊢
  split at h <;> try exact h
  split at h <;> try (cases h; done)
  split at h <;> try (cases h; done)
  exact same_more hm h
theorem bin_more {t t' : Tr AObj} (hm : More t t') {op : BinOp} {xt : TypeId} {ox oy : Operand} {x y v : Value} (h : binB P t op xt ox oy x y = some v) : binB P t' op xt ox oy x y = some v := by
  unfold binB at h ⊢
  split at h
  · exact h
  · exact h
  · split at h
    · exact h
    · split at h <;> try (cases h; done)
      simp only [Option.map_eq_some_iff] at h ⊢
      obtain ⟨b, hb, e⟩ := h
      exact ⟨b, eq_more hm hb, e⟩
theorem slice_more {t t' : Tr AObj} (hm : More t t') {ty : TypeId} {x v : Value} {lo hi mx : Option Value} (h : sliceB P t ty x lo hi mx = some v) : sliceB P t' ty x lo hi mx = some v := by
  unfold sliceB at h ⊢
  split at h <;> try exact h
  rename_i B o len hu
  split at h
  · split at h <;> try (cases h; done)
    rename_i h1 h2
    rw [h1, hm _ _ h2]
    exact h
  · exact h
  · exact h
theorem lookup_more {t t' : Tr AObj} (hm : More t t') {ty : TypeId} {m k v : Value} {ok : Bool} (h : lookupB P t ty m k ok = some v) : lookupB P t' ty m k ok = some v := by
  unfold lookupB at h ⊢
  split at h <;> try (cases h; done)
  split at h <;> try (cases h; done)
  rename_i h1 h2 h3
  simp only [h1, hm _ _ h2, h3]
  exact h
theorem evQ_more {ρ : Operand → Value} {t t' : Tr AObj} {o : Op} {v : Value} (hm : More t t') (h : evQ P sy ρ t o = some v) : evQ P sy ρ t' o = some v := by
  unfold evQ at h ⊢
  split at h
  · exact h
  · cases o <;> simp only [evQ0] at h ⊢ <;> try exact h
    · exact load_more hm h
    · exact bin_more hm h
    · exact slice_more hm h
    · exact lookup_more hm h
theorem zero_bit (j : Nat) : bit 0 j = false := by simp [bit]
/-- A region that draws its order: what it comes to in one order. -/
theorem draw_run (hf : P.follows .mixedOrders = true) (hsy : SyOK P W0 ν sy) {n : Nat} {call : CallB} (hc : CallOK P G W0 ν call) {ops : Array Oper} {T : Tr Value} {h : Hp} {ord : List Nat} {T' : Tr Value} {h' : Hp} {done : Nat} (hst : statB ops = true)
    (hrun : dRun P sy G n call ops.toList (Region.before ops) h.next ord T ⟨h.t, h.next + ops.size⟩ 0 0 [] = some (T', h', done)) (hdone : Nat.beq done (2 ^ ops.size - 1) = true) (id : Nat) : CodeOK P G W0 ν n (.region id ops true) T h (.normal, T', h') := by
  intro D φ a w hA hR hG
  have hS := stat_spec hst
  have hdn := beq_iff hdone
  let p0 : Plan := { val := fun _ => undef, T := fun _ => .nil, wa := fun _ => false, H := fun _ => ⟨h.t, h.next + ops.size⟩, K := 0, E := fun _ => 0 }
  have I0 : Inv P G W0 ν sy call ops (Region.before ops) n h.next T ⟨h.t, h.next + ops.size⟩ p0 0 T ⟨h.t, h.next + ops.size⟩ 0 [] := by
    refine ⟨rfl, fun j t _ => ⟨fun hb => ?_, fun _ => rfl⟩, fun _ _ => rfl, fun j hb => ?_, fun j hb => ?_, fun c hc => ?_, fun j hb => ?_, fun c c' h1 h2 => ?_, fun i o hb => ?_, fun i o hb => ?_, ⟨rfl, fun φ w _ hR => hR⟩⟩
    · rw [zero_bit] at hb; cases hb
    · rw [zero_bit] at hb; cases hb
    · rw [zero_bit] at hb; cases hb
    · exact absurd hc (Nat.not_lt_zero _)
    · rw [zero_bit] at hb; cases hb
    · exact absurd h2 (Nat.not_lt_zero _)
    · rw [zero_bit] at hb; cases hb
    · rw [zero_bit] at hb; cases hb
  obtain ⟨p, effs, ents, I⟩ := run_inv hS (fun ρ t t' o v hm hq => evQ_more hm hq) ord hrun I0
  have hall : ∀ i, i < ops.size → bit done i = true := fun i hi => by
    rw [hdn]
    simp [bit, Nat.testBit_two_pow_sub_one, hi]
  have hrep : ∀ j d, (Array.replicate ops.size false).getD j d = (if j < ops.size then false else d) := fun j d => by
    simp only [Array.getD_eq_getD_getElem?, Array.getElem?_replicate]
    split <;> simp
  have hrepF : ∀ j, (Array.replicate ops.size false).getD j false = false := fun j => by rw [hrep]; split <;> rfl
  refine wp_region_any hf ?_
  refine any_order (hL := ⟨fun hR hρ h => quiet_sound hsy hR hρ h, fun hR hG hρ h K Q hK => eff_sound hc hR hG hρ h K Q hK⟩) (hS := hS) (hG := hG) I hall (φ0 := φ) (fun φ' a w q1 q2 q3 q4 => ⟨rfl, φ', q1, q2, q3, q4⟩) ops.size (List.range ops.size) _ a _ φ 0 ?_ (fun i hi _ => by simpa using hi) (by simp)
  have hids : ∀ j, φ (h.next + j) = none := fun j => hR.fresh _ (by omega)
  refine ⟨by simp, fun j hj => ?_, Nat.zero_le _, fun c hc => absurd hc (Nat.not_lt_zero _), fun c _ _ => hrepF _, hA.size, hA.defers, fun j t _ hl => ?_, fun t _ => hA.tmps t, ?_, fun i _ _ => hids i, Ext.refl _ _, ?_⟩
  · rw [hrepF] at hj; cases hj
  · rw [hrepF] at hl; cases hl
  · exact I.start.2 φ _ (fun j _ _ => hids j) ((hR.more (n := h.next + ops.size) (by omega)).drew)
  · rw [I.start.1]; exact Nat.le_refl _
theorem draw_ok (hf : P.follows .mixedOrders = true) (hsy : SyOK P W0 ν sy) {n : Nat} {call : CallB} (hc : CallOK P G W0 ν call) : DrawOK P G W0 ν n (evD P sy G n call) := by
  intro ops T h r e id
  unfold evD at e
  split at e <;> try (cases e; done)
  rename_i hst
  split at e <;> try (cases e; done)
  rename_i T' h' done hrun
  split at e <;> try (cases e; done)
  rename_i hdone
  simp only [Option.some.injEq] at e
  subst e
  exact draw_run hf hsy hc hst hrun hdone id
/-- THE RUN. -/
theorem ev_sound (hf : P.follows .mixedOrders = true) (hsy : SyOK P W0 ν sy) {tb : Tb} (htb : TbOK P G W0 ν tb) (k f : Nat) : CallOK P G W0 ν (ev P sy tb G k f) :=
  evF_sound hsy htb (fun _ _ hc => draw_ok hf hsy hc) f
theorem nil_at {α : Type} (n : Nat) : (Tr.nil : Tr α).at_ n = none := by
  have : ∀ p : Pz, (Tr.nil : Tr α).get p = none := by
    intro p
    induction p with
    | h => rfl
    | o p ih => exact ih
    | i p ih => exact ih
  exact this _
theorem TbOK.none : TbOK P G W0 ν .nil := fun f c h => by rw [nil_at] at h; cases h
theorem TbOK.more {tb : Tb} (h : TbOK P G W0 ν tb) {g : FuncId} {c : List Value → Hp → Option (Value × Hp)}
    (hc : ∀ args s v h', c args s = some (v, h') → ∀ φ w args', VRs ν φ args args' → Rw P G W0 ν φ s w → G ≤ s.next → Calls P g ⟨args'⟩ w (CallPost P G W0 ν φ s v h')) : TbOK P G W0 ν (tb.set g (some c)) := by
  intro f d hd
  by_cases e : g = f
  · subst e
    rw [Tr.at_set_same] at hd
    cases hd
    exact hc
  · rw [Tr.at_set_ne _ _ e] at hd
    exact h f d hd
/-- A run that may write nothing old. -/
def Begin.still (w : World) : Begin := ⟨w, fun _ => False, fun _ _ _ _ _ => False, fun h _ _ => h, fun _ h => h, fun h => h.elim⟩

/-- How the program's own variables stand for themselves. -/
def phi0 (G : Nat) (sz : Nat → Nat) : Phi := fun g => if g < G then some ⟨g, sz g, 0⟩ else none
theorem Rw.start (hG : G ≤ W0.w.heap.size) (t : Tr AObj) (sz : Nat → Nat) (h : ∀ g o, t.at_ g = some o → g < G → isRes (some o) = false ∧ ObjR P W0.own ν (phi0 G sz) W0.w ⟨g, sz g, 0⟩ o) : Rw P G W0 ν (phi0 G sz) ⟨t, G⟩ W0.w := by
  have inv : ∀ B r, phi0 G sz B = some r → B < G ∧ r = ⟨B, sz B, 0⟩ := fun B r hB => by
    unfold phi0 at hB
    split at hB
    · rename_i hlt; simp at hB; exact ⟨hlt, hB.symm⟩
    · cases hB
  have hno : ∀ B r, phi0 G sz B = some r → isRes (t.at_ B) = true → False := fun B r hB h' => by
    obtain ⟨x, hx⟩ := res_at h'
    have := (h B _ hx (inv B r hB).1).1
    cases this
  refine ⟨Fr.refl _ _, fun g hg => ⟨⟨g, sz g, 0⟩, by simp [phi0, hg], rfl⟩, fun B hB => ?_, fun B r hB => ?_, fun B r o hB ho => ?_, fun B B' r r' _ _ _ _ hB hB' e => ?_, fun _ _ => False, fun B r x hB h' => (hno B r hB (by rw [h']; rfl)).elim, fun B r k hB h' _ => (hno B r hB h').elim, fun B B' r r' k hB _ h' _ _ _ => (hno B r hB h').elim, fun B B' r r' hB _ h' _ _ => (hno B r hB h').elim⟩
  · have : ¬ B < G := by simp only at hB; omega
    simp [phi0, this]
  · obtain ⟨h1, rfl⟩ := inv B r hB
    simp only; omega
  · obtain ⟨h1, rfl⟩ := inv B r hB
    exact (h B o ho h1).2
  · obtain ⟨_, rfl⟩ := inv B r hB
    obtain ⟨_, rfl⟩ := inv B' r' hB'
    exact e
/-- No token. -/
def noToks : Toks := ⟨fun _ => .bool false, fun _ => rfl⟩
end
end Go.Eva
