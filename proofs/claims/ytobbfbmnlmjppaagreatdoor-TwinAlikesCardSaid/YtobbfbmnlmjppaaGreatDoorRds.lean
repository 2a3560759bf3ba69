/-
  A region that draws its order and only reads, however long: walked once, in the order of its text. No program in sight.
-/
import Derived.Test.YtobbfbmnlmjppaaGreatDoorEvaL
namespace Go.Eva
open Go Go.RowKit Go.Mix

section
variable {P : Program} {ops : Array Oper} {Q : Exit → Act → World → Prop} {w : World} {m : Array Nat}

/-- What an operation yields there. -/
def Fact (P : Program) (ops : Array Oper) (w : World) (a : Act) (o : Oper) (v : Value) : Prop :=
  (Region.wanted o (yielded ops a.tmps) = true ∧ (execOp a.eval o).run P w = .ok (.value v) w) ∨ (Region.wanted o (yielded ops a.tmps) = false ∧ v = undef)
theorem seq_facts : ∀ (r k : Nat) (a : Act), k + r = ops.size → wpSeq P ops Q ((List.range' k r).map fun i => (i, true)) a w →
    ∃ (val : Nat → Value) (F : Nat → Act), F k = a ∧ (∀ i o, k ≤ i → i < ops.size → ops[i]? = some o → Fact P ops w (F i) o (val i) ∧ F (i + 1) = (F i).put o.dst (val i)) ∧ Q .normal (F ops.size) w
  | 0, k, a, hk, h => ⟨fun _ => undef, fun _ => a, rfl, fun i o h1 h2 => by omega, h⟩
  | r + 1, k, a, hk, h => by
    have hlt : k < ops.size := by omega
    obtain ⟨o, ho⟩ : ∃ o, ops[k]? = some o := ⟨_, Array.getElem?_eq_getElem hlt⟩
    rw [List.range'_succ, List.map_cons] at h
    simp only [wpSeq, ho] at h
    obtain ⟨hv, h⟩ := h
    simp only [wpList] at h
    have : ∃ v, Fact P ops w a o v ∧ wpSeq P ops Q ((List.range' (k + 1) r).map fun i => (i, true)) (a.put o.dst v) w := by
      by_cases hw : Region.wanted o (yielded ops a.tmps) = true
      · rw [if_pos hw] at h
        obtain ⟨v, h1, h2⟩ := reads_spec hv h
        exact ⟨v, .inl ⟨hw, h1⟩, h2⟩
      · rw [if_neg hw] at h
        exact ⟨undef, .inr ⟨by simpa using hw, rfl⟩, h.next⟩
    obtain ⟨v, hf, hr⟩ := this
    obtain ⟨val, F, h1, h2, h3⟩ := seq_facts r (k + 1) _ (by omega) hr
    refine ⟨upd val k v, upd F k a, upd_same _ _ _, fun i q hi1 hi2 hq => ?_, by rw [upd_ne _ _ (by omega)]; exact h3⟩
    by_cases e : i = k
    · subst e
      rw [ho] at hq; cases hq
      rw [upd_same, upd_same, upd_ne _ _ (by omega), h1]
      exact ⟨hf, rfl⟩
    · rw [upd_ne _ _ e, upd_ne _ _ e, upd_ne _ _ (by omega)]
      exact h2 i q (by omega) hi2 hq

/-- The frame when just the listed have come up. -/
structure Over (ops : Array Oper) (val : Nat → Value) (a0 : Act) (listed : Nat → Bool) (a : Act) : Prop where
  size : a.tmps.size = a0.tmps.size
  defers : a.defers = a0.defers
  one : ∀ j t, Writes ops j t → listed j = true → a.tmps[t]? = (a0.tmps[t]?).map fun _ => val j
  none : ∀ t, (∀ j, Writes ops j t → listed j = false) → a.tmps[t]? = a0.tmps[t]?
theorem Over.put {val : Nat → Value} {a0 a : Act} {L L' : Nat → Bool} (hS : Stat ops m) (h : Over ops val a0 L a) {i : Nat} {o : Oper} (ho : ops[i]? = some o) (hL : ∀ j, L' j = (L j || decide (j = i))) : Over ops val a0 L' (a.put o.dst (val i)) := by
  have hget : ∀ t, (a.put o.dst (val i)).tmps[t]? = if o.dst = some t then (a0.tmps[t]?).map (fun _ => val i) else a.tmps[t]? := fun t => by
    cases hd : o.dst with
    | none => simp [Act.put]
    | some d =>
      simp only [Act.put]
      by_cases e : d = t
      · subst e
        rw [if_pos rfl, Array.getElem?_setIfInBounds]
        simp only [if_true]
        by_cases hlt : d < a.tmps.size
        · have : d < a0.tmps.size := by rw [← h.size]; exact hlt
          simp [hlt, this]
        · have : ¬ d < a0.tmps.size := by rw [← h.size]; exact hlt
          simp [hlt, this]
      · rw [Array.getElem?_setIfInBounds_ne e, if_neg (fun h => e (by injection h))]
  refine ⟨by cases o.dst <;> simp [Act.put, h.size], by cases o.dst <;> exact h.defers, fun j t hw hl => ?_, fun t hno => ?_⟩
  · rw [hget]
    rw [hL] at hl
    by_cases hj : j = i
    · subst hj
      obtain ⟨q, hq, hd⟩ := hw
      rw [ho] at hq; cases hq
      rw [if_pos hd]
    · rw [if_neg (fun hd => hj (hS.uniq j i t hw ⟨o, ho, hd⟩))]
      simp [hj] at hl
      exact h.one j t hw hl
  · rw [hget]
    have hne : o.dst ≠ some t := fun hd => by
      have := hno i ⟨o, ho, hd⟩
      rw [hL] at this
      simp at this
    rw [if_neg hne]
    refine h.none t fun j hw => ?_
    have := hno j hw
    rw [hL] at this
    simp at this
    exact this.1

/-- THE REGION. -/
theorem wp_region_reads {id : Nat} {a : Act} {w0 : World} (hf : P.follows .mixedOrders = true) (hst : statB ops = true) (hsel : Region.noSelect ops = true) {order : List (Nat × Bool)} (hord : order = (List.range' 0 ops.size).map fun i => (i, true))
    (h : wpSeq P ops Q order a w0.drew) : (Code.region id ops true).wp P Q a w0 := by
  subst hord
  have hS := stat_spec hst
  generalize Region.before ops = m at hS
  obtain ⟨val, F, hF0, hF, hQ⟩ := seq_facts ops.size 0 a (by simp) h
  -- in the order of the text
  have hcan : ∀ i, i ≤ ops.size → Over ops val a (fun j => decide (j < i)) (F i) := by
    intro i
    induction i with
    | zero => intro _; rw [hF0]; exact ⟨rfl, rfl, fun j t _ hl => by simp at hl, fun t _ => rfl⟩
    | succ i ih =>
      intro hi
      obtain ⟨o, ho⟩ : ∃ o, ops[i]? = some o := ⟨_, Array.getElem?_eq_getElem hi⟩
      rw [(hF i o (Nat.zero_le _) hi ho).2]
      exact (ih (by omega)).put hS ho (fun j => by
        by_cases e : j = i
        · subst e; simp
        · by_cases h2 : j < i
          · simp [h2, show j < i + 1 by omega]
          · simp [h2, e, show ¬ j < i + 1 by omega])
  -- whom it waits for stands ahead of it
  have hlt : ∀ i j, i < ops.size → j < ops.size → bef m i j = true → j < i := fun i j hi hj hb => by
    let L : Array Bool := (Array.range ops.size).map fun k => decide (k < i)
    have hL : ∀ k, k < ops.size → L.getD k false = decide (k < i) := fun k hk => by simp [L, hk]
    have hd : Down .any ops L := fun k hk o ho e he hbb => by
      have hks := lt_of_some ho
      rw [hL k hks] at hk
      have := hS.topo k o ho e he hbb
      rw [hL _ (by omega)]
      simp at hk ⊢; omega
    have := mask_spec hS.mask hd hj i hi (fun o ho e he hbb => by
      have := hS.topo i o ho e he hbb
      rw [hL _ (by omega)]
      simp; omega) hb
    rw [hL j hj] at this
    simpa using this
  have key : ∀ (fuel : Nat) (U : List Nat) (listed : Array Bool) (a1 : Act), listed.size = ops.size → Down .any ops listed → Over ops val a (fun j => listed.getD j false) a1 → (∀ i, i < ops.size → listed.getD i false = false → i ∈ U) → U.length ≤ fuel → wpAny P .any ops Q fuel listed a1 w0.drew := by
    have ended : ∀ (listed : Array Bool) (a1 : Act), listed.size = ops.size → Over ops val a (fun j => listed.getD j false) a1 → Region.ready .any ops listed = [] → Q .normal a1 w0.drew := by
      intro listed a1 hsz J hr
      have all : ∀ i, i < ops.size → listed.getD i false = true := by
        intro i
        induction i using Nat.strongRecOn with
        | _ i ih =>
          intro hi
          cases hl : listed.getD i false with
          | true => rfl
          | false =>
            exfalso
            obtain ⟨o, ho⟩ : ∃ o, ops[i]? = some o := ⟨_, Array.getElem?_eq_getElem hi⟩
            have : i ∈ Region.ready .any ops listed := mem_ready.2 ⟨by rw [getD_conv hsz hi true false]; exact hl, o, ho, fun e he hb => by
              have hlt := hS.topo i o ho e he hb
              exact ih e.on hlt (by omega)⟩
            rw [hr] at this
            cases this
      have C := hcan ops.size (Nat.le_refl _)
      have e : a1 = F ops.size := by
        have ht : a1.tmps = (F ops.size).tmps := by
          apply Array.ext_getElem?
          intro t
          by_cases hw : ∃ j, Writes ops j t
          · obtain ⟨j, hw⟩ := hw
            have hj : j < ops.size := by obtain ⟨q, hq, _⟩ := hw; exact lt_of_some hq
            rw [J.one j t hw (all j hj), C.one j t hw (by simp [hj])]
          · have hno : ∀ j, ¬ Writes ops j t := fun j h => hw ⟨j, h⟩
            rw [J.none t (fun j h => absurd h (hno j)), C.none t (fun j h => absurd h (hno j))]
        have hd : a1.defers = (F ops.size).defers := by rw [J.defers, C.defers]
        cases a1
        cases hFn : F ops.size
        rw [hFn] at ht hd
        simp only at ht hd
        rw [ht, hd]
      rw [e]; exact hQ
    intro fuel
    induction fuel with
    | zero =>
      intro U listed a1 hsz hd J hU hlen
      have hr : Region.ready .any ops listed = [] := by
        rcases List.eq_nil_or_concat (Region.ready .any ops listed) with h | ⟨l, i, h⟩
        · exact h
        · exfalso
          have hi : i ∈ Region.ready .any ops listed := by rw [h]; simp
          obtain ⟨h1, o, ho, _⟩ := mem_ready.1 hi
          have := hU i (lt_of_some ho) (by rw [getD_conv hsz (lt_of_some ho) false true]; exact h1)
          have : 0 < U.length := List.length_pos_of_mem this
          omega
      exact ⟨hr, ended listed a1 hsz J hr⟩
    | succ fuel ih =>
      intro U listed a1 hsz hd J hU hlen
      refine ⟨ended listed a1 hsz J, fun i hi => ?_⟩
      obtain ⟨h1, o, ho, hwt0⟩ := mem_ready.1 hi
      have hilt := lt_of_some ho
      have hun : listed.getD i false = false := by rw [getD_conv hsz hilt false true]; exact h1
      have hwt : Waited .any ops listed i := fun q hq e he hb => by rw [ho] at hq; cases hq; exact hwt0 e he hb
      have hiU := hU i hilt hun
      have C := hcan i (Nat.le_of_lt hilt)
      have hsame : ∀ t, t ∈ o.looksAt ops → a1.tmps[t]? = (F i).tmps[t]? := fun t ht => by
        by_cases hw : ∃ j, Writes ops j t
        · obtain ⟨j, hw⟩ := hw
          have hj : j < ops.size := by obtain ⟨q, hq, _⟩ := hw; exact lt_of_some hq
          cases hb : bef m i j with
          | true =>
            rw [J.one j t hw (mask_spec hS.mask hd hj i hilt hwt hb), C.one j t hw (by simp; exact hlt i j hilt hj hb)]
          | false =>
            have hnl : listed.getD j false = false ∧ ¬ j < i := by
              by_cases e : j = i
              · subst e; exact ⟨hun, by omega⟩
              · rcases hS.look i o t j ho ht hw e with h2 | h2
                · rw [hb] at h2; cases h2
                · refine ⟨?_, by have := hlt j i hj hilt h2; omega⟩
                  cases hl : listed.getD j false with
                  | false => rfl
                  | true =>
                    have := mask_spec hS.mask hd hilt j hj (hd j hl) h2
                    rw [hun] at this; cases this
            rw [J.none t fun k hk => by
              have : k = j := hS.uniq k j t hk hw
              subst this; exact hnl.1, C.none t fun k hk => by
              have : k = j := hS.uniq k j t hk hw
              subst this; simp; omega]
        · have hno : ∀ j, ¬ Writes ops j t := fun j h => hw ⟨j, h⟩
          rw [J.none t (fun j h => absurd h (hno j)), C.none t (fun j h => absurd h (hno j))]
      have hex : execOp a1.eval o = execOp (F i).eval o := execOp_congr o (Region.noSelect_spec hsel i o · · ho) (fun x hx => by
        cases x with
        | tmp t =>
          have := hsame t (by
            unfold Oper.looksAt
            exact List.mem_append_left _ (List.mem_filterMap.2 ⟨.tmp t, Array.mem_toList_iff.2 hx, rfl⟩))
          simp only [Act.eval, Array.getD_eq_getD_getElem?, this]
        | const v => rfl
        | global g => rfl
        | func f => rfl)
      have hwa : Region.wanted o (yielded ops a1.tmps) = Region.wanted o (yielded ops (F i).tmps) := by
        unfold Region.wanted
        cases hg : o.guard with
        | none => rfl
        | some jw =>
          obtain ⟨j, want⟩ := jw
          simp only
          congr 1
          unfold yielded
          cases hdd : (ops[j]?).bind (·.dst) with
          | none => rfl
          | some t =>
            simp only [Option.bind_some]
            rw [hsame t (by
              unfold Oper.looksAt
              refine List.mem_append_right _ ?_
              rw [hg]
              simp [hdd])]
      have hrest : wpAny P .any ops Q fuel (listed.setIfInBounds i true) (a1.put o.dst (val i)) w0.drew :=
        ih (U.erase i) _ _ (by simp [hsz]) (down_set hd hwt) (J.put hS ho fun j => by
          rw [getD_put _ _ _ (by rw [hsz]; exact hilt)]
          by_cases e : j = i <;> simp [e]) (fun j hj hl => by
          rw [getD_put _ _ _ (by rw [hsz]; exact hilt)] at hl
          split at hl
          · cases hl
          · rename_i hne
            exact (List.mem_erase_of_ne hne).2 (hU j hj hl)) (by rw [List.length_erase_of_mem hiU]; omega)
      unfold wpOp
      simp only [ho]
      rw [hwa]
      rcases (hF i o (Nat.zero_le _) hilt ho).1 with ⟨h2, h3⟩ | ⟨h2, h3⟩
      · rw [h2]
        simp only [if_true]
        refine .inl ?_
        unfold Oper.wp
        rw [hex, h3]
        exact hrest
      · rw [h2]
        simp only [Bool.false_eq_true, if_false]
        rw [h3] at hrest
        exact hrest
  refine wp_region_any hf (key ops.size (List.range ops.size) _ a (by simp) (fun j hj => ?_) ⟨rfl, rfl, fun j t _ hl => ?_, fun t _ => rfl⟩ (fun i hi _ => by simpa using hi) (by simp))
  · simp only [Array.getD_eq_getD_getElem?, Array.getElem?_replicate] at hj
    split at hj <;> simp at hj
  · simp only [Array.getD_eq_getD_getElem?, Array.getElem?_replicate] at hl
    split at hl <;> simp at hl
end
end Go.Eva
