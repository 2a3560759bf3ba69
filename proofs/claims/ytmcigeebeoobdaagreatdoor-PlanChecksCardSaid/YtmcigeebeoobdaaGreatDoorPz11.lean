/-
  Several texts in one. Methods of whole structures, and what makes such: from a body's run to what is told of a call. No program in sight.
-/
import Derived.Test.YtmcigeebeoobdaaGreatDoorPz10
section
set_option linter.unusedSimpArgs false
set_option linter.unusedVariables false
namespace Go.Sym
open Go Go.RowKit Go.Viv Go.Eva
abbrev CallS := List Value → Hp → Option (Value × Hp)
/-- Numbers below n stay; from n on they are told by a list. -/
def inv_ (n : Nat) (ex : List Nat) (m X : Nat) : Nat := if X < n then X else kap ex m (X - n)
/-- New blocks one behind the other. -/
def news : Tr AObj → Nat → List AObj → Tr AObj
  | t, _, [] => t
  | t, n, o :: l => news (t.set n (some o)) (n + 1) l
theorem news_out : ∀ (l : List AObj) (t : Tr AObj) (n X : Nat), (X < n ∨ n + l.length ≤ X) → (news t n l).at_ X = t.at_ X
  | [], t, n, X, _ => rfl
  | p :: l, t, n, X, h => by
    simp only [List.length_cons] at h
    unfold news
    rw [news_out l _ (n + 1) X (by omega), Tr.at_set_ne _ _ (by omega)]
theorem news_in : ∀ (l : List AObj) (t : Tr AObj) (n i : Nat) (p : AObj), l[i]? = some p → (news t n l).at_ (n + i) = some p
  | [], t, n, i, p, h => by simp at h
  | q :: l, t, n, 0, p, h => by
    simp at h
    subst h
    unfold news
    rw [news_out l _ (n + 1) (n + 0) (by omega), Nat.add_zero, Tr.at_set_same]
  | q :: l, t, n, i + 1, p, h => by
    simp at h
    unfold news
    rw [show n + (i + 1) = n + 1 + i by omega]
    exact news_in l _ (n + 1) i p h
/-- What is told of one call. -/
def SpecOK (P : Program) (G : Nat) (W0 : Begin) (ν : Toks) (g : FuncId) (c : CallS) : Prop :=
  ∀ args s v h', c args s = some (v, h') → ∀ φ w args', VRs ν φ args args' → Rw P G W0 ν φ s w → G ≤ s.next → Calls P g ⟨args'⟩ w (CallPost P G W0 ν φ s v h')
/-- The form that stands among the blocks of h, by the numbers l. -/
structure FormAt (L : Frm) (x : Rs) (h : Hp) (l : List Nat) : Prop where
  fm : ∃ oc e ps, L.fm x oc e ps ∧ l.length = ps.length + 1 ∧ h.t.at_ (kap l h.next 0) = some (.cells (renL (kap l h.next) oc) e true) ∧ ∀ i ob, ps[i]? = some (some ob) → h.t.at_ (kap l h.next (i + 1)) = some (renO (kap l h.next) ob)
/-- What stands for u stands for u' as well. -/
def Wk (u u' : Value) : Prop := ∀ (ν : Toks) (φ : Phi) (z : Value), VR ν φ u z → VR ν φ u' z
theorem Wk.of {u u' : Value} (h : u = u') : Wk u u' := fun _ _ _ hz => h ▸ hz
/-- Behind a body: the structure at B is x', new blocks are obs. -/
def Closes (L : Frm) (s : Hp) (B : Nat) (x' : Rs) (obs : List AObj) (h : Hp) (v u : Value) : Prop :=
  ∃ l ex : List Nat, FormAt L x' h (s.next :: l) ∧ (s.next :: l ++ ex).Nodup ∧ (∀ k ∈ l ++ ex, s.next < k) ∧ (∀ X, X < s.next → X ≠ B → h.t.at_ X = s.t.at_ X) ∧ ex.length = obs.length ∧
    (∀ j ob, obs[j]? = some ob → h.t.at_ (kap ex h.next j) = some (renO (inv_ s.next ex h.next) ob)) ∧ Wk u (ren (inv_ s.next ex h.next) v)
section
variable {P : Program} {G : Nat} {W0 : Begin} {ν : Toks} {L : Frm} {φ φ' : Phi} {s h : Hp} {w w' : World}
theorem kap_mem {l : List Nat} {n j : Nat} (h : j < l.length) : kap l n j ∈ l := by rw [kap_lt h]; exact List.getElem_mem h
theorem phi_add (φ' : Phi) {n n' : Nat} {l : List Nat} (hn : ∀ B, n ≤ B → φ' B = none) (h : l.length ≤ n') : φ' (kap l n n') = none := by
  rw [kap_ge h]
  exact hn _ (by omega)
theorem Rw.close (hri : W0.ri = fun x _ w b F => RI P ν L x w b F) (hG : G ≤ s.next) (hR0 : Rw P G W0 ν φ s w) {B : Nat} {r : Ref} (hB : φ B = some r) (hR : Rw P G W0 ν φ' h w') (hx : Eva.Ext s.next φ φ') (hnx : s.next ≤ h.next) (h0 : φ' s.next = some r)
    {x' : Rs} {obs : List AObj} {v u : Value} (hc : Closes L s B x' obs h v u) :
    ∃ φ'', Rw P G W0 ν φ'' ⟨news (s.t.set B (some (.res x'))) s.next obs, s.next + obs.length⟩ w' ∧ Eva.Ext s.next φ φ'' ∧ ∀ z, VR ν φ' u z → VR ν φ'' v z := by
  obtain ⟨l, ex, ⟨oc, e, ps, hfm, hl, g0, gp⟩, hnd, hgt, hfr, hex, hobs, hwk⟩ := hc
  have hBn : B < s.next := by
    rcases Nat.lt_or_ge B s.next with h | h
    · exact h
    · rw [hR0.fresh B h] at hB; cases hB
  have hk0 : kap (s.next :: l) h.next 0 = s.next := rfl
  have hnd1 : (s.next :: l).Nodup := by
    have : (s.next :: l ++ ex).Nodup := hnd
    exact (List.nodup_append.1 this).1
  have hnd2 : ex.Nodup := (List.nodup_append.1 hnd).2.1
  have hdis : ∀ a, a ∈ s.next :: l → ∀ b, b ∈ ex → a ≠ b := (List.nodup_append.1 hnd).2.2
  /- the tree with the structure put together at s.next -/
  let t1 : Tr AObj := (ps.zipIdx.foldl (fun t (p : Option AObj × Nat) => match p.1 with | some _ => t.set (kap (s.next :: l) h.next (p.2 + 1)) none | none => t) h.t).set s.next (some (.res x'))
  have hfold : ∀ (q : List (Option AObj × Nat)) (t : Tr AObj) X, (q.foldl (fun t (p : Option AObj × Nat) => match p.1 with | some _ => t.set (kap (s.next :: l) h.next (p.2 + 1)) none | none => t) t).at_ X =
      (if ∃ p ∈ q, p.1.isSome ∧ kap (s.next :: l) h.next (p.2 + 1) = X then none else t.at_ X) := by
    intro q
    induction q with
    | nil => intro t X; simp
    | cons p q ih =>
      intro t X
      obtain ⟨p1, p2⟩ := p
      simp only [List.foldl_cons]
      rw [ih]
      by_cases h1 : ∃ p ∈ q, p.1.isSome ∧ kap (s.next :: l) h.next (p.2 + 1) = X
      · rw [if_pos h1, if_pos]
        obtain ⟨p', hp1, hp2⟩ := h1
        exact ⟨p', List.mem_cons_of_mem _ hp1, hp2⟩
      · rw [if_neg h1]
        cases p1 with
        | none =>
          simp only
          rw [if_neg]
          rintro ⟨p', hp1, hp2⟩
          rcases List.mem_cons.1 hp1 with rfl | hp1
          · simp at hp2
          · exact h1 ⟨p', hp1, hp2⟩
        | some ob =>
          simp only
          by_cases h2 : kap (s.next :: l) h.next (p2 + 1) = X
          · rw [h2, Tr.at_set_same, if_pos]
            exact ⟨(some ob, p2), by simp, rfl, h2⟩
          · rw [Tr.at_set_ne _ _ h2, if_neg]
            rintro ⟨p', hp1, hp2⟩
            rcases List.mem_cons.1 hp1 with rfl | hp1
            · exact h2 hp2.2
            · exact h1 ⟨p', hp1, hp2⟩
  have hzip : ∀ X, (∃ p ∈ ps.zipIdx, p.1.isSome ∧ kap (s.next :: l) h.next (p.2 + 1) = X) ↔ ∃ i ob, ps[i]? = some (some ob) ∧ kap (s.next :: l) h.next (i + 1) = X := fun X => by
    constructor
    · rintro ⟨⟨p1, p2⟩, h1, h2, h3⟩
      obtain ⟨ob, hob⟩ := Option.isSome_iff_exists.1 h2
      simp only at hob
      subst hob
      have := List.mem_zipIdx_iff_getElem?.1 h1
      exact ⟨p2, ob, this, h3⟩
    · rintro ⟨i, ob, h1, h2⟩
      exact ⟨(some ob, i), List.mem_zipIdx_iff_getElem?.2 h1, rfl, h2⟩
  have ht1 : ∀ X o, t1.at_ X = some o → (X = kap (s.next :: l) h.next 0 ∧ o = .res x') ∨ (X ≠ kap (s.next :: l) h.next 0 ∧ (∀ i ob, ps[i]? = some (some ob) → X ≠ kap (s.next :: l) h.next (i + 1)) ∧ h.t.at_ X = some o) := fun X o ho => by
    by_cases hX : X = s.next
    · subst hX
      simp only [t1, Tr.at_set_same, Option.some.injEq] at ho
      exact .inl ⟨hk0.symm, ho.symm⟩
    · simp only [t1] at ho
      rw [Tr.at_set_ne _ _ (Ne.symm hX), hfold] at ho
      split at ho
      · cases ho
      · rename_i hn
        rw [hzip] at hn
        exact .inr ⟨by rw [hk0]; exact hX, fun i ob hi e => hn ⟨i, ob, hi, e.symm⟩, ho⟩
  have hR1 : Rw P G W0 ν φ' ⟨t1, h.next⟩ w' := Rw.fold hri hR hfm (by simpa using hl) hnd1 g0 (by rw [hk0, h0]; rfl) gp ht1
  have at_s : t1.at_ s.next = some (.res x') := by simp only [t1, Tr.at_set_same]
  have at_X : ∀ X, X ≠ s.next → (∀ i ob, ps[i]? = some (some ob) → kap (s.next :: l) h.next (i + 1) ≠ X) → t1.at_ X = h.t.at_ X := fun X h1 h2 => by
    simp only [t1]
    rw [Tr.at_set_ne _ _ (Ne.symm h1), hfold, if_neg]
    rw [hzip]
    rintro ⟨i, ob, h3, h4⟩
    exact h2 i ob h3 h4
  have plen : ∀ i (ob : AObj), ps[i]? = some (some ob) → i + 1 < (s.next :: l).length := fun i ob hi => by
    have : i < ps.length := by
      rcases Nat.lt_or_ge i ps.length with h | h
      · exact h
      · rw [List.getElem?_eq_none h] at hi; cases hi
    omega
  have at_low : ∀ X, X < s.next → t1.at_ X = h.t.at_ X := fun X hX => at_X X (by omega) (fun i ob hi e => by
    have := kap_mem (n := h.next) (plen i ob hi)
    rw [e] at this
    rcases List.mem_cons.1 this with h1 | h1
    · omega
    · have := hgt X (List.mem_append.2 (.inl h1)); omega)
  have at_ex : ∀ j, j < ex.length → t1.at_ (kap ex h.next j) = h.t.at_ (kap ex h.next j) := fun j hj => by
    have hm := kap_mem (n := h.next) hj
    refine at_X _ (fun e => hdis s.next (by simp) _ hm e.symm) (fun i ob hi e => hdis _ (kap_mem (n := h.next) (plen i ob hi)) _ hm e)
  have iv_low : ∀ X, X < s.next → inv_ s.next ex h.next X = X := fun X hX => by simp only [inv_, if_pos hX]
  have iv_ex : ∀ j, inv_ s.next ex h.next (s.next + j) = kap ex h.next j := fun j => by
    have : ¬ s.next + j < s.next := by omega
    simp only [inv_, if_neg this]
    rw [show s.next + j - s.next = j by omega]
  have low : ∀ X, X < s.next → φ' X = φ X := fun X hX => hx X hX
  have nB : ∀ X o, (news (s.t.set B (some (.res x'))) s.next obs).at_ X = some o → (φ' (inv_ s.next ex h.next X)).isSome → (X < s.next ∧ X = B ∧ o = .res x') ∨ (X < s.next ∧ X ≠ B ∧ s.t.at_ X = some o) ∨ ∃ j, X = s.next + j ∧ obs[j]? = some o := fun X o ho hs => by
    rcases Nat.lt_or_ge X s.next with h1 | h1
    · rw [news_out _ _ _ _ (.inl h1)] at ho
      by_cases h2 : X = B
      · subst h2; rw [Tr.at_set_same] at ho; cases ho; exact .inl ⟨h1, rfl, rfl⟩
      · rw [Tr.at_set_ne _ _ (Ne.symm h2)] at ho; exact .inr (.inl ⟨h1, h2, ho⟩)
    · obtain ⟨j, rfl⟩ : ∃ j, X = s.next + j := ⟨X - s.next, by omega⟩
      rw [iv_ex] at hs
      rcases Nat.lt_or_ge j obs.length with h2 | h2
      · rw [news_in _ _ _ _ _ (List.getElem?_eq_getElem h2)] at ho
        exact .inr (.inr ⟨j, rfl, by rw [List.getElem?_eq_getElem h2]; exact ho⟩)
      · rw [phi_add φ' (fun B h => hR.fresh B h) (by omega)] at hs
        cases hs
  have hR2 := Rw.renum hri hR1 (inv_ s.next ex h.next) (fun X => if X = B then s.next else inv_ s.next ex h.next X) (news (s.t.set B (some (.res x'))) s.next obs) (s.next + obs.length) (fun g hg => iv_low g (by omega)) (fun X hX => by
      obtain ⟨j, rfl⟩ : ∃ j, X = s.next + j := ⟨X - s.next, by omega⟩
      rw [iv_ex]
      exact phi_add φ' (fun B h => hR.fresh B h) (by omega)) (fun X o ho hs => by
      rcases nB X o ho hs with ⟨h1, h2, h3⟩ | ⟨h1, h2, h3⟩ | ⟨j, rfl, h3⟩
      · subst h2 h3
        simp only [if_pos]
        refine ⟨at_s, fun r' hr' => ?_⟩
        rw [iv_low _ h1, low _ h1, hB] at hr'
        cases hr'
        exact h0
      · simp only [if_neg h2]
        refine ⟨?_, fun r' hr' => hr'⟩
        rw [iv_low _ h1]
        show t1.at_ X = _
        rw [at_low X h1, hfr X h1 h2, h3]
        rw [iv_low _ h1, low _ h1] at hs
        obtain ⟨r', hr'⟩ := Option.isSome_iff_exists.1 hs
        congr 1
        exact (ObjR.fixed (fun Y r'' hY => iv_low Y (by
          rcases Nat.lt_or_ge Y s.next with h | h
          · exact h
          · rw [hR0.fresh Y h] at hY; cases hY)) (hR0.obj X r' o hr' h3)).symm
      · have hjl : j < obs.length := by
          rcases Nat.lt_or_ge j obs.length with h | h
          · exact h
          · rw [List.getElem?_eq_none h] at h3; cases h3
        have hne : ¬ s.next + j = B := by omega
        simp only [if_neg hne]
        refine ⟨?_, fun r' hr' => hr'⟩
        rw [iv_ex]
        show t1.at_ _ = _
        rw [at_ex j (by omega)]
        exact hobs j o h3) (fun X X' h1 h2 h3 h4 h5 => by
      obtain ⟨o1, e1⟩ := Option.isSome_iff_exists.1 h1
      obtain ⟨o2, e2⟩ := Option.isSome_iff_exists.1 h2
      have lt_of : ∀ j (o : AObj), obs[j]? = some o → j < ex.length := fun j o h => by
        rcases Nat.lt_or_ge j obs.length with h' | h'
        · omega
        · rw [List.getElem?_eq_none h'] at h; cases h
      rcases nB X o1 e1 h3 with ⟨p1, p2, p3⟩ | ⟨p1, p2, p3⟩ | ⟨j, rfl, p3⟩ <;> rcases nB X' o2 e2 h4 with ⟨k1, k2, k3⟩ | ⟨k1, k2, k3⟩ | ⟨j', rfl, k3⟩
      · rw [p2, k2]
      · simp only [if_pos p2, if_neg k2, iv_low _ k1] at h5; omega
      · have hne : ¬ s.next + j' = B := by omega
        simp only [if_pos p2, if_neg hne, iv_ex] at h5
        exact absurd h5 (hdis s.next (by simp) _ (kap_mem (lt_of j' o2 k3)))
      · simp only [if_neg p2, if_pos k2, iv_low _ p1] at h5; omega
      · simp only [if_neg p2, if_neg k2, iv_low _ p1, iv_low _ k1] at h5; exact h5
      · have hne : ¬ s.next + j' = B := by omega
        simp only [if_neg p2, if_neg hne, iv_low _ p1, iv_ex] at h5
        have := hgt _ (List.mem_append.2 (.inr (kap_mem (n := h.next) (lt_of j' o2 k3))))
        omega
      · have hne : ¬ s.next + j = B := by omega
        simp only [if_neg hne, if_pos k2, iv_ex] at h5
        exact absurd h5.symm (hdis s.next (by simp) _ (kap_mem (lt_of j o1 p3)))
      · have hne : ¬ s.next + j = B := by omega
        simp only [if_neg hne, if_neg k2, iv_ex, iv_low _ k1] at h5
        have := hgt _ (List.mem_append.2 (.inr (kap_mem (n := h.next) (lt_of j o1 p3))))
        omega
      · have hne : ¬ s.next + j = B := by omega
        have hne' : ¬ s.next + j' = B := by omega
        simp only [if_neg hne, if_neg hne', iv_ex] at h5
        rw [kap_inj hnd2 (lt_of j o1 p3) (lt_of j' o2 k3) h5])
  exact ⟨_, hR2, fun X hX => by show φ' (inv_ s.next ex h.next X) = φ X; rw [iv_low X hX, low X hX], fun z hz => VR.back (hwk _ _ _ hz)⟩

/-! ### To close, step by step -/
theorem kap_zero (a : Nat) (l : List Nat) (n : Nat) : kap (a :: l) n 0 = a := nr rfl
theorem kap_succ (a : Nat) (l : List Nat) (n j : Nat) : kap (a :: l) n (j + 1) = kap l (n + 1) j := by
  unfold kap
  rw [List.getD_cons_succ, show n + (j + 1) = n + 1 + j by omega]
theorem kap_nil (n j : Nat) : kap [] n j = n + j := nr rfl
theorem inv_lt {n m X : Nat} {ex : List Nat} (h : X < n) : inv_ n ex m X = X := if_pos h
theorem inv_ge {n m X : Nat} {ex : List Nat} (h : n ≤ X) : inv_ n ex m X = kap ex m (X - n) := if_neg (by omega)
theorem inv_self {n m : Nat} {ex : List Nat} : inv_ n ex m n = kap ex m 0 := by
  rw [inv_ge (Nat.le_refl _), Nat.sub_self]
theorem inv_add {n m j : Nat} {ex : List Nat} : inv_ n ex m (n + j) = kap ex m j := by
  rw [inv_ge (by omega), show n + j - n = j by omega]
def AllAt (h : Hp) (κ : Nat → Nat) : List (Option AObj) → Nat → Prop
  | [], _ => True
  | none :: l, i => AllAt h κ l (i + 1)
  | some o :: l, i => h.t.at_ (κ i) = some (renO κ o) ∧ AllAt h κ l (i + 1)
theorem allAt {h : Hp} {κ : Nat → Nat} : ∀ {ps : List (Option AObj)} {n : Nat}, AllAt h κ ps n → ∀ i ob, ps[i]? = some (some ob) → h.t.at_ (κ (n + i)) = some (renO κ ob)
  | [], n, _, i, ob, hi => by simp at hi
  | p :: l, n, ha, 0, ob, hi => by
    simp at hi
    subst hi
    exact ha.1
  | none :: l, n, ha, i + 1, ob, hi => by
    simp at hi
    have := allAt (n := n + 1) ha i ob hi
    rwa [show n + 1 + i = n + (i + 1) by omega] at this
  | some o :: l, n, ha, i + 1, ob, hi => by
    simp at hi
    have := allAt (n := n + 1) ha.2 i ob hi
    rwa [show n + 1 + i = n + (i + 1) by omega] at this
def AllObs (h : Hp) (κ : Nat → Nat) (ex : List Nat) : List AObj → Nat → Prop
  | [], _ => True
  | o :: l, j => h.t.at_ (kap ex h.next j) = some (renO κ o) ∧ AllObs h κ ex l (j + 1)
theorem allObs {h : Hp} {κ : Nat → Nat} {ex : List Nat} : ∀ {obs : List AObj} {n : Nat}, AllObs h κ ex obs n → ∀ j ob, obs[j]? = some ob → h.t.at_ (kap ex h.next (n + j)) = some (renO κ ob)
  | [], n, _, i, ob, hi => by simp at hi
  | p :: l, n, ha, 0, ob, hi => by
    simp at hi
    subst hi
    exact ha.1
  | o :: l, n, ha, i + 1, ob, hi => by
    simp at hi
    have := allObs (n := n + 1) ha.2 i ob hi
    rwa [show n + 1 + i = n + (i + 1) by omega] at this
def NotIn (a : Nat) : List Nat → Prop
  | [] => True
  | b :: l => a ≠ b ∧ NotIn a l
def Dist (n : Nat) : List Nat → Prop
  | [] => True
  | a :: l => n < a ∧ NotIn a l ∧ Dist n l
theorem notIn {a : Nat} : ∀ {l : List Nat}, NotIn a l → a ∉ l
  | [], _ => by simp
  | b :: l, h => by
    simp only [List.mem_cons, not_or]
    exact ⟨h.1, notIn h.2⟩
theorem dist {n : Nat} : ∀ {l : List Nat}, Dist n l → (n :: l).Nodup ∧ ∀ k ∈ l, n < k
  | [], _ => ⟨by simp, by simp⟩
  | a :: l, h => by
    obtain ⟨h1, h2⟩ := dist h.2.2
    have h3 := notIn h.2.1
    have h4 := List.nodup_cons.1 h1
    refine ⟨List.nodup_cons.2 ⟨?_, List.nodup_cons.2 ⟨h3, h4.2⟩⟩, fun k hk => ?_⟩
    · simp only [List.mem_cons, not_or]
      exact ⟨by have := h.1; omega, h4.1⟩
    · rcases List.mem_cons.1 hk with rfl | hk
      · exact h.1
      · exact h2 k hk
theorem closes_mk (l ex : List Nat) {s : Hp} {B : Nat} {x' : Rs} {obs : List AObj} {h : Hp} {v u : Value} {oc : List Value} {e : TypeId} {ps : List (Option AObj)} (hfm : L.fm x' oc e ps) (hl : l.length = ps.length)
    (h0 : h.t.at_ s.next = some (.cells (renL (kap (s.next :: l) h.next) oc) e true)) (hp : AllAt h (kap (s.next :: l) h.next) ps 1) (hd : Dist s.next (l ++ ex)) (hfr : ∀ X, X < s.next → X ≠ B → h.t.at_ X = s.t.at_ X) (hex : ex.length = obs.length) (ho : AllObs h (inv_ s.next ex h.next) ex obs 0) (hv : u = ren (inv_ s.next ex h.next) v) :
    Closes L s B x' obs h v u := by
  obtain ⟨h1, h2⟩ := dist hd
  refine ⟨l, ex, ⟨oc, e, ps, hfm, by simp [hl], h0, fun i ob hi => ?_⟩, h1, h2, hfr, hex, fun j ob hj => ?_, .of hv⟩
  · have := allAt hp i ob hi
    rwa [show 1 + i = i + 1 by omega] at this
  · have := allObs ho j ob hj
    rwa [show 0 + j = j by omega] at this
theorem ren_int (κ : Nat → Nat) (k : IntKind) (i : Int) : ren κ (.int k i) = .int k i := nr rfl
/-! ### Methods -/
/-- A method: what it answers of a structure (by the blocks that are there), what that is behind it, and new blocks. -/
abbrev Meth := Hp → Rs → List Value → Option (Value × Rs × List AObj)
def cMeth (f : Meth) : CallS := fun args s => match args with
  | .pointer (some ⟨B, 0, none⟩) :: ags => (match s.t.at_ B with
    | some (.res x) => (match f s x ags with
      | some (v, x', obs) => some (v, ⟨news (s.t.set B (some (.res x'))) s.next obs, s.next + obs.length⟩)
      | none => none)
    | _ => none)
  | _ => none
theorem meth_okG (hri : W0.ri = fun x _ w b F => RI P ν L x w b F) {g : FuncId} {f : Meth}
    (hb : ∀ s B x ags v x' obs, f s x ags = some (v, x', obs) → s.t.at_ B = some (.res x) → B < s.next → G ≤ s.next → (∀ w b F, ¬ L.leaf x w b F) ∧ ∀ oc e ps, L.fm x oc e ps → CallV P G W0 ν g (.pointer (some ⟨s.next, 0, none⟩) :: ags) (opened s B oc e ps) fun u h' => Closes L s B x' obs h' v u) :
    SpecOK P G W0 ν g (cMeth f) := by
  intro args s v h' e φ w args' ha hR hG
  unfold cMeth at e
  split at e <;> try (cases e; done)
  rename_i B ags
  split at e <;> try (cases e; done)
  rename_i x hat
  split at e <;> try (cases e; done)
  rename_i v1 x' obs hfx
  simp only [Option.some.injEq, Prod.mk.injEq] at e
  obtain ⟨rfl, rfl⟩ := e
  cases ha with
  | cons h1 h2 => cases h1 with
    | ptr hφ =>
      rename_i r
      have hBn : B < s.next := by
        rcases Nat.lt_or_ge B s.next with h | h
        · exact h
        · rw [hR.fresh B h] at hφ; cases hφ
      obtain ⟨hnl, hrun⟩ := hb s B x ags v1 x' obs hfx hat hBn hG
      obtain ⟨oc, ty, ps, φ1, hfm, hR1, hx1, hn0⟩ := Rw.lay hri hG hR hφ hat hnl
      have hup := hR.up (Nat.le_refl _) hx1
      have hG1 : G ≤ (opened s B oc ty ps).next := by show G ≤ s.next + 1 + ps.length; omega
      have hargs : VRs ν φ1 (.pointer (some ⟨s.next, 0, none⟩) :: ags) (.pointer (some ⟨r.b, 0, none⟩) :: _) := .cons (.ptr hn0) (h2.ext hup)
      refine (hrun oc ty ps hfm φ1 w _ hargs hR1 hG1).mono ?_
      rintro en w' ⟨u, h', hk, z, rfl, φ2, hz, hR2, hx2, hn2⟩
      have hle : s.next ≤ (opened s B oc ty ps).next := by show s.next ≤ s.next + 1 + ps.length; omega
      have hx12 : Eva.Ext s.next φ φ2 := fun X hX => (hx2 X (by omega)).trans (hx1 X hX)
      have h0' : φ2 s.next = some r := by rw [hx2 _ (by show s.next < s.next + 1 + ps.length; omega)]; exact hn0
      obtain ⟨φ3, hR3, hx3, hv3⟩ := Rw.close hri hG hR hφ hR2 hx12 (Nat.le_trans hle hn2) h0' hk
      exact ⟨z, rfl, φ3, hv3 z hz, hR3, hx3, by show s.next ≤ s.next + obs.length; omega⟩
theorem meth_ok {call : CallB} (hri : W0.ri = fun x _ w b F => RI P ν L x w b F) (hf : P.follows .mixedOrders = true) (hcall : CallOK P G W0 ν call) {g : FuncId} {f : Meth}
    (hb : ∀ s B x ags v x' obs, f s x ags = some (v, x', obs) → s.t.at_ B = some (.res x) → B < s.next → G ≤ s.next → (∀ w b F, ¬ L.leaf x w b F) ∧ ∀ oc e ps, L.fm x oc e ps → wpF P G call g (.pointer (some ⟨s.next, 0, none⟩) :: ags) (opened s B oc e ps) fun u h' => Closes L s B x' obs h' v u) :
    SpecOK P G W0 ν g (cMeth f) := meth_okG hri fun s B x ags v x' obs e hat hB hG => by
  obtain ⟨h1, h2⟩ := hb s B x ags v x' obs e hat hB hG
  exact ⟨h1, fun oc e ps hfm => wpF_sound hf hcall (h2 oc e ps hfm)⟩
end
end Go.Sym
end

/-
  Functions over blocks that are not put together: from a body's run to what is told of a call. No program in sight.
-/
section
set_option linter.unusedSimpArgs false
set_option linter.unusedVariables false
namespace Go.Sym
open Go Go.RowKit Go.Viv Go.Eva
/-- Old blocks written, or thrown away. -/
def setL : Tr AObj → List (Nat × Option AObj) → Tr AObj
  | t, [] => t
  | t, (k, o) :: l => setL (t.set k o) l
def KeyIn (X : Nat) : List (Nat × Option AObj) → Prop
  | [] => False
  | (k, _) :: l => X = k ∨ KeyIn X l
theorem setL_out : ∀ (l : List (Nat × Option AObj)) (t : Tr AObj) (X : Nat), ¬ KeyIn X l → (setL t l).at_ X = t.at_ X
  | [], t, X, _ => rfl
  | (k, o) :: l, t, X, h => by
    unfold setL
    rw [setL_out l _ X (fun h' => h (.inr h')), Tr.at_set_ne _ _ (fun e => h (.inl e.symm))]
theorem setL_in : ∀ (l : List (Nat × Option AObj)) (t : Tr AObj) (X : Nat), KeyIn X l → ∃ o, (X, o) ∈ l ∧ (setL t l).at_ X = o
  | [], t, X, h => h.elim
  | (k, o) :: l, t, X, h => by
    unfold setL
    by_cases h' : KeyIn X l
    · obtain ⟨o', h1, h2⟩ := setL_in l (t.set k o) X h'
      exact ⟨o', List.mem_cons_of_mem _ h1, h2⟩
    · rcases h with rfl | h
      · exact ⟨o, by simp, by rw [setL_out l _ _ h', Tr.at_set_same]⟩
      · exact absurd h h'
/-- What stands behind a body: old blocks as told, new ones obs, the answer. -/
structure EndsF (s : Hp) (mods : List (Nat × Option AObj)) (ex : List Nat) (obs : List AObj) (h : Hp) (v u : Value) : Prop where
  nd : ex.Nodup
  gt : ∀ k ∈ ex, s.next ≤ k
  len : ex.length = obs.length
  low : ∀ k o, (k, o) ∈ mods → k < s.next
  mod : ∀ k o, (k, some o) ∈ mods → h.t.at_ k = some (renO (inv_ s.next ex h.next) o)
  rest : ∀ X, X < s.next → ¬ KeyIn X mods → h.t.at_ X = s.t.at_ X
  obs : ∀ j ob, obs[j]? = some ob → h.t.at_ (kap ex h.next j) = some (renO (inv_ s.next ex h.next) ob)
  val : Wk u (ren (inv_ s.next ex h.next) v)
/-- What may be leant on: the blocks that are there, and what their cells name. -/
structure Lives (s : Hp) (args : List Value) (Lv : Nat → Prop) : Prop where
  arg : ∀ X, occL X args = true → Lv X
  cell : ∀ X c e rw, Lv X → s.t.at_ X = some (.cells c e rw) → ∀ Y, occL Y c = true → Lv Y
  lt : ∀ X, Lv X → X < s.next
section
variable {P : Program} {G : Nat} {W0 : Begin} {ν : Toks} {L : Frm}
theorem key_low {X : Nat} {o : Option AObj} : ∀ {l : List (Nat × Option AObj)}, (X, o) ∈ l → KeyIn X l
  | [], h => by cases h
  | (k, o') :: l, h => by
    rcases List.mem_cons.1 h with h | h
    · cases h; exact .inl rfl
    · exact .inr (key_low h)
theorem fun_okG (hri : W0.ri = fun x _ w b F => RI P ν L x w b F) {g : FuncId} {c : CallS}
    (hb : ∀ args s v h', c args s = some (v, h') → ∀ Lv, Lives s args Lv → G ≤ s.next → ∃ mods obs, h' = ⟨news (setL s.t mods) s.next obs, s.next + obs.length⟩ ∧ ∃ m, CallV P G W0 ν g args ⟨s.t, s.next + m⟩ fun u h1 => ∃ ex, EndsF s mods ex obs h1 v u) :
    SpecOK P G W0 ν g c := by
  intro args s v h' e φ w args' ha hR hG
  have hlow : ∀ X r, φ X = some r → X < s.next := fun X r h => by
    rcases Nat.lt_or_ge X s.next with h' | h'
    · exact h'
    · rw [hR.fresh X h'] at h; cases h
  have hlv : Lives s args fun X => (φ X).isSome = true := by
    refine ⟨fun X h => VRs.occurs ha h, fun X c e rw hX hc Y hY => ?_, fun X hX => ?_⟩
    · obtain ⟨r, hr⟩ := Option.isSome_iff_exists.1 hX
      have := hR.obj X r _ hr hc
      cases this with | cells g1 g2 g3 g4 => exact VRs.occurs g4 hY
    · obtain ⟨r, hr⟩ := Option.isSome_iff_exists.1 hX
      exact hlow X r hr
  obtain ⟨mods, obs, rfl, m, hrun⟩ := hb args s v h' e _ hlv hG
  refine (hrun φ w _ ha (hR.more (Nat.le_add_right _ _)) (by show G ≤ s.next + m; omega)).mono ?_
  rintro en w' ⟨u, h1, ⟨ex, E⟩, z, rfl, φ2, hz, hR2, hx2, hn2⟩
  have hn2' : s.next + m ≤ h1.next := hn2
  have low : ∀ X, X < s.next → φ2 X = φ X := fun X hX => hx2 X (by show X < s.next + m; omega)
  have iv_low : ∀ X, X < s.next → inv_ s.next ex h1.next X = X := fun X hX => by simp only [inv_, if_pos hX]
  have iv_ex : ∀ j, inv_ s.next ex h1.next (s.next + j) = kap ex h1.next j := fun j => by
    have : ¬ s.next + j < s.next := by omega
    simp only [inv_, if_neg this]
    rw [show s.next + j - s.next = j by omega]
  have hfr : ∀ X, s.next + obs.length ≤ X → φ2 (inv_ s.next ex h1.next X) = none := fun X hX => by
    obtain ⟨j, rfl⟩ : ∃ j, X = s.next + j := ⟨X - s.next, by omega⟩
    rw [iv_ex, kap_ge (by have := E.len; omega)]
    exact hR2.fresh _ (by omega)
  have lt_of : ∀ j (o : AObj), obs[j]? = some o → j < ex.length := fun j o h => by
    have := E.len
    rcases Nat.lt_or_ge j obs.length with h' | h'
    · omega
    · rw [List.getElem?_eq_none h'] at h; cases h
  have cls : ∀ X o, (news (setL s.t mods) s.next obs).at_ X = some o → (φ2 (inv_ s.next ex h1.next X)).isSome → (X < s.next ∧ h1.t.at_ X = some (renO (inv_ s.next ex h1.next) o)) ∨ ∃ j, X = s.next + j ∧ obs[j]? = some o := fun X o ho hs => by
    rcases Nat.lt_or_ge X s.next with h2 | h2
    · rw [news_out _ _ _ _ (.inl h2)] at ho
      refine .inl ⟨h2, ?_⟩
      by_cases hk : KeyIn X mods
      · obtain ⟨o', q1, q2⟩ := setL_in mods s.t X hk
        rw [q2] at ho
        subst ho
        exact E.mod X o q1
      · rw [setL_out _ _ _ hk] at ho
        rw [E.rest X h2 hk, ho]
        rw [iv_low X h2, low X h2] at hs
        obtain ⟨r, hr⟩ := Option.isSome_iff_exists.1 hs
        congr 1
        exact (ObjR.fixed (fun Y r' hY => iv_low Y (hlow Y r' hY)) (hR.obj X r o hr ho)).symm
    · obtain ⟨j, rfl⟩ : ∃ j, X = s.next + j := ⟨X - s.next, by omega⟩
      rcases Nat.lt_or_ge j obs.length with h3 | h3
      · rw [news_in _ _ _ _ _ (List.getElem?_eq_getElem h3)] at ho
        exact .inr ⟨j, rfl, by rw [List.getElem?_eq_getElem h3]; exact ho⟩
      · rw [hfr _ (by omega)] at hs; cases hs
  have hR3 := Rw.renum hri hR2 (inv_ s.next ex h1.next) (inv_ s.next ex h1.next) (news (setL s.t mods) s.next obs) (s.next + obs.length) (fun g hg => iv_low g (by omega)) hfr (fun X o ho hs => by
      refine ⟨?_, fun r hr => hr⟩
      rcases cls X o ho hs with ⟨h2, h3⟩ | ⟨j, rfl, h3⟩
      · rw [iv_low X h2]; exact h3
      · rw [iv_ex]; exact E.obs j o h3) (fun X X' h2 h3 h4 h5 h6 => by
      obtain ⟨o1, e1⟩ := Option.isSome_iff_exists.1 h2
      obtain ⟨o2, e2⟩ := Option.isSome_iff_exists.1 h3
      rcases cls X o1 e1 h4 with ⟨p1, p2⟩ | ⟨j, rfl, p2⟩ <;> rcases cls X' o2 e2 h5 with ⟨k1, k2⟩ | ⟨j', rfl, k2⟩
      · rw [iv_low X p1, iv_low X' k1] at h6; exact h6
      · rw [iv_low X p1, iv_ex] at h6
        have := E.gt _ (kap_mem (n := h1.next) (lt_of j' o2 k2))
        omega
      · rw [iv_low X' k1, iv_ex] at h6
        have := E.gt _ (kap_mem (n := h1.next) (lt_of j o1 p2))
        omega
      · rw [iv_ex, iv_ex] at h6
        rw [kap_inj E.nd (lt_of j o1 p2) (lt_of j' o2 k2) h6])
  refine ⟨z, rfl, _, VR.back (κ := inv_ s.next ex h1.next) (E.val _ _ _ hz), hR3, fun X hX => by show φ2 (inv_ s.next ex h1.next X) = φ X; rw [iv_low X hX, low X hX], by show s.next ≤ s.next + obs.length; omega⟩
theorem fun_ok {call : CallB} (hri : W0.ri = fun x _ w b F => RI P ν L x w b F) (hf : P.follows .mixedOrders = true) (hcall : CallOK P G W0 ν call) {g : FuncId} {c : CallS}
    (hb : ∀ args s v h', c args s = some (v, h') → ∀ Lv, Lives s args Lv → G ≤ s.next → ∃ mods obs, h' = ⟨news (setL s.t mods) s.next obs, s.next + obs.length⟩ ∧ ∃ m, wpF P G call g args ⟨s.t, s.next + m⟩ fun u h1 => ∃ ex, EndsF s mods ex obs h1 v u) :
    SpecOK P G W0 ν g c := fun_okG hri fun args s v h' e Lv hl hG => by
  obtain ⟨mods, obs, h1, m, h2⟩ := hb args s v h' e Lv hl hG
  exact ⟨mods, obs, h1, m, wpF_sound hf hcall h2⟩
/-! ### Step by step -/
def AllMods (h : Hp) (κ : Nat → Nat) (n : Nat) : List (Nat × Option AObj) → Prop
  | [] => True
  | (k, none) :: l => k < n ∧ AllMods h κ n l
  | (k, some o) :: l => k < n ∧ h.t.at_ k = some (renO κ o) ∧ AllMods h κ n l
theorem allMods_low {h : Hp} {κ : Nat → Nat} {n : Nat} : ∀ {l : List (Nat × Option AObj)}, AllMods h κ n l → ∀ k o, (k, o) ∈ l → k < n
  | [], _, k, o, hk => by cases hk
  | (k', none) :: l, ha, k, o, hk => by
    rcases List.mem_cons.1 hk with e | hk
    · cases e; exact ha.1
    · exact allMods_low ha.2 k o hk
  | (k', some o') :: l, ha, k, o, hk => by
    rcases List.mem_cons.1 hk with e | hk
    · cases e; exact ha.1
    · exact allMods_low ha.2.2 k o hk
theorem allMods_at {h : Hp} {κ : Nat → Nat} {n : Nat} : ∀ {l : List (Nat × Option AObj)}, AllMods h κ n l → ∀ k o, (k, some o) ∈ l → h.t.at_ k = some (renO κ o)
  | [], _, k, o, hk => by cases hk
  | (k', none) :: l, ha, k, o, hk => by
    rcases List.mem_cons.1 hk with e | hk
    · cases e
    · exact allMods_at ha.2 k o hk
  | (k', some o') :: l, ha, k, o, hk => by
    rcases List.mem_cons.1 hk with e | hk
    · cases e; exact ha.2.1
    · exact allMods_at ha.2.2 k o hk
def DistG (n : Nat) : List Nat → Prop
  | [] => True
  | a :: l => n ≤ a ∧ NotIn a l ∧ DistG n l
theorem distG {n : Nat} : ∀ {l : List Nat}, DistG n l → l.Nodup ∧ ∀ k ∈ l, n ≤ k
  | [], _ => ⟨List.nodup_nil, by simp⟩
  | a :: l, h => by
    obtain ⟨h1, h2⟩ := distG h.2.2
    refine ⟨List.nodup_cons.2 ⟨notIn h.2.1, h1⟩, fun k hk => ?_⟩
    rcases List.mem_cons.1 hk with rfl | hk
    · exact h.1
    · exact h2 k hk
theorem ends_mk (ex : List Nat) {s : Hp} {mods : List (Nat × Option AObj)} {obs : List AObj} {h : Hp} {v u : Value} (hd : DistG s.next ex) (hl : ex.length = obs.length) (hm : AllMods h (inv_ s.next ex h.next) s.next mods) (hr : ∀ X, X < s.next → ¬ KeyIn X mods → h.t.at_ X = s.t.at_ X) (ho : AllObs h (inv_ s.next ex h.next) ex obs 0) (hv : u = ren (inv_ s.next ex h.next) v) :
    ∃ ex, EndsF s mods ex obs h v u :=
  ⟨ex, (distG hd).1, (distG hd).2, hl, allMods_low hm, allMods_at hm, hr, fun j ob hj => by
    have := allObs ho j ob hj
    rwa [show 0 + j = j by omega] at this, .of hv⟩
end
end Go.Sym
end

/-
  What makes a structure: from a body's run to what is told of a call. No program in sight.
-/
section
set_option linter.unusedSimpArgs false
set_option linter.unusedVariables false
namespace Go.Sym
open Go Go.RowKit Go.Viv Go.Eva
section
variable {P : Program} {G : Nat} {W0 : Begin} {ν : Toks} {L : Frm} {φ φ' : Phi} {s h : Hp} {w w' : World}
/-- A tree with the structure put together at a's number. -/
theorem Rw.foldAt (hri : W0.ri = fun x _ w b F => RI P ν L x w b F) (hR : Rw P G W0 ν φ' h w') {x' : Rs} {a : Nat} {l : List Nat} (hF : FormAt L x' h (a :: l)) (hnd : (a :: l).Nodup) (h0 : (φ' a).isSome) :
    ∃ t1, Rw P G W0 ν φ' ⟨t1, h.next⟩ w' ∧ t1.at_ a = some (.res x') ∧ ∀ X, X ∉ a :: l → t1.at_ X = h.t.at_ X := by
  obtain ⟨oc, e, ps, hfm, hl, g0, gp⟩ := hF
  have hk0 : kap (a :: l) h.next 0 = a := rfl
  have hfold : ∀ (q : List (Option AObj × Nat)) (t : Tr AObj) X, (q.foldl (fun t (p : Option AObj × Nat) => match p.1 with | some _ => t.set (kap (a :: l) h.next (p.2 + 1)) none | none => t) t).at_ X =
      (if ∃ p ∈ q, p.1.isSome ∧ kap (a :: l) h.next (p.2 + 1) = X then none else t.at_ X) := by
    intro q
    induction q with
    | nil => intro t X; simp
    | cons p q ih =>
      intro t X
      obtain ⟨p1, p2⟩ := p
      simp only [List.foldl_cons]
      rw [ih]
      by_cases h1 : ∃ p ∈ q, p.1.isSome ∧ kap (a :: l) h.next (p.2 + 1) = X
      · rw [if_pos h1, if_pos]
        obtain ⟨p', hp1, hp2⟩ := h1
        exact ⟨p', List.mem_cons_of_mem _ hp1, hp2⟩
      · rw [if_neg h1]
        cases p1 with
        | none =>
          simp only
          rw [if_neg]
          rintro ⟨p', hp1, hp2⟩
          rcases List.mem_cons.1 hp1 with rfl | hp1
          · simp at hp2
          · exact h1 ⟨p', hp1, hp2⟩
        | some ob =>
          simp only
          by_cases h2 : kap (a :: l) h.next (p2 + 1) = X
          · rw [h2, Tr.at_set_same, if_pos]
            exact ⟨(some ob, p2), by simp, rfl, h2⟩
          · rw [Tr.at_set_ne _ _ h2, if_neg]
            rintro ⟨p', hp1, hp2⟩
            rcases List.mem_cons.1 hp1 with rfl | hp1
            · exact h2 hp2.2
            · exact h1 ⟨p', hp1, hp2⟩
  have hzip : ∀ X, (∃ p ∈ ps.zipIdx, p.1.isSome ∧ kap (a :: l) h.next (p.2 + 1) = X) ↔ ∃ i ob, ps[i]? = some (some ob) ∧ kap (a :: l) h.next (i + 1) = X := fun X => by
    constructor
    · rintro ⟨⟨p1, p2⟩, h1, h2, h3⟩
      obtain ⟨ob, hob⟩ := Option.isSome_iff_exists.1 h2
      simp only at hob
      subst hob
      exact ⟨p2, ob, List.mem_zipIdx_iff_getElem?.1 h1, h3⟩
    · rintro ⟨i, ob, h1, h2⟩
      exact ⟨(some ob, i), List.mem_zipIdx_iff_getElem?.2 h1, rfl, h2⟩
  have plen : ∀ i (ob : AObj), ps[i]? = some (some ob) → i + 1 < (a :: l).length := fun i ob hi => by
    have : i < ps.length := by
      rcases Nat.lt_or_ge i ps.length with h | h
      · exact h
      · rw [List.getElem?_eq_none h] at hi; cases hi
    omega
  refine ⟨(ps.zipIdx.foldl (fun t (p : Option AObj × Nat) => match p.1 with | some _ => t.set (kap (a :: l) h.next (p.2 + 1)) none | none => t) h.t).set a (some (.res x')), Rw.fold hri hR hfm (by simpa using hl) hnd g0 (by rw [hk0]; exact h0) gp fun X o ho => ?_, Tr.at_set_same _ _ _, fun X hX => ?_⟩
  · by_cases hXa : X = a
    · subst hXa
      rw [Tr.at_set_same] at ho
      exact .inl ⟨hk0.symm, (Option.some.inj ho).symm⟩
    · rw [Tr.at_set_ne _ _ (Ne.symm hXa), hfold] at ho
      split at ho
      · cases ho
      · rename_i hn
        rw [hzip] at hn
        exact .inr ⟨by rw [hk0]; exact hXa, fun i ob hi e => hn ⟨i, ob, hi, e.symm⟩, ho⟩
  · rw [Tr.at_set_ne _ _ (fun e => hX (by rw [e]; simp)), hfold, if_neg]
    rw [hzip]
    rintro ⟨i, ob, h3, h4⟩
    exact hX (h4 ▸ kap_mem (n := h.next) (plen i ob h3))
/-- Behind a body: a structure x' at a, with its blocks l; nothing old has turned. -/
def Makes (L : Frm) (s : Hp) (x' : Rs) (h : Hp) (v u : Value) : Prop :=
  ∃ (a : Nat) (l : List Nat), FormAt L x' h (a :: l) ∧ (a :: l).Nodup ∧ (∀ k ∈ a :: l, s.next ≤ k) ∧ (∀ X, X < s.next → h.t.at_ X = s.t.at_ X) ∧ occ a u = true ∧ Wk u (ren (inv_ s.next [a] h.next) v)
theorem make_okG (hri : W0.ri = fun x _ w b F => RI P ν L x w b F) {g : FuncId} {c : CallS}
    (hb : ∀ args s v h', c args s = some (v, h') → ∀ Lv, Lives s args Lv → G ≤ s.next → ∃ x', h' = ⟨s.t.set s.next (some (.res x')), s.next + 1⟩ ∧ CallV P G W0 ν g args s fun u h1 => Makes L s x' h1 v u) :
    SpecOK P G W0 ν g c := by
  intro args s v h' e φ w args' ha hR hG
  have hlow : ∀ X r, φ X = some r → X < s.next := fun X r h => by
    rcases Nat.lt_or_ge X s.next with h' | h'
    · exact h'
    · rw [hR.fresh X h'] at h; cases h
  have hlv : Lives s args fun X => (φ X).isSome = true := by
    refine ⟨fun X h => VRs.occurs ha h, fun X c e rw hX hc Y hY => ?_, fun X hX => ?_⟩
    · obtain ⟨r, hr⟩ := Option.isSome_iff_exists.1 hX
      have := hR.obj X r _ hr hc
      cases this with | cells g1 g2 g3 g4 => exact VRs.occurs g4 hY
    · obtain ⟨r, hr⟩ := Option.isSome_iff_exists.1 hX
      exact hlow X r hr
  obtain ⟨x', rfl, hrun⟩ := hb args s v h' e _ hlv hG
  refine (hrun φ w _ ha hR hG).mono ?_
  rintro en w' ⟨u, h1, ⟨a, l, hF, hnd, hgt, hfr, hocc, hu⟩, z, rfl, φ2, hz, hR2, hx2, hn2⟩
  obtain ⟨t1, hR3, ta, tz⟩ := Rw.foldAt hri hR2 hF hnd (VR.occurs hz hocc)
  have low : ∀ X, X < s.next → φ2 X = φ X := fun X hX => hx2 X hX
  have iv_low : ∀ X, X < s.next → inv_ s.next [a] h1.next X = X := fun X hX => inv_lt hX
  have iv_a : inv_ s.next [a] h1.next s.next = a := inv_self
  have hfr2 : ∀ X, s.next + 1 ≤ X → φ2 (inv_ s.next [a] h1.next X) = none := fun X hX => by
    obtain ⟨j, rfl⟩ : ∃ j, X = s.next + j := ⟨X - s.next, by omega⟩
    rw [inv_add, kap_ge (by simp; omega)]
    exact hR2.fresh _ (by omega)
  have cls : ∀ X o, (s.t.set s.next (some (.res x'))).at_ X = some o → (φ2 (inv_ s.next [a] h1.next X)).isSome → (X < s.next ∧ s.t.at_ X = some o) ∨ (X = s.next ∧ o = .res x') := fun X o ho hs => by
    rcases Nat.lt_or_ge X s.next with h2 | h2
    · rw [Tr.at_set_ne _ _ (by omega)] at ho
      exact .inl ⟨h2, ho⟩
    · by_cases h3 : X = s.next
      · subst h3
        rw [Tr.at_set_same] at ho
        exact .inr ⟨rfl, (Option.some.inj ho).symm⟩
      · rw [hfr2 X (by omega)] at hs; cases hs
  have hR4 := Rw.renum hri hR3 (inv_ s.next [a] h1.next) (inv_ s.next [a] h1.next) (s.t.set s.next (some (.res x'))) (s.next + 1) (fun g hg => iv_low g (by omega)) hfr2 (fun X o ho hs => by
      refine ⟨?_, fun r hr => hr⟩
      rcases cls X o ho hs with ⟨h2, h3⟩ | ⟨rfl, rfl⟩
      · rw [iv_low X h2]
        show t1.at_ X = _
        rw [tz X (fun hm => by have := hgt X hm; omega), hfr X h2, h3]
        rw [iv_low X h2, low X h2] at hs
        obtain ⟨r, hr⟩ := Option.isSome_iff_exists.1 hs
        congr 1
        exact (ObjR.fixed (fun Y r' hY => iv_low Y (hlow Y r' hY)) (hR.obj X r o hr h3)).symm
      · rw [iv_a]; exact ta) (fun X X' h2 h3 h4 h5 h6 => by
      obtain ⟨o1, e1⟩ := Option.isSome_iff_exists.1 h2
      obtain ⟨o2, e2⟩ := Option.isSome_iff_exists.1 h3
      have ga := hgt a (by simp)
      rcases cls X o1 e1 h4 with ⟨p1, p2⟩ | ⟨rfl, p2⟩ <;> rcases cls X' o2 e2 h5 with ⟨k1, k2⟩ | ⟨rfl, k2⟩
      · rw [iv_low X p1, iv_low X' k1] at h6; exact h6
      · rw [iv_low X p1, iv_a] at h6; omega
      · rw [iv_low X' k1, iv_a] at h6; omega
      · rfl)
  refine ⟨z, rfl, _, VR.back (κ := inv_ s.next [a] h1.next) (hu _ _ _ hz), hR4, fun X hX => by show φ2 (inv_ s.next [a] h1.next X) = φ X; rw [iv_low X hX, low X hX], by show s.next ≤ s.next + 1; omega⟩
theorem make_ok {call : CallB} (hri : W0.ri = fun x _ w b F => RI P ν L x w b F) (hf : P.follows .mixedOrders = true) (hcall : CallOK P G W0 ν call) {g : FuncId} {c : CallS}
    (hb : ∀ args s v h', c args s = some (v, h') → ∀ Lv, Lives s args Lv → G ≤ s.next → ∃ x', h' = ⟨s.t.set s.next (some (.res x')), s.next + 1⟩ ∧ wpF P G call g args s fun u h1 => Makes L s x' h1 v u) :
    SpecOK P G W0 ν g c := make_okG hri fun args s v h' e Lv hl hG => by
  obtain ⟨x', h1, h2⟩ := hb args s v h' e Lv hl hG
  exact ⟨x', h1, wpF_sound hf hcall h2⟩
theorem makes_mk (a : Nat) (l : List Nat) {s : Hp} {x' : Rs} {h : Hp} {v u : Value} {oc : List Value} {e : TypeId} {ps : List (Option AObj)} (hfm : L.fm x' oc e ps) (hl : l.length = ps.length)
    (h0 : h.t.at_ a = some (.cells (renL (kap (a :: l) h.next) oc) e true)) (hp : AllAt h (kap (a :: l) h.next) ps 1) (hd : DistG s.next (a :: l)) (hfr : ∀ X, X < s.next → h.t.at_ X = s.t.at_ X) (ho : occ a u = true) (hv : u = ren (inv_ s.next [a] h.next) v) :
    Makes L s x' h v u := by
  obtain ⟨h1, h2⟩ := distG hd
  refine ⟨a, l, ⟨oc, e, ps, hfm, by simp [hl], h0, fun i ob hi => ?_⟩, h1, h2, hfr, ho, .of hv⟩
  have := allAt hp i ob hi
  rwa [show 1 + i = i + 1 by omega] at this
end
end Go.Sym
end

/-
  Rows of cells in a run with what is left open. No program in sight.
-/
section
set_option linter.unusedSimpArgs false
set_option linter.unusedVariables false
namespace Go.Sym
open Go Go.RowKit Go.Viv Go.Eva
theorem wrap_nn {k : IntKind} {i : Int} (h : 0 ≤ i) : wrapInt (.int k i) = some i.toNat := by
  obtain ⟨n, rfl⟩ : ∃ n : Nat, i = n := ⟨i.toNat, by omega⟩
  rfl
theorem wrap_nat {k : IntKind} {i : Nat} : wrapInt (.int k (i : Int)) = some i := rfl
/-- A row of numbers. -/
def intsC (l : List Int) : List Value := l.map (.int .i64)
theorem intsC_len (l : List Int) : (intsC l).length = l.length := by simp [intsC]
theorem intsC_get {l : List Int} {i : Nat} (h : i < l.length) : (intsC l)[i]? = some (.int .i64 (l.getD i 0)) := by
  simp [intsC, List.getD_eq_getElem?_getD, List.getElem?_eq_getElem h]
theorem intsC_plain : ∀ l : List Int, plainL (intsC l) = true
  | [] => rfl
  | _ :: l => by
    have := intsC_plain l
    simp only [intsC] at this
    simp only [intsC, List.map_cons, plainL, plainV, this]
    rfl
theorem intsC_ren (κ : Nat → Nat) (l : List Int) : renL κ (intsC l) = intsC l := renL_plain κ _ (intsC_plain l)
theorem intsC_has {l : List Int} {i : Nat} (h : i < l.length) : has ((intsC l).drop i) 1 = true := by
  cases hd : (intsC l).drop i with
  | nil =>
    have := congrArg List.length hd
    simp [intsC_len] at this
    omega
  | cons a r => simp [has]
theorem intsC_set {l : List Int} {i : Nat} (h : i < l.length) (x : Int) : spl (intsC l) i [.int .i64 x] = intsC (l.set i x) := by
  unfold spl intsC
  rw [← List.map_take, ← List.map_drop]
  show List.map _ (l.take i) ++ (List.map (Value.int .i64) [x] ++ List.map _ (l.drop (i + 1))) = _
  rw [← List.map_append, ← List.map_append]
  congr 1
  rw [List.set_eq_take_append_cons_drop, if_pos h]
  rfl
theorem spl_one {l : List Value} {i : Nat} (h : i < l.length) (v : Value) : spl l i [v] = l.set i v := by
  unfold spl
  rw [List.set_eq_take_append_cons_drop, if_pos h]
  rfl
theorem has_one {l : List Value} {i : Nat} (h : i < l.length) : has (l.drop i) 1 = true := by
  cases hd : l.drop i with
  | nil =>
    have := congrArg List.length hd
    simp at this
    omega
  | cons a r => simp [has]
theorem intsC_put (l : List Int) (i : Nat) (x : Int) : (intsC l).set i (.int .i64 x) = intsC (l.set i x) := by simp [intsC]
theorem plainL_set : ∀ {l : List Value} {i : Nat} {v : Value}, plainL l = true → plainV v = true → plainL (l.set i v) = true
  | [], _, _, h, _ => by simpa using h
  | a :: l, 0, v, h, hv => by
    simp only [plainL, Bool.and_eq_true] at h
    simp only [List.set_cons_zero, plainL, hv, h.2, Bool.and_self]
  | a :: l, i + 1, v, h, hv => by
    simp only [plainL, Bool.and_eq_true] at h
    simp only [List.set_cons_succ, plainL, h.1, plainL_set h.2 hv, Bool.and_self]
/-! ### A row that is appended to -/
/-- v is a row of cells cs, n elements of k cells of type e, in a block B of its own (of no block, if it is empty). -/
inductive RowAt (t : Tr AObj) (e : TypeId) (k : Nat) : Value → Nat → List Value → Nat → Prop
  | nil (B : Nat) : RowAt t e k (.slice none 0 0) 0 [] B
  | some {B n : Nat} {cs : List Value} (h : t.at_ B = some (.cells cs e true)) (hl : cs.length = (n + 1) * k) : RowAt t e k (.slice (some ⟨B, 0, none⟩) (n + 1) 0) (n + 1) cs B
theorem RowAt.inv {t : Tr AObj} {e : TypeId} {k : Nat} {v : Value} {n B : Nat} {cs : List Value} (h : RowAt t e k v n cs B) : (n = 0 ∧ v = .slice none 0 0 ∧ cs = []) ∨ (0 < n ∧ v = .slice (Option.some ⟨B, 0, none⟩) n 0 ∧ t.at_ B = Option.some (.cells cs e true) ∧ cs.length = n * k) := by
  cases h with
  | nil => exact .inl ⟨rfl, rfl, rfl⟩
  | some h hl => exact .inr ⟨by omega, rfl, h, hl⟩
theorem RowAt.frame {t t' : Tr AObj} {e : TypeId} {k : Nat} {v : Value} {n B : Nat} {cs : List Value} (h : RowAt t e k v n cs B) (hf : t'.at_ B = t.at_ B) : RowAt t' e k v n cs B := by
  cases h with
  | nil => exact .nil B
  | some h hl => exact .some (hf.trans h) hl
theorem RowAt.len {P : Program} {t : Tr AObj} {e st : TypeId} {k : Nat} {v : Value} {n B : Nat} {cs : List Value} (h : RowAt t e k v n cs B) (hu : P.underlying st = Option.some (.slice e)) : lenB P st v = Option.some (.int .i64 (n : Int)) := by
  cases h with
  | nil => simp only [lenB, hu]; rfl
  | some h hl => simp only [lenB, hu]; rfl
theorem has_le {α : Type} : ∀ {l : List α} {n : Nat}, n ≤ l.length → has l n = true
  | _, 0, _ => by simp [has]
  | [], n + 1, h => by simp at h
  | a :: l, n + 1, h => by
    simp only [List.length_cons] at h
    simp only [has]
    exact has_le (by omega)
/-- One element is appended, out of a row of one. -/
theorem append_one {P : Program} {h : Hp} {st xt e : TypeId} {k c : Nat} {z : List Value} (hu : P.underlying st = some (.slice e)) (hx : P.underlying xt = some (.slice e)) (hs : sizeB P e = some (k + 1)) (hz : plainZero P e = some z) (hzl : z.length = k + 1)
    (hb : Nat.ble (((P.info? e).map (·.bytes)).getD 10000000) 1000000 = true) {v : Value} {n B B' : Nat} {cs new : List Value} (hr : RowAt h.t e (k + 1) v n cs B) (hn : h.t.at_ B' = some (.cells new e true)) (hnl : new.length = k + 1) (hone : new.all oneB = true) (hne : B' ≠ B) (hlen : n ≤ 1000000) :
    ∃ h', appendB P h [st, xt] v (.slice (some ⟨B', 0, none⟩) 1 c) = some (.slice (some ⟨h.next, 0, none⟩) (n + 1) 0, h') ∧ RowAt h'.t e (k + 1) (.slice (some ⟨h.next, 0, none⟩) (n + 1) 0) (n + 1) (cs ++ new) h.next ∧ h'.next = h.next + 1 ∧ ∀ X, X ≠ B → X ≠ h.next → h'.t.at_ X = h.t.at_ X := by
  have hrc : readCells new 0 (1 * (k + 1)) = some new := by
    unfold readCells
    rw [List.drop_zero, has_le (by omega)]
    simp [List.take_of_length_le (show new.length ≤ k + 1 by omega)]
  have hnews : newsB P h.t (k + 1) z xt (.slice (some ⟨B', 0, none⟩) 1 c) = some (1, new) := by
    have e1 : Nat.beq 1 0 = false := rfl
    have e2 : Nat.ble 1 1 = true := rfl
    simp only [newsB, hx, srcB, lenV, firstB, hn, hrc, e1, e2, Option.map_some]
  have hchk : (new.all oneB && Nat.beq new.length (1 * (k + 1)) && Nat.beq z.length (k + 1) && Nat.ble 1 1000000 && Nat.ble (((P.info? e).map (·.bytes)).getD 10000000) 1000000) = true := by
    rw [hone, hb, nbeq_t (show new.length = 1 * (k + 1) by omega), nbeq_t hzl]
    rfl
  cases hr with
  | nil =>
    refine ⟨⟨h.t.set h.next (some (.cells new e true)), h.next + 1⟩, ?_, ?_, rfl, fun X h1 h2 => Tr.at_set_ne _ _ (Ne.symm h2)⟩
    · unfold appendB
      simp only [hu, hs, hz, hnews, hchk]
      rfl
    · exact .some (n := 0) (by rw [List.nil_append]; exact Tr.at_set_same _ _ _) (by simp [hnl])
  | @some B n cs hB hl =>
    have hhas : has cs ((n + 1) * (k + 1)) = true := has_le (by omega)
    have htk : cs.take ((n + 1) * (k + 1)) = cs := List.take_of_length_le (by omega)
    refine ⟨⟨(h.t.set B none).set h.next (some (.cells (cs ++ new) e true)), h.next + 1⟩, ?_, ?_, rfl, fun X h1 h2 => by rw [Tr.at_set_ne _ _ (Ne.symm h2), Tr.at_set_ne _ _ (Ne.symm h1)]⟩
    · unfold appendB
      simp only [hu, hs, hz, hnews, hchk]
      have hc2 : (Nat.beq e e && has cs ((n + 1) * (k + 1)) && Nat.ble (n + 1) 1000000) = true := by
        rw [hhas, Nat.beq_refl, nble_t (by omega)]
        rfl
      simp only [appendB.app, hB, hc2, htk]
    · exact .some (n := n + 1) (Tr.at_set_same _ _ _) (by
        rw [List.length_append, hl, hnl]
        rw [Nat.add_mul (n + 1) 1 (k + 1), Nat.one_mul])
/-- Elements are appended: what comes of it. -/
theorem append_row {P : Program} {h : Hp} {st xt e : TypeId} {k m : Nat} {z : List Value} (hu : P.underlying st = some (.slice e)) (hs : sizeB P e = some (k + 1)) (hz : plainZero P e = some z) (hzl : z.length = k + 1)
    (hb : Nat.ble (((P.info? e).map (·.bytes)).getD 10000000) 1000000 = true) {v x : Value} {n B : Nat} {cs new : List Value} (hr : RowAt h.t e (k + 1) v n cs B) (hnews : newsB P h.t (k + 1) z xt x = some (m + 1, new)) (hnl : new.length = (m + 1) * (k + 1)) (hone : new.all oneB = true) (hm : m + 1 ≤ 1000000) (hlen : n ≤ 1000000) :
    appendB P h [st, xt] v x = some (.slice (some ⟨h.next, 0, none⟩) (n + (m + 1)) 0, ⟨((if n = 0 then h.t else h.t.set B none)).set h.next (some (.cells (cs ++ new) e true)), h.next + 1⟩) := by
  have hchk : (new.all oneB && Nat.beq new.length ((m + 1) * (k + 1)) && Nat.beq z.length (k + 1) && Nat.ble (m + 1) 1000000 && Nat.ble (((P.info? e).map (·.bytes)).getD 10000000) 1000000) = true := by
    rw [hone, hb, nbeq_t hnl, nbeq_t hzl, nble_t hm]
    rfl
  cases hr with
  | nil =>
    unfold appendB
    simp only [hu, hs, hz, hnews, hchk]
    simp [appendB.app]
  | @some B n cs hB hl =>
    have hhas : has cs ((n + 1) * (k + 1)) = true := has_le (by omega)
    have htk : cs.take ((n + 1) * (k + 1)) = cs := List.take_of_length_le (by omega)
    unfold appendB
    simp only [hu, hs, hz, hnews, hchk]
    have hc2 : (Nat.beq e e && has cs ((n + 1) * (k + 1)) && Nat.ble (n + 1) 1000000) = true := by
      rw [hhas, Nat.beq_refl, nble_t (by omega)]
      rfl
    simp only [appendB.app, hB, hc2, htk]
    rw [if_neg (by omega)]
/-- The same for a row whose block may hold more, or that is empty but has a block. -/
inductive RowJ (t : Tr AObj) (e : TypeId) (k : Nat) : Value → Nat → List Value → Nat → Prop
  | nil (B : Nat) : RowJ t e k (.slice none 0 0) 0 [] B
  | some {B n : Nat} {cs : List Value} (j : List Value) (h : t.at_ B = some (.cells (cs ++ j) e true)) (hl : cs.length = n * k) : RowJ t e k (.slice (some ⟨B, 0, none⟩) n 0) n cs B
theorem RowJ.frame {t t' : Tr AObj} {e : TypeId} {k : Nat} {v : Value} {n B : Nat} {cs : List Value} (h : RowJ t e k v n cs B) (hf : t'.at_ B = t.at_ B) : RowJ t' e k v n cs B := by
  cases h with
  | nil => exact .nil B
  | some j h hl => exact .some j (hf.trans h) hl
theorem RowAt.toJ {t : Tr AObj} {e : TypeId} {k : Nat} {v : Value} {n B : Nat} {cs : List Value} (h : RowAt t e k v n cs B) : RowJ t e k v n cs B := by
  cases h with
  | nil => exact .nil B
  | some h hl => exact .some [] (by rw [List.append_nil]; exact h) hl
theorem append_rowJ {P : Program} {h : Hp} {st xt e : TypeId} {k m : Nat} {z : List Value} (hu : P.underlying st = some (.slice e)) (hs : sizeB P e = some (k + 1)) (hz : plainZero P e = some z) (hzl : z.length = k + 1)
    (hb : Nat.ble (((P.info? e).map (·.bytes)).getD 10000000) 1000000 = true) {v x : Value} {n B : Nat} {cs new : List Value} (hr : RowJ h.t e (k + 1) v n cs B) (hnews : newsB P h.t (k + 1) z xt x = some (m + 1, new)) (hnl : new.length = (m + 1) * (k + 1)) (hone : new.all oneB = true) (hm : m + 1 ≤ 1000000) (hlen : n ≤ 1000000) :
    ∃ t1, appendB P h [st, xt] v x = some (.slice (some ⟨h.next, 0, none⟩) (n + (m + 1)) 0, ⟨t1.set h.next (some (.cells (cs ++ new) e true)), h.next + 1⟩) ∧ (t1 = h.t ∨ t1 = h.t.set B none) := by
  have hchk : (new.all oneB && Nat.beq new.length ((m + 1) * (k + 1)) && Nat.beq z.length (k + 1) && Nat.ble (m + 1) 1000000 && Nat.ble (((P.info? e).map (·.bytes)).getD 10000000) 1000000) = true := by
    rw [hone, hb, nbeq_t hnl, nbeq_t hzl, nble_t hm]
    rfl
  cases hr with
  | nil =>
    refine ⟨h.t, ?_, .inl rfl⟩
    unfold appendB
    simp only [hu, hs, hz, hnews, hchk]
    simp [appendB.app]
  | @some B n cs j hB hl =>
    have hhas : has (cs ++ j) (n * (k + 1)) = true := has_le (by rw [List.length_append]; omega)
    have htk : (cs ++ j).take (n * (k + 1)) = cs := List.take_left' hl
    refine ⟨h.t.set B none, ?_, .inr rfl⟩
    unfold appendB
    simp only [hu, hs, hz, hnews, hchk]
    have hc2 : (Nat.beq e e && has (cs ++ j) (n * (k + 1)) && Nat.ble n 1000000) = true := by
      rw [hhas, Nat.beq_refl, nble_t (by omega)]
      rfl
    simp only [appendB.app, hB, hc2, htk]
/-- What is appended: a row of elements that lies in a block. -/
theorem news_row {P : Program} {t : Tr AObj} {xt e : TypeId} {k n c B : Nat} {z cs : List Value} {rw_ : Bool} {e' : TypeId} (hx : P.underlying xt = some (.slice e)) (hB : t.at_ B = some (.cells cs e' rw_)) (hl : (n + 1) * k ≤ cs.length) :
    newsB P t k z xt (.slice (some ⟨B, 0, none⟩) (n + 1) c) = some (n + 1, cs.take ((n + 1) * k)) := by
  have e1 : Nat.beq (n + 1) 0 = false := rfl
  have e2 : Nat.ble (n + 1) (n + 1) = true := nble_t (Nat.le_refl _)
  have hrc : readCells cs 0 ((n + 1) * k) = some (cs.take ((n + 1) * k)) := by
    unfold readCells
    rw [List.drop_zero, has_le hl]
  simp only [newsB, hx, srcB, lenV, firstB, hB, hrc, e1, e2, Option.map_some]
theorem rep_int (z : Int) : ∀ n, rep [.int .i64 z] n = intsC (List.replicate n z)
  | 0 => rfl
  | n + 1 => by
    simp only [rep, rep_int z n, List.replicate_succ]
    rfl
theorem veq_ints : ∀ l : List Int, veqL (intsC l) (intsC l) = true
  | [] => rfl
  | x :: l => by
    have := veq_ints l
    simp only [intsC] at this
    simp [intsC, veqL, veq, this]
end Go.Sym
end
