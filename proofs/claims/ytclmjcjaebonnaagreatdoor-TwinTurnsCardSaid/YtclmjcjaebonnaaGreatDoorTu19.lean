/-
  Several texts in one. Package slot over structures: Check.
-/
import Derived.Test.YtclmjcjaebonnaaGreatDoorTu18
import Derived.Test.YtclmjcjaebonnaaGreatDoorTu15
section
set_option linter.unusedSimpArgs false
set_option linter.unusedVariables false
namespace Go.Proofs.YtclmjcjaebonnaaGreatDoor
open Go Go.RowKit Go.Viv Go.Eva Go.Sym
def chkE (k v b : Int) : Int := match okV ⟨k, 0, 0⟩ with
  | false => 1
  | true => if v < 1 then 1 else if 4 < v then 1 else if b < 0 then 1 else if 1000 < b then 1 else if v = 4 then (if k = 3 then 0 else 9) else 0
def cChk : Sym.CallS := fun args s => match args with
  | [.agg ⟨[.int .i64 k, .int .i64 v, .int .i64 b]⟩] => some (.int .i64 (chkE k v b), s)
  | _ => none
section
variable {G : Nat} {ν : Toks} {W : World} {may : Nat → Prop} {call : CallB}
theorem chk_ok (hc : CallOK Tryz.prog G (LBegin Tryz.prog ν LL W may) ν call) (hz : ∀ a h, call 136 a h = cVZero a h) : SpecOK Tryz.prog G (LBegin Tryz.prog ν LL W may) ν 91 cChk := by
  refine fun_ok rfl (by kernel_rfl) hc fun args s v h' e Lv hlv hG => ?_
  unfold cChk at e
  split at e <;> try (cases e; done)
  rename_i k v b
  simp only [Option.some.injEq, Prod.mk.injEq] at e
  obtain ⟨rfl, rfl⟩ := e
  refine ⟨[], [], rfl, 0, ?_⟩
  unfold chkE
  cases hk : okV ⟨k, 0, 0⟩ with
  | false =>
    simp only
    refine ⟨Tryz.f91, _, Tryz.func91, rfl, by simp [Tryz.f91], ?_⟩; rw [Tryz.ntmps91]
    repeat' (first | simp (disch := omega) only [go_sem, reduceIte, sliceB, hz, cVZero, hk, Tryz.results91] | (with_reducible refine w_chain0 ?_ ?_; focus (decide +kernel)) | (with_reducible refine condK_of _ _ ?_ ?_ <;> (intro hb; try simp only [decide_eq_true_eq, decide_eq_false_iff_not] at hb)) | (with_reducible refine gdK_of_f _ _ _ _ _ ?_ ?_ <;> (intro hb; try simp only [decide_eq_true_eq, decide_eq_false_iff_not] at hb)) | (with_reducible refine gdK_of_t _ _ _ _ _ ?_ ?_ <;> (intro hb; try simp only [decide_eq_true_eq, decide_eq_false_iff_not] at hb)) | (with_reducible refine gK_of_f _ _ _ ?_ ?_ <;> (intro hb; try simp only [decide_eq_true_eq, decide_eq_false_iff_not] at hb)) | (with_reducible refine gK_of_t _ _ _ ?_ ?_ <;> (intro hb; try simp only [decide_eq_true_eq, decide_eq_false_iff_not] at hb)))
    all_goals (refine ends_mk [] ?_ rfl ?_ ?_ ?_ ?_ <;> (try (intro X hX1 hX2; simp only [KeyIn, or_false, not_or, not_false_eq_true] at hX2)) <;> (try simp (disch := omega) only [go_sem, reduceIte, sliceB, AllMods, DistG, KeyIn, setL, news, not_false_eq_true, or_false, not_or, ne_eq, AllAt, AllObs, Dist, NotIn, kap_zero, kap_succ, kap_nil, inv_lt, inv_self, inv_add, ren_int, intsC_ren, and_true, and_self]) <;> (try omega))
  | true =>
    simp only
    by_cases h0 : v < 1
    · rw [if_pos h0]
      refine ⟨Tryz.f91, _, Tryz.func91, rfl, by simp [Tryz.f91], ?_⟩; rw [Tryz.ntmps91]
      repeat' (first | simp (disch := omega) only [go_sem, reduceIte, sliceB, hz, cVZero, hk, Tryz.results91] | (with_reducible refine w_chain0 ?_ ?_; focus (decide +kernel)) | (with_reducible refine condK_of _ _ ?_ ?_ <;> (intro hb; try simp only [decide_eq_true_eq, decide_eq_false_iff_not] at hb)) | (with_reducible refine gdK_of_f _ _ _ _ _ ?_ ?_ <;> (intro hb; try simp only [decide_eq_true_eq, decide_eq_false_iff_not] at hb)) | (with_reducible refine gdK_of_t _ _ _ _ _ ?_ ?_ <;> (intro hb; try simp only [decide_eq_true_eq, decide_eq_false_iff_not] at hb)) | (with_reducible refine gK_of_f _ _ _ ?_ ?_ <;> (intro hb; try simp only [decide_eq_true_eq, decide_eq_false_iff_not] at hb)) | (with_reducible refine gK_of_t _ _ _ ?_ ?_ <;> (intro hb; try simp only [decide_eq_true_eq, decide_eq_false_iff_not] at hb)))
      all_goals (refine ends_mk [] ?_ rfl ?_ ?_ ?_ ?_ <;> (try (intro X hX1 hX2; simp only [KeyIn, or_false, not_or, not_false_eq_true] at hX2)) <;> (try simp (disch := omega) only [go_sem, reduceIte, sliceB, AllMods, DistG, KeyIn, setL, news, not_false_eq_true, or_false, not_or, ne_eq, AllAt, AllObs, Dist, NotIn, kap_zero, kap_succ, kap_nil, inv_lt, inv_self, inv_add, ren_int, intsC_ren, and_true, and_self]) <;> (try omega))
    · rw [if_neg h0]
      by_cases h1 : 4 < v
      · rw [if_pos h1]
        refine ⟨Tryz.f91, _, Tryz.func91, rfl, by simp [Tryz.f91], ?_⟩; rw [Tryz.ntmps91]
        repeat' (first | simp (disch := omega) only [go_sem, reduceIte, sliceB, hz, cVZero, hk, Tryz.results91] | (with_reducible refine w_chain0 ?_ ?_; focus (decide +kernel)) | (with_reducible refine condK_of _ _ ?_ ?_ <;> (intro hb; try simp only [decide_eq_true_eq, decide_eq_false_iff_not] at hb)) | (with_reducible refine gdK_of_f _ _ _ _ _ ?_ ?_ <;> (intro hb; try simp only [decide_eq_true_eq, decide_eq_false_iff_not] at hb)) | (with_reducible refine gdK_of_t _ _ _ _ _ ?_ ?_ <;> (intro hb; try simp only [decide_eq_true_eq, decide_eq_false_iff_not] at hb)) | (with_reducible refine gK_of_f _ _ _ ?_ ?_ <;> (intro hb; try simp only [decide_eq_true_eq, decide_eq_false_iff_not] at hb)) | (with_reducible refine gK_of_t _ _ _ ?_ ?_ <;> (intro hb; try simp only [decide_eq_true_eq, decide_eq_false_iff_not] at hb)))
        all_goals (refine ends_mk [] ?_ rfl ?_ ?_ ?_ ?_ <;> (try (intro X hX1 hX2; simp only [KeyIn, or_false, not_or, not_false_eq_true] at hX2)) <;> (try simp (disch := omega) only [go_sem, reduceIte, sliceB, AllMods, DistG, KeyIn, setL, news, not_false_eq_true, or_false, not_or, ne_eq, AllAt, AllObs, Dist, NotIn, kap_zero, kap_succ, kap_nil, inv_lt, inv_self, inv_add, ren_int, intsC_ren, and_true, and_self]) <;> (try omega))
      · rw [if_neg h1]
        by_cases h2 : b < 0
        · rw [if_pos h2]
          refine ⟨Tryz.f91, _, Tryz.func91, rfl, by simp [Tryz.f91], ?_⟩; rw [Tryz.ntmps91]
          repeat' (first | simp (disch := omega) only [go_sem, reduceIte, sliceB, hz, cVZero, hk, Tryz.results91] | (with_reducible refine w_chain0 ?_ ?_; focus (decide +kernel)) | (with_reducible refine condK_of _ _ ?_ ?_ <;> (intro hb; try simp only [decide_eq_true_eq, decide_eq_false_iff_not] at hb)) | (with_reducible refine gdK_of_f _ _ _ _ _ ?_ ?_ <;> (intro hb; try simp only [decide_eq_true_eq, decide_eq_false_iff_not] at hb)) | (with_reducible refine gdK_of_t _ _ _ _ _ ?_ ?_ <;> (intro hb; try simp only [decide_eq_true_eq, decide_eq_false_iff_not] at hb)) | (with_reducible refine gK_of_f _ _ _ ?_ ?_ <;> (intro hb; try simp only [decide_eq_true_eq, decide_eq_false_iff_not] at hb)) | (with_reducible refine gK_of_t _ _ _ ?_ ?_ <;> (intro hb; try simp only [decide_eq_true_eq, decide_eq_false_iff_not] at hb)))
          all_goals (refine ends_mk [] ?_ rfl ?_ ?_ ?_ ?_ <;> (try (intro X hX1 hX2; simp only [KeyIn, or_false, not_or, not_false_eq_true] at hX2)) <;> (try simp (disch := omega) only [go_sem, reduceIte, sliceB, AllMods, DistG, KeyIn, setL, news, not_false_eq_true, or_false, not_or, ne_eq, AllAt, AllObs, Dist, NotIn, kap_zero, kap_succ, kap_nil, inv_lt, inv_self, inv_add, ren_int, intsC_ren, and_true, and_self]) <;> (try omega))
        · rw [if_neg h2]
          by_cases h3 : 1000 < b
          · rw [if_pos h3]
            refine ⟨Tryz.f91, _, Tryz.func91, rfl, by simp [Tryz.f91], ?_⟩; rw [Tryz.ntmps91]
            repeat' (first | simp (disch := omega) only [go_sem, reduceIte, sliceB, hz, cVZero, hk, Tryz.results91] | (with_reducible refine w_chain0 ?_ ?_; focus (decide +kernel)) | (with_reducible refine condK_of _ _ ?_ ?_ <;> (intro hb; try simp only [decide_eq_true_eq, decide_eq_false_iff_not] at hb)) | (with_reducible refine gdK_of_f _ _ _ _ _ ?_ ?_ <;> (intro hb; try simp only [decide_eq_true_eq, decide_eq_false_iff_not] at hb)) | (with_reducible refine gdK_of_t _ _ _ _ _ ?_ ?_ <;> (intro hb; try simp only [decide_eq_true_eq, decide_eq_false_iff_not] at hb)) | (with_reducible refine gK_of_f _ _ _ ?_ ?_ <;> (intro hb; try simp only [decide_eq_true_eq, decide_eq_false_iff_not] at hb)) | (with_reducible refine gK_of_t _ _ _ ?_ ?_ <;> (intro hb; try simp only [decide_eq_true_eq, decide_eq_false_iff_not] at hb)))
            all_goals (refine ends_mk [] ?_ rfl ?_ ?_ ?_ ?_ <;> (try (intro X hX1 hX2; simp only [KeyIn, or_false, not_or, not_false_eq_true] at hX2)) <;> (try simp (disch := omega) only [go_sem, reduceIte, sliceB, AllMods, DistG, KeyIn, setL, news, not_false_eq_true, or_false, not_or, ne_eq, AllAt, AllObs, Dist, NotIn, kap_zero, kap_succ, kap_nil, inv_lt, inv_self, inv_add, ren_int, intsC_ren, and_true, and_self]) <;> (try omega))
          · rw [if_neg h3]
            by_cases h4 : v = 4
            · subst h4
              rw [if_pos rfl]
              by_cases h5 : k = 3
              · subst h5
                rw [if_pos rfl]
                refine ⟨Tryz.f91, _, Tryz.func91, rfl, by simp [Tryz.f91], ?_⟩; rw [Tryz.ntmps91]
                repeat' (first | simp (disch := omega) only [go_sem, reduceIte, sliceB, hz, cVZero, hk, Tryz.results91] | (with_reducible refine w_chain0 ?_ ?_; focus (decide +kernel)) | (with_reducible refine condK_of _ _ ?_ ?_ <;> (intro hb; try simp only [decide_eq_true_eq, decide_eq_false_iff_not] at hb)) | (with_reducible refine gdK_of_f _ _ _ _ _ ?_ ?_ <;> (intro hb; try simp only [decide_eq_true_eq, decide_eq_false_iff_not] at hb)) | (with_reducible refine gdK_of_t _ _ _ _ _ ?_ ?_ <;> (intro hb; try simp only [decide_eq_true_eq, decide_eq_false_iff_not] at hb)) | (with_reducible refine gK_of_f _ _ _ ?_ ?_ <;> (intro hb; try simp only [decide_eq_true_eq, decide_eq_false_iff_not] at hb)) | (with_reducible refine gK_of_t _ _ _ ?_ ?_ <;> (intro hb; try simp only [decide_eq_true_eq, decide_eq_false_iff_not] at hb)))
                all_goals (refine ends_mk [] ?_ rfl ?_ ?_ ?_ ?_ <;> (try (intro X hX1 hX2; simp only [KeyIn, or_false, not_or, not_false_eq_true] at hX2)) <;> (try simp (disch := omega) only [go_sem, reduceIte, sliceB, AllMods, DistG, KeyIn, setL, news, not_false_eq_true, or_false, not_or, ne_eq, AllAt, AllObs, Dist, NotIn, kap_zero, kap_succ, kap_nil, inv_lt, inv_self, inv_add, ren_int, intsC_ren, and_true, and_self]) <;> (try omega))
              · rw [if_neg h5]
                refine ⟨Tryz.f91, _, Tryz.func91, rfl, by simp [Tryz.f91], ?_⟩; rw [Tryz.ntmps91]
                repeat' (first | simp (disch := omega) only [go_sem, reduceIte, sliceB, hz, cVZero, hk, Tryz.results91] | (with_reducible refine w_chain0 ?_ ?_; focus (decide +kernel)) | (with_reducible refine condK_of _ _ ?_ ?_ <;> (intro hb; try simp only [decide_eq_true_eq, decide_eq_false_iff_not] at hb)) | (with_reducible refine gdK_of_f _ _ _ _ _ ?_ ?_ <;> (intro hb; try simp only [decide_eq_true_eq, decide_eq_false_iff_not] at hb)) | (with_reducible refine gdK_of_t _ _ _ _ _ ?_ ?_ <;> (intro hb; try simp only [decide_eq_true_eq, decide_eq_false_iff_not] at hb)) | (with_reducible refine gK_of_f _ _ _ ?_ ?_ <;> (intro hb; try simp only [decide_eq_true_eq, decide_eq_false_iff_not] at hb)) | (with_reducible refine gK_of_t _ _ _ ?_ ?_ <;> (intro hb; try simp only [decide_eq_true_eq, decide_eq_false_iff_not] at hb)))
                all_goals (refine ends_mk [] ?_ rfl ?_ ?_ ?_ ?_ <;> (try (intro X hX1 hX2; simp only [KeyIn, or_false, not_or, not_false_eq_true] at hX2)) <;> (try simp (disch := omega) only [go_sem, reduceIte, sliceB, AllMods, DistG, KeyIn, setL, news, not_false_eq_true, or_false, not_or, ne_eq, AllAt, AllObs, Dist, NotIn, kap_zero, kap_succ, kap_nil, inv_lt, inv_self, inv_add, ren_int, intsC_ren, and_true, and_self]) <;> (try omega))
            · rw [if_neg h4]
              refine ⟨Tryz.f91, _, Tryz.func91, rfl, by simp [Tryz.f91], ?_⟩; rw [Tryz.ntmps91]
              repeat' (first | simp (disch := omega) only [go_sem, reduceIte, sliceB, hz, cVZero, hk, Tryz.results91] | (with_reducible refine w_chain0 ?_ ?_; focus (decide +kernel)) | (with_reducible refine condK_of _ _ ?_ ?_ <;> (intro hb; try simp only [decide_eq_true_eq, decide_eq_false_iff_not] at hb)) | (with_reducible refine gdK_of_f _ _ _ _ _ ?_ ?_ <;> (intro hb; try simp only [decide_eq_true_eq, decide_eq_false_iff_not] at hb)) | (with_reducible refine gdK_of_t _ _ _ _ _ ?_ ?_ <;> (intro hb; try simp only [decide_eq_true_eq, decide_eq_false_iff_not] at hb)) | (with_reducible refine gK_of_f _ _ _ ?_ ?_ <;> (intro hb; try simp only [decide_eq_true_eq, decide_eq_false_iff_not] at hb)) | (with_reducible refine gK_of_t _ _ _ ?_ ?_ <;> (intro hb; try simp only [decide_eq_true_eq, decide_eq_false_iff_not] at hb)))
              all_goals (refine ends_mk [] ?_ rfl ?_ ?_ ?_ ?_ <;> (try (intro X hX1 hX2; simp only [KeyIn, or_false, not_or, not_false_eq_true] at hX2)) <;> (try simp (disch := omega) only [go_sem, reduceIte, sliceB, AllMods, DistG, KeyIn, setL, news, not_false_eq_true, or_false, not_or, ne_eq, AllAt, AllObs, Dist, NotIn, kap_zero, kap_succ, kap_nil, inv_lt, inv_self, inv_add, ren_int, intsC_ren, and_true, and_self]) <;> (try omega))
end
end Go.Proofs.YtclmjcjaebonnaaGreatDoor
end

/-
  What is told of a call by the very blocks that stand behind it. No program in sight.
-/
section
set_option linter.unusedSimpArgs false
set_option linter.unusedVariables false
namespace Go.Sym
open Go Go.RowKit Go.Viv Go.Eva
section
variable {P : Program} {G : Nat} {W0 : Begin} {ν : Toks} {L : Frm}
/-- Blocks may be forgotten. -/
theorem Rw.less {φ : Phi} {h : Hp} {w : World} (hR : Rw P G W0 ν φ h w) {t : Tr AObj} {n : Nat} (hn : h.next ≤ n) (ht : ∀ X o, X < n → t.at_ X = some o → h.t.at_ X = some o) : Rw P G W0 ν φ ⟨t, n⟩ w := by
  have hlow : ∀ X r, φ X = some r → X < n := fun X r hX => by
    rcases Nat.lt_or_ge X h.next with h' | h'
    · omega
    · rw [hR.fresh X h'] at hX; cases hX
  have hR := hR.more hn
  obtain ⟨fp, q1, q2, q3, q4⟩ := hR.res
  have hs : ∀ X r, φ X = some r → (t.at_ X).isSome = true → t.at_ X = h.t.at_ X := fun X r hr hX => by
    obtain ⟨o, ho⟩ := Option.isSome_iff_exists.1 hX
    rw [ho, ht X o (hlow X r hr) ho]
  have hrs : ∀ X, isRes (t.at_ X) = true → (t.at_ X).isSome = true := fun X hX => by
    obtain ⟨x, hx⟩ := res_at hX
    rw [hx]; rfl
  refine ⟨hR.frame, hR.glob, hR.fresh, hR.bound, fun B r o h1 h2 => hR.obj B r o h1 (ht B o (hlow B r h1) h2), fun B B' r r' h1 h2 h3 h4 h5 h6 h7 => ?_, fp, fun B r x h1 h2 => q1 B r x h1 (ht B _ (hlow B r h1) h2), fun B r k h1 h2 h3 => ?_, fun B B' r r' k h1 h2 h3 h4 h5 h6 => ?_, fun B B' r r' h1 h2 h3 h4 h5 => ?_⟩
  · exact hR.inj B B' r r' (by show (h.t.at_ B).isSome = true; rw [← hs B r h5 h1]; exact h1) (by show (h.t.at_ B').isSome = true; rw [← hs B' r' h6 h2]; exact h2) (by show isRes (h.t.at_ B) = false; rw [← hs B r h5 h1]; exact h3) (by show isRes (h.t.at_ B') = false; rw [← hs B' r' h6 h2]; exact h4) h5 h6 h7
  · exact q2 B r k h1 (by show isRes (h.t.at_ B) = true; rw [← hs B r h1 (hrs B h2)]; exact h2) h3
  · exact q3 B B' r r' k h1 h2 (by show isRes (h.t.at_ B) = true; rw [← hs B r h1 (hrs B h3)]; exact h3) (by show isRes (h.t.at_ B') = true; rw [← hs B' r' h2 (hrs B' h4)]; exact h4) h5 h6
  · exact q4 B B' r r' h1 h2 (by show isRes (h.t.at_ B) = true; rw [← hs B r h1 (hrs B h3)]; exact h3) (by show (h.t.at_ B').isSome = true; rw [← hs B' r' h2 h4]; exact h4) (by show isRes (h.t.at_ B') = false; rw [← hs B' r' h2 h4]; exact h5)
/-- What stands behind a body, by the very numbers of its blocks. -/
structure EndsX (v : Value) (h' : Hp) (u : Value) (h : Hp) : Prop where
  val : Wk u v
  next : h.next ≤ h'.next
  at_ : ∀ X o, X < h'.next → h'.t.at_ X = some o → h.t.at_ X = some o
theorem fun_okX {call : CallB} (hf : P.follows .mixedOrders = true) (hcall : CallOK P G W0 ν call) {g : FuncId} {c : CallS}
    (hb : ∀ args s v h', c args s = some (v, h') → ∀ Lv, Lives s args Lv → G ≤ s.next → s.next ≤ h'.next ∧ ∃ m, wpF P G call g args ⟨s.t, s.next + m⟩ fun u h1 => EndsX v h' u h1) :
    SpecOK P G W0 ν g c := by
  intro args s v h' e φ w args' ha hR hG
  have hlow : ∀ X r, φ X = some r → X < s.next := fun X r h => by
    rcases Nat.lt_or_ge X s.next with h' | h'
    · exact h'
    · rw [hR.fresh X h'] at h; cases h
  have hlv : Lives s args fun X => (φ X).isSome = true := by
    refine ⟨fun X h => VRs.occurs ha h, fun X c e rw hX hc Y hY => ?_, fun X hX => ?_⟩
    · obtain ⟨r, hr⟩ := Option.isSome_iff_exists.1 hX
      have := hR.obj X r _ hr hc
      cases this with | cells g1 g2 g3 g4 => exact VRs.occurs g4 hY
    · obtain ⟨r, hr⟩ := Option.isSome_iff_exists.1 hX
      exact hlow X r hr
  obtain ⟨hle, m, hrun⟩ := hb args s v h' e _ hlv hG
  refine (wpF_sound hf hcall hrun φ w _ ha (hR.more (Nat.le_add_right _ _)) (by show G ≤ s.next + m; omega)).mono ?_
  rintro en w' ⟨u, h1, E, z, rfl, φ2, hz, hR2, hx2, hn2⟩
  exact ⟨z, rfl, φ2, E.val _ _ _ hz, Rw.less hR2 E.next E.at_, fun X hX => hx2 X (by show X < s.next + m; omega), hle⟩
/-- What is told by fewer blocks. -/
theorem spec_less {g : FuncId} {c c' : CallS} (h : SpecOK P G W0 ν g c) (hc : ∀ args s v h', c' args s = some (v, h') → ∃ h0, c args s = some (v, h0) ∧ h0.next ≤ h'.next ∧ ∀ X o, X < h'.next → h'.t.at_ X = some o → h0.t.at_ X = some o) : SpecOK P G W0 ν g c' := by
  intro args s v h' e φ w args' ha hR hG
  obtain ⟨h0, h1, h2, h3⟩ := hc args s v h' e
  refine (h args s v _ h1 φ w args' ha hR hG).mono ?_
  rintro en w' ⟨z, rfl, φ', hz, hR', hx, hn⟩
  exact ⟨z, rfl, φ', hz, Rw.less hR' h2 h3, hx, Nat.le_trans hn h2⟩
/-- One way or another. -/
def orC (a b : CallS) : CallS := fun args s => match a args s with
  | some r => some r
  | none => b args s
theorem spec_or {g : FuncId} {a b : CallS} (h1 : SpecOK P G W0 ν g a) (h2 : SpecOK P G W0 ν g b) : SpecOK P G W0 ν g (orC a b) := by
  intro args s v h' e
  unfold orC at e
  split at e
  · rename_i r hr
    cases e
    exact h1 args s v h' hr
  · exact h2 args s v h' e
end
/-! ### Blocks laid by a function -/
def fillT (t : Tr AObj) (b : Nat) (f : Nat → Option AObj) : Nat → Tr AObj
  | 0 => t
  | n + 1 => (fillT t b f n).set (b + n) (f n)
theorem fillT_in (t : Tr AObj) (b : Nat) (f : Nat → Option AObj) : ∀ {n j : Nat}, j < n → (fillT t b f n).at_ (b + j) = f j
  | 0, j, h => by omega
  | n + 1, j, h => by
    unfold fillT
    by_cases hj : j = n
    · subst hj; exact Tr.at_set_same _ _ _
    · rw [Tr.at_set_ne _ _ (by omega)]
      exact fillT_in t b f (by omega)
theorem fillT_out (t : Tr AObj) (b : Nat) (f : Nat → Option AObj) : ∀ {n X : Nat}, (X < b ∨ b + n ≤ X) → (fillT t b f n).at_ X = t.at_ X
  | 0, X, h => rfl
  | n + 1, X, h => by
    unfold fillT
    rw [Tr.at_set_ne _ _ (by omega)]
    exact fillT_out t b f (by omega)
theorem fillT_get (t : Tr AObj) (b : Nat) (f : Nat → Option AObj) {n X : Nat} (h1 : b ≤ X) (h2 : X < b + n) : (fillT t b f n).at_ X = f (X - b) := by
  have := fillT_in t b f (n := n) (j := X - b) (by omega)
  rwa [show b + (X - b) = X by omega] at this
/-- What holds of each of some blocks, and of those ahead, holds of all. -/
theorem fillT_all {t : Tr AObj} {b n : Nat} {f : Nat → Option AObj} {t1 : Tr AObj} (h1 : ∀ j o, j < n → f j = some o → t1.at_ (b + j) = some o) (h2 : ∀ X o, X < b → t.at_ X = some o → t1.at_ X = some o) : ∀ X o, X < b + n → (fillT t b f n).at_ X = some o → t1.at_ X = some o := by
  intro X o hX h
  rcases Nat.lt_or_ge X b with hb | hb
  · rw [fillT_out t b f (.inl hb)] at h
    exact h2 X o hb h
  · obtain ⟨j, rfl⟩ : ∃ j, X = b + j := ⟨X - b, by omega⟩
    rw [fillT_in t b f (by omega)] at h
    exact h1 j o (by omega) h
theorem endsX_fill {v u : Value} {t : Tr AObj} {b n : Nat} {f : Nat → Option AObj} {h : Hp} (hv : u = v) (hn : h.next ≤ b + n) (h1 : ∀ j o, j < n → f j = some o → h.t.at_ (b + j) = some o) (h2 : ∀ X, X < b → h.t.at_ X = t.at_ X) : EndsX v ⟨fillT t b f n, b + n⟩ u h :=
  ⟨Wk.of hv, hn, fillT_all h1 fun X o hX ho => (h2 X hX).trans ho⟩
theorem endsX_same {v u : Value} {s : Hp} {n : Nat} {h : Hp} (hv : u = v) (hn : h.next ≤ s.next + n) (h2 : ∀ X, X < s.next → h.t.at_ X = s.t.at_ X) : EndsX v ⟨fillT s.t s.next (fun _ => none) n, s.next + n⟩ u h :=
  endsX_fill hv hn (fun j o _ h => by cases h) h2
/-- Pointers at even distances. -/
def ptsF (b d : Nat) : Nat → List Value
  | 0 => []
  | n + 1 => ptsF b d n ++ [pt (b + d * n)]
theorem ptsF_len (b d : Nat) : ∀ n, (ptsF b d n).length = n
  | 0 => rfl
  | n + 1 => by simp [ptsF, ptsF_len b d n]
theorem ptsF_get (b d : Nat) : ∀ {n i : Nat}, i < n → (ptsF b d n)[i]? = some (pt (b + d * i))
  | 0, i, h => by omega
  | n + 1, i, h => by
    unfold ptsF
    by_cases hi : i = n
    · subst hi
      rw [List.getElem?_append_right (by rw [ptsF_len]; exact Nat.le_refl _), ptsF_len]
      simp
    · rw [List.getElem?_append_left (by rw [ptsF_len]; omega)]
      exact ptsF_get b d (by omega)
end Go.Sym
end

/-
  What makes places, what tells readers, slots.
-/
section
set_option linter.unusedSimpArgs false
set_option linter.unusedVariables false
namespace Go.Proofs.YtclmjcjaebonnaaGreatDoor
open Go Go.RowKit Go.Viv Go.Eva Go.Sym
def zHS : HS := ⟨0, 0, Val.zero⟩
theorem hash_new : HashOk (List.replicate 8 zHS) [] 0 0 where
  good := by
    have key : ∀ (a : Nat) (x : HS), (List.replicate 8 zHS)[a]? = some x → x = zHS := fun a x h => by
      rw [List.getElem?_replicate] at h
      split at h
      · exact (Option.some.inj h).symm
      · cases h
    exact ⟨fun a x h => .inl (by rw [key a x h]; rfl), fun a x h hk => (by rw [key a x h] at hk; cases hk), fun a b x y h _ hk => (by rw [key a x h] at hk; cases hk), fun a x h hk => (by rw [key a x h] at hk; cases hk)⟩
  pow := by simp
  get i := by
    have e : isF i zHS = false := by simp [isF, zHS]
    simp [hget, SM.lk_nil, List.replicate, e]
  full := by decide
  left := by decide
  room := by simp
def cFlagNew : Sym.CallS := fun args s => match args with
  | [.int .i64 b] => if 1 ≤ b then (if b ≤ 1000 then some (.tuple ⟨[.pointer (some ⟨s.next, 0, none⟩), .int .i64 0]⟩, ⟨s.t.set s.next (some (.res (.flag ⟨b.toNat, [], []⟩))), s.next + 1⟩) else none) else none
  | _ => none
def cKept : Sym.CallS := fun args s => match args with
  | [.int .i64 v] => some (keptV s.next v, ⟨s.t.set s.next (some (.res (if v = 1 then .place 1 [] else if v = 2 then .place 2 [] else if v = 3 then .place 3 [] else .set []))), s.next + 1⟩)
  | _ => none
section
variable {G : Nat} {ν : Toks} {W : World} {may : Nat → Prop} {call : CallB}
theorem spNew_ok (hc : CallOK Tryz.prog G (LBegin Tryz.prog ν LL W may) ν call) (hh : HibC call) : SpecOK Tryz.prog G (LBegin Tryz.prog ν LL W may) ν 138 (sNewP 2) := by
  refine make_ok rfl (by kernel_rfl) hc fun args s v h' e Lv hlv hG => ?_
  unfold sNewP at e
  split at e <;> try (cases e; done)
  simp only [Option.some.injEq, Prod.mk.injEq] at e
  obtain ⟨rfl, rfl⟩ := e
  refine ⟨_, rfl, ?_⟩
  refine ⟨Tryz.f138, _, Tryz.func138, rfl, by simp [Tryz.f138], ?_⟩; rw [Tryz.ntmps138]
  repeat' (first | simp (disch := omega) only [go_sem, reduceIte, sliceB, hh.new, sNew, Tryz.results138] | (with_reducible refine w_chain0 ?_ ?_; focus (decide +kernel)) | (with_reducible refine condK_of _ _ ?_ ?_ <;> (intro hb; try simp only [decide_eq_true_eq, decide_eq_false_iff_not] at hb)) | (with_reducible refine gdK_of_f _ _ _ _ _ ?_ ?_ <;> (intro hb; try simp only [decide_eq_true_eq, decide_eq_false_iff_not] at hb)) | (with_reducible refine gdK_of_t _ _ _ _ _ ?_ ?_ <;> (intro hb; try simp only [decide_eq_true_eq, decide_eq_false_iff_not] at hb)) | (with_reducible refine gK_of_f _ _ _ ?_ ?_ <;> (intro hb; try simp only [decide_eq_true_eq, decide_eq_false_iff_not] at hb)) | (with_reducible refine gK_of_t _ _ _ ?_ ?_ <;> (intro hb; try simp only [decide_eq_true_eq, decide_eq_false_iff_not] at hb)))
  have hfm : fmAll (.place 2 []) _ _ _ := ⟨SM.Ok.nil, rfl, [], _, _, by simp, by simp, rfl, rfl, rowF_nil⟩
  all_goals (refine makes_mk (L := LL) (s.next + 1) [s.next, s.next + 100] (hfm) rfl ?_ ?_ ?_ ?_ ?_ ?_ <;> (try intro X hX1) <;> (try simp (disch := omega) only [go_sem, reduceIte, sliceB, AllMods, DistG, KeyIn, setL, news, not_false_eq_true, or_false, not_or, ne_eq, AllAt, AllObs, Dist, NotIn, kap_zero, kap_succ, kap_nil, inv_lt, inv_self, inv_add, ren_int, intsC_ren, and_true, and_self, occ, occL, Bool.or_true, Bool.true_or, pt, SM.keys, List.map_nil]) <;> (try omega))
theorem haNew_ok (hc : CallOK Tryz.prog G (LBegin Tryz.prog ν LL W may) ν call) : SpecOK Tryz.prog G (LBegin Tryz.prog ν LL W may) ν 139 (sNewP 3) := by
  refine make_ok rfl (by kernel_rfl) hc fun args s v h' e Lv hlv hG => ?_
  unfold sNewP at e
  split at e <;> try (cases e; done)
  simp only [Option.some.injEq, Prod.mk.injEq] at e
  obtain ⟨rfl, rfl⟩ := e
  refine ⟨_, rfl, ?_⟩
  have hb := apb416
  simp only [Option.map] at hb
  refine ⟨Tryz.f139, _, Tryz.func139, rfl, by simp [Tryz.f139], ?_⟩; rw [Tryz.ntmps139]
  repeat' (first | simp (disch := omega) only [go_sem, reduceIte, sliceB, hb, Tryz.results139] | (with_reducible refine w_chain0 ?_ ?_; focus (decide +kernel)) | (with_reducible refine condK_of _ _ ?_ ?_ <;> (intro hb; try simp only [decide_eq_true_eq, decide_eq_false_iff_not] at hb)) | (with_reducible refine gdK_of_f _ _ _ _ _ ?_ ?_ <;> (intro hb; try simp only [decide_eq_true_eq, decide_eq_false_iff_not] at hb)) | (with_reducible refine gdK_of_t _ _ _ _ _ ?_ ?_ <;> (intro hb; try simp only [decide_eq_true_eq, decide_eq_false_iff_not] at hb)) | (with_reducible refine gK_of_f _ _ _ ?_ ?_ <;> (intro hb; try simp only [decide_eq_true_eq, decide_eq_false_iff_not] at hb)) | (with_reducible refine gK_of_t _ _ _ ?_ ?_ <;> (intro hb; try simp only [decide_eq_true_eq, decide_eq_false_iff_not] at hb)))
  have z0 : ((0 : Nat) : Int) = 0 := rfl
  have hfm : fmAll (.place 3 []) _ _ _ := ⟨SM.Ok.nil, rfl, List.replicate 8 zHS, 0, 0, hash_new, rfl, rfl⟩
  all_goals (refine makes_mk (L := LL) (s.next + 1) [s.next] (hfm) rfl ?_ ?_ ?_ ?_ ?_ ?_ <;> (try intro X hX1) <;> (try simp (disch := omega) only [go_sem, reduceIte, sliceB, AllMods, DistG, KeyIn, setL, news, not_false_eq_true, or_false, not_or, ne_eq, AllAt, AllObs, Dist, NotIn, kap_zero, kap_succ, kap_nil, inv_lt, inv_self, inv_add, ren_int, intsC_ren, and_true, and_self, occ, occL, Bool.or_true, Bool.true_or, z0, rowsC, zHS, HS.cells, Val.zero, List.replicate, List.flatMap_cons, List.flatMap_nil]) <;> (try omega))
theorem flNew_ok (hc : CallOK Tryz.prog G (LBegin Tryz.prog ν LL W may) ν call) : SpecOK Tryz.prog G (LBegin Tryz.prog ν LL W may) ν 93 cFlagNew := by
  refine make_ok rfl (by kernel_rfl) hc fun args s v h' e Lv hlv hG => ?_
  unfold cFlagNew at e
  split at e <;> try (cases e; done)
  rename_i b
  split at e <;> try (cases e; done)
  rename_i h1
  split at e <;> try (cases e; done)
  rename_i h2
  simp only [Option.some.injEq, Prod.mk.injEq] at e
  obtain ⟨rfl, rfl⟩ := e
  obtain ⟨n, rfl⟩ : ∃ n : Nat, b = n := ⟨b.toNat, by omega⟩
  refine ⟨_, rfl, ?_⟩
  refine ⟨Tryz.f93, _, Tryz.func93, rfl, by simp [Tryz.f93], ?_⟩; rw [Tryz.ntmps93]
  repeat' (first | simp (disch := omega) only [go_sem, reduceIte, sliceB, Tryz.results93] | (with_reducible refine w_chain0 ?_ ?_; focus (decide +kernel)) | (with_reducible refine condK_of _ _ ?_ ?_ <;> (intro hb; try simp only [decide_eq_true_eq, decide_eq_false_iff_not] at hb)) | (with_reducible refine gdK_of_f _ _ _ _ _ ?_ ?_ <;> (intro hb; try simp only [decide_eq_true_eq, decide_eq_false_iff_not] at hb)) | (with_reducible refine gdK_of_t _ _ _ _ _ ?_ ?_ <;> (intro hb; try simp only [decide_eq_true_eq, decide_eq_false_iff_not] at hb)) | (with_reducible refine gK_of_f _ _ _ ?_ ?_ <;> (intro hb; try simp only [decide_eq_true_eq, decide_eq_false_iff_not] at hb)) | (with_reducible refine gK_of_t _ _ _ ?_ ?_ <;> (intro hb; try simp only [decide_eq_true_eq, decide_eq_false_iff_not] at hb)))
  have z0 : IntKind.wrap .i64 ((0 : Nat) : Int) = 0 := rfl
  have hfm : fmAll (.flag ⟨n, [], []⟩) _ _ _ := ⟨⟨by simp only; omega, by simp only; omega, by simp, by simp⟩, rfl, _, _, _, _, rfl, rfl, .inl ⟨by simp [Fls.last], rfl, rfl⟩, rowF_nil⟩
  all_goals (refine makes_mk (L := LL) (s.next) [s.next + 100, s.next + 101] (hfm) rfl ?_ ?_ ?_ ?_ ?_ ?_ <;> (try intro X hX1) <;> (try simp (disch := omega) only [go_sem, reduceIte, sliceB, AllMods, DistG, KeyIn, setL, news, not_false_eq_true, or_false, not_or, ne_eq, AllAt, AllObs, Dist, NotIn, kap_zero, kap_succ, kap_nil, inv_lt, inv_self, inv_add, ren_int, intsC_ren, and_true, and_self, occ, occL, Bool.or_true, Bool.true_or, z0, Int.toNat_natCast, List.length_nil]) <;> (try omega))
theorem kept_ok (hc : CallOK Tryz.prog G (LBegin Tryz.prog ν LL W may) ν call) (hh : HibC call) (h1 : ∀ a h, call 137 a h = sNewP 1 a h) (h2 : ∀ a h, call 138 a h = sNewP 2 a h) (h3 : ∀ a h, call 139 a h = sNewP 3 a h) :
    SpecOK Tryz.prog G (LBegin Tryz.prog ν LL W may) ν 92 cKept := by
  refine fun_ok rfl (by kernel_rfl) hc fun args s v h' e Lv hlv hG => ?_
  unfold cKept at e
  split at e <;> try (cases e; done)
  rename_i v0
  simp only [Option.some.injEq, Prod.mk.injEq] at e
  obtain ⟨rfl, rfl⟩ := e
  refine ⟨[], [.res (if v0 = 1 then .place 1 [] else if v0 = 2 then .place 2 [] else if v0 = 3 then .place 3 [] else .set [])], rfl, 0, ?_⟩
  unfold keptV keptT keptX
  by_cases e1 : v0 = 1
  · subst e1
    simp only [reduceIte, Int.reduceEq]
    refine ⟨Tryz.f92, _, Tryz.func92, rfl, by simp [Tryz.f92], ?_⟩; rw [Tryz.ntmps92]
    repeat' (first | simp (disch := omega) only [go_sem, reduceIte, sliceB, h1, sNewP, Tryz.results92] | (with_reducible refine w_chain0 ?_ ?_; focus (decide +kernel)) | (with_reducible refine condK_of _ _ ?_ ?_ <;> (intro hb; try simp only [decide_eq_true_eq, decide_eq_false_iff_not] at hb)) | (with_reducible refine gdK_of_f _ _ _ _ _ ?_ ?_ <;> (intro hb; try simp only [decide_eq_true_eq, decide_eq_false_iff_not] at hb)) | (with_reducible refine gdK_of_t _ _ _ _ _ ?_ ?_ <;> (intro hb; try simp only [decide_eq_true_eq, decide_eq_false_iff_not] at hb)) | (with_reducible refine gK_of_f _ _ _ ?_ ?_ <;> (intro hb; try simp only [decide_eq_true_eq, decide_eq_false_iff_not] at hb)) | (with_reducible refine gK_of_t _ _ _ ?_ ?_ <;> (intro hb; try simp only [decide_eq_true_eq, decide_eq_false_iff_not] at hb)))
    all_goals (refine ends_mk [s.next] ?_ rfl ?_ ?_ ?_ ?_ <;> (try (intro X hX1 hX2; simp only [KeyIn, or_false, not_or, not_false_eq_true] at hX2)) <;> (try simp (disch := omega) only [go_sem, reduceIte, sliceB, AllMods, DistG, KeyIn, setL, news, not_false_eq_true, or_false, not_or, ne_eq, AllAt, AllObs, Dist, NotIn, kap_zero, kap_succ, kap_nil, inv_lt, inv_self, inv_add, ren_int, intsC_ren, and_true, and_self, pt]) <;> (try omega))
  · rw [if_neg e1]
    by_cases e2 : v0 = 2
    · subst e2
      simp only [reduceIte, Int.reduceEq]
      refine ⟨Tryz.f92, _, Tryz.func92, rfl, by simp [Tryz.f92], ?_⟩; rw [Tryz.ntmps92]
      repeat' (first | simp (disch := omega) only [go_sem, reduceIte, sliceB, h2, sNewP, Tryz.results92] | (with_reducible refine w_chain0 ?_ ?_; focus (decide +kernel)) | (with_reducible refine condK_of _ _ ?_ ?_ <;> (intro hb; try simp only [decide_eq_true_eq, decide_eq_false_iff_not] at hb)) | (with_reducible refine gdK_of_f _ _ _ _ _ ?_ ?_ <;> (intro hb; try simp only [decide_eq_true_eq, decide_eq_false_iff_not] at hb)) | (with_reducible refine gdK_of_t _ _ _ _ _ ?_ ?_ <;> (intro hb; try simp only [decide_eq_true_eq, decide_eq_false_iff_not] at hb)) | (with_reducible refine gK_of_f _ _ _ ?_ ?_ <;> (intro hb; try simp only [decide_eq_true_eq, decide_eq_false_iff_not] at hb)) | (with_reducible refine gK_of_t _ _ _ ?_ ?_ <;> (intro hb; try simp only [decide_eq_true_eq, decide_eq_false_iff_not] at hb)))
      all_goals (refine ends_mk [s.next] ?_ rfl ?_ ?_ ?_ ?_ <;> (try (intro X hX1 hX2; simp only [KeyIn, or_false, not_or, not_false_eq_true] at hX2)) <;> (try simp (disch := omega) only [go_sem, reduceIte, sliceB, AllMods, DistG, KeyIn, setL, news, not_false_eq_true, or_false, not_or, ne_eq, AllAt, AllObs, Dist, NotIn, kap_zero, kap_succ, kap_nil, inv_lt, inv_self, inv_add, ren_int, intsC_ren, and_true, and_self, pt]) <;> (try omega))
    · rw [if_neg e2]
      by_cases e3 : v0 = 3
      · subst e3
        simp only [reduceIte, Int.reduceEq]
        refine ⟨Tryz.f92, _, Tryz.func92, rfl, by simp [Tryz.f92], ?_⟩; rw [Tryz.ntmps92]
        repeat' (first | simp (disch := omega) only [go_sem, reduceIte, sliceB, h3, sNewP, Tryz.results92] | (with_reducible refine w_chain0 ?_ ?_; focus (decide +kernel)) | (with_reducible refine condK_of _ _ ?_ ?_ <;> (intro hb; try simp only [decide_eq_true_eq, decide_eq_false_iff_not] at hb)) | (with_reducible refine gdK_of_f _ _ _ _ _ ?_ ?_ <;> (intro hb; try simp only [decide_eq_true_eq, decide_eq_false_iff_not] at hb)) | (with_reducible refine gdK_of_t _ _ _ _ _ ?_ ?_ <;> (intro hb; try simp only [decide_eq_true_eq, decide_eq_false_iff_not] at hb)) | (with_reducible refine gK_of_f _ _ _ ?_ ?_ <;> (intro hb; try simp only [decide_eq_true_eq, decide_eq_false_iff_not] at hb)) | (with_reducible refine gK_of_t _ _ _ ?_ ?_ <;> (intro hb; try simp only [decide_eq_true_eq, decide_eq_false_iff_not] at hb)))
        all_goals (refine ends_mk [s.next] ?_ rfl ?_ ?_ ?_ ?_ <;> (try (intro X hX1 hX2; simp only [KeyIn, or_false, not_or, not_false_eq_true] at hX2)) <;> (try simp (disch := omega) only [go_sem, reduceIte, sliceB, AllMods, DistG, KeyIn, setL, news, not_false_eq_true, or_false, not_or, ne_eq, AllAt, AllObs, Dist, NotIn, kap_zero, kap_succ, kap_nil, inv_lt, inv_self, inv_add, ren_int, intsC_ren, and_true, and_self, pt]) <;> (try omega))
      · rw [if_neg e3]
        simp only [if_neg e1, if_neg e2, if_neg e3]
        refine ⟨Tryz.f92, _, Tryz.func92, rfl, by simp [Tryz.f92], ?_⟩; rw [Tryz.ntmps92]
        repeat' (first | simp (disch := omega) only [go_sem, reduceIte, sliceB, hh.new, sNew, Tryz.results92] | (with_reducible refine w_chain0 ?_ ?_; focus (decide +kernel)) | (with_reducible refine condK_of _ _ ?_ ?_ <;> (intro hb; try simp only [decide_eq_true_eq, decide_eq_false_iff_not] at hb)) | (with_reducible refine gdK_of_f _ _ _ _ _ ?_ ?_ <;> (intro hb; try simp only [decide_eq_true_eq, decide_eq_false_iff_not] at hb)) | (with_reducible refine gdK_of_t _ _ _ _ _ ?_ ?_ <;> (intro hb; try simp only [decide_eq_true_eq, decide_eq_false_iff_not] at hb)) | (with_reducible refine gK_of_f _ _ _ ?_ ?_ <;> (intro hb; try simp only [decide_eq_true_eq, decide_eq_false_iff_not] at hb)) | (with_reducible refine gK_of_t _ _ _ ?_ ?_ <;> (intro hb; try simp only [decide_eq_true_eq, decide_eq_false_iff_not] at hb)))
        all_goals (refine ends_mk [s.next] ?_ rfl ?_ ?_ ?_ ?_ <;> (try (intro X hX1 hX2; simp only [KeyIn, or_false, not_or, not_false_eq_true] at hX2)) <;> (try simp (disch := omega) only [go_sem, reduceIte, sliceB, AllMods, DistG, KeyIn, setL, news, not_false_eq_true, or_false, not_or, ne_eq, AllAt, AllObs, Dist, NotIn, kap_zero, kap_succ, kap_nil, inv_lt, inv_self, inv_add, ren_int, intsC_ren, and_true, and_self, pt]) <;> (try omega))
theorem chkE_ok {k v b : Int} (h : chkE k v b = 0) : okV ⟨k, 0, 0⟩ = true ∧ 1 ≤ v ∧ v ≤ 4 ∧ 0 ≤ b ∧ b ≤ 1000 ∧ (v = 4 → k = 3) := by
  unfold chkE at h
  split at h
  · cases h
  · rename_i hk
    refine ⟨hk, ?_⟩
    repeat' split at h
    all_goals first | cases h; done | (refine ⟨by omega, by omega, by omega, by omega, fun h => ?_⟩ <;> first | assumption | (exfalso; omega) | omega)
theorem okV_k {k : Int} (h : okV ⟨k, 0, 0⟩ = true) : 1 ≤ k ∧ k ≤ 3 := by
  unfold okV at h
  simp only at h
  repeat' split at h
  all_goals first | (cases h; done) | omega
theorem Sls.new_ok {k v b : Int} (h : chkE k v b = 0) : (Sls.new ⟨k, v, b⟩).Ok := by
  obtain ⟨h1, h2, h3, h4, h5, h6⟩ := chkE_ok h
  obtain ⟨k1, k2⟩ := okV_k h1
  refine ⟨⟨k1, k2⟩, ⟨h2, h3⟩, ⟨h4, h5⟩, h6, SM.Ok.nil, fun p hp => (by cases hp), ?_, fun f hf => ?_⟩
  · unfold Sls.new
    simp only
    by_cases hb : 0 < b
    · rw [if_pos hb]; exact ⟨fun h => (by cases h), fun h => (by exfalso; omega)⟩
    · rw [if_neg hb]; exact ⟨fun _ => by omega, fun _ => rfl⟩
  · unfold Sls.new at hf ⊢
    simp only at hf ⊢
    by_cases hb : 0 < b
    · rw [if_pos hb] at hf
      cases hf
      simp only
      omega
    · rw [if_neg hb] at hf; cases hf
theorem kept_R {v : Int} (h1 : 1 ≤ v) (h2 : v ≤ 4) : (if v = 1 then Rs.place 1 [] else if v = 2 then Rs.place 2 [] else if v = 3 then Rs.place 3 [] else Rs.set []) = keptR v [] := by
  unfold keptR
  obtain rfl | rfl | rfl | rfl : v = 1 ∨ v = 2 ∨ v = 3 ∨ v = 4 := by omega
  all_goals rfl
/-- The blocks of a new slot. -/
def slotObs (K : Nat) (x : Sls) : List AObj := .cells (slotC K x) 196 true :: .res (placeR x) :: .res (.set x.l.keys) :: match x.fl with
  | none => []
  | some f => [.res (.flag f)]
def cSlotE : Sym.CallS := fun args s => match args with
  | [.agg ⟨[.int .i64 k, .int .i64 v, .int .i64 b]⟩] => if chkE k v b = 0 then none else some (.tuple ⟨[.pointer none, .int .i64 (chkE k v b)]⟩, s)
  | _ => none
def cSlotN : Sym.CallS := fun args s => match args with
  | [.agg ⟨[.int .i64 k, .int .i64 v, .int .i64 b]⟩] => if chkE k v b = 0 then some (.tuple ⟨[.pointer (some ⟨s.next, 0, none⟩), .int .i64 0]⟩, ⟨news s.t s.next (slotObs s.next (Sls.new ⟨k, v, b⟩)), s.next + (slotObs s.next (Sls.new ⟨k, v, b⟩)).length⟩) else none
  | _ => none
theorem slotE_ok (hc : CallOK Tryz.prog G (LBegin Tryz.prog ν LL W may) ν call) (hk : ∀ a h, call 91 a h = cChk a h) : SpecOK Tryz.prog G (LBegin Tryz.prog ν LL W may) ν 61 cSlotE := by
  refine fun_ok rfl (by kernel_rfl) hc fun args s v h' e Lv hlv hG => ?_
  unfold cSlotE at e
  split at e <;> try (cases e; done)
  rename_i k v b
  split at e <;> try (cases e; done)
  rename_i hne
  simp only [Option.some.injEq, Prod.mk.injEq] at e
  obtain ⟨rfl, rfl⟩ := e
  refine ⟨[], [], rfl, 0, ?_⟩
  generalize hE : chkE k v b = E at *
  refine ⟨Tryz.f61, _, Tryz.func61, rfl, by simp [Tryz.f61], ?_⟩; rw [Tryz.ntmps61]
  repeat' (first | simp (disch := omega) only [go_sem, reduceIte, sliceB, hk, cChk, hE, Tryz.results61] | (with_reducible refine w_chain0 ?_ ?_; focus (decide +kernel)) | (with_reducible refine condK_of _ _ ?_ ?_ <;> (intro hb; try simp only [decide_eq_true_eq, decide_eq_false_iff_not] at hb)) | (with_reducible refine gdK_of_f _ _ _ _ _ ?_ ?_ <;> (intro hb; try simp only [decide_eq_true_eq, decide_eq_false_iff_not] at hb)) | (with_reducible refine gdK_of_t _ _ _ _ _ ?_ ?_ <;> (intro hb; try simp only [decide_eq_true_eq, decide_eq_false_iff_not] at hb)) | (with_reducible refine gK_of_f _ _ _ ?_ ?_ <;> (intro hb; try simp only [decide_eq_true_eq, decide_eq_false_iff_not] at hb)) | (with_reducible refine gK_of_t _ _ _ ?_ ?_ <;> (intro hb; try simp only [decide_eq_true_eq, decide_eq_false_iff_not] at hb)))
  all_goals (refine ends_mk [] ?_ rfl ?_ ?_ ?_ ?_ <;> (try (intro X hX1 hX2; simp only [KeyIn, or_false, not_or, not_false_eq_true] at hX2)) <;> (try simp (disch := omega) only [go_sem, reduceIte, sliceB, AllMods, DistG, KeyIn, setL, news, not_false_eq_true, or_false, not_or, ne_eq, AllAt, AllObs, Dist, NotIn, kap_zero, kap_succ, kap_nil, inv_lt, inv_self, inv_add, ren_int, intsC_ren, and_true, and_self]) <;> (try omega))
theorem slotN_ok (hc : CallOK Tryz.prog G (LBegin Tryz.prog ν LL W may) ν call) (hh : HibC call) (hk : ∀ a h, call 91 a h = cChk a h) (h1 : ∀ a h, call 92 a h = cKept a h) (h2 : ∀ a h, call 93 a h = cFlagNew a h) : SpecOK Tryz.prog G (LBegin Tryz.prog ν LL W may) ν 61 cSlotN := by
  refine fun_ok rfl (by kernel_rfl) hc fun args s v h' e Lv hlv hG => ?_
  unfold cSlotN at e
  split at e <;> try (cases e; done)
  rename_i k v b
  split at e <;> try (cases e; done)
  rename_i hE
  simp only [Option.some.injEq, Prod.mk.injEq] at e
  obtain ⟨rfl, rfl⟩ := e
  refine ⟨[], slotObs s.next (Sls.new ⟨k, v, b⟩), rfl, 0, ?_⟩
  obtain ⟨_, v1, v2, b1, b2, _⟩ := chkE_ok hE
  have hq : veq (.agg ⟨[.int .i64 k, .int .i64 v, .int .i64 b]⟩) (.agg ⟨[.int .i64 k, .int .i64 v, .int .i64 b]⟩) = true := by simp [veq, veqL]
  have hr := kept_R v1 v2
  by_cases hb : 0 < b
  · have hb1 : 1 ≤ b := by omega
    unfold slotObs Sls.new
    simp only [if_pos hb]
    refine ⟨Tryz.f61, _, Tryz.func61, rfl, by simp [Tryz.f61], ?_⟩; rw [Tryz.ntmps61]
    repeat' (first | simp (disch := omega) only [go_sem, reduceIte, sliceB, hk, cChk, hE, Tryz.results61] | (with_reducible refine w_chain0 ?_ ?_; focus (decide +kernel)) | (with_reducible refine condK_of _ _ ?_ ?_ <;> (intro hb; try simp only [decide_eq_true_eq, decide_eq_false_iff_not] at hb)) | (with_reducible refine gdK_of_f _ _ _ _ _ ?_ ?_ <;> (intro hb; try simp only [decide_eq_true_eq, decide_eq_false_iff_not] at hb)) | (with_reducible refine gdK_of_t _ _ _ _ _ ?_ ?_ <;> (intro hb; try simp only [decide_eq_true_eq, decide_eq_false_iff_not] at hb)) | (with_reducible refine gK_of_f _ _ _ ?_ ?_ <;> (intro hb; try simp only [decide_eq_true_eq, decide_eq_false_iff_not] at hb)) | (with_reducible refine gK_of_t _ _ _ ?_ ?_ <;> (intro hb; try simp only [decide_eq_true_eq, decide_eq_false_iff_not] at hb)))
    refine w_plan [(0, []), (1, []), (3, []), (2, [3]), (4, [3]), (5, []), (6, []), (7, [])] 8 8 (by decide +kernel) ?_
    repeat' (first | simp (disch := omega) only [go_sem, reduceIte, sliceB, hk, cChk, hE, h1, cKept, keptV, hq, hr, h2, cFlagNew, if_pos hb1, if_pos b2, hh.new, sNew, Tryz.results61] | (with_reducible refine w_chain0 ?_ ?_; focus (decide +kernel)) | (with_reducible refine condK_of _ _ ?_ ?_ <;> (intro hb; try simp only [decide_eq_true_eq, decide_eq_false_iff_not] at hb)) | (with_reducible refine gdK_of_f _ _ _ _ _ ?_ ?_ <;> (intro hb; try simp only [decide_eq_true_eq, decide_eq_false_iff_not] at hb)) | (with_reducible refine gdK_of_t _ _ _ _ _ ?_ ?_ <;> (intro hb; try simp only [decide_eq_true_eq, decide_eq_false_iff_not] at hb)) | (with_reducible refine gK_of_f _ _ _ ?_ ?_ <;> (intro hb; try simp only [decide_eq_true_eq, decide_eq_false_iff_not] at hb)) | (with_reducible refine gK_of_t _ _ _ ?_ ?_ <;> (intro hb; try simp only [decide_eq_true_eq, decide_eq_false_iff_not] at hb)))
    all_goals (refine ends_mk [s.next + 1 + 6, s.next + 1 + 8, s.next + 1 + 8 + 1, s.next + 1 + 8 + 1 + 1] ?_ rfl ?_ ?_ ?_ ?_ <;> (try (intro X hX1 hX2; simp only [KeyIn, or_false, not_or, not_false_eq_true] at hX2)) <;> (try simp (disch := omega) only [go_sem, reduceIte, sliceB, AllMods, DistG, KeyIn, setL, news, not_false_eq_true, or_false, not_or, ne_eq, AllAt, AllObs, Dist, NotIn, kap_zero, kap_succ, kap_nil, inv_lt, inv_self, inv_add, ren_int, intsC_ren, and_true, and_self, slotC, placeV, keptV, keptX_ren, pt, placeR, flagV, SM.keys, List.map_nil]) <;> (try omega))
  · unfold slotObs Sls.new
    simp only [if_neg hb]
    refine ⟨Tryz.f61, _, Tryz.func61, rfl, by simp [Tryz.f61], ?_⟩; rw [Tryz.ntmps61]
    repeat' (first | simp (disch := omega) only [go_sem, reduceIte, sliceB, hk, cChk, hE, Tryz.results61] | (with_reducible refine w_chain0 ?_ ?_; focus (decide +kernel)) | (with_reducible refine condK_of _ _ ?_ ?_ <;> (intro hb; try simp only [decide_eq_true_eq, decide_eq_false_iff_not] at hb)) | (with_reducible refine gdK_of_f _ _ _ _ _ ?_ ?_ <;> (intro hb; try simp only [decide_eq_true_eq, decide_eq_false_iff_not] at hb)) | (with_reducible refine gdK_of_t _ _ _ _ _ ?_ ?_ <;> (intro hb; try simp only [decide_eq_true_eq, decide_eq_false_iff_not] at hb)) | (with_reducible refine gK_of_f _ _ _ ?_ ?_ <;> (intro hb; try simp only [decide_eq_true_eq, decide_eq_false_iff_not] at hb)) | (with_reducible refine gK_of_t _ _ _ ?_ ?_ <;> (intro hb; try simp only [decide_eq_true_eq, decide_eq_false_iff_not] at hb)))
    refine w_plan [(0, []), (1, []), (3, []), (2, [3]), (4, [3]), (5, []), (6, []), (7, [])] 8 8 (by decide +kernel) ?_
    repeat' (first | simp (disch := omega) only [go_sem, reduceIte, sliceB, hk, cChk, hE, h1, cKept, keptV, hq, hr, hh.new, sNew, Tryz.results61] | (with_reducible refine w_chain0 ?_ ?_; focus (decide +kernel)) | (with_reducible refine condK_of _ _ ?_ ?_ <;> (intro hb; try simp only [decide_eq_true_eq, decide_eq_false_iff_not] at hb)) | (with_reducible refine gdK_of_f _ _ _ _ _ ?_ ?_ <;> (intro hb; try simp only [decide_eq_true_eq, decide_eq_false_iff_not] at hb)) | (with_reducible refine gdK_of_t _ _ _ _ _ ?_ ?_ <;> (intro hb; try simp only [decide_eq_true_eq, decide_eq_false_iff_not] at hb)) | (with_reducible refine gK_of_f _ _ _ ?_ ?_ <;> (intro hb; try simp only [decide_eq_true_eq, decide_eq_false_iff_not] at hb)) | (with_reducible refine gK_of_t _ _ _ ?_ ?_ <;> (intro hb; try simp only [decide_eq_true_eq, decide_eq_false_iff_not] at hb)))
    all_goals (refine ends_mk [s.next + 1 + 6, s.next + 1 + 8, s.next + 1 + 8 + 1] ?_ rfl ?_ ?_ ?_ ?_ <;> (try (intro X hX1 hX2; simp only [KeyIn, or_false, not_or, not_false_eq_true] at hX2)) <;> (try simp (disch := omega) only [go_sem, reduceIte, sliceB, AllMods, DistG, KeyIn, setL, news, not_false_eq_true, or_false, not_or, ne_eq, AllAt, AllObs, Dist, NotIn, kap_zero, kap_succ, kap_nil, inv_lt, inv_self, inv_add, ren_int, intsC_ren, and_true, and_self, slotC, placeV, keptV, keptX_ren, pt, placeR, flagV, SM.keys, List.map_nil]) <;> (try omega))
/-- A new slot's four blocks. -/
def slotF (K : Nat) (x : Sls) : Nat → Option AObj
  | 0 => some (.cells (slotC K x) 196 true)
  | 1 => some (.res (placeR x))
  | 2 => some (.res (.set x.l.keys))
  | 3 => x.fl.map fun f => .res (.flag f)
  | _ => none
def cSlot : Sym.CallS := fun args s => match args with
  | [.agg ⟨[.int .i64 k, .int .i64 v, .int .i64 b]⟩] => if chkE k v b = 0 then some (.tuple ⟨[.pointer (some ⟨s.next, 0, none⟩), .int .i64 0]⟩, ⟨fillT s.t s.next (slotF s.next (Sls.new ⟨k, v, b⟩)) 4, s.next + 4⟩) else some (.tuple ⟨[.pointer none, .int .i64 (chkE k v b)]⟩, s)
  | _ => none
theorem slotNew_ok (hc : CallOK Tryz.prog G (LBegin Tryz.prog ν LL W may) ν call) (hh : HibC call) (hk : ∀ a h, call 91 a h = cChk a h) (h1 : ∀ a h, call 92 a h = cKept a h) (h2 : ∀ a h, call 93 a h = cFlagNew a h) : SpecOK Tryz.prog G (LBegin Tryz.prog ν LL W may) ν 61 cSlot := by
  refine spec_less (spec_or (slotE_ok hc hk) (slotN_ok hc hh hk h1 h2)) fun args s v h' e => ?_
  unfold cSlot at e
  split at e <;> try (cases e; done)
  rename_i k v0 b
  unfold orC cSlotE cSlotN
  simp only
  split at e
  · rename_i h0
    simp only [Option.some.injEq, Prod.mk.injEq] at e
    obtain ⟨rfl, rfl⟩ := e
    simp only [if_pos h0]
    refine ⟨_, rfl, ?_, ?_⟩
    · unfold slotObs
      cases (Sls.new ⟨k, v0, b⟩).fl <;> simp
    · refine fillT_all (fun j o hj ho => ?_) (fun X o hX ho => ?_)
      · have hn : ∀ ob, (slotObs s.next (Sls.new ⟨k, v0, b⟩))[j]? = some ob → (news s.t s.next (slotObs s.next (Sls.new ⟨k, v0, b⟩))).at_ (s.next + j) = some ob := fun ob h => news_in _ _ _ _ _ h
        apply hn
        unfold slotObs
        rcases j with _ | _ | _ | _ | j <;> simp only [slotF] at ho <;> try omega
        all_goals try (exact ho)
        cases hf : (Sls.new ⟨k, v0, b⟩).fl with
        | none => rw [hf] at ho; cases ho
        | some f => rw [hf] at ho; exact ho
      · rw [news_out]
        · exact ho
        · unfold slotObs
          cases (Sls.new ⟨k, v0, b⟩).fl <;> simp <;> omega
  · rename_i h0
    simp only [Option.some.injEq, Prod.mk.injEq] at e
    obtain ⟨rfl, rfl⟩ := e
    simp only [if_neg h0]
    exact ⟨_, rfl, Nat.le_refl _, fun X o _ h => h⟩
end
end Go.Proofs.YtclmjcjaebonnaaGreatDoor
end

/-
  Package alloc over the tree of blocks: State.
-/
section
set_option linter.unusedSimpArgs false
set_option linter.unusedVariables false
namespace Go.Proofs.YtclmjcjaebonnaaGreatDoor
open Go Go.RowKit Go.Viv Go.Eva Go.Sym
def mState : Meth := fun _ x ar => match x, ar with
  | .alloc a, [.agg ⟨[.int .i64 i, .int .i64 g]⟩] => some (.int .i64 (a.of ⟨i, g⟩), .alloc a, [])
  | _, _ => none
theorem has_idx {a : Als} {i : Int} {s : Nat} (h1 : 0 ≤ i) (h2 : i.toNat < a.st.length) : hasZ i (a.idx s) = decide (a.stAt i.toNat = s) := by
  rw [hasZ_eq, decide_eq_true h1, Bool.true_and]
  exact decide_eq_decide.2 (by rw [Als.mem_idx]; exact ⟨fun h => h.2, fun h => ⟨h2, h⟩⟩)
section
variable {G : Nat} {ν : Toks} {W : World} {may : Nat → Prop} {call : CallB}
theorem state_ok (hc : CallOK Tryz.prog G (LBegin Tryz.prog ν LL W may) ν call) (hh : HibC call) : SpecOK Tryz.prog G (LBegin Tryz.prog ν LL W may) ν 109 (cMeth mState) := by
  refine meth_ok rfl (by kernel_rfl) hc fun s B x ar v x' obs e hat hB hG => ?_
  unfold mState at e
  split at e <;> try (cases e; done)
  rename_i a i g
  simp only [Option.some.injEq, Prod.mk.injEq] at e
  obtain ⟨rfl, rfl, rfl⟩ := e
  refine ⟨fun _ _ _ h => h, fun oc ty ps hfm => ?_⟩
  obtain ⟨hok, r, rfl, rfl, rfl⟩ := hfm
  have hl := hok.len
  refine ⟨Tryz.f109, _, Tryz.func109, rfl, by simp [Tryz.f109], ?_⟩; rw [Tryz.ntmps109]
  have e1 : ∀ c, 0 ≤ i → i < a.st.length → hasZ i (a.idx c) = decide (a.stAt i.toNat = c) := fun c h1 h2 => has_idx h1 (by omega)
  repeat' (first | simp (disch := omega) only [go_sem, reduceIte, sliceB, intsC_ren, intsC_get, hh.has, tHas, Tryz.results109, e1] | (with_reducible refine w_chain0 ?_ ?_; focus (decide +kernel)) | (with_reducible refine condK_of _ _ ?_ ?_ <;> (intro hb; try simp only [decide_eq_true_eq, decide_eq_false_iff_not] at hb)) | (with_reducible refine gdK_of_f _ _ _ _ _ ?_ ?_ <;> (intro hb; try simp only [decide_eq_true_eq, decide_eq_false_iff_not] at hb)) | (with_reducible refine gdK_of_t _ _ _ _ _ ?_ ?_ <;> (intro hb; try simp only [decide_eq_true_eq, decide_eq_false_iff_not] at hb)) | (with_reducible refine gK_of_f _ _ _ ?_ ?_ <;> (intro hb; try simp only [decide_eq_true_eq, decide_eq_false_iff_not] at hb)) | (with_reducible refine gK_of_t _ _ _ ?_ ?_ <;> (intro hb; try simp only [decide_eq_true_eq, decide_eq_false_iff_not] at hb)))
  all_goals (refine closes_mk (L := LL) [s.next + 1, s.next + 2, s.next + 3, s.next + 4] [] (⟨hok, r, rfl, rfl, rfl⟩) rfl ?_ ?_ ?_ ?_ rfl ?_ ?_ <;> (try intro X hX1 hX2) <;> (try simp (disch := omega) only [go_sem, reduceIte, sliceB, AllMods, DistG, KeyIn, setL, news, not_false_eq_true, or_false, not_or, ne_eq, AllAt, AllObs, Dist, NotIn, kap_zero, kap_succ, kap_nil, inv_lt, inv_self, inv_add, ren_int, intsC_ren, and_true, and_self]) <;> (try omega))
  all_goals (simp_all [Als.of, Als.genAt]; try (split <;> first | omega | rfl))
end
end Go.Proofs.YtclmjcjaebonnaaGreatDoor
end
