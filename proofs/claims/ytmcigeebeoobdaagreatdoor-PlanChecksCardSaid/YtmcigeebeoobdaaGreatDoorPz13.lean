/-
  Several texts in one. What is told of a call by the very blocks that stand behind it. No program in sight.
-/
import Derived.Test.YtmcigeebeoobdaaGreatDoorPz12
import Derived.Test.YtmcigeebeoobdaaGreatDoorPz00
section
set_option linter.unusedSimpArgs false
set_option linter.unusedVariables false
namespace Go.Sym
open Go Go.RowKit Go.Viv Go.Eva
section
variable {P : Program} {G : Nat} {W0 : Begin} {ν : Toks} {L : Frm}
/-- Blocks may be forgotten. -/
theorem Rw.less {φ : Phi} {h : Hp} {w : World} (hR : Rw P G W0 ν φ h w) {t : Tr AObj} {n : Nat} (hn : h.next ≤ n) (ht : ∀ X o, X < n → t.at_ X = some o → h.t.at_ X = some o) : Rw P G W0 ν φ ⟨t, n⟩ w := by
  have hlow : ∀ X r, φ X = some r → X < n := fun X r hX => by
    rcases Nat.lt_or_ge X h.next with h' | h'
    · omega
    · rw [hR.fresh X h'] at hX; cases hX
  have hR := hR.more hn
  obtain ⟨fp, q1, q2, q3, q4⟩ := hR.res
  have hs : ∀ X r, φ X = some r → (t.at_ X).isSome = true → t.at_ X = h.t.at_ X := fun X r hr hX => by
    obtain ⟨o, ho⟩ := Option.isSome_iff_exists.1 hX
    rw [ho, ht X o (hlow X r hr) ho]
  have hrs : ∀ X, isRes (t.at_ X) = true → (t.at_ X).isSome = true := fun X hX => by
    obtain ⟨x, hx⟩ := res_at hX
    rw [hx]; rfl
  refine ⟨hR.frame, hR.glob, hR.fresh, hR.bound, fun B r o h1 h2 => hR.obj B r o h1 (ht B o (hlow B r h1) h2), fun B B' r r' h1 h2 h3 h4 h5 h6 h7 => ?_, fp, fun B r x h1 h2 => q1 B r x h1 (ht B _ (hlow B r h1) h2), fun B r k h1 h2 h3 => ?_, fun B B' r r' k h1 h2 h3 h4 h5 h6 => ?_, fun B B' r r' h1 h2 h3 h4 h5 => ?_⟩
  · exact hR.inj B B' r r' (by show (h.t.at_ B).isSome = true; rw [← hs B r h5 h1]; exact h1) (by show (h.t.at_ B').isSome = true; rw [← hs B' r' h6 h2]; exact h2) (by show isRes (h.t.at_ B) = false; rw [← hs B r h5 h1]; exact h3) (by show isRes (h.t.at_ B') = false; rw [← hs B' r' h6 h2]; exact h4) h5 h6 h7
  · exact q2 B r k h1 (by show isRes (h.t.at_ B) = true; rw [← hs B r h1 (hrs B h2)]; exact h2) h3
  · exact q3 B B' r r' k h1 h2 (by show isRes (h.t.at_ B) = true; rw [← hs B r h1 (hrs B h3)]; exact h3) (by show isRes (h.t.at_ B') = true; rw [← hs B' r' h2 (hrs B' h4)]; exact h4) h5 h6
  · exact q4 B B' r r' h1 h2 (by show isRes (h.t.at_ B) = true; rw [← hs B r h1 (hrs B h3)]; exact h3) (by show (h.t.at_ B').isSome = true; rw [← hs B' r' h2 h4]; exact h4) (by show isRes (h.t.at_ B') = false; rw [← hs B' r' h2 h4]; exact h5)
/-- What stands behind a body, by the very numbers of its blocks. -/
structure EndsX (v : Value) (h' : Hp) (u : Value) (h : Hp) : Prop where
  val : Wk u v
  next : h.next ≤ h'.next
  at_ : ∀ X o, X < h'.next → h'.t.at_ X = some o → h.t.at_ X = some o
theorem fun_okX {call : CallB} (hf : P.follows .mixedOrders = true) (hcall : CallOK P G W0 ν call) {g : FuncId} {c : CallS}
    (hb : ∀ args s v h', c args s = some (v, h') → ∀ Lv, Lives s args Lv → G ≤ s.next → s.next ≤ h'.next ∧ ∃ m, wpF P G call g args ⟨s.t, s.next + m⟩ fun u h1 => EndsX v h' u h1) :
    SpecOK P G W0 ν g c := by
  intro args s v h' e φ w args' ha hR hG
  have hlow : ∀ X r, φ X = some r → X < s.next := fun X r h => by
    rcases Nat.lt_or_ge X s.next with h' | h'
    · exact h'
    · rw [hR.fresh X h'] at h; cases h
  have hlv : Lives s args fun X => (φ X).isSome = true := by
    refine ⟨fun X h => VRs.occurs ha h, fun X c e rw hX hc Y hY => ?_, fun X hX => ?_⟩
    · obtain ⟨r, hr⟩ := Option.isSome_iff_exists.1 hX
      have := hR.obj X r _ hr hc
      cases this with | cells g1 g2 g3 g4 => exact VRs.occurs g4 hY
    · obtain ⟨r, hr⟩ := Option.isSome_iff_exists.1 hX
      exact hlow X r hr
  obtain ⟨hle, m, hrun⟩ := hb args s v h' e _ hlv hG
  refine (wpF_sound hf hcall hrun φ w _ ha (hR.more (Nat.le_add_right _ _)) (by show G ≤ s.next + m; omega)).mono ?_
  rintro en w' ⟨u, h1, E, z, rfl, φ2, hz, hR2, hx2, hn2⟩
  exact ⟨z, rfl, φ2, E.val _ _ _ hz, Rw.less hR2 E.next E.at_, fun X hX => hx2 X (by show X < s.next + m; omega), hle⟩
/-- What is told by fewer blocks. -/
theorem spec_less {g : FuncId} {c c' : CallS} (h : SpecOK P G W0 ν g c) (hc : ∀ args s v h', c' args s = some (v, h') → ∃ h0, c args s = some (v, h0) ∧ h0.next ≤ h'.next ∧ ∀ X o, X < h'.next → h'.t.at_ X = some o → h0.t.at_ X = some o) : SpecOK P G W0 ν g c' := by
  intro args s v h' e φ w args' ha hR hG
  obtain ⟨h0, h1, h2, h3⟩ := hc args s v h' e
  refine (h args s v _ h1 φ w args' ha hR hG).mono ?_
  rintro en w' ⟨z, rfl, φ', hz, hR', hx, hn⟩
  exact ⟨z, rfl, φ', hz, Rw.less hR' h2 h3, hx, Nat.le_trans hn h2⟩
/-- One way or another. -/
def orC (a b : CallS) : CallS := fun args s => match a args s with
  | some r => some r
  | none => b args s
theorem spec_or {g : FuncId} {a b : CallS} (h1 : SpecOK P G W0 ν g a) (h2 : SpecOK P G W0 ν g b) : SpecOK P G W0 ν g (orC a b) := by
  intro args s v h' e
  unfold orC at e
  split at e
  · rename_i r hr
    cases e
    exact h1 args s v h' hr
  · exact h2 args s v h' e
end
/-! ### Blocks laid by a function -/
def fillT (t : Tr AObj) (b : Nat) (f : Nat → Option AObj) : Nat → Tr AObj
  | 0 => t
  | n + 1 => (fillT t b f n).set (b + n) (f n)
theorem fillT_in (t : Tr AObj) (b : Nat) (f : Nat → Option AObj) : ∀ {n j : Nat}, j < n → (fillT t b f n).at_ (b + j) = f j
  | 0, j, h => by omega
  | n + 1, j, h => by
    unfold fillT
    by_cases hj : j = n
    · subst hj; exact Tr.at_set_same _ _ _
    · rw [Tr.at_set_ne _ _ (by omega)]
      exact fillT_in t b f (by omega)
theorem fillT_out (t : Tr AObj) (b : Nat) (f : Nat → Option AObj) : ∀ {n X : Nat}, (X < b ∨ b + n ≤ X) → (fillT t b f n).at_ X = t.at_ X
  | 0, X, h => rfl
  | n + 1, X, h => by
    unfold fillT
    rw [Tr.at_set_ne _ _ (by omega)]
    exact fillT_out t b f (by omega)
theorem fillT_get (t : Tr AObj) (b : Nat) (f : Nat → Option AObj) {n X : Nat} (h1 : b ≤ X) (h2 : X < b + n) : (fillT t b f n).at_ X = f (X - b) := by
  have := fillT_in t b f (n := n) (j := X - b) (by omega)
  rwa [show b + (X - b) = X by omega] at this
/-- What holds of each of some blocks, and of those ahead, holds of all. -/
theorem fillT_all {t : Tr AObj} {b n : Nat} {f : Nat → Option AObj} {t1 : Tr AObj} (h1 : ∀ j o, j < n → f j = some o → t1.at_ (b + j) = some o) (h2 : ∀ X o, X < b → t.at_ X = some o → t1.at_ X = some o) : ∀ X o, X < b + n → (fillT t b f n).at_ X = some o → t1.at_ X = some o := by
  intro X o hX h
  rcases Nat.lt_or_ge X b with hb | hb
  · rw [fillT_out t b f (.inl hb)] at h
    exact h2 X o hb h
  · obtain ⟨j, rfl⟩ : ∃ j, X = b + j := ⟨X - b, by omega⟩
    rw [fillT_in t b f (by omega)] at h
    exact h1 j o (by omega) h
theorem endsX_fill {v u : Value} {t : Tr AObj} {b n : Nat} {f : Nat → Option AObj} {h : Hp} (hv : u = v) (hn : h.next ≤ b + n) (h1 : ∀ j o, j < n → f j = some o → h.t.at_ (b + j) = some o) (h2 : ∀ X, X < b → h.t.at_ X = t.at_ X) : EndsX v ⟨fillT t b f n, b + n⟩ u h :=
  ⟨Wk.of hv, hn, fillT_all h1 fun X o hX ho => (h2 X hX).trans ho⟩
theorem endsX_same {v u : Value} {s : Hp} {n : Nat} {h : Hp} (hv : u = v) (hn : h.next ≤ s.next + n) (h2 : ∀ X, X < s.next → h.t.at_ X = s.t.at_ X) : EndsX v ⟨fillT s.t s.next (fun _ => none) n, s.next + n⟩ u h :=
  endsX_fill hv hn (fun j o _ h => by cases h) h2
/-- Pointers at even distances. -/
def ptsF (b d : Nat) : Nat → List Value
  | 0 => []
  | n + 1 => ptsF b d n ++ [pt (b + d * n)]
theorem ptsF_len (b d : Nat) : ∀ n, (ptsF b d n).length = n
  | 0 => rfl
  | n + 1 => by simp [ptsF, ptsF_len b d n]
theorem ptsF_get (b d : Nat) : ∀ {n i : Nat}, i < n → (ptsF b d n)[i]? = some (pt (b + d * i))
  | 0, i, h => by omega
  | n + 1, i, h => by
    unfold ptsF
    by_cases hi : i = n
    · subst hi
      rw [List.getElem?_append_right (by rw [ptsF_len]; exact Nat.le_refl _), ptsF_len]
      simp
    · rw [List.getElem?_append_left (by rw [ptsF_len]; omega)]
      exact ptsF_get b d (by omega)
end Go.Sym
end

/-
  Rows cloned.
-/
section
set_option linter.unusedSimpArgs false
set_option linter.unusedVariables false
namespace Go.Sym
open Go Go.RowKit Go.Viv Go.Eva
theorem wk_emp (B o c : Nat) : Wk (.slice (some ⟨B, o, none⟩) 0 (c + 1)) (.slice none 0 1) := fun ν φ z hz => by
  cases hz with
  | slk h hn => exact .emp _ _
/-- The cells of a row of n elements of k cells, in whatever block it lies. -/
def rowB (t : Tr AObj) (k : Nat) : Value → Option (List Value)
  | .slice none 0 0 => some []
  | .slice none 0 1 => some []
  | .slice (some ⟨B, o, none⟩) n _ => match t.at_ B with
    | some (.cells cs _ _) => readCells cs o (n * k)
    | _ => none
  | _ => none
def lenN : Value → Nat
  | .slice _ n _ => n
  | _ => 0
/-- What a clone of a row is: nil, an empty one, or a new one. -/
def cloneV (s : Hp) : Value → Value
  | .slice none 0 0 => .slice none 0 0
  | .slice none 0 1 => .slice none 0 1
  | .slice (some _) 0 _ => .slice none 0 1
  | .slice (some _) (n + 1) _ => .slice (some ⟨s.next + 1, 0, none⟩) (n + 1) 0
  | v => v
def cloneF (e : TypeId) (vs : List Value) : Nat → Option AObj
  | 1 => if vs = [] then none else some (.cells vs e true)
  | _ => none
/-- A row cloned: k cells to an element. -/
def cClone (e : TypeId) (k : Nat) : CallS := fun args s => match args with
  | [v] => match rowB s.t k v with
    | some vs => if lenN v ≤ 1000000 ∧ vs.all oneB = true ∧ vs.length = lenN v * k then some (cloneV s v, ⟨fillT s.t s.next (cloneF e vs) 2, s.next + 2⟩) else none
    | none => none
  | _ => none
def intsL : List Value → Option (List Int)
  | [] => some []
  | .int .i64 a :: l => (intsL l).map (a :: ·)
  | _ => none
theorem intsL_eq : ∀ {vs : List Value} {l : List Int}, intsL vs = some l → vs = intsC l
  | [], l, h => by simp [intsL] at h; subst h; rfl
  | v :: vs, l, h => by
    unfold intsL at h
    split at h <;> try (cases h; done)
    · rename_i e; cases e
    · rename_i a l' e
      cases e
      obtain ⟨m, h1, rfl⟩ := Option.map_eq_some_iff.1 h
      rw [intsL_eq h1]; rfl
theorem intsL_of : ∀ l : List Int, intsL (intsC l) = some l
  | [] => rfl
  | a :: l => by
    show (intsL (intsC l)).map (a :: ·) = _
    rw [intsL_of l]; rfl
theorem intsC_one : ∀ l : List Int, (intsC l).all oneB = true
  | [] => rfl
  | a :: l => by
    show (oneB (.int .i64 a) && (intsC l).all oneB) = true
    rw [intsC_one l]; rfl
def dscsL : List Value → Option (List Dsc)
  | [] => some []
  | .int .i64 a :: .int .i64 b :: .int .i64 c :: l => (dscsL l).map (⟨a, b, c⟩ :: ·)
  | _ => none
theorem dscsL_eq : ∀ {vs : List Value} {l : List Dsc}, dscsL vs = some l → vs = rowsC Dsc.cells l
  | [], l, h => by simp [dscsL] at h; subst h; rfl
  | v :: vs, l, h => by
    unfold dscsL at h
    split at h <;> try (cases h; done)
    · rename_i e; cases e
    · rename_i a b c l' e
      cases e
      obtain ⟨m, h1, rfl⟩ := Option.map_eq_some_iff.1 h
      rw [dscsL_eq h1]; rfl
theorem dscsL_of : ∀ l : List Dsc, dscsL (rowsC Dsc.cells l) = some l
  | [] => rfl
  | a :: l => by
    show (dscsL (rowsC Dsc.cells l)).map (a :: ·) = _
    rw [dscsL_of l]; rfl
theorem min_lo {k : IntKind} {a b : Int} (h : a ≤ b) : semV (Builtin.min2 (.int k a) (.int k b)) = some (.int k a) := by
  simp only [Builtin.min2, if_neg (show ¬ b < a by omega)]
  rfl
theorem min_hi {k : IntKind} {a b : Int} (h : b < a) : semV (Builtin.min2 (.int k a) (.int k b)) = some (.int k b) := by
  simp only [Builtin.min2, if_pos h]
  rfl
theorem max_lo {k : IntKind} {a b : Int} (h : b ≤ a) : semV (Builtin.max2 (.int k a) (.int k b)) = some (.int k a) := by
  simp only [Builtin.max2, if_neg (show ¬ b > a by omega)]
  rfl
theorem max_hi {k : IntKind} {a b : Int} (h : a < b) : semV (Builtin.max2 (.int k a) (.int k b)) = some (.int k b) := by
  simp only [Builtin.max2, if_pos (show b > a from h)]
  rfl
theorem slice_hi {P : Program} {H : Tr AObj} {t e : TypeId} {k B o n c h : Nat} (hu : P.underlying t = some (.slice e)) (hz : sizeB P e = some k) (h1 : h ≤ n) (h2 : n ≤ c) : sliceB P H t (.slice (some ⟨B, o, none⟩) n (c + 1)) none (some (.int .i64 (h : Int))) none = some (.slice (some ⟨B, o, none⟩) h (c + 1)) := by
  have e1 : wrapInt (.int .i64 (h : Int)) = some h := rfl
  have b1 : Nat.ble 0 h = true := nble_t (Nat.zero_le _)
  have b2 : Nat.ble h c = true := nble_t (by omega)
  have b3 : Nat.ble c c = true := nble_t (Nat.le_refl _)
  have b4 : (match Nat.beq c 0 with | true => o | false => o + 0 * k) = o := by cases Nat.beq c 0 <;> simp
  simp only [sliceB, hu, hz, Option.elim, e1, b1, b2, b3]
  cases Nat.beq c 0 <;> simp
/-- What is read of a part of what is read. -/
theorem read_sub {cs vs : List Value} {o n i m : Nat} (h : readCells cs o n = some vs) (hi : i + m ≤ n) : readCells cs (o + i) m = some ((vs.drop i).take m) := by
  unfold readCells at h ⊢
  cases hh : has (cs.drop o) n with
  | false => rw [hh] at h; cases h
  | true =>
    rw [hh] at h
    simp only [Option.some.injEq] at h
    have hl := has_spec hh
    rw [List.length_drop] at hl
    rw [has_le (by rw [List.length_drop]; omega)]
    simp only [Option.some.injEq]
    rw [← h, List.drop_take, List.take_take, List.drop_drop, Nat.min_eq_left (by omega)]
/-- A row whose room is not less than what it holds. -/
def roomOk : Value → Bool
  | .slice none 0 0 => true
  | .slice none 0 1 => true
  | .slice (some _) n (c + 1) => Nat.ble n c
  | _ => false
theorem read_len {cs vs : List Value} {o n : Nat} (h : readCells cs o n = some vs) : vs.length = n := by
  unfold readCells at h
  cases hh : has (cs.drop o) n with
  | false => rw [hh] at h; cases h
  | true =>
    rw [hh] at h
    simp only [Option.some.injEq] at h
    have := has_spec hh
    rw [← h, List.length_take]
    omega
end Go.Sym
namespace Go.Proofs.YtmcigeebeoobdaaGreatDoor
open Go Go.RowKit Go.Viv Go.Eva Go.Sym
section
variable {G : Nat} {ν : Toks} {W : World} {may : Nat → Prop} {call : CallB}
set_option maxHeartbeats 1000000 in
theorem cl64_ok (hc : CallOK Tryz.prog G (LBegin Tryz.prog ν LL W may) ν call) : SpecOK Tryz.prog G (LBegin Tryz.prog ν LL W may) ν 162 (cClone 2 1) := by
  refine fun_okX (by kernel_rfl) hc fun args s v h' e Lv hlv hG => ?_
  unfold cClone at e
  split at e <;> try (cases e; done)
  rename_i v0
  split at e <;> try (cases e; done)
  rename_i vs hvs
  split at e <;> try (cases e; done)
  rename_i hcond
  obtain ⟨hn, hone, hvl⟩ := hcond
  simp only [Option.some.injEq, Prod.mk.injEq] at e
  obtain ⟨rfl, rfl⟩ := e
  have hb := apb2
  simp only [Option.map] at hb
  have e0 : ∀ H ox oy, binB Tryz.prog H .eql 29 ox oy (.slice none 0 0) (.slice none 0 0) = some (.bool true) := fun H ox oy => by kernel_rfl
  have e1 : ∀ H ox oy, binB Tryz.prog H .eql 29 ox oy (.slice none 0 1) (.slice none 0 0) = some (.bool false) := fun H ox oy => by kernel_rfl
  have e2 : ∀ H ox oy a n c, binB Tryz.prog H .eql 29 ox oy (.slice (some a) n c) (.slice none 0 0) = some (.bool false) := fun H ox oy a n c => by kernel_rfl
  refine ⟨by simp, 0, ?_⟩
  unfold rowB at hvs
  split at hvs <;> try (cases hvs; done)
  · simp only [Option.some.injEq] at hvs
    subst hvs
    unfold cloneV
    refine ⟨Tryz.f162, _, Tryz.func162, rfl, by simp [Tryz.f162], ?_⟩; rw [Tryz.ntmps162]
    repeat' (first | simp (disch := omega) only [go_sem, reduceIte, sliceB, e0, Tryz.results162] | (with_reducible refine w_chain0 ?_ ?_; focus (decide +kernel)) | (with_reducible refine condK_of _ _ ?_ ?_ <;> (intro hb; try simp only [decide_eq_true_eq, decide_eq_false_iff_not] at hb)) | (with_reducible refine gdK_of_f _ _ _ _ _ ?_ ?_ <;> (intro hb; try simp only [decide_eq_true_eq, decide_eq_false_iff_not] at hb)) | (with_reducible refine gdK_of_t _ _ _ _ _ ?_ ?_ <;> (intro hb; try simp only [decide_eq_true_eq, decide_eq_false_iff_not] at hb)) | (with_reducible refine gK_of_f _ _ _ ?_ ?_ <;> (intro hb; try simp only [decide_eq_true_eq, decide_eq_false_iff_not] at hb)) | (with_reducible refine gK_of_t _ _ _ ?_ ?_ <;> (intro hb; try simp only [decide_eq_true_eq, decide_eq_false_iff_not] at hb)))
    exact endsX_fill rfl (by simp only; omega) (fun j o hj ho => by rcases j with _ | _ | j <;> simp [cloneF] at ho) fun X hX => rfl
  · simp only [Option.some.injEq] at hvs
    subst hvs
    unfold cloneV
    refine ⟨Tryz.f162, _, Tryz.func162, rfl, by simp [Tryz.f162], ?_⟩; rw [Tryz.ntmps162]
    repeat' (first | simp (disch := omega) only [go_sem, reduceIte, sliceB, List.length_nil, e1, hb, appendB, newsB, srcB, lenV, firstB, appendB.app, Tryz.results162] | (with_reducible refine w_chain0 ?_ ?_; focus (decide +kernel)) | (with_reducible refine condK_of _ _ ?_ ?_ <;> (intro hb; try simp only [decide_eq_true_eq, decide_eq_false_iff_not] at hb)) | (with_reducible refine gdK_of_f _ _ _ _ _ ?_ ?_ <;> (intro hb; try simp only [decide_eq_true_eq, decide_eq_false_iff_not] at hb)) | (with_reducible refine gdK_of_t _ _ _ _ _ ?_ ?_ <;> (intro hb; try simp only [decide_eq_true_eq, decide_eq_false_iff_not] at hb)) | (with_reducible refine gK_of_f _ _ _ ?_ ?_ <;> (intro hb; try simp only [decide_eq_true_eq, decide_eq_false_iff_not] at hb)) | (with_reducible refine gK_of_t _ _ _ ?_ ?_ <;> (intro hb; try simp only [decide_eq_true_eq, decide_eq_false_iff_not] at hb)))
    exact ⟨wk_emp _ _ _, by simp only; omega, fillT_all (fun j o hj ho => by rcases j with _ | _ | j <;> simp [cloneF] at ho) fun X o hX ho => by
      simp (disch := omega) only [go_sem, reduceIte, sliceB]
      exact ho⟩
  · rename_i B o n c
    split at hvs <;> try (cases hvs; done)
    rename_i cs ty rw hB
    simp only [lenN] at hn hvl
    have lB := hlv.lt _ (hlv.arg B (by simp [occL, occ]))
    cases n with
    | zero =>
      have hv0 : vs = [] := List.length_eq_zero_iff.1 (by simpa using hvl)
      unfold cloneV
      refine ⟨Tryz.f162, _, Tryz.func162, rfl, by simp [Tryz.f162], ?_⟩; rw [Tryz.ntmps162]
      repeat' (first | simp (disch := omega) only [go_sem, reduceIte, sliceB, List.length_nil, e2, hB, hb, appendB, newsB, srcB, lenV, firstB, appendB.app, Tryz.results162] | (with_reducible refine w_chain0 ?_ ?_; focus (decide +kernel)) | (with_reducible refine condK_of _ _ ?_ ?_ <;> (intro hb; try simp only [decide_eq_true_eq, decide_eq_false_iff_not] at hb)) | (with_reducible refine gdK_of_f _ _ _ _ _ ?_ ?_ <;> (intro hb; try simp only [decide_eq_true_eq, decide_eq_false_iff_not] at hb)) | (with_reducible refine gdK_of_t _ _ _ _ _ ?_ ?_ <;> (intro hb; try simp only [decide_eq_true_eq, decide_eq_false_iff_not] at hb)) | (with_reducible refine gK_of_f _ _ _ ?_ ?_ <;> (intro hb; try simp only [decide_eq_true_eq, decide_eq_false_iff_not] at hb)) | (with_reducible refine gK_of_t _ _ _ ?_ ?_ <;> (intro hb; try simp only [decide_eq_true_eq, decide_eq_false_iff_not] at hb)))
      subst hv0
      exact ⟨wk_emp _ _ _, by simp only; omega, fillT_all (fun j o hj ho => by rcases j with _ | _ | j <;> simp [cloneF] at ho) fun X o hX ho => by
        simp (disch := omega) only [go_sem, reduceIte, sliceB]
        exact ho⟩
    | succ n =>
      try simp only [Nat.mul_one] at hvs hvl
      unfold readCells at hvs
      split at hvs <;> try (cases hvs; done)
      rename_i hv1
      have hv2 := Option.some.inj hvs
      have hl2 : Nat.beq vs.length (n + 1) = true := by rw [hvl]; exact Nat.beq_refl _
      unfold cloneV
      refine ⟨Tryz.f162, _, Tryz.func162, rfl, by simp [Tryz.f162], ?_⟩; rw [Tryz.ntmps162]
      repeat' (first | simp (disch := omega) only [go_sem, reduceIte, sliceB, List.length_nil, e2, hB, hb, hv1, hv2, hone, hl2, appendB, newsB, srcB, lenV, firstB, appendB.app, Tryz.results162] | (with_reducible refine w_chain0 ?_ ?_; focus (decide +kernel)) | (with_reducible refine condK_of _ _ ?_ ?_ <;> (intro hb; try simp only [decide_eq_true_eq, decide_eq_false_iff_not] at hb)) | (with_reducible refine gdK_of_f _ _ _ _ _ ?_ ?_ <;> (intro hb; try simp only [decide_eq_true_eq, decide_eq_false_iff_not] at hb)) | (with_reducible refine gdK_of_t _ _ _ _ _ ?_ ?_ <;> (intro hb; try simp only [decide_eq_true_eq, decide_eq_false_iff_not] at hb)) | (with_reducible refine gK_of_f _ _ _ ?_ ?_ <;> (intro hb; try simp only [decide_eq_true_eq, decide_eq_false_iff_not] at hb)) | (with_reducible refine gK_of_t _ _ _ ?_ ?_ <;> (intro hb; try simp only [decide_eq_true_eq, decide_eq_false_iff_not] at hb)))
      refine endsX_fill rfl (by simp only; omega) (fun j o hj ho => ?_) fun X hX => ?_
      · rcases j with _ | _ | j <;> simp only [cloneF] at ho <;> try (cases ho; done)
        split at ho
        · cases ho
        · cases ho
          simp (disch := omega) only [go_sem, reduceIte, sliceB]
      · simp (disch := omega) only [go_sem, reduceIte, sliceB]
set_option maxHeartbeats 1000000 in
theorem clE_ok (hc : CallOK Tryz.prog G (LBegin Tryz.prog ν LL W may) ν call) : SpecOK Tryz.prog G (LBegin Tryz.prog ν LL W may) ν 224 (cClone 290 2) := by
  refine fun_okX (by kernel_rfl) hc fun args s v h' e Lv hlv hG => ?_
  unfold cClone at e
  split at e <;> try (cases e; done)
  rename_i v0
  split at e <;> try (cases e; done)
  rename_i vs hvs
  split at e <;> try (cases e; done)
  rename_i hcond
  obtain ⟨hn, hone, hvl⟩ := hcond
  simp only [Option.some.injEq, Prod.mk.injEq] at e
  obtain ⟨rfl, rfl⟩ := e
  have hb := apb290
  simp only [Option.map] at hb
  have e0 : ∀ H ox oy, binB Tryz.prog H .eql 266 ox oy (.slice none 0 0) (.slice none 0 0) = some (.bool true) := fun H ox oy => by kernel_rfl
  have e1 : ∀ H ox oy, binB Tryz.prog H .eql 266 ox oy (.slice none 0 1) (.slice none 0 0) = some (.bool false) := fun H ox oy => by kernel_rfl
  have e2 : ∀ H ox oy a n c, binB Tryz.prog H .eql 266 ox oy (.slice (some a) n c) (.slice none 0 0) = some (.bool false) := fun H ox oy a n c => by kernel_rfl
  refine ⟨by simp, 0, ?_⟩
  unfold rowB at hvs
  split at hvs <;> try (cases hvs; done)
  · simp only [Option.some.injEq] at hvs
    subst hvs
    unfold cloneV
    refine ⟨Tryz.f224, _, Tryz.func224, rfl, by simp [Tryz.f224], ?_⟩; rw [Tryz.ntmps224]
    repeat' (first | simp (disch := omega) only [go_sem, reduceIte, sliceB, e0, Tryz.results224] | (with_reducible refine w_chain0 ?_ ?_; focus (decide +kernel)) | (with_reducible refine condK_of _ _ ?_ ?_ <;> (intro hb; try simp only [decide_eq_true_eq, decide_eq_false_iff_not] at hb)) | (with_reducible refine gdK_of_f _ _ _ _ _ ?_ ?_ <;> (intro hb; try simp only [decide_eq_true_eq, decide_eq_false_iff_not] at hb)) | (with_reducible refine gdK_of_t _ _ _ _ _ ?_ ?_ <;> (intro hb; try simp only [decide_eq_true_eq, decide_eq_false_iff_not] at hb)) | (with_reducible refine gK_of_f _ _ _ ?_ ?_ <;> (intro hb; try simp only [decide_eq_true_eq, decide_eq_false_iff_not] at hb)) | (with_reducible refine gK_of_t _ _ _ ?_ ?_ <;> (intro hb; try simp only [decide_eq_true_eq, decide_eq_false_iff_not] at hb)))
    exact endsX_fill rfl (by simp only; omega) (fun j o hj ho => by rcases j with _ | _ | j <;> simp [cloneF] at ho) fun X hX => rfl
  · simp only [Option.some.injEq] at hvs
    subst hvs
    unfold cloneV
    refine ⟨Tryz.f224, _, Tryz.func224, rfl, by simp [Tryz.f224], ?_⟩; rw [Tryz.ntmps224]
    repeat' (first | simp (disch := omega) only [go_sem, reduceIte, sliceB, List.length_nil, e1, hb, appendB, newsB, srcB, lenV, firstB, appendB.app, Tryz.results224] | (with_reducible refine w_chain0 ?_ ?_; focus (decide +kernel)) | (with_reducible refine condK_of _ _ ?_ ?_ <;> (intro hb; try simp only [decide_eq_true_eq, decide_eq_false_iff_not] at hb)) | (with_reducible refine gdK_of_f _ _ _ _ _ ?_ ?_ <;> (intro hb; try simp only [decide_eq_true_eq, decide_eq_false_iff_not] at hb)) | (with_reducible refine gdK_of_t _ _ _ _ _ ?_ ?_ <;> (intro hb; try simp only [decide_eq_true_eq, decide_eq_false_iff_not] at hb)) | (with_reducible refine gK_of_f _ _ _ ?_ ?_ <;> (intro hb; try simp only [decide_eq_true_eq, decide_eq_false_iff_not] at hb)) | (with_reducible refine gK_of_t _ _ _ ?_ ?_ <;> (intro hb; try simp only [decide_eq_true_eq, decide_eq_false_iff_not] at hb)))
    exact ⟨wk_emp _ _ _, by simp only; omega, fillT_all (fun j o hj ho => by rcases j with _ | _ | j <;> simp [cloneF] at ho) fun X o hX ho => by
      simp (disch := omega) only [go_sem, reduceIte, sliceB]
      exact ho⟩
  · rename_i B o n c
    split at hvs <;> try (cases hvs; done)
    rename_i cs ty rw hB
    simp only [lenN] at hn hvl
    have lB := hlv.lt _ (hlv.arg B (by simp [occL, occ]))
    cases n with
    | zero =>
      have hv0 : vs = [] := List.length_eq_zero_iff.1 (by simpa using hvl)
      unfold cloneV
      refine ⟨Tryz.f224, _, Tryz.func224, rfl, by simp [Tryz.f224], ?_⟩; rw [Tryz.ntmps224]
      repeat' (first | simp (disch := omega) only [go_sem, reduceIte, sliceB, List.length_nil, e2, hB, hb, appendB, newsB, srcB, lenV, firstB, appendB.app, Tryz.results224] | (with_reducible refine w_chain0 ?_ ?_; focus (decide +kernel)) | (with_reducible refine condK_of _ _ ?_ ?_ <;> (intro hb; try simp only [decide_eq_true_eq, decide_eq_false_iff_not] at hb)) | (with_reducible refine gdK_of_f _ _ _ _ _ ?_ ?_ <;> (intro hb; try simp only [decide_eq_true_eq, decide_eq_false_iff_not] at hb)) | (with_reducible refine gdK_of_t _ _ _ _ _ ?_ ?_ <;> (intro hb; try simp only [decide_eq_true_eq, decide_eq_false_iff_not] at hb)) | (with_reducible refine gK_of_f _ _ _ ?_ ?_ <;> (intro hb; try simp only [decide_eq_true_eq, decide_eq_false_iff_not] at hb)) | (with_reducible refine gK_of_t _ _ _ ?_ ?_ <;> (intro hb; try simp only [decide_eq_true_eq, decide_eq_false_iff_not] at hb)))
      subst hv0
      exact ⟨wk_emp _ _ _, by simp only; omega, fillT_all (fun j o hj ho => by rcases j with _ | _ | j <;> simp [cloneF] at ho) fun X o hX ho => by
        simp (disch := omega) only [go_sem, reduceIte, sliceB]
        exact ho⟩
    | succ n =>
      try simp only [Nat.mul_one] at hvs hvl
      unfold readCells at hvs
      split at hvs <;> try (cases hvs; done)
      rename_i hv1
      have hv2 := Option.some.inj hvs
      have hl2 : Nat.beq vs.length ((n + 1) * 2) = true := by rw [hvl]; exact Nat.beq_refl _
      unfold cloneV
      refine ⟨Tryz.f224, _, Tryz.func224, rfl, by simp [Tryz.f224], ?_⟩; rw [Tryz.ntmps224]
      repeat' (first | simp (disch := omega) only [go_sem, reduceIte, sliceB, List.length_nil, e2, hB, hb, hv1, hv2, hone, hl2, appendB, newsB, srcB, lenV, firstB, appendB.app, Tryz.results224] | (with_reducible refine w_chain0 ?_ ?_; focus (decide +kernel)) | (with_reducible refine condK_of _ _ ?_ ?_ <;> (intro hb; try simp only [decide_eq_true_eq, decide_eq_false_iff_not] at hb)) | (with_reducible refine gdK_of_f _ _ _ _ _ ?_ ?_ <;> (intro hb; try simp only [decide_eq_true_eq, decide_eq_false_iff_not] at hb)) | (with_reducible refine gdK_of_t _ _ _ _ _ ?_ ?_ <;> (intro hb; try simp only [decide_eq_true_eq, decide_eq_false_iff_not] at hb)) | (with_reducible refine gK_of_f _ _ _ ?_ ?_ <;> (intro hb; try simp only [decide_eq_true_eq, decide_eq_false_iff_not] at hb)) | (with_reducible refine gK_of_t _ _ _ ?_ ?_ <;> (intro hb; try simp only [decide_eq_true_eq, decide_eq_false_iff_not] at hb)))
      refine endsX_fill rfl (by simp only; omega) (fun j o hj ho => ?_) fun X hX => ?_
      · rcases j with _ | _ | j <;> simp only [cloneF] at ho <;> try (cases ho; done)
        split at ho
        · cases ho
        · cases ho
          simp (disch := omega) only [go_sem, reduceIte, sliceB]
      · simp (disch := omega) only [go_sem, reduceIte, sliceB]
end
end Go.Proofs.YtmcigeebeoobdaaGreatDoor
end

/-
  Rows among the tree's blocks: what a frame leaves, what an append makes, what memory hands in.
-/
section
set_option linter.unusedSimpArgs false
set_option linter.unusedVariables false
namespace Go.Sym
open Go Go.RowKit Go.Viv Go.Eva
theorem rowB_frame {t t' : Tr AObj} {k : Nat} {v : Value} (h : ∀ X, occ X v = true → t'.at_ X = t.at_ X) : rowB t' k v = rowB t k v := by
  unfold rowB
  split <;> try rfl
  rename_i B o n c
  rw [h B (by simp [occ])]
theorem row_ints {t : Tr AObj} {v : Value} {l : List Int} (h : rowB t 1 v = some (intsC l)) : ∃ a c, v = .slice a l.length c ∧ ∀ i x, l[i]? = some x → ∃ B o cs ty rw, a = some ⟨B, o, none⟩ ∧ t.at_ B = some (.cells cs ty rw) ∧ cs[o + i]? = some (.int .i64 x) := by
  unfold rowB at h
  split at h <;> try (cases h; done)
  · have : l = [] := List.length_eq_zero_iff.1 (by rw [← intsC_len, ← Option.some.inj h]; rfl)
    subst this
    exact ⟨none, 0, rfl, fun i x hx => by simp at hx⟩
  · have : l = [] := List.length_eq_zero_iff.1 (by rw [← intsC_len, ← Option.some.inj h]; rfl)
    subst this
    exact ⟨none, 1, rfl, fun i x hx => by simp at hx⟩
  · rename_i B o n c
    split at h <;> try (cases h; done)
    rename_i cs ty rw hB
    have hl := read_len h
    rw [intsC_len] at hl
    have hn : n = l.length := by omega
    subst hn
    refine ⟨_, _, rfl, fun i x hx => ⟨B, o, cs, ty, rw, rfl, hB, ?_⟩⟩
    have hi : i < l.length := (List.getElem?_eq_some_iff.1 hx).1
    unfold readCells at h
    split at h <;> try (cases h; done)
    have h2 : (List.take (l.length * 1) (List.drop o cs))[i]? = (intsC l)[i]? := by rw [Option.some.inj h]
    rw [List.getElem?_take_of_lt (by omega), List.getElem?_drop] at h2
    rw [h2]
    simp [intsC, hx]
def noneT (s : Hp) (n : Nat) : Hp := ⟨fillT s.t s.next (fun _ => none) n, s.next + n⟩
/-- A row appended to an empty literal of one's own. -/
theorem app_lit {P : Program} {h : Hp} {st xt e : TypeId} {k B n c : Nat} {a : Option Addr} {z vs : List Value} (hu : P.underlying st = some (.slice e)) (hx : P.underlying xt = some (.slice e)) (hs : sizeB P e = some (k + 1)) (hz : plainZero P e = some z) (hzl : z.length = k + 1)
    (hb : Nat.ble (((P.info? e).map (·.bytes)).getD 10000000) 1000000 = true) (hB : h.t.at_ B = some (.cells [] e true)) (hr : rowB h.t (k + 1) (.slice a n c) = some vs) (hn : n ≤ 1000000) (hone : vs.all oneB = true) (hl : vs.length = n * (k + 1)) :
    (n = 0 ∧ appendB P h [st, xt] (.slice (some ⟨B, 0, none⟩) 0 1) (.slice a n c) = some (.slice (some ⟨B, 0, none⟩) 0 1, ⟨h.t.set B (some (.cells [] e true)), h.next⟩)) ∨
    (0 < n ∧ appendB P h [st, xt] (.slice (some ⟨B, 0, none⟩) 0 1) (.slice a n c) = some (.slice (some ⟨h.next, 0, none⟩) n 0, ⟨h.t.set h.next (some (.cells vs e true)), h.next + 1⟩)) := by
  have hnews : newsB P h.t (k + 1) z xt (.slice a n c) = some (n, vs) := by
    unfold rowB at hr
    split at hr <;> try (cases hr; done)
    · rename_i e1; simp only [Value.slice.injEq] at e1; obtain ⟨rfl, rfl, rfl⟩ := e1; cases hr
      simp only [newsB, hx, srcB, lenV, firstB, Option.map_some]
    · rename_i e1; simp only [Value.slice.injEq] at e1; obtain ⟨rfl, rfl, rfl⟩ := e1; cases hr
      simp only [newsB, hx, srcB, lenV, firstB, Option.map_some, Nat.beq_refl]
    · rename_i B' o n' c' e1
      simp only [Value.slice.injEq] at e1
      obtain ⟨rfl, rfl, rfl⟩ := e1
      split at hr <;> try (cases hr; done)
      rename_i cs ty rw hB'
      cases n with
      | zero =>
        have : vs = [] := List.length_eq_zero_iff.1 (by rw [hl]; omega)
        subst this
        simp only [newsB, hx, srcB, lenV, firstB, Option.map_some, Nat.beq_refl]
      | succ n =>
        have b0 : Nat.beq (n + 1) 0 = false := rfl
        simp only [newsB, hx, srcB, lenV, firstB, b0, nble_t (Nat.le_refl (n + 1)), hB', hr, Option.map_some]
  have hchk : (vs.all oneB && Nat.beq vs.length (n * (k + 1)) && Nat.beq z.length (k + 1) && Nat.ble n 1000000 && Nat.ble (((P.info? e).map (·.bytes)).getD 10000000) 1000000) = true := by
    rw [hone, hb, nbeq_t hl, nbeq_t hzl, nble_t hn]
    rfl
  cases n with
  | zero =>
    have : vs = [] := List.length_eq_zero_iff.1 (by rw [hl]; omega)
    subst this
    refine .inl ⟨rfl, ?_⟩
    unfold appendB
    simp only [hu, hs, hz, hnews, hchk]
    simp [appendB.app, hB, has, spl]
  | succ n =>
    refine .inr ⟨by omega, ?_⟩
    unfold appendB
    simp only [hu, hs, hz, hnews, hchk]
    have b0 : Nat.ble (n + 1) 0 = false := rfl
    simp [appendB.app, firstB, b0]
def addC (call : CallB) (g : FuncId) (c : CallS) : CallB := fun f a h => if f = g then c a h else call f a h
theorem addC_ok {P : Program} {G : Nat} {W0 : Begin} {ν : Toks} {call : CallB} {g : FuncId} {c : CallS} (h : CallOK P G W0 ν call) (hc : SpecOK P G W0 ν g c) : CallOK P G W0 ν (addC call g c) := by
  intro f args s v h' e
  unfold addC at e
  split at e
  · rename_i hf
    subst hf
    exact hc args s v h' e
  · exact h f args s v h' e
def numOr : Value → Value
  | .int k n => .int k n
  | .bool b => .bool b
  | _ => .chan none
/-- A block of memory as one of the tree's: its whole numbers. -/
def blkOb (W : World) (b : Nat) : Option AObj := match W.heap[b]? with
  | some (.cells cs e _) => some (.cells (cs.toList.map numOr) e false)
  | _ => none
def szOf (W : World) (b : Nat) : Nat := match W.heap[b]? with
  | some (.cells cs _ _) => cs.size
  | _ => 0
theorem numOr_rel {ν : Toks} {φ : Phi} : ∀ l : List Value, VRs ν φ (l.map numOr) l
  | [] => .nil
  | v :: l => .cons (by cases v <;> first | exact .int _ _ | exact .bool _ | exact .bad _) (numOr_rel l)
theorem blk_obj {P : Program} {own : Nat → Prop} {ν : Toks} {φ : Phi} {W : World} {b : Nat} {o : AObj} (h : blkOb W b = some o) : isRes (some o) = false ∧ ObjR P own ν φ W ⟨b, szOf W b, 0⟩ o := by
  unfold blkOb at h
  split at h <;> try (cases h; done)
  rename_i cs e fr hb
  cases h
  refine ⟨rfl, .cells hb (by simp only [szOf, hb]) (fun h => by cases h) ?_⟩
  rw [List.length_map, List.take_length]
  exact numOr_rel _
/-- A row of plain cells in memory, as what is handed in. -/
theorem arg_rowV {W : World} {A : Option Addr} {vs : List Value} {n k cap : Nat} (h : RowC W A vs) (hv : ∀ (i : Nat) (x : Value), vs[i]? = some x → numOr x = x) (hl : vs.length = n * k) (hk : 0 < k) (hc : n ≤ cap) (hA : A = none → cap = 0) :
    ∃ (v : Value) (b : Nat), roomOk v = true ∧ (∀ (ν : Toks), VR ν (phi0 W.heap.size (szOf W)) v (.slice A n cap)) ∧ ∀ t : Tr AObj, (b < W.heap.size → t.at_ b = blkOb W b) → rowB t k v = some vs := by
  rcases Nat.eq_zero_or_pos n with h0 | h0
  · subst h0
    have hl0 : vs = [] := List.length_eq_zero_iff.1 (by omega)
    subst hl0
    cases A with
    | none =>
      obtain rfl := hA rfl
      exact ⟨.slice none 0 0, 0, rfl, fun ν => .sl0, fun t _ => rfl⟩
    | some a => exact ⟨.slice none 0 1, 0, rfl, fun ν => .emp _ _, fun t _ => rfl⟩
  · rcases h with h | ⟨b, o, rfl, hb, hcell⟩
    · exfalso
      rw [h] at hl
      have : n * k = 0 := hl.symm
      rcases Nat.mul_eq_zero.1 this with h | h <;> omega
    · refine ⟨.slice (some ⟨b, o, none⟩) n (cap + 1), b, nble_t hc, fun ν => .slk (r := ⟨b, szOf W b, 0⟩) (by simp [phi0, hb]) hc, fun t ht => ?_⟩
      have hlen : 0 < vs.length := by rw [hl]; exact Nat.mul_pos h0 hk
      have hex : ∃ cs e fr, W.heap[b]? = some (.cells cs e fr) := by
        have := hcell 0 _ (List.getElem?_eq_getElem hlen)
        simp only [World.cell?] at this
        cases hh : W.heap[b]? with
        | none => rw [hh] at this; cases this
        | some ob => cases ob with
          | cells cs e fr => exact ⟨cs, e, fr, rfl⟩
          | _ => rw [hh] at this; simp at this
      obtain ⟨cs, e, fr, hh⟩ := hex
      have hat : t.at_ b = some (.cells (cs.toList.map numOr) e false) := by rw [ht hb]; simp only [blkOb, hh]
      have hg : ∀ i (hi : i < vs.length), cs[o + i]? = some vs[i] := fun i hi => by
        have := hcell i _ (List.getElem?_eq_getElem hi)
        simp only [World.cell?, hh] at this
        simpa using this
      have hsz : o + vs.length ≤ cs.size := by
        have := hg (vs.length - 1) (by omega)
        have := (Array.getElem?_eq_some_iff.1 this).1
        omega
      simp only [rowB, hat]
      unfold readCells
      rw [has_le (by simp; omega)]
      simp only [Option.some.injEq]
      apply List.ext_getElem?
      intro i
      by_cases hi : i < n * k
      · rw [List.getElem?_take_of_lt hi, List.getElem?_drop, List.getElem?_map, Array.getElem?_toList, hg i (by omega), List.getElem?_eq_getElem (show i < vs.length by omega)]
        simp only [Option.map_some, Option.some.injEq]
        exact hv i _ (List.getElem?_eq_getElem (by omega))
      · rw [List.getElem?_eq_none (by simp; omega), List.getElem?_eq_none (by omega)]
/-- A row of whole numbers in memory, as what is handed in. -/
theorem arg_row {W : World} {A : Option Addr} {l : List Int} {n k cap : Nat} (h : RowC W A (intsC l)) (hl : l.length = n * k) (hk : 0 < k) (hc : n ≤ cap) (hA : A = none → cap = 0) :
    ∃ (v : Value) (b : Nat), roomOk v = true ∧ (∀ (ν : Toks), VR ν (phi0 W.heap.size (szOf W)) v (.slice A n cap)) ∧ ∀ t : Tr AObj, (b < W.heap.size → t.at_ b = blkOb W b) → rowB t k v = some (intsC l) :=
  arg_rowV h (fun i x hx => by
    have hi : i < l.length := by
      have := (List.getElem?_eq_some_iff.1 hx).1
      rwa [intsC_len] at this
    rw [intsC_get hi] at hx
    cases hx
    rfl) (by rw [intsC_len]; exact hl) hk hc hA
end Go.Sym
end

/-
  Rows of elements among the tree's blocks: truth values compared, an element's read. No program in sight.
-/
section
set_option linter.unusedSimpArgs false
set_option linter.unusedVariables false
namespace Go.Sym
open Go Go.RowKit Go.Viv Go.Eva
theorem pureRun_bind {α β : Type} {P : Program} {m : Sem α} {a : α} {f : α → Sem β} (h : pureRun P m = some a) : pureRun P (m >>= f) = pureRun P (f a) := by
  show pureRun P (Sem.bind m f) = _
  induction m with
  | pure b => cases h; rfl
  | program k ih => exact ih P h
  | _ => cases h
theorem equal_bool {P : Program} {t : TypeId} (ht : P.underlying t = some .bool) (a b : Bool) : pureRun P (Op.equal t (.bool a) (.bool b)) = some (a == b) := by
  unfold Op.equal
  rw [show Op.maxDepth = 9999 + 1 from rfl]
  unfold Op.equalIn
  have hu : pureRun P (underlying t) = some TypeDesc.bool := by
    unfold underlying
    show pureRun P (match P.underlying t with | some d => pure d | none => stuck "no such type") = _
    rw [ht]
    rfl
  rw [pureRun_bind hu]
  rfl
theorem b_eqlB {P : Program} {H : Tr AObj} {t : TypeId} {ox oy : Operand} (ht : P.underlying t = some .bool) (a b : Bool) : binB P H .eql t ox oy (.bool a) (.bool b) = some (.bool (a == b)) := by
  show runV P (do eqGuard .eql t ox oy (.bool a) (.bool b); binOp .eql t (.bool a) (.bool b)) = _
  unfold runV eqGuard
  simp
  have h1 : pureRun P (binOp .eql t (.bool a) (.bool b)) = some (Value.bool (a == b)) := by
    show pureRun P (do pure (Value.bool (← Op.equal t (.bool a) (.bool b)))) = _
    rw [pureRun_bind (equal_bool ht a b)]
    rfl
  rw [h1]
  rfl
theorem b_neqB {P : Program} {H : Tr AObj} {t : TypeId} {ox oy : Operand} (ht : P.underlying t = some .bool) (a b : Bool) : binB P H .neq t ox oy (.bool a) (.bool b) = some (.bool (!(a == b))) := by
  show runV P (do eqGuard .neq t ox oy (.bool a) (.bool b); binOp .neq t (.bool a) (.bool b)) = _
  unfold runV eqGuard
  simp
  have h1 : pureRun P (binOp .neq t (.bool a) (.bool b)) = some (Value.bool (!(a == b))) := by
    show pureRun P (do pure (Value.bool (!(← Op.equal t (.bool a) (.bool b))))) = _
    rw [pureRun_bind (equal_bool ht a b)]
    rfl
  rw [h1]
  rfl
def boolsC (l : List Bool) : List Value := l.map .bool
def boolsL : List Value → Option (List Bool)
  | [] => some []
  | .bool b :: r => (boolsL r).map (b :: ·)
  | _ :: _ => none
theorem boolsL_eq : ∀ {vs : List Value} {l : List Bool}, boolsL vs = some l → vs = boolsC l
  | [], l, h => by cases h; rfl
  | v :: r, l, h => by
    unfold boolsL at h
    split at h <;> try (cases h; done)
    · rename_i heq; cases heq
    rename_i b r' heq
    cases heq
    obtain ⟨m, hm, rfl⟩ := Option.map_eq_some_iff.1 h
    rw [boolsL_eq hm]
    rfl
theorem boolsL_of : ∀ l : List Bool, boolsL (boolsC l) = some l
  | [] => rfl
  | b :: l => by show (boolsL (boolsC l)).map (b :: ·) = _; rw [boolsL_of l]; rfl
theorem boolsC_len (l : List Bool) : (boolsC l).length = l.length := by simp [boolsC]
/-- A row of elements of some cells. -/
theorem row_at {t : Tr AObj} {v : Value} {k : Nat} {vs : List Value} (h : rowB t k v = some vs) : ∃ a n c, v = .slice a n c ∧ vs.length = n * k ∧ ∀ i, i < n → ∃ B o cs ty rw, a = some ⟨B, o, none⟩ ∧ t.at_ B = some (.cells cs ty rw) ∧ has (cs.drop (o + i * k)) k = true ∧ (cs.drop (o + i * k)).take k = (vs.drop (i * k)).take k := by
  unfold rowB at h
  split at h <;> try (cases h; done)
  · cases h; exact ⟨none, 0, 0, rfl, by simp, fun i hi => by omega⟩
  · cases h; exact ⟨none, 0, 1, rfl, by simp, fun i hi => by omega⟩
  · rename_i B o n c
    split at h <;> try (cases h; done)
    rename_i cs ty rw hB
    have hl := read_len h
    refine ⟨_, n, c, rfl, hl, fun i hi => ⟨B, o, cs, ty, rw, rfl, hB, ?_⟩⟩
    unfold readCells at h
    split at h <;> try (cases h; done)
    have hk : i * k + k ≤ n * k := by rw [← Nat.succ_mul]; exact Nat.mul_le_mul_right _ hi
    have h2 : (cs.drop o).take (n * k) = vs := Option.some.inj h
    have h3 : n * k ≤ cs.length - o := by
      have := congrArg List.length h2
      rw [List.length_take, List.length_drop, hl] at this
      omega
    constructor
    · exact has_le (by rw [List.length_drop]; omega)
    · rw [← h2, List.drop_take, List.drop_drop, List.take_take, Nat.min_eq_left (by omega)]
theorem one_at {cs : List Value} {o i : Nat} {x : Value} (h : (cs.drop (o + i * 1)).take 1 = [x]) : cs[o + i]? = some x := by
  have := congrArg (·[0]?) h
  simp only [Nat.mul_one] at this
  rw [List.getElem?_take_of_lt (by omega), List.getElem?_drop] at this
  exact this
theorem ints1 {l : List Int} {i : Nat} (h : i < l.length) : ∃ x, ((intsC l).drop (i * 1)).take 1 = [.int .i64 x] := by
  have e : (((intsC l).drop (i * 1)).take 1).length = 1 := by rw [List.length_take, List.length_drop, intsC_len]; omega
  have e2 : ((intsC l).drop (i * 1)).take 1 = intsC ((l.drop (i * 1)).take 1) := by simp [intsC, List.map_drop, List.map_take]
  rw [e2] at e ⊢
  match hm : (l.drop (i * 1)).take 1 with
  | [x] => exact ⟨x, rfl⟩
  | [] => rw [hm] at e; cases e
  | _ :: _ :: _ => rw [hm] at e; simp [intsC] at e
theorem ints2 {l : List Int} {i : Nat} (h : i * 2 + 2 ≤ l.length) : ∃ x y, ((intsC l).drop (i * 2)).take 2 = [.int .i64 x, .int .i64 y] := by
  have e : (((intsC l).drop (i * 2)).take 2).length = 2 := by rw [List.length_take, List.length_drop, intsC_len]; omega
  have e2 : ((intsC l).drop (i * 2)).take 2 = intsC ((l.drop (i * 2)).take 2) := by simp [intsC, List.map_drop, List.map_take]
  rw [e2] at e ⊢
  match hm : (l.drop (i * 2)).take 2 with
  | [x, y] => exact ⟨x, y, rfl⟩
  | [] => rw [hm] at e; cases e
  | [_] => rw [hm] at e; cases e
  | _ :: _ :: _ :: _ => rw [hm] at e; simp [intsC] at e
theorem ints3 {l : List Int} {i : Nat} (h : i * 3 + 3 ≤ l.length) : ∃ x y z, ((intsC l).drop (i * 3)).take 3 = [.int .i64 x, .int .i64 y, .int .i64 z] := by
  have e : (((intsC l).drop (i * 3)).take 3).length = 3 := by rw [List.length_take, List.length_drop, intsC_len]; omega
  have e2 : ((intsC l).drop (i * 3)).take 3 = intsC ((l.drop (i * 3)).take 3) := by simp [intsC, List.map_drop, List.map_take]
  rw [e2] at e ⊢
  match hm : (l.drop (i * 3)).take 3 with
  | [x, y, z] => exact ⟨x, y, z, rfl⟩
  | [] => rw [hm] at e; cases e
  | [_] => rw [hm] at e; cases e
  | [_, _] => rw [hm] at e; cases e
  | _ :: _ :: _ :: _ :: _ => rw [hm] at e; simp [intsC] at e
theorem bools1 {l : List Bool} {i : Nat} (h : i < l.length) : ∃ x, ((boolsC l).drop (i * 1)).take 1 = [.bool x] := by
  have e : (((boolsC l).drop (i * 1)).take 1).length = 1 := by rw [List.length_take, List.length_drop, boolsC_len]; omega
  have e2 : ((boolsC l).drop (i * 1)).take 1 = boolsC ((l.drop (i * 1)).take 1) := by simp [boolsC, List.map_drop, List.map_take]
  rw [e2] at e ⊢
  match hm : (l.drop (i * 1)).take 1 with
  | [x] => exact ⟨x, rfl⟩
  | [] => rw [hm] at e; cases e
  | _ :: _ :: _ => rw [hm] at e; simp [boolsC] at e
end Go.Sym
namespace Go.Viv
open Go Go.RowKit Go.Eva Go.Sym
/-- The first place at which something holds. -/
def fidxC {α : Type} (q : α → Bool) : List α → Nat → Int
  | [], _ => -1
  | x :: l, k => if q x then (k : Int) else fidxC q l (k + 1)
theorem fidxC_at {α : Type} {q : α → Bool} {l : List α} {k : Nat} {x : α} (h : l[k]? = some x) : fidxC q (l.drop k) k = if q x then (k : Int) else fidxC q (l.drop (k + 1)) (k + 1) := by
  obtain ⟨h1, h2⟩ := List.getElem?_eq_some_iff.1 h
  rw [List.drop_eq_getElem_cons h1, h2]
  rfl
theorem fidxC_any {α : Type} (q : α → Bool) : ∀ (l : List α) (k : Nat), decide (0 ≤ fidxC q l k) = l.any q
  | [], k => by simp [fidxC]
  | x :: l, k => by
    have ih := fidxC_any q l (k + 1)
    by_cases h : q x = true
    · simp [fidxC, h]
    · simp only [fidxC, if_neg h, ih, List.any_cons]
      simp [h]
end Go.Viv
namespace Go.Proofs.YtmcigeebeoobdaaGreatDoor
open Go Go.RowKit Go.Viv Go.Eva Go.Sym
/-- A row of places, new: nil, or one block. -/
def rowNV (k : Nat) (p : List Nat) : Value := match p with
  | [] => .slice none 0 0
  | p => .slice (some ⟨k, 0, none⟩) p.length 0
def rowNO (p : List Nat) : List AObj := match p with
  | [] => []
  | p => [.cells (intsN p) 3 true]
theorem intsN_app (a b : List Nat) : intsN (a ++ b) = intsN a ++ intsN b := by simp [intsN, intsC]
theorem intsN_len (a : List Nat) : (intsN a).length = a.length := by simp [intsN, intsC]
theorem intsN_ren (κ : Nat → Nat) (a : List Nat) : renL κ (intsN a) = intsN a := intsC_ren κ _
theorem one_at {L : List Value} {j : Nat} {v : Value} (h : L[j]? = some v) : has (L.drop j) 1 = true ∧ List.take 1 (L.drop j) = [v] := by
  obtain ⟨h1, h2⟩ := List.getElem?_eq_some_iff.1 h
  refine ⟨has_one h1, ?_⟩
  rw [List.drop_eq_getElem_cons h1, h2]
  rfl
/-- One element is appended, in a run. -/
theorem append_on {P : Program} {h : Hp} {st xt e : TypeId} {k c : Nat} {z : List Value} (hu : P.underlying st = some (.slice e)) (hx : P.underlying xt = some (.slice e)) (hs : sizeB P e = some (k + 1)) (hz : plainZero P e = some z) (hzl : z.length = k + 1)
    (hb : Nat.ble (((P.info? e).map (·.bytes)).getD 10000000) 1000000 = true) {v : Value} {n B B' : Nat} {cs new : List Value} (hr : RowAt h.t e (k + 1) v n cs B) (hn : h.t.at_ B' = some (.cells new e true)) (hnl : new.length = k + 1) (hone : new.all oneB = true) (hne : B' ≠ B) (hlen : n ≤ 999999)
    {Q : Value × Hp → Prop} (hQ : ∀ h', RowAt h'.t e (k + 1) (.slice (some ⟨h.next, 0, none⟩) (n + 1) 0) (n + 1) (cs ++ new) h.next → h'.next = h.next + 1 → (∀ X, X ≠ B → X ≠ h.next → h'.t.at_ X = h.t.at_ X) → Q (.slice (some ⟨h.next, 0, none⟩) (n + 1) 0, h')) :
    onSome (appendB P h [st, xt] v (.slice (some ⟨B', 0, none⟩) 1 c)) Q := by
  obtain ⟨h', e1, e2, e3, e4⟩ := append_one (c := c) hu hx hs hz hzl hb hr hn hnl hone hne (by omega)
  exact ⟨_, e1, hQ h' e2 e3 e4⟩
/-- A row of one's own stands in a block that may be named, or in none. -/
theorem row_pick {t : Tr AObj} {e : TypeId} {k : Nat} {v : Value} {n B a b : Nat} {cs : List Value} (h : RowAt t e k v n cs B) (hk : n ≠ 0 → a ≤ B ∧ B < b) (hab : a ≤ b) : ∃ B', RowAt t e k v n cs B' ∧ a ≤ B' ∧ (B' < b ∨ b + 1000 ≤ B') ∧ (n ≠ 0 → B' < b) := by
  cases h with
  | nil => exact ⟨b + 1000, .nil _, by omega, .inr (Nat.le_refl _), fun h => absurd rfl h⟩
  | some h1 h2 =>
    obtain ⟨k1, k2⟩ := hk (by omega)
    exact ⟨B, .some h1 h2, k1, .inl k2, fun _ => k2⟩
theorem row_slice {t : Tr AObj} {k : Nat} {v : Value} {cs : List Value} (h : rowB t k v = some cs) : ∃ a n c, v = .slice a n c := by
  unfold rowB at h
  split at h <;> first | exact ⟨_, _, _, rfl⟩ | cases h
theorem _root_.Go.Sym.RowAt.frame2 {t t' : Tr AObj} {e : TypeId} {k : Nat} {v : Value} {n B : Nat} {cs : List Value} (h : RowAt t e k v n cs B) (hf : n ≠ 0 → t'.at_ B = t.at_ B) : RowAt t' e k v n cs B := by
  cases h with
  | nil => exact .nil B
  | some h hl => exact .some ((hf (by omega)).trans h) hl
/-- A row of one's own, in a block that is not another one. -/
theorem row_far {t : Tr AObj} {e : TypeId} {k : Nat} {v : Value} {n B b : Nat} {cs : List Value} (h : RowAt t e k v n cs B) (hk : n ≠ 0 → B < b) : ∃ B', RowAt t e k v n cs B' ∧ (n ≠ 0 → B' = B ∧ B' < b) ∧ (n = 0 → b + 1000 ≤ B') := by
  cases h with
  | nil => exact ⟨b + 1000, .nil _, fun h => absurd rfl h, fun _ => Nat.le_refl _⟩
  | some h1 h2 => exact ⟨B, .some h1 h2, fun _ => ⟨rfl, hk (by omega)⟩, fun h => absurd h (by omega)⟩
/-- A row that stands in one block from its start: of a room that is not known, or full. -/
inductive RowY (t : Tr AObj) (e : TypeId) (k : Nat) : Value → Nat → List Value → Nat → Prop
  | row {v : Value} {n B : Nat} {cs : List Value} (h : RowAt t e k v n cs B) : RowY t e k v n cs B
  | full {B n : Nat} {cs : List Value} (h : t.at_ B = Option.some (.cells cs e true)) (hl : cs.length = (n + 1) * k) : RowY t e k (.slice (Option.some ⟨B, 0, Option.none⟩) (n + 1) (n + 2)) (n + 1) cs B
theorem RowY.frame {t t' : Tr AObj} {e : TypeId} {k : Nat} {v : Value} {n B : Nat} {cs : List Value} (h : RowY t e k v n cs B) (hf : t'.at_ B = t.at_ B) : RowY t' e k v n cs B := by
  cases h with
  | row h => exact .row (h.frame hf)
  | full h hl => exact .full (hf.trans h) hl
end Go.Proofs.YtmcigeebeoobdaaGreatDoor
namespace Go.Sym
open Go Go.RowKit Go.Viv Go.Eva
theorem veq_int (k : IntKind) (z : Int) : veq (.int k z) (.int k z) = true := by simp [veq]
theorem veq_bool (b : Bool) : veq (.bool b) (.bool b) = true := by simp [veq]
theorem veq_ptr (B o : Nat) : veq (.pointer (some ⟨B, o, none⟩)) (.pointer (some ⟨B, o, none⟩)) = true := by simp [veq, Nat.beq_refl]
theorem veq_ptr0 : veq (.pointer none) (.pointer none) = true := by simp [veq]
theorem veq_sls (B o n c : Nat) : veq (.slice (some ⟨B, o, none⟩) n c) (.slice (some ⟨B, o, none⟩) n c) = true := by simp [veq, Nat.beq_refl]
theorem veq_sl0 (n c : Nat) : veq (.slice none n c) (.slice none n c) = true := by simp [veq, Nat.beq_refl]
theorem on_ex {x : Option (Value × Hp)} {v : Value} {p : Hp → Prop} {K : Value × Hp → Prop} (h : ∃ h', x = some (v, h') ∧ p h') (hK : ∀ h', p h' → K (v, h')) : onSome x K := by
  obtain ⟨h', e, hp⟩ := h
  exact ⟨_, e, hK h' hp⟩
theorem row_some {t : Tr AObj} {k n c : Nat} {a : Option Addr} {cs : List Value} (h : rowB t k (.slice a (n + 1) c) = some cs) (hk : 0 < k) : ∃ B o d e rw, a = some ⟨B, o, none⟩ ∧ t.at_ B = some (.cells d e rw) ∧ readCells d o ((n + 1) * k) = some cs := by
  unfold rowB at h
  split at h <;> try (cases h; done)
  · rename_i e; simp only [Value.slice.injEq] at e; omega
  · rename_i e; simp only [Value.slice.injEq] at e; omega
  · rename_i B o n' c' e
    simp only [Value.slice.injEq] at e
    obtain ⟨rfl, rfl, rfl⟩ := e
    split at h <;> try (cases h; done)
    rename_i d e rw hB
    exact ⟨B, o, d, e, rw, rfl, hB, h⟩
attribute [go_sem] veq_int veq_bool veq_ptr veq_ptr0 veq_sls veq_sl0
end Go.Sym
end
