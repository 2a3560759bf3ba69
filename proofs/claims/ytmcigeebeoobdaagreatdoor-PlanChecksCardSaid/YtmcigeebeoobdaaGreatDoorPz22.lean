/-
  The document's components of columns over the tree: Comps; In.
-/
import Derived.Test.YtmcigeebeoobdaaGreatDoorPz20
import Derived.Test.YtmcigeebeoobdaaGreatDoorPz21
set_option linter.unusedSimpArgs false
set_option linter.unusedVariables false
namespace Go.Viv
open Go Go.RowKit Go.Eva Go.Sym
def dcS (ks : List Int) (out : List Int) (x : Coln) : List Int := ks.foldl (fun o y => if x.k = y then insS x.c o else o) out
def dcF (ks : List Int) (l : List Coln) : List Int := l.foldl (dcS ks) []
theorem insS_len (i : Int) (l : List Int) : (insS i l).length ≤ l.length + 1 := by
  by_cases h : l[posS i l]? = some i
  · rw [insS_there h]; omega
  · rw [insS_new h]
    have := posS_le i l
    simp only [List.length_append, List.length_take, List.length_drop, List.length_singleton]
    omega
theorem dcS_take {ks : List Int} {out : List Int} {x : Coln} {k : Nat} {y : Int} (h : ks[k]? = some y) : dcS (ks.take (k + 1)) out x = if x.k = y then insS x.c (dcS (ks.take k) out x) else dcS (ks.take k) out x := by
  unfold dcS
  rw [List.take_add_one, h]
  simp only [Option.toList, List.foldl_append, List.foldl_cons, List.foldl_nil]
theorem dcS_rise {ks : List Int} {out : List Int} {x : Coln} (h : Rises out) : Rises (dcS ks out x) := by
  unfold dcS
  induction ks generalizing out with
  | nil => exact h
  | cons y ks ih =>
    rw [List.foldl_cons]
    refine ih ?_
    split
    · exact rises_insS h
    · exact h
theorem dcF_take {ks : List Int} {l : List Coln} {j : Nat} {x : Coln} (h : l[j]? = some x) : dcF ks (l.take (j + 1)) = dcS ks (dcF ks (l.take j)) x := by
  unfold dcF
  rw [List.take_add_one, h]
  simp only [Option.toList, List.foldl_append, List.foldl_cons, List.foldl_nil]
theorem dcF_rise (ks : List Int) (l : List Coln) : Rises (dcF ks l) := by
  unfold dcF
  have : ∀ (l : List Coln) (out : List Int), Rises out → Rises (l.foldl (dcS ks) out) := by
    intro l
    induction l with
    | nil => intro out h; exact h
    | cons x l ih => intro out h; exact ih _ (dcS_rise h)
  exact this l [] trivial
theorem dcS_len (ks : List Int) (out : List Int) (x : Coln) : (dcS ks out x).length ≤ out.length + ks.length := by
  unfold dcS
  induction ks generalizing out with
  | nil => simp
  | cons y ks ih =>
    rw [List.foldl_cons]
    refine Nat.le_trans (ih _) ?_
    split
    · have := insS_len x.c out
      simp only [List.length_cons]; omega
    · simp only [List.length_cons]; omega
theorem dcF_len (ks : List Int) (l : List Coln) : (dcF ks l).length ≤ l.length * ks.length := by
  unfold dcF
  have : ∀ (l : List Coln) (out : List Int), (l.foldl (dcS ks) out).length ≤ out.length + l.length * ks.length := by
    intro l
    induction l with
    | nil => intro out; simp
    | cons x l ih =>
      intro out
      rw [List.foldl_cons]
      have := ih (dcS ks out x)
      have := dcS_len ks out x
      rw [List.length_cons, Nat.add_mul, Nat.one_mul]
      omega
  have := this l []
  simpa using this
end Go.Viv
namespace Go.Proofs.YtmcigeebeoobdaaGreatDoor
open Go Go.RowKit Go.Viv Go.Eva Go.Sym
theorem with1_row {H : Hp} {w : Value} {D : List Int} {kk : Nat} {i : Int} (hr : RowAt H.t 3 1 w D.length (intsC D) kk) (hR : Rises D) (hl : D.length ≤ 1000) (hk : D.length ≠ 0 → kk < H.next) :
    ∃ h', (∃ w', cWith1 [w, .int .i64 i] H = some (w', h') ∧ ∃ kk', RowAt h'.t 3 1 w' (insS i D).length (intsC (insS i D)) kk' ∧ ((kk' = kk ∧ D.length ≠ 0) ∨ kk' = H.next) ∧ kk' < h'.next) ∧ H.next ≤ h'.next ∧ ∀ X, X < H.next → h'.t.at_ X = H.t.at_ X := by
  rcases hr.inv with ⟨h1, h2, _⟩ | ⟨h1, h2, h3, _⟩
  · obtain rfl := List.length_eq_zero_iff.1 h1
    subst h2
    exact ⟨_, ⟨_, rfl, H.next, .some (Tr.at_set_same _ _ _) rfl, .inr rfl, Nat.lt_succ_self _⟩, Nat.le_succ _, fun X hX => Tr.at_set_ne _ _ (by omega)⟩
  · obtain ⟨m, hm⟩ : ∃ m, D.length = m + 1 := ⟨D.length - 1, by omega⟩
    rw [hm] at h2
    subst h2
    by_cases hp : D[posS i D]? = some i
    · refine ⟨H, ⟨.slice (some ⟨kk, 0, none⟩) (m + 1) 0, ?_, kk, ?_, .inl ⟨rfl, by omega⟩, hk (by omega)⟩, Nat.le_refl _, fun _ _ => rfl⟩
      · simp only [cWith1, h3, intsL_of]
        rw [if_pos ⟨rfl, hm, by omega, hR⟩, if_pos hp]
      · rw [insS_there hp]; exact hr
    · refine ⟨⟨news H.t H.next [.cells (intsC (insS i D)) 3 true], H.next + 1⟩, ⟨.slice (some ⟨H.next, 0, none⟩) (m + 2) 0, ?_, H.next, ?_, .inr rfl, Nat.lt_succ_self _⟩, Nat.le_succ _, fun X hX => Tr.at_set_ne _ _ (by omega)⟩
      · simp only [cWith1, h3, intsL_of]
        rw [if_pos ⟨rfl, hm, by omega, hR⟩, if_neg hp]
      · have hl2 : (insS i D).length = m + 2 := by
          have h4 := posS_le i D
          rw [insS_new hp]
          simp only [List.length_append, List.length_take, List.length_drop, List.length_singleton]
          omega
        rw [hl2]
        exact .some (Tr.at_set_same _ _ _) (by rw [intsC_len, hl2]; omega)
def rowIV (b : Nat) (l : List Int) : Value := if l = [] then .slice none 0 0 else .slice (some ⟨b, 0, none⟩) l.length 0
def rowIO (l : List Int) : List AObj := if l = [] then [] else [.cells (intsC l) 3 true]
theorem endsF_rowI {s h : Hp} {p : List Int} {kk : Nat} {w u : Value} (hr : RowAt h.t 3 1 w p.length (intsC p) kk) (hk : p.length ≠ 0 → s.next ≤ kk) (hu : u = w) (hold : ∀ X, X < s.next → h.t.at_ X = s.t.at_ X) : ∃ ex, EndsF s [] ex (rowIO p) h (rowIV s.next p) u := by
  subst hu
  unfold rowIO rowIV
  rcases hr.inv with ⟨h1, h2, _⟩ | ⟨h1, h2, h3, _⟩
  · obtain rfl := List.length_eq_zero_iff.1 h1
    subst h2
    rw [if_pos rfl, if_pos rfl]
    exact ⟨[], List.nodup_nil, by simp, rfl, by simp, by simp, fun X hX _ => hold X hX, fun j ob hj => by simp at hj, Wk.of rfl⟩
  · have hne : p ≠ [] := fun e => by rw [e] at h1; simp at h1
    rw [if_neg hne, if_neg hne]
    exact endsF_one (hk (by omega)) h3 rfl (fun κ => intsC_ren κ _) h2 hold
noncomputable def cDComps : Sym.CallS := fun args s => match args with
  | [v, kv] => match (rowB s.t 2 v).bind colsL, (rowB s.t 1 kv).bind intsL with
    | some l, some ks => if l.length ≤ 16 ∧ ks.length ≤ 4 then some (rowIV s.next (dcF ks l), ⟨news s.t s.next (rowIO (dcF ks l)), s.next + (rowIO (dcF ks l)).length⟩) else none
    | _, _ => none
  | _ => none
section
variable {G : Nat} {ν : Toks} {W : World} {may : Nat → Prop} {call : CallB}
set_option maxRecDepth 4000 in
theorem dcomps_ok (hc : CallOK Tryz.prog G (LBegin Tryz.prog ν LL W may) ν call) (hwt : ∀ a h, call 68 a h = cWith1 a h) : SpecOK Tryz.prog G (LBegin Tryz.prog ν LL W may) ν 29 cDComps := by
  refine fun_ok rfl (by kernel_rfl) hc fun args s v h' e Lv hlv hG => ?_
  unfold cDComps at e
  split at e <;> try (cases e; done)
  rename_i v0 kv
  split at e <;> try (cases e; done)
  rename_i l ks hl hks
  split at e <;> try (cases e; done)
  rename_i hq
  obtain ⟨hl1, hk1⟩ := hq
  simp only [Option.some.injEq, Prod.mk.injEq] at e
  obtain ⟨rfl, rfl⟩ := e
  obtain ⟨vs, hv, hvs⟩ := Option.bind_eq_some_iff.1 hl
  obtain rfl := colsL_eq hvs
  obtain ⟨us, hu, hus⟩ := Option.bind_eq_some_iff.1 hks
  obtain rfl := intsL_eq hus
  have ltv : ∀ X, occ X v0 = true → X < s.next := fun X h => hlv.lt _ (hlv.arg X (by simp [occL, h]))
  have ltk : ∀ X, occ X kv = true → X < s.next := fun X h => hlv.lt _ (hlv.arg X (by simp [occL, h]))
  obtain ⟨a, n, c, rfl, hlen, hat⟩ := Go.Sym.row_at hv
  rw [colsC_len] at hlen
  obtain rfl : n = l.length := by omega
  obtain ⟨a', n', c', rfl, hlen', hat'⟩ := Go.Sym.row_at hu
  rw [intsC_len] at hlen'
  obtain rfl : n' = ks.length := by omega
  refine ⟨[], rowIO (dcF ks l), by cases s; rfl, 0, ?_⟩
  refine ⟨Tryz.f29, _, Tryz.func29, rfl, by simp [Tryz.f29], ?_⟩; rw [Tryz.ntmps29]
  repeat' (first | simp (disch := omega) only [go_sem, reduceIte, sliceB] | (with_reducible refine w_chain0 ?_ ?_; focus (decide +kernel)) | (with_reducible refine condK_of _ _ ?_ ?_ <;> (intro hb; try simp only [decide_eq_true_eq, decide_eq_false_iff_not] at hb)) | (with_reducible refine gdK_of_f _ _ _ _ _ ?_ ?_ <;> (intro hb; try simp only [decide_eq_true_eq, decide_eq_false_iff_not] at hb)) | (with_reducible refine gdK_of_t _ _ _ _ _ ?_ ?_ <;> (intro hb; try simp only [decide_eq_true_eq, decide_eq_false_iff_not] at hb)) | (with_reducible refine gK_of_f _ _ _ ?_ ?_ <;> (intro hb; try simp only [decide_eq_true_eq, decide_eq_false_iff_not] at hb)) | (with_reducible refine gK_of_t _ _ _ ?_ ?_ <;> (intro hb; try simp only [decide_eq_true_eq, decide_eq_false_iff_not] at hb)))
  refine w_loop (fun mm T1 h => ∃ (j : Nat) (w : Value) (kk : Nat), j ≤ l.length ∧ mm = l.length - j ∧ Eva.look T1 0 = .slice a l.length c ∧ Eva.look T1 1 = .slice a' ks.length c' ∧ Eva.look T1 6 = .int .i64 (j : Int) ∧ Eva.look T1 5 = w ∧ RowAt h.t 3 1 w (dcF ks (l.take j)).length (intsC (dcF ks (l.take j))) kk ∧ ((dcF ks (l.take j)).length ≠ 0 → s.next ≤ kk ∧ kk < h.next) ∧ s.next ≤ h.next ∧ ∀ X, X < s.next → h.t.at_ X = s.t.at_ X) l.length ?_ ?_
  · refine ⟨0, .slice none 0 0, 0, by omega, by omega, ?_, ?_, ?_, ?_, .nil 0, fun h => absurd rfl h, Nat.le_refl _, fun _ _ => rfl⟩ <;> (simp (disch := omega) only [go_sem, reduceIte, sliceB]) <;> rfl
  · rintro mm T1 h ⟨j, w, kk, hj, hmm, t0, t1, t6, t5, hrow, hkk, hnx, hold⟩
    by_cases hlt : j < l.length
    · obtain ⟨x, hx⟩ : ∃ x, l[j]? = some x := ⟨_, List.getElem?_eq_getElem hlt⟩
      obtain ⟨B, o, cs, ty, rw_, rfl, hB, g1, g2⟩ := hat j hlt
      rw [colsC_at hx] at g2
      obtain ⟨y1, y2⟩ := two_at g2
      have lB := ltv B (by simp [occ])
      have hnext := dcF_take (ks := ks) hx
      have hbnd : ∀ k, (dcS (ks.take k) (dcF ks (l.take j)) x).length ≤ 1000 := fun k => by
        have h1 := dcS_len (ks.take k) (dcF ks (l.take j)) x
        have h2 := dcF_len ks (l.take j)
        have h3 : (l.take j).length ≤ 16 := by rw [List.length_take]; omega
        have h4 : (ks.take k).length ≤ 4 := by rw [List.length_take]; omega
        have h5 : (l.take j).length * ks.length ≤ 16 * 4 := Nat.mul_le_mul h3 hk1
        omega
      repeat' (first | simp (disch := omega) only [go_sem, reduceIte, sliceB, t0, t1, t6, t5] | (with_reducible refine w_chain0 ?_ ?_; focus (decide +kernel)) | (with_reducible refine condK_of _ _ ?_ ?_ <;> (intro hb; try simp only [decide_eq_true_eq, decide_eq_false_iff_not] at hb)) | (with_reducible refine gdK_of_f _ _ _ _ _ ?_ ?_ <;> (intro hb; try simp only [decide_eq_true_eq, decide_eq_false_iff_not] at hb)) | (with_reducible refine gdK_of_t _ _ _ _ _ ?_ ?_ <;> (intro hb; try simp only [decide_eq_true_eq, decide_eq_false_iff_not] at hb)) | (with_reducible refine gK_of_f _ _ _ ?_ ?_ <;> (intro hb; try simp only [decide_eq_true_eq, decide_eq_false_iff_not] at hb)) | (with_reducible refine gK_of_t _ _ _ ?_ ?_ <;> (intro hb; try simp only [decide_eq_true_eq, decide_eq_false_iff_not] at hb)))
      refine w_loop (fun mm2 T2 h2 => ∃ (k : Nat) (w : Value) (kk : Nat), k ≤ ks.length ∧ mm2 = ks.length - k ∧ Eva.look T2 0 = .slice (some ⟨B, o, none⟩) l.length c ∧ Eva.look T2 1 = .slice a' ks.length c' ∧ Eva.look T2 6 = .int .i64 (j : Int) ∧ Eva.look T2 7 = .int .i64 (k : Int) ∧ Eva.look T2 5 = w ∧ RowAt h2.t 3 1 w (dcS (ks.take k) (dcF ks (l.take j)) x).length (intsC (dcS (ks.take k) (dcF ks (l.take j)) x)) kk ∧ ((dcS (ks.take k) (dcF ks (l.take j)) x).length ≠ 0 → s.next ≤ kk ∧ kk < h2.next) ∧ s.next ≤ h2.next ∧ ∀ X, X < s.next → h2.t.at_ X = s.t.at_ X) ks.length ?_ ?_
      · refine ⟨0, w, kk, by omega, by omega, ?_, ?_, ?_, ?_, ?_, hrow, hkk, hnx, hold⟩
        all_goals first
          | (simp (disch := omega) only [go_sem, reduceIte, sliceB, t0, t1, t6, t5]; done)
          | (simp (disch := omega) only [go_sem, reduceIte, sliceB, t0, t1, t6, t5]; rfl)
      · rintro mm2 T2 h2 ⟨k, w2, kk2, hk, hmm2, u0, u1, u6, u7, u5, hrow2, hkk2, hnx2, hold2⟩
        have oB := (hold2 B lB).trans hB
        by_cases hltk : k < ks.length
        · obtain ⟨y, hy⟩ : ∃ y, ks[k]? = some y := ⟨_, List.getElem?_eq_getElem hltk⟩
          obtain ⟨B', o', cs', ty', rw', rfl, hB', q1, q2⟩ := hat' k hltk
          rw [ints_at hy] at q2
          have q3 := Go.Sym.one_at q2
          have oB' := (hold2 B' (ltk B' (by simp [occ]))).trans hB'
          have hst := dcS_take (out := dcF ks (l.take j)) (x := x) hy
          by_cases hxy : x.k = y
          · rw [if_pos hxy] at hst
            obtain ⟨h7, ⟨w'', e7, kk'', r7, hk7, hk8⟩, n7, s7⟩ := with1_row (H := ⟨h2.t, h2.next + 64⟩) (i := x.c) hrow2 (dcS_rise (dcF_rise ks _)) (hbnd k) (fun h => by have := (hkk2 h).2; show _ < h2.next + 64; omega)
            rw [← hst] at r7
            try simp only at n7 s7 hk7
            repeat' (first | simp (disch := omega) only [go_sem, reduceIte, sliceB, u0, u1, u6, u7, u5, oB, oB', y1, y2, q3, hxy, hwt, Int.toNat_natCast] | (with_reducible refine w_chain0 ?_ ?_; focus (decide +kernel)) | (with_reducible refine condK_of _ _ ?_ ?_ <;> (intro hb; try simp only [decide_eq_true_eq, decide_eq_false_iff_not] at hb)) | (with_reducible refine gdK_of_f _ _ _ _ _ ?_ ?_ <;> (intro hb; try simp only [decide_eq_true_eq, decide_eq_false_iff_not] at hb)) | (with_reducible refine gdK_of_t _ _ _ _ _ ?_ ?_ <;> (intro hb; try simp only [decide_eq_true_eq, decide_eq_false_iff_not] at hb)) | (with_reducible refine gK_of_f _ _ _ ?_ ?_ <;> (intro hb; try simp only [decide_eq_true_eq, decide_eq_false_iff_not] at hb)) | (with_reducible refine gK_of_t _ _ _ ?_ ?_ <;> (intro hb; try simp only [decide_eq_true_eq, decide_eq_false_iff_not] at hb)))
            refine ⟨_, e7, ?_⟩
            repeat' (first | simp (disch := omega) only [go_sem, reduceIte, sliceB, u0, u1, u6, u7, u5] | (with_reducible refine w_chain0 ?_ ?_; focus (decide +kernel)) | (with_reducible refine condK_of _ _ ?_ ?_ <;> (intro hb; try simp only [decide_eq_true_eq, decide_eq_false_iff_not] at hb)) | (with_reducible refine gdK_of_f _ _ _ _ _ ?_ ?_ <;> (intro hb; try simp only [decide_eq_true_eq, decide_eq_false_iff_not] at hb)) | (with_reducible refine gdK_of_t _ _ _ _ _ ?_ ?_ <;> (intro hb; try simp only [decide_eq_true_eq, decide_eq_false_iff_not] at hb)) | (with_reducible refine gK_of_f _ _ _ ?_ ?_ <;> (intro hb; try simp only [decide_eq_true_eq, decide_eq_false_iff_not] at hb)) | (with_reducible refine gK_of_t _ _ _ ?_ ?_ <;> (intro hb; try simp only [decide_eq_true_eq, decide_eq_false_iff_not] at hb)))
            refine ⟨ks.length - (k + 1), by omega, k + 1, _, kk'', by omega, rfl, by simp, rfl, r7, fun h => ?_, by omega, fun X hX => (s7 X (by omega)).trans (hold2 X hX)⟩
            rcases hk7 with ⟨rfl, z1⟩ | rfl
            · exact ⟨(hkk2 z1).1, hk8⟩
            · exact ⟨by omega, hk8⟩
          · rw [if_neg hxy] at hst
            rw [← hst] at hrow2 hkk2
            repeat' (first | simp (disch := omega) only [go_sem, reduceIte, sliceB, u0, u1, u6, u7, u5, oB, oB', y1, y2, q3, hxy, Int.toNat_natCast] | (with_reducible refine w_chain0 ?_ ?_; focus (decide +kernel)) | (with_reducible refine condK_of _ _ ?_ ?_ <;> (intro hb; try simp only [decide_eq_true_eq, decide_eq_false_iff_not] at hb)) | (with_reducible refine gdK_of_f _ _ _ _ _ ?_ ?_ <;> (intro hb; try simp only [decide_eq_true_eq, decide_eq_false_iff_not] at hb)) | (with_reducible refine gdK_of_t _ _ _ _ _ ?_ ?_ <;> (intro hb; try simp only [decide_eq_true_eq, decide_eq_false_iff_not] at hb)) | (with_reducible refine gK_of_f _ _ _ ?_ ?_ <;> (intro hb; try simp only [decide_eq_true_eq, decide_eq_false_iff_not] at hb)) | (with_reducible refine gK_of_t _ _ _ ?_ ?_ <;> (intro hb; try simp only [decide_eq_true_eq, decide_eq_false_iff_not] at hb)))
            exact ⟨ks.length - (k + 1), by omega, k + 1, _, kk2, by omega, rfl, by simp, rfl, hrow2, fun h => by have := hkk2 h; omega, by omega, hold2⟩
        · obtain rfl : k = ks.length := by omega
          rw [List.take_length, ← hnext] at hrow2 hkk2
          repeat' (first | simp (disch := omega) only [go_sem, reduceIte, sliceB, u0, u1, u6, u7, u5] | (with_reducible refine w_chain0 ?_ ?_; focus (decide +kernel)) | (with_reducible refine condK_of _ _ ?_ ?_ <;> (intro hb; try simp only [decide_eq_true_eq, decide_eq_false_iff_not] at hb)) | (with_reducible refine gdK_of_f _ _ _ _ _ ?_ ?_ <;> (intro hb; try simp only [decide_eq_true_eq, decide_eq_false_iff_not] at hb)) | (with_reducible refine gdK_of_t _ _ _ _ _ ?_ ?_ <;> (intro hb; try simp only [decide_eq_true_eq, decide_eq_false_iff_not] at hb)) | (with_reducible refine gK_of_f _ _ _ ?_ ?_ <;> (intro hb; try simp only [decide_eq_true_eq, decide_eq_false_iff_not] at hb)) | (with_reducible refine gK_of_t _ _ _ ?_ ?_ <;> (intro hb; try simp only [decide_eq_true_eq, decide_eq_false_iff_not] at hb)))
          exact ⟨l.length - (j + 1), by omega, j + 1, _, kk2, by omega, rfl, by simp, rfl, hrow2, hkk2, hnx2, hold2⟩
    · obtain rfl : j = l.length := by omega
      rw [List.take_length] at hrow hkk
      repeat' (first | simp (disch := omega) only [go_sem, reduceIte, sliceB, t0, t1, t6, t5, Tryz.results29] | (with_reducible refine w_chain0 ?_ ?_; focus (decide +kernel)) | (with_reducible refine condK_of _ _ ?_ ?_ <;> (intro hb; try simp only [decide_eq_true_eq, decide_eq_false_iff_not] at hb)) | (with_reducible refine gdK_of_f _ _ _ _ _ ?_ ?_ <;> (intro hb; try simp only [decide_eq_true_eq, decide_eq_false_iff_not] at hb)) | (with_reducible refine gdK_of_t _ _ _ _ _ ?_ ?_ <;> (intro hb; try simp only [decide_eq_true_eq, decide_eq_false_iff_not] at hb)) | (with_reducible refine gK_of_f _ _ _ ?_ ?_ <;> (intro hb; try simp only [decide_eq_true_eq, decide_eq_false_iff_not] at hb)) | (with_reducible refine gK_of_t _ _ _ ?_ ?_ <;> (intro hb; try simp only [decide_eq_true_eq, decide_eq_false_iff_not] at hb)))
      exact endsF_rowI hrow (fun h => (hkk h).1) rfl hold
def cReads : Sym.CallS := fun args s => match args with
  | [v] => match (rowB s.t 2 v).bind colsL with
    | some l => if apart (sortI (compF [1, 3, 4] l)) = true ∧ l.length ≤ 1000 then some (rowKV s.next (sortI (compF [1, 3, 4] l)), ⟨news s.t s.next (rowKO (sortI (compF [1, 3, 4] l))), s.next + (rowKO (sortI (compF [1, 3, 4] l))).length⟩) else none
    | none => none
  | _ => none
theorem reads_ok (hc : CallOK Tryz.prog G (LBegin Tryz.prog ν LL W may) ν call) (hcm : ∀ a h, call 67 a h = cComps a h) : SpecOK Tryz.prog G (LBegin Tryz.prog ν LL W may) ν 28 cReads := by
  refine fun_ok rfl (by kernel_rfl) hc fun args s v h' e Lv hlv hG => ?_
  unfold cReads at e
  split at e <;> try (cases e; done)
  rename_i v0
  split at e <;> try (cases e; done)
  rename_i l hl
  split at e <;> try (cases e; done)
  rename_i hq
  obtain ⟨ha1, hl1⟩ := hq
  simp only [Option.some.injEq, Prod.mk.injEq] at e
  obtain ⟨rfl, rfl⟩ := e
  have ltv : ∀ X, occ X v0 = true → X < s.next := fun X h => hlv.lt _ (hlv.arg X (by simp [occL, h]))
  have hv : ∀ H : Hp, (∀ X, X < s.next → H.t.at_ X = s.t.at_ X) → (rowB H.t 2 v0).bind colsL = some l := fun H hf => by
    rw [rowB_frame (t := s.t) fun X h => hf X (ltv X h)]; exact hl
  have hr : ∀ (H : Hp) (B : Nat) (ks : List Int) (c : Nat), H.t.at_ B = some (.cells (intsC ks) 3 true) → (rowB H.t 1 (.slice (some ⟨B, 0, none⟩) ks.length c)).bind intsL = some ks := fun H B ks c hB => by
    simp only [rowB, hB]
    unfold readCells
    rw [List.drop_zero, Nat.mul_one, has_le (by rw [intsC_len]; omega), List.take_of_length_le (by rw [intsC_len]; omega)]
    exact intsL_of _
  cases e1 : sortI (compF [1, 3, 4] l) with
  | nil =>
    have d1 : ∀ (H : Hp) (kv : Value), (rowB H.t 2 v0).bind colsL = some l → (rowB H.t 1 kv).bind intsL = some [1, 3, 4] → cComps [v0, kv] H = some (.slice none 0 0, H) := fun H kv h1 h2 => by
      have := cComps_eq h1 h2 ha1 hl1 (by simp)
      rw [e1] at this
      exact this
    refine ⟨[], [], by cases s; rfl, 0, ?_⟩
    show wpF _ _ _ _ _ _ fun u h1 => ∃ ex, EndsF s [] ex [] h1 (.slice none 0 0) u
    refine ⟨Tryz.f28, _, Tryz.func28, rfl, by simp [Tryz.f28], ?_⟩; rw [Tryz.ntmps28]
    repeat' (first | simp (disch := omega) only [go_sem, reduceIte, sliceB, hcm] | (with_reducible refine w_chain0 ?_ ?_; focus (decide +kernel)) | (with_reducible refine condK_of _ _ ?_ ?_ <;> (intro hb; try simp only [decide_eq_true_eq, decide_eq_false_iff_not] at hb)) | (with_reducible refine gdK_of_f _ _ _ _ _ ?_ ?_ <;> (intro hb; try simp only [decide_eq_true_eq, decide_eq_false_iff_not] at hb)) | (with_reducible refine gdK_of_t _ _ _ _ _ ?_ ?_ <;> (intro hb; try simp only [decide_eq_true_eq, decide_eq_false_iff_not] at hb)) | (with_reducible refine gK_of_f _ _ _ ?_ ?_ <;> (intro hb; try simp only [decide_eq_true_eq, decide_eq_false_iff_not] at hb)) | (with_reducible refine gK_of_t _ _ _ ?_ ?_ <;> (intro hb; try simp only [decide_eq_true_eq, decide_eq_false_iff_not] at hb)))
    refine ⟨_, d1 _ _ (hv _ fun X hX => ?_) (hr _ s.next [1, 3, 4] _ ?_), ?_⟩
    · simp (disch := omega) only [go_sem, reduceIte, sliceB]
    · simp (disch := omega) only [go_sem, reduceIte, sliceB]
      rfl
    repeat' (first | simp (disch := omega) only [go_sem, reduceIte, sliceB, Tryz.results28] | (with_reducible refine w_chain0 ?_ ?_; focus (decide +kernel)) | (with_reducible refine condK_of _ _ ?_ ?_ <;> (intro hb; try simp only [decide_eq_true_eq, decide_eq_false_iff_not] at hb)) | (with_reducible refine gdK_of_f _ _ _ _ _ ?_ ?_ <;> (intro hb; try simp only [decide_eq_true_eq, decide_eq_false_iff_not] at hb)) | (with_reducible refine gdK_of_t _ _ _ _ _ ?_ ?_ <;> (intro hb; try simp only [decide_eq_true_eq, decide_eq_false_iff_not] at hb)) | (with_reducible refine gK_of_f _ _ _ ?_ ?_ <;> (intro hb; try simp only [decide_eq_true_eq, decide_eq_false_iff_not] at hb)) | (with_reducible refine gK_of_t _ _ _ ?_ ?_ <;> (intro hb; try simp only [decide_eq_true_eq, decide_eq_false_iff_not] at hb)))
    all_goals (refine ends_mk [] ?_ rfl ?_ ?_ ?_ ?_ <;> (try (intro X hX1 hX2; simp only [KeyIn, or_false, not_or, not_false_eq_true] at hX2)) <;> (try simp (disch := omega) only [go_sem, reduceIte, sliceB, AllMods, DistG, KeyIn, setL, news, not_false_eq_true, or_false, not_or, ne_eq, AllAt, AllObs, Dist, NotIn, kap_zero, kap_succ, kap_nil, inv_lt, inv_self, inv_add, ren_int, intsC_ren, and_true, and_self]) <;> (try omega))
  | cons b r =>
    have d1 : ∀ (H : Hp) (kv : Value), (rowB H.t 2 v0).bind colsL = some l → (rowB H.t 1 kv).bind intsL = some [1, 3, 4] → cComps [v0, kv] H = some (.slice (some ⟨H.next, 0, none⟩) (r.length + 1) (r.length + 2), ⟨H.t.set H.next (some (.cells (intsC (b :: r)) 3 true)), H.next + 1⟩) := fun H kv h1 h2 => by
      have := cComps_eq h1 h2 ha1 hl1 (by simp)
      rw [e1] at this
      exact this
    refine ⟨[], [.cells (intsC (b :: r)) 3 true], rfl, 0, ?_⟩
    show wpF _ _ _ _ _ _ fun u h1 => ∃ ex, EndsF s [] ex [.cells (intsC (b :: r)) 3 true] h1 (.slice (some ⟨s.next, 0, none⟩) (r.length + 1) (r.length + 2)) u
    refine ⟨Tryz.f28, _, Tryz.func28, rfl, by simp [Tryz.f28], ?_⟩; rw [Tryz.ntmps28]
    repeat' (first | simp (disch := omega) only [go_sem, reduceIte, sliceB, hcm] | (with_reducible refine w_chain0 ?_ ?_; focus (decide +kernel)) | (with_reducible refine condK_of _ _ ?_ ?_ <;> (intro hb; try simp only [decide_eq_true_eq, decide_eq_false_iff_not] at hb)) | (with_reducible refine gdK_of_f _ _ _ _ _ ?_ ?_ <;> (intro hb; try simp only [decide_eq_true_eq, decide_eq_false_iff_not] at hb)) | (with_reducible refine gdK_of_t _ _ _ _ _ ?_ ?_ <;> (intro hb; try simp only [decide_eq_true_eq, decide_eq_false_iff_not] at hb)) | (with_reducible refine gK_of_f _ _ _ ?_ ?_ <;> (intro hb; try simp only [decide_eq_true_eq, decide_eq_false_iff_not] at hb)) | (with_reducible refine gK_of_t _ _ _ ?_ ?_ <;> (intro hb; try simp only [decide_eq_true_eq, decide_eq_false_iff_not] at hb)))
    refine ⟨_, d1 _ _ (hv _ fun X hX => ?_) (hr _ s.next [1, 3, 4] _ ?_), ?_⟩
    · simp (disch := omega) only [go_sem, reduceIte, sliceB]
    · simp (disch := omega) only [go_sem, reduceIte, sliceB]
      rfl
    repeat' (first | simp (disch := omega) only [go_sem, reduceIte, sliceB, Tryz.results28] | (with_reducible refine w_chain0 ?_ ?_; focus (decide +kernel)) | (with_reducible refine condK_of _ _ ?_ ?_ <;> (intro hb; try simp only [decide_eq_true_eq, decide_eq_false_iff_not] at hb)) | (with_reducible refine gdK_of_f _ _ _ _ _ ?_ ?_ <;> (intro hb; try simp only [decide_eq_true_eq, decide_eq_false_iff_not] at hb)) | (with_reducible refine gdK_of_t _ _ _ _ _ ?_ ?_ <;> (intro hb; try simp only [decide_eq_true_eq, decide_eq_false_iff_not] at hb)) | (with_reducible refine gK_of_f _ _ _ ?_ ?_ <;> (intro hb; try simp only [decide_eq_true_eq, decide_eq_false_iff_not] at hb)) | (with_reducible refine gK_of_t _ _ _ ?_ ?_ <;> (intro hb; try simp only [decide_eq_true_eq, decide_eq_false_iff_not] at hb)))
    all_goals (refine ends_mk [s.next + 1] ?_ rfl ?_ ?_ ?_ ?_ <;> (try (intro X hX1 hX2; simp only [KeyIn, or_false, not_or, not_false_eq_true] at hX2)) <;> (try simp (disch := omega) only [go_sem, reduceIte, sliceB, AllMods, DistG, KeyIn, setL, news, not_false_eq_true, or_false, not_or, ne_eq, AllAt, AllObs, Dist, NotIn, kap_zero, kap_succ, kap_nil, inv_lt, inv_self, inv_add, ren_int, intsC_ren, and_true, and_self, intsC_ren]) <;> (try omega))
def cWrites : Sym.CallS := fun args s => match args with
  | [v] => match (rowB s.t 2 v).bind colsL with
    | some l => if apart (sortI (compF [2] l)) = true ∧ l.length ≤ 1000 then some (rowKV s.next (sortI (compF [2] l)), ⟨news s.t s.next (rowKO (sortI (compF [2] l))), s.next + (rowKO (sortI (compF [2] l))).length⟩) else none
    | none => none
  | _ => none
theorem writes_ok (hc : CallOK Tryz.prog G (LBegin Tryz.prog ν LL W may) ν call) (hcm : ∀ a h, call 67 a h = cComps a h) : SpecOK Tryz.prog G (LBegin Tryz.prog ν LL W may) ν 30 cWrites := by
  refine fun_ok rfl (by kernel_rfl) hc fun args s v h' e Lv hlv hG => ?_
  unfold cWrites at e
  split at e <;> try (cases e; done)
  rename_i v0
  split at e <;> try (cases e; done)
  rename_i l hl
  split at e <;> try (cases e; done)
  rename_i hq
  obtain ⟨ha1, hl1⟩ := hq
  simp only [Option.some.injEq, Prod.mk.injEq] at e
  obtain ⟨rfl, rfl⟩ := e
  have ltv : ∀ X, occ X v0 = true → X < s.next := fun X h => hlv.lt _ (hlv.arg X (by simp [occL, h]))
  have hv : ∀ H : Hp, (∀ X, X < s.next → H.t.at_ X = s.t.at_ X) → (rowB H.t 2 v0).bind colsL = some l := fun H hf => by
    rw [rowB_frame (t := s.t) fun X h => hf X (ltv X h)]; exact hl
  have hr : ∀ (H : Hp) (B : Nat) (ks : List Int) (c : Nat), H.t.at_ B = some (.cells (intsC ks) 3 true) → (rowB H.t 1 (.slice (some ⟨B, 0, none⟩) ks.length c)).bind intsL = some ks := fun H B ks c hB => by
    simp only [rowB, hB]
    unfold readCells
    rw [List.drop_zero, Nat.mul_one, has_le (by rw [intsC_len]; omega), List.take_of_length_le (by rw [intsC_len]; omega)]
    exact intsL_of _
  cases e1 : sortI (compF [2] l) with
  | nil =>
    have d1 : ∀ (H : Hp) (kv : Value), (rowB H.t 2 v0).bind colsL = some l → (rowB H.t 1 kv).bind intsL = some [2] → cComps [v0, kv] H = some (.slice none 0 0, H) := fun H kv h1 h2 => by
      have := cComps_eq h1 h2 ha1 hl1 (by simp)
      rw [e1] at this
      exact this
    refine ⟨[], [], by cases s; rfl, 0, ?_⟩
    show wpF _ _ _ _ _ _ fun u h1 => ∃ ex, EndsF s [] ex [] h1 (.slice none 0 0) u
    refine ⟨Tryz.f30, _, Tryz.func30, rfl, by simp [Tryz.f30], ?_⟩; rw [Tryz.ntmps30]
    repeat' (first | simp (disch := omega) only [go_sem, reduceIte, sliceB, hcm] | (with_reducible refine w_chain0 ?_ ?_; focus (decide +kernel)) | (with_reducible refine condK_of _ _ ?_ ?_ <;> (intro hb; try simp only [decide_eq_true_eq, decide_eq_false_iff_not] at hb)) | (with_reducible refine gdK_of_f _ _ _ _ _ ?_ ?_ <;> (intro hb; try simp only [decide_eq_true_eq, decide_eq_false_iff_not] at hb)) | (with_reducible refine gdK_of_t _ _ _ _ _ ?_ ?_ <;> (intro hb; try simp only [decide_eq_true_eq, decide_eq_false_iff_not] at hb)) | (with_reducible refine gK_of_f _ _ _ ?_ ?_ <;> (intro hb; try simp only [decide_eq_true_eq, decide_eq_false_iff_not] at hb)) | (with_reducible refine gK_of_t _ _ _ ?_ ?_ <;> (intro hb; try simp only [decide_eq_true_eq, decide_eq_false_iff_not] at hb)))
    refine ⟨_, d1 _ _ (hv _ fun X hX => ?_) (hr _ s.next [2] _ ?_), ?_⟩
    · simp (disch := omega) only [go_sem, reduceIte, sliceB]
    · simp (disch := omega) only [go_sem, reduceIte, sliceB]
      rfl
    repeat' (first | simp (disch := omega) only [go_sem, reduceIte, sliceB, Tryz.results30] | (with_reducible refine w_chain0 ?_ ?_; focus (decide +kernel)) | (with_reducible refine condK_of _ _ ?_ ?_ <;> (intro hb; try simp only [decide_eq_true_eq, decide_eq_false_iff_not] at hb)) | (with_reducible refine gdK_of_f _ _ _ _ _ ?_ ?_ <;> (intro hb; try simp only [decide_eq_true_eq, decide_eq_false_iff_not] at hb)) | (with_reducible refine gdK_of_t _ _ _ _ _ ?_ ?_ <;> (intro hb; try simp only [decide_eq_true_eq, decide_eq_false_iff_not] at hb)) | (with_reducible refine gK_of_f _ _ _ ?_ ?_ <;> (intro hb; try simp only [decide_eq_true_eq, decide_eq_false_iff_not] at hb)) | (with_reducible refine gK_of_t _ _ _ ?_ ?_ <;> (intro hb; try simp only [decide_eq_true_eq, decide_eq_false_iff_not] at hb)))
    all_goals (refine ends_mk [] ?_ rfl ?_ ?_ ?_ ?_ <;> (try (intro X hX1 hX2; simp only [KeyIn, or_false, not_or, not_false_eq_true] at hX2)) <;> (try simp (disch := omega) only [go_sem, reduceIte, sliceB, AllMods, DistG, KeyIn, setL, news, not_false_eq_true, or_false, not_or, ne_eq, AllAt, AllObs, Dist, NotIn, kap_zero, kap_succ, kap_nil, inv_lt, inv_self, inv_add, ren_int, intsC_ren, and_true, and_self]) <;> (try omega))
  | cons b r =>
    have d1 : ∀ (H : Hp) (kv : Value), (rowB H.t 2 v0).bind colsL = some l → (rowB H.t 1 kv).bind intsL = some [2] → cComps [v0, kv] H = some (.slice (some ⟨H.next, 0, none⟩) (r.length + 1) (r.length + 2), ⟨H.t.set H.next (some (.cells (intsC (b :: r)) 3 true)), H.next + 1⟩) := fun H kv h1 h2 => by
      have := cComps_eq h1 h2 ha1 hl1 (by simp)
      rw [e1] at this
      exact this
    refine ⟨[], [.cells (intsC (b :: r)) 3 true], rfl, 0, ?_⟩
    show wpF _ _ _ _ _ _ fun u h1 => ∃ ex, EndsF s [] ex [.cells (intsC (b :: r)) 3 true] h1 (.slice (some ⟨s.next, 0, none⟩) (r.length + 1) (r.length + 2)) u
    refine ⟨Tryz.f30, _, Tryz.func30, rfl, by simp [Tryz.f30], ?_⟩; rw [Tryz.ntmps30]
    repeat' (first | simp (disch := omega) only [go_sem, reduceIte, sliceB, hcm] | (with_reducible refine w_chain0 ?_ ?_; focus (decide +kernel)) | (with_reducible refine condK_of _ _ ?_ ?_ <;> (intro hb; try simp only [decide_eq_true_eq, decide_eq_false_iff_not] at hb)) | (with_reducible refine gdK_of_f _ _ _ _ _ ?_ ?_ <;> (intro hb; try simp only [decide_eq_true_eq, decide_eq_false_iff_not] at hb)) | (with_reducible refine gdK_of_t _ _ _ _ _ ?_ ?_ <;> (intro hb; try simp only [decide_eq_true_eq, decide_eq_false_iff_not] at hb)) | (with_reducible refine gK_of_f _ _ _ ?_ ?_ <;> (intro hb; try simp only [decide_eq_true_eq, decide_eq_false_iff_not] at hb)) | (with_reducible refine gK_of_t _ _ _ ?_ ?_ <;> (intro hb; try simp only [decide_eq_true_eq, decide_eq_false_iff_not] at hb)))
    refine ⟨_, d1 _ _ (hv _ fun X hX => ?_) (hr _ s.next [2] _ ?_), ?_⟩
    · simp (disch := omega) only [go_sem, reduceIte, sliceB]
    · simp (disch := omega) only [go_sem, reduceIte, sliceB]
      rfl
    repeat' (first | simp (disch := omega) only [go_sem, reduceIte, sliceB, Tryz.results30] | (with_reducible refine w_chain0 ?_ ?_; focus (decide +kernel)) | (with_reducible refine condK_of _ _ ?_ ?_ <;> (intro hb; try simp only [decide_eq_true_eq, decide_eq_false_iff_not] at hb)) | (with_reducible refine gdK_of_f _ _ _ _ _ ?_ ?_ <;> (intro hb; try simp only [decide_eq_true_eq, decide_eq_false_iff_not] at hb)) | (with_reducible refine gdK_of_t _ _ _ _ _ ?_ ?_ <;> (intro hb; try simp only [decide_eq_true_eq, decide_eq_false_iff_not] at hb)) | (with_reducible refine gK_of_f _ _ _ ?_ ?_ <;> (intro hb; try simp only [decide_eq_true_eq, decide_eq_false_iff_not] at hb)) | (with_reducible refine gK_of_t _ _ _ ?_ ?_ <;> (intro hb; try simp only [decide_eq_true_eq, decide_eq_false_iff_not] at hb)))
    all_goals (refine ends_mk [s.next + 1] ?_ rfl ?_ ?_ ?_ ?_ <;> (try (intro X hX1 hX2; simp only [KeyIn, or_false, not_or, not_false_eq_true] at hX2)) <;> (try simp (disch := omega) only [go_sem, reduceIte, sliceB, AllMods, DistG, KeyIn, setL, news, not_false_eq_true, or_false, not_or, ne_eq, AllAt, AllObs, Dist, NotIn, kap_zero, kap_succ, kap_nil, inv_lt, inv_self, inv_add, ren_int, intsC_ren, and_true, and_self, intsC_ren]) <;> (try omega))
open Classical in
noncomputable def cIn1 : Sym.CallS := fun args s => match args with
  | [v, .int .i64 i] => match (rowB s.t 1 v).bind intsL with
    | some l => if Rises l ∧ l.length ≤ 1000000 then some (.bool (decide (l[posS i l]? = some i)), s) else none
    | none => none
  | _ => none
theorem in1_ok (hc : CallOK Tryz.prog G (LBegin Tryz.prog ν LL W may) ν call) (hat : ∀ a h, call 33 a h = cAt1 a h) : SpecOK Tryz.prog G (LBegin Tryz.prog ν LL W may) ν 13 cIn1 := by
  refine fun_ok rfl (by kernel_rfl) hc fun args s v h' e Lv hlv hG => ?_
  unfold cIn1 at e
  split at e <;> try (cases e; done)
  rename_i v0 i
  split at e <;> try (cases e; done)
  rename_i l hl
  split at e <;> try (cases e; done)
  rename_i hq
  simp only [Option.some.injEq, Prod.mk.injEq] at e
  obtain ⟨rfl, rfl⟩ := e
  have ha := cAt1_eq (i := i) hl hq.1 hq.2
  refine ⟨[], [], by cases s; rfl, 0, ?_⟩
  refine ⟨Tryz.f13, _, Tryz.func13, rfl, by simp [Tryz.f13], ?_⟩; rw [Tryz.ntmps13]
  repeat' (first | simp (disch := omega) only [go_sem, reduceIte, sliceB, hat, ha, Tryz.results13] | (with_reducible refine w_chain0 ?_ ?_; focus (decide +kernel)) | (with_reducible refine condK_of _ _ ?_ ?_ <;> (intro hb; try simp only [decide_eq_true_eq, decide_eq_false_iff_not] at hb)) | (with_reducible refine gdK_of_f _ _ _ _ _ ?_ ?_ <;> (intro hb; try simp only [decide_eq_true_eq, decide_eq_false_iff_not] at hb)) | (with_reducible refine gdK_of_t _ _ _ _ _ ?_ ?_ <;> (intro hb; try simp only [decide_eq_true_eq, decide_eq_false_iff_not] at hb)) | (with_reducible refine gK_of_f _ _ _ ?_ ?_ <;> (intro hb; try simp only [decide_eq_true_eq, decide_eq_false_iff_not] at hb)) | (with_reducible refine gK_of_t _ _ _ ?_ ?_ <;> (intro hb; try simp only [decide_eq_true_eq, decide_eq_false_iff_not] at hb)))
  all_goals (refine ends_mk [] ?_ rfl ?_ ?_ ?_ ?_ <;> (try (intro X hX1 hX2; simp only [KeyIn, or_false, not_or, not_false_eq_true] at hX2)) <;> (try simp (disch := omega) only [go_sem, reduceIte, sliceB, AllMods, DistG, KeyIn, setL, news, not_false_eq_true, or_false, not_or, ne_eq, AllAt, AllObs, Dist, NotIn, kap_zero, kap_succ, kap_nil, inv_lt, inv_self, inv_add, ren_int, intsC_ren, and_true, and_self]) <;> (try omega))
end
end Go.Proofs.YtmcigeebeoobdaaGreatDoor
