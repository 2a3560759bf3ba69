/-
  Several texts in one. A run of a closed call: what only reads. No program in sight.
-/
import Derived.Test.YtclmjcjaebonnaaGreatDoorSx01
import Derived.Laws.CopyRow
import Derived.Laws.StructEq
section
set_option linter.unusedSimpArgs false
set_option linter.unusedVariables false
namespace Go.Eva
open Go Go.RowKit Go.Viv

theorem has_spec {α : Type} : ∀ {l : List α} {n : Nat}, has l n = true → n ≤ l.length
  | _, 0, _ => Nat.zero_le _
  | [], n + 1, h => by simp [has] at h
  | _ :: l, n + 1, h => by simp only [has] at h; have := has_spec h; simp; omega
theorem ble_iff {a b : Nat} (h : Nat.ble a b = true) : a ≤ b := Nat.le_of_ble_eq_true h
theorem blt_iff {a b : Nat} (h : Nat.blt a b = true) : a < b := Nat.le_of_ble_eq_true h
theorem beq_iff {a b : Nat} (h : Nat.beq a b = true) : a = b := Nat.eq_of_beq_eq_true h

section
variable {P : Program} {w : World}
theorem run_size {t : TypeId} {n : Nat} (h : sizeB P t = some n) : (sizeOf t).run P w = .ok n w := by
  unfold sizeB at h
  cases hi : P.info? t with
  | none => rw [hi] at h; cases h
  | some i => rw [hi] at h; simp at h; simp [sizeOf, typeInfo, hi, h]
theorem run_agg {t : TypeId} {b : Bool} (h : isAggB P t = some b) : (isAgg t).run P w = .ok b w := by
  unfold isAggB at h
  cases hu : P.underlying t with
  | none => rw [hu] at h; cases h
  | some d => rw [hu] at h; simp at h; simp only [isAgg, Sem.run_bind, run_underlying hu, Result.andThen_ok]; cases d <;> simp_all
theorem run_zero {t : TypeId} {z : List Value} (h : zeroB P t = some z) : ∃ v, (zeroValue t).run P w = .ok v w ∧ v.cells.toList = z := by
  unfold zeroB at h
  cases hi : P.info? t with
  | none => rw [hi] at h; cases h
  | some i =>
    rw [hi] at h
    simp only at h
    cases hz : i.zero with
    | none => rw [hz] at h; cases h
    | some v => rw [hz] at h; simp at h; exact ⟨v, by simp [zeroValue, typeInfo, hi, hz], h⟩
theorem pureRun_spec {α : Type} : ∀ (s : Sem α) {a : α}, pureRun P s = some a → s.run P w = .ok a w
  | .pure a, _, h => by simp only [pureRun, Option.some.injEq] at h; subst h; rfl
  | .program k, a, h => by simp only [pureRun] at h; simp only [Sem.run]; exact pureRun_spec (k P) h
  | .load _ _ _, _, h => by simp [pureRun] at h
  | .store _ _ _ _, _, h => by simp [pureRun] at h
  | .new _ _, _, h => by simp [pureRun] at h
  | .shape _ _, _, h => by simp [pureRun] at h
  | .freeze _ _ _, _, h => by simp [pureRun] at h
  | .frozen _ _, _, h => by simp [pureRun] at h
  | .getObj _ _, _, h => by simp [pureRun] at h
  | .setObj _ _ _, _, h => by simp [pureRun] at h
  | .choose _ _, _, h => by simp [pureRun] at h
  | .sys _ _, _, h => by simp [pureRun] at h
  | .mark _ _, _, h => by simp [pureRun] at h
  | .halt _, _, h => by simp [pureRun] at h
theorem onlyPlain_spec {v u : Value} (h : onlyPlain v = some u) : u = v ∧ plainV v = true := by
  unfold onlyPlain at h
  cases hp : plainV v <;> rw [hp] at h <;> simp at h
  exact ⟨h.symm, rfl⟩
theorem semV_spec {ν : Toks} {φ : Phi} {s : Sem Value} {v : Value} (h : semV s = some v) : s = .pure v ∧ VR ν φ v v := by
  cases s <;> simp only [semV] at h <;> try cases h
  obtain ⟨rfl, hp⟩ := onlyPlain_spec h
  exact ⟨rfl, VR.refl _ hp⟩
theorem runV_spec {ν : Toks} {φ : Phi} {s : Sem Value} {v : Value} (h : runV P s = some v) : s.run P w = .ok v w ∧ VR ν φ v v := by
  unfold runV at h
  cases hp : pureRun P s with
  | none => rw [hp] at h; cases h
  | some u =>
    rw [hp] at h
    obtain ⟨rfl, hq⟩ := onlyPlain_spec h
    exact ⟨pureRun_spec s hp, VR.refl _ hq⟩
end

section
variable {P : Program} {G : Nat} {W0 : Begin} {ν : Toks} {φ : Phi} {s : Hp} {w : World}

theorem Rw.cells_ (hR : Rw P G W0 ν φ s w) {B : Nat} {r : Ref} {c : List Value} {e : TypeId} {rw_ : Bool} (hφ : φ B = some r) (ht : s.t.at_ B = some (.cells c e rw_)) :
    ∃ cs e' fr, w.heap[r.b]? = some (.cells cs e' fr) ∧ cs.size = r.sz ∧ (rw_ = true → e' = e ∧ sizeB P e = some r.es ∧ W0.own r.b ∧ fr = (0, 0)) ∧ VRs ν φ c (cs.toList.take c.length) ∧ c.length ≤ cs.size := by
  cases hR.obj B r _ hφ ht with
  | cells h hs hrw hc =>
    refine ⟨_, _, _, h, hs, hrw, hc, ?_⟩
    have := hc.length
    simp at this
    omega
theorem Rw.cell (hR : Rw P G W0 ν φ s w) {B : Nat} {r : Ref} {c : List Value} {e : TypeId} {rw_ : Bool} (hφ : φ B = some r) (ht : s.t.at_ B = some (.cells c e rw_)) {i : Nat} {v : Value} (hi : c[i]? = some v) :
    ∃ v', w.cell? ⟨r.b, i, none⟩ = some v' ∧ VR ν φ v v' := by
  obtain ⟨cs, e', fr, h, hs, hrw, hc, hl⟩ := hR.cells_ hφ ht
  obtain ⟨v', h1, h2⟩ := hc.get hi
  refine ⟨v', ?_, h2⟩
  rw [cell_of_row w r.b i cs e' fr h]
  have : i < c.length := (List.getElem?_eq_some_iff.1 hi).1
  rw [List.getElem?_take_of_lt this] at h1
  simpa using h1
theorem add_off (b o i : Nat) : (⟨b, o, none⟩ : Addr).add i = ⟨b, o + i, none⟩ := by unfold Addr.add; split <;> simp_all
theorem Rw.row (hR : Rw P G W0 ν φ s w) {B : Nat} {r : Ref} {c : List Value} {e : TypeId} {rw_ : Bool} (hφ : φ B = some r) (ht : s.t.at_ B = some (.cells c e rw_)) {o n : Nat} {l : List Value} (hl : readCells c o n = some l) :
    ∃ l', (∀ w2 : World, w2.heap = w.heap → (loadCells ⟨r.b, o, none⟩ n).run P w2 = .ok ⟨l'⟩ w2) ∧ VRs ν φ l l' ∧ l.length = n := by
  unfold readCells at hl
  cases hh : has (c.drop o) n with
  | false => rw [hh] at hl; cases hl
  | true =>
    rw [hh] at hl
    simp only [Option.some.injEq] at hl
    subst hl
    have hn := has_spec hh
    obtain ⟨cs, e', fr, h, hs, hrw, hc, hle⟩ := hR.cells_ hφ ht
    have hv := (hc.drop o).take n
    have hlen := hv.length
    have hl2 : ((c.drop o).take n).length = n := by simp at hn ⊢; omega
    refine ⟨_, fun w2 hw2 => ?_, hv, hl2⟩
    have := run_loadCells_list (P := P) w2 ⟨r.b, o, none⟩ (((cs.toList.take c.length).drop o).take n) (fun j v hj => by
      rw [add_off, cell_of_row w2 r.b (o + j) cs e' fr (by rw [hw2]; exact h)]
      have hjn : j < n := by
        have := (List.getElem?_eq_some_iff.1 hj).1
        simp at this; omega
      rw [List.getElem?_take_of_lt hjn, List.getElem?_drop] at hj
      have h3 : o + j < c.length := by simp at hn; omega
      rw [List.getElem?_take_of_lt h3] at hj
      simpa using hj)
    rw [hlen, hl2] at this
    simpa using this
theorem load_sound (hR : Rw P G W0 ν φ s w) {t : TypeId} {v v' u : Value} (hv : VR ν φ v v') (h : loadB P s.t t v = some u) : ∃ u', (Instr.loadAt t v').run P w = .ok u' w ∧ VR ν φ u u' := by
  cases hv <;> simp only [loadB] at h <;> try cases h
  rename_i B o r hφ
  cases ht : s.t.at_ B with
  | none => rw [ht] at h; cases h
  | some ob =>
    rw [ht] at h
    cases ob with
    | map es clk => cases h
    | res x =>
      simp only at h
      obtain ⟨fp, q1, _⟩ := hR.res
      have hvw := W0.vw (q1 B r x hφ ht)
      cases ha : isAggB P t with
      | none => rw [ha] at h; cases h
      | some b =>
        rw [ha] at h
        have hra := run_agg (w := w) ha
        cases b with
        | true =>
          simp only at h
          cases hz : sizeB P t with
          | none => rw [hz] at h; cases h
          | some n =>
            rw [hz] at h
            simp only [Option.map_eq_some_iff] at h
            obtain ⟨l, hl, rfl⟩ := h
            unfold readCells at hl
            cases hh : has ((viewRs x).drop o) n with
            | false => rw [hh] at hl; cases hl
            | true =>
              rw [hh] at hl
              simp only [Option.some.injEq] at hl
              subst hl
              have hn := has_spec hh
              have hlen : (((viewRs x).drop o).take n).length = n := by simp at hn ⊢; omega
              have := run_loadCells_list (P := P) w ⟨r.b, o, none⟩ (((viewRs x).drop o).take n) (fun j v hj => by
                rw [add_off]
                have hjn : j < n := by
                  have := (List.getElem?_eq_some_iff.1 hj).1
                  simp at this; omega
                rw [List.getElem?_take_of_lt hjn, List.getElem?_drop] at hj
                exact hvw _ _ hj)
              rw [hlen] at this
              refine ⟨.agg ⟨((viewRs x).drop o).take n⟩, by simp [Instr.loadAt, Instr.sureAddr, loadVar, hra, run_size (w := w) hz, this], .agg (((VRs.refl _ (viewRs_plain x)).drop o).take n)⟩
        | false =>
          simp only at h
          have h1 := hvw _ _ h
          refine ⟨u, by simp [Instr.loadAt, Instr.sureAddr, loadVar, hra, load, Sem.run, h1], ?_⟩
          obtain ⟨v', h2, h3⟩ := (VRs.refl (ν := ν) (φ := φ) _ (viewRs_plain x)).get h
          rw [h] at h2
          cases h2
          exact h3
    | cells c e rw_ =>
      simp only at h
      cases ha : isAggB P t with
      | none => rw [ha] at h; cases h
      | some b =>
        rw [ha] at h
        have hra := run_agg (w := w) ha
        cases b with
        | true =>
          simp only at h
          cases hz : sizeB P t with
          | none => rw [hz] at h; cases h
          | some n =>
            rw [hz] at h
            simp only at h
            cases hc : readCells c o n with
            | none => rw [hc] at h; cases h
            | some l =>
              rw [hc] at h
              simp at h
              subst h
              obtain ⟨l', h1, h2, _⟩ := hR.row hφ ht hc
              exact ⟨.agg ⟨l'⟩, by simp [Instr.loadAt, Instr.sureAddr, loadVar, hra, run_size (w := w) hz, h1 w rfl], .agg h2⟩
        | false =>
          simp only at h
          obtain ⟨u', h1, h2⟩ := hR.cell hφ ht h
          exact ⟨u', by simp [Instr.loadAt, Instr.sureAddr, loadVar, hra, load, Sem.run, h1], h2⟩
theorem VR.wrapInt {v v' : Value} {i : Nat} (hv : VR ν φ v v') (h : wrapInt v = some i) : ∃ k, v' = .int k i := by
  cases hv <;> simp only [Eva.wrapInt] at h <;> try cases h
  rename_i k n
  cases n <;> cases h
  exact ⟨k, rfl⟩
/-- A value at which a nil check yields itself. -/
def nn : Value → Bool
  | .pointer none => false
  | .nilIface => false
  | .nilFunc => false
  | .func (.method _) _ _ => false
  | _ => true
theorem nil_sound {v v' u : Value} (hv : VR ν φ v v') (h : nilB v = some u) : u = v ∧ nn v' = true := by
  cases hv <;> simp only [nilB] at h <;> try cases h
  all_goals first
    | exact ⟨rfl, rfl⟩
    | skip
  rename_i fn f f' c c' h1 h2
  cases fn <;> cases h <;> exact ⟨rfl, rfl⟩
theorem fieldAddr_sound {t : TypeId} {f : Nat} {v v' u : Value} (hv : VR ν φ v v') (h : fieldAddrB P t f v = some u) : ∃ u', (Instr.fieldAt t v' f).run P w = .ok u' w ∧ VR ν φ u u' := by
  cases hv <;> simp only [fieldAddrB] at h <;> try cases h
  rename_i B o r hφ
  cases hu : P.underlying t with
  | none => rw [hu] at h; cases h
  | some d =>
    rw [hu] at h
    cases d <;> simp only at h <;> try cases h
    rename_i fs
    cases hf : fs[f]? with
    | none => rw [hf] at h; cases h
    | some fd =>
      rw [hf] at h
      simp only at h
      cases hz : sizeB P fd.type with
      | none => rw [hz] at h; cases h
      | some n =>
        rw [hz] at h
        cases n <;> simp only at h <;> cases h
        rename_i n
        refine ⟨_, ?_, .ptr hφ⟩
        simp [Instr.fieldAt, run_underlying hu, hf, Instr.sureAddr, fieldPlace, run_size (w := w) hz, add_off]
theorem part_sound {t : TypeId} {cs cs' : List Value} {off : Nat} {u : Value} (hv : VRs ν φ cs cs') (h : partB P t cs off = some u) : ∃ u', (part t ⟨cs'⟩ off).run P w = .ok u' w ∧ VR ν φ u u' := by
  unfold partB at h
  cases ha : isAggB P t with
  | none => rw [ha] at h; cases h
  | some b =>
    rw [ha] at h
    have hra := run_agg (w := w) ha
    cases b with
    | true =>
      simp only at h
      cases hz : sizeB P t with
      | none => rw [hz] at h; cases h
      | some n =>
        rw [hz] at h
        simp only [Option.some.injEq] at h
        subst h
        refine ⟨_, ?_, .agg ((hv.drop off).take n)⟩
        simp only [part, Sem.run_bind, hra, Result.andThen_ok, if_true, run_size (w := w) hz, Sem.run_pure]
        congr 2
        apply Array.ext'
        simp [List.extract_eq_take_drop]
    | false =>
      simp only at h
      obtain ⟨u', h1, h2⟩ := hv.get h
      exact ⟨u', by simp [part, hra, h1], h2⟩
theorem field_sound {t : TypeId} {f : Nat} {v v' u : Value} (hv : VR ν φ v v') (h : fieldB P t f v = some u) : ∃ u', (Instr.field t v' f).run P w = .ok u' w ∧ VR ν φ u u' := by
  cases hv <;> simp only [fieldB] at h <;> try cases h
  rename_i l l' hl
  cases hu : P.underlying t with
  | none => rw [hu] at h; cases h
  | some d =>
    rw [hu] at h
    cases d <;> simp only at h <;> try cases h
    rename_i fs
    cases hf : fs[f]? with
    | none => rw [hf] at h; cases h
    | some fd =>
      rw [hf] at h
      simp only at h
      obtain ⟨u', h1, h2⟩ := part_sound (w := w) hl h
      exact ⟨u', by simp [Instr.field, run_underlying hu, hf, asAgg, h1], h2⟩
theorem indexAddr_sound {t : TypeId} {x x' i i' u : Value} (hx : VR ν φ x x') (hi : VR ν φ i i') (h : indexAddrB P t x i = some u) : ∃ u', (Instr.indexAt t x' i').run P w = .ok u' w ∧ VR ν φ u u' := by
  unfold indexAddrB at h
  cases hw : wrapInt i with
  | none => rw [hw] at h; cases h
  | some k =>
    obtain ⟨ik, rfl⟩ := hi.wrapInt hw
    rw [hw] at h
    cases hu : P.underlying t with
    | none => rw [hu] at h; cases h
    | some d =>
      rw [hu] at h
      cases d <;> simp only at h <;> try cases h
      case slice elem =>
        cases hx <;> simp only at h <;> try cases h
        all_goals
          split at h <;> try cases h
          rename_i hlt hz
          have := blt_iff hlt
          first
            | (refine ⟨_, ?_, .ptr ‹_›⟩
               simp [Instr.indexAt, asIntOf, run_underlying hu, run_size (w := w) hz, add_off, this]; done)
            | omega
      case array len elem =>
        cases hx <;> simp only at h <;> try cases h
        split at h <;> try cases h
        rename_i hlt hz
        have := blt_iff hlt
        refine ⟨_, ?_, .ptr ‹_›⟩
        simp [Instr.indexAt, asIntOf, run_underlying hu, run_size (w := w) hz, add_off, this, Instr.sureAddr]
theorem index_sound {t : TypeId} {x x' i i' u : Value} (hx : VR ν φ x x') (hi : VR ν φ i i') (h : indexB P t x i = some u) : ∃ u', (Instr.index t x' i').run P w = .ok u' w ∧ VR ν φ u u' := by
  unfold indexB at h
  cases hw : wrapInt i with
  | none => rw [hw] at h; cases h
  | some k =>
    obtain ⟨ik, rfl⟩ := hi.wrapInt hw
    rw [hw] at h
    cases hu : P.underlying t with
    | none => rw [hu] at h; cases h
    | some d =>
      rw [hu] at h
      cases d <;> (try simp only at h) <;> try (cases h; done)
      case array len elem =>
        cases hx <;> (try simp only at h) <;> try (cases h; done)
        split at h <;> try cases h
        rename_i hlt hz
        have := blt_iff hlt
        obtain ⟨u', h1, h2⟩ := part_sound (w := w) ‹VRs ν φ _ _› h
        exact ⟨u', by simp [Instr.index, asIntOf, run_underlying hu, run_size (w := w) hz, this, h1], h2⟩
      case string =>
        cases hx <;> (try simp only at h) <;> try (cases h; done)
        rename_i sb
        cases hs : sb[k]? with
        | none => rw [hs] at h; cases h
        | some b =>
          rw [hs] at h
          cases h
          exact ⟨_, by simp [Instr.index, asIntOf, run_underlying hu, hs], .int _ _⟩

theorem run_eqGuard_other {op : BinOp} {t : TypeId} {ox oy : Operand} {a b : Value} (h1 : ¬ (a = .nilIface ∧ b = .nilIface)) (h2 : ∀ c d, ¬ (a = .agg c ∧ b = .agg d)) : (eqGuard op t ox oy a b).run P w = .ok () w := by
  have key : (match a, b with
    | .nilIface, .nilIface => False
    | .agg _, .agg _ => False
    | _, _ => True) := by
    cases a <;> cases b <;> first
      | trivial
      | exact h1 ⟨rfl, rfl⟩
      | exact h2 _ _ ⟨rfl, rfl⟩
  cases op <;> cases a <;> cases b <;> first
    | rfl
    | exact key.elim
theorem same_sound (hR : Rw P G W0 ν φ s w) {B o B' o' : Nat} {r r' : Ref} {b : Bool} (h1 : φ B = some r) (h2 : φ B' = some r') (h : samePtr s.t B o B' o' = some b) : (sameAddr ⟨r.b, o, none⟩ ⟨r'.b, o', none⟩).run P w = .ok b w := by
  unfold samePtr at h
  cases hb : Nat.beq B B' with
  | true =>
    rw [hb] at h
    simp only [Option.some.injEq] at h
    have := beq_iff hb
    subst this
    rw [h1] at h2; cases h2
    subst h
    by_cases e : o = o'
    · subst e; simp [sameAddr]
    · have : Nat.beq o o' = false := by
        cases hq : Nat.beq o o' with
        | false => rfl
        | true => exact absurd (beq_iff hq) e
      simp [sameAddr, this]
  | false =>
    rw [hb] at h
    simp only at h
    split at h <;> try cases h
    rename_i c e c' e' ht ht'
    obtain ⟨cs, _, fr, hh, _, hrw, _, _⟩ := hR.cells_ h1 ht
    obtain ⟨cs', _, fr', hh', _, hrw', _, _⟩ := hR.cells_ h2 ht'
    obtain ⟨_, _, _, rfl⟩ := hrw rfl
    obtain ⟨_, _, _, rfl⟩ := hrw' rfl
    have hne : r.b ≠ r'.b := fun e => by
      have := hR.inj B B' r r' (by rw [ht]; rfl) (by rw [ht']; rfl) (by rw [ht]; rfl) (by rw [ht']; rfl) h1 h2 e
      subst this
      have : Nat.beq B B = true := Nat.beq_refl B
      rw [this] at hb; cases hb
    simp [sameAddr, hne, frozen, Sem.run, World.frozen?, hh, hh', noView, viewAt, shape, World.shape?, mayBeOne, stringish]
theorem eq_sound (hR : Rw P G W0 ν φ s w) {t : TypeId} {x y x' y' : Value} {b : Bool} (hx : VR ν φ x x') (hy : VR ν φ y y') (h : eqB P s.t t x y = some b) :
    (Op.equal t x' y').run P w = .ok b w ∧ ¬ (x' = .nilIface ∧ y' = .nilIface) ∧ (∀ c d, ¬ (x' = .agg c ∧ y' = .agg d)) ∧ (∀ k n, x' ≠ .int k n) ∧ (∀ k n, x' ≠ .float k n) ∧ (∀ k n m, x' ≠ .complex k n m) ∧ (∀ s, x' ≠ .string s) := by
  cases hx <;> cases hy <;> simp only [eqB] at h <;> try (cases h; done)
  all_goals
    rcases hu : P.underlying t with _ | d
    · rw [hu] at h; cases h
    rw [hu] at h
    cases d <;> simp only at h <;> try (cases h; done)
  all_goals first
    | (cases h
       refine ⟨?_, by simp, by simp, by simp, by simp, by simp, by simp⟩
       show (Op.equalIn (9999 + 1) t _ _).run P w = _
       rw [Op.equalIn]
       simp only [Sem.run_bind, run_underlying hu, Result.andThen_ok]
       rfl)
    | skip
  rename_i B o r h1 B' o' r' h2 e
  cases hz : sizeB P e with
  | none => rw [hz] at h; cases h
  | some n =>
    rw [hz] at h
    cases n <;> simp only at h <;> try (cases h; done)
    refine ⟨?_, by simp, by simp, by simp, by simp, by simp, by simp⟩
    show (Op.equalIn (9999 + 1) t _ _).run P w = _
    rw [Op.equalIn]
    simp [run_underlying hu, run_size (w := w) hz, same_sound hR h1 h2 h]
theorem eqInts_len : ∀ {l k : List Value} {b : Bool}, eqInts l k = some b → l.length = k.length ∧ (∀ v ∈ l, plainV v = true) ∧ ∀ v ∈ k, plainV v = true
  | [], [], _, _ => ⟨rfl, by simp, by simp⟩
  | .int .i64 a :: l, .int .i64 c :: k, b, h => by
    simp only [eqInts, Option.map_eq_some_iff] at h
    obtain ⟨r, h1, _⟩ := h
    obtain ⟨h2, h3, h4⟩ := eqInts_len h1
    refine ⟨by simp [h2], fun v hv => ?_, fun v hv => ?_⟩
    · rcases List.mem_cons.1 hv with rfl | hv
      · rfl
      · exact h3 v hv
    · rcases List.mem_cons.1 hv with rfl | hv
      · rfl
      · exact h4 v hv
theorem flat_run {w : World} (d : Nat) (xs ys : List Value) : ∀ (fs : List Field) (o : Nat) {b : Bool}, flatF P o fs = true → eqInts (xs.drop o) (ys.drop o) = some b → (xs.drop o).length = fs.length → (Op.eqFields (d + 1) ⟨xs⟩ ⟨ys⟩ fs).run P w = .ok b w
  | [], o, b, _, he, hl => by
    have : xs.drop o = [] := List.length_eq_zero_iff.1 hl
    rw [this] at he
    cases hy : ys.drop o with
    | nil => rw [hy] at he; simp only [eqInts, Option.some.injEq] at he; subst he; simp [Op.eqFields]
    | cons a k => rw [hy] at he; simp [eqInts] at he
  | f :: fs, o, b, hf, he, hl => by
    simp only [flatF, Bool.and_eq_true, Bool.not_eq_true', beq_eq_false_iff_ne, ne_eq] at hf
    obtain ⟨⟨⟨hn, ho⟩, hu⟩, hr⟩ := hf
    have ho' := beq_iff ho
    cases hx : xs.drop o with
    | nil => rw [hx] at hl; simp at hl
    | cons x l =>
      cases hy : ys.drop o with
      | nil => rw [hx, hy] at he; cases x <;> simp [eqInts] at he
      | cons y k =>
        have hx1 : xs.drop (o + 1) = l := by
          have := congrArg List.tail hx
          simpa using this
        have hy1 : ys.drop (o + 1) = k := by
          have := congrArg List.tail hy
          simpa using this
        have hx0 : xs[o]? = some x := by
          have := congrArg (·[0]?) hx
          simpa using this
        have hy0 : ys[o]? = some y := by
          have := congrArg (·[0]?) hy
          simpa using this
        rw [hx, hy] at he
        unfold eqInts at he
        split at he <;> try (cases he; done)
        · rename_i e1 e2; cases e1
        · rename_i a l' c k' e1 e2
          cases e1; cases e2
          simp only [Option.map_eq_some_iff] at he
          obtain ⟨r, h1, h2⟩ := he
          split at hu <;> try (cases hu; done)
          rename_i ik hik
          have hagg : isAggB P f.type = some false := by simp [isAggB, hik]
          have hlen : (xs.drop (o + 1)).length = fs.length := by
            rw [hx1]
            rw [hx] at hl
            simpa using hl
          have ih := flat_run (w := w) d xs ys fs (o + 1) hr (by rw [hx1, hy1]; exact h1) hlen
          have p1 : (part f.type ⟨xs⟩ f.offset).run P w = .ok (.int .i64 a) w := by
            rw [ho']
            simp [part, run_agg (w := w) hagg, hx0]
          have p2 : (part f.type ⟨ys⟩ f.offset).run P w = .ok (.int .i64 c) w := by
            rw [ho']
            simp [part, run_agg (w := w) hagg, hy0]
          simp only [Op.eqFields, ne_eq, hn, not_false_eq_true, if_true, Sem.run_bind, p1, p2, Result.andThen_ok, run_equalIn_int w d f.type .i64 ik a c hik]
          by_cases hac : a = c
          · subst hac
            simp only [decide_true, Bool.true_and] at h2
            subst h2
            simpa using ih
          · have : (a == c) = false := by simpa using hac
            rw [this]
            simp only [decide_eq_false hac, Bool.false_and] at h2
            subst h2
            simp
theorem plainL_of : ∀ {l : List Value}, (∀ v ∈ l, plainV v = true) → plainL l = true
  | [], _ => rfl
  | v :: l, h => by
    simp only [plainL, Bool.and_eq_true]
    exact ⟨h v (by simp), plainL_of fun u hu => h u (List.mem_cons_of_mem _ hu)⟩
theorem agg_sound {l l' k k' : List Value} (hx : VRs ν φ l l') (hy : VRs ν φ k k') {w : World} {op : BinOp} {t : TypeId} {ox oy : Operand} {u : Value} (h : aggB P op t ox oy l k = some u) :
    ∃ u', (do eqGuard op t ox oy (.agg ⟨l'⟩) (.agg ⟨k'⟩); binOp op t (.agg ⟨l'⟩) (.agg ⟨k'⟩) : Sem Value).run P w = .ok u' w ∧ VR ν φ u u' := by
  unfold aggB at h
  split at h
  · rename_i p n b e1 e2 e3
    split at h <;> try (cases h; done)
    rename_i hlen
    cases h
    obtain ⟨_, hp1, hp2⟩ := eqInts_len e3
    have q1 : plainL l = true := plainL_of hp1
    have q2 : plainL k = true := plainL_of hp2
    have := hx.plain q1
    subst this
    have := hy.plain q2
    subst this
    unfold flatI at e2
    split at e2 <;> try (cases e2; done)
    rename_i fs hu
    split at e2 <;> try (cases e2; done)
    rename_i hf
    simp only [Option.some.injEq] at e2
    simp only [Bool.and_eq_true, Bool.not_eq_true'] at hf
    have hfs : P.fieldsOf t = fs := by simp [Program.fieldsOf, hu]
    have hr := flat_run (P := P) (w := w) 9998 l' k' fs.toList 0 hf.1.1 (by simpa using e3) (by simpa [e2] using beq_iff hlen)
    have hq : (Op.equalIn 10000 t (.agg ⟨l'⟩) (.agg ⟨k'⟩)).run P w = .ok b w := by
      rw [show (10000 : Nat) = 9999 + 1 from rfl, run_equalIn_struct w 9999 t ⟨l'⟩ ⟨k'⟩ (by rw [hfs]; exact hu) hf.1.2, hfs]
      exact hr
    refine ⟨.bool (b == p), ?_, .bool _⟩
    simp only [Sem.run_bind, run_eqGuard_agg w op t ox oy ⟨l'⟩ ⟨k'⟩ hf.2, Result.andThen_ok]
    cases op <;> simp only [isEq] at e1 <;> cases e1
    · rw [run_eql_struct, hq]; simp
    · rw [run_neq_struct, hq]; simp
  · split at h <;> try (cases h; done)
    rename_i hp
    simp only [Bool.and_eq_true] at hp
    have := hx.plain hp.1
    subst this
    have := hy.plain hp.2
    subst this
    obtain ⟨h1, h2⟩ := runV_spec (ν := ν) (φ := φ) (w := w) h
    exact ⟨u, h1, h2⟩
theorem bin_sound (hR : Rw P G W0 ν φ s w) {op : BinOp} {t : TypeId} {ox oy : Operand} {x y x' y' u : Value} (hx : VR ν φ x x') (hy : VR ν φ y y') (h : binB P s.t op t ox oy x y = some u) :
    ∃ u', (do eqGuard op t ox oy x' y'; binOp op t x' y' : Sem Value).run P w = .ok u' w ∧ VR ν φ u u' := by
  unfold binB at h
  split at h
  · rename_i k a k' b
    cases hx
    cases hy
    obtain ⟨h1, h2⟩ := semV_spec (ν := ν) (φ := φ) h
    refine ⟨u, ?_, h2⟩
    simp [run_eqGuard_other (P := P) (w := w) (op := op) (t := t) (ox := ox) (oy := oy) (a := .int k a) (b := .int k' b) (by simp) (by simp), h1]
  · cases hx with
    | agg hx' => cases hy with
      | agg hy' => exact agg_sound hx' hy' h
  · split at h
    · rename_i hp
      simp only [Bool.and_eq_true] at hp
      have e1 := hx.plain hp.1
      have e2 := hy.plain hp.2
      subst e1 e2
      obtain ⟨h1, h2⟩ := runV_spec (ν := ν) (φ := φ) (w := w) h
      exact ⟨u, h1, h2⟩
    · cases hq : isEq op with
      | none => rw [hq] at h; cases h
      | some p =>
        rw [hq] at h
        simp only [Option.map_eq_some_iff] at h
        obtain ⟨b, hb, rfl⟩ := h
        obtain ⟨h1, h2, h3, h4, h5, h6, h7⟩ := eq_sound hR hx hy hb
        refine ⟨_, ?_, .bool _⟩
        simp only [Sem.run_bind, run_eqGuard_other (P := P) (w := w) (op := op) (t := t) (ox := ox) (oy := oy) h2 h3, Result.andThen_ok]
        cases op <;> simp only [isEq] at hq <;> cases hq
        all_goals
          unfold binOp
          split <;> first
            | (rename_i e1 e2; exact absurd rfl (h4 _ _))
            | (exact absurd rfl (h4 _ _))
            | (exact absurd rfl (h5 _ _))
            | (exact absurd rfl (h6 _ _ _))
            | (exact absurd rfl (h7 _))
            | (simp [h1]; done)
            | (simp_all; done)
theorem len_sound {t : TypeId} {v v' u : Value} (hv : VR ν φ v v') (h : lenB P t v = some u) : (∀ ts ty, ts[0]? = some t → (Builtin.len_ ts ty #[v']).run P w = .ok u w) ∧ VR ν φ u u := by
  cases hv <;> simp only [lenB] at h <;> try cases h
  all_goals
    cases hu : P.underlying t with
    | none => rw [hu] at h; cases h
    | some d =>
      rw [hu] at h
      cases d <;> simp only at h <;> try cases h
      all_goals
        refine ⟨fun ts ty ht => ?_, .int _ _⟩
        simp [Builtin.len_, ht, run_underlying hu, goInt]
end
end Go.Eva
end

/-
  A run of a closed call: values made of parts, slices, maps; every operation that only reads. No program in sight.
-/
section
namespace Go.Eva
open Go Go.RowKit Go.Viv

/-! ### Parts laid over cells -/
theorem spl_length {cells vs : List Value} {off : Nat} (h : off + vs.length ≤ cells.length) : (spl cells off vs).length = cells.length := by
  simp [spl]; omega
theorem spl_get {cells vs : List Value} {off : Nat} (h : off + vs.length ≤ cells.length) (i : Nat) : (spl cells off vs)[i]? = if i < off then cells[i]? else if i < off + vs.length then vs[i - off]? else cells[i]? := by
  have hl : (cells.take off).length = off := by simp; omega
  unfold spl
  by_cases h1 : i < off
  · rw [if_pos h1, List.getElem?_append_left (by omega), List.getElem?_take_of_lt h1]
  · rw [if_neg h1, List.getElem?_append_right (by omega), hl]
    by_cases h2 : i < off + vs.length
    · rw [if_pos h2, List.getElem?_append_left (by omega)]
    · rw [if_neg h2, List.getElem?_append_right (by omega), List.getElem?_drop]
      congr 1
      omega
theorem VRs.spl {ν : Toks} {φ : Phi} {c c' vs vs' : List Value} (h : VRs ν φ c c') (hv : VRs ν φ vs vs') (off : Nat) : VRs ν φ (Eva.spl c off vs) (Eva.spl c' off vs') := by
  unfold Eva.spl
  rw [hv.length]
  exact (h.take off).append (hv.append (h.drop _))
/-- What the model lays, cell by cell. -/
theorem foldl_spl : ∀ (vs : List Value) (k off : Nat) (cs : Array Value), off + k + vs.length ≤ cs.size →
    ((vs.zipIdx k).foldl (fun cs (x : Value × Nat) => cs.setIfInBounds (off + x.2) x.1) cs).toList = spl cs.toList (off + k) vs
  | [], k, off, cs, _ => by simp [spl]
  | v :: vs, k, off, cs, h => by
    simp only [List.length_cons] at h
    rw [List.zipIdx_cons, List.foldl_cons, foldl_spl vs (k + 1) off _ (by simp; omega)]
    apply List.ext_getElem?
    intro i
    rw [spl_get (by simp; omega), spl_get (by simp; omega)]
    simp only [Array.toList_setIfInBounds, List.length_cons]
    by_cases h1 : i < off + k
    · rw [if_pos (by omega), if_pos h1, List.getElem?_set_ne (by omega)]
    · rw [if_neg h1]
      by_cases h2 : i = off + k
      · subst h2
        rw [if_pos (by omega), if_pos (by omega), List.getElem?_set_self (by simp; omega)]
        simp
      · by_cases h3 : i < off + k + (vs.length + 1)
        · rw [if_neg (by omega), if_pos (by omega), if_pos h3]
          rw [show i - (off + k) = (i - (off + (k + 1))) + 1 by omega, List.getElem?_cons_succ]
        · rw [if_neg (by omega), if_neg (by omega), if_neg h3, List.getElem?_set_ne (by omega)]
/-- Parts, pairwise. -/
inductive PR (ν : Toks) (φ : Phi) : List (Nat × Value) → List (Nat × Value) → Prop
  | nil : PR ν φ [] []
  | cons {i : Nat} {v v' : Value} {l l' : List (Nat × Value)} (h : VR ν φ v v') (t : PR ν φ l l') : PR ν φ ((i, v) :: l) ((i, v') :: l')
theorem fill_sound {ν : Toks} {φ : Phi} {place : Nat → Option (Nat × Nat)} : ∀ {parts parts' : List (Nat × Value)} {c c' l : List Value}, VRs ν φ c c' →
    PR ν φ parts parts' → fillB place c parts = some l → ∃ l', Instr.fill place ⟨c'⟩ parts' = some ⟨l'⟩ ∧ VRs ν φ l l'
  | [], _, c, c', l, hc, hp, h => by
    cases hp
    simp only [fillB, Option.some.injEq] at h
    subst h
    exact ⟨c', rfl, hc⟩
  | (i, v) :: rest, _, c, c', l, hc, hp, h => by
    cases hp with
    | cons hv h2 =>
      rename_i v' rest'
      simp only [fillB] at h
      cases hpl : place i with
      | none => rw [hpl] at h; cases h
      | some os =>
        obtain ⟨off, size⟩ := os
        rw [hpl] at h
        simp only at h
        cases hb : Nat.beq (cellsL v).length size && Nat.ble (off + (cellsL v).length) c.length && (cellsL v).all oneB with
        | false => rw [hb] at h; cases h
        | true =>
          rw [hb] at h
          simp only [Bool.and_eq_true] at hb
          obtain ⟨⟨hb1, hb2⟩, hb3⟩ := hb
          have hs := beq_iff hb1
          have ho := ble_iff hb2
          have hcv := hv.cells hb3
          have hlen := hcv.length
          have hcl := hc.length
          obtain ⟨l', h3, h4⟩ := fill_sound (hc.spl hcv off) h2 h
          refine ⟨l', ?_, h4⟩
          simp only [Instr.fill, hpl]
          have e1 : v'.cells.size = size := by rw [← Array.length_toList, hlen, hs]
          rw [if_neg (by simp [e1]; omega)]
          have e2 := foldl_spl v'.cells.toList 0 off ⟨c'⟩ (by simp [← hcl] at *; omega)
          rw [← h3]
          congr 1
          apply Array.ext'
          rw [← Array.foldl_toList, Array.toList_zipIdx, e2]
          simp
theorem parts_map {ν : Toks} {φ : Phi} {ρ ρ' : Operand → Value} : ∀ (l : List (Nat × Operand)), (∀ x ∈ l.map (·.2), VR ν φ (ρ x) (ρ' x)) →
    PR ν φ (mapB ρ l) (l.map fun (i, x) => (i, ρ' x))
  | [], _ => .nil
  | (i, x) :: l, h => .cons (h x (by simp)) (parts_map l fun y hy => h y (by simp at hy ⊢; exact .inr hy))
theorem rep_length (z : List Value) : ∀ n, (rep z n).length = n * z.length
  | 0 => by simp [rep]
  | n + 1 => by rw [rep, List.length_append, rep_length z n, Nat.succ_mul, Nat.add_comm]
theorem rep_get (z : List Value) : ∀ (n i : Nat), i < n * z.length → (rep z n)[i]? = z[i % z.length]?
  | 0, i, h => by omega
  | n + 1, i, h => by
    have hz : 0 < z.length := Nat.pos_of_ne_zero fun e => by rw [e] at h; simp at h
    rw [rep]
    by_cases hi : i < z.length
    · rw [List.getElem?_append_left hi, Nat.mod_eq_of_lt hi]
    · rw [List.getElem?_append_right (by omega), rep_get z n _ (by rw [Nat.succ_mul] at h; omega)]
      congr 1
      conv => rhs; rw [show i = (i - z.length) + z.length by omega, Nat.add_mod_right]
theorem rep_range (z : Array Value) (n : Nat) : ((Array.range (n * z.size)).map (z[· % z.size]!)).toList = rep z.toList n := by
  apply List.ext_getElem?
  intro i
  by_cases hi : i < n * z.size
  · have hz : 0 < z.size := Nat.pos_of_ne_zero fun e => by rw [e] at hi; simp at hi
    rw [rep_get _ _ _ (by simpa using hi)]
    have hm : i % z.size < z.size := Nat.mod_lt _ hz
    simp [hi, hm, Array.getElem!_eq_getD]
  · rw [List.getElem?_eq_none (by simpa using hi), List.getElem?_eq_none (by rw [rep_length]; simpa using hi)]
theorem rep_all {ν : Toks} {φ : Phi} {z z' : List Value} (h : VRs ν φ z z') : ∀ n, VRs ν φ (rep z n) (rep z' n)
  | 0 => .nil
  | n + 1 => h.append (rep_all h n)

section
variable {P : Program} {w : World} {ν : Toks} {φ : Phi}
theorem plainZero_spec {t : TypeId} {z : List Value} (h : plainZero P t = some z) : zeroB P t = some z ∧ VRs ν φ z z := by
  unfold plainZero at h
  cases hz : zeroB P t with
  | none => rw [hz] at h; cases h
  | some y =>
    rw [hz] at h
    simp only at h
    cases hp : plainL y with
    | false => rw [hp] at h; cases h
    | true => rw [hp] at h; cases h; exact ⟨rfl, VRs.refl _ hp⟩
theorem places_sound : ∀ {fs : List Field} {pl : List (Nat × Nat)}, placesB P fs = some pl → (fs.mapM fun f => (do pure (f.offset, ← sizeOf f.type) : Sem (Nat × Nat))).run P w = .ok pl w
  | [], pl, h => by simp only [placesB, Option.some.injEq] at h; subst h; simp [List.mapM_nil]
  | f :: fs, pl, h => by
    simp only [placesB] at h
    split at h <;> try cases h
    rename_i n l hn hl
    simp only [List.mapM_cons, Sem.run_bind, run_size (w := w) hn, Result.andThen_ok, Sem.run_pure, places_sound hl]
theorem build_sound {t : TypeId} {parts parts' : List (Nat × Value)} {u : Value} (hp : PR ν φ parts parts') (h : buildB P t parts = some u) :
    ∃ u', (Instr.build t ⟨parts'⟩).run P w = .ok u' w ∧ VR ν φ u u' := by
  unfold buildB at h
  cases hz : plainZero P t with
  | none => rw [hz] at h; cases h
  | some z =>
    rw [hz] at h
    obtain ⟨h1, h2⟩ := plainZero_spec (ν := ν) (φ := φ) hz
    obtain ⟨zv, h3, h4⟩ := run_zero (w := w) h1
    have hzz : zv.cells = ⟨z⟩ := by rw [← h4]
    cases hu : P.underlying t with
    | none => rw [hu] at h; cases h
    | some d =>
      rw [hu] at h
      cases d <;> simp only at h <;> try cases h
      case struct fs =>
        cases hpl : placesB P fs.toList with
        | none => rw [hpl] at h; cases h
        | some pl =>
          rw [hpl] at h
          simp only [Option.map_eq_some_iff] at h
          obtain ⟨l, hl, rfl⟩ := h
          obtain ⟨l', h5, h6⟩ := fill_sound h2 hp hl
          refine ⟨_, ?_, .agg h6⟩
          have hm := places_sound (w := w) hpl
          simp only [Instr.build, Sem.run_bind, h3, Result.andThen_ok, hzz, run_underlying hu, Array.mapM_eq_mapM_toList, Sem.run_map, hm]
          simp [h5]
      case array len elem =>
        cases hs : sizeB P elem with
        | none => rw [hs] at h; cases h
        | some size =>
          rw [hs] at h
          simp only [Option.map_eq_some_iff] at h
          obtain ⟨l, hl, rfl⟩ := h
          obtain ⟨l', h5, h6⟩ := fill_sound h2 hp hl
          refine ⟨_, ?_, .agg h6⟩
          simp [Instr.build, h3, hzz, run_underlying hu, run_size (w := w) hs, h5]
end
section
variable {P : Program} {G : Nat} {W0 : Begin} {ν : Toks} {φ : Phi} {s : Hp} {w : World}
theorem bound_ok {v : Value} {i y : Nat} {k : IntKind} {code : BoundsCode} (h : v = .int k i) (hi : i ≤ y) : (Instr.sliceBound v y code).run P w = .ok i w := by
  subst h
  simp [Instr.sliceBound, asIntOf, hi]
/-- A bound that stands, or stands not. -/
theorem elim_ok {x x' : Option Value} {d i : Nat} (hx : match x, x' with | some v, some v' => VR ν φ v v' | none, none => True | _, _ => False) (h : x.elim (some d) wrapInt = some i) :
    (x' = none ∧ x = none ∧ i = d) ∨ ∃ k v, x' = some (.int k i) ∧ x = some v := by
  cases x <;> cases x' <;> simp only at hx
  · simp at h; exact .inl ⟨rfl, rfl, h.symm⟩
  · simp at h
    obtain ⟨k, rfl⟩ := hx.wrapInt h
    exact .inr ⟨k, _, rfl, rfl⟩
theorem bounds_ok {sl : Bool} {len cap l h m : Nat} {lo hi mx lo' hi' mx' : Option Value} (h1 : match lo, lo' with | some v, some v' => VR ν φ v v' | none, none => True | _, _ => False)
    (h2 : match hi, hi' with | some v, some v' => VR ν φ v v' | none, none => True | _, _ => False) (h3 : match mx, mx' with | some v, some v' => VR ν φ v v' | none, none => True | _, _ => False)
    (e1 : lo.elim (some 0) wrapInt = some l) (e2 : hi.elim (some len) wrapInt = some h) (e3 : mx.elim (some cap) wrapInt = some m) (hlh : l ≤ h) (hhm : h ≤ m) (hmc : m ≤ cap) (hh : mx.isNone || hi.isSome) :
    (Instr.sliceBounds sl len cap lo' hi' mx').run P w = .ok (l, h, m) w := by
  rcases elim_ok h1 e1 with ⟨rfl, rfl, rfl⟩ | ⟨k1, v1, rfl, rfl⟩ <;> rcases elim_ok h2 e2 with ⟨rfl, rfl, rfl⟩ | ⟨k2, v2, rfl, rfl⟩ <;> rcases elim_ok h3 e3 with ⟨rfl, rfl, rfl⟩ | ⟨k3, v3, rfl, rfl⟩ <;>
    first
    | (simp at hh; done)
    | (simp [Instr.sliceBounds, bound_ok rfl hlh, bound_ok rfl hhm, bound_ok rfl hmc])
theorem slice_sound (hR : Rw P G W0 ν φ s w) {t : TypeId} {x x' u : Value} {lo hi mx lo' hi' mx' : Option Value} (hx : VR ν φ x x') (h1 : match lo, lo' with | some v, some v' => VR ν φ v v' | none, none => True | _, _ => False)
    (h2 : match hi, hi' with | some v, some v' => VR ν φ v v' | none, none => True | _, _ => False) (h3 : match mx, mx' with | some v, some v' => VR ν φ v v' | none, none => True | _, _ => False)
    (h : sliceB P s.t t x lo hi mx = some u) : ∃ u', (Instr.sliceAt t x' lo' hi' mx').run P w = .ok u' w ∧ VR ν φ u u' := by
  unfold sliceB at h
  split at h <;> try cases h
  · -- nil
    rename_i elem hu
    split at h <;> try cases h
    rename_i e1 e2 e3 hz
    split at h <;> try cases h
    rename_i hb
    cases hx
    refine ⟨_, ?_, .sl0⟩
    have hbn := bounds_ok (P := P) (w := w) (sl := true) (len := 0) (cap := 0) h1 h2 h3 e1 e2 e3 (Nat.le_refl _) (Nat.le_refl _) (Nat.le_refl _) hb
    simp [Instr.sliceAt, run_underlying hu, Instr.slice, hbn, run_size (w := w) hz]
  · -- an empty one
    rename_i elem hu
    split at h <;> try cases h
    rename_i n e1 e2 hz
    have hmn : mx' = none := by cases mx' <;> simp_all
    subst hmn
    cases hx
    rename_i a c
    have hbn := bounds_ok (P := P) (w := w) (sl := true) (len := 0) (cap := c) (m := c) h1 h2 (mx := none) (mx' := none) trivial e1 e2 rfl (Nat.le_refl _) (Nat.zero_le _) (Nat.le_refl _) rfl
    by_cases hc : c = 0
    · subst hc
      refine ⟨.slice (some a) 0 0, ?_, .emp _ _⟩
      simp [Instr.sliceAt, run_underlying hu, Instr.slice, hbn, run_size (w := w) hz]
    · refine ⟨.slice (some (a.add (0 * n))) 0 c, ?_, .emp _ _⟩
      simp [Instr.sliceAt, run_underlying hu, Instr.slice, hbn, run_size (w := w) hz, hc]
  · -- of known room
    rename_i elem B o len cap hu
    split at h <;> try cases h
    rename_i n l hh m hz e1 e2 e3
    split at h <;> try cases h
    rename_i hb
    simp only [Bool.and_eq_true] at hb
    obtain ⟨⟨⟨hb1, hb2⟩, hb3⟩, hb4⟩ := hb
    cases hx
    rename_i r hφ hn
    have hbn := bounds_ok (P := P) (w := w) (sl := true) h1 h2 h3 e1 e2 e3 (ble_iff hb1) (ble_iff hb2) (ble_iff hb3) hb4
    have g1 := ble_iff hb1
    have g2 := ble_iff hb2
    by_cases hml : m = l
    · subst hml
      refine ⟨.slice (some ⟨r.b, o, none⟩) (hh - m) (m - m), ?_, ?_⟩
      · simp [Instr.sliceAt, run_underlying hu, Instr.slice, hbn, run_size (w := w) hz]
      · rw [Nat.beq_refl]; exact .slk hφ (by omega)
    · refine ⟨.slice (some ⟨r.b, o + l * n, none⟩) (hh - l) (m - l), ?_, ?_⟩
      · simp [Instr.sliceAt, run_underlying hu, Instr.slice, hbn, run_size (w := w) hz, hml, add_off]
      · have : Nat.beq m l = false := by
          cases hq : Nat.beq m l with
          | false => rfl
          | true => exact absurd (beq_iff hq) hml
        rw [this]; exact .slk hφ (by omega)
  · -- of unknown room
    rename_i elem B o len hu
    split at h <;> try cases h
    · rename_i n l hh hz e1 e2
      split at h <;> try cases h
      rename_i c e hb ht
      simp only [Bool.and_eq_true] at hb
      have g1 := ble_iff hb.1
      have g2 := ble_iff hb.2
      split at h <;> try cases h
      rename_i he
      have he' := beq_iff he
      subst he'
      have hmn : mx' = none := by cases mx' <;> simp_all
      subst hmn
      have fin : ∀ r oc cap, φ B = some r → len ≤ cap → oc + cap * r.es ≤ r.sz → (len ≠ 0 → oc = o) → (o = 0 → oc = 0) → x' = .slice (some ⟨r.b, oc, none⟩) len cap →
          ∃ u', (Instr.sliceAt t x' lo' hi' none).run P w = .ok u' w ∧ VR ν φ (.slice (some ⟨B, match Nat.beq hh l with | true => (match Nat.beq l 0 with | true => o | false => 1) | false => o + l * n, none⟩) (hh - l) 0) u' := by
        intro r oc cap hφ hlc hroom hoc hoz hx'
        subst hx'
        obtain ⟨_, _, _, _, _, hrw, _⟩ := hR.cells_ hφ ht
        obtain ⟨_, hes, _, _⟩ := hrw rfl
        have hn : n = r.es := by rw [hz] at hes; cases hes; rfl
        have hbn := bounds_ok (P := P) (w := w) (sl := true) (cap := cap) (m := cap) h1 h2 (mx := none) (mx' := none) trivial e1 e2 rfl g1 (Nat.le_trans g2 hlc) (Nat.le_refl _) rfl
        have hcl : (cap - l) * r.es + l * r.es = cap * r.es := by rw [← Nat.add_mul]; congr 1; omega
        by_cases hhl : hh = l
        · subst hhl
          rw [Nat.beq_refl]
          by_cases hcl' : cap = hh
          · subst hcl'
            refine ⟨.slice (some ⟨r.b, oc, none⟩) 0 0, ?_, ?_⟩
            · simp [Instr.sliceAt, run_underlying hu, Instr.slice, hbn, run_size (w := w) hz]
            · rw [Nat.sub_self]
              cases hq : Nat.beq cap 0 with
              | true => exact .sle hφ (by omega) hoz
              | false => exact (show VR ν φ (.slice (some ⟨B, 1, none⟩) 0 0) _ from .sle hφ (by omega) (fun e => by cases e))
          · refine ⟨.slice (some ⟨r.b, oc + hh * n, none⟩) 0 (cap - hh), ?_, ?_⟩
            · simp [Instr.sliceAt, run_underlying hu, Instr.slice, hbn, run_size (w := w) hz, hcl', add_off]
            · rw [Nat.sub_self]
              cases hq : Nat.beq hh 0 with
              | true => exact .sle hφ (by rw [hn]; omega) (fun e => by have := beq_iff hq; subst this; have := hoz e; omega)
              | false => exact (show VR ν φ (.slice (some ⟨B, 1, none⟩) 0 0) _ from .sle hφ (by rw [hn]; omega) (fun e => by cases e))
        · have hq : Nat.beq hh l = false := by
            cases hq : Nat.beq hh l with
            | false => rfl
            | true => exact absurd (beq_iff hq) hhl
          rw [hq]
          have hoc' := hoc (by omega)
          subst hoc'
          obtain ⟨k, hk⟩ : ∃ k, hh - l = k + 1 := ⟨hh - l - 1, by omega⟩
          have hcl' : cap ≠ l := by omega
          refine ⟨.slice (some ⟨r.b, oc + l * n, none⟩) (hh - l) (cap - l), ?_, ?_⟩
          · simp [Instr.sliceAt, run_underlying hu, Instr.slice, hbn, run_size (w := w) hz, hcl', add_off]
          · rw [hk]; exact .slu hφ (by omega) (by show oc + l * n + (cap - l) * r.es ≤ r.sz; rw [hn]; omega)
      cases hx
      · exact fin _ _ _ ‹φ B = some _› ‹_› ‹_› (fun _ => rfl) (fun h => h) rfl
      · exact fin _ _ _ ‹φ B = some _› (Nat.zero_le _) ‹_› (fun h => absurd rfl h) ‹_› rfl
    · rename_i n l hh mv hz e1 e2
      split at h <;> try cases h
      rename_i m e3
      split at h <;> try cases h
      rename_i hb
      simp only [Bool.and_eq_true] at hb
      obtain ⟨⟨⟨⟨hb1, hb2⟩, hb3⟩, hb4⟩, hb5⟩ := hb
      have g1 := ble_iff hb1
      have g2 := ble_iff hb2
      have g3 := ble_iff hb3
      have g5 := ble_iff hb5
      cases hx with
      | @slu _ _ _ cap r hφ hn hc =>
        have hbn := bounds_ok (P := P) (w := w) (sl := true) (cap := cap) h1 h2 h3 e1 e2 (m := m) e3 g1 g2 (by omega) hb4
        by_cases hml : m = l
        · subst hml
          refine ⟨.slice (some ⟨r.b, o, none⟩) (hh - m) (m - m), ?_, ?_⟩
          · simp [Instr.sliceAt, run_underlying hu, Instr.slice, hbn, run_size (w := w) hz]
          · rw [Nat.beq_refl]; exact .slk hφ (by omega)
        · refine ⟨.slice (some ⟨r.b, o + l * n, none⟩) (hh - l) (m - l), ?_, ?_⟩
          · simp [Instr.sliceAt, run_underlying hu, Instr.slice, hbn, run_size (w := w) hz, hml, add_off]
          · have : Nat.beq m l = false := by
              cases hq : Nat.beq m l with
              | false => rfl
              | true => exact absurd (beq_iff hq) hml
            rw [this]; exact .slk hφ (by omega)
      | sle hφ hc ho => omega
  · -- an array
    rename_i len elem B o hu
    split at h <;> try cases h
    rename_i n l hh m hz e1 e2 e3
    split at h <;> try cases h
    rename_i hb
    simp only [Bool.and_eq_true] at hb
    obtain ⟨⟨⟨hb1, hb2⟩, hb3⟩, hb4⟩ := hb
    cases hx
    rename_i r hφ
    have hbn := bounds_ok (P := P) (w := w) (sl := false) h1 h2 h3 e1 e2 e3 (ble_iff hb1) (ble_iff hb2) (ble_iff hb3) hb4
    have g1 := ble_iff hb1
    have g2 := ble_iff hb2
    by_cases hml : m = l
    · subst hml
      refine ⟨.slice (some ⟨r.b, o, none⟩) (hh - m) (m - m), ?_, ?_⟩
      · simp [Instr.sliceAt, run_underlying hu, Instr.sureAddr, hbn, run_size (w := w) hz]
      · rw [Nat.beq_refl]; exact .slk hφ (by omega)
    · refine ⟨.slice (some ⟨r.b, o + l * n, none⟩) (hh - l) (m - l), ?_, ?_⟩
      · simp [Instr.sliceAt, run_underlying hu, Instr.sureAddr, hbn, run_size (w := w) hz, hml, add_off]
      · have : Nat.beq m l = false := by
          cases hq : Nat.beq m l with
          | false => rfl
          | true => exact absurd (beq_iff hq) hml
        rw [this]; exact .slk hφ (by omega)
  · -- a string
    rename_i sb hu
    split at h <;> try cases h
    rename_i l hh e1 e2
    split at h <;> try cases h
    rename_i hb
    simp only [Bool.and_eq_true] at hb
    cases hx
    have hmn : mx' = none := by cases mx' <;> simp_all
    subst hmn
    have hbn := bounds_ok (P := P) (w := w) (sl := false) (cap := sb.size) h1 h2 (mx := none) (mx' := none) trivial e1 e2 rfl (ble_iff hb.1) (ble_iff hb.2) (Nat.le_refl _) rfl
    refine ⟨_, ?_, .string _⟩
    simp [Instr.sliceAt, run_underlying hu, Instr.slice, hbn]
end
end Go.Eva
end

/-
  A run of a closed call: what writes, what makes memory, what calls. No program in sight.
-/
section
namespace Go.Eva
open Go Go.RowKit Go.Viv

/-! ### Frames -/
def look (T : Tr Value) (t : Nat) : Value := match T.at_ t with
  | some v => v
  | none => undef
def evl (G : Nat) (T : Tr Value) : Operand → Value
  | .tmp t => look T t
  | .const v => (match plainV v with | true => v | false => .chan none)
  | .global g => (match Nat.blt g G with | true => .pointer (some ⟨g, 0, none⟩) | false => .chan none)
  | .func f => .func (.func f) ⟨[]⟩ ⟨[]⟩
def putT (n : Nat) (T : Tr Value) (d : Option Tmp) (v : Value) : Option (Tr Value) :=
  match d with
  | none => some T
  | some d => match Nat.blt d n with
    | true => some (T.set d (some v))
    | false => none
def wantedB (ops : List Oper) (T : Tr Value) (o : Oper) : Option Bool :=
  match o.guard with
  | none => some true
  | some (j, want) => match (ops[j]?).bind (·.dst) with
    | none => some false
    | some t => match look T t with
      | .bool b => some (b == want)
      | .tuple ⟨[]⟩ => some false
      | _ => none

/-! ### Calls -/
/-- A method of a type: found by its name. -/
def methB (P : Program) (t : TypeId) (name : String) : Option (FuncId × Bool) := match P.info? t with
  | some i => match i.methods.find? (·.name == name) with
    | some m => match m.path.isEmpty with
      | true => m.func
      | false => none
    | none => none
  | none => none
def isPtr (P : Program) (t : TypeId) : Option (Option TypeId) := (P.underlying t).map fun
  | .pointer e => some e
  | _ => none
def recvB (P : Program) (t : TypeId) (name : String) (v : Value) : Option (FuncId × Value) :=
  match methB P t name, isPtr P t with
  | some (f, true), some (some _) => some (f, v)
  | some (f, false), some none => some (f, v)
  | _, _ => none
def targetB (P : Program) (ρ : Operand → Value) (c : Call) : Option (FuncId × List Value) :=
  match c.callee with
  | .value f => (match ρ f with
    | .func (.func g) ⟨first⟩ ⟨cap⟩ => some (g, (first ++ c.args.toList.map ρ) ++ cap)
    | .func (.methodOf t name) ⟨first⟩ ⟨_⟩ => (match P.underlying t, first ++ c.args.toList.map ρ with
      | some (.interface _), _ => none
      | some _, x :: rest => (recvB P t name x).map fun (g, y) => (g, y :: rest)
      | _, _ => none)
    | _ => none)
  | .invoke r name => (match ρ r with
    | .iface t v => (recvB P t name v).map fun (g, y) => (g, y :: c.args.toList.map ρ)
    | _ => none)
  | .builtin _ => none
abbrev CallB := FuncId → List Value → Hp → Option (Value × Hp)
def okFn (P : Program) (f : FuncId) : Bool := match P.funcs[f]? with
  | some fn => fn.body.isSome && !(fn.name == "runtime.NumGoroutine")
  | none => false
def evE (P : Program) (call : CallB) (ρ : Operand → Value) (h : Hp) : Op → Option (Value × Hp)
  | .store t a v => (match storeB P h.t t (ρ a) (ρ v) with
    | some t => some (undef, ⟨t, h.next⟩)
    | none => none)
  | .mapUpdate t m k v => (match mapSetB P h.t t (ρ m) (ρ k) (ρ v) with
    | some t => some (undef, ⟨t, h.next⟩)
    | none => none)
  | .call c => (match c.callee, c.args.toList with
    | .builtin .append, [s, x] => appendB P h c.argTypes.toList (ρ s) (ρ x)
    | _, _ => match targetB P ρ c with
      | some (g, args) => match okFn P g with
        | true => call g args h
        | false => none
      | none => none)
  | _ => none
/-- What an operation is to memory. -/
inductive Kd where
  | quiet
  | alloc
  | eff
def kind : Op → Kd
  | .alloc _ => .alloc
  | .box _ _ => .alloc
  | .makeMap _ _ => .alloc
  | .makeSlice _ _ _ => .alloc
  | .buildSlice _ _ _ => .alloc
  | .store _ _ _ => .eff
  | .mapUpdate _ _ _ _ => .eff
  | .call c => (match c.callee with
    | .builtin .append => .eff
    | .builtin .copy => .eff
    | .builtin .delete => .eff
    | .builtin _ => .quiet
    | _ => .eff)
  | _ => .quiet
def evOp (P : Program) (sy : Sy) (call : CallB) (ρ : Operand → Value) (h : Hp) (o : Op) : Option (Value × Hp) :=
  match kind o with
  | .quiet => match evQ P sy ρ h.t o with
    | some v => some (v, h)
    | none => none
  | .alloc => match evA P ρ h.next o with
    | some (v, ob) => some (v, ⟨h.t.set h.next (some ob), h.next + 1⟩)
    | none => none
  | .eff => evE P call ρ h o
def evSeq (P : Program) (sy : Sy) (G n : Nat) (call : CallB) (all : List Oper) : List Oper → Tr Value → Hp → Option (Tr Value × Hp)
  | [], T, h => some (T, h)
  | o :: rest, T, h => match wantedB all T o with
    | some true => match evOp P sy call (evl G T) h o.op with
      | some (v, h') => match putT n T o.dst v with
        | some T' => evSeq P sy G n call all rest T' h'
        | none => none
      | none => none
    | some false => match putT n T o.dst undef with
      | some T' => evSeq P sy G n call all rest T' h
      | none => none
    | none => none

inductive Ex where
  | normal
  | exit (id : Nat)
  | ret
/-- A region that draws its order: see further on. -/
abbrev DrawB := (ops : Array Oper) → Tr Value → Hp → Option (Tr Value × Hp)
def evC (P : Program) (sy : Sy) (G n : Nat) (call : CallB) (draw : DrawB) : Nat → Code → Tr Value → Hp → Option (Ex × Tr Value × Hp)
  | 0, _, _, _ => none
  | f + 1, c, T, h => match c with
    | .skip => some (.normal, T, h)
    | .label _ => some (.normal, T, h)
    | .region _ ops false => (match evSeq P sy G n call ops.toList ops.toList T h with
      | some (T', h') => some (.normal, T', h')
      | none => none)
    | .region _ ops true => (match draw ops T h with
      | some (T', h') => some (.normal, T', h')
      | none => none)
    | .seq a b => (match evC P sy G n call draw f a T h with
      | some (.normal, T', h') => evC P sy G n call draw f b T' h'
      | r => r)
    | .cond x a b => (match evl G T x with
      | .bool true => evC P sy G n call draw f a T h
      | .bool false => evC P sy G n call draw f b T h
      | _ => none)
    | .block id body => (match evC P sy G n call draw f body T h with
      | some (.exit id', T', h') => (match Nat.beq id' id with
        | true => some (.normal, T', h')
        | false => some (.exit id', T', h'))
      | r => r)
    | .loop body => (match evC P sy G n call draw f body T h with
      | some (.normal, T', h') => evC P sy G n call draw f (.loop body) T' h'
      | r => r)
    | .scope body => evC P sy G n call draw f body T h
    | .exit id => some (.exit id, T, h)
    | .ret => some (.ret, T, h)
    | _ => none
def args0 : List Value → Nat → Tr Value → Tr Value
  | [], _, T => T
  | v :: l, i, T => args0 l (i + 1) (T.set i (some v))
def resB (P : Program) (H : Tr AObj) (T : Tr Value) : List ResultVar → Option (List Value)
  | [] => some []
  | .tmp t :: l => (resB P H T l).map (look T t :: ·)
  | .cell a t :: l => match loadB P H t (look T a), resB P H T l with
    | some v, some vs => some (v :: vs)
    | _, _ => none
def packB : List Value → Value
  | [v] => v
  | l => .tuple ⟨l⟩
/-- Calls that are not looked into: what they come to is told by a table. -/
abbrev Tb := Tr (List Value → Hp → Option (Value × Hp))
/-- The first fuel is for calls in calls; the second, for one body. -/
def evF (P : Program) (sy : Sy) (tb : Tb) (G : Nat) (draw : Nat → Nat → CallB → DrawB) (k : Nat) : Nat → CallB
  | 0, _, _, _ => none
  | f + 1, g, args, h => match tb.at_ g with
  | some c => c args h
  | none => match P.funcs[g]? with
    | some fn => match fn.body with
      | some c => match Nat.ble args.length fn.ntmps with
        | true => match evC P sy G fn.ntmps (evF P sy tb G draw k f) (draw G fn.ntmps (evF P sy tb G draw k f)) k c (args0 args 0 .nil) h with
          | some (.exit _, _, _) => none
          | some (_, T, h') => match resB P h'.t T fn.results.toList with
            | some vs => some (packB vs, h')
            | none => none
          | none => none
        | false => none
      | none => none
    | none => none
end Go.Eva
end
