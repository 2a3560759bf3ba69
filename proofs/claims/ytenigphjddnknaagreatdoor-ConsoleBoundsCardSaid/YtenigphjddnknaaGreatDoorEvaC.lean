/-
  A run of a closed call: what only reads. No program in sight.
-/
import Derived.Test.YtenigphjddnknaaGreatDoorEvaB
import Derived.Laws.CopyRow
import Derived.Laws.StructEq
set_option linter.unusedSimpArgs false
set_option linter.unusedVariables false
namespace Go.Eva
open Go Go.RowKit Go.Viv

theorem has_spec {α : Type} : ∀ {l : List α} {n : Nat}, has l n = true → n ≤ l.length
  | _, 0, _ => Nat.zero_le _
  | [], n + 1, h => by simp [has] at h
  | _ :: l, n + 1, h => by simp only [has] at h; have := has_spec h; simp; omega
theorem ble_iff {a b : Nat} (h : Nat.ble a b = true) : a ≤ b := Nat.le_of_ble_eq_true h
theorem blt_iff {a b : Nat} (h : Nat.blt a b = true) : a < b := Nat.le_of_ble_eq_true h
theorem beq_iff {a b : Nat} (h : Nat.beq a b = true) : a = b := Nat.eq_of_beq_eq_true h

section
variable {P : Program} {w : World}
theorem run_size {t : TypeId} {n : Nat} (h : sizeB P t = some n) : (sizeOf t).run P w = .ok n w := by
  unfold sizeB at h
  cases hi : P.info? t with
  | none => rw [hi] at h; cases h
  | some i => rw [hi] at h; simp at h; simp [sizeOf, typeInfo, hi, h]
theorem run_agg {t : TypeId} {b : Bool} (h : isAggB P t = some b) : (isAgg t).run P w = .ok b w := by
  unfold isAggB at h
  cases hu : P.underlying t with
  | none => rw [hu] at h; cases h
  | some d => rw [hu] at h; simp at h; simp only [isAgg, Sem.run_bind, run_underlying hu, Result.andThen_ok]; cases d <;> simp_all
theorem run_zero {t : TypeId} {z : List Value} (h : zeroB P t = some z) : ∃ v, (zeroValue t).run P w = .ok v w ∧ v.cells.toList = z := by
  unfold zeroB at h
  cases hi : P.info? t with
  | none => rw [hi] at h; cases h
  | some i =>
    rw [hi] at h
    simp only at h
    cases hz : i.zero with
    | none => rw [hz] at h; cases h
    | some v => rw [hz] at h; simp at h; exact ⟨v, by simp [zeroValue, typeInfo, hi, hz], h⟩
theorem pureRun_spec {α : Type} : ∀ (s : Sem α) {a : α}, pureRun P s = some a → s.run P w = .ok a w
  | .pure a, _, h => by simp only [pureRun, Option.some.injEq] at h; subst h; rfl
  | .program k, a, h => by simp only [pureRun] at h; simp only [Sem.run]; exact pureRun_spec (k P) h
  | .load _ _ _, _, h => by simp [pureRun] at h
  | .store _ _ _ _, _, h => by simp [pureRun] at h
  | .new _ _, _, h => by simp [pureRun] at h
  | .shape _ _, _, h => by simp [pureRun] at h
  | .freeze _ _ _, _, h => by simp [pureRun] at h
  | .frozen _ _, _, h => by simp [pureRun] at h
  | .getObj _ _, _, h => by simp [pureRun] at h
  | .setObj _ _ _, _, h => by simp [pureRun] at h
  | .choose _ _, _, h => by simp [pureRun] at h
  | .sys _ _, _, h => by simp [pureRun] at h
  | .mark _ _, _, h => by simp [pureRun] at h
  | .halt _, _, h => by simp [pureRun] at h
theorem onlyPlain_spec {v u : Value} (h : onlyPlain v = some u) : u = v ∧ plainV v = true := by
  unfold onlyPlain at h
  cases hp : plainV v <;> rw [hp] at h <;> simp at h
  exact ⟨h.symm, rfl⟩
theorem semV_spec {ν : Toks} {φ : Phi} {s : Sem Value} {v : Value} (h : semV s = some v) : s = .pure v ∧ VR ν φ v v := by
  cases s <;> simp only [semV] at h <;> try cases h
  obtain ⟨rfl, hp⟩ := onlyPlain_spec h
  exact ⟨rfl, VR.refl _ hp⟩
theorem runV_spec {ν : Toks} {φ : Phi} {s : Sem Value} {v : Value} (h : runV P s = some v) : s.run P w = .ok v w ∧ VR ν φ v v := by
  unfold runV at h
  cases hp : pureRun P s with
  | none => rw [hp] at h; cases h
  | some u =>
    rw [hp] at h
    obtain ⟨rfl, hq⟩ := onlyPlain_spec h
    exact ⟨pureRun_spec s hp, VR.refl _ hq⟩
end

section
variable {P : Program} {G : Nat} {W0 : Begin} {ν : Toks} {φ : Phi} {s : Hp} {w : World}

theorem Rw.cells_ (hR : Rw P G W0 ν φ s w) {B : Nat} {r : Ref} {c : List Value} {e : TypeId} {rw_ : Bool} (hφ : φ B = some r) (ht : s.t.at_ B = some (.cells c e rw_)) :
    ∃ cs e' fr, w.heap[r.b]? = some (.cells cs e' fr) ∧ cs.size = r.sz ∧ (rw_ = true → e' = e ∧ sizeB P e = some r.es ∧ W0.own r.b ∧ fr = (0, 0)) ∧ VRs ν φ c (cs.toList.take c.length) ∧ c.length ≤ cs.size := by
  cases hR.obj B r _ hφ ht with
  | cells h hs hrw hc =>
    refine ⟨_, _, _, h, hs, hrw, hc, ?_⟩
    have := hc.length
    simp at this
    omega
theorem Rw.cell (hR : Rw P G W0 ν φ s w) {B : Nat} {r : Ref} {c : List Value} {e : TypeId} {rw_ : Bool} (hφ : φ B = some r) (ht : s.t.at_ B = some (.cells c e rw_)) {i : Nat} {v : Value} (hi : c[i]? = some v) :
    ∃ v', w.cell? ⟨r.b, i, none⟩ = some v' ∧ VR ν φ v v' := by
  obtain ⟨cs, e', fr, h, hs, hrw, hc, hl⟩ := hR.cells_ hφ ht
  obtain ⟨v', h1, h2⟩ := hc.get hi
  refine ⟨v', ?_, h2⟩
  rw [cell_of_row w r.b i cs e' fr h]
  have : i < c.length := (List.getElem?_eq_some_iff.1 hi).1
  rw [List.getElem?_take_of_lt this] at h1
  simpa using h1
theorem add_off (b o i : Nat) : (⟨b, o, none⟩ : Addr).add i = ⟨b, o + i, none⟩ := by unfold Addr.add; split <;> simp_all
theorem Rw.row (hR : Rw P G W0 ν φ s w) {B : Nat} {r : Ref} {c : List Value} {e : TypeId} {rw_ : Bool} (hφ : φ B = some r) (ht : s.t.at_ B = some (.cells c e rw_)) {o n : Nat} {l : List Value} (hl : readCells c o n = some l) :
    ∃ l', (∀ w2 : World, w2.heap = w.heap → (loadCells ⟨r.b, o, none⟩ n).run P w2 = .ok ⟨l'⟩ w2) ∧ VRs ν φ l l' ∧ l.length = n := by
  unfold readCells at hl
  cases hh : has (c.drop o) n with
  | false => rw [hh] at hl; cases hl
  | true =>
    rw [hh] at hl
    simp only [Option.some.injEq] at hl
    subst hl
    have hn := has_spec hh
    obtain ⟨cs, e', fr, h, hs, hrw, hc, hle⟩ := hR.cells_ hφ ht
    have hv := (hc.drop o).take n
    have hlen := hv.length
    have hl2 : ((c.drop o).take n).length = n := by simp at hn ⊢; omega
    refine ⟨_, fun w2 hw2 => ?_, hv, hl2⟩
    have := run_loadCells_list (P := P) w2 ⟨r.b, o, none⟩ (((cs.toList.take c.length).drop o).take n) (fun j v hj => by
      rw [add_off, cell_of_row w2 r.b (o + j) cs e' fr (by rw [hw2]; exact h)]
      have hjn : j < n := by
        have := (List.getElem?_eq_some_iff.1 hj).1
        simp at this; omega
      rw [List.getElem?_take_of_lt hjn, List.getElem?_drop] at hj
      have h3 : o + j < c.length := by simp at hn; omega
      rw [List.getElem?_take_of_lt h3] at hj
      simpa using hj)
    rw [hlen, hl2] at this
    simpa using this
theorem load_sound (hR : Rw P G W0 ν φ s w) {t : TypeId} {v v' u : Value} (hv : VR ν φ v v') (h : loadB P s.t t v = some u) : ∃ u', (Instr.loadAt t v').run P w = .ok u' w ∧ VR ν φ u u' := by
  cases hv <;> simp only [loadB] at h <;> try cases h
  rename_i B o r hφ
  cases ht : s.t.at_ B with
  | none => rw [ht] at h; cases h
  | some ob =>
    rw [ht] at h
    cases ob with
    | map es clk => cases h
    | res x =>
      simp only at h
      obtain ⟨fp, q1, _⟩ := hR.res
      have hvw := W0.vw (q1 B r x hφ ht)
      cases ha : isAggB P t with
      | none => rw [ha] at h; cases h
      | some b =>
        rw [ha] at h
        have hra := run_agg (w := w) ha
        cases b with
        | true =>
          simp only at h
          cases hz : sizeB P t with
          | none => rw [hz] at h; cases h
          | some n =>
            rw [hz] at h
            simp only [Option.map_eq_some_iff] at h
            obtain ⟨l, hl, rfl⟩ := h
            unfold readCells at hl
            cases hh : has ((viewRs x).drop o) n with
            | false => rw [hh] at hl; cases hl
            | true =>
              rw [hh] at hl
              simp only [Option.some.injEq] at hl
              subst hl
              have hn := has_spec hh
              have hlen : (((viewRs x).drop o).take n).length = n := by simp at hn ⊢; omega
              have := run_loadCells_list (P := P) w ⟨r.b, o, none⟩ (((viewRs x).drop o).take n) (fun j v hj => by
                rw [add_off]
                have hjn : j < n := by
                  have := (List.getElem?_eq_some_iff.1 hj).1
                  simp at this; omega
                rw [List.getElem?_take_of_lt hjn, List.getElem?_drop] at hj
                exact hvw _ _ hj)
              rw [hlen] at this
              refine ⟨.agg ⟨((viewRs x).drop o).take n⟩, by simp [Instr.loadAt, Instr.sureAddr, loadVar, hra, run_size (w := w) hz, this], .agg (((VRs.refl _ (viewRs_plain x)).drop o).take n)⟩
        | false =>
          simp only at h
          have h1 := hvw _ _ h
          refine ⟨u, by simp [Instr.loadAt, Instr.sureAddr, loadVar, hra, load, Sem.run, h1], ?_⟩
          obtain ⟨v', h2, h3⟩ := (VRs.refl (ν := ν) (φ := φ) _ (viewRs_plain x)).get h
          rw [h] at h2
          cases h2
          exact h3
    | cells c e rw_ =>
      simp only at h
      cases ha : isAggB P t with
      | none => rw [ha] at h; cases h
      | some b =>
        rw [ha] at h
        have hra := run_agg (w := w) ha
        cases b with
        | true =>
          simp only at h
          cases hz : sizeB P t with
          | none => rw [hz] at h; cases h
          | some n =>
            rw [hz] at h
            simp only at h
            cases hc : readCells c o n with
            | none => rw [hc] at h; cases h
            | some l =>
              rw [hc] at h
              simp at h
              subst h
              obtain ⟨l', h1, h2, _⟩ := hR.row hφ ht hc
              exact ⟨.agg ⟨l'⟩, by simp [Instr.loadAt, Instr.sureAddr, loadVar, hra, run_size (w := w) hz, h1 w rfl], .agg h2⟩
        | false =>
          simp only at h
          obtain ⟨u', h1, h2⟩ := hR.cell hφ ht h
          exact ⟨u', by simp [Instr.loadAt, Instr.sureAddr, loadVar, hra, load, Sem.run, h1], h2⟩
theorem VR.wrapInt {v v' : Value} {i : Nat} (hv : VR ν φ v v') (h : wrapInt v = some i) : ∃ k, v' = .int k i := by
  cases hv <;> simp only [Eva.wrapInt] at h <;> try cases h
  rename_i k n
  cases n <;> cases h
  exact ⟨k, rfl⟩
/-- A value at which a nil check yields itself. -/
def nn : Value → Bool
  | .pointer none => false
  | .nilIface => false
  | .nilFunc => false
  | .func (.method _) _ _ => false
  | _ => true
theorem nil_sound {v v' u : Value} (hv : VR ν φ v v') (h : nilB v = some u) : u = v ∧ nn v' = true := by
  cases hv <;> simp only [nilB] at h <;> try cases h
  all_goals first
    | exact ⟨rfl, rfl⟩
    | skip
  rename_i fn f f' c c' h1 h2
  cases fn <;> cases h <;> exact ⟨rfl, rfl⟩
theorem fieldAddr_sound {t : TypeId} {f : Nat} {v v' u : Value} (hv : VR ν φ v v') (h : fieldAddrB P t f v = some u) : ∃ u', (Instr.fieldAt t v' f).run P w = .ok u' w ∧ VR ν φ u u' := by
  cases hv <;> simp only [fieldAddrB] at h <;> try cases h
  rename_i B o r hφ
  cases hu : P.underlying t with
  | none => rw [hu] at h; cases h
  | some d =>
    rw [hu] at h
    cases d <;> simp only at h <;> try cases h
    rename_i fs
    cases hf : fs[f]? with
    | none => rw [hf] at h; cases h
    | some fd =>
      rw [hf] at h
      simp only at h
      cases hz : sizeB P fd.type with
      | none => rw [hz] at h; cases h
      | some n =>
        rw [hz] at h
        cases n <;> simp only at h <;> cases h
        rename_i n
        refine ⟨_, ?_, .ptr hφ⟩
        simp [Instr.fieldAt, run_underlying hu, hf, Instr.sureAddr, fieldPlace, run_size (w := w) hz, add_off]
theorem part_sound {t : TypeId} {cs cs' : List Value} {off : Nat} {u : Value} (hv : VRs ν φ cs cs') (h : partB P t cs off = some u) : ∃ u', (part t ⟨cs'⟩ off).run P w = .ok u' w ∧ VR ν φ u u' := by
  unfold partB at h
  cases ha : isAggB P t with
  | none => rw [ha] at h; cases h
  | some b =>
    rw [ha] at h
    have hra := run_agg (w := w) ha
    cases b with
    | true =>
      simp only at h
      cases hz : sizeB P t with
      | none => rw [hz] at h; cases h
      | some n =>
        rw [hz] at h
        simp only [Option.some.injEq] at h
        subst h
        refine ⟨_, ?_, .agg ((hv.drop off).take n)⟩
        simp only [part, Sem.run_bind, hra, Result.andThen_ok, if_true, run_size (w := w) hz, Sem.run_pure]
        congr 2
        apply Array.ext'
        simp [List.extract_eq_take_drop]
    | false =>
      simp only at h
      obtain ⟨u', h1, h2⟩ := hv.get h
      exact ⟨u', by simp [part, hra, h1], h2⟩
theorem field_sound {t : TypeId} {f : Nat} {v v' u : Value} (hv : VR ν φ v v') (h : fieldB P t f v = some u) : ∃ u', (Instr.field t v' f).run P w = .ok u' w ∧ VR ν φ u u' := by
  cases hv <;> simp only [fieldB] at h <;> try cases h
  rename_i l l' hl
  cases hu : P.underlying t with
  | none => rw [hu] at h; cases h
  | some d =>
    rw [hu] at h
    cases d <;> simp only at h <;> try cases h
    rename_i fs
    cases hf : fs[f]? with
    | none => rw [hf] at h; cases h
    | some fd =>
      rw [hf] at h
      simp only at h
      obtain ⟨u', h1, h2⟩ := part_sound (w := w) hl h
      exact ⟨u', by simp [Instr.field, run_underlying hu, hf, asAgg, h1], h2⟩
theorem indexAddr_sound {t : TypeId} {x x' i i' u : Value} (hx : VR ν φ x x') (hi : VR ν φ i i') (h : indexAddrB P t x i = some u) : ∃ u', (Instr.indexAt t x' i').run P w = .ok u' w ∧ VR ν φ u u' := by
  unfold indexAddrB at h
  cases hw : wrapInt i with
  | none => rw [hw] at h; cases h
  | some k =>
    obtain ⟨ik, rfl⟩ := hi.wrapInt hw
    rw [hw] at h
    cases hu : P.underlying t with
    | none => rw [hu] at h; cases h
    | some d =>
      rw [hu] at h
      cases d <;> simp only at h <;> try cases h
      case slice elem =>
        cases hx <;> simp only at h <;> try cases h
        all_goals
          split at h <;> try cases h
          rename_i hlt hz
          have := blt_iff hlt
          first
            | (refine ⟨_, ?_, .ptr ‹_›⟩
               simp [Instr.indexAt, asIntOf, run_underlying hu, run_size (w := w) hz, add_off, this]; done)
            | omega
      case array len elem =>
        cases hx <;> simp only at h <;> try cases h
        split at h <;> try cases h
        rename_i hlt hz
        have := blt_iff hlt
        refine ⟨_, ?_, .ptr ‹_›⟩
        simp [Instr.indexAt, asIntOf, run_underlying hu, run_size (w := w) hz, add_off, this, Instr.sureAddr]
theorem index_sound {t : TypeId} {x x' i i' u : Value} (hx : VR ν φ x x') (hi : VR ν φ i i') (h : indexB P t x i = some u) : ∃ u', (Instr.index t x' i').run P w = .ok u' w ∧ VR ν φ u u' := by
  unfold indexB at h
  cases hw : wrapInt i with
  | none => rw [hw] at h; cases h
  | some k =>
    obtain ⟨ik, rfl⟩ := hi.wrapInt hw
    rw [hw] at h
    cases hu : P.underlying t with
    | none => rw [hu] at h; cases h
    | some d =>
      rw [hu] at h
      cases d <;> (try simp only at h) <;> try (cases h; done)
      case array len elem =>
        cases hx <;> (try simp only at h) <;> try (cases h; done)
        split at h <;> try cases h
        rename_i hlt hz
        have := blt_iff hlt
        obtain ⟨u', h1, h2⟩ := part_sound (w := w) ‹VRs ν φ _ _› h
        exact ⟨u', by simp [Instr.index, asIntOf, run_underlying hu, run_size (w := w) hz, this, h1], h2⟩
      case string =>
        cases hx <;> (try simp only at h) <;> try (cases h; done)
        rename_i sb
        cases hs : sb[k]? with
        | none => rw [hs] at h; cases h
        | some b =>
          rw [hs] at h
          cases h
          exact ⟨_, by simp [Instr.index, asIntOf, run_underlying hu, hs], .int _ _⟩

theorem run_eqGuard_other {op : BinOp} {t : TypeId} {ox oy : Operand} {a b : Value} (h1 : ¬ (a = .nilIface ∧ b = .nilIface)) (h2 : ∀ c d, ¬ (a = .agg c ∧ b = .agg d)) : (eqGuard op t ox oy a b).run P w = .ok () w := by
  have key : (match a, b with
    | .nilIface, .nilIface => False
    | .agg _, .agg _ => False
    | _, _ => True) := by
    cases a <;> cases b <;> first
      | trivial
      | exact h1 ⟨rfl, rfl⟩
      | exact h2 _ _ ⟨rfl, rfl⟩
  cases op <;> cases a <;> cases b <;> first
    | rfl
    | exact key.elim
theorem same_sound (hR : Rw P G W0 ν φ s w) {B o B' o' : Nat} {r r' : Ref} {b : Bool} (h1 : φ B = some r) (h2 : φ B' = some r') (h : samePtr s.t B o B' o' = some b) : (sameAddr ⟨r.b, o, none⟩ ⟨r'.b, o', none⟩).run P w = .ok b w := by
  unfold samePtr at h
  cases hb : Nat.beq B B' with
  | true =>
    rw [hb] at h
    simp only [Option.some.injEq] at h
    have := beq_iff hb
    subst this
    rw [h1] at h2; cases h2
    subst h
    by_cases e : o = o'
    · subst e; simp [sameAddr]
    · have : Nat.beq o o' = false := by
        cases hq : Nat.beq o o' with
        | false => rfl
        | true => exact absurd (beq_iff hq) e
      simp [sameAddr, this]
  | false =>
    rw [hb] at h
    simp only at h
    split at h <;> try cases h
    rename_i c e c' e' ht ht'
    obtain ⟨cs, _, fr, hh, _, hrw, _, _⟩ := hR.cells_ h1 ht
    obtain ⟨cs', _, fr', hh', _, hrw', _, _⟩ := hR.cells_ h2 ht'
    obtain ⟨_, _, _, rfl⟩ := hrw rfl
    obtain ⟨_, _, _, rfl⟩ := hrw' rfl
    have hne : r.b ≠ r'.b := fun e => by
      have := hR.inj B B' r r' (by rw [ht]; rfl) (by rw [ht']; rfl) (by rw [ht]; rfl) (by rw [ht']; rfl) h1 h2 e
      subst this
      have : Nat.beq B B = true := Nat.beq_refl B
      rw [this] at hb; cases hb
    simp [sameAddr, hne, frozen, Sem.run, World.frozen?, hh, hh', noView, viewAt, shape, World.shape?, mayBeOne, stringish]
theorem eq_sound (hR : Rw P G W0 ν φ s w) {t : TypeId} {x y x' y' : Value} {b : Bool} (hx : VR ν φ x x') (hy : VR ν φ y y') (h : eqB P s.t t x y = some b) :
    (Op.equal t x' y').run P w = .ok b w ∧ ¬ (x' = .nilIface ∧ y' = .nilIface) ∧ (∀ c d, ¬ (x' = .agg c ∧ y' = .agg d)) ∧ (∀ k n, x' ≠ .int k n) ∧ (∀ k n, x' ≠ .float k n) ∧ (∀ k n m, x' ≠ .complex k n m) ∧ (∀ s, x' ≠ .string s) := by
  cases hx <;> cases hy <;> simp only [eqB] at h <;> try (cases h; done)
  all_goals
    rcases hu : P.underlying t with _ | d
    · rw [hu] at h; cases h
    rw [hu] at h
    cases d <;> simp only at h <;> try (cases h; done)
  all_goals first
    | (cases h
       refine ⟨?_, by simp, by simp, by simp, by simp, by simp, by simp⟩
       show (Op.equalIn (9999 + 1) t _ _).run P w = _
       rw [Op.equalIn]
       simp only [Sem.run_bind, run_underlying hu, Result.andThen_ok]
       rfl)
    | skip
  rename_i B o r h1 B' o' r' h2 e
  cases hz : sizeB P e with
  | none => rw [hz] at h; cases h
  | some n =>
    rw [hz] at h
    cases n <;> simp only at h <;> try (cases h; done)
    refine ⟨?_, by simp, by simp, by simp, by simp, by simp, by simp⟩
    show (Op.equalIn (9999 + 1) t _ _).run P w = _
    rw [Op.equalIn]
    simp [run_underlying hu, run_size (w := w) hz, same_sound hR h1 h2 h]
theorem eqInts_len : ∀ {l k : List Value} {b : Bool}, eqInts l k = some b → l.length = k.length ∧ (∀ v ∈ l, plainV v = true) ∧ ∀ v ∈ k, plainV v = true
  | [], [], _, _ => ⟨rfl, by simp, by simp⟩
  | .int .i64 a :: l, .int .i64 c :: k, b, h => by
    simp only [eqInts, Option.map_eq_some_iff] at h
    obtain ⟨r, h1, _⟩ := h
    obtain ⟨h2, h3, h4⟩ := eqInts_len h1
    refine ⟨by simp [h2], fun v hv => ?_, fun v hv => ?_⟩
    · rcases List.mem_cons.1 hv with rfl | hv
      · rfl
      · exact h3 v hv
    · rcases List.mem_cons.1 hv with rfl | hv
      · rfl
      · exact h4 v hv
theorem flat_run {w : World} (d : Nat) (xs ys : List Value) : ∀ (fs : List Field) (o : Nat) {b : Bool}, flatF P o fs = true → eqInts (xs.drop o) (ys.drop o) = some b → (xs.drop o).length = fs.length → (Op.eqFields (d + 1) ⟨xs⟩ ⟨ys⟩ fs).run P w = .ok b w
  | [], o, b, _, he, hl => by
    have : xs.drop o = [] := List.length_eq_zero_iff.1 hl
    rw [this] at he
    cases hy : ys.drop o with
    | nil => rw [hy] at he; simp only [eqInts, Option.some.injEq] at he; subst he; simp [Op.eqFields]
    | cons a k => rw [hy] at he; simp [eqInts] at he
  | f :: fs, o, b, hf, he, hl => by
    simp only [flatF, Bool.and_eq_true, Bool.not_eq_true', beq_eq_false_iff_ne, ne_eq] at hf
    obtain ⟨⟨⟨hn, ho⟩, hu⟩, hr⟩ := hf
    have ho' := beq_iff ho
    cases hx : xs.drop o with
    | nil => rw [hx] at hl; simp at hl
    | cons x l =>
      cases hy : ys.drop o with
      | nil => rw [hx, hy] at he; cases x <;> simp [eqInts] at he
      | cons y k =>
        have hx1 : xs.drop (o + 1) = l := by
          have := congrArg List.tail hx
          simpa using this
        have hy1 : ys.drop (o + 1) = k := by
          have := congrArg List.tail hy
          simpa using this
        have hx0 : xs[o]? = some x := by
          have := congrArg (·[0]?) hx
          simpa using this
        have hy0 : ys[o]? = some y := by
          have := congrArg (·[0]?) hy
          simpa using this
        rw [hx, hy] at he
        unfold eqInts at he
        split at he <;> try (cases he; done)
        · rename_i e1 e2; cases e1
        · rename_i a l' c k' e1 e2
          cases e1; cases e2
          simp only [Option.map_eq_some_iff] at he
          obtain ⟨r, h1, h2⟩ := he
          split at hu <;> try (cases hu; done)
          rename_i ik hik
          have hagg : isAggB P f.type = some false := by simp [isAggB, hik]
          have hlen : (xs.drop (o + 1)).length = fs.length := by
            rw [hx1]
            rw [hx] at hl
            simpa using hl
          have ih := flat_run (w := w) d xs ys fs (o + 1) hr (by rw [hx1, hy1]; exact h1) hlen
          have p1 : (part f.type ⟨xs⟩ f.offset).run P w = .ok (.int .i64 a) w := by
            rw [ho']
            simp [part, run_agg (w := w) hagg, hx0]
          have p2 : (part f.type ⟨ys⟩ f.offset).run P w = .ok (.int .i64 c) w := by
            rw [ho']
            simp [part, run_agg (w := w) hagg, hy0]
          simp only [Op.eqFields, ne_eq, hn, not_false_eq_true, if_true, Sem.run_bind, p1, p2, Result.andThen_ok, run_equalIn_int w d f.type .i64 ik a c hik]
          by_cases hac : a = c
          · subst hac
            simp only [decide_true, Bool.true_and] at h2
            subst h2
            simpa using ih
          · have : (a == c) = false := by simpa using hac
            rw [this]
            simp only [decide_eq_false hac, Bool.false_and] at h2
            subst h2
            simp
theorem plainL_of : ∀ {l : List Value}, (∀ v ∈ l, plainV v = true) → plainL l = true
  | [], _ => rfl
  | v :: l, h => by
    simp only [plainL, Bool.and_eq_true]
    exact ⟨h v (by simp), plainL_of fun u hu => h u (List.mem_cons_of_mem _ hu)⟩
theorem agg_sound {l l' k k' : List Value} (hx : VRs ν φ l l') (hy : VRs ν φ k k') {w : World} {op : BinOp} {t : TypeId} {ox oy : Operand} {u : Value} (h : aggB P op t ox oy l k = some u) :
    ∃ u', (do eqGuard op t ox oy (.agg ⟨l'⟩) (.agg ⟨k'⟩); binOp op t (.agg ⟨l'⟩) (.agg ⟨k'⟩) : Sem Value).run P w = .ok u' w ∧ VR ν φ u u' := by
  unfold aggB at h
  split at h
  · rename_i p n b e1 e2 e3
    split at h <;> try (cases h; done)
    rename_i hlen
    cases h
    obtain ⟨_, hp1, hp2⟩ := eqInts_len e3
    have q1 : plainL l = true := plainL_of hp1
    have q2 : plainL k = true := plainL_of hp2
    have := hx.plain q1
    subst this
    have := hy.plain q2
    subst this
    unfold flatI at e2
    split at e2 <;> try (cases e2; done)
    rename_i fs hu
    split at e2 <;> try (cases e2; done)
    rename_i hf
    simp only [Option.some.injEq] at e2
    simp only [Bool.and_eq_true, Bool.not_eq_true'] at hf
    have hfs : P.fieldsOf t = fs := by simp [Program.fieldsOf, hu]
    have hr := flat_run (P := P) (w := w) 9998 l' k' fs.toList 0 hf.1.1 (by simpa using e3) (by simpa [e2] using beq_iff hlen)
    have hq : (Op.equalIn 10000 t (.agg ⟨l'⟩) (.agg ⟨k'⟩)).run P w = .ok b w := by
      rw [show (10000 : Nat) = 9999 + 1 from rfl, run_equalIn_struct w 9999 t ⟨l'⟩ ⟨k'⟩ (by rw [hfs]; exact hu) hf.1.2, hfs]
      exact hr
    refine ⟨.bool (b == p), ?_, .bool _⟩
    simp only [Sem.run_bind, run_eqGuard_agg w op t ox oy ⟨l'⟩ ⟨k'⟩ hf.2, Result.andThen_ok]
    cases op <;> simp only [isEq] at e1 <;> cases e1
    · rw [run_eql_struct, hq]; simp
    · rw [run_neq_struct, hq]; simp
  · split at h <;> try (cases h; done)
    rename_i hp
    simp only [Bool.and_eq_true] at hp
    have := hx.plain hp.1
    subst this
    have := hy.plain hp.2
    subst this
    obtain ⟨h1, h2⟩ := runV_spec (ν := ν) (φ := φ) (w := w) h
    exact ⟨u, h1, h2⟩
theorem bin_sound (hR : Rw P G W0 ν φ s w) {op : BinOp} {t : TypeId} {ox oy : Operand} {x y x' y' u : Value} (hx : VR ν φ x x') (hy : VR ν φ y y') (h : binB P s.t op t ox oy x y = some u) :
    ∃ u', (do eqGuard op t ox oy x' y'; binOp op t x' y' : Sem Value).run P w = .ok u' w ∧ VR ν φ u u' := by
  unfold binB at h
  split at h
  · rename_i k a k' b
    cases hx
    cases hy
    obtain ⟨h1, h2⟩ := semV_spec (ν := ν) (φ := φ) h
    refine ⟨u, ?_, h2⟩
    simp [run_eqGuard_other (P := P) (w := w) (op := op) (t := t) (ox := ox) (oy := oy) (a := .int k a) (b := .int k' b) (by simp) (by simp), h1]
  · cases hx with
    | agg hx' => cases hy with
      | agg hy' => exact agg_sound hx' hy' h
  · split at h
    · rename_i hp
      simp only [Bool.and_eq_true] at hp
      have e1 := hx.plain hp.1
      have e2 := hy.plain hp.2
      subst e1 e2
      obtain ⟨h1, h2⟩ := runV_spec (ν := ν) (φ := φ) (w := w) h
      exact ⟨u, h1, h2⟩
    · cases hq : isEq op with
      | none => rw [hq] at h; cases h
      | some p =>
        rw [hq] at h
        simp only [Option.map_eq_some_iff] at h
        obtain ⟨b, hb, rfl⟩ := h
        obtain ⟨h1, h2, h3, h4, h5, h6, h7⟩ := eq_sound hR hx hy hb
        refine ⟨_, ?_, .bool _⟩
        simp only [Sem.run_bind, run_eqGuard_other (P := P) (w := w) (op := op) (t := t) (ox := ox) (oy := oy) h2 h3, Result.andThen_ok]
        cases op <;> simp only [isEq] at hq <;> cases hq
        all_goals
          unfold binOp
          split <;> first
            | (rename_i e1 e2; exact absurd rfl (h4 _ _))
            | (exact absurd rfl (h4 _ _))
            | (exact absurd rfl (h5 _ _))
            | (exact absurd rfl (h6 _ _ _))
            | (exact absurd rfl (h7 _))
            | (simp [h1]; done)
            | (simp_all; done)
theorem len_sound {t : TypeId} {v v' u : Value} (hv : VR ν φ v v') (h : lenB P t v = some u) : (∀ ts ty, ts[0]? = some t → (Builtin.len_ ts ty #[v']).run P w = .ok u w) ∧ VR ν φ u u := by
  cases hv <;> simp only [lenB] at h <;> try cases h
  all_goals
    cases hu : P.underlying t with
    | none => rw [hu] at h; cases h
    | some d =>
      rw [hu] at h
      cases d <;> simp only at h <;> try cases h
      all_goals
        refine ⟨fun ts ty ht => ?_, .int _ _⟩
        simp [Builtin.len_, ht, run_underlying hu, goInt]
end
end Go.Eva
