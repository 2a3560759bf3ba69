/-
  A run of a closed call: stores, appends, copies, maps, calls. No program in sight.
-/
import Derived.Test.YtenigphjddnknaaGreatDoorEvaG
import Derived.Deep.AppendSrc
import Derived.Lib.AppendZerosOnto
namespace Go.Eva
open Go Go.RowKit Go.Mix Go.Viv

theorem spl_take {cells vs : List Value} {off k : Nat} (h : off + vs.length ≤ k) (hk : k ≤ cells.length) : (spl cells off vs).take k = spl (cells.take k) off vs := by
  apply List.ext_getElem?
  intro i
  have hl : (cells.take k).length = k := by simp; omega
  by_cases hi : i < k
  · rw [List.getElem?_take_of_lt hi, spl_get (by omega), spl_get (by omega), List.getElem?_take_of_lt hi]
  · rw [List.getElem?_eq_none (by simp; omega), List.getElem?_eq_none (by rw [spl_length (by omega)]; omega)]

section
variable {P : Program} {G : Nat} {W0 : Begin} {ν : Toks} {φ : Phi} {s : Hp} {w : World}

/-- Cells of a block are written. -/
theorem Rw.write (hR : Rw P G W0 ν φ s w) {B : Nat} {r : Ref} {c vs vs' : List Value} {e : TypeId} {o : Nat} (hφ : φ B = some r) (ht : s.t.at_ B = some (.cells c e true)) (ho : o + vs.length ≤ c.length)
    (hv : VRs ν φ vs vs') (h1 : vs.all oneB = true) :
    ∃ w', (storeCells ⟨r.b, o, none⟩ vs').run P w = .ok () w' ∧ Rw P G W0 ν φ ⟨s.t.set B (some (.cells (spl c o vs) e true)), s.next⟩ w' := by
  obtain ⟨cs, _, fr, hh, hs, hrw, hc, hle⟩ := hR.cells_ hφ ht
  obtain ⟨rfl, he, hbase, rfl⟩ := hrw rfl
  have hlen := hv.length
  have hst := run_storeCells_at P r.b o _ vs' 0 cs w hh (by omega) (hv.one_ h1)
  refine ⟨_, hst, ?_⟩
  refine hR.upd hφ (by rw [ht]; rfl) (by rw [ht]; rfl) ⟨?_, ?_, ?_, ?_, ?_⟩ (by simp) (fun k hk => setRow_other _ _ _ _ hk) _ rfl (.cells (setRow_heap w r.b cs _ _ (0, 0) hh) ?_ (fun _ => ⟨rfl, he, hbase, rfl⟩) ?_)
  · simp [hR.frame.os]
  · simp [hR.frame.tape]
  · simp [hR.frame.output]
  · simpa using hR.frame.size
  · intro k hk hn
    rw [setRow_other _ _ _ _ (by intro e; subst e; rcases hbase with h | h; exact hn h; omega)]
    exact hR.frame.block k hk hn
  · rw [← hs]; simp; omega
  · have e1 : (cs.toList.take (o + 0) ++ vs' ++ cs.toList.drop (o + 0 + vs'.length)).toArray.toList = spl cs.toList o vs' := by simp [spl]
    rw [e1, spl_length ho, spl_take (by omega) (by simpa using hle)]
    exact hc.spl hv o
theorem store_sound (hR : Rw P G W0 ν φ s w) {t : TypeId} {a v a' v' : Value} {H' : Tr AObj} (ha : VR ν φ a a') (hv : VR ν φ v v') (h : storeB P s.t t a v = some H') :
    ∃ w', (Instr.storeAt t a' v').run P w = .ok () w' ∧ Rw P G W0 ν φ ⟨H', s.next⟩ w' := by
  unfold storeB at h
  split at h <;> try cases h
  rename_i B o
  split at h <;> try cases h
  rename_i c e n ht hz
  split at h <;> try cases h
  rename_i hb
  simp only [Bool.and_eq_true] at hb
  obtain ⟨⟨hb1, hb2⟩, hb3⟩ := hb
  have g1 := beq_iff hb1
  have g2 := has_spec hb2
  cases ha
  rename_i r hφ
  have hcv := hv.cells hb3
  have hl := hcv.length
  obtain ⟨w', h1, h2⟩ := hR.write hφ ht (o := o) (by simp at g2; omega) hcv hb3
  refine ⟨w', ?_, h2⟩
  have hsz : v'.cells.size = n + 1 := by rw [← Array.length_toList, hl, g1]
  simp [Instr.storeAt, Instr.sureAddr, storeVar, run_size (w := w) hz, hsz, h1]

/-! ### Appends -/
theorem first_sound (hR : Rw P G W0 ν φ s w) {size n : Nat} {x x' : Value} {l : List Value} (hx : VR ν φ x x') (h : firstB s.t size n x = some l) :
    ∃ l', (∀ w2 : World, w2.heap = w.heap → (Builtin.firstCells size n x').run P w2 = .ok ⟨l'⟩ w2) ∧ VRs ν φ l l' := by
  cases hx <;> simp only [firstB] at h <;> try cases h
  case string sb =>
    refine ⟨_, fun w2 _ => ?_, VRs.refl _ ?_⟩
    · simp only [Builtin.firstCells, Sem.run_pure]
      congr 1
      apply Array.ext'
      simp
    · generalize (sb.extract 0 n).data.toList = l
      induction l with
      | nil => rfl
      | cons b l ih => simp [plainL, plainV, ih]
  case sl0 => exact ⟨[], fun _ _ => rfl, .nil⟩
  case emp a c =>
    cases hn0 : Nat.beq n 0 with
    | true =>
      rw [hn0] at h
      cases h
      have := beq_iff hn0
      subst this
      exact ⟨[], fun w2 _ => by simp [Builtin.firstCells, loadCells, loadCellsFrom], .nil⟩
    | false => rw [hn0] at h; cases h
  all_goals
    cases hn0 : Nat.beq n 0 with
    | true =>
      rw [hn0] at h
      cases h
      have := beq_iff hn0
      subst this
      exact ⟨[], fun w2 _ => by simp [Builtin.firstCells, loadCells, loadCellsFrom], .nil⟩
    | false =>
      rw [hn0] at h
      simp only at h
      split at h <;> try cases h
      rename_i c e rw_ hb ht
      have hle := ble_iff hb
      first
        | (obtain ⟨l', h1, h2, _⟩ := hR.row ‹_› ht h
           exact ⟨l', h1, h2⟩)
        | (exfalso
           have : n = 0 := by omega
           subst this
           cases hn0)

/-- What is known of a block's cells, where they are written as append writes them. -/
theorem Rw.writable (hR : Rw P G W0 ν φ s w) {B : Nat} {r : Ref} {c : List Value} {e : TypeId} (hφ : φ B = some r) (ht : s.t.at_ B = some (.cells c e true)) {o n : Nat} (h : o + n ≤ r.sz) :
    (∀ j, j < n → (w.cell? ⟨r.b, o + j, none⟩).isSome = true) ∧ ∀ j, j < n → w.frozen? ⟨r.b, o + j, none⟩ = false := by
  obtain ⟨cs, _, fr, hh, hs, hrw, hc, hle⟩ := hR.cells_ hφ ht
  obtain ⟨rfl, he, hbase, rfl⟩ := hrw rfl
  refine ⟨fun j hj => ?_, fun j hj => by simp [World.frozen?, hh]⟩
  rw [cell_of_row w r.b (o + j) cs _ (0, 0) hh]
  simp; omega
theorem setCells_of {b o : Nat} {vs : List Value} {w' : World} (h1 : ∀ j, j < vs.length → (w.cell? ⟨b, o + j, none⟩).isSome = true) (h2 : ∀ j, j < vs.length → w.frozen? ⟨b, o + j, none⟩ = false) (h3 : ∀ v ∈ vs, v.oneCell' = true)
    (h : (storeCells ⟨b, o, none⟩ vs).run P w = .ok () w') : w.setCells b o vs = w' := by
  have := run_storeCells_cells (P := P) b o vs 0 w (by simpa using h1) (by simpa using h2) h3
  simp only [Nat.add_zero] at this
  rw [h] at this
  cases this
  rfl
theorem first_len {H : Tr AObj} {size n : Nat} {a : Addr} {m c : Nat} {l : List Value} (h : firstB H size n (.slice (some a) m c) = some l) : l.length = n * size := by
  obtain ⟨B, o, sp⟩ := a
  cases sp <;> simp only [firstB] at h <;> try (cases h; done)
  cases hn0 : Nat.beq n 0 with
  | true => rw [hn0] at h; cases h; rw [beq_iff hn0]; simp
  | false =>
    rw [hn0] at h
    simp only at h
    split at h <;> try cases h
    unfold readCells at h
    split at h <;> cases h
    rename_i hh
    have := has_spec hh
    simp at this ⊢
    omega

/-- A row's block is written past what is known of it, and goes by another number from now on. -/
theorem Rw.alias (hR : Rw P G W0 ν φ s w) {B : Nat} {r : Ref} {w' : World} (hφ : φ B = some r) (halive : (s.t.at_ B).isSome = true) (hn : isRes (s.t.at_ B) = false) (_hG : G ≤ s.next) (hf : Fr W0.may W0.w w') (hz : w'.heap.size = w.heap.size)
    (hb : ∀ k, k ≠ r.b → w'.heap[k]? = w.heap[k]?) (o : AObj) (hno : isRes (some o) = false) (ho : ObjR P W0.own ν (φ.add s.next r) w' r o) :
    Rw P G W0 ν (φ.add s.next r) ⟨(s.t.set B none).set s.next (some o), s.next + 1⟩ w' := by
  have hN : φ s.next = none := hR.fresh _ (Nat.le_refl _)
  have hBN : B ≠ s.next := fun e => by rw [e, hN] at hφ; cases hφ
  have hup := φ.add_up r hN
  have hat : ∀ X, X ≠ s.next → X ≠ B → ((s.t.set B none).set s.next (some o)).at_ X = s.t.at_ X := fun X h1 h2 => by
    rw [Tr.at_set_ne _ _ (Ne.symm h1), Tr.at_set_ne _ _ (Ne.symm h2)]
  have hatB : ((s.t.set B none).set s.next (some o)).at_ B = none := by rw [Tr.at_set_ne _ _ (Ne.symm hBN), Tr.at_set_same]
  have hatN : ((s.t.set B none).set s.next (some o)).at_ s.next = some o := Tr.at_set_same _ _ _
  have hnB : ∀ X, (((s.t.set B none).set s.next (some o)).at_ X).isSome = true → X ≠ B := fun X h e => by rw [e, hatB] at h; cases h
  have hsome : ∀ o : Option AObj, isRes o = true → o.isSome = true := fun o h => by obtain ⟨x, rfl⟩ := res_at h; rfl
  have hrN : ∀ X, isRes (((s.t.set B none).set s.next (some o)).at_ X) = true → X ≠ s.next ∧ X ≠ B := fun X h => ⟨(fun e => by rw [e, hatN, hno] at h; cases h), hnB X (hsome _ h)⟩
  refine ⟨hf, fun g hg => ?_, fun X hX => ?_, fun X r' h => ?_, fun X r' o' h h' => ?_, fun X X' r1 r2 h1 h2 h3' h4' h3 h4 h5 => ?_, ?_⟩
  · obtain ⟨r', h1, h2⟩ := hR.glob g hg
    exact ⟨r', hup _ _ h1, h2⟩
  · rw [Phi.add_ne _ _ (by simp only at hX; omega)]; exact hR.fresh X (by simp only at hX; omega)
  · rw [hz]
    by_cases e : X = s.next
    · subst e; rw [Phi.add_same] at h; cases h; exact hR.bound B r hφ
    · rw [Phi.add_ne _ _ e] at h; exact hR.bound X r' h
  · by_cases e : X = s.next
    · subst e
      rw [Phi.add_same] at h; cases h
      simp only [hatN] at h'; cases h'
      exact ho
    · rw [Phi.add_ne _ _ e] at h
      have h7 := hnB X (by simp only at h'; rw [h']; rfl)
      simp only [hat X e h7] at h'
      exact ((hR.obj X r' o' h h').far (fun hno' => hb _ fun e2 => h7 (hR.inj X B r' r (by rw [h']; rfl) halive (by rw [h']; exact hno') hn h hφ e2))).ext hup
  · have g1 := hnB X h1
    have g2 := hnB X' h2
    by_cases e : X = s.next <;> by_cases e' : X' = s.next
    · rw [e, e']
    · exfalso
      subst e
      rw [Phi.add_same] at h3; cases h3
      rw [Phi.add_ne _ _ e'] at h4
      simp only [hat X' e' g2] at h2 h4'
      exact g2 (hR.inj X' B r2 r h2 halive h4' hn h4 hφ h5.symm)
    · exfalso
      subst e'
      rw [Phi.add_same] at h4; cases h4
      rw [Phi.add_ne _ _ e] at h3
      simp only [hat X e g1] at h1 h3'
      exact g1 (hR.inj X B r1 r h1 halive h3' hn h3 hφ h5)
    · rw [Phi.add_ne _ _ e] at h3
      rw [Phi.add_ne _ _ e'] at h4
      simp only [hat X e g1] at h1 h3'
      simp only [hat X' e' g2] at h2 h4'
      exact hR.inj X X' r1 r2 h1 h2 h3' h4' h3 h4 h5
  · obtain ⟨fp, q1, q2, q3, q4⟩ := hR.res
    have hbk : ∀ X r' k, φ X = some r' → isRes (s.t.at_ X) = true → fp X k → k ≠ r.b := fun X r' k h h' hk e => by
      subst e
      exact q4 X B r' r h hφ h' halive hn hk
    refine ⟨fp, fun X r' y h h' => ?_, fun X r' k h h' hk => ?_, fun X X' r1 r2 k h1 h2 h3 h4 => ?_, fun X X' r1 r2 h1 h2 h3 h4 h5 => ?_⟩
    · obtain ⟨e1, e2⟩ := hrN X (by simp only at h'; rw [h']; rfl)
      rw [Phi.add_ne _ _ e1] at h
      simp only [hat X e1 e2] at h'
      exact W0.riX hup (W0.riF (q1 X r' y h h') (fun k hk => hb k (hbk X r' k h (by rw [h']; rfl) hk)) (by rw [hz]; exact Nat.le_refl _))
    · obtain ⟨e1, e2⟩ := hrN X h'
      rw [Phi.add_ne _ _ e1] at h
      simp only [hat X e1 e2] at h'
      rw [hz]
      exact q2 X r' k h h' hk
    · obtain ⟨e1, e2⟩ := hrN X h3
      obtain ⟨e3, e4⟩ := hrN X' h4
      rw [Phi.add_ne _ _ e1] at h1
      rw [Phi.add_ne _ _ e3] at h2
      simp only [hat X e1 e2] at h3
      simp only [hat X' e3 e4] at h4
      exact q3 X X' r1 r2 k h1 h2 h3 h4
    · obtain ⟨e1, e2⟩ := hrN X h3
      rw [Phi.add_ne _ _ e1] at h1
      simp only [hat X e1 e2] at h3
      have g2 := hnB X' h4
      by_cases e' : X' = s.next
      · subst e'
        rw [Phi.add_same] at h2; cases h2
        exact fun hk => hbk X r1 _ h1 h3 hk rfl
      · rw [Phi.add_ne _ _ e'] at h2
        simp only [hat X' e' g2] at h4 h5
        exact q4 X X' r1 r2 h1 h2 h3 h4 h5
theorem len_of {x x' : Value} {n : Nat} (hx : VR ν φ x x') (h : lenV x = some n) (w' : World) : (Builtin.lenOf x').run P w' = .ok n w' := by
  cases hx <;> simp only [lenV] at h <;> cases h <;> rfl
theorem Ext.add {n : Nat} (r : Ref) : Ext n φ (φ.add n r) := fun B hB => Phi.add_ne _ _ (by omega)
/-- What a step of the run comes to. -/
def Step (P : Program) (G : Nat) (W0 : Begin) (ν : Toks) (φ : Phi) (s : Hp) (v : Value) (h' : Hp) (v' : Value) (w' : World) : Prop :=
  ∃ φ', VR ν φ' v v' ∧ Rw P G W0 ν φ' h' w' ∧ Ext s.next φ φ' ∧ s.next ≤ h'.next
theorem Step.same {v v' : Value} {w' : World} {t : Tr AObj} (hR : Rw P G W0 ν φ ⟨t, s.next⟩ w') (hv : VR ν φ v v') : Step P G W0 ν φ s v ⟨t, s.next⟩ v' w' :=
  ⟨φ, hv, hR, Ext.refl _ _, Nat.le_refl _⟩
/-- A row that grows into a new block. -/
theorem grow_sound (hR : Rw P G W0 ν φ s w) (hG : G ≤ s.next) {e : TypeId} {size k cap : Nat} {c : List Value} {c' z : Array Value} (he : sizeB P e = some size) (hc : VRs ν φ c c'.toList) (hlen : c.length = (k + 1) * size) (hz : z.size = size)
    (hcap : k + 1 ≤ cap) : Step P G W0 ν φ s (.slice (some ⟨s.next, 0, none⟩) (k + 1) 0) ⟨s.t.set s.next (some (.cells c e true)), s.next + 1⟩ (.slice (some ⟨w.heap.size, 0, none⟩) (k + 1) cap)
      (w.drew.alloc (.cells (c' ++ Builtin.zeroCells z (cap - (k + 1))) e)) := by
  have hN : φ s.next = none := hR.fresh _ (Nat.le_refl _)
  have h1 := (hR.ghost hN (some (.cells c e true)) (Nat.le_succ s.next)).drew
  have hcl : c'.size = (k + 1) * size := by have := hc.length; simp at this; omega
  have h2 := born_cells h1 hN (Nat.lt_succ_self _) hG (Tr.at_set_same _ _ _) he (cs := c' ++ Builtin.zeroCells z (cap - (k + 1))) (by
    rw [Array.toList_append, List.take_append_of_le_length (by have := hc.length; omega)]
    exact take_all hc)
  refine ⟨_, .slu (Phi.add_same _ _ _) hcap ?_, h2, Ext.add _, Nat.le_succ _⟩
  simp only [Array.size_append, size_zeroCells, hcl, hz]
  have : cap = (k + 1) + (cap - (k + 1)) := by omega
  conv => lhs; rw [this, Nat.add_mul]
  simp
/-- What is appended: how the model lays it. -/
structure ASrc (P : Program) (st xt ty e : TypeId) (zv : Value) (size n : Nat) (x : Value) (news : List Value) (w : World) : Prop where
  len : news.length = n * size
  one : ∀ u ∈ news, u.oneCell' = true
  nil0 : n = 0 → (Builtin.append_ #[st, xt] ty #[.slice none 0 0, x]).run P w = .ok (.slice none 0 0) w
  room : ∀ b off sLen sCap, sLen + n ≤ sCap → (∀ j, j < news.length → (w.cell? ⟨b, off + sLen * size + j, none⟩).isSome = true) → (∀ j, j < news.length → w.frozen? ⟨b, off + sLen * size + j, none⟩ = false) →
    (Builtin.append_ #[st, xt] ty #[.slice (some ⟨b, off, none⟩) sLen sCap, x]).run P w = .ok (.slice (some ⟨b, off, none⟩) (sLen + n) sCap) (w.setCells b (off + sLen * size) news)
  grow : ∀ base sLen sCap olds, (Builtin.firstCells size sLen (.slice base sLen sCap)).run P w.drew = .ok olds.toArray w.drew → sCap < sLen + n → sLen ≤ 1000001 → 0 < n →
    (Builtin.append_ #[st, xt] ty #[.slice base sLen sCap, x]).run P w = .ok (.slice (some ⟨w.heap.size, 0, none⟩) (sLen + n) (grownCap w (sLen + n) sCap e))
      (w.drew.alloc (.cells ((olds ++ news).toArray ++ Builtin.zeroCells zv.cells (grownCap w (sLen + n) sCap e - (sLen + n))) e))
theorem fits {need old bytes : Nat} (h : old < need) (hn : need ≤ 2000002) (hb : bytes ≤ 1000000) : Builtin.nextslicecap need old * bytes ≤ 281474976710656 :=
  growslice_fits h (Nat.le_trans (Nat.mul_le_mul hn hb) (by decide))
theorem asrc_of_src {st xt ty e : TypeId} {zv x : Value} {size n : Nat} {news : List Value} {ie : TypeInfo} (hu : P.underlying st = some (.slice e)) (hi : P.info? e = some ie) (hz : ie.zero = some zv) (hs : ie.size = size) (hb : ie.bytes ≤ 1000000)
    (hn : n ≤ 1000000) (src : Src P ie.size xt x n news w) : ASrc P st xt ty e zv size n x news w := by
  subst hs
  refine ⟨src.newsLen, src.one, fun h0 => ?_, fun b off sLen sCap hr hc hf => run_append_room_src w st xt ty e ie hu hi b off sLen sCap x n news src hr hc hf, fun base sLen sCap olds ho hg hl hp => ?_⟩
  · subst h0
    rcases src.kind with ⟨e', hk⟩ | hk <;> simp [Builtin.append_, run_underlying hu, run_underlying hk, sizeOf, typeInfo, hi, src.len, src.cells]
  · exact run_append_grow_src w st xt ty e ie zv hu hi hz base sLen sCap olds ho x n news src hg (by omega) (fits hg (by omega) hb)
theorem zeroCells_rep (z : Array Value) (n : Nat) : (Builtin.zeroCells z n).toList = rep z.toList n := rep_range z n
theorem asrc_of_zeros {st xt ty e : TypeId} {zv : Value} {size n : Nat} {k kx : IntKind} {ie : TypeInfo} (hu : P.underlying st = some (.slice e)) (hx : P.underlying xt = some (.int kx)) (hi : P.info? e = some ie) (hz : ie.zero = some zv) (hs : ie.size = size + 1)
    (hzs : zv.cells.size = size + 1) (hb : ie.bytes ≤ 1000000) (hn : n ≤ 1000000) (hone : ∀ u ∈ rep zv.cells.toList n, u.oneCell' = true) : ASrc P st xt ty e zv (size + 1) n (.int k n) (rep zv.cells.toList n) w := by
  have hw : IntKind.i64.wrap (n : Int) = n := by rw [IntKind.wrap_i64]; omega
  have h0 : ¬ ((n : Int) < 0) := by omega
  have h48 : n * ie.bytes ≤ 281474976710656 := Nat.le_trans (Nat.mul_le_mul hn hb) (by decide)
  have h48i : ¬ (281474976710656 < (n : Int) * (ie.bytes : Int)) := by
    have : ((n * ie.bytes : Nat) : Int) ≤ ((281474976710656 : Nat) : Int) := Int.ofNat_le.2 h48
    rw [Int.natCast_mul] at this
    omega
  refine ⟨by rw [rep_length]; simp [hzs], hone, fun hn0 => ?_, fun b off sLen sCap hr hc hf => ?_, fun base sLen sCap olds ho hg hl hp => ?_⟩
  · subst hn0
    have hw0 : IntKind.i64.wrap 0 = 0 := by decide
    simp [Builtin.append_, run_underlying hu, run_underlying hx, sizeOf, typeInfo, hi, asInt, asIntOf, hw0]
  · have hst := run_storeCells_cells (P := P) b (off + sLen * (size + 1)) (rep zv.cells.toList n) 0 w (by simpa using hc) (by simpa using hf) hone
    simp only [Nat.add_zero] at hst
    by_cases hn0 : n = 0
    · subst hn0
      have hw0 : IntKind.i64.wrap 0 = 0 := by decide
      have hle : sLen ≤ sCap := by omega
      simp only [rep, storeCells] at hst ⊢
      simp only [Sem.run_pure, Result.ok.injEq, true_and] at hst
      rw [← hst]
      simp [Builtin.append_, run_underlying hu, run_underlying hx, sizeOf, typeInfo, hi, asInt, asIntOf, hw0, hle, storeCells]
    · have hns : ¬ n * (size + 1) = 0 := fun h => by
        rcases Nat.mul_eq_zero.1 h with h | h <;> omega
      simp [Builtin.append_, run_underlying hu, run_underlying hx, sizeOf, typeInfo, zeroValue, hi, hz, hs, asInt, asIntOf, hw, h0, h48i, hr, hns, Addr.add_lit, zeroCells_rep, hst]
  · have := Go.Lib.run_append_grow_zeros w st xt ty e ie zv k kx hu hx hi hz base sLen sCap olds (by rw [hs]; exact ho) n hp (by omega) hg (by omega) h48 (fits hg (by omega) hb)
    rw [this]
    congr 3
    apply Array.ext'
    simp [zeroCells_rep]
theorem news_sound (hR : Rw P G W0 ν φ s w) {st xt ty e : TypeId} {zv x x' : Value} {size n : Nat} {z new : List Value} {ie : TypeInfo} (hu : P.underlying st = some (.slice e)) (hi : P.info? e = some ie) (hz : ie.zero = some zv) (hs : ie.size = size + 1)
    (hzv : zv.cells.toList = z) (hzl : z.length = size + 1) (hzr : VRs ν φ z z) (hb : ie.bytes ≤ 1000000) (hn : n ≤ 1000000) (hone : new.all oneB = true) (hlen : new.length = n * (size + 1)) (hx : VR ν φ x x') (h : newsB P s.t (size + 1) z xt x = some (n, new)) :
    ∃ new', ASrc P st xt ty e zv (size + 1) n x' new' w ∧ VRs ν φ new new' := by
  have viaSrc : (match srcB P xt, lenV x with
    | true, some n => (firstB s.t (size + 1) n x).map fun l => (n, l)
    | _, _ => none) = some (n, new) → ∃ new', ASrc P st xt ty e zv (size + 1) n x' new' w ∧ VRs ν φ new new' := by
    intro h
    split at h <;> try cases h
    rename_i m hsrc hm
    simp only [Option.map_eq_some_iff, Prod.mk.injEq] at h
    obtain ⟨l, hf, rfl, rfl⟩ := h
    obtain ⟨new', h1, h2⟩ := first_sound hR hx hf
    refine ⟨new', asrc_of_src hu hi hz hs hb hn ⟨?_, fun w' => len_of hx hm w', ?_, ?_, ?_, h2.one_ hone⟩, h2⟩
    · unfold srcB at hsrc
      split at hsrc
      · rename_i e' hk; exact .inl ⟨e', hk⟩
      · rename_i hk; exact .inr hk
      · cases hsrc
    · rw [hs]; exact h1 w rfl
    · rw [hs]; exact h1 w.drew rfl
    · rw [h2.length, hlen, hs]
  unfold newsB at h
  split at h
  · rename_i kx kk m hk
    split at h <;> try cases h
    have hxi := hx.int_
    subst hxi
    subst hzv
    exact ⟨_, asrc_of_zeros hu hk hi hz hs (by simpa using hzl) hb hn ((rep_all hzr _).one_ hone), rep_all hzr _⟩
  · cases h
  · exact viaSrc h
theorem append_sound (hR : Rw P G W0 ν φ s w) (hG : G ≤ s.next) {ts : Array TypeId} {ty : TypeId} {sv x sv' x' v : Value} {h' : Hp} (hs : VR ν φ sv sv') (hx : VR ν φ x x') (h : appendB P s ts.toList sv x = some (v, h')) :
    ∃ v' w', (Builtin.append_ ts ty #[sv', x']).run P w = .ok v' w' ∧ Step P G W0 ν φ s v h' v' w' := by
  obtain ⟨ts⟩ := ts
  simp only at h
  unfold appendB at h
  split at h <;> try cases h
  rename_i st xt
  split at h <;> try cases h
  rename_i e hu
  split at h <;> try cases h
  rename_i size z he hz
  split at h <;> try cases h
  rename_i n new hfirst
  split at h <;> try cases h
  rename_i hb
  simp only [Bool.and_eq_true] at hb
  obtain ⟨⟨⟨⟨hb1, hb2⟩, hb3⟩, hb4⟩, hb5⟩ := hb
  have g2 := beq_iff hb2
  have g3 := beq_iff hb3
  have g4 := ble_iff hb4
  have g5 := ble_iff hb5
  cases hi : P.info? e with
  | none => simp [sizeB, hi] at he
  | some ie =>
    have hsz : ie.size = size + 1 := by simpa [sizeB, hi] using he
    rw [hi] at g5
    simp only [Option.map_some, Option.getD_some] at g5
    obtain ⟨hz1, hz2⟩ := plainZero_spec (ν := ν) (φ := φ) hz
    cases hzz : ie.zero with
    | none => simp [zeroB, hi, hzz] at hz1
    | some zv =>
      have hzv : zv.cells.toList = z := by simpa [zeroB, hi, hzz] using hz1
      have hzs : zv.cells.size = size + 1 := by rw [← Array.length_toList, hzv, g3]
      obtain ⟨new', src, hnew⟩ := news_sound (st := st) (ty := ty) hR hu hi hzz hsz hzv g3 hz2 g5 g4 hb1 g2 hx hfirst
      have hnl := hnew.length
      unfold appendB.app at h
      split at h
      · -- onto nil
        cases hs
        cases n with
        | zero =>
          simp only [Option.some.injEq, Prod.mk.injEq] at h
          obtain ⟨rfl, rfl⟩ := h
          exact ⟨_, _, src.nil0 rfl, Step.same hR .sl0⟩
        | succ m =>
          simp only [Option.some.injEq, Prod.mk.injEq] at h
          obtain ⟨rfl, rfl⟩ := h
          refine ⟨_, _, src.grow none 0 0 [] rfl (by omega) (by omega) (by omega), ?_⟩
          have := grow_sound (k := m) (cap := grownCap w (0 + (m + 1)) 0 e) hR hG he (c := new) (c' := ([] ++ new').toArray) (z := zv.cells) (by simpa using hnew) g2 hzs (by have := grownCap_ge w (0 + (m + 1)) 0 e; omega)
          simpa using this
      · -- of known room
        rename_i B o len cap
        cases hs with
        | @slk _ _ _ _ r hφ hlc =>
        cases hfit : Nat.ble (len + n) cap with
        | true =>
          rw [hfit] at h
          have gf := ble_iff hfit
          simp only at h
          split at h <;> try cases h
          rename_i c e' hat
          split at h <;> try cases h
          rename_i hhas
          simp only [Bool.and_eq_true] at hhas
          have gh := has_spec hhas.1
          have gh2 := ble_iff hhas.2
          have gle : o + len * (size + 1) + new.length ≤ c.length := by simp at gh; omega
          obtain ⟨cs, _, fr, hh, hcs, _, _, hcl⟩ := hR.cells_ hφ hat
          obtain ⟨w', h1, h2⟩ := hR.write hφ hat gle hnew hb1
          obtain ⟨k1, k2⟩ := hR.writable hφ hat (o := o + len * (size + 1)) (n := new'.length) (by omega)
          have hrun := src.room r.b o len cap gf k1 k2
          rw [setCells_of k1 k2 src.one h1] at hrun
          exact ⟨_, _, hrun, Step.same h2 (.slk hφ gf)⟩
        | false =>
          rw [hfit] at h
          simp only at h
          have gf : cap < len + n := by
            rcases Nat.lt_or_ge cap (len + n) with h | h
            · exact h
            · rw [Nat.ble_eq_true_of_le h] at hfit; cases hfit
          split at h <;> try cases h
          rename_i old hold hle
          have gle := ble_iff hle
          obtain ⟨old', ho1, ho2⟩ := first_sound hR (.slk hφ hlc) hold
          have hol := first_len hold
          obtain ⟨k, hk⟩ : ∃ k, len + n = k + 1 := ⟨len + n - 1, by omega⟩
          refine ⟨_, _, src.grow _ len cap old' (ho1 w.drew rfl) gf (by omega) (by omega), ?_⟩
          rw [hk]
          exact grow_sound hR hG he (c := old ++ new) (c' := (old' ++ new').toArray) (z := zv.cells) (by simpa using ho2.append hnew) (by rw [List.length_append, hol, g2, ← Nat.add_mul, hk]) hzs (by rw [← hk]; exact grownCap_ge _ _ _ _)
      · -- of unknown room
        rename_i B len
        obtain ⟨r, capc, hφ, hlc, hc, rfl⟩ : ∃ (r : Ref) (capc : Nat), φ B = some r ∧ len ≤ capc ∧ 0 + capc * r.es = r.sz ∧ sv' = .slice (some ⟨r.b, 0, none⟩) len capc := by
          cases hs with
          | slu hφ hn hc => exact ⟨_, _, hφ, hn, hc, rfl⟩
          | sle hφ hc ho => obtain ⟨e, e2⟩ := ho rfl; subst e; exact ⟨_, _, hφ, Nat.zero_le _, by omega, rfl⟩
        cases n with
        | zero =>
          simp only [Option.some.injEq, Prod.mk.injEq] at h
          obtain ⟨rfl, rfl⟩ := h
          have hn0 : new' = [] := by
            have : new'.length = 0 := by rw [hnl, g2]; simp
            exact List.length_eq_zero_iff.1 this
          subst hn0
          have hrun := src.room r.b 0 len capc hlc (fun j hj => by simp at hj) (fun j hj => by simp at hj)
          have hset : w.setCells r.b (0 + len * (size + 1)) [] = w := setCells_of (P := P) (fun j hj => by simp at hj) (fun j hj => by simp at hj) (fun _ h => by cases h) rfl
          rw [hset] at hrun
          exact ⟨_, _, hrun, Step.same hR hs⟩
        | succ m =>
          rcases hat : s.t.at_ B with _ | ob
          · rw [hat] at h; cases h
          rw [hat] at h
          rcases ob with ⟨c, e', rw_⟩ | ⟨es, clk⟩ | x0
          case map => cases h
          case res => cases h
          cases rw_ with
          | false => cases h
          | true =>
          cases hb : Nat.beq e e' && has c (len * (size + 1)) && Nat.ble len 1000000 with
          | false => simp only [hb] at h; cases h
          | true =>
          simp only [hb, Option.some.injEq, Prod.mk.injEq] at h
          obtain ⟨rfl, rfl⟩ := h
          simp only [Bool.and_eq_true] at hb
          obtain ⟨⟨hbe, hbc⟩, hbl⟩ := hb
          have he' := beq_iff hbe
          subst he'
          have gc := has_spec hbc
          have gl := ble_iff hbl
          obtain ⟨cs, _, fr, hh, hcs, hrw, hvc, hcl⟩ := hR.cells_ hφ hat
          obtain ⟨hee, hes, hbase, rfl⟩ := hrw rfl
          rw [hee] at hh
          have hse : r.es = size + 1 := by rw [he] at hes; injection hes with hes; exact hes.symm
          rw [hse] at hc
          by_cases hfit : len + (m + 1) ≤ capc
          · have hmul : (len + (m + 1)) * (size + 1) ≤ capc * (size + 1) := Nat.mul_le_mul hfit (Nat.le_refl _)
            have hadd : (len + (m + 1)) * (size + 1) = len * (size + 1) + (m + 1) * (size + 1) := Nat.add_mul _ _ _
            have hroom : 0 + len * (size + 1) + new'.length ≤ r.sz := by rw [hnl, g2]; omega
            obtain ⟨k1, k2⟩ := hR.writable hφ hat hroom
            have hrun := src.room r.b 0 len capc hfit k1 k2
            have hst := run_storeCells_at P r.b (0 + len * (size + 1)) _ new' 0 cs w hh (by omega) src.one
            rw [setCells_of k1 k2 src.one hst] at hrun
            refine ⟨_, _, hrun, _, .slu (Phi.add_same _ _ _) hfit (by rw [hse]; exact hc), hR.alias hφ (by rw [hat]; rfl) (by rw [hat]; rfl) hG ⟨?_, ?_, ?_, ?_, ?_⟩ (by simp) (fun k hk => setRow_other _ _ _ _ hk) _ rfl (.cells (setRow_heap w r.b cs _ _ (0, 0) hh) ?_ (fun _ => ⟨rfl, hes, hbase, rfl⟩) ?_), Ext.add _, Nat.le_succ _⟩
            · simp [hR.frame.os]
            · simp [hR.frame.tape]
            · simp [hR.frame.output]
            · simpa using hR.frame.size
            · intro k hk hn
              rw [setRow_other _ _ _ _ (by intro e; subst e; rcases hbase with h | h; exact hn h; omega)]
              exact hR.frame.block k hk hn
            · rw [← hcs]; simp; omega
            · have hN : φ s.next = none := hR.fresh _ (Nat.le_refl _)
              have e1 : (c.take (len * (size + 1)) ++ new).length = len * (size + 1) + new'.length := by
                rw [List.length_append, hnl, List.length_take, Nat.min_eq_left gc]
              have e2 : (cs.toList.take (0 + len * (size + 1) + 0) ++ new' ++ cs.toList.drop (0 + len * (size + 1) + 0 + new'.length)).toArray.toList.take ((c.take (len * (size + 1)) ++ new).length) = cs.toList.take (len * (size + 1)) ++ new' := by
                rw [e1]
                simp only [Nat.add_zero, Nat.zero_add]
                rw [List.take_left' (by simp; omega)]
              rw [e2]
              have h3 := hvc.take (len * (size + 1))
              rw [List.take_take, Nat.min_eq_left gc] at h3
              exact (h3.append hnew).ext (φ.add_up r hN)
          · have hrd : readCells c 0 (len * (size + 1)) = some (c.take (len * (size + 1))) := by
              unfold readCells
              simp only [List.drop_zero, hbc]
            obtain ⟨old', ho1, ho2, ho3⟩ := hR.row hφ hat hrd
            have hfc : (Builtin.firstCells (size + 1) len (.slice (some ⟨r.b, 0, none⟩) len capc)).run P w.drew = .ok old'.toArray w.drew := ho1 w.drew rfl
            refine ⟨_, _, src.grow _ len capc old' hfc (by omega) (by omega) (by omega), ?_⟩
            have := grow_sound (hR.kill B) hG (k := len + m) he (c := c.take (len * (size + 1)) ++ new) (c' := (old' ++ new').toArray) (z := zv.cells) (cap := grownCap w (len + (m + 1)) capc e) (by simpa using ho2.append hnew)
              (by rw [List.length_append, List.length_take, Nat.min_eq_left gc, g2, ← Nat.add_mul]; rfl) hzs (grownCap_ge _ _ _ _)
            obtain ⟨φ', f1, f2, f3, f4⟩ := this
            exact ⟨φ', f1, f2, f3, f4⟩
      · cases h

/-! ### Maps whose keys are ints -/
theorem findNow_sound {d : TypeDesc} {k : Value} : ∀ {es es' : List MapEntry} (i : Nat) {r : Option (Nat × Value)}, ER ν φ es es' → Instr.findNow d k es i = some r →
    ∃ r', Instr.findNow d k es' i = some r' ∧ match r, r' with
      | some (j, v), some (j', v') => j' = j ∧ VR ν φ v v'
      | none, none => True
      | _, _ => False
  | _, _, i, r, .nil, h => by simp only [Instr.findNow, Option.some.injEq] at h ⊢; subst h; exact ⟨none, rfl, trivial⟩
  | _, _, i, r, .cons hv t, h => by
    simp only [Instr.findNow] at h ⊢
    split at h
    · rename_i hs
      simp only [Option.some.injEq] at h
      subst h
      exact ⟨some (i, _), by first | rfl | rw [hs], rfl, hv⟩
    · rename_i hs
      obtain ⟨r', h1, h2⟩ := findNow_sound (i + 1) t h
      exact ⟨r', by first | exact h1 | (rw [hs]; exact h1), h2⟩
    · cases h
theorem ER.length {es es' : List MapEntry} (h : ER ν φ es es') : es'.length = es.length := by
  induction h with
  | nil => rfl
  | cons _ _ ih => simp [ih]
theorem ER.append {es es' gs gs' : List MapEntry} (h : ER ν φ es es') (h' : ER ν φ gs gs') : ER ν φ (es ++ gs) (es' ++ gs') := by
  induction h with
  | nil => exact h'
  | cons h _ ih => exact .cons h ih
theorem ER.modify {es es' : List MapEntry} (h : ER ν φ es es') (j : Nat) (k : Value) {v v' : Value} (hv : VR ν φ v v') : ER ν φ (es.modify j fun e => { e with key := k, val := v }) (es'.modify j fun e => { e with key := k, val := v' }) := by
  induction h generalizing j with
  | nil => cases j <;> simp <;> exact .nil
  | cons h t ih =>
    cases j with
    | zero => simp; exact .cons hv t
    | succ j => simp; exact .cons h (ih j)
theorem ER.erase {es es' : List MapEntry} (h : ER ν φ es es') (j : Nat) : ER ν φ (es.eraseIdx j) (es'.eraseIdx j) := by
  induction h generalizing j with
  | nil => simp; exact .nil
  | cons h t ih =>
    cases j with
    | zero => simp; exact t
    | succ j => simp; exact .cons h (ih j)
theorem find_key {kt : TypeId} {d : TypeDesc} {k : Value} {es : List MapEntry} {r : Option (Nat × Value)} (hu : P.underlying kt = some d) (h : Instr.findNow d k es 0 = some r) : (Instr.findKey kt k es).run P w = .ok r w := by
  simp [Instr.findKey, run_underlying hu, h]
theorem check_key {kt : TypeId} {ik kk : IntKind} {b : Bool} {n : Int} (hu : P.underlying kt = some (.int ik)) : (Instr.checkKey b 10000 kt (.int kk n)).run P w = .ok () w := by
  show (Instr.checkKey b (9999 + 1) kt (.int kk n)).run P w = _
  rw [Instr.checkKey]
  simp only [Sem.run_bind, run_underlying hu, Result.andThen_ok]
  rfl
theorem Rw.map_ (hR : Rw P G W0 ν φ s w) {B : Nat} {r : Ref} {es : List MapEntry} {clk : Nat} (hφ : φ B = some r) (ht : s.t.at_ B = some (.map es clk)) :
    ∃ es' : Array MapEntry, w.heap[r.b]? = some (.map es' clk) ∧ W0.own r.b ∧ ER ν φ es es'.toList := by
  cases hR.obj B r _ hφ ht with
  | map h hb he => exact ⟨_, h, hb, he⟩
theorem lookup_sound (hR : Rw P G W0 ν φ s w) {t : TypeId} {m m' k k' u : Value} {ok : Bool} (hm : VR ν φ m m') (hk : VR ν φ k k') (h : lookupB P s.t t m k ok = some u) : ∃ u', (Instr.lookup t m' k' ok).run P w = .ok u' w ∧ VR ν φ u u' := by
  unfold lookupB at h
  split at h <;> try cases h
  rename_i kt e kk n B hu
  cases hm
  rename_i r hφ
  have := hk.int_
  subst this
  split at h <;> try cases h
  rename_i ik es clk z hk2 hat hz
  obtain ⟨es', hh, hb, he⟩ := hR.map_ hφ hat
  have h3 : (zeroValue e).run P w = .ok z w ∧ plainV z = true := by
    unfold zeroVal at hz
    cases hi : P.info? e with
    | none => rw [hi] at hz; cases hz
    | some i =>
      rw [hi] at hz
      simp only at hz
      cases hzz : i.zero with
      | none => rw [hzz] at hz; cases hz
      | some z' =>
        rw [hzz] at hz
        obtain ⟨rfl, hp⟩ := onlyPlain_spec hz
        exact ⟨by simp [zeroValue, typeInfo, hi, hzz], hp⟩
  obtain ⟨h3, h4⟩ := h3
  have hget : (getObj r.b).run P w = .ok (.map es' clk) w := by simp [getObj, Sem.run, hh]
  split at h <;> try cases h
  · rename_i j v hf
    obtain ⟨r', f1, f2⟩ := findNow_sound 0 he hf
    cases r' with
    | none => exact f2.elim
    | some jv =>
      obtain ⟨j', v'⟩ := jv
      simp only at f2
      obtain ⟨rfl, hv⟩ := f2
      cases ok
      · exact ⟨v', by simp [Instr.lookup, run_underlying hu, hget, check_key hk2, find_key hk2 f1], hv⟩
      · exact ⟨.tuple #[v', .bool true], by simp [Instr.lookup, run_underlying hu, hget, check_key hk2, find_key hk2 f1], .tuple (.cons hv (.one (.bool _)))⟩
  · rename_i hf
    obtain ⟨r', f1, f2⟩ := findNow_sound 0 he hf
    cases r' with
    | some jv => exact f2.elim
    | none =>
      have hzv : VR ν φ z z := VR.refl _ h4
      cases ok
      · exact ⟨z, by simp [Instr.lookup, run_underlying hu, hget, check_key hk2, find_key hk2 f1, h3], hzv⟩
      · exact ⟨.tuple #[z, .bool false], by simp [Instr.lookup, run_underlying hu, hget, check_key hk2, find_key hk2 f1, h3], .tuple (.cons hzv (.one (.bool _)))⟩
theorem Rw.setMap (hR : Rw P G W0 ν φ s w) {B : Nat} {r : Ref} {es gs : List MapEntry} {es' gs' : Array MapEntry} {clk clk' : Nat} (hφ : φ B = some r) (ht : s.t.at_ B = some (.map es clk)) (hh : w.heap[r.b]? = some (.map es' clk)) (he : ER ν φ gs gs'.toList) :
    (setObj r.b (.map gs' clk')).run P w = .ok () { w with heap := w.heap.setIfInBounds r.b (.map gs' clk') } ∧ Rw P G W0 ν φ ⟨s.t.set B (some (.map gs clk')), s.next⟩ { w with heap := w.heap.setIfInBounds r.b (.map gs' clk') } := by
  obtain ⟨_, _, hb, _⟩ := hR.map_ hφ ht
  have hlt : r.b < w.heap.size := hR.bound B r hφ
  refine ⟨by simp [setObj, Sem.run, hh], Rw.upd (w' := { w with heap := w.heap.setIfInBounds r.b (.map gs' clk') }) hR hφ (by rw [ht]; rfl) (by rw [ht]; rfl) ⟨hR.frame.os, hR.frame.tape, hR.frame.output, by simpa using hR.frame.size, fun k hk hn => ?_⟩ (by simp) (fun k hk => by simp [Array.getElem?_setIfInBounds_ne (Ne.symm hk)]) _ rfl (.map ?_ hb he)⟩
  · have := hR.frame.block k hk hn
    simp [Array.getElem?_setIfInBounds_ne (show r.b ≠ k by intro e; subst e; rcases hb with h | h; exact hn h; omega), this]
  · simp [hlt]
theorem findNow_key {ik kk : IntKind} {n : Int} : ∀ {es : List MapEntry} {i j : Nat} {v : Value}, Instr.findNow (.int ik) (.int kk n) es i = some (some (j, v)) → i ≤ j ∧ ∃ e, es[j - i]? = some e ∧ e.key = .int kk n
  | [], i, j, v, h => by simp [Instr.findNow] at h
  | e :: es, i, j, v, h => by
    simp only [Instr.findNow] at h
    split at h
    · rename_i hs
      simp only [Option.some.injEq, Prod.mk.injEq] at h
      obtain ⟨rfl, rfl⟩ := h
      refine ⟨Nat.le_refl _, e, by simp, ?_⟩
      cases hk : e.key <;> rw [hk] at hs <;> try (simp [Instr.sameNow] at hs; done)
      rename_i k' b
      simp only [Instr.sameNow] at hs
      split at hs
      · rename_i hkk
        simp at hs
        rw [hkk, hs]
      · cases hs
    · obtain ⟨h1, e', h2, h3⟩ := findNow_key h
      refine ⟨by omega, e', ?_, h3⟩
      rw [show j - i = (j - (i + 1)) + 1 by omega]
      simpa using h2
    · cases h
theorem key_stays {ik kk : IntKind} {n : Int} {es : Array MapEntry} {j : Nat} {v : Value} (h : Instr.findNow (.int ik) (.int kk n) es.toList 0 = some (some (j, v))) : (Instr.keyThatStays (((es[j]?).map (·.key)).getD (.int kk n)) (.int kk n)).run P w = .ok (.int kk n) w := by
  obtain ⟨_, e, h1, h2⟩ := findNow_key h
  rw [Nat.sub_zero, Array.getElem?_toList] at h1
  rw [h1]
  simp [Instr.keyThatStays, h2, Instr.sameBits]
theorem mapSet_sound (hR : Rw P G W0 ν φ s w) {t : TypeId} {m m' k k' v v' : Value} {H' : Tr AObj} (hm : VR ν φ m m') (hk : VR ν φ k k') (hv : VR ν φ v v') (h : mapSetB P s.t t m k v = some H') :
    ∃ w', (Instr.mapUpdate t m' k' v').run P w = .ok () w' ∧ Rw P G W0 ν φ ⟨H', s.next⟩ w' := by
  unfold mapSetB at h
  split at h <;> try cases h
  rename_i kt e kk n B hu
  cases hm
  rename_i r hφ
  have := hk.int_
  subst this
  split at h <;> try cases h
  rename_i ik es clk hk2 hat
  obtain ⟨es', hh, hb, he⟩ := hR.map_ hφ hat
  have hget : (getObj r.b).run P w = .ok (.map es' clk) w := by simp [getObj, Sem.run, hh]
  split at h <;> try cases h
  · rename_i j v0 hf
    obtain ⟨r', f1, f2⟩ := findNow_sound 0 he hf
    cases r' with
    | none => exact f2.elim
    | some jv =>
      obtain ⟨j', v1⟩ := jv
      obtain ⟨rfl, _⟩ := f2
      obtain ⟨g1, g2⟩ := hR.setMap (clk' := clk) (gs := es.modify j' fun e => { e with key := .int kk n, val := v }) (gs' := es'.modify j' fun e => { e with key := .int kk n, val := v' }) hφ hat hh (by
        rw [Array.toList_modify]
        exact he.modify j' _ hv)
      have hst := key_stays (P := P) (w := w) f1
      exact ⟨_, by simp only [Instr.mapUpdate, Sem.run_bind, run_underlying hu, Result.andThen_ok, hget, check_key hk2, find_key hk2 f1, hst]; exact g1, g2⟩
  · rename_i hf
    obtain ⟨r', f1, f2⟩ := findNow_sound 0 he hf
    cases r' with
    | some jv => exact f2.elim
    | none =>
      obtain ⟨g1, g2⟩ := hR.setMap (clk' := clk + 1) (gs := es ++ [{ key := .int kk n, val := v, born := clk }]) (gs' := es'.push { key := .int kk n, val := v', born := clk }) hφ hat hh (by
        rw [Array.toList_push]
        exact he.append (.cons hv .nil))
      exact ⟨_, by simp [Instr.mapUpdate, run_underlying hu, hget, check_key hk2, find_key hk2 f1, g1], g2⟩
theorem mapDel_sound (hR : Rw P G W0 ν φ s w) {ts : Array TypeId} {ty : TypeId} {m m' k k' : Value} {H' : Tr AObj} (hm : VR ν φ m m') (hk : VR ν φ k k') (h : mapDelB P s.t ts.toList m k = some H') :
    ∃ w', (Builtin.delete_ ts ty #[m', k']).run P w = .ok (.tuple #[]) w' ∧ Rw P G W0 ν φ ⟨H', s.next⟩ w' := by
  unfold mapDelB at h
  split at h <;> try (cases h; done)
  rename_i t t2 hts
  have h0 : ts[0]? = some t := by rw [← Array.getElem?_toList, hts]; rfl
  split at h <;> try (cases h; done)
  rename_i kt e kk n B hu
  cases hm
  rename_i r hφ
  have := hk.int_
  subst this
  split at h <;> try (cases h; done)
  rename_i ik es clk hk2 hat
  obtain ⟨es', hh, hb, he⟩ := hR.map_ hφ hat
  have hget : (getObj r.b).run P w = .ok (.map es' clk) w := by simp [getObj, Sem.run, hh]
  split at h <;> try (cases h; done)
  · rename_i j v0 hf
    cases h
    obtain ⟨r', f1, f2⟩ := findNow_sound 0 he hf
    cases r' with
    | none => exact f2.elim
    | some jv =>
      obtain ⟨j', v1⟩ := jv
      obtain ⟨rfl, _⟩ := f2
      obtain ⟨g1, g2⟩ := hR.setMap (clk' := clk) (gs := es.eraseIdx j') (gs' := es'.eraseIdxIfInBounds j') hφ hat hh (by
        rw [Array.toList_eraseIdxIfInBounds]
        exact he.erase j')
      exact ⟨_, by simp [Builtin.delete_, h0, run_underlying hu, hget, check_key hk2, find_key hk2 f1, g1], g2⟩
  · rename_i hf
    cases h
    obtain ⟨r', f1, f2⟩ := findNow_sound 0 he hf
    cases r' with
    | some jv => exact f2.elim
    | none =>
      obtain ⟨g1, g2⟩ := hR.setMap (clk' := clk) (gs := es) (gs' := es') hφ hat hh he
      refine ⟨{ w with heap := w.heap.setIfInBounds r.b (.map es' clk) }, by simp [Builtin.delete_, h0, run_underlying hu, hget, check_key hk2, find_key hk2 f1, g1], ?_⟩
      rw [show w.heap.setIfInBounds r.b (.map es' clk) = w.heap by
        apply Array.ext_getElem?
        intro i
        by_cases hi : r.b = i
        · subst hi
          rw [hh, Array.getElem?_setIfInBounds_self_of_lt (hR.bound B r hφ)]
        · rw [Array.getElem?_setIfInBounds_ne hi]]
      exact hR
theorem clear_sound (hR : Rw P G W0 ν φ s w) {ts : Array TypeId} {ty : TypeId} {x x' : Value} {H' : Tr AObj} (hx : VR ν φ x x') (h : clearB P s.t ts.toList x = some H') :
    ∃ w', (Builtin.clear_ ts ty #[x']).run P w = .ok (.tuple #[]) w' ∧ Rw P G W0 ν φ ⟨H', s.next⟩ w' := by
  unfold clearB at h
  split at h
  · rename_i t a c hts
    have h0 : ts[0]? = some t := by rw [← Array.getElem?_toList, hts]; rfl
    split at h <;> try (cases h; done)
    rename_i d hu
    cases h
    refine ⟨w, ?_, hR⟩
    cases hx <;> simp [Builtin.clear_, h0, run_underlying hu]
  · rename_i t B o len c hts
    have h0 : ts[0]? = some t := by rw [← Array.getElem?_toList, hts]; rfl
    split at h <;> try (cases h; done)
    rename_i e hu
    split at h <;> try (cases h; done)
    rename_i z cc e' hz hat
    split at h <;> try (cases h; done)
    rename_i hb
    cases h
    simp only [Bool.and_eq_true] at hb
    obtain ⟨⟨hb1, hb2⟩, hb3⟩ := hb
    have g1 := has_spec hb1
    have g2 := ble_iff hb2
    obtain ⟨hz1, hz2⟩ := plainZero_spec (ν := ν) (φ := φ) hz
    cases hi : P.info? e with
    | none => simp [zeroB, hi] at hz1
    | some ie =>
    cases hzz : ie.zero with
    | none => simp [zeroB, hi, hzz] at hz1
    | some zv =>
    have hzv : zv.cells.toList = z := by simpa [zeroB, hi, hzz] using hz1
    have hzr : (zeroValue e).run P w = .ok zv w := by simp [zeroValue, typeInfo, hi, hzz]
    have fin : ∀ r cap, φ B = some r → x' = .slice (some ⟨r.b, o, none⟩) (len + 1) cap → ∃ w', (Builtin.clear_ ts ty #[x']).run P w = .ok (.tuple #[]) w' ∧ Rw P G W0 ν φ ⟨s.t.set B (some (.cells (spl cc o (rep z (len + 1))) e' true)), s.next⟩ w' := by
      intro r cap hφ hx'
      subst hx'
      obtain ⟨w', h1, h2⟩ := hR.write hφ hat (o := o) (by rw [List.length_drop] at g1; omega) (rep_all hz2 (len + 1)) hb3
      refine ⟨w', ?_, h2⟩
      rw [← hzv, ← zeroCells_rep] at h1
      simp [Builtin.clear_, h0, run_underlying hu, hzr, h1]
    cases hx
    · exact fin _ _ ‹φ B = some _› rfl
    · exact fin _ _ ‹φ B = some _› rfl
  · cases h
end
end Go.Eva
