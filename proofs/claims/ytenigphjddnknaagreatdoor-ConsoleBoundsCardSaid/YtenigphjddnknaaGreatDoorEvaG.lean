/-
  A run of a closed call: what makes memory, and what writes, is as the tree says. No program in sight.
-/
import Derived.Test.YtenigphjddnknaaGreatDoorEvaF
namespace Go.Eva
open Go Go.RowKit Go.Mix Go.Viv

section
variable {P : Program} {G : Nat} {W0 : Begin} {ν : Toks} {φ : Phi} {s : Hp} {w : World}

/-! ### Frames -/
/-- A frame of the tree stands for one of the machine. -/
structure ArD (ν : Toks) (φ : Phi) (n : Nat) (D : List Deferred) (T : Tr Value) (a : Act) : Prop where
  size : a.tmps.size = n
  tmps : ∀ t, VR ν φ (look T t) (a.tmps.getD t undef)
  defers : a.defers = D
abbrev Ar (ν : Toks) (φ : Phi) (n : Nat) (T : Tr Value) (a : Act) : Prop := ArD ν φ n [] T a
variable {D : List Deferred}
theorem ArD.ext {φ' : Phi} {n : Nat} {T : Tr Value} {a : Act} (h : ArD ν φ n D T a) (hx : ∀ B r, φ B = some r → φ' B = some r) : ArD ν φ' n D T a :=
  ⟨h.size, fun t => (h.tmps t).ext hx, h.defers⟩
theorem look_set_same (T : Tr Value) (d : Nat) (v : Value) : look (T.set d (some v)) d = v := by simp [look, Tr.at_set_same]
theorem look_set_ne (T : Tr Value) {d t : Nat} (v : Value) (h : d ≠ t) : look (T.set d (some v)) t = look T t := by simp [look, Tr.at_set_ne _ _ h]
theorem ArD.put {n : Nat} {T T' : Tr Value} {a : Act} (h : ArD ν φ n D T a) {d : Option Tmp} {v v' : Value} (hv : VR ν φ v v') (hp : putT n T d v = some T') : ArD ν φ n D T' (a.put d v') := by
  cases d with
  | none => simp only [putT, Option.some.injEq] at hp; subst hp; exact h
  | some d =>
    simp only [putT] at hp
    cases hb : Nat.blt d n with
    | false => rw [hb] at hp; cases hp
    | true =>
      rw [hb] at hp
      simp only [Option.some.injEq] at hp
      subst hp
      have hd := blt_iff hb
      refine ⟨by simp [Act.put, h.size], fun t => ?_, h.defers⟩
      simp only [Act.put]
      by_cases e : d = t
      · subst e
        rw [look_set_same]
        simp [Array.getD_eq_getD_getElem?, h.size, hd]
        exact hv
      · rw [look_set_ne _ _ e]
        have := h.tmps t
        rw [Array.getD_eq_getD_getElem?] at this ⊢
        rwa [Array.getElem?_setIfInBounds_ne e]
theorem evl_sound (hR : Rw P G W0 ν φ s w) {n : Nat} {T : Tr Value} {a : Act} (h : ArD ν φ n D T a) (x : Operand) : VR ν φ (evl G T x) (a.eval x) := by
  cases x with
  | tmp t => exact h.tmps t
  | const v =>
    simp only [evl, Act.eval]
    cases hp : plainV v with
    | true => exact VR.refl v hp
    | false => exact .bad v
  | global g =>
    simp only [evl, Act.eval]
    cases hb : Nat.blt g G with
    | true =>
      obtain ⟨r, h1, h2⟩ := hR.glob g (blt_iff hb)
      have := VR.ptr (ν := ν) (o := 0) h1
      rw [h2] at this
      exact this
    | false => exact .bad _
  | func f => exact .func _ .nil .nil
theorem wanted_at {T : Tr Value} {a : Act} {ops : Array Oper} {o : Oper} {b : Bool} (h : ∀ j want t, o.guard = some (j, want) → (ops[j]?).bind (·.dst) = some t → VR ν φ (look T t) (a.tmps.getD t undef)) (hw : wantedB ops.toList T o = some b) : Region.wanted o (yielded ops a.tmps) = b := by
  unfold wantedB at hw
  unfold Region.wanted
  cases hg : o.guard with
  | none => rw [hg] at hw; simp at hw; rw [hw]
  | some jw =>
    obtain ⟨j, want⟩ := jw
    rw [hg] at hw
    simp only at hw ⊢
    unfold yielded
    rw [Array.getElem?_toList] at hw
    cases hd : (ops[j]?).bind (·.dst) with
    | none => rw [hd] at hw; simp at hw; subst hw; simp
    | some t =>
      rw [hd] at hw
      simp only [Option.bind_some] at hw ⊢
      have ht := h j want t hg hd
      rw [Array.getD_eq_getD_getElem?] at ht
      cases hl : look T t <;> rw [hl] at hw ht <;> try (cases hw; done)
      case bool c =>
        cases ht' : a.tmps[t]? with
        | none => rw [ht'] at ht; cases ht
        | some u => simp only [Option.some.injEq] at hw; rw [ht'] at ht; simp at ht; cases ht; simp [hw]
      case tuple l =>
        obtain ⟨l⟩ := l
        cases l <;> simp only at hw <;> cases hw
        cases ht' : a.tmps[t]? with
        | none => simp
        | some u => rw [ht'] at ht; simp at ht; cases ht; rename_i hl2; cases hl2; simp

theorem wanted_sound {n : Nat} {T : Tr Value} {a : Act} (h : ArD ν φ n D T a) {ops : Array Oper} {o : Oper} {b : Bool} (hw : wantedB ops.toList T o = some b) : Region.wanted o (yielded ops a.tmps) = b :=
  wanted_at (fun _ _ t _ _ => h.tmps t) hw

/-! ### New blocks -/
theorem run_newRow (e : TypeId) (cs : Array Value) : (newRow e cs).run P w = .ok ⟨w.heap.size, 0, none⟩ (w.alloc (.cells cs e)) := rfl
theorem born_cells (hR : Rw P G W0 ν φ s w) {B : Nat} (hB : φ B = none) (hlt : B < s.next) (hG : G ≤ B) {c : List Value} {e : TypeId} {cs : Array Value} {es : Nat} (ho : s.t.at_ B = some (.cells c e true))
    (he : sizeB P e = some es) (hc : VRs ν φ c (cs.toList.take c.length)) : Rw P G W0 ν (φ.add B ⟨w.heap.size, cs.size, es⟩) s (w.alloc (.cells cs e)) :=
  hR.born hB hlt hG rfl ho _ (.cells (heap_alloc_new w _) rfl (fun _ => ⟨rfl, he, .inr hR.frame.size, rfl⟩) (hc.ext (φ.add_up _ hB)))
theorem take_all {ν : Toks} {φ : Phi} {c c' : List Value} (h : VRs ν φ c c') : VRs ν φ c (c'.take c.length) := by
  rw [← h.length, List.take_length]; exact h
theorem alloc_sound (hR : Rw P G W0 ν φ s w) {B : Nat} (hB : φ B = none) (hlt : B < s.next) (hG : G ≤ B) {ρ ρ' : Operand → Value} (hρ : ∀ x, VR ν φ (ρ x) (ρ' x)) {o : Oper} {v : Value} {ob : AObj}
    (ho : s.t.at_ B = some ob) (h : evA P ρ B o.op = some (v, ob)) :
    ∃ v' w' r, (execOp ρ' o).run P w = .ok (.value v') w' ∧ VR ν (φ.add B r) v v' ∧ Rw P G W0 ν (φ.add B r) s w' := by
  cases hop : o.op <;> rw [hop] at h <;> simp only [evA] at h <;> try cases h
  case alloc e =>
    split at h <;> try cases h
    rename_i z es hz he
    obtain ⟨h1, h2⟩ := plainZero_spec (ν := ν) (φ := φ) hz
    obtain ⟨zv, h3, h4⟩ := run_zero (w := w) h1
    refine ⟨_, _, _, ?_, .ptr (Phi.add_same _ _ _), born_cells hR hB hlt hG ho he (cs := zv.cells) (take_all (by rw [h4]; exact h2))⟩
    simp [execOp, hop, Instr.alloc, h3, newVar, run_newRow]
  case box e x =>
    split at h <;> try cases h
    rename_i es he
    split at h <;> try cases h
    rename_i hone
    have hc := (hρ x).cells hone
    refine ⟨_, _, _, ?_, .ptr (Phi.add_same _ _ _), born_cells hR hB hlt hG ho he (cs := (ρ' x).cells) (take_all hc)⟩
    simp [execOp, hop, Instr.box, newVar, run_newRow]
  case makeMap t r =>
    cases r <;> simp only at h <;> cases h
    refine ⟨_, _, ⟨w.heap.size, 0, 0⟩, ?_, .map (Phi.add_same _ _ _), hR.born hB hlt hG rfl ho (.map #[] 0) (.map (heap_alloc_new w _) (.inr hR.frame.size) .nil)⟩
    simp [execOp, hop, Instr.makeMap, newObj, Sem.run]
  case makeSlice t l c =>
    split at h <;> try cases h
    rename_i e n cap hu hl hc
    split at h <;> try cases h
    rename_i z es hb hz he
    split at h <;> try cases h
    rename_i hb2
    simp only [Bool.and_eq_true] at hb hb2
    obtain ⟨⟨hb1, hb3⟩, hb4⟩ := hb
    have g1 := ble_iff hb1
    have g2 := ble_iff hb3
    have g3 := ble_iff hb4
    have g4 := beq_iff hb2.1
    have g5 := ble_iff hb2.2
    obtain ⟨h1, h2⟩ := plainZero_spec (ν := ν) (φ := φ) hz
    obtain ⟨zv, h3, h4⟩ := run_zero (w := w) h1
    have hl' : ρ' l = .int .i64 n := by have := hρ l; rw [hl] at this; exact this.int_
    have hc' : ρ' c = .int .i64 cap := by have := hρ c; rw [hc] at this; exact this.int_
    cases hi : P.info? e with
    | none => simp [sizeB, hi] at he
    | some ie =>
      rw [hi] at g3
      simp only [Option.map_some, Option.getD_some] at g3
      have hzs : zv.cells.size = es := by rw [← g4, ← h4]; simp
      have hes : ie.size = es := by simpa [sizeB, hi] using he
      have hwn : IntKind.i64.wrap (n : Int) = n := by rw [IntKind.wrap_i64]; omega
      have hwc : IntKind.i64.wrap (cap : Int) = cap := by rw [IntKind.wrap_i64]; omega
      have hbm : ie.bytes * cap ≤ 1000000 * 1000000 := Nat.mul_le_mul g3 g2
      have hbm' : cap * ie.bytes ≤ 1000000 * 1000000 := Nat.mul_le_mul g2 g3
      have hbig : ¬ (281474976710656 < (ie.bytes : Int) * (cap : Int)) := by
        have : ((ie.bytes * cap : Nat) : Int) ≤ ((1000000000000 : Nat) : Int) := Int.ofNat_le.2 (by omega)
        rw [Int.natCast_mul] at this
        omega
      have hrun : (Instr.makeSlice t (.int .i64 n) (.int .i64 cap)).run P w = .ok (.slice (some ⟨w.heap.size, 0, none⟩) n cap) (w.alloc (.cells ((Array.range (cap * es)).map (zv.cells[· % zv.cells.size]!)) e)) := by
        have hcc : ¬ ((cap : Int) < 0) := by omega
        have hnn : ¬ ((n : Int) < 0) := by omega
        have hcn : ¬ (cap < n) := by omega
        by_cases hc0 : cap * es = 0
        · simp [Instr.makeSlice, run_underlying hu, asInt, asIntOf, typeInfo, hi, hwn, hwc, hbig, hcc, hnn, hcn, askRoom, roomBytes, sizeOf, hes, hc0, run_newRow]
          have : Array.range 0 = #[] := rfl
          simp [this]
        · simp [Instr.makeSlice, run_underlying hu, asInt, asIntOf, typeInfo, hi, hwn, hwc, hbig, hcc, hnn, hcn, askRoom, roomBytes, sizeOf, hes, hc0, h3, run_newRow]
      refine ⟨_, _, _, ?_, .slk (Phi.add_same _ _ _) g1, born_cells hR hB hlt hG ho he (cs := (Array.range (cap * es)).map (zv.cells[· % zv.cells.size]!)) (take_all ?_)⟩
      · simp [execOp, hop, hl', hc', hrun]
      · rw [← hzs, rep_range, h4]; exact rep_all h2 _
  case buildSlice t len parts =>
    split at h <;> try cases h
    rename_i e hu
    split at h <;> try cases h
    rename_i z es hz he
    split at h <;> try cases h
    rename_i hb
    simp only [Bool.and_eq_true] at hb
    have g1 := beq_iff hb.1.1
    have g2 := ble_iff hb.1.2
    have g3 := ble_iff hb.2
    split at h <;> try cases h
    rename_i l hf
    obtain ⟨h1, h2⟩ := plainZero_spec (ν := ν) (φ := φ) hz
    obtain ⟨zv, h3, h4⟩ := run_zero (w := w) h1
    have hzs : zv.cells.size = es := by rw [← g1, ← h4]; simp
    obtain ⟨l', h5, h6⟩ := fill_sound (rep_all h2 len) (parts_map (ρ := ρ) (ρ' := ρ') parts.toList fun x _ => hρ x) hf
    have hrun : (Instr.buildSlice t len (parts.map fun (i, x) => (i, ρ' x))).run P w = .ok (.slice (some ⟨w.heap.size, 0, none⟩) len len) (w.alloc (.cells ⟨l'⟩ e)) := by
      have hbig : ¬ (16777216 < len * es) := by omega
      have hpm : (parts.map fun (i, x) => (i, ρ' x)).toList = parts.toList.map fun (i, x) => (i, ρ' x) := by simp
      have hrep : (Array.range (len * es)).map (zv.cells[· % zv.cells.size]!) = ⟨rep z len⟩ := by
        apply Array.ext'
        rw [← hzs, rep_range, h4]
      by_cases hc0 : len * es = 0
      · have hl0 : len = 0 := by
          rcases Nat.mul_eq_zero.1 hc0 with h | h
          · exact h
          · omega
        subst hl0
        simp only [Instr.buildSlice, Sem.run_bind, run_underlying hu, Result.andThen_ok, run_size (w := w) he, hpm]
        have h5' : Instr.fill (fun i => some (i * es, es)) #[] (parts.toList.map fun (i, x) => (i, ρ' x)) = some ⟨l'⟩ := h5
        have hr0 : Array.range 0 = #[] := rfl
        simp [hr0, h5', run_newRow]
      · simp only [Instr.buildSlice, Sem.run_bind, run_underlying hu, Result.andThen_ok, run_size (w := w) he, hpm]
        simp [hbig, hc0, h3, hrep, h5, run_newRow]
    refine ⟨_, _, _, ?_, .slk (Phi.add_same _ _ _) (Nat.le_refl _), born_cells hR hB hlt hG ho he (cs := ⟨l'⟩) (take_all h6)⟩
    simp [execOp, hop, hrun]
end
end Go.Eva
