/-
  A run of a closed call: values made of parts, slices, maps; every operation that only reads. No program in sight.
-/
import Derived.Test.YtenigphjddnknaaGreatDoorEvaC
namespace Go.Eva
open Go Go.RowKit Go.Viv

/-! ### Parts laid over cells -/
theorem spl_length {cells vs : List Value} {off : Nat} (h : off + vs.length ≤ cells.length) : (spl cells off vs).length = cells.length := by
  simp [spl]; omega
theorem spl_get {cells vs : List Value} {off : Nat} (h : off + vs.length ≤ cells.length) (i : Nat) : (spl cells off vs)[i]? = if i < off then cells[i]? else if i < off + vs.length then vs[i - off]? else cells[i]? := by
  have hl : (cells.take off).length = off := by simp; omega
  unfold spl
  by_cases h1 : i < off
  · rw [if_pos h1, List.getElem?_append_left (by omega), List.getElem?_take_of_lt h1]
  · rw [if_neg h1, List.getElem?_append_right (by omega), hl]
    by_cases h2 : i < off + vs.length
    · rw [if_pos h2, List.getElem?_append_left (by omega)]
    · rw [if_neg h2, List.getElem?_append_right (by omega), List.getElem?_drop]
      congr 1
      omega
theorem VRs.spl {ν : Toks} {φ : Phi} {c c' vs vs' : List Value} (h : VRs ν φ c c') (hv : VRs ν φ vs vs') (off : Nat) : VRs ν φ (Eva.spl c off vs) (Eva.spl c' off vs') := by
  unfold Eva.spl
  rw [hv.length]
  exact (h.take off).append (hv.append (h.drop _))
/-- What the model lays, cell by cell. -/
theorem foldl_spl : ∀ (vs : List Value) (k off : Nat) (cs : Array Value), off + k + vs.length ≤ cs.size →
    ((vs.zipIdx k).foldl (fun cs (x : Value × Nat) => cs.setIfInBounds (off + x.2) x.1) cs).toList = spl cs.toList (off + k) vs
  | [], k, off, cs, _ => by simp [spl]
  | v :: vs, k, off, cs, h => by
    simp only [List.length_cons] at h
    rw [List.zipIdx_cons, List.foldl_cons, foldl_spl vs (k + 1) off _ (by simp; omega)]
    apply List.ext_getElem?
    intro i
    rw [spl_get (by simp; omega), spl_get (by simp; omega)]
    simp only [Array.toList_setIfInBounds, List.length_cons]
    by_cases h1 : i < off + k
    · rw [if_pos (by omega), if_pos h1, List.getElem?_set_ne (by omega)]
    · rw [if_neg h1]
      by_cases h2 : i = off + k
      · subst h2
        rw [if_pos (by omega), if_pos (by omega), List.getElem?_set_self (by simp; omega)]
        simp
      · by_cases h3 : i < off + k + (vs.length + 1)
        · rw [if_neg (by omega), if_pos (by omega), if_pos h3]
          rw [show i - (off + k) = (i - (off + (k + 1))) + 1 by omega, List.getElem?_cons_succ]
        · rw [if_neg (by omega), if_neg (by omega), if_neg h3, List.getElem?_set_ne (by omega)]
/-- Parts, pairwise. -/
inductive PR (ν : Toks) (φ : Phi) : List (Nat × Value) → List (Nat × Value) → Prop
  | nil : PR ν φ [] []
  | cons {i : Nat} {v v' : Value} {l l' : List (Nat × Value)} (h : VR ν φ v v') (t : PR ν φ l l') : PR ν φ ((i, v) :: l) ((i, v') :: l')
theorem fill_sound {ν : Toks} {φ : Phi} {place : Nat → Option (Nat × Nat)} : ∀ {parts parts' : List (Nat × Value)} {c c' l : List Value}, VRs ν φ c c' →
    PR ν φ parts parts' → fillB place c parts = some l → ∃ l', Instr.fill place ⟨c'⟩ parts' = some ⟨l'⟩ ∧ VRs ν φ l l'
  | [], _, c, c', l, hc, hp, h => by
    cases hp
    simp only [fillB, Option.some.injEq] at h
    subst h
    exact ⟨c', rfl, hc⟩
  | (i, v) :: rest, _, c, c', l, hc, hp, h => by
    cases hp with
    | cons hv h2 =>
      rename_i v' rest'
      simp only [fillB] at h
      cases hpl : place i with
      | none => rw [hpl] at h; cases h
      | some os =>
        obtain ⟨off, size⟩ := os
        rw [hpl] at h
        simp only at h
        cases hb : Nat.beq (cellsL v).length size && Nat.ble (off + (cellsL v).length) c.length && (cellsL v).all oneB with
        | false => rw [hb] at h; cases h
        | true =>
          rw [hb] at h
          simp only [Bool.and_eq_true] at hb
          obtain ⟨⟨hb1, hb2⟩, hb3⟩ := hb
          have hs := beq_iff hb1
          have ho := ble_iff hb2
          have hcv := hv.cells hb3
          have hlen := hcv.length
          have hcl := hc.length
          obtain ⟨l', h3, h4⟩ := fill_sound (hc.spl hcv off) h2 h
          refine ⟨l', ?_, h4⟩
          simp only [Instr.fill, hpl]
          have e1 : v'.cells.size = size := by rw [← Array.length_toList, hlen, hs]
          rw [if_neg (by simp [e1]; omega)]
          have e2 := foldl_spl v'.cells.toList 0 off ⟨c'⟩ (by simp [← hcl] at *; omega)
          rw [← h3]
          congr 1
          apply Array.ext'
          rw [← Array.foldl_toList, Array.toList_zipIdx, e2]
          simp
theorem parts_map {ν : Toks} {φ : Phi} {ρ ρ' : Operand → Value} : ∀ (l : List (Nat × Operand)), (∀ x ∈ l.map (·.2), VR ν φ (ρ x) (ρ' x)) →
    PR ν φ (mapB ρ l) (l.map fun (i, x) => (i, ρ' x))
  | [], _ => .nil
  | (i, x) :: l, h => .cons (h x (by simp)) (parts_map l fun y hy => h y (by simp at hy ⊢; exact .inr hy))
theorem rep_length (z : List Value) : ∀ n, (rep z n).length = n * z.length
  | 0 => by simp [rep]
  | n + 1 => by rw [rep, List.length_append, rep_length z n, Nat.succ_mul, Nat.add_comm]
theorem rep_get (z : List Value) : ∀ (n i : Nat), i < n * z.length → (rep z n)[i]? = z[i % z.length]?
  | 0, i, h => by omega
  | n + 1, i, h => by
    have hz : 0 < z.length := Nat.pos_of_ne_zero fun e => by rw [e] at h; simp at h
    rw [rep]
    by_cases hi : i < z.length
    · rw [List.getElem?_append_left hi, Nat.mod_eq_of_lt hi]
    · rw [List.getElem?_append_right (by omega), rep_get z n _ (by rw [Nat.succ_mul] at h; omega)]
      congr 1
      conv => rhs; rw [show i = (i - z.length) + z.length by omega, Nat.add_mod_right]
theorem rep_range (z : Array Value) (n : Nat) : ((Array.range (n * z.size)).map (z[· % z.size]!)).toList = rep z.toList n := by
  apply List.ext_getElem?
  intro i
  by_cases hi : i < n * z.size
  · have hz : 0 < z.size := Nat.pos_of_ne_zero fun e => by rw [e] at hi; simp at hi
    rw [rep_get _ _ _ (by simpa using hi)]
    have hm : i % z.size < z.size := Nat.mod_lt _ hz
    simp [hi, hm, Array.getElem!_eq_getD]
  · rw [List.getElem?_eq_none (by simpa using hi), List.getElem?_eq_none (by rw [rep_length]; simpa using hi)]
theorem rep_all {ν : Toks} {φ : Phi} {z z' : List Value} (h : VRs ν φ z z') : ∀ n, VRs ν φ (rep z n) (rep z' n)
  | 0 => .nil
  | n + 1 => h.append (rep_all h n)

section
variable {P : Program} {w : World} {ν : Toks} {φ : Phi}
theorem plainZero_spec {t : TypeId} {z : List Value} (h : plainZero P t = some z) : zeroB P t = some z ∧ VRs ν φ z z := by
  unfold plainZero at h
  cases hz : zeroB P t with
  | none => rw [hz] at h; cases h
  | some y =>
    rw [hz] at h
    simp only at h
    cases hp : plainL y with
    | false => rw [hp] at h; cases h
    | true => rw [hp] at h; cases h; exact ⟨rfl, VRs.refl _ hp⟩
theorem places_sound : ∀ {fs : List Field} {pl : List (Nat × Nat)}, placesB P fs = some pl → (fs.mapM fun f => (do pure (f.offset, ← sizeOf f.type) : Sem (Nat × Nat))).run P w = .ok pl w
  | [], pl, h => by simp only [placesB, Option.some.injEq] at h; subst h; simp [List.mapM_nil]
  | f :: fs, pl, h => by
    simp only [placesB] at h
    split at h <;> try cases h
    rename_i n l hn hl
    simp only [List.mapM_cons, Sem.run_bind, run_size (w := w) hn, Result.andThen_ok, Sem.run_pure, places_sound hl]
theorem build_sound {t : TypeId} {parts parts' : List (Nat × Value)} {u : Value} (hp : PR ν φ parts parts') (h : buildB P t parts = some u) :
    ∃ u', (Instr.build t ⟨parts'⟩).run P w = .ok u' w ∧ VR ν φ u u' := by
  unfold buildB at h
  cases hz : plainZero P t with
  | none => rw [hz] at h; cases h
  | some z =>
    rw [hz] at h
    obtain ⟨h1, h2⟩ := plainZero_spec (ν := ν) (φ := φ) hz
    obtain ⟨zv, h3, h4⟩ := run_zero (w := w) h1
    have hzz : zv.cells = ⟨z⟩ := by rw [← h4]
    cases hu : P.underlying t with
    | none => rw [hu] at h; cases h
    | some d =>
      rw [hu] at h
      cases d <;> simp only at h <;> try cases h
      case struct fs =>
        cases hpl : placesB P fs.toList with
        | none => rw [hpl] at h; cases h
        | some pl =>
          rw [hpl] at h
          simp only [Option.map_eq_some_iff] at h
          obtain ⟨l, hl, rfl⟩ := h
          obtain ⟨l', h5, h6⟩ := fill_sound h2 hp hl
          refine ⟨_, ?_, .agg h6⟩
          have hm := places_sound (w := w) hpl
          simp only [Instr.build, Sem.run_bind, h3, Result.andThen_ok, hzz, run_underlying hu, Array.mapM_eq_mapM_toList, Sem.run_map, hm]
          simp [h5]
      case array len elem =>
        cases hs : sizeB P elem with
        | none => rw [hs] at h; cases h
        | some size =>
          rw [hs] at h
          simp only [Option.map_eq_some_iff] at h
          obtain ⟨l, hl, rfl⟩ := h
          obtain ⟨l', h5, h6⟩ := fill_sound h2 hp hl
          refine ⟨_, ?_, .agg h6⟩
          simp [Instr.build, h3, hzz, run_underlying hu, run_size (w := w) hs, h5]
end
section
variable {P : Program} {G : Nat} {W0 : Begin} {ν : Toks} {φ : Phi} {s : Hp} {w : World}
theorem bound_ok {v : Value} {i y : Nat} {k : IntKind} {code : BoundsCode} (h : v = .int k i) (hi : i ≤ y) : (Instr.sliceBound v y code).run P w = .ok i w := by
  subst h
  simp [Instr.sliceBound, asIntOf, hi]
/-- A bound that stands, or stands not. -/
theorem elim_ok {x x' : Option Value} {d i : Nat} (hx : match x, x' with | some v, some v' => VR ν φ v v' | none, none => True | _, _ => False) (h : x.elim (some d) wrapInt = some i) :
    (x' = none ∧ x = none ∧ i = d) ∨ ∃ k v, x' = some (.int k i) ∧ x = some v := by
  cases x <;> cases x' <;> simp only at hx
  · simp at h; exact .inl ⟨rfl, rfl, h.symm⟩
  · simp at h
    obtain ⟨k, rfl⟩ := hx.wrapInt h
    exact .inr ⟨k, _, rfl, rfl⟩
theorem bounds_ok {sl : Bool} {len cap l h m : Nat} {lo hi mx lo' hi' mx' : Option Value} (h1 : match lo, lo' with | some v, some v' => VR ν φ v v' | none, none => True | _, _ => False)
    (h2 : match hi, hi' with | some v, some v' => VR ν φ v v' | none, none => True | _, _ => False) (h3 : match mx, mx' with | some v, some v' => VR ν φ v v' | none, none => True | _, _ => False)
    (e1 : lo.elim (some 0) wrapInt = some l) (e2 : hi.elim (some len) wrapInt = some h) (e3 : mx.elim (some cap) wrapInt = some m) (hlh : l ≤ h) (hhm : h ≤ m) (hmc : m ≤ cap) (hh : mx.isNone || hi.isSome) :
    (Instr.sliceBounds sl len cap lo' hi' mx').run P w = .ok (l, h, m) w := by
  rcases elim_ok h1 e1 with ⟨rfl, rfl, rfl⟩ | ⟨k1, v1, rfl, rfl⟩ <;> rcases elim_ok h2 e2 with ⟨rfl, rfl, rfl⟩ | ⟨k2, v2, rfl, rfl⟩ <;> rcases elim_ok h3 e3 with ⟨rfl, rfl, rfl⟩ | ⟨k3, v3, rfl, rfl⟩ <;>
    first
    | (simp at hh; done)
    | (simp [Instr.sliceBounds, bound_ok rfl hlh, bound_ok rfl hhm, bound_ok rfl hmc])
theorem slice_sound (hR : Rw P G W0 ν φ s w) {t : TypeId} {x x' u : Value} {lo hi mx lo' hi' mx' : Option Value} (hx : VR ν φ x x') (h1 : match lo, lo' with | some v, some v' => VR ν φ v v' | none, none => True | _, _ => False)
    (h2 : match hi, hi' with | some v, some v' => VR ν φ v v' | none, none => True | _, _ => False) (h3 : match mx, mx' with | some v, some v' => VR ν φ v v' | none, none => True | _, _ => False)
    (h : sliceB P s.t t x lo hi mx = some u) : ∃ u', (Instr.sliceAt t x' lo' hi' mx').run P w = .ok u' w ∧ VR ν φ u u' := by
  unfold sliceB at h
  split at h <;> try cases h
  · -- nil
    rename_i elem hu
    split at h <;> try cases h
    rename_i e1 e2 e3 hz
    split at h <;> try cases h
    rename_i hb
    cases hx
    refine ⟨_, ?_, .sl0⟩
    have hbn := bounds_ok (P := P) (w := w) (sl := true) (len := 0) (cap := 0) h1 h2 h3 e1 e2 e3 (Nat.le_refl _) (Nat.le_refl _) (Nat.le_refl _) hb
    simp [Instr.sliceAt, run_underlying hu, Instr.slice, hbn, run_size (w := w) hz]
  · -- an empty one
    rename_i elem hu
    split at h <;> try cases h
    rename_i n e1 e2 hz
    have hmn : mx' = none := by cases mx' <;> simp_all
    subst hmn
    cases hx
    rename_i a c
    have hbn := bounds_ok (P := P) (w := w) (sl := true) (len := 0) (cap := c) (m := c) h1 h2 (mx := none) (mx' := none) trivial e1 e2 rfl (Nat.le_refl _) (Nat.zero_le _) (Nat.le_refl _) rfl
    by_cases hc : c = 0
    · subst hc
      refine ⟨.slice (some a) 0 0, ?_, .emp _ _⟩
      simp [Instr.sliceAt, run_underlying hu, Instr.slice, hbn, run_size (w := w) hz]
    · refine ⟨.slice (some (a.add (0 * n))) 0 c, ?_, .emp _ _⟩
      simp [Instr.sliceAt, run_underlying hu, Instr.slice, hbn, run_size (w := w) hz, hc]
  · -- of known room
    rename_i elem B o len cap hu
    split at h <;> try cases h
    rename_i n l hh m hz e1 e2 e3
    split at h <;> try cases h
    rename_i hb
    simp only [Bool.and_eq_true] at hb
    obtain ⟨⟨⟨hb1, hb2⟩, hb3⟩, hb4⟩ := hb
    cases hx
    rename_i r hφ hn
    have hbn := bounds_ok (P := P) (w := w) (sl := true) h1 h2 h3 e1 e2 e3 (ble_iff hb1) (ble_iff hb2) (ble_iff hb3) hb4
    have g1 := ble_iff hb1
    have g2 := ble_iff hb2
    by_cases hml : m = l
    · subst hml
      refine ⟨.slice (some ⟨r.b, o, none⟩) (hh - m) (m - m), ?_, ?_⟩
      · simp [Instr.sliceAt, run_underlying hu, Instr.slice, hbn, run_size (w := w) hz]
      · rw [Nat.beq_refl]; exact .slk hφ (by omega)
    · refine ⟨.slice (some ⟨r.b, o + l * n, none⟩) (hh - l) (m - l), ?_, ?_⟩
      · simp [Instr.sliceAt, run_underlying hu, Instr.slice, hbn, run_size (w := w) hz, hml, add_off]
      · have : Nat.beq m l = false := by
          cases hq : Nat.beq m l with
          | false => rfl
          | true => exact absurd (beq_iff hq) hml
        rw [this]; exact .slk hφ (by omega)
  · -- of unknown room
    rename_i elem B o len hu
    split at h <;> try cases h
    · rename_i n l hh hz e1 e2
      split at h <;> try cases h
      rename_i c e hb ht
      have g1 := ble_iff hb
      split at h <;> try cases h
      rename_i he
      simp only [Bool.and_eq_true, Bool.or_eq_true] at he
      have he' := beq_iff he.1
      subst he'
      have hmn : mx' = none := by cases mx' <;> simp_all
      subst hmn
      have fin : ∀ r oc cap, φ B = some r → len ≤ cap → oc + cap * r.es ≤ r.sz → (len ≠ 0 → oc = o ∧ oc + cap * r.es = r.sz) → (o = 0 → oc = 0 ∧ cap * r.es = r.sz) → x' = .slice (some ⟨r.b, oc, none⟩) len cap →
          ∃ u', (Instr.sliceAt t x' lo' hi' none).run P w = .ok u' w ∧ VR ν φ (.slice (some ⟨B, match Nat.beq hh l with | true => (match Nat.beq l 0 with | true => o | false => 1) | false => o + l * n, none⟩) (hh - l) 0) u' := by
        intro r oc cap hφ hlc hroom hoc hoz hx'
        subst hx'
        obtain ⟨_, _, _, _, hcsz, hrw, _, hcle⟩ := hR.cells_ hφ ht
        obtain ⟨_, hes, _, _⟩ := hrw rfl
        have hn : n = r.es := by rw [hz] at hes; cases hes; rfl
        have far : ¬ hh ≤ len → oc = o ∧ oc + cap * r.es = r.sz ∧ hh ≤ cap := fun hgt => by
          rcases he.2 with q | ⟨⟨q1, q2⟩, q3⟩
          · exact absurd (ble_iff q) hgt
          · have p1 := ble_iff q1
            have p3 := ble_iff q3
            have p : oc = o ∧ oc + cap * r.es = r.sz := by
              rcases q2 with q2 | q2
              · exact hoc (by have := ble_iff q2; omega)
              · have e := beq_iff q2
                obtain ⟨a, b⟩ := hoz e
                exact ⟨by omega, by omega⟩
            refine ⟨p.1, p.2, ?_⟩
            have hle : hh * n ≤ cap * n := by
              rw [hn]
              rw [hn] at p3
              omega
            exact Nat.le_of_mul_le_mul_right hle p1
        have g2 : hh ≤ cap := by
          by_cases q : hh ≤ len
          · omega
          · exact (far q).2.2
        have near : hh ≠ l → oc = o ∧ oc + cap * r.es = r.sz := fun hne => by
          by_cases q : hh ≤ len
          · exact hoc (by omega)
          · exact ⟨(far q).1, (far q).2.1⟩
        have hbn := bounds_ok (P := P) (w := w) (sl := true) (cap := cap) (m := cap) h1 h2 (mx := none) (mx' := none) trivial e1 e2 rfl g1 g2 (Nat.le_refl _) rfl
        have hcl : (cap - l) * r.es + l * r.es = cap * r.es := by rw [← Nat.add_mul]; congr 1; omega
        by_cases hhl : hh = l
        · subst hhl
          rw [Nat.beq_refl]
          by_cases hcl' : cap = hh
          · subst hcl'
            refine ⟨.slice (some ⟨r.b, oc, none⟩) 0 0, ?_, ?_⟩
            · simp [Instr.sliceAt, run_underlying hu, Instr.slice, hbn, run_size (w := w) hz]
            · rw [Nat.sub_self]
              cases hq : Nat.beq cap 0 with
              | true => exact .sle hφ (by omega) (fun e => by have q := beq_iff hq; subst q; have p := hoz e; exact ⟨p.1, p.2⟩)
              | false => exact (show VR ν φ (.slice (some ⟨B, 1, none⟩) 0 0) _ from .sle hφ (by omega) (fun e => by cases e))
          · refine ⟨.slice (some ⟨r.b, oc + hh * n, none⟩) 0 (cap - hh), ?_, ?_⟩
            · simp [Instr.sliceAt, run_underlying hu, Instr.slice, hbn, run_size (w := w) hz, hcl', add_off]
            · rw [Nat.sub_self]
              cases hq : Nat.beq hh 0 with
              | true => exact .sle hφ (by rw [hn]; omega) (fun e => by have q := beq_iff hq; subst q; have p := hoz e; exact ⟨by omega, by rw [Nat.sub_zero]; exact p.2⟩)
              | false => exact (show VR ν φ (.slice (some ⟨B, 1, none⟩) 0 0) _ from .sle hφ (by rw [hn]; omega) (fun e => by cases e))
        · have hq : Nat.beq hh l = false := by
            cases hq : Nat.beq hh l with
            | false => rfl
            | true => exact absurd (beq_iff hq) hhl
          rw [hq]
          obtain ⟨hoc', hfull⟩ := near hhl
          subst hoc'
          obtain ⟨k, hk⟩ : ∃ k, hh - l = k + 1 := ⟨hh - l - 1, by omega⟩
          have hcl' : cap ≠ l := by omega
          refine ⟨.slice (some ⟨r.b, oc + l * n, none⟩) (hh - l) (cap - l), ?_, ?_⟩
          · simp [Instr.sliceAt, run_underlying hu, Instr.slice, hbn, run_size (w := w) hz, hcl', add_off]
          · rw [hk]; exact .slu hφ (by omega) (by show oc + l * n + (cap - l) * r.es = r.sz; rw [hn]; omega)
      cases hx
      · rename_i hsz
        exact fin _ _ _ ‹φ B = some _› ‹_› (Nat.le_of_eq hsz) (fun _ => ⟨rfl, hsz⟩) (fun h => ⟨h, by omega⟩) rfl
      · exact fin _ _ _ ‹φ B = some _› (Nat.zero_le _) ‹_› (fun h => absurd rfl h) ‹_› rfl
    · rename_i n l hh mv hz e1 e2
      split at h <;> try cases h
      rename_i m e3
      split at h <;> try cases h
      rename_i hb
      simp only [Bool.and_eq_true] at hb
      obtain ⟨⟨⟨⟨hb1, hb2⟩, hb3⟩, hb4⟩, hb5⟩ := hb
      have g1 := ble_iff hb1
      have g2 := ble_iff hb2
      have g3 := ble_iff hb3
      have g5 := ble_iff hb5
      cases hx with
      | @slu _ _ _ cap r hφ hn hc =>
        have hbn := bounds_ok (P := P) (w := w) (sl := true) (cap := cap) h1 h2 h3 e1 e2 (m := m) e3 g1 g2 (by omega) hb4
        by_cases hml : m = l
        · subst hml
          refine ⟨.slice (some ⟨r.b, o, none⟩) (hh - m) (m - m), ?_, ?_⟩
          · simp [Instr.sliceAt, run_underlying hu, Instr.slice, hbn, run_size (w := w) hz]
          · rw [Nat.beq_refl]; exact .slk hφ (by omega)
        · refine ⟨.slice (some ⟨r.b, o + l * n, none⟩) (hh - l) (m - l), ?_, ?_⟩
          · simp [Instr.sliceAt, run_underlying hu, Instr.slice, hbn, run_size (w := w) hz, hml, add_off]
          · have : Nat.beq m l = false := by
              cases hq : Nat.beq m l with
              | false => rfl
              | true => exact absurd (beq_iff hq) hml
            rw [this]; exact .slk hφ (by omega)
      | sle hφ hc ho => omega
  · -- an array
    rename_i len elem B o hu
    split at h <;> try cases h
    rename_i n l hh m hz e1 e2 e3
    split at h <;> try cases h
    rename_i hb
    simp only [Bool.and_eq_true] at hb
    obtain ⟨⟨⟨hb1, hb2⟩, hb3⟩, hb4⟩ := hb
    cases hx
    rename_i r hφ
    have hbn := bounds_ok (P := P) (w := w) (sl := false) h1 h2 h3 e1 e2 e3 (ble_iff hb1) (ble_iff hb2) (ble_iff hb3) hb4
    have g1 := ble_iff hb1
    have g2 := ble_iff hb2
    by_cases hml : m = l
    · subst hml
      refine ⟨.slice (some ⟨r.b, o, none⟩) (hh - m) (m - m), ?_, ?_⟩
      · simp [Instr.sliceAt, run_underlying hu, Instr.sureAddr, hbn, run_size (w := w) hz]
      · rw [Nat.beq_refl]; exact .slk hφ (by omega)
    · refine ⟨.slice (some ⟨r.b, o + l * n, none⟩) (hh - l) (m - l), ?_, ?_⟩
      · simp [Instr.sliceAt, run_underlying hu, Instr.sureAddr, hbn, run_size (w := w) hz, hml, add_off]
      · have : Nat.beq m l = false := by
          cases hq : Nat.beq m l with
          | false => rfl
          | true => exact absurd (beq_iff hq) hml
        rw [this]; exact .slk hφ (by omega)
  · -- a string
    rename_i sb hu
    split at h <;> try cases h
    rename_i l hh e1 e2
    split at h <;> try cases h
    rename_i hb
    simp only [Bool.and_eq_true] at hb
    cases hx
    have hmn : mx' = none := by cases mx' <;> simp_all
    subst hmn
    have hbn := bounds_ok (P := P) (w := w) (sl := false) (cap := sb.size) h1 h2 (mx := none) (mx' := none) trivial e1 e2 rfl (ble_iff hb.1) (ble_iff hb.2) (Nat.le_refl _) rfl
    refine ⟨_, ?_, .string _⟩
    simp [Instr.sliceAt, run_underlying hu, Instr.slice, hbn]
end
end Go.Eva
