/-
  Several texts in one. A run of a closed call: values made of parts, slices, maps; every operation that only reads. No program in sight.
-/
import Derived.Test.YtmcigeebeoobdaaGreatDoorPz03
import Derived.Test.YtmcigeebeoobdaaGreatDoorPz00
section
namespace Go.Eva
open Go Go.RowKit Go.Viv

/-! ### Parts laid over cells -/
theorem spl_length {cells vs : List Value} {off : Nat} (h : off + vs.length ≤ cells.length) : (spl cells off vs).length = cells.length := by
  simp [spl]; omega
theorem spl_get {cells vs : List Value} {off : Nat} (h : off + vs.length ≤ cells.length) (i : Nat) : (spl cells off vs)[i]? = if i < off then cells[i]? else if i < off + vs.length then vs[i - off]? else cells[i]? := by
  have hl : (cells.take off).length = off := by simp; omega
  unfold spl
  by_cases h1 : i < off
  · rw [if_pos h1, List.getElem?_append_left (by omega), List.getElem?_take_of_lt h1]
  · rw [if_neg h1, List.getElem?_append_right (by omega), hl]
    by_cases h2 : i < off + vs.length
    · rw [if_pos h2, List.getElem?_append_left (by omega)]
    · rw [if_neg h2, List.getElem?_append_right (by omega), List.getElem?_drop]
      congr 1
      omega
theorem VRs.spl {ν : Toks} {φ : Phi} {c c' vs vs' : List Value} (h : VRs ν φ c c') (hv : VRs ν φ vs vs') (off : Nat) : VRs ν φ (Eva.spl c off vs) (Eva.spl c' off vs') := by
  unfold Eva.spl
  rw [hv.length]
  exact (h.take off).append (hv.append (h.drop _))
/-- What the model lays, cell by cell. -/
theorem foldl_spl : ∀ (vs : List Value) (k off : Nat) (cs : Array Value), off + k + vs.length ≤ cs.size →
    ((vs.zipIdx k).foldl (fun cs (x : Value × Nat) => cs.setIfInBounds (off + x.2) x.1) cs).toList = spl cs.toList (off + k) vs
  | [], k, off, cs, _ => by simp [spl]
  | v :: vs, k, off, cs, h => by
    simp only [List.length_cons] at h
    rw [List.zipIdx_cons, List.foldl_cons, foldl_spl vs (k + 1) off _ (by simp; omega)]
    apply List.ext_getElem?
    intro i
    rw [spl_get (by simp; omega), spl_get (by simp; omega)]
    simp only [Array.toList_setIfInBounds, List.length_cons]
    by_cases h1 : i < off + k
    · rw [if_pos (by omega), if_pos h1, List.getElem?_set_ne (by omega)]
    · rw [if_neg h1]
      by_cases h2 : i = off + k
      · subst h2
        rw [if_pos (by omega), if_pos (by omega), List.getElem?_set_self (by simp; omega)]
        simp
      · by_cases h3 : i < off + k + (vs.length + 1)
        · rw [if_neg (by omega), if_pos (by omega), if_pos h3]
          rw [show i - (off + k) = (i - (off + (k + 1))) + 1 by omega, List.getElem?_cons_succ]
        · rw [if_neg (by omega), if_neg (by omega), if_neg h3, List.getElem?_set_ne (by omega)]
/-- Parts, pairwise. -/
inductive PR (ν : Toks) (φ : Phi) : List (Nat × Value) → List (Nat × Value) → Prop
  | nil : PR ν φ [] []
  | cons {i : Nat} {v v' : Value} {l l' : List (Nat × Value)} (h : VR ν φ v v') (t : PR ν φ l l') : PR ν φ ((i, v) :: l) ((i, v') :: l')
theorem fill_sound {ν : Toks} {φ : Phi} {place : Nat → Option (Nat × Nat)} : ∀ {parts parts' : List (Nat × Value)} {c c' l : List Value}, VRs ν φ c c' →
    PR ν φ parts parts' → fillB place c parts = some l → ∃ l', Instr.fill place ⟨c'⟩ parts' = some ⟨l'⟩ ∧ VRs ν φ l l'
  | [], _, c, c', l, hc, hp, h => by
    cases hp
    simp only [fillB, Option.some.injEq] at h
    subst h
    exact ⟨c', rfl, hc⟩
  | (i, v) :: rest, _, c, c', l, hc, hp, h => by
    cases hp with
    | cons hv h2 =>
      rename_i v' rest'
      simp only [fillB] at h
      cases hpl : place i with
      | none => rw [hpl] at h; cases h
      | some os =>
        obtain ⟨off, size⟩ := os
        rw [hpl] at h
        simp only at h
        cases hb : Nat.beq (cellsL v).length size && Nat.ble (off + (cellsL v).length) c.length && (cellsL v).all oneB with
        | false => rw [hb] at h; cases h
        | true =>
          rw [hb] at h
          simp only [Bool.and_eq_true] at hb
          obtain ⟨⟨hb1, hb2⟩, hb3⟩ := hb
          have hs := beq_iff hb1
          have ho := ble_iff hb2
          have hcv := hv.cells hb3
          have hlen := hcv.length
          have hcl := hc.length
          obtain ⟨l', h3, h4⟩ := fill_sound (hc.spl hcv off) h2 h
          refine ⟨l', ?_, h4⟩
          simp only [Instr.fill, hpl]
          have e1 : v'.cells.size = size := by rw [← Array.length_toList, hlen, hs]
          rw [if_neg (by simp [e1]; omega)]
          have e2 := foldl_spl v'.cells.toList 0 off ⟨c'⟩ (by simp [← hcl] at *; omega)
          rw [← h3]
          congr 1
          apply Array.ext'
          rw [← Array.foldl_toList, Array.toList_zipIdx, e2]
          simp
theorem parts_map {ν : Toks} {φ : Phi} {ρ ρ' : Operand → Value} : ∀ (l : List (Nat × Operand)), (∀ x ∈ l.map (·.2), VR ν φ (ρ x) (ρ' x)) →
    PR ν φ (mapB ρ l) (l.map fun (i, x) => (i, ρ' x))
  | [], _ => .nil
  | (i, x) :: l, h => .cons (h x (by simp)) (parts_map l fun y hy => h y (by simp at hy ⊢; exact .inr hy))
theorem rep_length (z : List Value) : ∀ n, (rep z n).length = n * z.length
  | 0 => by simp [rep]
  | n + 1 => by rw [rep, List.length_append, rep_length z n, Nat.succ_mul, Nat.add_comm]
theorem rep_get (z : List Value) : ∀ (n i : Nat), i < n * z.length → (rep z n)[i]? = z[i % z.length]?
  | 0, i, h => by omega
  | n + 1, i, h => by
    have hz : 0 < z.length := Nat.pos_of_ne_zero fun e => by rw [e] at h; simp at h
    rw [rep]
    by_cases hi : i < z.length
    · rw [List.getElem?_append_left hi, Nat.mod_eq_of_lt hi]
    · rw [List.getElem?_append_right (by omega), rep_get z n _ (by rw [Nat.succ_mul] at h; omega)]
      congr 1
      conv => rhs; rw [show i = (i - z.length) + z.length by omega, Nat.add_mod_right]
theorem rep_range (z : Array Value) (n : Nat) : ((Array.range (n * z.size)).map (z[· % z.size]!)).toList = rep z.toList n := by
  apply List.ext_getElem?
  intro i
  by_cases hi : i < n * z.size
  · have hz : 0 < z.size := Nat.pos_of_ne_zero fun e => by rw [e] at hi; simp at hi
    rw [rep_get _ _ _ (by simpa using hi)]
    have hm : i % z.size < z.size := Nat.mod_lt _ hz
    simp [hi, hm, Array.getElem!_eq_getD]
  · rw [List.getElem?_eq_none (by simpa using hi), List.getElem?_eq_none (by rw [rep_length]; simpa using hi)]
theorem rep_all {ν : Toks} {φ : Phi} {z z' : List Value} (h : VRs ν φ z z') : ∀ n, VRs ν φ (rep z n) (rep z' n)
  | 0 => .nil
  | n + 1 => h.append (rep_all h n)

section
variable {P : Program} {w : World} {ν : Toks} {φ : Phi}
theorem plainZero_spec {t : TypeId} {z : List Value} (h : plainZero P t = some z) : zeroB P t = some z ∧ VRs ν φ z z := by
  unfold plainZero at h
  cases hz : zeroB P t with
  | none => rw [hz] at h; cases h
  | some y =>
    rw [hz] at h
    simp only at h
    cases hp : plainL y with
    | false => rw [hp] at h; cases h
    | true => rw [hp] at h; cases h; exact ⟨rfl, VRs.refl _ hp⟩
theorem places_sound : ∀ {fs : List Field} {pl : List (Nat × Nat)}, placesB P fs = some pl → (fs.mapM fun f => (do pure (f.offset, ← sizeOf f.type) : Sem (Nat × Nat))).run P w = .ok pl w
  | [], pl, h => by simp only [placesB, Option.some.injEq] at h; subst h; simp [List.mapM_nil]
  | f :: fs, pl, h => by
    simp only [placesB] at h
    split at h <;> try cases h
    rename_i n l hn hl
    simp only [List.mapM_cons, Sem.run_bind, run_size (w := w) hn, Result.andThen_ok, Sem.run_pure, places_sound hl]
theorem build_sound {t : TypeId} {parts parts' : List (Nat × Value)} {u : Value} (hp : PR ν φ parts parts') (h : buildB P t parts = some u) :
    ∃ u', (Instr.build t ⟨parts'⟩).run P w = .ok u' w ∧ VR ν φ u u' := by
  unfold buildB at h
  cases hz : plainZero P t with
  | none => rw [hz] at h; cases h
  | some z =>
    rw [hz] at h
    obtain ⟨h1, h2⟩ := plainZero_spec (ν := ν) (φ := φ) hz
    obtain ⟨zv, h3, h4⟩ := run_zero (w := w) h1
    have hzz : zv.cells = ⟨z⟩ := by rw [← h4]
    cases hu : P.underlying t with
    | none => rw [hu] at h; cases h
    | some d =>
      rw [hu] at h
      cases d <;> simp only at h <;> try cases h
      case struct fs =>
        cases hpl : placesB P fs.toList with
        | none => rw [hpl] at h; cases h
        | some pl =>
          rw [hpl] at h
          simp only [Option.map_eq_some_iff] at h
          obtain ⟨l, hl, rfl⟩ := h
          obtain ⟨l', h5, h6⟩ := fill_sound h2 hp hl
          refine ⟨_, ?_, .agg h6⟩
          have hm := places_sound (w := w) hpl
          simp only [Instr.build, Sem.run_bind, h3, Result.andThen_ok, hzz, run_underlying hu, Array.mapM_eq_mapM_toList, Sem.run_map, hm]
          simp [h5]
      case array len elem =>
        cases hs : sizeB P elem with
        | none => rw [hs] at h; cases h
        | some size =>
          rw [hs] at h
          simp only [Option.map_eq_some_iff] at h
          obtain ⟨l, hl, rfl⟩ := h
          obtain ⟨l', h5, h6⟩ := fill_sound h2 hp hl
          refine ⟨_, ?_, .agg h6⟩
          simp [Instr.build, h3, hzz, run_underlying hu, run_size (w := w) hs, h5]
end
section
variable {P : Program} {G : Nat} {W0 : Begin} {ν : Toks} {φ : Phi} {s : Hp} {w : World}
theorem bound_ok {v : Value} {i y : Nat} {k : IntKind} {code : BoundsCode} (h : v = .int k i) (hi : i ≤ y) : (Instr.sliceBound v y code).run P w = .ok i w := by
  subst h
  simp [Instr.sliceBound, asIntOf, hi]
/-- A bound that stands, or stands not. -/
theorem elim_ok {x x' : Option Value} {d i : Nat} (hx : match x, x' with | some v, some v' => VR ν φ v v' | none, none => True | _, _ => False) (h : x.elim (some d) wrapInt = some i) :
    (x' = none ∧ x = none ∧ i = d) ∨ ∃ k v, x' = some (.int k i) ∧ x = some v := by
  cases x <;> cases x' <;> simp only at hx
  · simp at h; exact .inl ⟨rfl, rfl, h.symm⟩
  · simp at h
    obtain ⟨k, rfl⟩ := hx.wrapInt h
    exact .inr ⟨k, _, rfl, rfl⟩
theorem bounds_ok {sl : Bool} {len cap l h m : Nat} {lo hi mx lo' hi' mx' : Option Value} (h1 : match lo, lo' with | some v, some v' => VR ν φ v v' | none, none => True | _, _ => False)
    (h2 : match hi, hi' with | some v, some v' => VR ν φ v v' | none, none => True | _, _ => False) (h3 : match mx, mx' with | some v, some v' => VR ν φ v v' | none, none => True | _, _ => False)
    (e1 : lo.elim (some 0) wrapInt = some l) (e2 : hi.elim (some len) wrapInt = some h) (e3 : mx.elim (some cap) wrapInt = some m) (hlh : l ≤ h) (hhm : h ≤ m) (hmc : m ≤ cap) (hh : mx.isNone || hi.isSome) :
    (Instr.sliceBounds sl len cap lo' hi' mx').run P w = .ok (l, h, m) w := by
  rcases elim_ok h1 e1 with ⟨rfl, rfl, rfl⟩ | ⟨k1, v1, rfl, rfl⟩ <;> rcases elim_ok h2 e2 with ⟨rfl, rfl, rfl⟩ | ⟨k2, v2, rfl, rfl⟩ <;> rcases elim_ok h3 e3 with ⟨rfl, rfl, rfl⟩ | ⟨k3, v3, rfl, rfl⟩ <;>
    first
    | (simp at hh; done)
    | (simp [Instr.sliceBounds, bound_ok rfl hlh, bound_ok rfl hhm, bound_ok rfl hmc])
theorem slice_sound (hR : Rw P G W0 ν φ s w) {t : TypeId} {x x' u : Value} {lo hi mx lo' hi' mx' : Option Value} (hx : VR ν φ x x') (h1 : match lo, lo' with | some v, some v' => VR ν φ v v' | none, none => True | _, _ => False)
    (h2 : match hi, hi' with | some v, some v' => VR ν φ v v' | none, none => True | _, _ => False) (h3 : match mx, mx' with | some v, some v' => VR ν φ v v' | none, none => True | _, _ => False)
    (h : sliceB P s.t t x lo hi mx = some u) : ∃ u', (Instr.sliceAt t x' lo' hi' mx').run P w = .ok u' w ∧ VR ν φ u u' := by
  unfold sliceB at h
  split at h <;> try cases h
  · -- nil
    rename_i elem hu
    split at h <;> try cases h
    rename_i e1 e2 e3 hz
    split at h <;> try cases h
    rename_i hb
    cases hx
    refine ⟨_, ?_, .sl0⟩
    have hbn := bounds_ok (P := P) (w := w) (sl := true) (len := 0) (cap := 0) h1 h2 h3 e1 e2 e3 (Nat.le_refl _) (Nat.le_refl _) (Nat.le_refl _) hb
    simp [Instr.sliceAt, run_underlying hu, Instr.slice, hbn, run_size (w := w) hz]
  · -- an empty one
    rename_i elem hu
    split at h <;> try cases h
    rename_i n e1 e2 hz
    have hmn : mx' = none := by cases mx' <;> simp_all
    subst hmn
    cases hx
    rename_i a c
    have hbn := bounds_ok (P := P) (w := w) (sl := true) (len := 0) (cap := c) (m := c) h1 h2 (mx := none) (mx' := none) trivial e1 e2 rfl (Nat.le_refl _) (Nat.zero_le _) (Nat.le_refl _) rfl
    by_cases hc : c = 0
    · subst hc
      refine ⟨.slice (some a) 0 0, ?_, .emp _ _⟩
      simp [Instr.sliceAt, run_underlying hu, Instr.slice, hbn, run_size (w := w) hz]
    · refine ⟨.slice (some (a.add (0 * n))) 0 c, ?_, .emp _ _⟩
      simp [Instr.sliceAt, run_underlying hu, Instr.slice, hbn, run_size (w := w) hz, hc]
  · -- of known room
    rename_i elem B o len cap hu
    split at h <;> try cases h
    rename_i n l hh m hz e1 e2 e3
    split at h <;> try cases h
    rename_i hb
    simp only [Bool.and_eq_true] at hb
    obtain ⟨⟨⟨hb1, hb2⟩, hb3⟩, hb4⟩ := hb
    cases hx
    rename_i r hφ hn
    have hbn := bounds_ok (P := P) (w := w) (sl := true) h1 h2 h3 e1 e2 e3 (ble_iff hb1) (ble_iff hb2) (ble_iff hb3) hb4
    have g1 := ble_iff hb1
    have g2 := ble_iff hb2
    by_cases hml : m = l
    · subst hml
      refine ⟨.slice (some ⟨r.b, o, none⟩) (hh - m) (m - m), ?_, ?_⟩
      · simp [Instr.sliceAt, run_underlying hu, Instr.slice, hbn, run_size (w := w) hz]
      · rw [Nat.beq_refl]; exact .slk hφ (by omega)
    · refine ⟨.slice (some ⟨r.b, o + l * n, none⟩) (hh - l) (m - l), ?_, ?_⟩
      · simp [Instr.sliceAt, run_underlying hu, Instr.slice, hbn, run_size (w := w) hz, hml, add_off]
      · have : Nat.beq m l = false := by
          cases hq : Nat.beq m l with
          | false => rfl
          | true => exact absurd (beq_iff hq) hml
        rw [this]; exact .slk hφ (by omega)
  · -- of unknown room
    rename_i elem B o len hu
    split at h <;> try cases h
    · rename_i n l hh hz e1 e2
      split at h <;> try cases h
      rename_i c e hb ht
      simp only [Bool.and_eq_true] at hb
      have g1 := ble_iff hb.1
      have g2 := ble_iff hb.2
      split at h <;> try cases h
      rename_i he
      have he' := beq_iff he
      subst he'
      have hmn : mx' = none := by cases mx' <;> simp_all
      subst hmn
      have fin : ∀ r oc cap, φ B = some r → len ≤ cap → oc + cap * r.es ≤ r.sz → (len ≠ 0 → oc = o) → (o = 0 → oc = 0) → x' = .slice (some ⟨r.b, oc, none⟩) len cap →
          ∃ u', (Instr.sliceAt t x' lo' hi' none).run P w = .ok u' w ∧ VR ν φ (.slice (some ⟨B, match Nat.beq hh l with | true => (match Nat.beq l 0 with | true => o | false => 1) | false => o + l * n, none⟩) (hh - l) 0) u' := by
        intro r oc cap hφ hlc hroom hoc hoz hx'
        subst hx'
        obtain ⟨_, _, _, _, _, hrw, _⟩ := hR.cells_ hφ ht
        obtain ⟨_, hes, _, _⟩ := hrw rfl
        have hn : n = r.es := by rw [hz] at hes; cases hes; rfl
        have hbn := bounds_ok (P := P) (w := w) (sl := true) (cap := cap) (m := cap) h1 h2 (mx := none) (mx' := none) trivial e1 e2 rfl g1 (Nat.le_trans g2 hlc) (Nat.le_refl _) rfl
        have hcl : (cap - l) * r.es + l * r.es = cap * r.es := by rw [← Nat.add_mul]; congr 1; omega
        by_cases hhl : hh = l
        · subst hhl
          rw [Nat.beq_refl]
          by_cases hcl' : cap = hh
          · subst hcl'
            refine ⟨.slice (some ⟨r.b, oc, none⟩) 0 0, ?_, ?_⟩
            · simp [Instr.sliceAt, run_underlying hu, Instr.slice, hbn, run_size (w := w) hz]
            · rw [Nat.sub_self]
              cases hq : Nat.beq cap 0 with
              | true => exact .sle hφ (by omega) hoz
              | false => exact (show VR ν φ (.slice (some ⟨B, 1, none⟩) 0 0) _ from .sle hφ (by omega) (fun e => by cases e))
          · refine ⟨.slice (some ⟨r.b, oc + hh * n, none⟩) 0 (cap - hh), ?_, ?_⟩
            · simp [Instr.sliceAt, run_underlying hu, Instr.slice, hbn, run_size (w := w) hz, hcl', add_off]
            · rw [Nat.sub_self]
              cases hq : Nat.beq hh 0 with
              | true => exact .sle hφ (by rw [hn]; omega) (fun e => by have := beq_iff hq; subst this; have := hoz e; omega)
              | false => exact (show VR ν φ (.slice (some ⟨B, 1, none⟩) 0 0) _ from .sle hφ (by rw [hn]; omega) (fun e => by cases e))
        · have hq : Nat.beq hh l = false := by
            cases hq : Nat.beq hh l with
            | false => rfl
            | true => exact absurd (beq_iff hq) hhl
          rw [hq]
          have hoc' := hoc (by omega)
          subst hoc'
          obtain ⟨k, hk⟩ : ∃ k, hh - l = k + 1 := ⟨hh - l - 1, by omega⟩
          have hcl' : cap ≠ l := by omega
          refine ⟨.slice (some ⟨r.b, oc + l * n, none⟩) (hh - l) (cap - l), ?_, ?_⟩
          · simp [Instr.sliceAt, run_underlying hu, Instr.slice, hbn, run_size (w := w) hz, hcl', add_off]
          · rw [hk]; exact .slu hφ (by omega) (by show oc + l * n + (cap - l) * r.es ≤ r.sz; rw [hn]; omega)
      cases hx
      · exact fin _ _ _ ‹φ B = some _› ‹_› ‹_› (fun _ => rfl) (fun h => h) rfl
      · exact fin _ _ _ ‹φ B = some _› (Nat.zero_le _) ‹_› (fun h => absurd rfl h) ‹_› rfl
    · rename_i n l hh mv hz e1 e2
      split at h <;> try cases h
      rename_i m e3
      split at h <;> try cases h
      rename_i hb
      simp only [Bool.and_eq_true] at hb
      obtain ⟨⟨⟨⟨hb1, hb2⟩, hb3⟩, hb4⟩, hb5⟩ := hb
      have g1 := ble_iff hb1
      have g2 := ble_iff hb2
      have g3 := ble_iff hb3
      have g5 := ble_iff hb5
      cases hx with
      | @slu _ _ _ cap r hφ hn hc =>
        have hbn := bounds_ok (P := P) (w := w) (sl := true) (cap := cap) h1 h2 h3 e1 e2 (m := m) e3 g1 g2 (by omega) hb4
        by_cases hml : m = l
        · subst hml
          refine ⟨.slice (some ⟨r.b, o, none⟩) (hh - m) (m - m), ?_, ?_⟩
          · simp [Instr.sliceAt, run_underlying hu, Instr.slice, hbn, run_size (w := w) hz]
          · rw [Nat.beq_refl]; exact .slk hφ (by omega)
        · refine ⟨.slice (some ⟨r.b, o + l * n, none⟩) (hh - l) (m - l), ?_, ?_⟩
          · simp [Instr.sliceAt, run_underlying hu, Instr.slice, hbn, run_size (w := w) hz, hml, add_off]
          · have : Nat.beq m l = false := by
              cases hq : Nat.beq m l with
              | false => rfl
              | true => exact absurd (beq_iff hq) hml
            rw [this]; exact .slk hφ (by omega)
      | sle hφ hc ho => omega
  · -- an array
    rename_i len elem B o hu
    split at h <;> try cases h
    rename_i n l hh m hz e1 e2 e3
    split at h <;> try cases h
    rename_i hb
    simp only [Bool.and_eq_true] at hb
    obtain ⟨⟨⟨hb1, hb2⟩, hb3⟩, hb4⟩ := hb
    cases hx
    rename_i r hφ
    have hbn := bounds_ok (P := P) (w := w) (sl := false) h1 h2 h3 e1 e2 e3 (ble_iff hb1) (ble_iff hb2) (ble_iff hb3) hb4
    have g1 := ble_iff hb1
    have g2 := ble_iff hb2
    by_cases hml : m = l
    · subst hml
      refine ⟨.slice (some ⟨r.b, o, none⟩) (hh - m) (m - m), ?_, ?_⟩
      · simp [Instr.sliceAt, run_underlying hu, Instr.sureAddr, hbn, run_size (w := w) hz]
      · rw [Nat.beq_refl]; exact .slk hφ (by omega)
    · refine ⟨.slice (some ⟨r.b, o + l * n, none⟩) (hh - l) (m - l), ?_, ?_⟩
      · simp [Instr.sliceAt, run_underlying hu, Instr.sureAddr, hbn, run_size (w := w) hz, hml, add_off]
      · have : Nat.beq m l = false := by
          cases hq : Nat.beq m l with
          | false => rfl
          | true => exact absurd (beq_iff hq) hml
        rw [this]; exact .slk hφ (by omega)
  · -- a string
    rename_i sb hu
    split at h <;> try cases h
    rename_i l hh e1 e2
    split at h <;> try cases h
    rename_i hb
    simp only [Bool.and_eq_true] at hb
    cases hx
    have hmn : mx' = none := by cases mx' <;> simp_all
    subst hmn
    have hbn := bounds_ok (P := P) (w := w) (sl := false) (cap := sb.size) h1 h2 (mx := none) (mx' := none) trivial e1 e2 rfl (ble_iff hb.1) (ble_iff hb.2) (Nat.le_refl _) rfl
    refine ⟨_, ?_, .string _⟩
    simp [Instr.sliceAt, run_underlying hu, Instr.slice, hbn]
end
end Go.Eva
end

/-
  A run of a closed call: what writes, what makes memory, what calls. No program in sight.
-/
section
namespace Go.Eva
open Go Go.RowKit Go.Viv

/-! ### Frames -/
def look (T : Tr Value) (t : Nat) : Value := match T.at_ t with
  | some v => v
  | none => undef
def evl (G : Nat) (T : Tr Value) : Operand → Value
  | .tmp t => look T t
  | .const v => (match plainV v with | true => v | false => .chan none)
  | .global g => (match Nat.blt g G with | true => .pointer (some ⟨g, 0, none⟩) | false => .chan none)
  | .func f => .func (.func f) ⟨[]⟩ ⟨[]⟩
def putT (n : Nat) (T : Tr Value) (d : Option Tmp) (v : Value) : Option (Tr Value) :=
  match d with
  | none => some T
  | some d => match Nat.blt d n with
    | true => some (T.set d (some v))
    | false => none
def wantedB (ops : List Oper) (T : Tr Value) (o : Oper) : Option Bool :=
  match o.guard with
  | none => some true
  | some (j, want) => match (ops[j]?).bind (·.dst) with
    | none => some false
    | some t => match look T t with
      | .bool b => some (b == want)
      | .tuple ⟨[]⟩ => some false
      | _ => none

/-! ### Calls -/
/-- A method of a type: found by its name. -/
def methB (P : Program) (t : TypeId) (name : String) : Option (FuncId × Bool) := match P.info? t with
  | some i => match i.methods.find? (·.name == name) with
    | some m => match m.path.isEmpty with
      | true => m.func
      | false => none
    | none => none
  | none => none
def isPtr (P : Program) (t : TypeId) : Option (Option TypeId) := (P.underlying t).map fun
  | .pointer e => some e
  | _ => none
def recvB (P : Program) (t : TypeId) (name : String) (v : Value) : Option (FuncId × Value) :=
  match methB P t name, isPtr P t with
  | some (f, true), some (some _) => some (f, v)
  | some (f, false), some none => some (f, v)
  | _, _ => none
def targetB (P : Program) (ρ : Operand → Value) (c : Call) : Option (FuncId × List Value) :=
  match c.callee with
  | .value f => (match ρ f with
    | .func (.func g) ⟨first⟩ ⟨cap⟩ => some (g, (first ++ c.args.toList.map ρ) ++ cap)
    | .func (.methodOf t name) ⟨first⟩ ⟨_⟩ => (match P.underlying t, first ++ c.args.toList.map ρ with
      | some (.interface _), _ => none
      | some _, x :: rest => (recvB P t name x).map fun (g, y) => (g, y :: rest)
      | _, _ => none)
    | _ => none)
  | .invoke r name => (match ρ r with
    | .iface t v => (recvB P t name v).map fun (g, y) => (g, y :: c.args.toList.map ρ)
    | _ => none)
  | .builtin _ => none
abbrev CallB := FuncId → List Value → Hp → Option (Value × Hp)
def okFn (P : Program) (f : FuncId) : Bool := match P.funcs[f]? with
  | some fn => fn.body.isSome && !(fn.name == "runtime.NumGoroutine")
  | none => false
def evE (P : Program) (call : CallB) (ρ : Operand → Value) (h : Hp) : Op → Option (Value × Hp)
  | .store t a v => (match storeB P h.t t (ρ a) (ρ v) with
    | some t => some (undef, ⟨t, h.next⟩)
    | none => none)
  | .mapUpdate t m k v => (match mapSetB P h.t t (ρ m) (ρ k) (ρ v) with
    | some t => some (undef, ⟨t, h.next⟩)
    | none => none)
  | .call c => (match c.callee, c.args.toList with
    | .builtin .append, [s, x] => appendB P h c.argTypes.toList (ρ s) (ρ x)
    | _, _ => match targetB P ρ c with
      | some (g, args) => match okFn P g with
        | true => call g args h
        | false => none
      | none => none)
  | _ => none
/-- What an operation is to memory. -/
inductive Kd where
  | quiet
  | alloc
  | eff
def kind : Op → Kd
  | .alloc _ => .alloc
  | .box _ _ => .alloc
  | .makeMap _ _ => .alloc
  | .makeSlice _ _ _ => .alloc
  | .buildSlice _ _ _ => .alloc
  | .store _ _ _ => .eff
  | .mapUpdate _ _ _ _ => .eff
  | .call c => (match c.callee with
    | .builtin .append => .eff
    | .builtin .copy => .eff
    | .builtin .delete => .eff
    | .builtin _ => .quiet
    | _ => .eff)
  | _ => .quiet
def evOp (P : Program) (sy : Sy) (call : CallB) (ρ : Operand → Value) (h : Hp) (o : Op) : Option (Value × Hp) :=
  match kind o with
  | .quiet => match evQ P sy ρ h.t o with
    | some v => some (v, h)
    | none => none
  | .alloc => match evA P ρ h.next o with
    | some (v, ob) => some (v, ⟨h.t.set h.next (some ob), h.next + 1⟩)
    | none => none
  | .eff => evE P call ρ h o
def evSeq (P : Program) (sy : Sy) (G n : Nat) (call : CallB) (all : List Oper) : List Oper → Tr Value → Hp → Option (Tr Value × Hp)
  | [], T, h => some (T, h)
  | o :: rest, T, h => match wantedB all T o with
    | some true => match evOp P sy call (evl G T) h o.op with
      | some (v, h') => match putT n T o.dst v with
        | some T' => evSeq P sy G n call all rest T' h'
        | none => none
      | none => none
    | some false => match putT n T o.dst undef with
      | some T' => evSeq P sy G n call all rest T' h
      | none => none
    | none => none

inductive Ex where
  | normal
  | exit (id : Nat)
  | ret
/-- A region that draws its order: see further on. -/
abbrev DrawB := (ops : Array Oper) → Tr Value → Hp → Option (Tr Value × Hp)
def evC (P : Program) (sy : Sy) (G n : Nat) (call : CallB) (draw : DrawB) : Nat → Code → Tr Value → Hp → Option (Ex × Tr Value × Hp)
  | 0, _, _, _ => none
  | f + 1, c, T, h => match c with
    | .skip => some (.normal, T, h)
    | .label _ => some (.normal, T, h)
    | .region _ ops false => (match evSeq P sy G n call ops.toList ops.toList T h with
      | some (T', h') => some (.normal, T', h')
      | none => none)
    | .region _ ops true => (match draw ops T h with
      | some (T', h') => some (.normal, T', h')
      | none => none)
    | .seq a b => (match evC P sy G n call draw f a T h with
      | some (.normal, T', h') => evC P sy G n call draw f b T' h'
      | r => r)
    | .cond x a b => (match evl G T x with
      | .bool true => evC P sy G n call draw f a T h
      | .bool false => evC P sy G n call draw f b T h
      | _ => none)
    | .block id body => (match evC P sy G n call draw f body T h with
      | some (.exit id', T', h') => (match Nat.beq id' id with
        | true => some (.normal, T', h')
        | false => some (.exit id', T', h'))
      | r => r)
    | .loop body => (match evC P sy G n call draw f body T h with
      | some (.normal, T', h') => evC P sy G n call draw f (.loop body) T' h'
      | r => r)
    | .scope body => evC P sy G n call draw f body T h
    | .exit id => some (.exit id, T, h)
    | .ret => some (.ret, T, h)
    | _ => none
def args0 : List Value → Nat → Tr Value → Tr Value
  | [], _, T => T
  | v :: l, i, T => args0 l (i + 1) (T.set i (some v))
def resB (P : Program) (H : Tr AObj) (T : Tr Value) : List ResultVar → Option (List Value)
  | [] => some []
  | .tmp t :: l => (resB P H T l).map (look T t :: ·)
  | .cell a t :: l => match loadB P H t (look T a), resB P H T l with
    | some v, some vs => some (v :: vs)
    | _, _ => none
def packB : List Value → Value
  | [v] => v
  | l => .tuple ⟨l⟩
/-- Calls that are not looked into: what they come to is told by a table. -/
abbrev Tb := Tr (List Value → Hp → Option (Value × Hp))
/-- The first fuel is for calls in calls; the second, for one body. -/
def evF (P : Program) (sy : Sy) (tb : Tb) (G : Nat) (draw : Nat → Nat → CallB → DrawB) (k : Nat) : Nat → CallB
  | 0, _, _, _ => none
  | f + 1, g, args, h => match tb.at_ g with
  | some c => c args h
  | none => match P.funcs[g]? with
    | some fn => match fn.body with
      | some c => match Nat.ble args.length fn.ntmps with
        | true => match evC P sy G fn.ntmps (evF P sy tb G draw k f) (draw G fn.ntmps (evF P sy tb G draw k f)) k c (args0 args 0 .nil) h with
          | some (.exit _, _, _) => none
          | some (_, T, h') => match resB P h'.t T fn.results.toList with
            | some vs => some (packB vs, h')
            | none => none
          | none => none
        | false => none
      | none => none
    | none => none
end Go.Eva
end

/-
  A region that draws its order, each of whose effects waits for all that stands ahead of it: walked once, in order. No program in sight.
-/
section
namespace Go.Mix
open Go

/-- What is asked behind an operation that reads. -/
structure Reads (w : World) (K : Act → World → Prop) (e : Exit) (a : Act) (w' : World) : Prop where
  normal : e = .normal
  same : w' = w
  next : K a w'

section
variable {P : Program} {ops : Array Oper} {Q : Exit → Act → World → Prop} {md : Region.Mode}

/-- The walk, by a list of numbers: true: it only reads. -/
def wpSeq (P : Program) (ops : Array Oper) (Q : Exit → Act → World → Prop) : List (Nat × Bool) → Act → World → Prop
  | [], a, w => Q .normal a w
  | (i, true) :: rest, a, w => match ops[i]? with
    | some o => valueOp o = true ∧ wpList P ops (Reads w (wpSeq P ops Q rest)) [o] a w
    | none => False
  | (i, false) :: rest, a, w => match ops[i]? with
    | some o => wpList P ops (Behind (fun _ => True) (wpSeq P ops Q rest)) [o] a w
    | none => False

/-- All that an operation waits for has come up. -/
def Waited (md : Region.Mode) (ops : Array Oper) (listed : Array Bool) (j : Nat) : Prop :=
  ∀ o, ops[j]? = some o → ∀ e ∈ o.after, Region.binds md e = true → listed.getD e.on false = true
def Down (md : Region.Mode) (ops : Array Oper) (listed : Array Bool) : Prop := ∀ j, listed.getD j false = true → Waited md ops listed j

/-- Whether the masks are right: what an operation waits for, it waits for itself, or by another one, ahead of it. -/
def maskB (md : Region.Mode) (ops : Array Oper) (m : Array Nat) : Bool :=
  (List.range ops.size).all fun j => (List.range ops.size).all fun i => !(m.getD j 0).testBit i ||
    ((ops[j]?).map fun o => o.after.toList.any fun e => Region.binds md e && decide (e.on < j) && (e.on == i || (m.getD e.on 0).testBit i)).getD false

theorem mask_spec {m : Array Nat} (hm : maskB md ops m = true) {listed : Array Bool} (hd : Down md ops listed) {i : Nat} (hi : i < ops.size) : ∀ (j : Nat), j < ops.size → Waited md ops listed j → (m.getD j 0).testBit i = true → listed.getD i false = true := by
  intro j
  induction j using Nat.strongRecOn with
  | _ j ih =>
    intro hj hw ht
    have h1 := List.all_eq_true.1 hm j (by simpa using hj)
    have h2 := List.all_eq_true.1 h1 i (by simpa using hi)
    simp only [ht, Bool.not_true, Bool.false_or] at h2
    cases ho : ops[j]? with
    | none => rw [ho] at h2; cases h2
    | some o =>
      rw [ho] at h2
      simp only [Option.map_some, Option.getD_some, List.any_eq_true] at h2
      obtain ⟨e, he, h3⟩ := h2
      simp only [Bool.and_eq_true, decide_eq_true_eq, Bool.or_eq_true, beq_iff_eq] at h3
      obtain ⟨⟨hb, hlt⟩, h3⟩ := h3
      have hl := hw o ho e (Array.mem_toList_iff.1 he) hb
      rcases h3 with h3 | h3
      · rw [← h3]; exact hl
      · exact ih e.on hlt (by omega) (hd _ hl) h3

theorem getD_conv {listed : Array Bool} {j n : Nat} (hs : listed.size = n) (hj : j < n) (d e : Bool) : listed.getD j d = listed.getD j e := by
  have : j < listed.size := by omega
  simp [Array.getD, this]

theorem down_set {listed : Array Bool} (hd : Down md ops listed) {j : Nat} (hw : Waited md ops listed j) : Down md ops (listed.setIfInBounds j true) := by
  intro k hk o ho e he hb
  by_cases hkj : k = j
  · subst hkj
    exact getD_set_true (hw o ho e he hb)
  · rw [getD_set_ne false (Ne.symm hkj)] at hk
    exact getD_set_true (hd k hk o ho e he hb)

/-- Whatever order is picked from here on; what is no effect leaves the world. -/
def wpAnyS (P : Program) (md : Region.Mode) (ops : Array Oper) (Q : Exit → Act → World → Prop) (eff : Nat → Bool) : Nat → Array Bool → Act → World → Prop
  | 0, listed, a, w => Region.ready md ops listed = [] ∧ Q .normal a w
  | fuel + 1, listed, a, w =>
    (Region.ready md ops listed = [] → Q .normal a w) ∧
    ∀ i ∈ Region.ready md ops listed, wpOp P ops Q i (fun a' w' => (eff i = false → w' = w) ∧ wpAnyS P md ops Q eff fuel (listed.setIfInBounds i true) a' w') a w

theorem wpAny_of_S {eff : Nat → Bool} : ∀ (fuel : Nat) (listed : Array Bool) (a : Act) (w : World), wpAnyS P md ops Q eff fuel listed a w → wpAny P md ops Q fuel listed a w
  | 0, _, _, _, h => h
  | fuel + 1, _, _, _, h => ⟨h.1, fun i hi => wpOp_mono (fun a' w' h' => wpAny_of_S fuel _ a' w' h'.2) (h.2 i hi)⟩

theorem wpAnyS_first {eff : Nat → Bool} {i : Nat} {oi : Oper} {v : Value} (hi : ops[i]? = some oi) (hsel : ∀ (j : Nat) (o : Oper) cs b, ops[j]? = some o → o.op ≠ .select cs b)
    (hQ : ∀ c a w, Q (.panic c) (a.put oi.dst v) w → Q (.panic c) a w) {m : Array Nat} (hm : maskB md ops m = true) (hei : eff i = false) (w : World) :
    ∀ (fuel : Nat) (listed : Array Bool) (a : Act),
      listed.size = ops.size → Down md ops listed →
      (∀ j, j < ops.size → eff j = true → listed.getD j true = false → (m.getD j 0).testBit i = true) →
      (∀ j oj, ops[j]? = some oj → j ≠ i → listed.getD j true = false → (∀ e ∈ oj.after, Region.binds md e = true → e.on ≠ i) → oi.apart ops oj = true) →
      i ∈ Region.ready md ops listed → YieldsIf P ops (fun w' => w' = w) oi v a →
      wpAnyS P md ops Q eff fuel (listed.setIfInBounds i true) (a.put oi.dst v) w → wpAnyS P md ops Q eff (fuel + 1) listed a w := by
  intro fuel
  have hilt : i < ops.size := (Array.getElem?_eq_some_iff.1 hi).1
  induction fuel with
  | zero =>
    intro listed a _ _ _ _ hr hy H
    refine ⟨fun h => (by rw [h] at hr; cases hr), fun j hj => ?_⟩
    by_cases hji : j = i
    · subst hji
      exact hy.wpOp hi rfl ⟨fun _ => rfl, H⟩
    · have := ready_mono hj hji
      rw [H.1] at this
      cases this
  | succ fuel ih =>
    intro listed a hsz hdown hmask hfree hr hy H
    refine ⟨fun h => (by rw [h] at hr; cases hr), fun j hj => ?_⟩
    by_cases hji : j = i
    · subst hji
      exact hy.wpOp hi rfl ⟨fun _ => rfl, H⟩
    · have h1 := H.2 j (ready_mono hj hji)
      obtain ⟨hjun, oj, hoj, hall⟩ := mem_ready.1 hj
      have hjlt : j < ops.size := (Array.getElem?_eq_some_iff.1 hoj).1
      have hiun : listed.getD i false = false := by rw [getD_conv hsz hilt false true]; exact (mem_ready.1 hr).1
      have hwj : Waited md ops listed j := fun o ho e he hb => by
        rw [hoj] at ho
        cases ho
        exact hall e he hb
      have hnj : eff j = false := by
        cases he : eff j with
        | false => rfl
        | true =>
          have := mask_spec hm hdown hilt j hjlt hwj (hmask j hjlt he hjun)
          rw [this] at hiun
          cases hiun
      have hnot : ∀ e ∈ oj.after, Region.binds md e = true → e.on ≠ i := fun e he hb heq => by
        have h2 := hall e he hb
        rw [heq, hiun] at h2
        cases h2
      have h2 := wpOp_putIf hoj (hfree j oj hoj hji hjun hnot) (fun cs b => hsel i oi cs b hi) (fun cs b => hsel j oj cs b hoj) hQ hy h1
      have hmask' : ∀ k, k < ops.size → eff k = true → (listed.setIfInBounds j true).getD k true = false → (m.getD k 0).testBit i = true := fun k hk he hun => by
        refine hmask k hk he ?_
        by_cases hjk : j = k
        · subst hjk; exact hjun
        · rw [getD_set_ne true hjk] at hun; exact hun
      have hfree' : ∀ k ok, ops[k]? = some ok → k ≠ i → (listed.setIfInBounds j true).getD k true = false →
          (∀ e ∈ ok.after, Region.binds md e = true → e.on ≠ i) → oi.apart ops ok = true := fun k ok hk hki hun hno => by
        refine hfree k ok hk hki ?_ hno
        by_cases hjk : j = k
        · subst hjk; exact hjun
        · rw [getD_set_ne true hjk] at hun; exact hun
      refine wpOp_mono (fun a' w' h3 => ⟨h3.2.1, ?_⟩) h2
      obtain ⟨h4, h5, h6⟩ := h3
      have hww := h5 hnj
      subst hww
      refine ih (listed.setIfInBounds j true) a' (by simpa using hsz) (down_set hdown hwj) hmask' hfree' (ready_mono hr (Ne.symm hji)) h4 ?_
      rw [Array.setIfInBounds_comm _ _ hji]
      exact h6

theorem reads_spec {o : Oper} {a : Act} {w : World} {K : Act → World → Prop} (hv : valueOp o = true) (h : o.wp P a w (Reads w K .normal) (Reads w K) ∨ (o.asks P a w ∧ LetsOut (Reads w K))) :
    ∃ v, (execOp a.eval o).run P w = .ok (.value v) w ∧ K (a.put o.dst v) w := by
  have nolet : ¬ LetsOut (Reads w K) := by
    rintro ⟨a0, w0, hb⟩
    exact absurd hb.normal (by simp)
  rcases h with h | ⟨_, h⟩
  · obtain ⟨s, hs⟩ := valueOp_spec hv a.eval
    unfold Oper.wp at h
    rw [hs, run_bind_value] at h ⊢
    cases hr : s.run P w with
    | ok x w' =>
      rw [hr] at h
      simp only [Result.andThen_ok, Oper.upon] at h
      obtain ⟨_, h2, h3⟩ := h
      subst h2
      exact ⟨x, rfl, h3⟩
    | halt x w' =>
      rw [hr] at h
      cases x <;> simp only [Result.andThen, Oper.upon] at h
      exact absurd h.normal (by simp)
  · exact absurd h nolet

/-- Whether the list may serve. -/
def seqB (md : Region.Mode) (ops : Array Oper) (m : Array Nat) (eff : Nat → Bool) : List (Nat × Bool) → Array Bool → Bool
  | [], listed => (Region.ready md ops listed).isEmpty
  | (i, true) :: rest, listed => (Region.ready md ops listed).contains i && Region.free md ops listed i && !eff i && ((List.range ops.size).all fun j => !eff j || listed.getD j true || (m.getD j 0).testBit i) && seqB md ops m eff rest (listed.setIfInBounds i true)
  | (i, false) :: rest, listed => decide (Region.ready md ops listed = [i]) && eff i && seqB md ops m eff rest (listed.setIfInBounds i true)

theorem wpAnyS_of_seq {m : Array Nat} {eff : Nat → Bool} (hs : Region.noSelect ops = true) (hm : maskB md ops m = true) (hQ : ∀ c d v a w, Q (.panic c) (Act.put a d v) w → Q (.panic c) a w) : ∀ (l : List (Nat × Bool)) (listed : Array Bool) (a : Act) (w : World), listed.size = ops.size → Down md ops listed → seqB md ops m eff l listed = true → wpSeq P ops Q l a w → wpAnyS P md ops Q eff l.length listed a w
  | [], listed, a, w, _, _, hB, h => ⟨by simpa [seqB] using hB, h⟩
  | (i, true) :: rest, listed, a, w, hsz, hd, hB, h => by
    simp only [seqB, Bool.and_eq_true] at hB
    obtain ⟨⟨⟨⟨hr, hf⟩, he⟩, hk⟩, hB⟩ := hB
    simp only [wpSeq] at h
    have hr' : i ∈ Region.ready md ops listed := by simpa using hr
    have hd' : Down md ops (listed.setIfInBounds i true) := by
      obtain ⟨_, o, ho, hall⟩ := mem_ready.1 hr'
      refine down_set hd (fun o' ho' e he hb => ?_)
      rw [ho] at ho'
      cases ho'
      exact hall e he hb
    have hmask : ∀ j, j < ops.size → eff j = true → listed.getD j true = false → (m.getD j 0).testBit i = true := fun j hj hej hun => by
      have := List.all_eq_true.1 hk j (by simpa using hj)
      rw [hej, hun] at this
      simpa using this
    cases ho : ops[i]? with
    | none => rw [ho] at h; exact h.elim
    | some o =>
      rw [ho] at h
      obtain ⟨hv, h⟩ := h
      simp only [wpList] at h
      by_cases hw : Region.wanted o (yielded ops a.tmps) = true
      · rw [if_pos hw] at h
        obtain ⟨v, h1, h2⟩ := reads_spec hv h
        exact wpAnyS_first ho (Region.noSelect_spec hs) (fun c a w => hQ c _ _ a w) hm (by simpa using he) w _ listed a hsz hd hmask (Region.free_spec ho hf) hr' (.inl ⟨hw, fun _ hww => by subst hww; exact h1⟩) (wpAnyS_of_seq hs hm hQ rest _ _ w (by simpa using hsz) hd' hB h2)
      · rw [if_neg hw] at h
        replace h := h.next
        exact wpAnyS_first (v := undef) ho (Region.noSelect_spec hs) (fun c a w => hQ c _ _ a w) hm (by simpa using he) w _ listed a hsz hd hmask (Region.free_spec ho hf) hr' (.inr ⟨by simpa using hw, rfl⟩) (wpAnyS_of_seq hs hm hQ rest _ _ w (by simpa using hsz) hd' hB h)
  | (i, false) :: rest, listed, a, w, hsz, hd, hB, h => by
    simp only [seqB, Bool.and_eq_true, decide_eq_true_eq] at hB
    obtain ⟨⟨hr, he⟩, hB⟩ := hB
    simp only [wpSeq] at h
    have hr' : i ∈ Region.ready md ops listed := by rw [hr]; simp
    have hd' : Down md ops (listed.setIfInBounds i true) := by
      obtain ⟨_, o, ho, hall⟩ := mem_ready.1 hr'
      refine down_set hd (fun o' ho' e he hb => ?_)
      rw [ho] at ho'
      cases ho'
      exact hall e he hb
    cases ho : ops[i]? with
    | none => rw [ho] at h; exact h.elim
    | some o =>
      rw [ho] at h
      simp only [wpList] at h
      refine ⟨fun h0 => absurd (hr ▸ h0) (by simp), fun j hj => ?_⟩
      obtain rfl : j = i := by rw [hr] at hj; simpa using hj
      have nolet : ¬ LetsOut (Behind (fun _ => True) (wpSeq P ops Q rest)) := by
        rintro ⟨a0, w0, hb⟩
        exact absurd hb.normal (by simp)
      unfold wpOp
      simp only [ho]
      by_cases hw : Region.wanted o (yielded ops a.tmps) = true
      · rw [if_pos hw] at h ⊢
        rcases h with h | ⟨_, h⟩
        · refine .inl (upon_mono (fun a' w' hb => ⟨fun h0 => (by rw [he] at h0; cases h0), wpAnyS_of_seq hs hm hQ rest _ a' w' (by simpa using hsz) hd' hB hb.next⟩) (fun c a' w' hb => ?_) nolet h)
          exact absurd hb.normal (by simp)
        · exact absurd h nolet
      · rw [if_neg hw] at h ⊢
        exact ⟨fun h0 => (by rw [he] at h0; cases h0), wpAnyS_of_seq hs hm hQ rest _ _ w (by simpa using hsz) hd' hB h.next⟩

def effOf (l : List (Nat × Bool)) (j : Nat) : Bool := l.any fun p => p.1 == j && !p.2
/-- THE REGION. -/
theorem wp_region_seq {id : Nat} {a : Act} {w : World} (order : List (Nat × Bool)) (hm : P.follows .mixedOrders = true) (hB : (Region.noSelect ops && (order.length == ops.size) && maskB .any ops (Region.before ops) && seqB .any ops (Region.before ops) (effOf order) order (Array.replicate ops.size false)) = true)
    (hQ : ∀ c d v a w, Q (.panic c) (Act.put a d v) w → Q (.panic c) a w)
    (h : wpSeq P ops Q order a w.drew) : (Code.region id ops true).wp P Q a w := by
  simp only [Bool.and_eq_true, beq_iff_eq] at hB
  have hd : Down .any ops (Array.replicate ops.size false) := fun j hj => by
    simp only [Array.getD_eq_getD_getElem?, Array.getElem?_replicate] at hj
    split at hj <;> simp at hj
  have h1 := wpAnyS_of_seq (md := .any) (m := Region.before ops) (eff := effOf order) hB.1.1.1 hB.1.2 hQ order (Array.replicate ops.size false) a w.drew (by simp) hd hB.2 h
  rw [hB.1.1.2] at h1
  exact wp_region_any hm (wpAny_of_S _ _ _ _ h1)

theorem seq_read {i : Nat} {o : Oper} {rest : List (Nat × Bool)} {a : Act} {w : World} (ho : ops[i]? = some o) (hv : valueOp o = true) (h : wpList P ops (Reads w (wpSeq P ops Q rest)) [o] a w) : wpSeq P ops Q ((i, true) :: rest) a w := by
  simp only [wpSeq, ho]
  exact ⟨hv, h⟩
theorem seq_does {i : Nat} {o : Oper} {rest : List (Nat × Bool)} {a : Act} {w : World} (ho : ops[i]? = some o) (h : wpList P ops (Behind (fun _ => True) (wpSeq P ops Q rest)) [o] a w) : wpSeq P ops Q ((i, false) :: rest) a w := by
  simp only [wpSeq, ho]
  exact h
theorem seq_nil {a : Act} {w : World} (h : Q .normal a w) : wpSeq P ops Q [] a w := h
theorem behind_seq {K : Act → World → Prop} {a : Act} {w : World} (h : K a w) : Behind (fun _ => True) K .normal a w := ⟨rfl, trivial, h⟩
end
end Go.Mix
end

/-
  A run of a closed call: regions that draw their order, looked at once in an order of their own. Plain definitions; no program in sight.
-/
section
namespace Go.Eva
open Go Go.RowKit Go.Mix Go.Viv

mutual
def veq : Value → Value → Bool
  | .bool a, .bool b => a == b
  | .int k a, .int j b => k == j && a == b
  | .string a, .string b => a.data.toList == b.data.toList
  | .pointer none, .pointer none => true
  | .pointer (some ⟨a, o, none⟩), .pointer (some ⟨b, p, none⟩) => Nat.beq a b && Nat.beq o p
  | .slice none a b, .slice none c d => Nat.beq a c && Nat.beq b d
  | .slice (some ⟨a, o, none⟩) n c, .slice (some ⟨b, p, none⟩) m d => Nat.beq a b && Nat.beq o p && Nat.beq n m && Nat.beq c d
  | .map none, .map none => true
  | .map (some a), .map (some b) => Nat.beq a b
  | .func (.func f) ⟨a⟩ ⟨b⟩, .func (.func g) ⟨c⟩ ⟨d⟩ => Nat.beq f g && veqL a c && veqL b d
  | .nilFunc, .nilFunc => true
  | .iface t v, .iface u w => Nat.beq t u && veq v w
  | .nilIface, .nilIface => true
  | .agg ⟨a⟩, .agg ⟨b⟩ => veqL a b
  | .tuple ⟨a⟩, .tuple ⟨b⟩ => veqL a b
  | _, _ => false
def veqL : List Value → List Value → Bool
  | [], [] => true
  | a :: l, b :: k => veq a b && veqL l k
  | _, _ => false
end
def oeq : AObj → AObj → Bool
  | .cells a e r, .cells b f s => veqL a b && Nat.beq e f && r == s
  | .map [] 0, .map [] 0 => true
  | _, _ => false

/-- A number's bit. -/
def bit (m : Nat) (i : Nat) : Bool := m.testBit i
def bef (m : Array Nat) (i j : Nat) : Bool := (m.getD i 0).testBit j
def within (a b : Nat) : Bool := Nat.beq (a &&& b) a

/-! ### What is asked of the region once -/
def looksB (ops : Array Oper) (m : Array Nat) : Bool :=
  (List.range ops.size).all fun i => ((ops[i]?).map fun o => (o.looksAt ops).all fun t => (List.range ops.size).all fun j =>
    Nat.beq i j || ((ops[j]?).map fun q => q.dst != some t || bef m i j || bef m j i).getD true).getD true
def dstsB (ops : Array Oper) : Bool :=
  (List.range ops.size).all fun i => (List.range ops.size).all fun j => Nat.beq i j || ((ops[i]?).map fun o => ((ops[j]?).map fun q => o.dst.isNone || o.dst != q.dst).getD true).getD true
def topoB (ops : Array Oper) : Bool :=
  (List.range ops.size).all fun i => ((ops[i]?).map fun o => o.after.all fun e => !Region.binds .any e || Nat.blt e.on i).getD true
def statB (ops : Array Oper) : Bool :=
  maskB .any ops (Region.before ops) && looksB ops (Region.before ops) && dstsB ops && topoB ops

/-! ### The order: what is no effect as soon as it may come -/
def isEff (o : Op) : Bool := match kind o with
  | .eff => true
  | _ => false
def pickB (ops : List Oper) (m : Array Nat) (done : Nat) (eff : Bool) : List Nat → Option (Nat × List Nat)
  | [] => none
  | i :: l => match within (m.getD i 0) done && (((ops[i]?).map fun o => isEff o.op).getD false == eff) with
    | true => some (i, l)
    | false => (pickB ops m done eff l).map fun (j, r) => (j, i :: r)
def ordB : Nat → List Oper → Array Nat → Nat → List Nat → List Nat
  | 0, _, _, _, _ => []
  | f + 1, ops, m, done, todo => match pickB ops m done false todo with
    | some (i, r) => i :: ordB f ops m (done ||| 2 ^ i) r
    | none => match pickB ops m done true todo with
      | some (i, r) => i :: ordB f ops m (done ||| 2 ^ i) r
      | none => []
def orderOf (ops : Array Oper) : List Nat := ordB ops.size ops.toList (Region.before ops) 0 (List.range ops.size)

structure Ent where
  i : Nat
  o : Op
  T : Tr Value
  v : Value
section
variable (P : Program) (sy : Sy) (G n : Nat) (call : CallB) (ops : List Oper) (m : Array Nat) (base : Nat)
def again (t : Tr AObj) (x : Ent) : Bool := match kind x.o with
  | .quiet => match evQ P sy (evl G x.T) t x.o with
    | some v => veq v x.v
    | none => false
  | .alloc => match evA P (evl G x.T) (base + x.i) x.o, t.at_ (base + x.i) with
    | some (_, ob), some ob' => oeq ob ob'
    | _, _ => false
  | .eff => false
def allAgain (e : Nat) (t : Tr AObj) : List Ent → Bool
  | [] => true
  | x :: l => match bef m e x.i || again P sy G base t x with
    | true => allAgain e t l
    | false => false
def dRun : List Nat → Tr Value → Hp → Nat → Nat → List Ent → Option (Tr Value × Hp × Nat)
  | [], T, h, done, _, _ => some (T, h, done)
  | i :: rest, T, h, done, effs, ents => match ops[i]?, within (m.getD i 0) done && !bit done i with
    | some o, true => match wantedB ops T o with
      | some false => match putT n T o.dst undef with
        | some T' => dRun rest T' h (done ||| 2 ^ i) effs ents
        | none => none
      | some true => match kind o.op, within effs (m.getD i 0) with
        | .quiet, true => match evQ P sy (evl G T) h.t o.op with
          | some v => match putT n T o.dst v with
            | some T' => dRun rest T' h (done ||| 2 ^ i) effs (⟨i, o.op, T, v⟩ :: ents)
            | none => none
          | none => none
        | .alloc, true => match evA P (evl G T) (base + i) o.op, h.t.at_ (base + i) with
          | some (v, ob), none => match putT n T o.dst v with
            | some T' => dRun rest T' ⟨h.t.set (base + i) (some ob), h.next⟩ (done ||| 2 ^ i) effs (⟨i, o.op, T, v⟩ :: ents)
            | none => none
          | _, _ => none
        | .eff, true => match evE P call (evl G T) h o.op with
          | some (v, h') => match allAgain P sy G m base i h'.t ents with
            | true => match putT n T o.dst v with
              | some T' => dRun rest T' h' (done ||| 2 ^ i) (effs ||| 2 ^ i) ents
              | none => none
            | false => none
          | none => none
        | _, _ => none
      | none => none
    | _, _ => none
end
def evD (P : Program) (sy : Sy) (G n : Nat) (call : CallB) (ops : Array Oper) (T : Tr Value) (h : Hp) : Option (Tr Value × Hp) :=
  match statB ops with
  | true => match dRun P sy G n call ops.toList (Region.before ops) h.next (orderOf ops) T ⟨h.t, h.next + ops.size⟩ 0 0 [] with
    | some (T', h', done) => match Nat.beq done (2 ^ ops.size - 1) with
      | true => some (T', h')
      | false => none
    | none => none
  | false => none
/-- The run of a call. -/
def ev (P : Program) (sy : Sy) (tb : Tb) (G k f : Nat) : CallB := evF P sy tb G (fun G n call => evD P sy G n call) k f
end Go.Eva
end

/-
  A run of a closed call: what makes memory, and what writes, is as the tree says. No program in sight.
-/
section
namespace Go.Eva
open Go Go.RowKit Go.Mix Go.Viv

section
variable {P : Program} {G : Nat} {W0 : Begin} {ν : Toks} {φ : Phi} {s : Hp} {w : World}

/-! ### Frames -/
/-- A frame of the tree stands for one of the machine. -/
structure Ar (ν : Toks) (φ : Phi) (n : Nat) (T : Tr Value) (a : Act) : Prop where
  size : a.tmps.size = n
  tmps : ∀ t, VR ν φ (look T t) (a.tmps.getD t undef)
  defers : a.defers = []
theorem Ar.ext {φ' : Phi} {n : Nat} {T : Tr Value} {a : Act} (h : Ar ν φ n T a) (hx : ∀ B r, φ B = some r → φ' B = some r) : Ar ν φ' n T a :=
  ⟨h.size, fun t => (h.tmps t).ext hx, h.defers⟩
theorem look_set_same (T : Tr Value) (d : Nat) (v : Value) : look (T.set d (some v)) d = v := by simp [look, Tr.at_set_same]
theorem look_set_ne (T : Tr Value) {d t : Nat} (v : Value) (h : d ≠ t) : look (T.set d (some v)) t = look T t := by simp [look, Tr.at_set_ne _ _ h]
theorem Ar.put {n : Nat} {T T' : Tr Value} {a : Act} (h : Ar ν φ n T a) {d : Option Tmp} {v v' : Value} (hv : VR ν φ v v') (hp : putT n T d v = some T') : Ar ν φ n T' (a.put d v') := by
  cases d with
  | none => simp only [putT, Option.some.injEq] at hp; subst hp; exact h
  | some d =>
    simp only [putT] at hp
    cases hb : Nat.blt d n with
    | false => rw [hb] at hp; cases hp
    | true =>
      rw [hb] at hp
      simp only [Option.some.injEq] at hp
      subst hp
      have hd := blt_iff hb
      refine ⟨by simp [Act.put, h.size], fun t => ?_, h.defers⟩
      simp only [Act.put]
      by_cases e : d = t
      · subst e
        rw [look_set_same]
        simp [Array.getD_eq_getD_getElem?, h.size, hd]
        exact hv
      · rw [look_set_ne _ _ e]
        have := h.tmps t
        rw [Array.getD_eq_getD_getElem?] at this ⊢
        rwa [Array.getElem?_setIfInBounds_ne e]
theorem evl_sound (hR : Rw P G W0 ν φ s w) {n : Nat} {T : Tr Value} {a : Act} (h : Ar ν φ n T a) (x : Operand) : VR ν φ (evl G T x) (a.eval x) := by
  cases x with
  | tmp t => exact h.tmps t
  | const v =>
    simp only [evl, Act.eval]
    cases hp : plainV v with
    | true => exact VR.refl v hp
    | false => exact .bad v
  | global g =>
    simp only [evl, Act.eval]
    cases hb : Nat.blt g G with
    | true =>
      obtain ⟨r, h1, h2⟩ := hR.glob g (blt_iff hb)
      have := VR.ptr (ν := ν) (o := 0) h1
      rw [h2] at this
      exact this
    | false => exact .bad _
  | func f => exact .func _ .nil .nil
theorem wanted_at {T : Tr Value} {a : Act} {ops : Array Oper} {o : Oper} {b : Bool} (h : ∀ j want t, o.guard = some (j, want) → (ops[j]?).bind (·.dst) = some t → VR ν φ (look T t) (a.tmps.getD t undef)) (hw : wantedB ops.toList T o = some b) : Region.wanted o (yielded ops a.tmps) = b := by
  unfold wantedB at hw
  unfold Region.wanted
  cases hg : o.guard with
  | none => rw [hg] at hw; simp at hw; rw [hw]
  | some jw =>
    obtain ⟨j, want⟩ := jw
    rw [hg] at hw
    simp only at hw ⊢
    unfold yielded
    rw [Array.getElem?_toList] at hw
    cases hd : (ops[j]?).bind (·.dst) with
    | none => rw [hd] at hw; simp at hw; subst hw; simp
    | some t =>
      rw [hd] at hw
      simp only [Option.bind_some] at hw ⊢
      have ht := h j want t hg hd
      rw [Array.getD_eq_getD_getElem?] at ht
      cases hl : look T t <;> rw [hl] at hw ht <;> try (cases hw; done)
      case bool c =>
        cases ht' : a.tmps[t]? with
        | none => rw [ht'] at ht; cases ht
        | some u => simp only [Option.some.injEq] at hw; rw [ht'] at ht; simp at ht; cases ht; simp [hw]
      case tuple l =>
        obtain ⟨l⟩ := l
        cases l <;> simp only at hw <;> cases hw
        cases ht' : a.tmps[t]? with
        | none => simp
        | some u => rw [ht'] at ht; simp at ht; cases ht; rename_i hl2; cases hl2; simp

theorem wanted_sound {n : Nat} {T : Tr Value} {a : Act} (h : Ar ν φ n T a) {ops : Array Oper} {o : Oper} {b : Bool} (hw : wantedB ops.toList T o = some b) : Region.wanted o (yielded ops a.tmps) = b :=
  wanted_at (fun _ _ t _ _ => h.tmps t) hw

/-! ### New blocks -/
theorem run_newRow (e : TypeId) (cs : Array Value) : (newRow e cs).run P w = .ok ⟨w.heap.size, 0, none⟩ (w.alloc (.cells cs e)) := rfl
theorem born_cells (hR : Rw P G W0 ν φ s w) {B : Nat} (hB : φ B = none) (hlt : B < s.next) (hG : G ≤ B) {c : List Value} {e : TypeId} {cs : Array Value} {es : Nat} (ho : s.t.at_ B = some (.cells c e true))
    (he : sizeB P e = some es) (hc : VRs ν φ c (cs.toList.take c.length)) : Rw P G W0 ν (φ.add B ⟨w.heap.size, cs.size, es⟩) s (w.alloc (.cells cs e)) :=
  hR.born hB hlt hG rfl ho _ (.cells (heap_alloc_new w _) rfl (fun _ => ⟨rfl, he, .inr hR.frame.size, rfl⟩) (hc.ext (φ.add_up _ hB)))
theorem take_all {ν : Toks} {φ : Phi} {c c' : List Value} (h : VRs ν φ c c') : VRs ν φ c (c'.take c.length) := by
  rw [← h.length, List.take_length]; exact h
theorem alloc_sound (hR : Rw P G W0 ν φ s w) {B : Nat} (hB : φ B = none) (hlt : B < s.next) (hG : G ≤ B) {ρ ρ' : Operand → Value} (hρ : ∀ x, VR ν φ (ρ x) (ρ' x)) {o : Oper} {v : Value} {ob : AObj}
    (ho : s.t.at_ B = some ob) (h : evA P ρ B o.op = some (v, ob)) :
    ∃ v' w' r, (execOp ρ' o).run P w = .ok (.value v') w' ∧ VR ν (φ.add B r) v v' ∧ Rw P G W0 ν (φ.add B r) s w' := by
  cases hop : o.op <;> rw [hop] at h <;> simp only [evA] at h <;> try cases h
  case alloc e =>
    split at h <;> try cases h
    rename_i z es hz he
    obtain ⟨h1, h2⟩ := plainZero_spec (ν := ν) (φ := φ) hz
    obtain ⟨zv, h3, h4⟩ := run_zero (w := w) h1
    refine ⟨_, _, _, ?_, .ptr (Phi.add_same _ _ _), born_cells hR hB hlt hG ho he (cs := zv.cells) (take_all (by rw [h4]; exact h2))⟩
    simp [execOp, hop, Instr.alloc, h3, newVar, run_newRow]
  case box e x =>
    split at h <;> try cases h
    rename_i es he
    split at h <;> try cases h
    rename_i hone
    have hc := (hρ x).cells hone
    refine ⟨_, _, _, ?_, .ptr (Phi.add_same _ _ _), born_cells hR hB hlt hG ho he (cs := (ρ' x).cells) (take_all hc)⟩
    simp [execOp, hop, Instr.box, newVar, run_newRow]
  case makeMap t r =>
    cases r <;> simp only at h <;> cases h
    refine ⟨_, _, ⟨w.heap.size, 0, 0⟩, ?_, .map (Phi.add_same _ _ _), hR.born hB hlt hG rfl ho (.map #[] 0) (.map (heap_alloc_new w _) (.inr hR.frame.size) .nil)⟩
    simp [execOp, hop, Instr.makeMap, newObj, Sem.run]
  case makeSlice t l c =>
    split at h <;> try cases h
    rename_i e n cap hu hl hc
    split at h <;> try cases h
    rename_i z es hb hz he
    split at h <;> try cases h
    rename_i hb2
    simp only [Bool.and_eq_true] at hb hb2
    obtain ⟨⟨hb1, hb3⟩, hb4⟩ := hb
    have g1 := ble_iff hb1
    have g2 := ble_iff hb3
    have g3 := ble_iff hb4
    have g4 := beq_iff hb2.1
    have g5 := ble_iff hb2.2
    obtain ⟨h1, h2⟩ := plainZero_spec (ν := ν) (φ := φ) hz
    obtain ⟨zv, h3, h4⟩ := run_zero (w := w) h1
    have hl' : ρ' l = .int .i64 n := by have := hρ l; rw [hl] at this; exact this.int_
    have hc' : ρ' c = .int .i64 cap := by have := hρ c; rw [hc] at this; exact this.int_
    cases hi : P.info? e with
    | none => simp [sizeB, hi] at he
    | some ie =>
      rw [hi] at g3
      simp only [Option.map_some, Option.getD_some] at g3
      have hzs : zv.cells.size = es := by rw [← g4, ← h4]; simp
      have hes : ie.size = es := by simpa [sizeB, hi] using he
      have hwn : IntKind.i64.wrap (n : Int) = n := by rw [IntKind.wrap_i64]; omega
      have hwc : IntKind.i64.wrap (cap : Int) = cap := by rw [IntKind.wrap_i64]; omega
      have hbm : ie.bytes * cap ≤ 1000000 * 1000000 := Nat.mul_le_mul g3 g2
      have hbm' : cap * ie.bytes ≤ 1000000 * 1000000 := Nat.mul_le_mul g2 g3
      have hbig : ¬ (281474976710656 < (ie.bytes : Int) * (cap : Int)) := by
        have : ((ie.bytes * cap : Nat) : Int) ≤ ((1000000000000 : Nat) : Int) := Int.ofNat_le.2 (by omega)
        rw [Int.natCast_mul] at this
        omega
      have hrun : (Instr.makeSlice t (.int .i64 n) (.int .i64 cap)).run P w = .ok (.slice (some ⟨w.heap.size, 0, none⟩) n cap) (w.alloc (.cells ((Array.range (cap * es)).map (zv.cells[· % zv.cells.size]!)) e)) := by
        have hcc : ¬ ((cap : Int) < 0) := by omega
        have hnn : ¬ ((n : Int) < 0) := by omega
        have hcn : ¬ (cap < n) := by omega
        by_cases hc0 : cap * es = 0
        · simp [Instr.makeSlice, run_underlying hu, asInt, asIntOf, typeInfo, hi, hwn, hwc, hbig, hcc, hnn, hcn, askRoom, roomBytes, sizeOf, hes, hc0, run_newRow]
          have : Array.range 0 = #[] := rfl
          simp [this]
        · simp [Instr.makeSlice, run_underlying hu, asInt, asIntOf, typeInfo, hi, hwn, hwc, hbig, hcc, hnn, hcn, askRoom, roomBytes, sizeOf, hes, hc0, h3, run_newRow]
      refine ⟨_, _, _, ?_, .slk (Phi.add_same _ _ _) g1, born_cells hR hB hlt hG ho he (cs := (Array.range (cap * es)).map (zv.cells[· % zv.cells.size]!)) (take_all ?_)⟩
      · simp [execOp, hop, hl', hc', hrun]
      · rw [← hzs, rep_range, h4]; exact rep_all h2 _
  case buildSlice t len parts =>
    split at h <;> try cases h
    rename_i e hu
    split at h <;> try cases h
    rename_i z es hz he
    split at h <;> try cases h
    rename_i hb
    simp only [Bool.and_eq_true] at hb
    have g1 := beq_iff hb.1.1
    have g2 := ble_iff hb.1.2
    have g3 := ble_iff hb.2
    split at h <;> try cases h
    rename_i l hf
    obtain ⟨h1, h2⟩ := plainZero_spec (ν := ν) (φ := φ) hz
    obtain ⟨zv, h3, h4⟩ := run_zero (w := w) h1
    have hzs : zv.cells.size = es := by rw [← g1, ← h4]; simp
    obtain ⟨l', h5, h6⟩ := fill_sound (rep_all h2 len) (parts_map (ρ := ρ) (ρ' := ρ') parts.toList fun x _ => hρ x) hf
    have hrun : (Instr.buildSlice t len (parts.map fun (i, x) => (i, ρ' x))).run P w = .ok (.slice (some ⟨w.heap.size, 0, none⟩) len len) (w.alloc (.cells ⟨l'⟩ e)) := by
      have hbig : ¬ (16777216 < len * es) := by omega
      have hpm : (parts.map fun (i, x) => (i, ρ' x)).toList = parts.toList.map fun (i, x) => (i, ρ' x) := by simp
      have hrep : (Array.range (len * es)).map (zv.cells[· % zv.cells.size]!) = ⟨rep z len⟩ := by
        apply Array.ext'
        rw [← hzs, rep_range, h4]
      by_cases hc0 : len * es = 0
      · have hl0 : len = 0 := by
          rcases Nat.mul_eq_zero.1 hc0 with h | h
          · exact h
          · omega
        subst hl0
        simp only [Instr.buildSlice, Sem.run_bind, run_underlying hu, Result.andThen_ok, run_size (w := w) he, hpm]
        have h5' : Instr.fill (fun i => some (i * es, es)) #[] (parts.toList.map fun (i, x) => (i, ρ' x)) = some ⟨l'⟩ := h5
        have hr0 : Array.range 0 = #[] := rfl
        simp [hr0, h5', run_newRow]
      · simp only [Instr.buildSlice, Sem.run_bind, run_underlying hu, Result.andThen_ok, run_size (w := w) he, hpm]
        simp [hbig, hc0, h3, hrep, h5, run_newRow]
    refine ⟨_, _, _, ?_, .slk (Phi.add_same _ _ _) (Nat.le_refl _), born_cells hR hB hlt hG ho he (cs := ⟨l'⟩) (take_all h6)⟩
    simp [execOp, hop, hrun]
end
end Go.Eva
end
