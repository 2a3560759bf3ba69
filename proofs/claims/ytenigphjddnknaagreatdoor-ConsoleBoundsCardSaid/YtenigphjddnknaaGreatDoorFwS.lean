/-
  Calls that are told by what they answer: of closed values; of a row of texts; and a new row that is handed back. No program in sight.
-/
import Derived.Test.YtenigphjddnknaaGreatDoorFwD
import Derived.Lib.Join
set_option linter.unusedVariables false
namespace Go.Fw
open Go Go.Eva Go.Fv Go.RowKit Go.Mix Go.Viv
noncomputable def pureX (f : List Value → Option Value) : CtX := fun l H n k => oV (f l) fun v => k v H n
def pureB (f : List Value → Option Value) : CtB := fun l h => match f l with
  | some v => some (v, h)
  | none => none
theorem pure_ok (f : List Value → Option Value) : CtOK (pureX f) (pureB f) := fun l H t n k hH h => by
  obtain ⟨v, h1, h2⟩ := oV_of h
  exact ⟨v, ⟨t, n⟩, H, by simp only [pureB, h1], hH, h2⟩
theorem plains {ν : Toks} {φ : Phi} : ∀ {l l' : List Value}, l.all plainV = true → VRs ν φ l l' → l' = l
  | [], _, _, .nil => rfl
  | v :: l, _, h, .cons h1 h2 => by
    simp only [List.all_cons, Bool.and_eq_true] at h
    rw [h1.plain h.1, plains h.2 h2]
theorem pure_tb {P : Program} {G : Nat} {W0 : Begin} {ν : Toks} {tb : Tb} (h : TbOK P G W0 ν tb) {g : FuncId} {f : List Value → Option Value}
    (hf : ∀ l v, f l = some v → l.all plainV = true ∧ plainV v = true ∧ ∀ w, Fr W0.may W0.w w → Calls P g ⟨l⟩ w fun e w' => e = .returned v ∧ Fr (fun _ => False) w w') : TbOK P G W0 ν (tb.set g (some (pureB f))) :=
  TbOK.more h fun args s v h' hc φ w args' hv hR _ => by
    unfold pureB at hc
    cases hfl : f args with
    | none => rw [hfl] at hc; cases hc
    | some u =>
      rw [hfl] at hc
      cases hc
      obtain ⟨h1, h2, h3⟩ := hf _ _ hfl
      rw [plains h1 hv]
      refine (h3 w hR.frame).mono fun e w' hp => ?_
      obtain ⟨rfl, hfr⟩ := hp
      exact ⟨_, rfl, φ, VR.refl _ h2, hR.later hfr, Ext.refl _ _, Nat.le_refl _⟩
/-! ### A row of texts -/
def strsV : List Value → Option (List ByteArray)
  | [] => some []
  | .string x :: l => (strsV l).map (x :: ·)
  | _ => none
theorem strsV_of : ∀ {l : List Value} {xs : List ByteArray}, strsV l = some xs → l = xs.map Value.string
  | [], xs, h => by cases h; rfl
  | v :: l, xs, h => by
    cases v <;> try (cases h; done)
    rename_i x
    have h : (strsV l).map (x :: ·) = some xs := h
    cases hk : strsV l with
    | none => rw [hk] at h; cases h
    | some ys =>
      rw [hk] at h
      cases h
      rw [strsV_of hk, List.map_cons]
/-- The texts of a row, one behind the other, with sep in between. -/
def joinF (ob : AObj) (o n : Nat) (sep : ByteArray) : Option Value := match ob with
  | .cells c _ _ => (match readCells c o n with
    | some l => (match strsV l with
      | some xs => (match Nat.ble n 1000 && Nat.ble (Lib.join (xs.map (·.data.toList)) sep.data.toList).length 1000000 with
        | true => some (.string ⟨(Lib.join (xs.map (·.data.toList)) sep.data.toList).toArray⟩)
        | false => none)
      | none => none)
    | none => none)
  | _ => none
noncomputable def joinX : CtX := fun l H n k => match l with
  | [.slice (some ⟨B, o, none⟩) (m + 1) _, .string sep] => oOw (hget B H) fun ob => oV (joinF ob o (m + 1) sep) fun v => k v H n
  | _ => false
def joinB : CtB := fun l h => match l with
  | [.slice (some ⟨B, o, none⟩) (m + 1) _, .string sep] => (match h.t.at_ B with
    | some ob => (match joinF ob o (m + 1) sep with
      | some v => some (v, h)
      | none => none)
    | none => none)
  | _ => none
theorem join_ok : CtOK joinX joinB := fun l H t n k hH h => by
  unfold joinX at h
  split at h
  · obtain ⟨ob, h1, h2⟩ := oOw_of h
    obtain ⟨v, h3, h4⟩ := oV_of h2
    exact ⟨v, ⟨t, n⟩, H, by simp only [joinB, hH _, h1, h3], hH, h4⟩
  · cases h
theorem strs_mem {ν : Toks} {φ : Phi} : ∀ {xs : List ByteArray} {l' : List Value}, VRs ν φ (xs.map Value.string) l' → l' = xs.map Value.string
  | [], _, .nil => rfl
  | x :: xs, _, .cons h t => by
    rw [strs_mem t]
    cases h
    rfl
theorem join_tb {P : Program} {G : Nat} {W0 : Begin} {ν : Toks} {tb : Tb} (h : TbOK P G W0 ν tb) {g : FuncId}
    (hj : ∀ (bk o c : Nat) (xs : List ByteArray) (sep : ByteArray) (w : World), (∀ (j : Nat) x, xs[j]? = some x → w.cell? ⟨bk, o + j, none⟩ = some (.string x)) → bk < w.heap.size → xs.length ≤ 140737488355328 → xs.length ≤ c → (Lib.join (xs.map (·.data.toList)) sep.data.toList).length ≤ 140737488355328 →
      Calls P g #[.slice (some ⟨bk, o, none⟩) xs.length c, .string sep] w fun e w' => e = .returned (.string ⟨(Lib.join (xs.map (·.data.toList)) sep.data.toList).toArray⟩) ∧ Below w.heap.size w w') : TbOK P G W0 ν (tb.set g (some joinB)) :=
  TbOK.more h fun args s v h' hc φ w args' hv hR _ => by
    unfold joinB at hc
    split at hc <;> try (cases hc; done)
    rename_i B o m c sep
    split at hc <;> try (cases hc; done)
    rename_i ob hob
    unfold joinF at hc
    cases ob with
    | cells cs e rw_ =>
      simp only at hc
      cases hl : readCells cs o (m + 1) with
      | none => rw [hl] at hc; cases hc
      | some l =>
        rw [hl] at hc
        simp only at hc
        cases hx : strsV l with
        | none => rw [hx] at hc; cases hc
        | some xs =>
          rw [hx] at hc
          simp only at hc
          split at hc <;> try (cases hc; done)
          rename_i v' heq
          split at heq <;> try (cases heq; done)
          rename_i hb
          simp only [Bool.and_eq_true] at hb
          have hb1 := Nat.le_of_ble_eq_true hb.1
          have hb2 := Nat.le_of_ble_eq_true hb.2
          cases heq
          cases hc
          have hlx := strsV_of hx
          have hrd := hl
          unfold readCells at hrd
          split at hrd <;> try (cases hrd; done)
          rename_i hh
          have hn := has_spec hh
          simp only [Option.some.injEq] at hrd
          have hlen : xs.length = m + 1 := by
            have e1 : l.length = xs.length := by rw [hlx, List.length_map]
            rw [← e1, ← hrd]
            simp at hn ⊢
            omega
          have go : ∀ {r : Ref} {c' : Nat}, φ B = some r → m + 1 ≤ c' → Calls P g #[.slice (some ⟨r.b, o, none⟩) (m + 1) c', .string sep] w (CallPost P G W0 ν φ s (.string ⟨(Lib.join (xs.map (·.data.toList)) sep.data.toList).toArray⟩) s) := fun {r c'} hφ hcap => by
            have hcells : ∀ (j : Nat) x, xs[j]? = some x → w.cell? ⟨r.b, o + j, none⟩ = some (.string x) := fun j x hj => by
              have hjlt : j < m + 1 := by rw [← hlen]; exact (List.getElem?_eq_some_iff.1 hj).1
              have e1 : cs[o + j]? = some (.string x) := by
                have e2 : l[j]? = some (.string x) := by rw [hlx, List.getElem?_map, hj]; rfl
                rw [← hrd, List.getElem?_take_of_lt hjlt, List.getElem?_drop] at e2
                exact e2
              obtain ⟨u, h1, h2⟩ := hR.cell hφ hob e1
              cases h2
              exact h1
            have := hj r.b o c' xs sep w hcells (hR.bound B r hφ) (by omega) (by omega) (by omega)
            rw [hlen] at this
            refine this.mono fun e w' hp => ?_
            obtain ⟨rfl, hbl⟩ := hp
            exact ⟨_, rfl, φ, .string _, hR.later (Fr.of_below hbl), Ext.refl _ _, Nat.le_refl _⟩
          cases hv with
          | cons h1 h2 =>
            cases h2 with
            | cons h2 h3 =>
              cases h3
              cases h2
              cases h1 with
              | slk hφ hn => exact go hφ hn
              | slu hφ hn _ => exact go hφ hn
    | map _ _ => simp only at hc; cases hc
    | res _ => simp only at hc; cases hc
end Go.Fw
