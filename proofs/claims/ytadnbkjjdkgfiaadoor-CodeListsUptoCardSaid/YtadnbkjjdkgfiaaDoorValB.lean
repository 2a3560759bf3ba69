/-
  Contracts of package value: cutting a text at its first comma; values.
-/
import Derived.Test.YtadnbkjjdkgfiaaDoorValA
namespace Go.Viv
/-- A text cut at its first comma. -/
def cutC : List UInt8 → Option (List UInt8 × List UInt8)
  | [] => none
  | c :: r => if c = 44 then some ([], r) else (cutC r).map (fun p => (c :: p.1, p.2))
theorem cutC_some : ∀ {l a b : List UInt8}, cutC l = some (a, b) → l = a ++ 44 :: b ∧ (44 : UInt8) ∉ a
  | [], _, _, h => by cases h
  | c :: r, a, b, h => by
    unfold cutC at h
    split at h
    · rename_i hc
      injection h with h; injection h with h1 h2
      subst h1 h2 hc
      simp
    · rename_i hc
      cases hr : cutC r with
      | none => rw [hr] at h; cases h
      | some p =>
        obtain ⟨p1, p2⟩ := p
        rw [hr] at h
        injection h with h; injection h with h1 h2
        subst h1 h2
        obtain ⟨e1, e2⟩ := cutC_some hr
        refine ⟨by rw [e1]; simp, ?_⟩
        simp only [List.mem_cons, not_or]
        exact ⟨fun e => hc e.symm, e2⟩
theorem cutC_none : ∀ {l : List UInt8}, cutC l = none → (44 : UInt8) ∉ l
  | [], _ => by simp
  | c :: r, h => by
    unfold cutC at h
    split at h
    · cases h
    · rename_i hc
      cases hr : cutC r with
      | none =>
        have := cutC_none hr
        simp only [List.mem_cons, not_or]
        exact ⟨fun e => hc e.symm, this⟩
      | some p => rw [hr] at h; cases h
theorem cutC_of {a b : List UInt8} (h : (44 : UInt8) ∉ a) : cutC (a ++ 44 :: b) = some (a, b) := by
  induction a with
  | nil => simp [cutC]
  | cons c r ih =>
    simp only [List.mem_cons, not_or] at h
    have hc : ¬ c = 44 := fun e => h.1 e.symm
    simp only [List.cons_append, cutC, if_neg hc, ih h.2, Option.map_some]
theorem cutC_no {l : List UInt8} (h : (44 : UInt8) ∉ l) : cutC l = none := by
  cases hc : cutC l with
  | none => rfl
  | some p =>
    obtain ⟨a, b⟩ := p
    obtain ⟨e1, _⟩ := cutC_some hc
    exact absurd (by rw [e1]; simp) h
end Go.Viv
