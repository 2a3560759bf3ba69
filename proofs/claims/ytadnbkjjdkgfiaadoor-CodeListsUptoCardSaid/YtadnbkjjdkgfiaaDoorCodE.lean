/-
  Contracts of package code: the reader of words.
-/
import Derived.Test.YtadnbkjjdkgfiaaDoorCodD
import Derived.Test.YtadnbkjjdkgfiaaDoorShelfB
namespace Go.Viv
open Go.Lib Go.Proofs.YtadnbkjjdkgfiaaDoor Go.RowKit
abbrev cellsW (ws : List (List UInt8)) : List Value := ws.map (fun l => str l)
theorem RowC.frS {w w' : World} {A : Option Addr} {cs : List Value} {S : Nat → Prop} (h : RowC w A cs) (hf : Fr S w w') (hS : ∀ a, A = some a → ¬ S a.block) : RowC w' A cs := by
  rcases h with h | ⟨b, o, h1, h2, h3⟩
  · exact .inl h
  · exact .inr ⟨b, o, h1, Nat.lt_of_lt_of_le h2 hf.size, fun i u hi => by rw [hf.cell (p := ⟨b, o + i, none⟩) h2 (by exact hS ⟨b, o, none⟩ h1)]; exact h3 i u hi⟩
theorem RowC.tail {w : World} {A : Option Addr} {c : Value} {cs : List Value} (h : RowC w A (c :: cs)) : RowC w (A.map (·.add 1)) cs := by
  rcases h with h | ⟨b, o, h1, h2, h3⟩
  · cases h
  · refine .inr ⟨b, o + 1, by rw [h1]; rfl, h2, fun i u hi => ?_⟩
    have := h3 (i + 1) u (by simpa using hi)
    rw [show o + 1 + i = o + (i + 1) by omega]
    exact this
theorem fr_one (w : World) (R o : Nat) (u : Value) : Fr (fun x => x = R) w (w.setCell ⟨R, o, none⟩ u) := Fr.setCell (S := fun x => x = R) (Fr.refl _ _) (.inl rfl) u
/-- The reader at block R: the words still to come, and whether something was wrong. -/
structure RdIs (w : World) (R : Nat) (ws : List (List UInt8)) (bad : Bool) : Prop where
  is : ∃ A cap, Blk w R 79 #[.slice A ws.length cap, .bool bad] ∧ ws.length ≤ cap ∧ cap ≤ 9223372036854775807 ∧ RowC w A (cellsW ws) ∧ ∀ a, A = some a → a.block < R
theorem RdIs.fr {w w' : World} {R : Nat} {ws : List (List UInt8)} {bad : Bool} (h : RdIs w R ws bad) (hf : Fr (fun _ => False) w w') : RdIs w' R ws bad := by
  obtain ⟨A, cap, h1, h2, h3, h4, h5⟩ := h.is
  exact ⟨A, cap, h1.fr hf (fun h => h), h2, h3, h4.fr hf, h5⟩
def regW (l : List UInt8) : Option Int := match l with
  | [c, d] => if c = 114 ∧ 48 ≤ d.toNat ∧ d.toNat < 52 then some ((d.toNat : Int) - 48) else none
  | _ => none
end Go.Viv
namespace Go.Proofs.YtadnbkjjdkgfiaaDoor
open Go.RowKit Go.Viv

set_option maxRecDepth 100000 in
set_option maxHeartbeats 1000000 in
theorem next_none (R : Nat) (bad : Bool) (w : World) (h : RdIs w R [] bad) : Calls Tryd.prog 48 #[.pointer (some ⟨R, 0, none⟩)] w fun e w' => e = .returned (str []) ∧ RdIs w' R [] true ∧ Fr (fun x => x = R) w w' := by
  obtain ⟨A, cap, h1, h2, h3, h4, h5⟩ := h.is
  have c0 := Blk.cell h1 0
  have c1 := Blk.cell h1 1
  have f1 := Blk.frozen h1 1
  simp at c0 c1
  have H := Lib.hid (And.intro h1 (And.intro h2 (And.intro h3 h5)))
  clear h h1 h2 h3 h4 h5
  go_enter Tryd.func48, Tryd.ntmps48
  go_wp2
  go_ret
  refine ⟨rfl, ⟨A, cap, ?_, H.out.2.1, H.out.2.2.1, .inl rfl, H.out.2.2.2⟩, fr_one _ _ _ _⟩
  have z := H.out.1.set_ 1 (.bool true)
  simpa using z

set_option maxRecDepth 100000 in
set_option maxHeartbeats 1000000 in
theorem next_some (R : Nat) (x : List UInt8) (ws : List (List UInt8)) (bad : Bool) (w : World) (h : RdIs w R (x :: ws) bad) : Calls Tryd.prog 48 #[.pointer (some ⟨R, 0, none⟩)] w fun e w' => e = .returned (str x) ∧ RdIs w' R ws bad ∧ Fr (fun x => x = R) w w' := by
  obtain ⟨A, cap, h1, h2, h3, h4, h5⟩ := h.is
  have h4' := h4
  rcases h4' with h4' | ⟨b, o, rfl, hb, hcs⟩
  · simp at h4'
  · have d0 := hcs 0 (str x) rfl
    rw [Nat.add_zero] at d0
    have hbR : b < R := h5 _ rfl
    have c0 := Blk.cell h1 0
    have c1 := Blk.cell h1 1
    have f0 := Blk.frozen h1 0
    simp at c0 c1
    obtain ⟨n, hn⟩ : ∃ n, ws.length = n := ⟨_, rfl⟩
    simp only [List.length_cons] at c0 h1 h2
    rw [hn] at c0 h1 h2
    have hcap1 : (1 : Int) ≤ cap := by omega
    have hn0 : ((n : Int) + 1 == 0) = false := by simp; omega
    have H := Lib.hid (And.intro h1 (And.intro h2 (And.intro h3 (And.intro h4 (And.intro hn hbR)))))
    clear h h1 h2 h3 h4 h5 hn hcs
    have fin : ∀ (A2 : Option Addr), (A2 = some ⟨b, o, none⟩ ∧ cap = 1) ∨ A2 = some ⟨b, o + 1, none⟩ → RdIs (w.setCell ⟨R, 0, none⟩ (.slice A2 n (cap - 1))) R ws bad := by
      intro A2 hA2
      refine ⟨A2, cap - 1, ?_, by rw [H.out.2.2.2.2.1]; have := H.out.2.1; omega, by have := H.out.2.2.1; omega, ?_, ?_⟩
      · have z := H.out.1.set_ 0 (.slice A2 n (cap - 1))
        rw [H.out.2.2.2.2.1]
        simpa using z
      · rcases hA2 with ⟨_, hc⟩ | rfl
        · have : ws = [] := by
            have := H.out.2.1
            have e := H.out.2.2.2.2.1
            exact List.eq_nil_of_length_eq_zero (by omega)
          rw [this]
          exact .inl rfl
        · have t := RowC.tail H.out.2.2.2.1
          refine RowC.frS (S := fun x => x = R) t (fr_one _ _ _ _) (fun a ha => ?_)
          obtain rfl := Option.some.inj ha
          exact Nat.ne_of_lt H.out.2.2.2.2.2
      · intro a ha
        rcases hA2 with ⟨rfl, _⟩ | rfl <;> (obtain rfl := Option.some.inj ha; exact H.out.2.2.2.2.2)
    have HFIN := Lib.hid fin
    clear fin
    by_cases hc1 : cap = 1
    · have hn00 : n = 0 := by have := H.out.2.1; omega
      subst hc1 hn00
      go_enter Tryd.func48, Tryd.ntmps48
      go_wp2
      go_ret
      exact ⟨rfl, HFIN.out _ (.inl ⟨rfl, trivial⟩), fr_one _ _ _ _⟩
    · go_enter Tryd.func48, Tryd.ntmps48
      go_wp2
      go_ret
      exact ⟨rfl, HFIN.out _ (.inr rfl), fr_one _ _ _ _⟩
end Go.Proofs.YtadnbkjjdkgfiaaDoor
