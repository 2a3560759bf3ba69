/-
  Contracts of package code: the reader's registers and numbers.
-/
import Derived.Test.YtadnbkjjdkgfiaaDoorCodE
namespace Go.Viv
open Go.Lib Go.Proofs.YtadnbkjjdkgfiaaDoor Go.RowKit
theorem rd_bad {w : World} {R : Nat} {ws : List (List UInt8)} {b : Bool} (h : RdIs w R ws b) (v : Bool) : RdIs (w.setCell ⟨R, 1, none⟩ (.bool v)) R ws v := by
  obtain ⟨A, cap, h1, h2, h3, h4, h5⟩ := h.is
  refine ⟨A, cap, ?_, h2, h3, h4.frS (fr_one w R 1 (.bool v)) (fun a ha => Nat.ne_of_lt (h5 a ha)), h5⟩
  have z := h1.set_ 1 (.bool v)
  simpa using z
theorem rd_cells {w : World} {R : Nat} {ws : List (List UInt8)} {b : Bool} (h : RdIs w R ws b) : (∃ A cap, w.cell? ⟨R, 0, none⟩ = some (.slice A ws.length cap)) ∧ w.cell? ⟨R, 1, none⟩ = some (.bool b) ∧ w.frozen? ⟨R, 1, none⟩ = false ∧ R < w.heap.size := by
  obtain ⟨A, cap, h1, h2, h3, h4, h5⟩ := h.is
  exact ⟨⟨A, cap, h1.cell 0⟩, h1.cell 1, h1.frozen 1, h1.lt⟩
theorem fr_R {R : Nat} {a b c : World} (h1 : Fr (fun x => x = R) a b) (h2 : Fr (fun x => x = R) b c) : Fr (fun x => x = R) a c := h1.trans h2 (fun _ h => .inl h)
theorem fr_no_R {R : Nat} {a b : World} (h : Fr (fun _ => False) a b) : Fr (fun x => x = R) a b := h.mono (fun _ _ h => h.elim)
end Go.Viv
namespace Go.Proofs.YtadnbkjjdkgfiaaDoor
open Go.RowKit Go.Viv

theorem next_any (R : Nat) (ws : List (List UInt8)) (bad : Bool) (w : World) (h : RdIs w R ws bad) : Calls Tryd.prog 48 #[.pointer (some ⟨R, 0, none⟩)] w fun e w' => e = .returned (str (ws.headD [])) ∧ RdIs w' R ws.tail (bad || ws.isEmpty) ∧ Fr (fun x => x = R) w w' := by
  cases ws with
  | nil => refine (next_none R bad w h).mono fun e w' ⟨h1, h2, h3⟩ => ⟨h1, ?_, h3⟩; cases bad <;> exact h2
  | cons x r => refine (next_some R x r bad w h).mono fun e w' ⟨h1, h2, h3⟩ => ⟨h1, ?_, h3⟩; rw [List.isEmpty_cons, Bool.or_false]; exact h2

/-- What a register's word comes to. -/
abbrev RegRes (R : Nat) (ws : List (List UInt8)) (bad : Bool) (w : World) (r : Option Int) : Prop := Calls Tryd.prog 52 #[.pointer (some ⟨R, 0, none⟩)] w fun e w' => e = .returned (.int .i64 (r.getD 0)) ∧ RdIs w' R ws.tail (bad || r.isNone) ∧ Fr (fun x => x = R) w w'

set_option maxRecDepth 100000 in
set_option maxHeartbeats 1000000 in
theorem reg_off (R : Nat) (ws : List (List UInt8)) (bad : Bool) (w : World) (h : RdIs w R ws bad) (l : List UInt8) (hl : ws.headD [] = l) (hll : l.length ≤ 9223372036854775807)
    (hw : l.length ≠ 2 ∨ ∃ c d, l = [c, d] ∧ (c ≠ 114 ∨ d.toNat < 48 ∨ 52 ≤ d.toNat)) : RegRes R ws bad w none := by
  have HN := Lib.hid (next_any R ws bad w h)
  rw [hl] at HN
  clear h hl
  rcases hw with hw | ⟨c, d, rfl, hw⟩
  · have h2 : ((l.length : Int) != 2) = true := by simp; omega
    unfold RegRes
    go_enter Tryd.func52, Tryd.ntmps52
    go_wp2_with fail
    refine HN.out.mono ?_
    rintro e w1 ⟨rfl, hr1, hf1⟩
    obtain ⟨⟨A, cap, c0⟩, c1, f1, lt⟩ := rd_cells hr1
    have H1 := Lib.hid (And.intro hr1 hf1)
    clear hr1 hf1
    go_wp2
    go_ret
    refine ⟨rfl, ?_, fr_R H1.out.2 (fr_one _ _ _ _)⟩
    rw [Option.isNone_none, Bool.or_true]
    exact rd_bad H1.out.1 true
  · have hc0 : (c = 114 ∧ (48 ≤ d.toNat → 52 ≤ d.toNat)) ∨ ((c.toNat : Int) != 114) = true := by
      by_cases hc : c = 114
      · exact .inl ⟨hc, fun h => by rcases hw with hw | hw | hw; exact absurd hc hw; omega; omega⟩
      · exact .inr (by
          have : c.toNat ≠ 114 := fun h => hc (UInt8.toNat.inj h)
          simp; omega)
    clear hw
    have walk : ∀ (b1 b2 b3 : Bool), ((c.toNat : Int) != 114) = b1 → decide ((d.toNat : Int) < 48) = b2 → decide ((52 : Int) ≤ d.toNat) = b3 → (b1 || b2 || b3) = true → RegRes R ws bad w none := by
      intro b1 b2 b3 q1 q2 q3 q
      have e0 : ∀ h, (ByteArray.mk #[c, d])[0]'h = c := fun _ => rfl
      have e1 : ∀ h, (ByteArray.mk #[c, d])[1]'h = d := fun _ => rfl
      unfold RegRes
      go_enter Tryd.func52, Tryd.ntmps52
      go_wp2_with fail
      refine HN.out.mono ?_
      rintro e w1 ⟨rfl, hr1, hf1⟩
      obtain ⟨⟨A, cap, c0⟩, c1, f1, lt⟩ := rd_cells hr1
      have H1 := Lib.hid (And.intro hr1 hf1)
      clear hr1 hf1
      cases b1
      · cases b2
        · cases b3
          · cases q
          · go_wp2
            go_ret
            refine ⟨rfl, ?_, fr_R H1.out.2 (fr_one _ _ _ _)⟩
            rw [Option.isNone_none, Bool.or_true]
            exact rd_bad H1.out.1 true
        · go_wp2
          go_ret
          refine ⟨rfl, ?_, fr_R H1.out.2 (fr_one _ _ _ _)⟩
          rw [Option.isNone_none, Bool.or_true]
          exact rd_bad H1.out.1 true
      · go_wp2
        go_ret
        refine ⟨rfl, ?_, fr_R H1.out.2 (fr_one _ _ _ _)⟩
        rw [Option.isNone_none, Bool.or_true]
        exact rd_bad H1.out.1 true
    refine walk _ _ _ rfl rfl rfl ?_
    rcases hc0 with ⟨rfl, h⟩ | h
    · by_cases h48 : 48 ≤ d.toNat
      · have := h h48
        simp; omega
      · simp; omega
    · rw [h]; rfl

set_option maxRecDepth 100000 in
set_option maxHeartbeats 1000000 in
theorem reg_on (R : Nat) (d : UInt8) (ws : List (List UInt8)) (bad : Bool) (w : World) (h : RdIs w R ([114, d] :: ws) bad) (h1 : 48 ≤ d.toNat) (h2 : d.toNat < 52) : RegRes R ([114, d] :: ws) bad w (some ((d.toNat : Int) - 48)) := by
  have HN := Lib.hid (next_some R [114, d] ws bad w h)
  clear h
  have e0 : ∀ h, (ByteArray.mk #[114, d])[0]'h = 114 := fun _ => rfl
  have e1 : ∀ h, (ByteArray.mk #[114, d])[1]'h = d := fun _ => rfl
  have q2 : decide ((d.toNat : Int) < 48) = false := decide_eq_false (by omega)
  have q3 : decide ((52 : Int) ≤ d.toNat) = false := decide_eq_false (by omega)
  have h1' : (48 : Int) ≤ d.toNat := by omega
  have h2' : (d.toNat : Int) < 52 := by omega
  unfold RegRes
  go_enter Tryd.func52, Tryd.ntmps52
  go_wp2_with fail
  refine HN.out.mono ?_
  rintro e w1 ⟨rfl, hr1, hf1⟩
  have H1 := Lib.hid (And.intro hr1 hf1)
  clear hr1 hf1
  go_wp2
  go_ret
  refine ⟨rfl, ?_, H1.out.2⟩
  rw [Option.isNone_some, Bool.or_false]
  exact H1.out.1

theorem reg_any (R : Nat) (ws : List (List UInt8)) (bad : Bool) (w : World) (h : RdIs w R ws bad) (hll : (ws.headD []).length ≤ 9223372036854775807) : RegRes R ws bad w (regW (ws.headD [])) := by
  obtain ⟨l, hl⟩ : ∃ l, ws.headD [] = l := ⟨_, rfl⟩
  rw [hl] at hll ⊢
  match l, hl with
  | [], hl => exact reg_off R ws bad w h [] hl hll (.inl (by simp))
  | [c], hl => exact reg_off R ws bad w h [c] hl hll (.inl (by simp))
  | [c, d], hl =>
    have hrw : regW [c, d] = if c = 114 ∧ 48 ≤ d.toNat ∧ d.toNat < 52 then some ((d.toNat : Int) - 48) else none := rfl
    rw [hrw]
    by_cases hc : c = 114 ∧ 48 ≤ d.toNat ∧ d.toNat < 52
    · rw [if_pos hc]
      obtain ⟨rfl, h1, h2⟩ := hc
      cases ws with
      | nil => simp at hl
      | cons x r =>
        obtain rfl : x = [114, d] := by simpa using hl
        exact reg_on R d r bad w h h1 h2
    · rw [if_neg hc]
      exact reg_off R ws bad w h [c, d] hl hll (.inr ⟨c, d, rfl, by
        by_cases h1 : c = 114
        · by_cases h2 : d.toNat < 48
          · exact .inr (.inl h2)
          · exact .inr (.inr (by
              rcases Nat.lt_or_ge d.toNat 52 with h3 | h3
              · exact absurd ⟨h1, by omega, h3⟩ hc
              · exact h3))
        · exact .inl h1⟩)
  | c :: d :: e :: r, hl => exact reg_off R ws bad w h (c :: d :: e :: r) hl hll (.inl (by simp))

set_option maxRecDepth 100000 in
set_option maxHeartbeats 1000000 in
theorem rnum_any (R : Nat) (ws : List (List UInt8)) (bad : Bool) (w : World) (he : Env w) (hR : 8 ≤ R) (h : RdIs w R ws bad) (hll : (ws.headD []).length ≤ 281474976710656) :
    Calls Tryd.prog 53 #[.pointer (some ⟨R, 0, none⟩)] w fun e w' => e = .returned (.int .i64 ((num (ws.headD [])).getD 0)) ∧ RdIs w' R ws.tail (bad || (num (ws.headD [])).isNone) ∧ Fr (fun x => x = R) w w' := by
  have HN := Lib.hid (next_any R ws bad w h)
  have HE := Lib.hid he
  have HU := Lib.hid (fun W (h : Env W) => Number_l (ws.headD []) W h hll)
  have HEM := Lib.hid (show ws.isEmpty = true → (num (ws.headD [])).isNone = true from fun h => by cases ws with | nil => rfl | cons x r => cases h)
  obtain ⟨l, hl⟩ : ∃ l, ws.headD [] = l := ⟨_, rfl⟩
  obtain ⟨r, hr⟩ : ∃ r, num l = r := ⟨_, rfl⟩
  rw [hl] at HN HU HEM ⊢
  rw [hr] at HEM ⊢
  have HRR := Lib.hid hr
  clear he h hl hll hr
  go_enter Tryd.func53, Tryd.ntmps53
  go_wp2_with fail
  refine HN.out.mono ?_
  rintro e w1 ⟨rfl, hr1, hf1⟩
  have H1 := Lib.hid (And.intro hr1 hf1)
  clear hr1 hf1
  go_wp2_with fail
  refine (HU.out _ (HE.out.of_blocks (fun k hk => H1.out.2.block k (by have := HE.out.size; omega) (by omega)) H1.out.2.size)).mono ?_
  rintro e w2 ⟨rfl, hf2⟩
  rw [HRR.out]
  have hr2 := H1.out.1.fr hf2
  obtain ⟨⟨A, cap, c0⟩, c1, f1, lt⟩ := rd_cells hr2
  have H2 := Lib.hid (And.intro hr2 (fr_R H1.out.2 (fr_no_R hf2)))
  clear hr2 hf2
  obtain ⟨b, hb⟩ : ∃ b, (bad || ws.isEmpty) = b := ⟨_, rfl⟩
  rw [hb] at c1
  have HB := Lib.hid hb
  clear hb
  cases b <;> cases r
  all_goals
    go_wp2
    go_ret
    refine ⟨rfl, ?_, fr_R H2.out.2 (fr_one _ _ _ _)⟩
  · have : (bad || (none : Option Int).isNone) = true := by simp
    rw [this]; exact rd_bad H2.out.1 true
  · rename_i n
    have : (bad || (some n : Option Int).isNone) = false := by have := HB.out; cases bad <;> simp_all
    rw [this]; exact rd_bad H2.out.1 false
  · have : (bad || (none : Option Int).isNone) = true := by simp
    rw [this]; exact rd_bad H2.out.1 true
  · rename_i n
    have : (bad || (some n : Option Int).isNone) = true := by
      have h1 := HB.out
      have h2 := HEM.out
      cases bad
      · rw [Bool.false_or] at h1
        have := h2 h1
        simp at this
      · rfl
    rw [this]; exact rd_bad H2.out.1 true
end Go.Proofs.YtadnbkjjdkgfiaaDoor
