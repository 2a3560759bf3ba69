/-
  The story of the console's law, run by the kernel: it is true wherever the tables of the library stand as given.
-/
import Derived.Test.YtenigphjddnknaaGreatDoorSpx
set_option linter.unusedVariables false
namespace Go.Proofs.YtenigphjddnknaaGreatDoor
open Go Go.RowKit Go.Viv Go.Shelf Go.Eva Go.Fv Go.Fw
noncomputable def allY (f : List UInt8 → Insn → Bool) : List (List UInt8) → List Insn → Bool
  | [], [] => true
  | y :: ps, i :: is => yes (f y i) (allY f ps is)
  | _, _ => false
theorem allY_of {f : List UInt8 → Insn → Bool} : ∀ {ps : List (List UInt8)} {is : List Insn}, allY f ps is = true → ps.length = is.length ∧ ∀ (k : Nat) (y : List UInt8) (i : Insn), ps[k]? = some y → is[k]? = some i → f y i = true
  | [], [], _ => ⟨rfl, fun k y i h => by cases h⟩
  | y :: ps, i :: is, h => by
    obtain ⟨h1, h2⟩ := yes_of (x := allY f ps is) h
    obtain ⟨h3, h4⟩ := allY_of h2
    refine ⟨by simp [h3], fun k z j hz hj => ?_⟩
    cases k with
    | zero => simp at hz hj; subst hz hj; exact h1
    | succ k => exact h4 k z j (by simpa using hz) (by simpa using hj)
  | [], _ :: _, h => by cases h
  | _ :: _, [], h => by cases h
noncomputable abbrev allX : List (List UInt8) → List Insn → Bool := allY fun y i => parseX y (cellsI i)
theorem allX_of {ps : List (List UInt8)} {is : List Insn} (h : allX ps is = true) : ps.length = is.length ∧ ∀ (k : Nat) (y : List UInt8) (i : Insn), ps[k]? = some y → is[k]? = some i → parseX y (cellsI i) = true := allY_of h
abbrev SplOne (x : List UInt8 × List Insn × List Value) : Prop := x.1 ≠ [] ∧ x.1.length < 100000 ∧ x.2.2 = x.2.1.flatMap cellsI ∧ x.2.1 ≠ [] ∧ x.2.1.length ≤ 100000 ∧ (pieces ⟨#[59, 32]⟩ x.1).length = x.2.1.length ∧
  ∀ (k : Nat) (y : List UInt8) (i : Insn), (pieces ⟨#[59, 32]⟩ x.1)[k]? = some y → x.2.1[k]? = some i → parseX y (cellsI i) = true
theorem SplOne.mk {x : List UInt8 × List Insn × List Value} (h1 : x.1 ≠ []) (h2 : x.1.length < 100000) (h3 : x.2.2 = x.2.1.flatMap cellsI) (h4 : x.2.1 ≠ []) (h5 : x.2.1.length ≤ 100000) (h : allX (pieces ⟨#[59, 32]⟩ x.1) x.2.1 = true) : SplOne x :=
  ⟨h1, h2, h3, h4, h5, (allX_of h).1, (allX_of h).2⟩
theorem good0 : SplOne ([103, 101, 116, 32, 114, 48, 32, 48, 59, 32, 97, 100, 100, 32, 114, 48, 32, 114, 48, 59, 32, 112, 117, 116, 32, 114, 48, 32, 48], [⟨7, 0, 0, 0⟩, ⟨3, 0, 0, 0⟩, ⟨9, 0, 0, 0⟩], [.int .i64 7, .int .i64 0, .int .i64 0, .int .i64 0, .int .i64 3, .int .i64 0, .int .i64 0, .int .i64 0, .int .i64 9, .int .i64 0, .int .i64 0, .int .i64 0]) := .mk (by decide) (by decide) rfl (by decide) (by decide) (by kernel_rfl)
theorem good1 : SplOne ([107, 105, 108, 108], [⟨14, 0, 0, 0⟩], [.int .i64 14, .int .i64 0, .int .i64 0, .int .i64 0]) := .mk (by decide) (by decide) rfl (by decide) (by decide) (by kernel_rfl)
theorem good2 : SplOne ([112, 117, 116, 32, 114, 48, 32, 57], [⟨9, 0, 0, 9⟩], [.int .i64 9, .int .i64 0, .int .i64 0, .int .i64 9]) := .mk (by decide) (by decide) rfl (by decide) (by decide) (by kernel_rfl)
def stT : SplT := [([103, 101, 116, 32, 114, 48, 32, 48, 59, 32, 97, 100, 100, 32, 114, 48, 32, 114, 48, 59, 32, 112, 117, 116, 32, 114, 48, 32, 48], [⟨7, 0, 0, 0⟩, ⟨3, 0, 0, 0⟩, ⟨9, 0, 0, 0⟩], [.int .i64 7, .int .i64 0, .int .i64 0, .int .i64 0, .int .i64 3, .int .i64 0, .int .i64 0, .int .i64 0, .int .i64 9, .int .i64 0, .int .i64 0, .int .i64 0]), ([107, 105, 108, 108], [⟨14, 0, 0, 0⟩], [.int .i64 14, .int .i64 0, .int .i64 0, .int .i64 0]), ([112, 117, 116, 32, 114, 48, 32, 57], [⟨9, 0, 0, 9⟩], [.int .i64 9, .int .i64 0, .int .i64 0, .int .i64 9])]
theorem stT_good : SplGood stT := fun x hx => by
  rcases List.mem_cons.1 hx with rfl | hx
  · exact good0
  rcases List.mem_cons.1 hx with rfl | hx
  · exact good1
  rcases List.mem_cons.1 hx with rfl | hx
  · exact good2
  cases hx
def fAw : List Value → Option Value
  | [] => some (.bool true)
  | _ => none
noncomputable def stIc : IcF := addIc 41 (splX stT) (addIc 8 (pureX fAw) strIc)
noncomputable def stTb : Tb := (strTb.set 8 (some (pureB fAw))).set 41 (some (splB stT))
theorem stIc_ok : IcOK stIc stTb := addIc_ok (spl_ok _) (addIc_ok (pure_ok _) strIc_ok)
theorem aw_tb {W0 : Begin} {ν : Toks} {tb : Tb} (h : TbOK Tryz.prog GG W0 ν tb) (hE : ∀ w, Fr W0.may W0.w w → EnvS w) : TbOK Tryz.prog GG W0 ν (tb.set 8 (some (pureB fAw))) := pure_tb h fun l v hf => by
  unfold fAw at hf
  split at hf <;> try (cases hf; done)
  cases hf
  exact ⟨rfl, rfl, fun w hw => awake_any w (hE w hw)⟩
theorem stTb_ok {W0 : Begin} {ν : Toks} (hE : ∀ w, Fr W0.may W0.w w → EnvS w) : TbOK Tryz.prog GG W0 ν stTb := spl_tb (aw_tb (strTb_ok hE) hE) stT_good hE
noncomputable def stRun : Bool := hput 7 (some (.cells deC 0 false)) H0 fun H => xW Tryz.prog sy0 GG tfn stIc 1000000 1000 3 [] H GG good
set_option maxHeartbeats 8000000 in
theorem st_run : stRun = true := by kernel_rfl
theorem story_any (W : World) (hE : EnvS W) : Calls Tryz.prog 3 #[] W fun e w' => e = .returned (.bool true) ∧ Fr (fun _ => False) W w' := by
  obtain ⟨H, hH, hr⟩ := hput_of HR.start st_run
  obtain ⟨h', hev⟩ := fastw_true (β := noB) (P := Tryz.prog) (G := GG) sy0_t tabOK stIc_ok hH hr
  have e : syb noB sy0 = sy0 := by
    funext o vs
    unfold syb
    split <;> rfl
  rw [e] at hev
  refine (ev_sound (W0 := Begin.still W) (by kernel_rfl) syOK_none (stTb_ok (ν := noToks) fun w' hw' => hE.low fun k hk => hw'.block k hk (fun h => h)) _ _ _ _ tree0 (.bool true) h' hev _ W _ .nil (start_ok hE.tab _) (Nat.le_refl _)).mono fun e w' hp => ?_
  obtain ⟨v', rfl, φ', hv, hR, _, _⟩ := hp
  cases hv
  exact ⟨rfl, hR.frame⟩
end Go.Proofs.YtenigphjddnknaaGreatDoor
