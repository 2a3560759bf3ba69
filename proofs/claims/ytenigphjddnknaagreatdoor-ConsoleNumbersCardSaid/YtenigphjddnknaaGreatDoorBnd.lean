/-
  console.Run of line feeds and of a text that is too long; console.Parse of one word that is no plan.
-/
import Derived.Test.YtenigphjddnknaaGreatDoorSpx
set_option linter.unusedVariables false
namespace Go.Viv
open Go Go.Lib
theorem nl_pieces : ∀ (f n : Nat), n < f → ∀ x ∈ ptF ⟨#[10]⟩ f (List.replicate n (10 : UInt8)), x = []
  | 0, _, h => absurd h (Nat.not_lt_zero _)
  | f + 1, 0, _ => fun x hx => by
    have e : Lib.indexB ⟨([] : List UInt8).toArray⟩ ⟨#[10]⟩ = .negSucc 0 := rfl
    unfold ptF at hx
    rw [List.replicate_zero, e] at hx
    simpa using hx
  | f + 1, n + 1, h => fun x hx => by
    have e : Lib.indexB ⟨(List.replicate (n + 1) (10 : UInt8)).toArray⟩ ⟨#[10]⟩ = .ofNat 0 := by
      show Lib.index (List.replicate (n + 1) (10 : UInt8)).toArray.toList [10] = 0
      rw [List.replicate_succ]
      rfl
    unfold ptF at hx
    rw [e] at hx
    rcases List.mem_cons.1 hx with rfl | hx
    · rfl
    · refine nl_pieces f n (by omega) x ?_
      simpa [List.replicate_succ, ByteArray.size] using hx
end Go.Viv
namespace Go.Proofs.YtenigphjddnknaaGreatDoor
open Go Go.RowKit Go.Viv Go.Shelf Go.Eva Go.Fv Go.Fw
theorem run_nl (n : Nat) (w : World) (hE : EnvS w) (hn : n ≤ 10000) : Calls Tryz.prog 9 #[str (List.replicate n 10)] w fun e w' => e = .returned (str []) ∧ Fr (fun _ => False) w w' := by
  obtain ⟨p, N0, hs, hD⟩ := con_of awRun
  obtain ⟨m, hm⟩ := hE.max
  have hall : ∀ (k : Nat) x, (pieces ⟨#[10]⟩ (List.replicate n (10 : UInt8)))[k]? = some x → x = [] := fun k x hx => nl_pieces _ n (by simp) x (List.mem_of_getElem? hx)
  have hD' : RunD strTb p N0 (fun _ => hs 0) (pieces ⟨#[10]⟩ (List.replicate n 10)) (fun _ => []) :=
    ⟨hD.new, hD.n0, hD.ptr, fun k hk => hD.good 0 (Nat.zero_le _), fun k hk => ⟨rfl, rfl⟩, fun k x hx hne => absurd (hall k x hx) hne⟩
  have hL : LinesOK w (conC w p N0 fun _ => hs 0) (pieces ⟨#[10]⟩ (List.replicate n 10)) (fun _ => []) :=
    lines_ok hE.tab (fun W S hf hS => strTb_ok fun w' hw' => hE.low fun k hk => (hw'.block k (Nat.lt_of_lt_of_le hk hf.size) (fun h => by have := hS k h; omega)).trans (hf.block k hk (fun h => h))) hD'
  have hw : ∀ k, written (fun _ => []) k = [] := fun k => by
    induction k with
    | zero => rfl
    | succ k ih => rw [written_succ, ih]; rfl
  have := run_go (List.replicate n 10) w hm (by simpa using hn) (conC_ok w p N0 _) hL (fun k hk => by rw [hw]; exact Nat.zero_le _)
  rw [hw] at this
  exact this
/-- A closed call on texts, told by a test of its answer. -/
noncomputable def askX (g : Nat) (args : List Value) (t : Value → Bool) : Bool := hput 7 (some (.cells deC 0 false)) H0 fun H => conX g args H GG fun v _ _ => t v
theorem ask_any {g : Nat} {args : List Value} {t : Value → Bool} (h : askX g args t = true) (hp : plainL args = true) {W : World} (hE : EnvS W) : ∃ v, t v = true ∧ Calls Tryz.prog g ⟨args⟩ W fun e w' => ∃ φ v', e = .returned v' ∧ VR noToks φ v v' ∧ Fr (fun _ => False) W w' := by
  obtain ⟨H, hH, h⟩ := hput_of HR.start h
  have hcx : CallEq conX (ev Tryz.prog sy0 strTb GG 1000000 1000) := by
    have e : syb noB sy0 = sy0 := by
      funext o vs
      unfold syb
      split <;> rfl
    have := fastw_ev (β := noB) (P := Tryz.prog) (G := GG) sy0_t tabOK strIc_ok 1000000 1000
    rw [e] at this
    exact this
  obtain ⟨v, h0, H0', q1, q2, q3⟩ := hcx _ _ _ _ _ _ hH h
  have htb : TbOK Tryz.prog GG (Begin.still W) noToks strTb := strTb_ok fun w' hw' => hE.low fun k hk => hw'.block k hk (fun h => h)
  refine ⟨v, q3, (ev_sound (W0 := Begin.still W) (by kernel_rfl) syOK_none htb _ _ _ _ _ _ _ q1 _ W args (VRs.refl _ hp) (start_ok hE.tab _) (Nat.le_refl _)).mono fun e w' hp => ?_⟩
  obtain ⟨v', rfl, φ', hv, hR, _, _⟩ := hp
  exact ⟨φ', v', rfl, hv, hR.frame⟩
/-- No command. -/
abbrev cmd0 : Value := .agg #[.int .i64 0, .slice none 0 0, .int .i64 0, .int .i64 0, .int .i64 0, .slice none 0 0, .slice none 0 0]
theorem told_long {W : World} (hE : EnvS W) : Calls Tryz.prog 13 #[.int .i64 22, .slice none 0 0] W fun e w' => e = .returned (str [101, 114, 114, 111, 114, 32, 50, 50]) ∧ Fr (fun _ => False) W w' := by
  obtain ⟨v, h1, h2⟩ := ask_any (g := 13) (args := [.int .i64 22, .slice none 0 0]) (t := fun v => veq v (str [101, 114, 114, 111, 114, 32, 50, 50])) (by kernel_rfl) (by kernel_rfl) hE
  refine h2.mono fun e w' hp => ?_
  obtain ⟨φ, v', rfl, hv, hf⟩ := hp
  have := veq_spec h1
  subst this
  rw [hv.plain rfl]
  exact ⟨rfl, hf⟩
def longT (k : Nat) : List UInt8 := [114, 111, 119, 115, 32] ++ List.replicate k 120
theorem parse_of {s : List UInt8} {n : Int} (h : askX 10 [.string ⟨s.toArray⟩] (fun v => veq v (.tuple ⟨[cmd0, .int .i64 n]⟩)) = true) {W : World} (hE : EnvS W) : Calls Tryz.prog 10 #[str s] W fun e w' => e = .returned (.tuple #[cmd0, .int .i64 n]) ∧ Fr (fun _ => False) W w' := by
  obtain ⟨v, h1, h2⟩ := ask_any h rfl hE
  refine h2.mono fun e w' hp => ?_
  obtain ⟨φ, v', rfl, hv, hf⟩ := hp
  have := veq_spec h1
  subst this
  rw [hv.plain rfl]
  exact ⟨rfl, hf⟩
end Go.Proofs.YtenigphjddnknaaGreatDoor
