/-
  ConsoleNumbers: the law's own walk.
-/
import Derived.Test.YtenigphjddnknaaGreatDoorSpx
import Derived.Test.YtenigphjddnknaaGreatDoorMixFr
import Derived.Test.YtenigphjddnknaaGreatDoorNum
import Derived.Test.YtenigphjddnknaaGreatDoorWords
import Derived.Lib.AtoiBound
import Derived.Laws.Closers25b
import Derived.Test.YtenigphjddnknaaGreatDoorRuC
import Derived.Test.YtenigphjddnknaaGreatDoorMasks
import Derived.WalkSpells
import Derived.Lib.SplitLaws
import Derived.Lib.Hide
set_option linter.unusedVariables false
namespace Go.Viv
open Go Go.Lib
theorem nl_pieces : ∀ (f n : Nat), n < f → ∀ x ∈ ptF ⟨#[10]⟩ f (List.replicate n (10 : UInt8)), x = []
  | 0, _, h => absurd h (Nat.not_lt_zero _)
  | f + 1, 0, _ => fun x hx => by
    have e : Lib.indexB ⟨([] : List UInt8).toArray⟩ ⟨#[10]⟩ = .negSucc 0 := rfl
    unfold ptF at hx
    rw [List.replicate_zero, e] at hx
    simpa using hx
  | f + 1, n + 1, h => fun x hx => by
    have e : Lib.indexB ⟨(List.replicate (n + 1) (10 : UInt8)).toArray⟩ ⟨#[10]⟩ = .ofNat 0 := by
      show Lib.index (List.replicate (n + 1) (10 : UInt8)).toArray.toList [10] = 0
      rw [List.replicate_succ]
      rfl
    unfold ptF at hx
    rw [e] at hx
    rcases List.mem_cons.1 hx with rfl | hx
    · rfl
    · refine nl_pieces f n (by omega) x ?_
      simpa [List.replicate_succ, ByteArray.size] using hx
end Go.Viv
namespace Go.Proofs.YtenigphjddnknaaGreatDoor
open Go Go.RowKit Go.Viv Go.Shelf Go.Eva Go.Fv Go.Fw
theorem run_nl (n : Nat) (w : World) (hE : EnvS w) (hn : n ≤ 10000) : Calls Tryz.prog 9 #[str (List.replicate n 10)] w fun e w' => e = .returned (str []) ∧ Fr (fun _ => False) w w' := by
  obtain ⟨p, N0, hs, hD⟩ := con_of awRun
  obtain ⟨m, hm⟩ := hE.max
  have hall : ∀ (k : Nat) x, (pieces ⟨#[10]⟩ (List.replicate n (10 : UInt8)))[k]? = some x → x = [] := fun k x hx => nl_pieces _ n (by simp) x (List.mem_of_getElem? hx)
  have hD' : RunD strTb p N0 (fun _ => hs 0) (pieces ⟨#[10]⟩ (List.replicate n 10)) (fun _ => []) :=
    ⟨hD.new, hD.n0, hD.ptr, fun k hk => hD.good 0 (Nat.zero_le _), fun k hk => ⟨rfl, rfl⟩, fun k x hx hne => absurd (hall k x hx) hne⟩
  have hL : LinesOK w (conC w p N0 fun _ => hs 0) (pieces ⟨#[10]⟩ (List.replicate n 10)) (fun _ => []) :=
    lines_ok hE.tab (fun W S hf hS => strTb_ok fun w' hw' => hE.low fun k hk => (hw'.block k (Nat.lt_of_lt_of_le hk hf.size) (fun h => by have := hS k h; omega)).trans (hf.block k hk (fun h => h))) hD'
  have hw : ∀ k, written (fun _ => []) k = [] := fun k => by
    induction k with
    | zero => rfl
    | succ k ih => rw [written_succ, ih]; rfl
  have := run_go (List.replicate n 10) w hm (by simpa using hn) (conC_ok w p N0 _) hL (fun k hk => by rw [hw]; exact Nat.zero_le _)
  rw [hw] at this
  exact this
/-- A closed call on texts, told by a test of its answer. -/
noncomputable def askX (g : Nat) (args : List Value) (t : Value → Bool) : Bool := hput 7 (some (.cells deC 0 false)) H0 fun H => conX g args H GG fun v _ _ => t v
theorem ask_any {g : Nat} {args : List Value} {t : Value → Bool} (h : askX g args t = true) (hp : plainL args = true) {W : World} (hE : EnvS W) : ∃ v, t v = true ∧ Calls Tryz.prog g ⟨args⟩ W fun e w' => ∃ φ v', e = .returned v' ∧ VR noToks φ v v' ∧ Fr (fun _ => False) W w' := by
  obtain ⟨H, hH, h⟩ := hput_of HR.start h
  have hcx : CallEq conX (ev Tryz.prog sy0 strTb GG 1000000 1000) := by
    have e : syb noB sy0 = sy0 := by
      funext o vs
      unfold syb
      split <;> rfl
    have := fastw_ev (β := noB) (P := Tryz.prog) (G := GG) sy0_t tabOK strIc_ok 1000000 1000
    rw [e] at this
    exact this
  obtain ⟨v, h0, H0', q1, q2, q3⟩ := hcx _ _ _ _ _ _ hH h
  have htb : TbOK Tryz.prog GG (Begin.still W) noToks strTb := strTb_ok fun w' hw' => hE.low fun k hk => hw'.block k hk (fun h => h)
  refine ⟨v, q3, (ev_sound (W0 := Begin.still W) (by kernel_rfl) syOK_none htb _ _ _ _ _ _ _ q1 _ W args (VRs.refl _ hp) (start_ok hE.tab _) (Nat.le_refl _)).mono fun e w' hp => ?_⟩
  obtain ⟨v', rfl, φ', hv, hR, _, _⟩ := hp
  exact ⟨φ', v', rfl, hv, hR.frame⟩
/-- No command. -/
abbrev cmd0 : Value := .agg #[.int .i64 0, .slice none 0 0, .int .i64 0, .int .i64 0, .int .i64 0, .slice none 0 0, .slice none 0 0]
theorem told_long {W : World} (hE : EnvS W) : Calls Tryz.prog 13 #[.int .i64 22, .slice none 0 0] W fun e w' => e = .returned (str [101, 114, 114, 111, 114, 32, 50, 50]) ∧ Fr (fun _ => False) W w' := by
  obtain ⟨v, h1, h2⟩ := ask_any (g := 13) (args := [.int .i64 22, .slice none 0 0]) (t := fun v => veq v (str [101, 114, 114, 111, 114, 32, 50, 50])) (by kernel_rfl) (by kernel_rfl) hE
  refine h2.mono fun e w' hp => ?_
  obtain ⟨φ, v', rfl, hv, hf⟩ := hp
  have := veq_spec h1
  subst this
  rw [hv.plain rfl]
  exact ⟨rfl, hf⟩
def longT (k : Nat) : List UInt8 := [114, 111, 119, 115, 32] ++ List.replicate k 120
theorem parse_of {s : List UInt8} {n : Int} (h : askX 10 [.string ⟨s.toArray⟩] (fun v => veq v (.tuple ⟨[cmd0, .int .i64 n]⟩)) = true) {W : World} (hE : EnvS W) : Calls Tryz.prog 10 #[str s] W fun e w' => e = .returned (.tuple #[cmd0, .int .i64 n]) ∧ Fr (fun _ => False) W w' := by
  obtain ⟨v, h1, h2⟩ := ask_any h rfl hE
  refine h2.mono fun e w' hp => ?_
  obtain ⟨φ, v', rfl, hv, hf⟩ := hp
  have := veq_spec h1
  subst this
  rw [hv.plain rfl]
  exact ⟨rfl, hf⟩
end Go.Proofs.YtenigphjddnknaaGreatDoor
set_option linter.unusedVariables false
namespace Go.Viv
open Go Go.Lib
theorem dec_from : ∀ (l : List UInt8) (acc : Nat), (∀ c ∈ l, isDig c = true) → decFrom acc l = some (valA acc l)
  | [], _, _ => rfl
  | c :: r, acc, h => by
    have hc := h c (List.mem_cons_self ..)
    unfold isDig at hc
    simp only [Bool.and_eq_true, decide_eq_true_eq] at hc
    unfold decFrom digitVal
    rw [if_pos hc]
    exact dec_from r _ fun x hx => h x (List.mem_cons_of_mem _ hx)
theorem dec_nat {l : List UInt8} (hne : l ≠ []) (h : ∀ c ∈ l, isDig c = true) : decNat l = some (valA 0 l) := by
  unfold decNat
  cases l with
  | nil => exact absurd rfl hne
  | cons c r => exact dec_from _ 0 h
theorem atoi_digs {l : List UInt8} (hne : l ≠ []) (h : ∀ c ∈ l, isDig c = true) : atoi l = some (valA 0 l : Int) := by
  cases l with
  | nil => exact absurd rfl hne
  | cons c r =>
    have hc := h c (List.mem_cons_self ..)
    have h1 : (c == 45) = false := by
      rw [beq_eq_false_iff_ne]
      rintro rfl
      cases hc
    have h2 : (c == 43) = false := by
      rw [beq_eq_false_iff_ne]
      rintro rfl
      cases hc
    simp only [atoi, h1, h2, dec_nat hne h]
    rfl
theorem atoi_dec (a : Nat) : atoi (decDigits a) = some (a : Int) := by
  rw [atoi_digs (dec_ne a) (dec_dig a), dec_val]
theorem atoi_zero (a : Nat) : atoi (48 :: decDigits a) = some (a : Int) := by
  rw [atoi_digs (by simp) (fun c hc => by
    rcases List.mem_cons.1 hc with rfl | hc
    · rfl
    · exact dec_dig a c hc)]
  have : valA 0 (48 :: decDigits a) = valA 0 (decDigits a) := rfl
  rw [this, dec_val]
theorem atoi_minus (a : Nat) : atoi (45 :: decDigits a) = some (-(a : Int)) := by
  simp only [atoi, show ((45 : UInt8) == 45) = true from rfl, dec_nat (dec_ne a) (dec_dig a), dec_val]
  rfl
/-- Is a text just the number's own numeral, of at most seven digits? -/
def numB (n : Int) (l : List UInt8) : Bool := decide (0 ≤ n) && (decide (l.length ≤ 7) && (itoa n == l))
theorem itoa_nat (a : Nat) : itoa (a : Int) = decDigits a := by
  unfold itoa
  rw [if_neg (by omega)]
  rfl
theorem dec_len7 {a : Nat} (h : a < 10000000) : (decDigits a).length ≤ 7 := by
  rw [decDigits_length]
  exact nd_le 6 a (by simpa using h)
theorem numB_dec {a : Nat} (h : a < 10000000) : numB a (decDigits a) = true := by
  unfold numB
  rw [itoa_nat]
  have := dec_len7 h
  simp [this]
theorem numB_zero (a : Nat) : numB a (48 :: decDigits a) = false := by
  unfold numB
  rw [itoa_nat]
  have : (decDigits a == 48 :: decDigits a) = false := by
    rw [beq_eq_false_iff_ne]
    intro h
    have := congrArg List.length h
    simp at this
  rw [this]
  simp
theorem numB_minus (a : Nat) : numB (-(a : Int)) (45 :: decDigits a) = false := by
  unfold numB
  cases a with
  | zero =>
    have : (itoa (-((0 : Nat) : Int)) == 45 :: decDigits 0) = false := by
      rw [show (-((0 : Nat) : Int)) = ((0 : Nat) : Int) from rfl, itoa_nat, dec_lt (by decide)]
      rfl
    rw [this]
    simp
  | succ a =>
    have : decide (0 ≤ -((a + 1 : Nat) : Int)) = false := decide_eq_false (by omega)
    rw [this]
    rfl
end Go.Viv
namespace Go.Proofs.YtenigphjddnknaaGreatDoor
open Go Go.RowKit Go.Viv Go.Shelf
set_option maxRecDepth 100000 in
theorem number_any (l : List UInt8) (n : Int) (hl : l.length ≤ 18) (h : Lib.atoi l = some n) (w : World) (hE : EnvS w) : Calls Tryz.prog 67 #[str l] w fun e w' => e = .returned (.tuple #[.int .i64 n, .bool (numB n l)]) ∧ Fr (fun _ => False) w w' := by
  have hb := Lib.atoi_bound h hl
  have hat : ∀ W, Calls Tryz.prog 89 #[str l] W fun e w' => e = .returned (.tuple #[.int .i64 n, .nilIface]) ∧ Fr (fun _ => False) W w' := fun W =>
    (Any.strconv_Atoi Tryz.lays172 ⟨l.toArray⟩ n (by simpa [ByteArray.size] using hl) (by simpa using h) W).mono (by rintro e w' ⟨rfl, t, rfl⟩; exact ⟨rfl, fr_bytes _ _ _⟩)
  have hit : ∀ W, Fr (fun _ => False) w W → Calls Tryz.prog 21 #[.int .i64 n] W fun e w' => e = .returned (str (Lib.itoa n)) ∧ Fr (fun _ => False) W w' := fun W hW =>
    (Any.strconv_Itoa Tryz.laysM171 n (by omega) (by omega) W (hE.low fun k hk => hW.block k hk (fun h => h)).pow).mono (by rintro e w' ⟨rfl, k, os, rfl⟩; exact ⟨rfl, fr_grow _ _ _⟩)
  clear hb
  by_cases h0 : 0 ≤ n
  · by_cases h7 : l.length ≤ 7
    · have e : numB n l = (Lib.itoa n == l) := by unfold numB; simp [h0, h7]
      have h7' : (l.length : Int) ≤ 7 := by omega
      rw [e]
      clear h hE e hl
      go_enter Tryz.func67, Tryz.ntmps67
      go_wp2_with (first | (go_at_call 89; refine (hat _).mono ?_; rintro e w1 ⟨rfl, hf1⟩) | (go_at_call 21; refine (hit _ hf1).mono ?_; rintro e w2 ⟨rfl, hf2⟩))
      go_ret2
      exact ⟨rfl, fr_two hf1 hf2⟩
    · have e : numB n l = false := by unfold numB; simp [h7]
      have h7' : decide ((l.length : Int) ≤ 7) = false := decide_eq_false (by omega)
      rw [e]
      clear h hE e hl
      go_enter Tryz.func67, Tryz.ntmps67
      go_wp2_with (first | (go_at_call 89; refine (hat _).mono ?_; rintro e w1 ⟨rfl, hf1⟩))
      go_ret2
      exact ⟨rfl, hf1⟩
  · have e : numB n l = false := by unfold numB; simp [h0]
    have h0' : decide (n ≥ 0) = false := decide_eq_false (by omega)
    rw [e]
    clear h hE e hl
    go_enter Tryz.func67, Tryz.ntmps67
    go_wp2_with (first | (go_at_call 89; refine (hat _).mono ?_; rintro e w1 ⟨rfl, hf1⟩))
    go_ret2
    exact ⟨rfl, hf1⟩
end Go.Proofs.YtenigphjddnknaaGreatDoor
set_option linter.unusedVariables false
namespace Go.Fw
open Go Go.Eva Go.Fv Go.RowKit Go.Mix Go.Viv
section
variable {P : Program} {G : Nat} {W0 : Begin} {ν : Toks} {tb : Tb}
/-- A call told by its answer, open values in it. -/
theorem tok_tb (h : TbOK P G W0 ν tb) {g : FuncId} {f : List Value → Option Value}
    (hf : ∀ l v, f l = some v → ∀ φ l', VRs ν φ l l' → ∀ w, Fr W0.may W0.w w → Calls P g ⟨l'⟩ w fun e w' => ∃ v', e = .returned v' ∧ VR ν φ v v' ∧ Fr (fun _ => False) w w') : TbOK P G W0 ν (tb.set g (some (pureB f))) :=
  TbOK.more h fun args s v h' hc φ w args' hv hR _ => by
    unfold pureB at hc
    cases hfl : f args with
    | none => rw [hfl] at hc; cases hc
    | some u =>
      rw [hfl] at hc
      cases hc
      refine (hf _ _ hfl φ _ hv w hR.frame).mono fun e w' hp => ?_
      obtain ⟨v', rfl, hvr, hfr⟩ := hp
      exact ⟨_, rfl, φ, hvr, hR.later hfr, Ext.refl _ _, Nat.le_refl _⟩
/-- A call that hands back a new row. -/
noncomputable def newX (f : List Value → Option (List Value)) (e : TypeId) : CtX := fun l H n k => match f l with
  | some c => hput n (some (.cells c e true)) H fun H => k (.slice (some ⟨n, 0, none⟩) c.length (c.length + 1)) H (n + 1)
  | none => false
def newB (f : List Value → Option (List Value)) (e : TypeId) : CtB := fun l h => match f l with
  | some c => some (.slice (some ⟨h.next, 0, none⟩) c.length (c.length + 1), ⟨h.t.set h.next (some (.cells c e true)), h.next + 1⟩)
  | none => none
theorem new_ok (f : List Value → Option (List Value)) (e : TypeId) : CtOK (newX f e) (newB f e) := fun l H t n k hH h => by
  unfold newX at h
  split at h
  · rename_i c hf
    obtain ⟨H', h1, h2⟩ := hput_of hH h
    exact ⟨.slice (some ⟨n, 0, none⟩) c.length (c.length + 1), ⟨t.set n (some (.cells c e true)), n + 1⟩, H', by simp only [newB, hf], h1, h2⟩
  · cases h
theorem new_tb (h : TbOK P G W0 ν tb) {g : FuncId} {f : List Value → Option (List Value)} {e : TypeId} (he : sizeB P e = some 1)
    (hf : ∀ l c, f l = some c → ∀ φ l', VRs ν φ l l' → ∀ w, Fr W0.may W0.w w → ∃ c', (∀ φ', VRs ν φ' c c') ∧ Calls P g ⟨l'⟩ w fun e' w' => e' = .returned (.slice (some ⟨w.heap.size, 0, none⟩) c'.length c'.length) ∧ w' = w.alloc (.cells c'.toArray e)) : TbOK P G W0 ν (tb.set g (some (newB f e))) :=
  TbOK.more h fun args s v h' hc φ w args' hv hR _ => by
    unfold newB at hc
    split at hc <;> try (cases hc; done)
    rename_i c hfl
    cases hc
    obtain ⟨c', h1, h2⟩ := hf _ _ hfl φ _ hv w hR.frame
    have hlen : c'.length = c.length := (h1 φ).length
    refine h2.mono fun e' w' hp => ?_
    obtain ⟨rfl, rfl⟩ := hp
    rw [hlen]
    refine ⟨_, rfl, φ.add s.next ⟨w.heap.size, c.length, 1⟩, .slk (Phi.add_same _ _ _) (Nat.le_refl _), rw_grown hR ((Fr.refl _ _).alloc _) rfl (Nat.le_refl _) (by simp) (fun φ' hup => ?_), fun B hB => Phi.add_ne _ _ (by omega), Nat.le_succ _⟩
    refine .cells (heap_alloc_new w _) (by simp [hlen]) (fun _ => ⟨rfl, he, .inr hR.frame.size, rfl⟩) ?_
    have : c'.toArray.toList.take c.length = c' := by rw [← hlen]; simp
    rw [this]
    exact h1 φ'
end
/-- How long a text is. -/
theorem rx_lenS {P : Program} {W0 : Begin} {ν : Toks} {t : TypeId} (hu : P.underlying t = some .string) {x y : Value} {s : ByteArray} (hx : valT ν x = .string s) (hy : valT ν y = .int .i64 s.size) (ho : okV y = true) : Rx.ok P W0 ν ⟨isLen t, [x], y⟩ := ⟨ho, fun o ρ hop hargs w hf => by
  have hop : isLen t o.op = true := hop
  unfold isLen at hop
  split at hop <;> try (cases hop; done)
  rename_i cl hoc
  split at hop <;> try (cases hop; done)
  rename_i u hcal hts
  have hu' := beq_iff hop
  subst hu'
  rw [hoc] at hargs
  have hargs : cl.args.toList.map ρ = [valT ν x] := by simpa [Op.operands, Call.operands, hcal] using hargs
  have hmap : cl.args.map ρ = #[.string s] := by
    apply Array.ext'
    simp [hargs, hx]
  have ht : cl.argTypes[0]? = some u := by rw [← Array.getElem?_toList, hts]; rfl
  have h1 : (Builtin.len_ cl.argTypes o.type #[.string s]).run P w = .ok (.int .i64 s.size) w := by
    simp [Builtin.len_, ht, run_underlying hu, goInt]
  simp only [execOp, hoc, resolve, hcal, Sem.run_bind, Sem.run_pure, Result.andThen_ok, invoke, builtin, hmap, h1, hy]⟩
end Go.Fw
namespace Go.Proofs.YtenigphjddnknaaGreatDoor
open Go Go.RowKit Go.Viv Go.Shelf Go.Eva Go.Fv Go.Fw
/-- A text, its length, what stands behind its first blank, two words of that, two numbers. -/
def nmT (S : ByteArray) (R U V : ByteArray) (a b : Int) : Toks := ⟨fun k => match k with
  | 1 => .string S
  | 2 => .int .i64 S.size
  | 3 => .string R
  | 4 => .string U
  | 5 => .string V
  | 6 => .int .i64 a
  | 7 => .int .i64 b
  | _ => .bool false, fun k => by
    match k with
    | 0 => rfl
    | 1 => rfl
    | 2 => rfl
    | 3 => rfl
    | 4 => rfl
    | 5 => rfl
    | 6 => rfl
    | 7 => rfl
    | _ + 8 => rfl⟩
def nmR : Rules := { l := [⟨.gtr, tk 2, .int .i64 1000, bo false⟩], x := [⟨isLen 9, [tk 1], tk 2⟩], it := fun k => Nat.beq k 6 || Nat.beq k 7 }
theorem nmR_ok {W0 : Begin} {S R U V : ByteArray} {a b : Int} (h : S.size ≤ 1000) : nmR.OK Tryz.prog W0 (nmT S R U V a b) := by
  refine ⟨fun r hr => ?_, fun r hr => absurd hr List.not_mem_nil, fun r hr => absurd hr List.not_mem_nil, fun r hr => absurd hr List.not_mem_nil, fun r hr => ?_, fun k hk => ?_⟩
  · obtain rfl := List.mem_singleton.1 hr
    refine rl_gtr (a := S.size) (b := 1000) rfl rfl ?_ rfl
    have : decide ((1000 : Int) < S.size) = false := decide_eq_false (by omega)
    rw [this]
    rfl
  · obtain rfl := List.mem_singleton.1 hr
    exact rx_lenS Tryz.underlying9 rfl rfl rfl
  · simp only [nmR, Bool.or_eq_true] at hk
    rcases hk with h | h
    · rw [beq_iff h]; exact ⟨a, rfl⟩
    · rw [beq_iff h]; exact ⟨b, rfl⟩
/-- What is told of a text: its first word; the words behind it; what number each is. -/
structure NmD where
  w : List UInt8
  ws : List Value
  ns : List (Value × Value × Bool)
def nmCut (D : NmD) : List Value → Option Value
  | [.chan (some 1), .string s] => (match s.data.toList == [32] with
    | true => some (.tuple ⟨[.string ⟨D.w.toArray⟩, tk 3, .bool true]⟩)
    | false => none)
  | _ => none
def nmSplit (D : NmD) : List Value → Option (List Value)
  | [.chan (some 3), .string s] => (match s.data.toList == [32] with
    | true => some D.ws
    | false => none)
  | _ => none
def findN (x : Value) : List (Value × Value × Bool) → Option Value
  | [] => none
  | r :: l => match tEq r.1 x with
    | true => some (.tuple ⟨[r.2.1, .bool r.2.2]⟩)
    | false => findN x l
def nmNum (D : NmD) : List Value → Option Value
  | [x] => findN x D.ns
  | _ => none
/-- What is told is so. -/
structure NmOK (D : NmD) (S R U V : List UInt8) (a b : Int) : Prop where
  sz : S.length ≤ 1000
  cut : S = D.w ++ 32 :: R
  w : (32 : UInt8) ∉ D.w
  ws : D.ws.map (valT (nmT ⟨S.toArray⟩ ⟨R.toArray⟩ ⟨U.toArray⟩ ⟨V.toArray⟩ a b)) = (wds 32 R).map fun x => .string ⟨x.toArray⟩
  wk : ∀ v ∈ D.ws, v = tk 4 ∨ v = tk 5 ∨ plainV v = true
  ns : ∀ r ∈ D.ns, okV r.2.1 = true ∧ ∃ x n, valT (nmT ⟨S.toArray⟩ ⟨R.toArray⟩ ⟨U.toArray⟩ ⟨V.toArray⟩ a b) r.1 = .string ⟨x.toArray⟩ ∧ valT (nmT ⟨S.toArray⟩ ⟨R.toArray⟩ ⟨U.toArray⟩ ⟨V.toArray⟩ a b) r.2.1 = .int .i64 n ∧ x.length ≤ 18 ∧ Lib.atoi x = some n ∧ r.2.2 = numB n x
theorem cut_at : ∀ {p r : List UInt8}, (32 : UInt8) ∉ p → Lib.cut (p ++ 32 :: r) [32] = (p, r, true)
  | p, r, h => by
    have hi : Lib.index (p ++ 32 :: r) [32] = (p.length : Int) := by
      refine Lib.index_first (by simp) (by simp [Lib.occAt]) fun j hj => ?_
      unfold Lib.occAt
      have hd : (p ++ 32 :: r).drop j = p[j] :: (p ++ 32 :: r).drop (j + 1) := by
        rw [List.drop_eq_getElem_cons (by simp; omega)]
        simp [List.getElem_append_left hj]
      rw [hd]
      have hne : p[j] ≠ 32 := fun e => h (e ▸ List.getElem_mem hj)
      simp [List.isPrefixOf, Ne.symm hne]
    unfold Lib.cut
    rw [hi, if_pos (by omega)]
    simp
noncomputable def nmIc (D : NmD) : IcF := addIc 18 (pureX (nmCut D)) (addIc 64 (newX (nmSplit D) 9) (addIc 67 (pureX (nmNum D)) (awIc none)))
noncomputable def nmTb (D : NmD) : Tb := (((awTb none).set 67 (some (pureB (nmNum D)))).set 64 (some (newB (nmSplit D) 9))).set 18 (some (pureB (nmCut D)))
theorem nmIc_ok (D : NmD) : IcOK (nmIc D) (nmTb D) := addIc_ok (pure_ok _) (addIc_ok (new_ok _ _) (addIc_ok (pure_ok _) (awIc_ok none)))
theorem findN_of {x v : Value} : ∀ {l : List (Value × Value × Bool)}, findN x l = some v → ∃ r ∈ l, tEq r.1 x = true ∧ v = .tuple ⟨[r.2.1, .bool r.2.2]⟩
  | [], h => by cases h
  | r :: l, h => by
    unfold findN at h
    split at h
    · rename_i hb
      cases h
      exact ⟨r, List.mem_cons_self .., hb, rfl⟩
    · obtain ⟨q, h1, h2⟩ := findN_of h
      exact ⟨q, List.mem_cons_of_mem _ h1, h2⟩
theorem vrs_map {ν : Toks} {φ : Phi} : ∀ {l : List Value}, (∀ v ∈ l, (∃ k, v = tk k) ∨ plainV v = true) → VRs ν φ l (l.map (valT ν))
  | [], _ => .nil
  | v :: l, h => .cons (by
      rcases h v (List.mem_cons_self ..) with ⟨k, rfl⟩ | hp
      · exact .sym k
      · have e : valT ν v = v := by
          unfold valT
          split
          · cases hp
          · rfl
        rw [e]
        exact VR.refl _ hp) (vrs_map fun x hx => h x (List.mem_cons_of_mem _ hx))
set_option maxRecDepth 100000 in
theorem nmTb_ok {D : NmD} {S R U V : List UInt8} {a b : Int} (hD : NmOK D S R U V a b) {W0 : Begin} (hE : ∀ w, Fr W0.may W0.w w → EnvS w) : TbOK Tryz.prog GG W0 (nmT ⟨S.toArray⟩ ⟨R.toArray⟩ ⟨U.toArray⟩ ⟨V.toArray⟩ a b) (nmTb D) := by
  have h3 : R.length ≤ 1000 := by have h1 := hD.sz; have h2 := congrArg List.length hD.cut; simp at h2; omega
  refine tok_tb (new_tb (tok_tb TbOK.none fun l v hf φ l' hl w hw => ?_) (by kernel_rfl) fun l c hf φ l' hl w hw => ?_) fun l v hf φ l' hl w hw => ?_
  · unfold nmNum at hf
    split at hf <;> try (cases hf; done)
    obtain ⟨r, hr, h1, rfl⟩ := findN_of hf
    obtain ⟨h2, x, n, h4, h5, h6, h7, h8⟩ := hD.ns r hr
    cases hl with
    | cons q t =>
      cases t
      have e := tEq_val h1 q
      rw [h4] at e
      subst e
      refine (number_any x n h6 h7 w (hE w hw)).mono fun e w' hp => ?_
      obtain ⟨rfl, hf⟩ := hp
      refine ⟨_, rfl, .tuple (.cons ?_ (.cons ?_ .nil)), hf⟩
      · rw [← h5]; exact vr_val h2
      · rw [h8]; exact .bool _
  · unfold nmSplit at hf
    split at hf <;> try (cases hf; done)
    split at hf <;> try (cases hf; done)
    rename_i s _ hs
    cases hf
    have hs : s = ⟨#[32]⟩ := ba_ext (eq_of_beq hs)
    subst hs
    cases hl with
    | cons q t =>
      cases t with
      | cons q2 t2 =>
        cases t2
        cases q
        cases q2
        obtain ⟨m, hm⟩ := (hE w hw).max
        refine ⟨D.ws.map (valT _), fun φ' => vrs_map fun v hv => ?_, ?_⟩
        · rcases hD.wk v hv with rfl | rfl | h
          · exact .inl ⟨4, rfl⟩
          · exact .inl ⟨5, rfl⟩
          · exact .inr h
        · have h := Tryz.strings_Split ⟨R.toArray⟩ ⟨#[32]⟩ m w (by simp [ByteArray.size]; omega) hm (by decide)
          have e1 : (Lib.splitB ⟨#[32]⟩ 0 (Lib.countB ⟨R.toArray⟩ ⟨#[32]⟩) ⟨R.toArray⟩).map Value.string = (wds 32 R).map fun x => Value.string ⟨x.toArray⟩ := by
            rw [← split_wds]
            have e2 : (Lib.splitB ⟨#[32]⟩ 0 (Lib.countB ⟨R.toArray⟩ ⟨#[32]⟩) ⟨R.toArray⟩).map (·.data.toList) = Lib.split R [32] := by
              rw [Lib.splitB_data]
              rfl
            rw [← e2, List.map_map]
            apply List.map_congr_left
            intro x _
            simp
          have e3 : ((wds 32 R).map fun x => Value.string ⟨x.toArray⟩).length = Lib.countB ⟨R.toArray⟩ ⟨#[32]⟩ + 1 := by
            rw [← e1, List.length_map]
            exact Lib.splitB_all ⟨#[32]⟩ (by decide) 0 _ _ rfl
          rw [e1, ← e3, ← hD.ws] at h
          exact h
  · unfold nmCut at hf
    split at hf <;> try (cases hf; done)
    split at hf <;> try (cases hf; done)
    rename_i s _ hs
    cases hf
    have hs : s = ⟨#[32]⟩ := ba_ext (eq_of_beq hs)
    subst hs
    cases hl with
    | cons q t =>
      cases t with
      | cons q2 t2 =>
        cases t2
        cases q
        cases q2
        obtain ⟨m, hm⟩ := (hE w hw).max
        have h := Any.strings_Cut Tryz.lays145 ⟨S.toArray⟩ ⟨#[32]⟩ m w (by have := hD.sz; simp [ByteArray.size]; omega) hm
        have e : Lib.cut (⟨S.toArray⟩ : ByteArray).data.toList (⟨#[32]⟩ : ByteArray).data.toList = (D.w, R, true) := by
          show Lib.cut S.toArray.toList [32] = _
          rw [hD.cut]
          exact cut_at hD.w
        rw [e] at h
        refine h.mono fun e w' hp => ?_
        obtain ⟨rfl, n, rfl⟩ := hp
        exact ⟨_, rfl, .tuple (.cons (.string _) (.cons (.sym 3) (.cons (.bool _) .nil))), (Fr.refl _ _).drewN _⟩
/-- console.Parse of a text that is told. -/
noncomputable def nmRun (D : NmD) (t : Value → FH → Bool) : Bool := hput 7 (some (.cells deC 0 false)) H0 fun H => xW Tryz.prog (syG Tryz.prog nmR) GG tfn (nmIc D) 1000000 1000 10 [tk 1] H GG fun v H _ => t v H
theorem nm_any {D : NmD} {t : Value → FH → Bool} (h : nmRun D t = true) {S R U V : List UInt8} {a b : Int} (hD : NmOK D S R U V a b) {W : World} (hE : EnvS W) :
    ∃ v h', (∃ H, HR H h'.t ∧ t v H = true) ∧ Calls Tryz.prog 10 #[str S] W fun e w' => ∃ φ v', e = .returned v' ∧ VR (nmT ⟨S.toArray⟩ ⟨R.toArray⟩ ⟨U.toArray⟩ ⟨V.toArray⟩ a b) φ v v' ∧ Rw Tryz.prog GG (Begin.still W) (nmT ⟨S.toArray⟩ ⟨R.toArray⟩ ⟨U.toArray⟩ ⟨V.toArray⟩ a b) φ h' w' ∧ Fr (fun _ => False) W w' := by
  obtain ⟨H, hH, h⟩ := hput_of HR.start h
  obtain ⟨v, h0, H0', q1, q2, q3⟩ := fastw_ev (β := noB) (P := Tryz.prog) (G := GG) (syG_tok Tryz.prog nmR) tabOK (nmIc_ok D) 1000000 1000 _ _ _ _ _ _ hH h
  refine ⟨v, h0, ⟨H0', q2, q3⟩, (ev_sound (W0 := Begin.still W) (by kernel_rfl) (syGb_ok (nmR_ok (by simpa [ByteArray.size] using hD.sz))) (nmTb_ok hD fun w' hw' => hE.low fun k hk => hw'.block k hk (fun h => h)) _ _ _ _ _ _ _ q1 _ W _ (.cons (.sym 1) .nil) (start_ok hE.tab _) (Nat.le_refl _)).mono fun e w' hp => ?_⟩
  obtain ⟨v', rfl, φ', hv, hR, _, _⟩ := hp
  exact ⟨φ', v', rfl, hv, hR, hR.frame⟩
end Go.Proofs.YtenigphjddnknaaGreatDoor
set_option linter.unusedVariables false
namespace Go.Proofs.YtenigphjddnknaaGreatDoor
open Go Go.RowKit Go.Viv Go.Shelf Go.Eva Go.Fv Go.Fw
/-- No command, an error. -/
abbrev badV : Value := .tuple ⟨[cmd0, .int .i64 16]⟩
def badT (v : Value) (_ : FH) : Bool := veq v badV
/-- Get, of two numbers. -/
noncomputable def okT (v : Value) (H : FH) : Bool := match v with
  | .tuple ⟨[.agg ⟨[k, .slice (some ⟨B, o, none⟩) n c, x1, x2, x3, y, z]⟩, e]⟩ => veq (.tuple ⟨[k, x1, x2, x3, y, z, e]⟩) (.tuple ⟨[.int .i64 6, .int .i64 0, .int .i64 0, .int .i64 0, .slice none 0 0, .slice none 0 0, .int .i64 0]⟩) && Nat.beq o 0 && Nat.beq n 2 && (match hget B H with
    | some (.cells (p :: q :: _) _ _) => tEq (tk 6) p && tEq (tk 7) q
    | _ => false)
  | _ => false
def gt : List UInt8 := [103, 101, 116]
def d1 : NmD := ⟨gt, [tk 4, tk 5], [(tk 4, tk 6, true), (tk 5, tk 7, true)]⟩
def d2 : NmD := ⟨gt, [tk 4, tk 5], [(tk 4, tk 6, false)]⟩
def d3 : NmD := ⟨gt, [.string ⟨#[]⟩, tk 4, tk 5], []⟩
def d4 : NmD := ⟨gt, [tk 4, tk 5, .string ⟨#[]⟩], []⟩
def d5 : NmD := ⟨gt, [tk 4, tk 5, .string ⟨#[49]⟩], []⟩
def d6 : NmD := ⟨[], [.string ⟨#[103, 101, 116]⟩, tk 4, tk 5], []⟩
def d7 : NmD := ⟨[71, 101, 116], [tk 4, tk 5], []⟩
theorem r1 : nmRun d1 okT = true := by kernel_rfl
theorem r2 : nmRun d2 badT = true := by kernel_rfl
theorem r3 : nmRun d3 badT = true := by kernel_rfl
theorem r4 : nmRun d4 badT = true := by kernel_rfl
theorem r5 : nmRun d5 badT = true := by kernel_rfl
theorem r6 : nmRun d6 badT = true := by kernel_rfl
theorem r7 : nmRun d7 badT = true := by kernel_rfl
theorem c1 : askX 10 [.string ⟨#[103, 101, 116, 32, 49, 48, 48, 48, 48, 48, 48, 48, 32, 49]⟩] (fun v => veq v badV) = true := by kernel_rfl
theorem c2 : askX 10 [.string ⟨#[103, 101, 116]⟩] (fun v => veq v badV) = true := by kernel_rfl
theorem c3 : askX 10 [.string ⟨#[103, 101, 116, 32]⟩] (fun v => veq v badV) = true := by kernel_rfl
theorem c4 : askX 10 [.string ⟨#[99, 114, 101, 97, 116, 101, 32, 49]⟩] (fun v => veq v badV) = true := by kernel_rfl
/-- A text that is refused. -/
def Refused (S : List UInt8) : Prop := ∀ W, EnvS W → Calls Tryz.prog 10 #[str S] W fun e w' => e = .returned (.tuple #[cmd0, .int .i64 16]) ∧ Fr (fun _ => False) W w'
theorem refused {D : NmD} (h : nmRun D badT = true) {S R U V : List UInt8} {a b : Int} (hD : NmOK D S R U V a b) : Refused S := fun W hE => by
  obtain ⟨v, h', ⟨H, _, ht⟩, hc⟩ := nm_any h hD hE
  refine hc.mono fun e w' hp => ?_
  obtain ⟨φ, v', rfl, hv, _, hf⟩ := hp
  have := veq_spec ht
  subst this
  rw [hv.plain rfl]
  exact ⟨rfl, hf⟩
theorem parse_two {S R U V : List UInt8} {a b : Int} (hD : NmOK d1 S R U V a b) {W : World} (hE : EnvS W) : Calls Tryz.prog 10 #[str S] W fun e w' => ∃ g c, e = .returned (.tuple #[.agg #[.int .i64 6, .slice (some ⟨g, 0, none⟩) 2 c, .int .i64 0, .int .i64 0, .int .i64 0, .slice none 0 0, .slice none 0 0], .int .i64 0]) ∧ w'.cell? ⟨g, 0, none⟩ = some (.int .i64 a) ∧ w'.cell? ⟨g, 1, none⟩ = some (.int .i64 b) ∧ Fr (fun _ => False) W w' := by
  obtain ⟨v, h', ⟨H, hH, ht⟩, hc⟩ := nm_any r1 hD hE
  refine hc.mono fun e w' hp => ?_
  obtain ⟨φ, v', rfl, hv, hR, hf⟩ := hp
  unfold okT at ht
  split at ht <;> try (cases ht; done)
  rename_i k B o n c x1 x2 x3 y z e
  simp only [Bool.and_eq_true] at ht
  obtain ⟨⟨⟨h1, h2⟩, h3⟩, h4⟩ := ht
  have h1 := veq_spec h1
  have h2 := beq_iff h2
  have h3 := beq_iff h3
  subst h2 h3
  injection h1 with h1
  injection h1 with h1
  simp only [List.cons.injEq, and_true] at h1
  obtain ⟨rfl, rfl, rfl, rfl, rfl, rfl, rfl⟩ := h1
  split at h4 <;> try (cases h4; done)
  rename_i p q l t rw_ hg
  simp only [Bool.and_eq_true] at h4
  have ho : h'.t.at_ B = some (.cells (p :: q :: l) t rw_) := (hH B).trans hg
  have go : ∀ {r : Ref}, φ B = some r → w'.cell? ⟨r.b, 0, none⟩ = some (.int .i64 a) ∧ w'.cell? ⟨r.b, 1, none⟩ = some (.int .i64 b) := fun {r} hφ => by
    obtain ⟨u, g1, g2⟩ := hR.cell hφ ho (i := 0) rfl
    obtain ⟨u', g3, g4⟩ := hR.cell hφ ho (i := 1) rfl
    have e1 := tEq_val h4.1 g2
    have e2 := tEq_val h4.2 g4
    exact ⟨by rw [g1, e1]; rfl, by rw [g3, e2]; rfl⟩
  cases hv with
  | tuple ha =>
    cases ha with
    | cons a1 t1 =>
      cases t1 with
      | cons a2 t2 =>
        cases t2
        cases a2
        cases a1 with
        | agg hb =>
          cases hb with
          | cons b1 u1 =>
            cases b1
            cases u1 with
            | cons b2 u2 =>
              have e3 := plains (by rfl) u2
              subst e3
              cases b2 with
              | slk hφ hn => exact ⟨_, _, rfl, (go hφ).1, (go hφ).2, hf⟩
              | slu hφ hn _ => exact ⟨_, _, rfl, (go hφ).1, (go hφ).2, hf⟩
end Go.Proofs.YtenigphjddnknaaGreatDoor
set_option linter.unusedVariables false
namespace Go.Proofs.YtenigphjddnknaaGreatDoor
open Go Go.RowKit Go.Viv Go.Shelf
theorem no_blank (a : Nat) : (32 : UInt8) ∉ Lib.decDigits a := fun h => by
  have := dec_dig a 32 h
  cases this
theorem cat_str (a b : List UInt8) : (⟨a.toArray⟩ : ByteArray) ++ ⟨b.toArray⟩ = ⟨(a ++ b).toArray⟩ := by
  apply ba_ext
  simp
section
variable {a b : Nat} (ha : a < 10000000) (hb : b < 10000000)
include ha hb
theorem lens : (Lib.decDigits a).length ≤ 7 ∧ (Lib.decDigits b).length ≤ 7 := ⟨dec_len7 ha, dec_len7 hb⟩
theorem ok1 : NmOK d1 (gt ++ 32 :: (Lib.decDigits a ++ 32 :: Lib.decDigits b)) (Lib.decDigits a ++ 32 :: Lib.decDigits b) (Lib.decDigits a) (Lib.decDigits b) a b := by
  obtain ⟨h1, h2⟩ := lens ha hb
  refine ⟨by simp [gt]; omega, rfl, by decide, ?_, by simp [d1], ?_⟩
  · rw [wds_more 32 _ _ (no_blank a), wds_word 32 _ (no_blank b)]; rfl
  · intro r hr
    rcases List.mem_cons.1 hr with rfl | hr
    · exact ⟨rfl, _, _, rfl, rfl, by omega, atoi_dec a, (numB_dec ha).symm⟩
    · obtain rfl := List.mem_singleton.1 hr
      exact ⟨rfl, _, _, rfl, rfl, by omega, atoi_dec b, (numB_dec hb).symm⟩
theorem ok2 : NmOK d2 (gt ++ 32 :: (48 :: Lib.decDigits a ++ 32 :: Lib.decDigits b)) (48 :: Lib.decDigits a ++ 32 :: Lib.decDigits b) (48 :: Lib.decDigits a) (Lib.decDigits b) a b := by
  obtain ⟨h1, h2⟩ := lens ha hb
  have hn : (32 : UInt8) ∉ 48 :: Lib.decDigits a := by simp [no_blank a]
  refine ⟨by simp [gt]; omega, rfl, by decide, ?_, by simp [d2], ?_⟩
  · rw [wds_more 32 _ _ hn, wds_word 32 _ (no_blank b)]; rfl
  · intro r hr
    obtain rfl := List.mem_singleton.1 hr
    exact ⟨rfl, _, _, rfl, rfl, by simp; omega, atoi_zero a, (numB_zero a).symm⟩
theorem ok3 : NmOK d2 (gt ++ 32 :: (45 :: Lib.decDigits a ++ 32 :: Lib.decDigits b)) (45 :: Lib.decDigits a ++ 32 :: Lib.decDigits b) (45 :: Lib.decDigits a) (Lib.decDigits b) (-(a : Int)) b := by
  obtain ⟨h1, h2⟩ := lens ha hb
  have hn : (32 : UInt8) ∉ 45 :: Lib.decDigits a := by simp [no_blank a]
  refine ⟨by simp [gt]; omega, rfl, by decide, ?_, by simp [d2], ?_⟩
  · rw [wds_more 32 _ _ hn, wds_word 32 _ (no_blank b)]; rfl
  · intro r hr
    obtain rfl := List.mem_singleton.1 hr
    exact ⟨rfl, _, _, rfl, rfl, by simp; omega, atoi_minus a, (numB_minus a).symm⟩
theorem ok4 : NmOK d3 (gt ++ 32 :: ([] ++ 32 :: (Lib.decDigits a ++ 32 :: Lib.decDigits b))) ([] ++ 32 :: (Lib.decDigits a ++ 32 :: Lib.decDigits b)) (Lib.decDigits a) (Lib.decDigits b) a b := by
  obtain ⟨h1, h2⟩ := lens ha hb
  refine ⟨by simp [gt]; omega, rfl, by decide, ?_, by simp [d3, Eva.plainV], fun r hr => absurd hr List.not_mem_nil⟩
  rw [wds_more 32 [] _ (by simp), wds_more 32 _ _ (no_blank a), wds_word 32 _ (no_blank b)]; rfl
theorem ok5 : NmOK d4 (gt ++ 32 :: (Lib.decDigits a ++ 32 :: (Lib.decDigits b ++ 32 :: []))) (Lib.decDigits a ++ 32 :: (Lib.decDigits b ++ 32 :: [])) (Lib.decDigits a) (Lib.decDigits b) a b := by
  obtain ⟨h1, h2⟩ := lens ha hb
  refine ⟨by simp [gt]; omega, rfl, by decide, ?_, by simp [d4, Eva.plainV], fun r hr => absurd hr List.not_mem_nil⟩
  rw [wds_more 32 _ _ (no_blank a), wds_more 32 _ _ (no_blank b)]; rfl
theorem ok6 : NmOK d5 (gt ++ 32 :: (Lib.decDigits a ++ 32 :: (Lib.decDigits b ++ 32 :: [49]))) (Lib.decDigits a ++ 32 :: (Lib.decDigits b ++ 32 :: [49])) (Lib.decDigits a) (Lib.decDigits b) a b := by
  obtain ⟨h1, h2⟩ := lens ha hb
  refine ⟨by simp [gt]; omega, rfl, by decide, ?_, by simp [d5, Eva.plainV], fun r hr => absurd hr List.not_mem_nil⟩
  rw [wds_more 32 _ _ (no_blank a), wds_more 32 _ _ (no_blank b), wds_word 32 [49] (by decide)]; rfl
theorem ok7 : NmOK d6 ([] ++ 32 :: (gt ++ 32 :: (Lib.decDigits a ++ 32 :: Lib.decDigits b))) (gt ++ 32 :: (Lib.decDigits a ++ 32 :: Lib.decDigits b)) (Lib.decDigits a) (Lib.decDigits b) a b := by
  obtain ⟨h1, h2⟩ := lens ha hb
  refine ⟨by simp [gt]; omega, rfl, by decide, ?_, by simp [d6, Eva.plainV], fun r hr => absurd hr List.not_mem_nil⟩
  rw [wds_more 32 gt _ (by decide), wds_more 32 _ _ (no_blank a), wds_word 32 _ (no_blank b)]; rfl
theorem ok8 : NmOK d7 ([71, 101, 116] ++ 32 :: (Lib.decDigits a ++ 32 :: Lib.decDigits b)) (Lib.decDigits a ++ 32 :: Lib.decDigits b) (Lib.decDigits a) (Lib.decDigits b) a b := by
  obtain ⟨h1, h2⟩ := lens ha hb
  refine ⟨by simp; omega, rfl, by decide, ?_, by simp [d7], fun r hr => absurd hr List.not_mem_nil⟩
  rw [wds_more 32 _ _ (no_blank a), wds_word 32 _ (no_blank b)]; rfl
end
end Go.Proofs.YtenigphjddnknaaGreatDoor
namespace Go.Viv
open Go.Lib
theorem ba_append (a b : List UInt8) : (ByteArray.mk a.toArray) ++ (ByteArray.mk b.toArray) = ⟨(a ++ b).toArray⟩ := by
  apply ba_ext
  simp
abbrev ten : ByteArray := ⟨#[48, 49, 50, 51, 52, 53, 54, 55, 56, 57]⟩
theorem ten_at (k : Nat) (h : k < 10) : ten.extract k (k + 1) = ⟨#[UInt8.ofNat (48 + k)]⟩ := by
  rcases k with _ | _ | _ | _ | _ | _ | _ | _ | _ | _ | k <;> first | decide | omega
theorem dec_down {m : Nat} (h : 9 < m) : decDigits m = decDigits (m / 10) ++ [UInt8.ofNat (48 + m % 10)] := dec_ge (by omega)
theorem dec_len {u k : Nat} (h : u < 10 ^ (k + 1)) : (decDigits u).length ≤ k + 1 := by
  rw [decDigits_length]; exact nd_le k u h
theorem one_cat (c : UInt8) (S : List UInt8) : (ByteArray.mk #[c]) ++ (ByteArray.mk S.toArray) = ⟨(c :: S).toArray⟩ := by
  have := ba_append [c] S
  simpa using this
theorem three_cat (p : List UInt8) (c : UInt8) (S : List UInt8) : (ByteArray.mk p.toArray) ++ (ByteArray.mk #[c]) ++ (ByteArray.mk S.toArray) = ⟨(p ++ ([c] ++ S)).toArray⟩ := by
  have h1 := ba_append p [c]
  have h2 := ba_append (p ++ [c]) S
  rw [show (ByteArray.mk #[c]) = ⟨([c] : List UInt8).toArray⟩ from rfl, h1, h2, List.append_assoc]
end Go.Viv
namespace Go.Proofs.YtenigphjddnknaaGreatDoor
open Go.RowKit Go.Viv
set_option maxRecDepth 100000 in
set_option maxHeartbeats 1000000 in
theorem digits_pos (m : Nat) (w : World) (hm : m ≤ 9223372036854775807) : Calls Tryz.prog 11 #[.int .i64 (m : Int)] w fun e w' => e = .returned (str (Lib.decDigits m)) ∧ w = w' := by
  have hm0 : (0 : Int) ≤ m := by omega
  have hm1 : (m : Int) ≤ 9223372036854775807 := by omega
  have h0 : decide ((m : Int) < 0) = false := decide_eq_false (by omega)
  go_enter Tryz.func11, Tryz.ntmps11
  go_wp2
  go_loop [3, 5, 6] (fun u t _ => ∃ (q : Nat) (S : List UInt8), q ≤ m ∧ u = .int .u64 (q : Int) ∧ t = str S ∧ Lib.decDigits m = Lib.decDigits q ++ S) (fun u _ _ => (intOf u).toNat)
  case atStart => exact ⟨m, [], by omega, rfl, rfl, by simp⟩
  case round =>
    obtain ⟨q, S, hq, rfl, rfl, hd⟩ := hrel
    have HD := Lib.hid hd
    have hsl : S.length ≤ 20 := by
      have h1 := congrArg List.length hd
      have e : (10 : Nat) ^ (18 + 1) = 10000000000000000000 := by decide
      have h2 := dec_len (k := 18) (u := m) (by rw [e]; omega)
      rw [List.length_append] at h1
      omega
    clear hd
    by_cases h9 : 9 < q
    · have hx := ten_at (q % 10) (by omega)
      have h9' : (9 : Int) < q := by omega
      have hm10 : q % 10 < 10 := by omega
      have hml : ¬ 9223372036854775807 < min (q % 10 + 1) 10 - q % 10 + S.length := by omega
      have H9 := Lib.hid h9
      have HX := Lib.hid hx
      clear hx
      go_wp2
      go_round
      case rel =>
        refine ⟨q / 10, UInt8.ofNat (48 + q % 10) :: S, by omega, by go_num, ?_, ?_⟩
        · first | rw [HX.out, one_cat] | (simp only [HX.out, one_cat])
        · rw [HD.out, dec_down H9.out]; simp
      case measure => simp [intOf]; have := H9.out; omega
    · have h9' : (q : Int) ≤ 9 := by omega
      have hx := ten_at q (by omega)
      have HX := Lib.hid (And.intro hx (dec_lt (u := q) (by omega)))
      have hq9 : q ≤ 9 := by omega
      have hml : ¬ 9223372036854775807 < min (q + 1) 10 - q + S.length := by omega
      clear hx
      go_wp2
      go_ret
      refine ⟨?_, rfl⟩
      rw [HD.out, HX.out.2]
      refine congrArg (fun s => Ending.returned (.string s)) ?_
      rw [HX.out.1]
      exact three_cat [] _ _

end Go.Proofs.YtenigphjddnknaaGreatDoor
set_option linter.unusedVariables false
namespace Go.Proofs.YtenigphjddnknaaGreatDoor
open Go Go.RowKit Go.Viv Go.Shelf
/-- The texts that are refused. -/
def texts (A B : List UInt8) : List (List UInt8) := [103 :: 101 :: 116 :: 32 :: 48 :: (A ++ 32 :: B), 103 :: 101 :: 116 :: 32 :: 45 :: (A ++ 32 :: B), [103, 101, 116, 32, 49, 48, 48, 48, 48, 48, 48, 48, 32, 49], [103, 101, 116], [103, 101, 116, 32], 103 :: 101 :: 116 :: 32 :: 32 :: (A ++ 32 :: B), 103 :: 101 :: 116 :: 32 :: (A ++ 32 :: (B ++ [32])), 103 :: 101 :: 116 :: 32 :: (A ++ 32 :: (B ++ [32, 49])), 32 :: 103 :: 101 :: 116 :: 32 :: (A ++ 32 :: B), 71 :: 101 :: 116 :: 32 :: (A ++ 32 :: B), [99, 114, 101, 97, 116, 101, 32, 49]]
/-- What the walk asks of the two numerals. -/
structure NumT (A B : List UInt8) (a b : Nat) : Prop where
  la : A.length ≤ 7
  lb : B.length ≤ 7
  two : ∀ W, EnvS W → Calls Tryz.prog 10 #[.string ⟨(103 :: 101 :: 116 :: 32 :: (A ++ 32 :: B)).toArray⟩] W fun e w' => ∃ g c, e = .returned (.tuple #[.agg #[.int .i64 6, .slice (some ⟨g, 0, none⟩) 2 c, .int .i64 0, .int .i64 0, .int .i64 0, .slice none 0 0, .slice none 0 0], .int .i64 0]) ∧ w'.cell? ⟨g, 0, none⟩ = some (.int .i64 ((a : Int) % 10000000)) ∧ w'.cell? ⟨g, 1, none⟩ = some (.int .i64 ((b : Int) % 10000000)) ∧ Fr (fun _ => False) W w'
  all : ∀ s ∈ texts A B, Refused s
theorem numT (x y : Nat) : NumT (Lib.decDigits (x % 10000000)) (Lib.decDigits (y % 10000000)) x y := by
  have ha : x % 10000000 < 10000000 := Nat.mod_lt _ (by decide)
  have hb : y % 10000000 < 10000000 := Nat.mod_lt _ (by decide)
  obtain ⟨h1, h2⟩ := lens ha hb
  refine ⟨h1, h2, fun W hE => ?_, fun s hs => ?_⟩
  · have := parse_two (ok1 ha hb) hE
    simpa [gt] using this
  · simp only [texts, List.mem_cons, List.not_mem_nil, or_false] at hs
    rcases hs with rfl | rfl | rfl | rfl | rfl | rfl | rfl | rfl | rfl | rfl | rfl
    · have := refused r2 (ok2 ha hb); simpa [gt] using this
    · have := refused r2 (ok3 ha hb); simpa [gt] using this
    · exact fun W hE => parse_of c1 hE
    · exact fun W hE => parse_of c2 hE
    · exact fun W hE => parse_of c3 hE
    · have := refused r3 (ok4 ha hb); simpa [gt] using this
    · have := refused r4 (ok5 ha hb); simpa [gt] using this
    · have := refused r5 (ok6 ha hb); simpa [gt] using this
    · have := refused r6 (ok7 ha hb); simpa [gt] using this
    · have := refused r7 (ok8 ha hb); simpa [gt] using this
    · exact fun W hE => parse_of c4 hE
attribute [local go_sem] cat_str
set_option maxRecDepth 100000 in
set_option maxHeartbeats 2000000 in
theorem numbers_any (n0 n1 : Int) (w : World) (hE : EnvS w) : Calls Tryz.prog 5 #[.int .i64 n0, .int .i64 n1] w fun e w' => e = .returned (.bool true) ∧ Fr (fun _ => False) w w' := by
  obtain ⟨x, hx, hx2⟩ := mask_nat n0 16777215 24 (by decide) (by decide)
  obtain ⟨y, hy, hy2⟩ := mask_nat n1 16777215 24 (by decide) (by decide)
  have hd1 : ∀ W, Calls Tryz.prog 11 #[.int .i64 ((x : Int) % 10000000)] W fun e w' => e = .returned (str (Lib.decDigits (x % 10000000))) ∧ W = w' := fun W => by
    have := digits_pos (x % 10000000) W (by omega)
    simpa using this
  have hd2 : ∀ W, Calls Tryz.prog 11 #[.int .i64 ((y : Int) % 10000000)] W fun e w' => e = .returned (str (Lib.decDigits (y % 10000000))) ∧ W = w' := fun W => by
    have := digits_pos (y % 10000000) W (by omega)
    simpa using this
  have HT := Lib.hid (numT x y)
  have hla := HT.out.la
  have hlb := HT.out.lb
  have HE := Lib.hid hE
  have hp := fun W (hW : Fr (fun _ => False) w W) => HT.out.two W (hE.low fun k hk => hW.block k hk (fun h => h))
  generalize Lib.decDigits (x % 10000000) = A at *
  generalize Lib.decDigits (y % 10000000) = B at *
  clear hE
  go_enter Tryz.func5, Tryz.ntmps5
  go_wp2_with (first
    | (go_at_call 11; first | with_reducible refine (hd1 _).mono ?_ | with_reducible refine (hd2 _).mono ?_; rintro e w' ⟨rfl, rfl⟩)
    | (go_at_call 10; with_reducible refine (hp _ (Fr.refl _ _)).mono ?_; rintro e w2 ⟨g, c, rfl, c0, c1, hf⟩; have hg := World.block_lt_of_cell? w2 _ c0; have d0 := (World.cell?_of_block (a := ⟨g, 0, none⟩) (Below.heap_alloc w2 (.cells #[.int .i64 6, .slice (some ⟨g, 0, none⟩) 2 c, .int .i64 0, .int .i64 0, .int .i64 0, .slice none 0 0, .slice none 0 0] 35) g hg)).trans c0; have d1 := (World.cell?_of_block (a := ⟨g, 1, none⟩) (Below.heap_alloc w2 (.cells #[.int .i64 6, .slice (some ⟨g, 0, none⟩) 2 c, .int .i64 0, .int .i64 0, .int .i64 0, .slice none 0 0, .slice none 0 0] 35) g hg)).trans c1))
  have hL : ((w2.alloc (.cells #[.int .i64 6, .slice (some ⟨g, 0, none⟩) 2 c, .int .i64 0, .int .i64 0, .int .i64 0, .slice none 0 0, .slice none 0 0] 35)).heap.size) = w2.heap.size + 1 := by simp
  have HF := Lib.hid hf
  have HE2 := Lib.hid fun W (hW : Fr (fun _ => False) w W) => HE.out.low fun k hk => hW.block k hk (fun h => h)
  clear hp hd1 hd2 c0 c1 d0 d1 hx hy hf hL
  go_loopw [9, 10, 11, 77] (fun _ _ _ t wr => ∃ k : Nat, k ≤ 11 ∧ t = .int .i64 k ∧ Fr (fun _ => False) w wr ∧ ∀ (j : Nat) s, (texts A B)[j]? = some s → wr.cell? ⟨w2.heap.size + 1, j, none⟩ = some (.string ⟨s.toArray⟩)) (fun _ _ _ t _ => 11 - (intOf t).toNat)
  case atStart =>
    refine ⟨0, by omega, rfl, (HF.out.alloc _).alloc _, fun j s hs => ?_⟩
    have hb := Blk.new (w2.alloc (.cells #[.int .i64 6, .slice (some ⟨g, 0, none⟩) 2 c, .int .i64 0, .int .i64 0, .int .i64 0, .slice none 0 0, .slice none 0 0] 35)) 9 ((texts A B).map fun s => Value.string ⟨s.toArray⟩).toArray
    rw [World.size_alloc] at hb
    refine (hb.cell j).trans ?_
    simp [hs]
  case round =>
    obtain ⟨k, hk, rfl, hfr, hcl⟩ := hrel
    by_cases hlt : k < 11
    · obtain ⟨s, hs⟩ : ∃ s, (texts A B)[k]? = some s := ⟨_, List.getElem?_eq_getElem hlt⟩
      have hc := hcl k s hs
      have hpar := HT.out.all s (List.mem_of_getElem? hs) _ (HE2.out _ hfr)
      have HC := Lib.hid (And.intro hcl hfr)
      have hk11 : (k : Int) < 11 := by omega
      have hk0 : (0 : Int) ≤ k := by omega
      clear hs hcl hfr
      go_wp2_with (first | (go_at_call 10; with_reducible refine hpar.mono ?_; rintro e w3 ⟨rfl, hf3⟩))
      refine ⟨⟨k + 1, by omega, by simp, (fr_two HC.out.2 hf3).alloc _, fun j s hj => ?_⟩, by simp [intOf]; omega⟩
      have hc1 := HC.out.1 j s hj
      have hlt1 := World.block_lt_of_cell? _ _ hc1
      have e1 : w3.heap[w2.heap.size + 1]? = _ := hf3.block _ hlt1 (fun h => h)
      exact (World.cell?_of_block (a := ⟨w2.heap.size + 1, j, none⟩) ((Below.heap_alloc w3 _ _ (Nat.lt_of_lt_of_le hlt1 hf3.size)).trans e1)).trans hc1
    · obtain rfl : k = 11 := by omega
      have haw := awake_any wr (HE2.out _ hfr)
      have HC := Lib.hid hfr
      clear hcl hfr
      go_wp2_with (first | (go_at_call 8; with_reducible refine haw.mono ?_; rintro e w3 ⟨rfl, hf3⟩))
      go_ret
      exact ⟨rfl, fr_two HC.out hf3⟩
end Go.Proofs.YtenigphjddnknaaGreatDoor
