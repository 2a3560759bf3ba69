/-
  RunChain: the rules hold, whatever the numbers are.
-/
import Derived.Test.YtnlinpocnopibaaGreatDoorRcR
import Derived.Test.YtnlinpocnopibaaGreatDoorRuC
import Derived.Test.YtnlinpocnopibaaGreatDoorFwE
namespace Go.Proofs.YtnlinpocnopibaaGreatDoor
open Go Go.RowKit Go.Viv Go.Eva Go.Fv Go.Fw
set_option maxHeartbeats 8000000 in
theorem awakeR_true : True_ 19 [] := closed_any (aw := none) (fun _ h => by cases h) (by kernel_rfl)
end Go.Proofs.YtnlinpocnopibaaGreatDoor
namespace Go.Proofs.YtnlinpocnopibaaGreatDoor
open Go Go.RowKit Go.Viv Go.Eva Go.Fv Go.Fw
set_option maxHeartbeats 8000000 in
theorem chab1 : runG (awIc (some 19)) (chB 1 0) 6 [tk 0, tk 1, tk 2, tk 3] = true := by kernel_rfl
set_option maxHeartbeats 8000000 in
theorem chab2 : runG (awIc (some 19)) (chB 2 0) 6 [tk 0, tk 1, tk 2, tk 3] = true := by kernel_rfl
set_option maxHeartbeats 8000000 in
theorem chab3 : runG (awIc (some 19)) (chB 3 0) 6 [tk 0, tk 1, tk 2, tk 3] = true := by kernel_rfl
set_option maxHeartbeats 8000000 in
theorem chab4 : runG (awIc (some 19)) (chB 4 0) 6 [tk 0, tk 1, tk 2, tk 3] = true := by kernel_rfl
set_option maxHeartbeats 8000000 in
theorem chab5 : runG (awIc (some 19)) (chB 5 0) 6 [tk 0, tk 1, tk 2, tk 3] = true := by kernel_rfl
set_option maxHeartbeats 8000000 in
theorem chab6 : runG (awIc (some 19)) (chB 6 0) 6 [tk 0, tk 1, tk 2, tk 3] = true := by kernel_rfl
set_option maxHeartbeats 8000000 in
theorem chab7 : runG (awIc (some 19)) (chB 7 0) 6 [tk 0, tk 1, tk 2, tk 3] = true := by kernel_rfl
set_option maxHeartbeats 8000000 in
theorem chab8 : runG (awIc (some 19)) (chB 8 0) 6 [tk 0, tk 1, tk 2, tk 3] = true := by kernel_rfl
end Go.Proofs.YtnlinpocnopibaaGreatDoor
namespace Go.Proofs.YtnlinpocnopibaaGreatDoor
open Go Go.RowKit Go.Viv Go.Eva Go.Fv Go.Fw
theorem wrap_in (a b : Int) : IntKind.i64.wrap (IntKind.i64.wrap a + b) = IntKind.i64.wrap (a + b) := by
  simp only [IntKind.wrap_i64]
  omega
def chW' (first : Int) (N r : Nat) : Nat → Int
  | 0 => first
  | i + 1 => IntKind.i64.wrap (IntKind.i64.wrap (2 * chW' first N r i) + (Int.ofNat ((i + r) % N) + 1))
/-- The picks from the j-th on. -/
def chPv (A : Option Addr) (len cp j : Nat) : Value := match A with
  | some ⟨b, o, none⟩ => .slice (some ⟨b, o + min j (cp - 1), none⟩) (len - j) (cp - j)
  | A => .slice A len cp
def chV (A : Option Addr) (xs : List Int) (cp : Nat) (n t first : Int) (N r k : Nat) : Value :=
  if k < 10 then (if k = 0 then .int .i64 n else if k = 1 then .int .i64 t else if k = 2 then .int .i64 first else if k = 3 then .slice A xs.length cp else if k = 4 then .int .i64 (t % 256) else n6 xs.length)
  else if k < 50 then n6 ((k - 10) + (t % 256).toNat) else if k < 70 then .int .i64 (chW' first N r (k - 50)) else if k < 90 then .int .i64 (IntKind.i64.wrap (2 * chW' first N r (k - 70)))
  else if k < 110 then .int .i64 (IntKind.i64.wrap (IntKind.i64.wrap (2 * chW' first N r (k - 90)) + Int.ofNat ((k - 90 + r) % N))) else if k < 130 then .bool (decide (k - 110 = xs.length)) else if k < 150 then chPv A xs.length cp (k - 130)
  else if k < 170 then .pointer (A.map fun a => ⟨a.block, a.off + (k - 150), none⟩) else if k < 190 then .int .i64 (xs.getD (k - 170) 0) else n6 (xs.length - (k - 190))
theorem chPv_one (A : Option Addr) (len cp j : Nat) : (chPv A len cp j).oneCell' = true := by
  unfold chPv
  split <;> rfl
def chT (A : Option Addr) (xs : List Int) (cp : Nat) (n t first : Int) (N r : Nat) : Toks := ⟨chV A xs cp n t first N r, fun k => by
  unfold chV
  repeat' split
  all_goals first | rfl | exact chPv_one _ _ _ _⟩
section
variable {A : Option Addr} {xs : List Int} {cp : Nat} {n t first : Int} {N r i j : Nat}
theorem ch10 (h : i < 20) : (chT A xs cp n t first N r).v (10 + i) = n6 (i + (t % 256).toNat) := by
  show chV A xs cp n t first N r (10 + i) = _
  unfold chV
  rw [if_neg (by omega), if_pos (by omega), Nat.add_sub_cancel_left]
theorem chW_v (h : i ≤ 10) : valT (chT A xs cp n t first N r) (chW i) = .int .i64 (chW' first N r i) := by
  cases i with
  | zero => rfl
  | succ i =>
    show chV A xs cp n t first N r (51 + i) = _
    unfold chV
    rw [if_neg (by omega), if_neg (by omega), if_pos (by omega), show 51 + i - 50 = i + 1 by omega]
theorem ch70 (h : i < 10) : (chT A xs cp n t first N r).v (70 + i) = .int .i64 (IntKind.i64.wrap (2 * chW' first N r i)) := by
  show chV A xs cp n t first N r (70 + i) = _
  unfold chV
  rw [if_neg (by omega), if_neg (by omega), if_neg (by omega), if_pos (by omega), Nat.add_sub_cancel_left]
theorem ch90 (h : i < 10) : (chT A xs cp n t first N r).v (90 + i) = .int .i64 (IntKind.i64.wrap (IntKind.i64.wrap (2 * chW' first N r i) + Int.ofNat ((i + r) % N))) := by
  show chV A xs cp n t first N r (90 + i) = _
  unfold chV
  rw [if_neg (by omega), if_neg (by omega), if_neg (by omega), if_neg (by omega), if_pos (by omega), Nat.add_sub_cancel_left]
theorem ch110 (h : i < 10) : (chT A xs cp n t first N r).v (110 + i) = .bool (decide (i = xs.length)) := by
  show chV A xs cp n t first N r (110 + i) = _
  unfold chV
  rw [if_neg (by omega), if_neg (by omega), if_neg (by omega), if_neg (by omega), if_neg (by omega), if_pos (by omega), Nat.add_sub_cancel_left]
theorem chP_v (h : j ≤ 10) {b o : Nat} (hA : A = some ⟨b, o, none⟩) : valT (chT A xs cp n t first N r) (chP j) = .slice (some ⟨b, o + min j (cp - 1), none⟩) (xs.length - j) (cp - j) := by
  cases j with
  | zero =>
    show Value.slice A xs.length cp = _
    rw [hA, Nat.zero_min]
    rfl
  | succ j =>
    show chV A xs cp n t first N r (131 + j) = _
    unfold chV
    rw [if_neg (by omega), if_neg (by omega), if_neg (by omega), if_neg (by omega), if_neg (by omega), if_neg (by omega), if_pos (by omega), show 131 + j - 130 = j + 1 by omega, hA]
    rfl
theorem ch150 (h : j < 10) {b o : Nat} (hA : A = some ⟨b, o, none⟩) : (chT A xs cp n t first N r).v (150 + j) = .pointer (some ⟨b, o + j, none⟩) := by
  show chV A xs cp n t first N r (150 + j) = _
  unfold chV
  rw [if_neg (by omega), if_neg (by omega), if_neg (by omega), if_neg (by omega), if_neg (by omega), if_neg (by omega), if_neg (by omega), if_pos (by omega), Nat.add_sub_cancel_left, hA]
  rfl
theorem ch170 (h : j < 10) : (chT A xs cp n t first N r).v (170 + j) = .int .i64 (xs.getD j 0) := by
  show chV A xs cp n t first N r (170 + j) = _
  unfold chV
  rw [if_neg (by omega), if_neg (by omega), if_neg (by omega), if_neg (by omega), if_neg (by omega), if_neg (by omega), if_neg (by omega), if_neg (by omega), if_pos (by omega), Nat.add_sub_cancel_left]
theorem ch190 (h : j < 10) : (chT A xs cp n t first N r).v (190 + j) = n6 (xs.length - j) := by
  show chV A xs cp n t first N r (190 + j) = _
  unfold chV
  rw [if_neg (by omega), if_neg (by omega), if_neg (by omega), if_neg (by omega), if_neg (by omega), if_neg (by omega), if_neg (by omega), if_neg (by omega), if_neg (by omega), Nat.add_sub_cancel_left]
theorem ok_cW : okV (chW i) = true := by cases i <;> rfl
theorem ok_cP : okV (chP j) = true := by cases j <;> rfl
end
theorem dec_eqN {x y : Nat} : decide ((Int.ofNat x : Int) < Int.ofNat y) = decide (x < y) := decide_eq_decide.2 ⟨fun h => Int.ofNat_lt.1 h, fun h => Int.ofNat_lt.2 h⟩
theorem rl_andC {ν : Toks} {x : Value} {n : Int} {m : Int} {k c : Nat} (hx : valT ν x = .int .i64 n) (hk : k ≤ 62) (hm : (BitVec.ofInt 64 m).toNat = 2 ^ k - 1) (hc : n % ((2 ^ k : Nat) : Int) = c) : Rl.ok ν ⟨.and, x, .int .i64 m, n6 c⟩ := rl_and hx hk hm (by rw [hc]; rfl) rfl
theorem rl_rem1 {ν : Toks} {x : Value} {n : Int} (hx : valT ν x = .int .i64 n) : Rl.ok ν ⟨.rem, x, n6 1, n6 0⟩ := ⟨.i64, n, .i64, 1, hx, rfl, fun t => by
  rw [s_rem (by decide), Int.tmod_one]
  rfl, rfl⟩
theorem chR_ok {W : World} {A : Option Addr} {xs : List Int} {cp c r : Nat} {n t first : Int} (hc : c < 8) (hn : n % 8 = c) (hr : (t % 256).toNat % (c + 1) = r) (hl : xs.length ≤ 50) : (chR (c + 1) r).OK Tryz.prog (Begin.still W) (chT A xs cp n t first (c + 1) r) := by
  have hu : Tryz.prog.underlying 43 = some (.slice 3) := Tryz.underlying43
  refine ⟨fun q hq => ?_, (fun _ h => by cases h), (fun _ h => by cases h), fun q hq => ?_, fun q hq => ?_, fun k hk => ?_⟩
  · rcases List.mem_append.1 hq with hq | hq
    · simp only [List.mem_cons, List.not_mem_nil, or_false] at hq
      rcases hq with rfl | rfl | rfl
      · exact rl_andC (n := n) (k := 3) rfl (by decide) (by decide) hn
      · exact rl_and (n := t) (k := 8) rfl (by decide) (by decide) rfl rfl
      · refine rl_gtr (k := .i64) rfl rfl ?_ rfl
        show Value.bool false = Value.bool (decide (Int.ofNat 50 < Int.ofNat xs.length))
        rw [dec_eqN, decide_eq_false (by omega)]
    · obtain ⟨i, hi, hq⟩ := mem_upto hq
      simp only [chL, List.mem_cons, List.not_mem_nil, or_false] at hq
      have h256 : (t % 256).toNat < 256 := by omega
      rcases hq with rfl | rfl | rfl | rfl | rfl | rfl | rfl
      · exact rl_add (a := i) (b := (t % 256).toNat) rfl (by show Value.int .i64 (t % 256) = Value.int .i64 _; rw [Int.ofNat_eq_natCast, Int.toNat_of_nonneg (by omega)]) (ch10 (by omega)) (by omega) rfl
      · refine rl_rem (n := Int.ofNat (i + (t % 256).toNat)) (ch10 (by omega)) (by simp only [Int.ofNat_eq_natCast]; omega) (by simp only [Int.ofNat_eq_natCast]; omega) ?_
        have e : (i + r) % (c + 1) = (i + (t % 256).toNat) % (c + 1) := by rw [← hr, Nat.add_mod_mod]
        rw [e]
        rfl
      · exact rl_mulW rfl (chW_v (by omega)) (ch70 (by omega)) rfl
      · exact rl_addW (chW_v (by omega)) (chW_v (by omega)) ((ch70 (by omega)).trans (by rw [Int.two_mul])) rfl
      · exact rl_addW (ch70 (by omega)) rfl (ch90 (by omega)) rfl
      · refine rl_addW (ch90 (by omega)) rfl ((chW_v (by omega)).trans ?_) ok_cW
        rw [wrap_in, Int.add_assoc]
        rfl
      · refine rl_addW (ch70 (by omega)) rfl ((chW_v (by omega)).trans ?_) ok_cW
        rfl
  · obtain ⟨i, hi, hq⟩ := mem_upto hq
    simp only [List.mem_cons, List.not_mem_nil, or_false] at hq
    subst hq
    exact rp_tst (ch110 (by omega))
  · simp only [chR, List.mem_cons, List.not_mem_nil, or_false] at hq
    subst hq
    exact rx_len hu (A := A) (c := cp) rfl rfl rfl
  · simp only [chR, Bool.or_eq_true, Bool.and_eq_true, Nat.ble_eq, nblt_iff] at hk
    show ∃ n', chV A xs cp n t first (c + 1) r k = .int .i64 n'
    rcases hk with hk | hk
    · have := beq_iff hk
      subst this
      exact ⟨_, rfl⟩
    · unfold chV
      rw [if_neg (by omega), if_neg (by omega)]
      repeat' split
      all_goals first | exact ⟨_, rfl⟩ | omega
/-- What is said of the first picks. -/
theorem chX {W : World} {A : Option Addr} {xs : List Int} {cp N r j : Nat} {n t first : Int} (hcp : xs.length ≤ cp) (hrow : RowC W A (xs.flatMap fun n => [Value.int .i64 n])) (hj : j < xs.length) (hj8 : j < 9) :
    Rx.ok Tryz.prog (Begin.still W) (chT A xs cp n t first N r) ⟨isIdx 43, [chP j, n6 0], tk (150 + j)⟩ ∧ Rx.ok Tryz.prog (Begin.still W) (chT A xs cp n t first N r) ⟨isLd 3, [tk (150 + j)], tk (170 + j)⟩ ∧ Rx.ok Tryz.prog (Begin.still W) (chT A xs cp n t first N r) ⟨isSl 43, [chP j, n6 1], chP (j + 1)⟩ := by
  have hu : Tryz.prog.underlying 43 = some (.slice 3) := Tryz.underlying43
  rcases hrow with h0 | ⟨b, o, hA, hb, hcell⟩
  · cases xs with
    | nil => simp at hj
    | cons x l => simp at h0
  have hget := row_get hj
  have hmin : min j (cp - 1) = j := by omega
  refine ⟨rx_idx hu (by kernel_rfl) (chP_v (by omega) hA) (by omega) ?_ rfl, rx_ld (by kernel_rfl) (ch150 (by omega) hA) hb (fun h => h) (hcell j _ hget) (ch170 (by omega)) rfl, ?_⟩
  · rw [hmin]
    exact ch150 (by omega) hA
  · obtain ⟨l, hl⟩ : ∃ l, xs.length - j = l + 1 := ⟨xs.length - j - 1, by omega⟩
    obtain ⟨q, hq⟩ : ∃ q, cp - j = q + 1 := ⟨cp - j - 1, by omega⟩
    refine rx_sl hu (by kernel_rfl) (b := b) (o' := o + j) (n := l) (c := q) ?_ (by omega) ?_ ok_cP
    · rw [chP_v (by omega) hA, hl, hq, hmin]
    · rw [chP_v (by omega) hA, show xs.length - (j + 1) = l by omega, show cp - (j + 1) = q by omega]
      by_cases h : q = 0
      · rw [if_pos h, show min (j + 1) (cp - 1) = j by omega]
      · rw [if_neg h, show min (j + 1) (cp - 1) = j + 1 by omega]
        rfl
theorem chP_len {W : World} {A : Option Addr} {xs : List Int} {cp N r j m : Nat} {n t first : Int} {y : Value} (hrow : RowC W A (xs.flatMap fun n => [Value.int .i64 n])) (hj : j ≤ xs.length) (hj8 : j ≤ 9) (hm : xs.length - j = m) (hy : valT (chT A xs cp n t first N r) y = n6 m) (ho : okV y = true) : Rx.ok Tryz.prog (Begin.still W) (chT A xs cp n t first N r) ⟨isLen 43, [chP j], y⟩ := by
  have hu : Tryz.prog.underlying 43 = some (.slice 3) := Tryz.underlying43
  rcases hrow with h0 | ⟨b, o, hA, hb, hcell⟩
  · cases xs with
    | nil =>
      obtain rfl : j = 0 := by simpa using hj
      subst hm
      exact rx_len hu (A := A) (n := 0) (c := cp) rfl hy ho
    | cons x l => simp at h0
  · subst hm
    exact rx_len hu (chP_v (by omega) hA) hy ho
theorem chC_ok {W : World} {A : Option Addr} {xs : List Int} {cp c r : Nat} {n t first : Int} (hc : c < 8) (hn : n % 8 = c) (hr : (t % 256).toNat % (c + 1) = r) (hl : xs.length ≤ 50) (hcp : xs.length ≤ cp) (hrow : RowC W A (xs.flatMap fun n => [Value.int .i64 n])) : ∀ l cs s, chC (c + 1) r l = some (cs, s) → CasOK (Begin.still W) (chT A xs cp n t first (c + 1) r) cs s := fun l cs s h => by
  have hR := chR_ok (W := W) (A := A) (cp := cp) (first := first) hc hn hr hl
  have nil_ : ∀ {α : Type} {q : α → Prop}, ∀ r ∈ ([] : List α), q r := fun _ h => by cases h
  cases h
  refine CasOK.all (A := xs.length) (c + 1) (fun i hi => ch110 (by omega)) (fun m hm e => ?_) (fun h => ?_)
  · refine hR.more (fun q hq => ?_) nil_ nil_ nil_ (fun q hq => ?_)
    · obtain ⟨j, hj, hq⟩ := mem_upto hq
      simp only [List.mem_cons, List.not_mem_nil, or_false] at hq
      subst hq
      exact rl_rem1 (ch170 (by omega))
    · rcases List.mem_append.1 hq with hq | hq
      · obtain ⟨j, hj, hq⟩ := mem_upto hq
        obtain ⟨g1, g2, g3⟩ := chX (N := c + 1) (r := r) (n := n) (t := t) (first := first) hcp hrow (j := j) (by omega) (by omega)
        simp only [List.mem_cons, List.not_mem_nil, or_false] at hq
        rcases hq with rfl | rfl | rfl
        · exact g1
        · exact g2
        · exact g3
      · obtain ⟨j, hj, hq⟩ := mem_upto hq
        simp only [List.mem_cons, List.not_mem_nil, or_false] at hq
        subst hq
        exact chP_len hrow (by omega) (by omega) (by omega) rfl rfl
  · refine hR.more (fun q hq => ?_) nil_ nil_ nil_ (fun q hq => ?_)
    · obtain ⟨j, hj, hq⟩ := mem_upto hq
      simp only [List.mem_cons, List.not_mem_nil, or_false] at hq
      rcases hq with rfl | rfl
      · exact rl_rem1 (ch170 (by omega))
      · refine rl_gtr (k := .i64) (ch190 (by omega)) rfl ?_ rfl
        show Value.bool true = Value.bool (decide (Int.ofNat 0 < Int.ofNat (xs.length - j)))
        rw [dec_eqN, decide_eq_true (by omega)]
    · obtain ⟨j, hj, hq⟩ := mem_upto hq
      obtain ⟨g1, g2, g3⟩ := chX (N := c + 1) (r := r) (n := n) (t := t) (first := first) hcp hrow (j := j) (by omega) (by omega)
      simp only [List.mem_cons, List.not_mem_nil, or_false] at hq
      rcases hq with rfl | rfl | rfl | rfl
      · exact g1
      · exact g2
      · exact g3
      · exact chP_len hrow (by omega) (by omega) rfl (ch190 (by omega)) rfl
theorem chB_ok {W : World} {A : Option Addr} {xs : List Int} {cp c r : Nat} {n t first : Int} (hn : n % 8 = c) (hl : 50 < xs.length) : (chB (c + 1) r).OK Tryz.prog (Begin.still W) (chT A xs cp n t first (c + 1) r) := by
  have hu : Tryz.prog.underlying 43 = some (.slice 3) := Tryz.underlying43
  refine ⟨fun q hq => ?_, (fun _ h => by cases h), (fun _ h => by cases h), (fun _ h => by cases h), fun q hq => ?_, fun k hk => by cases hk⟩
  · simp only [chB, List.mem_cons, List.not_mem_nil, or_false] at hq
    rcases hq with rfl | rfl
    · exact rl_andC (n := n) (k := 3) rfl (by decide) (by decide) hn
    · refine rl_gtr (k := .i64) rfl rfl ?_ rfl
      show Value.bool true = Value.bool (decide (Int.ofNat 50 < Int.ofNat xs.length))
      rw [dec_eqN, decide_eq_true (by omega)]
  · simp only [chB, List.mem_cons, List.not_mem_nil, or_false] at hq
    subst hq
    exact rx_len hu (A := A) (c := cp) rfl rfl rfl
end Go.Proofs.YtnlinpocnopibaaGreatDoor
