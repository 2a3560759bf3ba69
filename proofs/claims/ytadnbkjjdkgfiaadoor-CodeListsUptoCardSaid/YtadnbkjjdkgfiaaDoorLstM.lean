/-
  A program's text parted at each semicolon with a blank behind it: plain lists of bytes.
-/
import Derived.Test.YtadnbkjjdkgfiaaDoorTxtB
import Derived.Test.YtadnbkjjdkgfiaaDoorSkipA
import Derived.Lib.QuietBelow
import Derived.BigQuiet
import Derived.Test.YtadnbkjjdkgfiaaDoorCodI
import Derived.Test.YtadnbkjjdkgfiaaDoorTxtD
namespace Go.Viv
open Go.Lib Go.Proofs.YtadnbkjjdkgfiaaDoor Go.RowKit

/-- The pieces of a text between its semicolons with a blank behind them. -/
def parts2 : List UInt8 → List (List UInt8)
  | [] => [[]]
  | [c] => [[c]]
  | c :: d :: r => if c = 59 ∧ d = 32 then [] :: parts2 r else
    match parts2 (d :: r) with
    | [] => [[c]]
    | x :: xs => (c :: x) :: xs
/-- A semicolon with a blank behind it stands there. -/
def semiAt (l : List UInt8) (j : Nat) : Prop := l[j]? = some 59 ∧ l[j + 1]? = some 32
theorem parts2_ne : ∀ l, parts2 l ≠ []
  | [] => by simp [parts2]
  | [c] => by simp [parts2]
  | c :: d :: r => by
    unfold parts2
    split
    · simp
    · split <;> simp
theorem parts2_cons {c : UInt8} {r : List UInt8} (h : ¬ semiAt (c :: r) 0) : parts2 (c :: r) = match parts2 r with
    | [] => [[c]]
    | x :: xs => (c :: x) :: xs := by
  cases r with
  | nil => rfl
  | cons d r =>
    rw [parts2, if_neg]
    rintro ⟨rfl, rfl⟩
    exact h ⟨rfl, rfl⟩
theorem semi_succ {c : UInt8} {r : List UInt8} {j : Nat} : semiAt (c :: r) (j + 1) ↔ semiAt r j := by simp [semiAt]
theorem parts2_cut : ∀ (k : Nat) (s : List UInt8), (∀ j, j < k → ¬ semiAt s j) → semiAt s k → parts2 s = s.take k :: parts2 (s.drop (k + 2))
  | 0, s, _, h => by
    match s, h with
    | [], h => simp [semiAt] at h
    | [c], h => simp [semiAt] at h
    | c :: d :: r, h =>
      obtain ⟨h1, h2⟩ := h
      simp at h1 h2
      subst h1 h2
      simp [parts2]
  | k + 1, s, hn, h => by
    match s, h with
    | [], h => simp [semiAt] at h
    | c :: r, h =>
      rw [parts2_cons (hn 0 (Nat.succ_pos _)), parts2_cut k r (fun j hj hs => hn (j + 1) (by omega) (semi_succ.2 hs)) (semi_succ.1 h)]
      simp
theorem parts2_last : ∀ (s : List UInt8), (∀ j, ¬ semiAt s j) → parts2 s = [s]
  | [], _ => rfl
  | c :: r, h => by rw [parts2_cons (h 0), parts2_last r (fun j hj => h (j + 1) (semi_succ.2 hj))]
theorem semi_zero {b : UInt8} {l : List UInt8} : ([59, 32] : List UInt8).isPrefixOf (b :: l) = true ↔ semiAt (b :: l) 0 := by
  match l with
  | [] => simp [semiAt, List.isPrefixOf]
  | d :: l =>
    simp only [semiAt, List.isPrefixOf, List.getElem?_cons_zero, List.getElem?_cons_succ, Bool.and_true, Bool.and_eq_true, beq_iff_eq, Option.some.injEq]
    exact ⟨fun ⟨h1, h2⟩ => ⟨h1.symm, h2.symm⟩, fun ⟨h1, h2⟩ => ⟨h1.symm, h2.symm⟩⟩
theorem index2 : ∀ l : List UInt8, (Lib.index l [59, 32] = -1 ∧ ∀ j, ¬ semiAt l j) ∨ ∃ i : Nat, Lib.index l [59, 32] = i ∧ semiAt l i ∧ ∀ j, j < i → ¬ semiAt l j
  | [] => .inl ⟨rfl, fun j h => by simp [semiAt] at h⟩
  | b :: l => by
    unfold Lib.index
    by_cases h : semiAt (b :: l) 0
    · rw [if_pos (semi_zero.2 h)]
      exact .inr ⟨0, rfl, h, fun j hj => absurd hj (Nat.not_lt_zero _)⟩
    · rw [if_neg (fun e => h (semi_zero.1 e))]
      rcases index2 l with ⟨e, hn⟩ | ⟨i, e, hs, hn⟩
      · rw [e]
        refine .inl ⟨rfl, fun j hj => ?_⟩
        cases j with
        | zero => exact h hj
        | succ j => exact hn j (semi_succ.1 hj)
      · rw [e, if_neg (by rw [beq_iff_eq]; omega)]
        refine .inr ⟨i + 1, by push_cast; rfl, semi_succ.2 hs, fun j hj hq => ?_⟩
        cases j with
        | zero => exact h hq
        | succ j => exact hn j (by omega) (semi_succ.1 hq)
theorem indexB2_hit {l : List UInt8} {i : Nat} (h : Lib.indexB ⟨l.toArray⟩ ⟨#[59, 32]⟩ = i) : parts2 l = l.take i :: parts2 (l.drop (i + 2)) := by
  have h' : Lib.index l [59, 32] = i := h
  rcases index2 l with ⟨e, _⟩ | ⟨k, e, hs, hn⟩
  · omega
  · obtain rfl : k = i := by omega
    exact parts2_cut k l hn hs
theorem indexB2_miss {l : List UInt8} (h : Lib.indexB ⟨l.toArray⟩ ⟨#[59, 32]⟩ = -1) : parts2 l = [l] := by
  have h' : Lib.index l [59, 32] = -1 := h
  rcases index2 l with ⟨_, hn⟩ | ⟨k, e, _, _⟩
  · exact parts2_last l hn
  · omega
theorem parts2_len : ∀ l : List UInt8, (parts2 l).length ≤ l.length + 1
  | [] => by simp [parts2]
  | [c] => by simp [parts2]
  | c :: d :: r => by
    unfold parts2
    split
    · have := parts2_len r
      simp; omega
    · have h1 := parts2_len (d :: r)
      have h2 := parts2_ne (d :: r)
      split
      · simp
      · rename_i h
        rw [h] at h1
        simp at h1 ⊢
        omega
theorem parts2_le : ∀ (l x : List UInt8), x ∈ parts2 l → x.length ≤ l.length
  | [], x, h => by simp [parts2] at h; simp [h]
  | [c], x, h => by simp [parts2] at h; simp [h]
  | c :: d :: r, x, h => by
    unfold parts2 at h
    split at h
    · simp only [List.mem_cons] at h
      rcases h with rfl | h
      · simp
      · have := parts2_le r x h
        simp; omega
    · split at h
      · simp at h; simp [h]
      · rename_i y ys e
        simp only [List.mem_cons] at h
        rcases h with rfl | h
        · have := parts2_le (d :: r) y (by rw [e]; simp)
          simp at this ⊢; omega
        · have := parts2_le (d :: r) x (by rw [e]; simp [h])
          simp at this ⊢; omega
/-- The pieces of instructions' texts, joined, are these texts. -/
theorem parts2_piece : ∀ (x r : List UInt8), (∀ c ∈ x, c ≠ 59) → parts2 (x ++ 59 :: 32 :: r) = x :: parts2 r
  | [], r, _ => by simp [parts2]
  | c :: x, r, h => by
    have h1 := parts2_piece x r (fun d hd => h d (by simp [hd]))
    have hc : c ≠ 59 := h c (by simp)
    rw [List.cons_append, parts2_cons (fun hs => hc (by have := hs.1; simpa using this)), h1]
theorem parts2_end (x : List UInt8) (h : ∀ c ∈ x, c ≠ 59) : parts2 x = [x] :=
  parts2_last x (fun _ hj => h 59 (List.mem_of_getElem? hj.1) rfl)
/-- All pieces are instructions: these; one is not: none. -/
def listR : List (List UInt8) → Option (List Insn)
  | [] => some []
  | x :: xs => match parseI (wds 32 x), listR xs with
    | some i, some r => some (i :: r)
    | _, _ => none
def listsI (l : List UInt8) : Option (List Insn) := if l = [] then some [] else listR (parts2 l)
end Go.Viv
/-
  Two programs compared; a program's text, and the document's reading of a program.
-/
namespace Go.Viv
open Go.Lib Go.Proofs.YtadnbkjjdkgfiaaDoor Go.RowKit
theorem take_next {α : Type} {l : List α} {k : Nat} {x : α} (h : l[k]? = some x) : l.take (k + 1) = l.take k ++ [x] := by
  rw [List.take_add_one, h]; rfl
theorem insn_parts {x y : Insn} (h : x ≠ y) : ((x.op == y.op) = false) ∨ ((x.op == y.op) = true ∧ (x.r == y.r) = false) ∨ ((x.op == y.op) = true ∧ (x.r == y.r) = true ∧ (x.s == y.s) = false) ∨ ((x.op == y.op) = true ∧ (x.r == y.r) = true ∧ (x.s == y.s) = true ∧ (x.n == y.n) = false) := by
  by_cases h1 : x.op = y.op
  · by_cases h2 : x.r = y.r
    · by_cases h3 : x.s = y.s
      · by_cases h4 : x.n = y.n
        · exact absurd (by cases x; cases y; simp_all) h
        · exact .inr (.inr (.inr ⟨by simpa using h1, by simpa using h2, by simpa using h3, by simpa using h4⟩))
      · exact .inr (.inr (.inl ⟨by simpa using h1, by simpa using h2, by simpa using h3⟩))
    · exact .inr (.inl ⟨by simpa using h1, by simpa using h2⟩)
  · exact .inl (by simpa using h1)
theorem takes_ne {α : Type} {l m : List α} {k : Nat} {x y : α} (hx : l[k]? = some x) (hy : m[k]? = some y) (h : x ≠ y) : l ≠ m := by
  rintro rfl
  rw [hx] at hy
  exact h (Option.some.inj hy)
open Classical in
noncomputable def sameB (is js : List Insn) : Bool := decide (is = js)
open Classical in
theorem sameB_eq {is js : List Insn} (h : is = js) : sameB is js = true := by unfold sameB; exact decide_eq_true h
open Classical in
theorem sameB_ne {is js : List Insn} (h : is ≠ js) : sameB is js = false := by unfold sameB; exact decide_eq_false h
end Go.Viv
namespace Go.Proofs.YtadnbkjjdkgfiaaDoor
open Go.RowKit Go.Viv
set_option maxRecDepth 100000 in
set_option maxHeartbeats 2000000 in
theorem sameI_any (is js : List Insn) (A B : Option Addr) (ca cb : Nat) (w : World) (hr : RowC w A (is.flatMap cellsI)) (_h1 : is.length ≤ ca) (_h2 : ca ≤ 9223372036854775807) (hr' : RowC w B (js.flatMap cellsI)) (_h3 : js.length ≤ cb) (_h4 : cb ≤ 9223372036854775807) :
    Calls Tryd.prog 40 #[.slice A is.length ca, .slice B js.length cb] w fun e w' => e = .returned (.bool (sameB is js)) ∧ Fr (fun _ => False) w w' := by
  have HR := Lib.hid (And.intro hr hr')
  clear hr hr'
  obtain ⟨n, hn⟩ : ∃ n, is.length = n := ⟨_, rfl⟩
  obtain ⟨m, hm⟩ : ∃ n, js.length = n := ⟨_, rfl⟩
  rw [hn] at _h1
  rw [hm] at _h3
  rw [hn, hm]
  have HN := Lib.hid (And.intro hn hm)
  clear hn hm
  by_cases hnm : n = m
  · subst hnm
    have hne : ((n : Int) != (n : Int)) = false := by simp
    go_enter Tryd.func40, Tryd.ntmps40
    go_wp2_with fail
    go_loopw [5] (fun t wr => ∃ k : Nat, k ≤ n ∧ t = .int .i64 k ∧ is.take k = js.take k ∧ Fr (fun _ => False) w wr) (fun t _ => n - (intOf t).toNat)
    case atStart => exact ⟨0, by omega, rfl, by simp, Fr.refl _ _⟩
    case round =>
      obtain ⟨k, hk, rfl, hall, hfr⟩ := hrel
      by_cases hlt : k < n
      · have hlt' : (k : Int) < n := by omega
        obtain ⟨x, hx⟩ : ∃ i, is[k]? = some i := ⟨_, List.getElem?_eq_getElem (by rw [HN.out.1]; exact hlt)⟩
        obtain ⟨y, hy⟩ : ∃ i, js[k]? = some i := ⟨_, List.getElem?_eq_getElem (by rw [HN.out.2]; exact hlt)⟩
        obtain ⟨b, o, rfl, hbw, c0, c1, c2, c3⟩ := rowI_at (HR.out.1.fr hfr) hx
        obtain ⟨b', o', rfl, hbw', d0, d1, d2, d3⟩ := rowI_at (HR.out.2.fr hfr) hy
        have k0 := cell_regrown c0
        have k1 := cell_regrown c1
        have k2 := cell_regrown c2
        have k3 := cell_regrown c3
        have j0 := cell_regrown d0
        have j1 := cell_regrown d1
        have j2 := cell_regrown d2
        have j3 := cell_regrown d3
        clear c0 c1 c2 c3 d0 d1 d2 d3
        have HB := Lib.hid (And.intro hfr (And.intro hall (And.intro hx hy)))
        clear hfr hall hx hy
        obtain ⟨wB, hwB⟩ : ∃ wB, wB = wr := ⟨wr, rfl⟩
        subst hwB
        by_cases hxy : x = y
        · subst hxy
          go_wp2_with fail
          refine wp_region_quiet_below (by kernel_rfl) (by kernel_rfl) ?_
          repeat (first | go_big_quiet_step (fail) | quiet_step (fail))
          refine wpQuiet_nil ?_
          intro wq hq
          obtain ⟨pq, rfl⟩ := hq
          go_wp2_with fail
          go_roundw
          case rel => exact ⟨k + 1, by omega, by go_num, by rw [take_next HB.out.2.2.1, take_next HB.out.2.2.2, HB.out.2.1], fr_regrown HB.out.1 _ _⟩
          case measure => simp [intOf]; omega
        · have HNE := Lib.hid (takes_ne HB.out.2.2.1 HB.out.2.2.2 hxy)
          rcases insn_parts hxy with h1 | ⟨h1, h2⟩ | ⟨h1, h2, h3⟩ | ⟨h1, h2, h3, h4⟩
          all_goals
            clear hxy
            go_wp2_with fail
            refine wp_region_quiet_below (by kernel_rfl) (by kernel_rfl) ?_
            repeat (first | go_big_quiet_step (fail) | quiet_step (fail))
            refine wpQuiet_nil ?_
            intro wq hq
            obtain ⟨pq, rfl⟩ := hq
            go_wp2_with fail
            go_ret
            exact ⟨by rw [sameB_ne HNE.out]; rfl, fr_regrown HB.out.1 _ _⟩
      · obtain rfl : n = k := by omega
        have HB := Lib.hid (And.intro hfr (show is = js from by rw [List.take_of_length_le (by rw [HN.out.1]; exact Nat.le_refl _), List.take_of_length_le (by rw [HN.out.2]; exact Nat.le_refl _)] at hall; exact hall))
        clear hfr hall
        go_wp2_with fail
        go_ret
        exact ⟨by rw [sameB_eq HB.out.2]; rfl, HB.out.1⟩
  · have hne : ((n : Int) != (m : Int)) = true := by simp; omega
    have hne2 : (n != m) = true := by simp; omega
    have HD := Lib.hid (show sameB is js = false from sameB_ne (fun h => hnm (by rw [← HN.out.1, ← HN.out.2, h])))
    go_enter Tryd.func40, Tryd.ntmps40
    go_wp2_with fail
    go_ret
    exact ⟨by rw [HD.out]; rfl, Fr.refl _ _⟩
end Go.Proofs.YtadnbkjjdkgfiaaDoor
/-
  A program's text.
-/
namespace Go.Viv
open Go.Lib Go.Proofs.YtadnbkjjdkgfiaaDoor Go.RowKit
theorem joinTail_snoc (sep x : List UInt8) (r : List (List UInt8)) : Lib.joinTail sep (r ++ [x]) = Lib.joinTail sep r ++ (sep ++ x) := by
  simp [Lib.joinTail]
theorem join_snoc {l : List (List UInt8)} (h : l ≠ []) (sep x : List UInt8) : Lib.join (l ++ [x]) sep = Lib.join l sep ++ (sep ++ x) := by
  cases l with
  | nil => exact absurd rfl h
  | cons a r => rw [List.cons_append, Lib.join_cons, Lib.join_cons, joinTail_snoc, List.append_assoc]
theorem join_len2 (sep : List UInt8) (ws : List (List UInt8)) (n : Nat) (h : ∀ x ∈ ws, x.length ≤ n) : (Lib.join ws sep).length ≤ ws.length * (n + sep.length) + n := by
  cases ws with
  | nil => simp [Lib.join_nil]
  | cons x r =>
    rw [Lib.join_length]
    have h1 := lens_le (x :: r) n h
    have h2 : sep.length * r.length ≤ r.length * sep.length := by rw [Nat.mul_comm]; exact Nat.le_refl _
    simp only [List.length_cons] at h1 ⊢
    rw [Nat.add_mul, Nat.mul_add] 
    rw [Nat.add_mul] at h1
    omega
end Go.Viv
namespace Go.Proofs.YtadnbkjjdkgfiaaDoor
open Go.RowKit Go.Viv
attribute [local go_sem ↓] wp_appendV
/-- strings.Join over a row of texts. -/
theorem join_any (ws : List (List UInt8)) (sep : List UInt8) (A : Option Addr) (cap : Nat) (w : World) (hr : RowC w A (cellsW ws)) (hn : ws.length ≤ cap) (hl : ws.length ≤ 1000) (hlen : (Lib.join ws sep).length ≤ 140737488355328) :
    Calls Tryd.prog 56 #[.slice A ws.length cap, str sep] w fun e w' => e = .returned (str (Lib.join ws sep)) ∧ Fr (fun _ => False) w w' := by
  rcases hr with hnil | ⟨bk, o, rfl, hbk, hcs⟩
  · have h2 : ws = [] := by simpa [cellsW] using hnil
    subst h2
    refine (Tryd.strings_Join_none A cap ⟨sep.toArray⟩ w).mono ?_
    rintro e w' ⟨rfl, rfl⟩
    exact ⟨rfl, Fr.refl _ _⟩
  · have e : (ws.map ((·.data.toList) ∘ fun l => (⟨l.toArray⟩ : ByteArray))) = ws := by
      conv => rhs; rw [← List.map_id ws]
      exact List.map_congr_left (fun _ _ => by simp)
    have hj := Tryd.strings_Join bk o cap (ws.map fun l => ⟨l.toArray⟩) ⟨sep.toArray⟩ w (fun j x hx => by
      have := hcs j (.string x) (by
        rw [List.getElem?_map] at hx ⊢
        cases h : ws[j]? with
        | none => rw [h] at hx; cases hx
        | some y => rw [h] at hx; obtain rfl := Option.some.inj hx; rfl)
      exact this) hbk (by rw [List.length_map]; omega) (by rw [List.length_map]; exact hn) (by rw [List.map_map, e]; exact hlen)
    rw [List.length_map, List.map_map, e] at hj
    refine hj.mono ?_
    rintro e w' ⟨rfl, hb⟩
    exact ⟨rfl, Fr.of_below hb⟩

set_option maxRecDepth 100000 in
set_option maxHeartbeats 2000000 in
theorem list_any (is : List Insn) (A : Option Addr) (cap : Nat) (w : World) (he : Env w) (hr : RowC w A (is.flatMap cellsI)) (hin : ∀ i ∈ is, inI i.r ∧ inI i.s ∧ inI i.n) (hsh : ∀ i ∈ is, (textI i).length ≤ 100) (hn : is.length ≤ 20) (_h1 : is.length ≤ cap) (_h2 : cap ≤ 9223372036854775807) :
    Calls Tryd.prog 38 #[.slice A is.length cap] w fun e w' => e = .returned (str (Lib.join (is.map textI) [59, 32])) ∧ Fr (fun _ => False) w w' := by
  have HE := Lib.hid he
  have HR := Lib.hid hr
  have HI := Lib.hid (And.intro hin hsh)
  obtain ⟨n, hnn⟩ : ∃ n, is.length = n := ⟨_, rfl⟩
  rw [hnn] at hn _h1 ⊢
  have HN := Lib.hid hnn
  clear he hr hin hsh hnn
  go_enter Tryd.func38, Tryd.ntmps38
  go_wp2_with fail
  go_loopw [3, 5, 8] (fun v _ t wr => ∃ k : Nat, k ≤ n ∧ t = .int .i64 k ∧ wr.ownsRow w.heap.size 9 1 v k (cellsW ((is.take k).map textI)) ∧ Fr (fun _ => False) w wr) (fun _ _ t _ => n - (intOf t).toNat)
  case atStart => exact ⟨0, by omega, rfl, World.ownsRow_nil _ _ _ _, Fr.refl _ _⟩
  case round =>
    obtain ⟨k, hk, rfl, hown, hfr⟩ := hrel
    by_cases hlt : k < n
    · have hlt' : (k : Int) < n := by omega
      obtain ⟨x, hx⟩ : ∃ i, is[k]? = some i := ⟨_, List.getElem?_eq_getElem (by rw [HN.out]; exact hlt)⟩
      obtain ⟨b, o, rfl, hbw, c0, c1, c2, c3⟩ := rowI_at (HR.out.fr hfr) hx
      have HX := Lib.hid (And.intro hx (HI.out.1 x (List.mem_of_getElem? hx)))
      have HB := Lib.hid (And.intro hown hfr)
      clear hown hfr hx
      obtain ⟨wB, hwB⟩ : ∃ wB, wB = wr := ⟨wr, rfl⟩
      subst hwB
      go_wp2_with fail
      refine (ctext_any x _ (HE.out.fr (HB.out.2.alloc _)) HX.out.2).mono ?_
      rintro e w2 ⟨rfl, hf2⟩
      obtain ⟨T, hT⟩ : ∃ T, textI x = T := ⟨_, rfl⟩
      have HT := Lib.hid hT
      rw [hT]
      clear hT
      have hown2 := own_fr (HB.out.1.alloc (.cells #[.int .i64 x.op, .int .i64 x.r, .int .i64 x.s, .int .i64 x.n] 42)) hf2 (fun _ _ h => h)
      have hfr2 := fr_two (HB.out.2.alloc (.cells #[.int .i64 x.op, .int .i64 x.r, .int .i64 x.s, .int .i64 x.n] 42)) hf2
      obtain ⟨v2, w3, happ, hown3, hfr3⟩ := app_one (P := Tryd.prog) (T := 37) Tryd.underlying37 info9 rfl (by omega) (hown2.alloc (.cells #[str T] 9)) (Blk.new w2 9 #[str T]) rfl (by simp [Value.oneCell']) (by unfold maxLen; omega) (by omega) (by have := hfr2.size; simp; omega)
      have H3 := Lib.hid (And.intro (show w3.ownsRow w.heap.size 9 1 v2 (k + 1) (cellsW ((is.take (k + 1)).map textI)) from by
        rw [take_next HX.out.1, List.map_append, List.map_cons, List.map_nil, cells_snoc, HT.out]; simpa using hown3) (hfr3 w (hfr2.alloc _) (Nat.le_refl _)))
      clear hown2 hfr2 hown3 hfr3 hf2
      go_wp2_with fail
      go_roundw
      case rel => exact ⟨k + 1, by omega, by go_num, H3.out.1, H3.out.2⟩
      case measure => simp [intOf]; omega
    · obtain rfl : n = k := by omega
      obtain ⟨A2, cap2, rfl, h1, h2, h3⟩ := rowC_of_own hown
      rw [List.take_of_length_le (by rw [HN.out]; exact Nat.le_refl _)] at h3
      have hj := join_any (is.map textI) [59, 32] A2 cap2 wr h3 (by rw [List.length_map, HN.out]; exact h1) (by rw [List.length_map, HN.out]; omega) (by
        have := join_len2 [59, 32] (is.map textI) 100 (fun y hy => by obtain ⟨i, hi, rfl⟩ := List.mem_map.1 hy; exact HI.out.2 i hi)
        rw [List.length_map, HN.out] at this
        simp at this
        omega)
      rw [List.length_map, HN.out] at hj
      have HJ := Lib.hid hj
      have HB := Lib.hid hfr
      clear hown hfr h3 hj
      go_wp2_with fail
      refine HJ.out.mono ?_
      rintro e w4 ⟨rfl, hf4⟩
      have H4 := Lib.hid (fr_two HB.out hf4)
      clear hf4
      go_wp2_with fail
      go_ret
      exact ⟨rfl, H4.out⟩
end Go.Proofs.YtadnbkjjdkgfiaaDoor
/-
  The document's reading of a program.
-/
namespace Go.Viv
open Go.Lib Go.Proofs.YtadnbkjjdkgfiaaDoor Go.RowKit
theorem listR_app : ∀ (a b : List (List UInt8)), listR (a ++ b) = match listR a, listR b with
    | some i, some r => some (i ++ r)
    | _, _ => none
  | [], b => by
    rw [List.nil_append]
    cases listR b <;> rfl
  | x :: a, b => by
    rw [List.cons_append, listR, listR, listR_app a b]
    cases parseI (wds 32 x) <;> cases listR a <;> cases listR b <;> rfl
/-- How far a program's text is read. -/
def LAt (l : List UInt8) (k f : Nat) (is : List Insn) : Prop :=
  (k ≤ l.length ∧ f ≤ l.length ∧ f ≤ k + 1 ∧ (f = k + 1 → l[k]? = some 32) ∧ (∀ j, f ≤ j → j < k → ¬ semiAt l j) ∧ is.length ≤ k ∧ ∃ ps, listR ps = some is ∧ parts2 l = ps ++ parts2 (l.drop f)) ∨ (k = l.length + 1 ∧ is.length ≤ k ∧ listR (parts2 l) = some is)
theorem LAt.start (l : List UInt8) : LAt l 0 0 [] := .inl ⟨Nat.zero_le _, Nat.zero_le _, by omega, by omega, fun j _ h => absurd h (Nat.not_lt_zero _), by simp, [], rfl, by simp⟩
theorem semi_drop {l : List UInt8} {f j : Nat} : semiAt (l.drop f) j ↔ semiAt l (f + j) := by
  unfold semiAt
  rw [List.getElem?_drop, List.getElem?_drop, show f + (j + 1) = f + j + 1 by omega]
theorem LAt.skip {l : List UInt8} {k f : Nat} {is : List Insn} (h : LAt l k f is) (hk : k < l.length) (hc : ¬ semiAt l k) : LAt l (k + 1) f is := by
  rcases h with ⟨h1, h2, h3, h4, h5, h6, h7⟩ | ⟨h1, _⟩
  · refine .inl ⟨hk, h2, by omega, by omega, fun j hj hj2 => ?_, by omega, h7⟩
    by_cases e : j = k
    · rw [e]; exact hc
    · exact h5 j hj (by omega)
  · omega
theorem LAt.le {l : List UInt8} {k f : Nat} {is : List Insn} (h : LAt l k f is) (hk : k = l.length ∨ semiAt l k) : f ≤ k := by
  rcases h with ⟨h1, h2, h3, h4, _⟩ | ⟨h1, _⟩
  · rcases hk with rfl | hs
    · exact h2
    · by_cases e : f = k + 1
      · have := h4 e
        rw [hs.1] at this
        exact absurd (Option.some.inj this) (by decide)
      · omega
  · rcases hk with rfl | hs
    · omega
    · have := (List.getElem?_eq_some_iff.1 hs.1).1
      omega
theorem LAt.piece {l : List UInt8} {k f : Nat} {is : List Insn} (h : LAt l k f is) (hs : semiAt l k) : parts2 (l.drop f) = (l.drop f).take (k - f) :: parts2 (l.drop (k + 2)) := by
  have hle := h.le (.inr hs)
  rcases h with ⟨h1, h2, h3, h4, h5, _⟩ | ⟨h1, _⟩
  · have := parts2_cut (k - f) (l.drop f) (fun j hj hq => h5 (f + j) (by omega) (by omega) (semi_drop.1 hq)) (semi_drop.2 (by rw [show f + (k - f) = k by omega]; exact hs))
    rw [this, List.drop_drop, show f + (k - f + 2) = k + 2 by omega]
  · have := (List.getElem?_eq_some_iff.1 hs.1).1
    omega
theorem LAt.end_ {l : List UInt8} {f : Nat} {is : List Insn} (h : LAt l l.length f is) : parts2 (l.drop f) = [l.drop f] := by
  have hle := h.le (.inl rfl)
  rcases h with ⟨h1, h2, h3, h4, h5, _⟩ | ⟨h1, _⟩
  · refine parts2_last _ (fun j hq => ?_)
    have hq2 := semi_drop.1 hq
    have := (List.getElem?_eq_some_iff.1 hq2.1).1
    exact h5 (f + j) (by omega) (by omega) hq2
  · omega
theorem LAt.cut {l : List UInt8} {k f : Nat} {is : List Insn} {i : Insn} (h : LAt l k f is) (hs : semiAt l k) (hi : parseI (wds 32 ((l.drop f).take (k - f))) = some i) : LAt l (k + 1) (k + 2) (is ++ [i]) := by
  have hp := h.piece hs
  have hle := h.le (.inr hs)
  rcases h with ⟨h1, h2, h3, h4, h5, h6, ps, h7, h8⟩ | ⟨h1, _⟩
  · have hk := (List.getElem?_eq_some_iff.1 hs.2).1
    refine .inl ⟨by omega, by omega, by omega, fun _ => hs.2, fun j hj hj2 => by omega, by simp; omega, ps ++ [(l.drop f).take (k - f)], ?_, by rw [h8, hp, List.append_assoc]; rfl⟩
    rw [listR_app, h7, listR, hi]
    rfl
  · have := (List.getElem?_eq_some_iff.1 hs.1).1
    omega
theorem LAt.last {l : List UInt8} {f : Nat} {is : List Insn} {i : Insn} (h : LAt l l.length f is) (hi : parseI (wds 32 ((l.drop f).take (l.length - f))) = some i) : LAt l (l.length + 1) (l.length + 2) (is ++ [i]) := by
  have hp := h.end_
  rw [List.take_of_length_le (by simp)] at hi
  rcases h with ⟨h1, h2, h3, h4, h5, h6, ps, h7, h8⟩ | ⟨h1, _⟩
  · refine .inr ⟨rfl, by simp; omega, ?_⟩
    rw [h8, hp, listR_app, h7, listR, hi]
    rfl
  · omega
theorem LAt.bad {l : List UInt8} {k f : Nat} {is : List Insn} (h : LAt l k f is) (hs : k = l.length ∨ semiAt l k) (hi : parseI (wds 32 ((l.drop f).take (k - f))) = none) : listR (parts2 l) = none := by
  have hp : ∃ r, parts2 (l.drop f) = (l.drop f).take (k - f) :: r := by
    rcases hs with rfl | hs
    · exact ⟨[], by rw [h.end_, List.take_of_length_le (by simp)]⟩
    · exact ⟨_, h.piece hs⟩
  have hle := h.le hs
  obtain ⟨r, hp⟩ := hp
  rcases h with ⟨h1, h2, h3, h4, h5, h6, ps, h7, h8⟩ | ⟨h1, _⟩
  · rw [h8, hp, listR_app, h7, listR, hi]
  · rcases hs with rfl | hs
    · omega
    · have := (List.getElem?_eq_some_iff.1 hs.1).1
      omega
theorem LAt.len {l : List UInt8} {k f : Nat} {is : List Insn} (h : LAt l k f is) : is.length ≤ k := by
  rcases h with ⟨_, _, _, _, _, h, _⟩ | ⟨_, h, _⟩ <;> exact h
theorem LAt.done {l : List UInt8} {k f : Nat} {is : List Insn} (h : LAt l k f is) (hk : l.length < k) : listR (parts2 l) = some is := by
  rcases h with ⟨h1, _⟩ | ⟨_, _, h3⟩
  · omega
  · exact h3
end Go.Viv
namespace Go.Proofs.YtadnbkjjdkgfiaaDoor
open Go.RowKit Go.Viv
attribute [local go_sem ↓] wp_appendV
/-- What a reading of a program hands back. -/
def ListRes (l : List UInt8) (w : World) (r : Option (List Insn)) : Prop := Calls Tryd.prog 41 #[str l] w fun e w' => ∃ A cap, e = .returned (.tuple #[.slice A (r.getD []).length cap, .bool r.isSome]) ∧ (r.getD []).length ≤ cap ∧ cap ≤ maxLen ∧ RowC w' A ((r.getD []).flatMap cellsI) ∧ Fr (fun _ => False) w w'
theorem flatI_snoc (is : List Insn) (i : Insn) : (is ++ [i]).flatMap cellsI = is.flatMap cellsI ++ cellsI i := by simp
/-- Not the end of a piece: no semicolon there, or no blank behind it. -/
theorem no_semi {l : List UInt8} {k : Nat} (hk : k < l.length) (h : ¬ semiAt l k) : l[k] ≠ 59 ∨ (l[k] = 59 ∧ (l.length ≤ k + 1 ∨ ∃ h2 : k + 1 < l.length, l[k + 1] ≠ 32)) := by
  by_cases h1 : l[k] = 59
  · refine .inr ⟨h1, ?_⟩
    rcases Nat.lt_or_ge (k + 1) l.length with h2 | h2
    · refine .inr ⟨h2, fun h3 => h ⟨by rw [List.getElem?_eq_getElem hk, h1], by rw [List.getElem?_eq_getElem h2, h3]⟩⟩
    · exact .inl h2
  · exact .inl h1
theorem byte_t {l : List UInt8} {k : Nat} (hk : k < l.length) {c : UInt8} (hc : l[k] = c) (n : Int) (hn : n = c.toNat) : ((((ByteArray.mk l.toArray)[k]'(by rw [size_str]; exact hk)).toNat : Int) == n) = true := by
  show ((((l[k]).toNat : Nat) : Int) == n) = true
  rw [hc, hn]
  exact beq_self_eq_true _
theorem byte_f {l : List UInt8} {k : Nat} (hk : k < l.length) {c : UInt8} (hc : l[k] ≠ c) (n : Int) (hn : n = c.toNat) : ((((ByteArray.mk l.toArray)[k]'(by rw [size_str]; exact hk)).toNat : Int) == n) = false := by
  show ((((l[k]).toNat : Nat) : Int) == n) = false
  refine beq_eq_false_iff_ne.2 (fun h1 => hc ?_)
  exact UInt8.toNat.inj (by omega)
set_option maxRecDepth 100000 in
set_option maxHeartbeats 4000000 in
theorem lists_go (l : List UInt8) (w : World) (hl : l.length < 4294967281) (hne : l ≠ []) : ListRes l w (listR (parts2 l)) := by
  have HLL := Lib.hid hl
  have hl' : l.length ≤ 281474976710656 := by omega
  have hz : l.isEmpty = false := by cases l with
    | nil => exact absurd rfl hne
    | cons a r => rfl
  clear hl
  have HNE := Lib.hid hne
  clear hne
  unfold ListRes
  go_enter Tryd.func41, Tryd.ntmps41
  go_wp2_with fail
  go_loopw [4, 5, 6, 7, 8] (fun v u t _ _ wr => ∃ (k f : Nat) (is : List Insn), k ≤ l.length + 1 ∧ t = .int .i64 k ∧ u = .int .i64 f ∧ LAt l k f is ∧ wr.ownsRow w.heap.size 42 4 v is.length (is.flatMap cellsI) ∧ Fr (fun _ => False) w wr) (fun _ _ t _ _ _ => l.length + 1 - (intOf t).toNat)
  case atStart => exact ⟨0, 0, [], by omega, rfl, rfl, LAt.start l, World.ownsRow_nil _ _ _ _, Fr.refl _ _⟩
  case round =>
    obtain ⟨k, f, is, hk, rfl, rfl, hat, hown, hfr⟩ := hrel
    obtain ⟨wB, hwB⟩ : ∃ wB, wB = wr := ⟨wr, rfl⟩
    subst hwB
    by_cases hle : k ≤ l.length
    · have hle' : (k : Int) ≤ l.length := by omega
      by_cases hs : k = l.length ∨ semiAt l k
      · -- a piece ends here
        have hfk := hat.le hs
        have hfk' : (f : Int) ≤ k := by omega
        have hx := ext_list l f k
        obtain ⟨X, hX⟩ : ∃ X, (l.drop f).take (k - f) = X := ⟨_, rfl⟩
        have hXl : X.length ≤ l.length := by rw [← hX]; simp; omega
        rw [hX] at hx
        have HXX := Lib.hid hX
        have HRD := Lib.hid (fun W => readsR_any X W (by have := HLL.out; omega))
        have HAT := Lib.hid hat
        have HS := Lib.hid hs
        have HOW := Lib.hid (And.intro hown hfr)
        have hlen := hat.len
        have HNX := Lib.hid (show ∀ i, parseI (wds 32 X) = some i → ∃ f', LAt l (k + 1) f' (is ++ [i]) ∧ f' = k + 2 from fun i hi => by
          rcases HS.out with rfl | hs
          · exact ⟨_, HAT.out.last (by rw [HXX.out]; exact hi), rfl⟩
          · exact ⟨_, HAT.out.cut hs (by rw [HXX.out]; exact hi), rfl⟩)
        have HBD := Lib.hid (show parseI (wds 32 X) = none → listR (parts2 l) = none from fun hi => HAT.out.bad HS.out (by rw [HXX.out]; exact hi))
        clear hX hat hown hfr
        obtain ⟨r, hr⟩ : ∃ r, parseI (wds 32 X) = r := ⟨_, rfl⟩
        unfold ReadRes at HRD
        rw [hr] at HRD HBD HNX
        clear hr
        rcases hs with hkl | hs
        · have hd : decide ((k : Int) < l.length) = false := decide_eq_false (by omega)
          have hd2 : decide (k < l.length) = false := decide_eq_false (by omega)
          clear hkl
          go_wp2_with fail
          refine (HRD.out _).mono ?_
          rintro e w2 ⟨rfl, hf2⟩
          have hfr2 := fr_two HOW.out.2 hf2
          have hown2 := own_fr HOW.out.1 hf2 (fun _ _ h => h)
          cases r with
          | none =>
            have HQ := Lib.hid (And.intro (HBD.out rfl) (hfr2.alloc (.cells #[.int .i64 0, .int .i64 0, .int .i64 0, .int .i64 0] 42)))
            clear hfr2 hown2 hf2
            go_wp2_with fail
            refine bodyPost_ret (v := .tuple #[.slice none 0 0, .bool false]) (by simp [results, Tryd.results41, go_sem]) rfl ?_
            rw [HQ.out.1]
            exact ⟨none, 0, rfl, Nat.le_refl _, Nat.zero_le _, .inl rfl, HQ.out.2⟩
          | some i =>
            obtain ⟨f', hat2, hf'⟩ := HNX.out i rfl
            obtain ⟨v2, w3, happ, hown3, hfr3⟩ := app_one (P := Tryd.prog) (T := 51) Tryd.underlying51 info42 rfl (by omega) ((hown2.alloc (.cells #[.int .i64 i.op, .int .i64 i.r, .int .i64 i.s, .int .i64 i.n] 42)).alloc (.cells #[.int .i64 i.op, .int .i64 i.r, .int .i64 i.s, .int .i64 i.n] 42)) (Blk.new _ 42 #[.int .i64 i.op, .int .i64 i.r, .int .i64 i.s, .int .i64 i.n]) rfl (by simp [Value.oneCell']) (by have := HLL.out; unfold maxLen; omega) (by have := HLL.out; omega) (by have := hfr2.size; simp; omega)
            have H3 := Lib.hid (And.intro hat2 (And.intro hf' (And.intro (show w3.ownsRow w.heap.size 42 4 v2 (is ++ [i]).length ((is ++ [i]).flatMap cellsI) from by rw [flatI_snoc, List.length_append]; simpa using hown3) (hfr3 w ((hfr2.alloc _).alloc _) (Nat.le_refl _)))))
            rw [World.size_alloc] at happ
            clear hfr2 hown2 hf2 hown3 hfr3 hat2 hf'
            simp only [Option.getD_some, Option.isSome_some]
            go_wp2_with fail
            go_roundw
            case rel => exact ⟨k + 1, k + 2, is ++ [i], by omega, by go_num, by go_num, by rw [← H3.out.2.1]; exact H3.out.1, H3.out.2.2.1, H3.out.2.2.2⟩
            case measure => simp [intOf]; omega
        · have hk1 := (List.getElem?_eq_some_iff.1 hs.2).1
          obtain ⟨_, hc1⟩ := List.getElem?_eq_some_iff.1 hs.1
          obtain ⟨_, hc2⟩ := List.getElem?_eq_some_iff.1 hs.2
          have hb1 := byte_t (k := k) (by omega) hc1 59 (by decide)
          have hb2 := byte_t hk1 hc2 32 (by decide)
          have hd : (k : Int) < l.length := by omega
          have hd1 : (k : Int) + 1 < l.length := by omega
          clear hs hc1 hc2
          go_wp2_with fail
          refine (HRD.out _).mono ?_
          rintro e w2 ⟨rfl, hf2⟩
          have hfr2 := fr_two HOW.out.2 hf2
          have hown2 := own_fr HOW.out.1 hf2 (fun _ _ h => h)
          cases r with
          | none =>
            have HQ := Lib.hid (And.intro (HBD.out rfl) (hfr2.alloc (.cells #[.int .i64 0, .int .i64 0, .int .i64 0, .int .i64 0] 42)))
            clear hfr2 hown2 hf2
            go_wp2_with fail
            refine bodyPost_ret (v := .tuple #[.slice none 0 0, .bool false]) (by simp [results, Tryd.results41, go_sem]) rfl ?_
            rw [HQ.out.1]
            exact ⟨none, 0, rfl, Nat.le_refl _, Nat.zero_le _, .inl rfl, HQ.out.2⟩
          | some i =>
            obtain ⟨f', hat2, hf'⟩ := HNX.out i rfl
            obtain ⟨v2, w3, happ, hown3, hfr3⟩ := app_one (P := Tryd.prog) (T := 51) Tryd.underlying51 info42 rfl (by omega) ((hown2.alloc (.cells #[.int .i64 i.op, .int .i64 i.r, .int .i64 i.s, .int .i64 i.n] 42)).alloc (.cells #[.int .i64 i.op, .int .i64 i.r, .int .i64 i.s, .int .i64 i.n] 42)) (Blk.new _ 42 #[.int .i64 i.op, .int .i64 i.r, .int .i64 i.s, .int .i64 i.n]) rfl (by simp [Value.oneCell']) (by have := HLL.out; unfold maxLen; omega) (by have := HLL.out; omega) (by have := hfr2.size; simp; omega)
            have H3 := Lib.hid (And.intro hat2 (And.intro hf' (And.intro (show w3.ownsRow w.heap.size 42 4 v2 (is ++ [i]).length ((is ++ [i]).flatMap cellsI) from by rw [flatI_snoc, List.length_append]; simpa using hown3) (hfr3 w ((hfr2.alloc _).alloc _) (Nat.le_refl _)))))
            rw [World.size_alloc] at happ
            clear hfr2 hown2 hf2 hown3 hfr3 hat2 hf'
            simp only [Option.getD_some, Option.isSome_some]
            go_wp2_with fail
            go_roundw
            case rel => exact ⟨k + 1, k + 2, is ++ [i], by omega, by go_num, by go_num, by rw [← H3.out.2.1]; exact H3.out.1, H3.out.2.2.1, H3.out.2.2.2⟩
            case measure => simp [intOf]; omega
      · have hlt : k < l.length := by omega
        have hns : ¬ semiAt l k := fun h => hs (.inr h)
        have hlt' : (k : Int) < l.length := by omega
        have H2 := Lib.hid (And.intro (hat.skip hlt hns) (And.intro hown hfr))
        have hcs := no_semi hlt hns
        clear hat hown hfr hs hns
        have hcs2 : (∃ hb : ((((ByteArray.mk l.toArray)[k]'(by rw [size_str]; exact hlt)).toNat : Int) == 59) = false, True) ∨ ((∃ hb : ((((ByteArray.mk l.toArray)[k]'(by rw [size_str]; exact hlt)).toNat : Int) == 59) = true, True) ∧ (l.length ≤ k + 1 ∨ ∃ h2 : k + 1 < l.length, ((((ByteArray.mk l.toArray)[k + 1]'(by rw [size_str]; exact h2)).toNat : Int) == 32) = false)) := by
          rcases hcs with h1 | ⟨h1, h2 | ⟨h2, h3⟩⟩
          · exact .inl ⟨byte_f hlt h1 59 (by decide), trivial⟩
          · exact .inr ⟨⟨byte_t hlt h1 59 (by decide), trivial⟩, .inl h2⟩
          · exact .inr ⟨⟨byte_t hlt h1 59 (by decide), trivial⟩, .inr ⟨h2, byte_f h2 h3 32 (by decide)⟩⟩
        clear hcs
        rcases hcs2 with ⟨hb, _⟩ | ⟨⟨hb, _⟩, h2 | ⟨h2, hb2⟩⟩
        · go_wp2_with fail
          go_roundw
          case rel => exact ⟨k + 1, f, is, by omega, by go_num, rfl, H2.out.1, H2.out.2.1, H2.out.2.2⟩
          case measure => simp [intOf]; omega
        · have hd1 : decide ((k : Int) + 1 < l.length) = false := decide_eq_false (by omega)
          have hd2 : decide (k + 1 < l.length) = false := decide_eq_false (by omega)
          clear h2
          go_wp2_with fail
          go_roundw
          case rel => exact ⟨k + 1, f, is, by omega, by go_num, rfl, H2.out.1, H2.out.2.1, H2.out.2.2⟩
          case measure => simp [intOf]; omega
        · have hd1 : (k : Int) + 1 < l.length := by omega
          go_wp2_with fail
          go_roundw
          case rel => exact ⟨k + 1, f, is, by omega, by go_num, rfl, H2.out.1, H2.out.2.1, H2.out.2.2⟩
          case measure => simp [intOf]; omega
    · obtain rfl : k = l.length + 1 := by omega
      have hds := hat.done (by omega)
      obtain ⟨A, cap, rfl, h1, h2, h3⟩ := rowC_of_own hown
      have H := Lib.hid (And.intro h1 (And.intro h2 (And.intro h3 (And.intro hfr hds))))
      clear hown hfr hat h1 h2 h3 hds
      go_wp2_with fail
      refine bodyPost_ret (v := .tuple #[.slice A is.length cap, .bool true]) (by simp [results, Tryd.results41, go_sem]) rfl ?_
      rw [H.out.2.2.2.2]
      exact ⟨A, cap, rfl, H.out.1, H.out.2.1, H.out.2.2.1, H.out.2.2.2.1⟩
theorem lists_any (l : List UInt8) (w : World) (hl : l.length < 4294967281) : ListRes l w (listsI l) := by
  unfold listsI
  by_cases h : l = []
  · subst h
    rw [if_pos rfl]
    unfold ListRes
    go_enter Tryd.func41, Tryd.ntmps41
    go_wp2_with fail
    refine bodyPost_ret (v := .tuple #[.slice none 0 0, .bool true]) (by simp [results, Tryd.results41, go_sem]) rfl ?_
    exact ⟨none, 0, rfl, Nat.le_refl _, Nat.zero_le _, .inl rfl, Fr.refl _ _⟩
  · rw [if_neg h]
    exact lists_go l w hl h
end Go.Proofs.YtadnbkjjdkgfiaaDoor
