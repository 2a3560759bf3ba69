/-
  Several texts in one. The walks of regions by footprints. No program in sight.
-/
import Derived.Test.YtmcigeebeoobdaaGreatDoorPz00
import Derived.Test.YtmcigeebeoobdaaGreatDoorRows
import Derived.Outline
import Derived.Lib.Hide
import Derived.BigRegion
import Derived.Deep.RegionWith
import Derived.Deep.DeepCutAuto
import Derived.WalkSpells
import Derived.WalkLawsBesides
import Derived.Deep.QuietTactic
import Derived.BigQuiet
import Derived.Lib.ItoaNum
import Derived.Lib.ParseIntB
import Derived.Lib.SplitLaws
import Derived.Lib.Join
import Derived.Shelf.Sort.Plain
import Derived.Shelf.Slices.In.SortNone
import Derived.Shelf.Strings.Builder1
import Derived.Shelf.Strings.Builder2
import Derived.Shelf.Strings.OnBuilder
import Derived.Shelf.Strconv.Atoi
import Derived.Shelf.Strconv.Itoa0
import Derived.Shelf.Strconv.Itoa1
import Derived.Shelf.LaysM
import Derived.Shelf.Strconv.Itoa2
import Derived.Shelf.Strconv.Itoa3
import Derived.Shelf.Strconv.AtoiErrFast
import Derived.Shelf.Strconv.ParseIntEmpty
import Derived.Shelf.Strconv.AtoiFail
import Derived.Shelf.Strconv.Clone
import Derived.Shelf.Strconv.SyntaxError
import Derived.Shelf.LaysC
import Derived.Shelf.Strconv.ToError
import Derived.Shelf.Strconv.Lower
import Derived.Shelf.Strconv.ParseUint10
import Derived.Shelf.Strconv.ParseUint10Empty
import Derived.Shelf.Strconv.ParseUint10Any
import Derived.Shelf.Strconv.ParseInt10
import Derived.Shelf.Strconv.AtoiLong
import Derived.Shelf.Strconv.AtoiInnerAll
import Derived.Shelf.Strconv.RangeError
import Derived.Shelf.Strconv.ToErrorRange
import Derived.Shelf.Strconv.AtoiAll
import Derived.Shelf.Strconv.ErrVarAll
import Derived.Shelf.Strings.Search1
import Derived.Shelf.Strings.Search2
import Derived.Shelf.Strings.Search3
import Derived.Shelf.Strings.Count
import Derived.Shelf.Strings.Shaped
import Derived.Shelf.Strings.Split
import Derived.Shelf.Unicode.DecodeSlow
import Derived.Test.YtmcigeebeoobdaaGreatDoorProg
section
namespace Go.Viv
open Go.RowKit Go.Sort

theorem fr_two {w w1 w2 : World} (h1 : Fr (fun _ => False) w w1) (h2 : Fr (fun _ => False) w1 w2) : Fr (fun _ => False) w w2 := h1.trans h2 (fun _ h => h.elim)
theorem reg_of_fr {W w' : World} (h : Fr (fun _ => False) W w') : ∃ p : Regrown, w' = grow (redrawn W p.d) p.os := regrown_of_below (h.below (Nat.le_refl _) (fun _ h => h.elim))
theorem fr_regrown {V W : World} (h : Fr (fun _ => False) V W) (d : Nat) (os : Array Obj) : Fr (fun _ => False) V (grow (redrawn W d) os) :=
  fr_two h (Fr.of_below (below_regrown W d os))
/-- A contract of a callee that leaves what was there as it was, met in the walk of a region. -/
theorem calls_reg {P : Program} {f : FuncId} {args : Array Value} {W : World} {d : Nat} {os : Array Obj} {v : Value}
    (h : Calls P f args (grow (redrawn W d) os) fun e w' => e = .returned v ∧ Fr (fun _ => False) (grow (redrawn W d) os) w') : Calls P f args (grow (redrawn W d) os) fun e w'' => e = .returned v ∧ ∃ p : Regrown, w'' = grow (redrawn W p.d) p.os :=
  Calls.regrown_of (h.mono fun _ _ ⟨h1, h2⟩ => ⟨h1, h2.below (Nat.le_refl _) (fun _ h => h.elim)⟩)
/-- Behind an operation that a region carries out. -/
theorem behind {K : Act → World → Prop} {a : Act} {W w' : World} (h : Fr (fun _ => False) W w') (hk : K a w') : Mix.Behind (fun w' => ∃ p : Regrown, w' = grow (redrawn W p.d) p.os) K .normal a w' := ⟨rfl, reg_of_fr h, hk⟩
/-- The worlds that are W but for the blocks of S, and new ones. -/
structure Cl (S : Nat → Prop) (W : World) where
  w : World
  fr : Fr S W w
instance (S : Nat → Prop) (W : World) : Inhabited (Cl S W) := ⟨⟨W, Fr.refl _ _⟩⟩
theorem cell_cl {S : Nat → Prop} {W : World} {a : Addr} {v : Value} (h : W.cell? a = some v) (hn : ¬ S a.block) (p : Cl S W) : p.w.cell? a = some v := by
  rw [p.fr.cell (World.block_lt_of_cell? W a h) hn]; exact h
theorem cl_drew (S : Nat → Prop) (W : World) : ∃ p : Cl S W, W.drew = p.w := ⟨⟨W.drew, (Fr.refl _ _).drew⟩, rfl⟩
/-- A contract of a callee, met in a world of the class. -/
theorem calls_cl {P : Program} {f : FuncId} {args : Array Value} {S : Nat → Prop} {W : World} {p : Cl S W} {v : Value} {T : Nat → Prop} (hT : ∀ i, T i → S i ∨ W.heap.size ≤ i)
    (h : Calls P f args p.w fun e w' => e = .returned v ∧ Fr T p.w w') : Calls P f args p.w fun e w'' => e = .returned v ∧ ∃ q : Cl S W, w'' = q.w :=
  h.mono fun _ w' ⟨h1, h2⟩ => ⟨h1, ⟨w', p.fr.trans h2 hT⟩, rfl⟩
/-- Behind an operation that a region carries out. -/
theorem behind_cl {S : Nat → Prop} {K : Act → World → Prop} {a : Act} {W w' : World} (h : Fr S W w') (hk : K a w') : Mix.Behind (fun w' => ∃ p : Cl S W, w' = p.w) K .normal a w' := ⟨rfl, ⟨⟨w', h⟩, rfl⟩, hk⟩
/-- A region that only reads, by its class. -/
theorem wp_region_quiet_cl (S : Nat → Prop) {P : Program} {id : Nat} {Q : Exit → Act → World → Prop} {a : Act} {w : World} {l : List Oper} (hm : P.follows .mixedOrders = true) (hB : Region.lexB .any l.toArray = true)
    (h : wpQuiet P l.toArray (fun w' => ∃ p : Cl S w, w' = p.w) (fun a' => ∀ w', (∃ p : Cl S w, w' = p.w) → Q .normal a' w') l a) : (Code.region id l.toArray true).wp P Q a w :=
  wp_region_quiet (C := fun w' => ∃ p : Cl S w, w' = p.w) hm hB (cl_drew S w) (by simpa using h)
end Go.Viv
end

/-
  The tools that walks of this seat use.
-/
section

end

/-
  Decimal numerals: what ParseInt and FormatInt at base ten do to each other, and the document's own reading of them. No program in sight.
-/
section
namespace Go.Viv
open Go.Lib

def isDig (c : UInt8) : Bool := 48 ≤ c.toNat && c.toNat ≤ 57
/-- What digits spell, behind a number. -/
def valA : Nat → List UInt8 → Nat
  | a, [] => a
  | a, c :: r => valA (a * 10 + (c.toNat - 48)) r

theorem valA_append (a : Nat) (l m : List UInt8) : valA a (l ++ m) = valA (valA a l) m := by
  induction l generalizing a with
  | nil => rfl
  | cons c r ih => exact ih _
theorem valA_le (l : List UInt8) : ∀ a, a ≤ valA a l := by
  induction l with
  | nil => intro a; exact Nat.le_refl _
  | cons c r ih => intro a; exact Nat.le_trans (by omega) (ih (a * 10 + (c.toNat - 48)))
theorem valA_mono (l : List UInt8) : ∀ a b, a ≤ b → valA a l ≤ valA b l := by
  induction l with
  | nil => intro a b h; exact h
  | cons c r ih => intro a b h; exact ih _ _ (by omega)

theorem dig_byte {d : Nat} (h : d < 10) : (UInt8.ofNat (48 + d)).toNat = 48 + d := by
  rw [UInt8.toNat_ofNat']; omega
theorem isDig_byte {d : Nat} (h : d < 10) : isDig (UInt8.ofNat (48 + d)) = true := by
  unfold isDig; rw [dig_byte h]; simp; omega
theorem byte_dig {c : UInt8} (h : isDig c = true) : UInt8.ofNat (48 + (c.toNat - 48)) = c ∧ c.toNat - 48 < 10 := by
  unfold isDig at h
  simp at h
  have h0 : 48 + (c.toNat - 48) = c.toNat := by omega
  refine ⟨by rw [h0]; simp, by omega⟩

theorem dec_lt {u : Nat} (h : u < 10) : decDigits u = [UInt8.ofNat (48 + u)] := by rw [decDigits, dif_pos h]
theorem dec_ge {u : Nat} (h : ¬ u < 10) : decDigits u = decDigits (u / 10) ++ [UInt8.ofNat (48 + u % 10)] := by rw [decDigits, dif_neg h]

theorem dec_dig (u : Nat) : ∀ c ∈ decDigits u, isDig c = true := by
  induction u using Nat.strongRecOn with
  | _ u ih =>
    by_cases h : u < 10
    · rw [dec_lt h]; intro c hc; rw [List.mem_singleton] at hc; rw [hc]; exact isDig_byte h
    · rw [dec_ge h]; intro c hc
      rcases List.mem_append.1 hc with hc | hc
      · exact ih (u / 10) (by omega) c hc
      · rw [List.mem_singleton] at hc; rw [hc]; exact isDig_byte (by omega)
theorem valA_one (a : Nat) (c : UInt8) : valA a [c] = a * 10 + (c.toNat - 48) := rfl
theorem dec_val (u : Nat) : valA 0 (decDigits u) = u := by
  induction u using Nat.strongRecOn with
  | _ u ih =>
    rcases Nat.lt_or_ge u 10 with h | h
    · rw [dec_lt h, valA_one, dig_byte h]; omega
    · rw [dec_ge (Nat.not_lt.2 h), valA_append, ih (u / 10) (by omega), valA_one, dig_byte (Nat.mod_lt _ (by decide))]; omega
theorem dec_ne (u : Nat) : decDigits u ≠ [] := by
  by_cases h : u < 10
  · rw [dec_lt h]; simp
  · rw [dec_ge h]; simp
/-- No nought ahead, but of nought itself. -/
theorem dec_head (u : Nat) : ∃ c r, decDigits u = c :: r ∧ (c.toNat = 48 → u = 0) ∧ isDig c = true := by
  induction u using Nat.strongRecOn with
  | _ u ih =>
    by_cases h : u < 10
    · refine ⟨_, [], dec_lt h, fun hc => ?_, isDig_byte h⟩
      rw [dig_byte h] at hc; omega
    · obtain ⟨c, r, h1, h2, h3⟩ := ih (u / 10) (by omega)
      refine ⟨c, r ++ [UInt8.ofNat (48 + u % 10)], by rw [dec_ge h, h1]; rfl, fun hc => ?_, h3⟩
      have := h2 hc
      omega
/-- A numeral as it is written is the one of what it spells. -/
theorem dec_canon : ∀ (n : Nat) (l : List UInt8), l.length = n → l ≠ [] → (∀ c ∈ l, isDig c = true) → (l.head?.map (·.toNat) = some 48 → l.length = 1) → decDigits (valA 0 l) = l := by
  intro n
  induction n using Nat.strongRecOn with
  | _ n ih =>
    intro l hn hne hd hz
    rcases List.eq_nil_or_concat l with h | ⟨m, c, h⟩
    · exact absurd h hne
    · rw [List.concat_eq_append] at h
      subst h
      have hc := byte_dig (hd c (by simp))
      by_cases hm : m = []
      · subst hm
        rw [List.nil_append, valA_one, Nat.zero_mul, Nat.zero_add, dec_lt hc.2, hc.1]
      · have hlm : m.length < n := by simp at hn; omega
        have ihm := ih m.length hlm m rfl hm (fun x hx => hd x (by simp [hx])) (fun h0 => by
          exfalso
          obtain ⟨x, r, rfl⟩ := List.exists_cons_of_ne_nil hm
          have := hz (by simpa using h0)
          simp at this)
        have hpos : valA 0 m ≠ 0 := by
          intro h0
          obtain ⟨x, r, rfl⟩ := List.exists_cons_of_ne_nil hm
          rw [h0, dec_lt (by omega)] at ihm
          injection ihm with e1 e2
          have hx : x.toNat = 48 := by rw [← e1]; rfl
          have := hz (by simp [hx])
          simp at this
        rw [valA_append, valA_one]
        generalize hgm : valA 0 m = vm at *
        generalize hgc : c.toNat - 48 = vc at *
        have h10 := hc.2
        rw [dec_ge (by omega), show (vm * 10 + vc) / 10 = vm by omega, show (vm * 10 + vc) % 10 = vc by omega, ihm, hc.1]

theorem pu_dig (M a : Nat) (c : UInt8) (r : List UInt8) (h : 48 ≤ c.toNat ∧ c.toNat ≤ 57) : parseUintM M a (c :: r) = (if 1844674407370955162 ≤ a then .range else if M < a * 10 + (c.toNat - 48) then .range else parseUintM M (a * 10 + (c.toNat - 48)) r) := by
  rw [parseUintM, if_pos h]
theorem pu_bad (M a : Nat) (c : UInt8) (r : List UInt8) (h : ¬ (48 ≤ c.toNat ∧ c.toNat ≤ 57)) (u : Nat) : parseUintM M a (c :: r) ≠ .ok u := by
  rw [parseUintM, if_neg h]
  intro e
  cases e
theorem isDig_iff (c : UInt8) : isDig c = true ↔ 48 ≤ c.toNat ∧ c.toNat ≤ 57 := by simp [isDig]

theorem parseU_ok (M : Nat) (hM : M ≤ 18446744073709551615) (l : List UInt8) : ∀ (a : Nat), (∀ c ∈ l, isDig c = true) → valA a l ≤ M → parseUintM M a l = .ok (valA a l) := by
  induction l with
  | nil => intro a _ _; rw [parseUintM]; rfl
  | cons c r ih =>
    intro a hd hv
    have hc := (isDig_iff c).1 (hd c (by simp))
    have hv' : valA (a * 10 + (c.toNat - 48)) r ≤ M := hv
    have h1 := valA_le r (a * 10 + (c.toNat - 48))
    have h2 : ¬ 1844674407370955162 ≤ a := by omega
    have h3 : ¬ M < a * 10 + (c.toNat - 48) := by omega
    rw [pu_dig M a c r hc, if_neg h2, if_neg h3]
    exact ih _ (fun x hx => hd x (by simp [hx])) hv'
theorem parseU_inv (M : Nat) (l : List UInt8) : ∀ (a u : Nat), parseUintM M a l = .ok u → (∀ c ∈ l, isDig c = true) ∧ u = valA a l ∧ (a ≤ M → u ≤ M) := by
  induction l with
  | nil =>
    intro a u h
    rw [parseUintM] at h
    injection h with h
    exact ⟨by simp, h.symm, fun ha => by omega⟩
  | cons c r ih =>
    intro a u h
    by_cases hc : 48 ≤ c.toNat ∧ c.toNat ≤ 57
    · rw [pu_dig M a c r hc] at h
      by_cases h2 : 1844674407370955162 ≤ a
      · rw [if_pos h2] at h; cases h
      · rw [if_neg h2] at h
        by_cases h3 : M < a * 10 + (c.toNat - 48)
        · rw [if_pos h3] at h; cases h
        · rw [if_neg h3] at h
          obtain ⟨g1, g2, g3⟩ := ih _ u h
          refine ⟨fun x hx => ?_, g2, fun _ => g3 (by omega)⟩
          rcases List.mem_cons.1 hx with rfl | hx
          · exact (isDig_iff _).2 hc
          · exact g1 x hx
    · exact absurd h (pu_bad M a c r hc u)

/-- A number's text: the program's, and the document's, reading of it. -/
def inI (n : Int) : Prop := -9223372036854775808 ≤ n ∧ n ≤ 9223372036854775807

theorem parse_itoa (n : Int) (h : inI n) : parseIntB 64 (itoa n) = .ok n := by
  obtain ⟨h0, h1⟩ := h
  have e64 : (2 : Nat) ^ 64 - 1 = 18446744073709551615 := by decide
  have e63 : (2 : Nat) ^ (64 - 1) = 9223372036854775808 := by decide
  unfold itoa
  by_cases hn : n < 0
  · rw [if_pos hn]
    have hv := dec_val n.natAbs
    have hp : parseUintB 64 (decDigits n.natAbs) = .ok n.natAbs := by
      unfold parseUintB
      rw [if_neg (dec_ne _), e64, parseU_ok _ (by omega) _ _ (dec_dig _) (by rw [hv]; omega), hv]
    simp only [parseIntB]
    rw [if_pos (by decide), hp]
    simp only [e63]
    rw [if_neg (by simp), if_neg (by simp; omega), if_pos (by decide)]
    congr 1
    omega
  · rw [if_neg hn]
    obtain ⟨c, r, hcr, hz, hd⟩ := dec_head n.toNat
    have hv := dec_val n.toNat
    have hp : parseUintB 64 (decDigits n.toNat) = .ok n.toNat := by
      unfold parseUintB
      rw [if_neg (dec_ne _), e64, parseU_ok _ (by omega) _ _ (dec_dig _) (by rw [hv]; omega), hv]
    rw [hcr] at hp ⊢
    unfold isDig at hd
    simp at hd
    simp only [parseIntB]
    rw [if_neg (by omega), hp]
    simp only [e63]
    have hneg : ¬ c.toNat = 45 := by omega
    rw [if_neg (by omega), if_neg (by omega), if_neg hneg]
    congr 1
    omega

theorem parse_in {l : List UInt8} {v : Int} (h : parseIntB 64 l = .ok v) : inI v := by
  have e63 : (2 : Nat) ^ (64 - 1) = 9223372036854775808 := by decide
  cases l with
  | nil => cases h
  | cons c r =>
    simp only [parseIntB, e63] at h
    split at h
    · cases h
    · cases h
    · rename_i u hu
      by_cases hneg : c.toNat = 45
      · rw [if_neg (by simp [hneg])] at h
        split at h
        · cases h
        · rename_i h2
          injection h with h
          unfold inI
          simp [hneg] at h2
          omega
      · split at h
        · cases h
        · rename_i h2
          rw [if_neg (by simp [hneg])] at h
          injection h with h
          unfold inI
          simp [hneg] at h2
          omega

/-- The number of a text, if it is one's text. -/
def num (l : List UInt8) : Option Int := match parseIntB 64 l with
  | .ok v => if itoa v = l then some v else none
  | _ => none
theorem num_itoa (n : Int) (h : inI n) : num (itoa n) = some n := by
  unfold num
  rw [parse_itoa n h]
  simp
theorem num_some {l : List UInt8} {n : Int} (h : num l = some n) : l = itoa n ∧ inI n := by
  unfold num at h
  split at h
  · rename_i v hv
    split at h
    · rename_i he
      injection h with h
      subst h
      exact ⟨he.symm, parse_in hv⟩
    · cases h
  · cases h
theorem num_iff {l : List UInt8} {n : Int} : num l = some n ↔ l = itoa n ∧ inI n :=
  ⟨num_some, fun ⟨h1, h2⟩ => by rw [h1]; exact num_itoa n h2⟩
theorem itoa_inj {a b : Int} (ha : inI a) (hb : inI b) (h : itoa a = itoa b) : a = b := by
  have h1 := num_itoa a ha
  rw [h, num_itoa b hb] at h1
  injection h1 with h1
  exact h1.symm
theorem nd_le : ∀ (k u : Nat), u < 10 ^ (k + 1) → nDigits u ≤ k + 1
  | 0, u, h => by rw [nDigits_small (by simpa using h)]; exact Nat.le_refl _
  | k + 1, u, h => by
    by_cases hu : u < 10
    · rw [nDigits_small hu]; omega
    · rw [nDigits_big hu]
      have := nd_le k (u / 10) (by rw [Nat.pow_succ] at h; omega)
      omega
theorem itoa_len {n : Int} (h : inI n) : (itoa n).length ≤ 21 := by
  have e : (10 : Nat) ^ (19 + 1) = 100000000000000000000 := by decide
  unfold inI at h
  unfold itoa
  split
  · have := nd_le 19 n.natAbs (by rw [e]; omega)
    simp only [List.length_cons, decDigits_length]
    omega
  · have := nd_le 19 n.toNat (by rw [e]; omega)
    rw [decDigits_length]
    omega
theorem itoa_no44 (n : Int) : (44 : UInt8) ∉ itoa n := by
  intro h
  unfold itoa at h
  split at h
  · rcases List.mem_cons.1 h with h | h
    · cases h
    · have := dec_dig _ _ h; cases this
  · have := dec_dig _ _ h; cases this
end Go.Viv
end

/-
  The words of a text between single blanks. No program in sight.
-/
section
namespace Go.Viv
open Go.Lib
/-- What stands ahead of a row's first word is joined to it. -/
def glue (p : List UInt8) : List (List UInt8) → List (List UInt8)
  | [] => [p]
  | x :: r => (p ++ x) :: r
/-- The words, parted at a byte. -/
def wds (b : UInt8) : List UInt8 → List (List UInt8)
  | [] => [[]]
  | c :: r => if c = b then [] :: wds b r else glue [c] (wds b r)
theorem wds_ne (b : UInt8) (l : List UInt8) : wds b l ≠ [] := by
  cases l with
  | nil => simp [wds]
  | cons c r =>
    unfold wds
    split
    · simp
    · cases wds b r <;> simp [glue]
theorem glue_nil {ws : List (List UInt8)} (h : ws ≠ []) : glue [] ws = ws := by
  cases ws with
  | nil => exact absurd rfl h
  | cons x r => rfl
theorem glue_glue (p q : List UInt8) (ws : List (List UInt8)) : glue p (glue q ws) = glue (p ++ q) ws := by
  cases ws <;> simp [glue]
theorem splitK_stop (b : UInt8) (k : Nat) (s : List UInt8) (h : index s [b] = -1) : splitK [b] 0 k s = [s] := by
  cases k with
  | zero => rfl
  | succ k => unfold splitK; rw [h]; rfl
theorem split_wds (b : UInt8) : ∀ l : List UInt8, split l [b] = wds b l
  | [] => by
    unfold split wds
    exact splitK_stop b _ [] (by simp [index])
  | c :: r => by
    have ih := split_wds b r
    unfold split at ih ⊢
    by_cases h : c = b
    · subst h
      rw [count_cons_eq, Nat.add_comm 1]
      have hix : index (c :: r) [c] = 0 := by rw [index]; simp [List.isPrefixOf]
      unfold splitK
      rw [hix]
      simp only [wds, if_true]
      rw [← ih]
      rfl
    · rw [count_cons_ne c b r h]
      have hp : ([b] : List UInt8).isPrefixOf (c :: r) = false := by simp [List.isPrefixOf, Ne.symm h]
      have hix : index (c :: r) [b] = if index r [b] == -1 then -1 else index r [b] + 1 := by rw [index, hp]; simp
      unfold wds
      rw [if_neg h, ← ih]
      by_cases hm : index r [b] = -1
      · rw [splitK_stop b _ r hm, splitK_stop b _ (c :: r) (by rw [hix, hm]; rfl)]
        rfl
      · have hge := index_ge r [b]
        obtain ⟨j, hj⟩ : ∃ j : Nat, index r [b] = j := ⟨(index r [b]).toNat, by omega⟩
        have hix' : index (c :: r) [b] = ((j + 1 : Nat) : Int) := by rw [hix, if_neg (fun e => hm (beq_iff_eq.1 e)), hj]; omega
        rw [count_hit (by simp) hj]
        rw [Nat.add_comm 1]
        unfold splitK
        rw [hix', hj, if_neg (by simp; omega), if_neg (by simp)]
        simp only [Int.toNat_natCast, Nat.add_zero, List.length_singleton, glue, List.take_succ_cons, List.drop_succ_cons]
        rfl
theorem join_glue (b c : UInt8) {ws : List (List UInt8)} (h : ws ≠ []) : join (glue [c] ws) [b] = c :: join ws [b] := by
  cases ws with
  | nil => exact absurd rfl h
  | cons x r => rw [glue, join_cons, join_cons]; rfl
/-- Joined again they are the text. -/
theorem join_wds (b : UInt8) : ∀ l : List UInt8, join (wds b l) [b] = l
  | [] => by simp [wds, join_one]
  | c :: r => by
    have ih := join_wds b r
    unfold wds
    split
    · rename_i h
      subst h
      cases hw : wds c r with
      | nil => exact absurd hw (wds_ne c r)
      | cons x xs =>
        rw [join_cons]
        rw [hw, join_cons] at ih
        simp only [joinTail, List.map_cons, List.flatten_cons, List.nil_append] at ih ⊢
        rw [List.append_assoc, ih]
        rfl
    · rw [join_glue b c (wds_ne b r), ih]
theorem wds_word (b : UInt8) (x : List UInt8) (hx : b ∉ x) : wds b x = [x] := by
  induction x with
  | nil => rfl
  | cons c r ih =>
    simp at hx
    unfold wds
    rw [if_neg (fun h => hx.1 h.symm), ih hx.2]
    rfl
theorem wds_more (b : UInt8) (x l : List UInt8) (hx : b ∉ x) : wds b (x ++ b :: l) = x :: wds b l := by
  induction x with
  | nil => simp [wds]
  | cons c r ih =>
    simp at hx
    rw [List.cons_append, wds, if_neg (fun h => hx.1 h.symm), ih hx.2]
    rfl
/-- Words without the byte, joined, are parted again. -/
theorem wds_join (b : UInt8) : ∀ ws : List (List UInt8), ws ≠ [] → (∀ x ∈ ws, b ∉ x) → wds b (join ws [b]) = ws
  | [], h, _ => absurd rfl h
  | [x], _, hx => by rw [join_one]; exact wds_word b x (hx x (by simp))
  | x :: y :: r, _, hx => by
    have ih := wds_join b (y :: r) (by simp) (fun z hz => hx z (by simp [hz]))
    rw [join_cons] at ih ⊢
    have e : joinTail [b] (y :: r) = b :: (y ++ joinTail [b] r) := by simp [joinTail]
    rw [e, wds_more b x _ (hx x (by simp)), ih]
theorem wds_len (b : UInt8) : ∀ l : List UInt8, (wds b l).length ≤ l.length + 1
  | [] => by simp [wds]
  | c :: r => by
    have ih := wds_len b r
    unfold wds
    split
    · simp; omega
    · cases hw : wds b r with
      | nil => simp [glue]
      | cons x xs => rw [hw] at ih; simp [glue] at ih ⊢; omega
end Go.Viv
end

/-
  Columns of plans, their texts, and which plans may be. No program in sight.
-/
section
namespace Go.Viv
open Go.Lib
/-- A column: its kind, its component. -/
structure Coln where
  k : Int
  c : Int
deriving DecidableEq
abbrev Coln.agg (x : Coln) : Value := .agg #[.int .i64 x.k, .int .i64 x.c]
def cellsK (x : Coln) : List Value := [.int .i64 x.k, .int .i64 x.c]
/-- The letter of a kind. -/
def letK (k : Int) : UInt8 := if k = 1 then 114 else if k = 2 then 119 else if k = 3 then 109 else 110
/-- A column's text. -/
def textK (x : Coln) : List UInt8 := if x.k < 1 ∨ 5 < x.k ∨ x.c < 0 then [] else if x.k = 5 then [101] else letK x.k :: itoa x.c
def textP (l : List Coln) : List UInt8 := join (l.map textK) [32]
/-- The kind of a letter; nought: it is none. -/
def kindL (c : UInt8) : Int := if c = 114 then 1 else if c = 119 then 2 else if c = 109 then 3 else if c = 110 then 4 else 0
/-- A text's column. -/
def colP : List UInt8 → Option Coln
  | [] => none
  | c :: d => if c = 101 then (if d = [] then some ⟨5, 0⟩ else none) else if kindL c = 0 ∨ 3 < d.length then none else match num d with
    | some n => if n < 0 then none else some ⟨kindL c, n⟩
    | none => none
theorem colP_cons (c : UInt8) (d : List UInt8) : colP (c :: d) = if c = 101 then (if d = [] then some ⟨5, 0⟩ else none) else if kindL c = 0 ∨ 3 < d.length then none else match num d with
    | some n => if n < 0 then none else some ⟨kindL c, n⟩
    | none => none := rfl
theorem kindL_in (c : UInt8) : kindL c = 0 ∨ (1 ≤ kindL c ∧ kindL c ≤ 4 ∧ letK (kindL c) = c) := by
  unfold kindL
  split
  · rename_i h; subst h; exact .inr (by decide)
  · split
    · rename_i h; subst h; exact .inr (by decide)
    · split
      · rename_i h; subst h; exact .inr (by decide)
      · split
        · rename_i h; subst h; exact .inr (by decide)
        · exact .inl rfl
theorem kindL_let {k : Int} (h1 : 1 ≤ k) (h4 : k ≤ 4) : kindL (letK k) = k ∧ letK k ≠ 101 := by
  have : k = 1 ∨ k = 2 ∨ k = 3 ∨ k = 4 := by omega
  rcases this with rfl | rfl | rfl | rfl <;> decide
/-- What is read is told again. -/
theorem colP_text {l : List UInt8} {x : Coln} (h : colP l = some x) : textK x = l ∧ l.length ≤ 4 ∧ l ≠ [] ∧ 1 ≤ x.k ∧ x.k ≤ 5 ∧ 0 ≤ x.c ∧ inI x.c := by
  cases l with
  | nil => cases h
  | cons c d =>
    rw [colP_cons] at h
    split at h
    · rename_i hc
      split at h
      · rename_i hd
        injection h with h
        subst h hc hd
        exact ⟨by simp [textK], by simp, by simp, by simp, by simp, by simp, by simp [inI]⟩
      · cases h
    · split at h
      · cases h
      · rename_i hk
        split at h
        · rename_i n hn
          split at h
          · cases h
          · rename_i h0
            injection h with h
            subst h
            obtain ⟨e1, e2⟩ := num_some hn
            rcases kindL_in c with e | ⟨g1, g4, gl⟩
            · exact absurd (.inl e) hk
            · refine ⟨?_, by simp; omega, by simp, g1, by show kindL c ≤ 5; omega, by show 0 ≤ n; omega, e2⟩
              unfold textK
              rw [if_neg (by simp; omega), if_neg (by simp; omega)]
              simp only [gl]
              rw [← e1]
        · cases h
/-- What is told short enough is read again. -/
theorem colP_of {x : Coln} (h1 : 1 ≤ x.k) (h5 : x.k ≤ 5) (hc : 0 ≤ x.c) (hi : inI x.c) (he : x.k = 5 → x.c = 0) (hl : (textK x).length ≤ 4) : colP (textK x) = some x := by
  obtain ⟨k, c⟩ := x
  simp only at *
  unfold textK at hl ⊢
  rw [if_neg (by simp; omega)] at hl ⊢
  by_cases h : k = 5
  · subst h
    rw [if_pos rfl]
    rw [he rfl]
    rfl
  · simp only [h, if_false] at hl ⊢
    obtain ⟨e1, e2⟩ := kindL_let (k := k) h1 (by omega)
    rw [colP_cons, if_neg e2, e1, if_neg (by simp at hl; omega), num_itoa c hi]
    simp only
    rw [if_neg (by omega)]
/-- A plan of a text. -/
def planP (l : List UInt8) : Option (List Coln) := if l = [] then some [] else if 100 < (wds 32 l).length then none else (wds 32 l).mapM colP

theorem mapM_text : ∀ (ws : List (List UInt8)) (l : List Coln), ws.mapM colP = some l → l.map textK = ws
  | [], l, h => by simp at h; subst h; rfl
  | x :: r, l, h => by
    rw [List.mapM_cons] at h
    cases hx : colP x with
    | none => rw [hx] at h; cases h
    | some y =>
      rw [hx] at h
      cases hr : r.mapM colP with
      | none => rw [hr] at h; cases h
      | some m =>
        rw [hr] at h
        have e : y :: m = l := by simpa using h
        subst e
        rw [List.map_cons, (colP_text hx).1, mapM_text r m hr]
theorem planP_text {l : List UInt8} {p : List Coln} (h : planP l = some p) : textP p = l := by
  unfold planP at h
  split at h
  · rename_i he
    injection h with h
    subst h he
    rfl
  · split at h
    · cases h
    · unfold textP
      rw [mapM_text _ _ h, join_wds]
/-- Which plans are read again. -/
def Told (x : Coln) : Prop := 1 ≤ x.k ∧ x.k ≤ 5 ∧ 0 ≤ x.c ∧ x.c ≤ 999 ∧ (x.k = 5 → x.c = 0)
theorem itoa_short {n : Int} (h0 : 0 ≤ n) (h : n ≤ 999) : (itoa n).length ≤ 3 := by
  unfold itoa
  rw [if_neg (by omega), decDigits_length]
  exact nd_le 2 n.toNat (by show n.toNat < 1000; omega)
theorem textK_len {x : Coln} (h : Told x) : (textK x).length ≤ 4 ∧ (textK x) ≠ [] := by
  unfold textK
  rw [if_neg (by have := h.1; have := h.2.1; have := h.2.2.1; omega)]
  have := itoa_short h.2.2.1 h.2.2.2.1
  split
  · simp
  · simp; omega
theorem textK_no32 (x : Coln) : (32 : UInt8) ∉ textK x := by
  unfold textK
  split
  · simp
  · split
    · simp
    · rename_i h1 h2
      have hd : (32 : UInt8) ∉ itoa x.c := by
        intro h
        unfold itoa at h
        rw [if_neg (by omega)] at h
        have := dec_dig _ _ h
        cases this
      have hk : letK x.k ≠ 32 := by
        have : x.k = 1 ∨ x.k = 2 ∨ x.k = 3 ∨ x.k = 4 := by omega
        rcases this with e | e | e | e <;> rw [e] <;> decide
      intro h
      rcases List.mem_cons.1 h with h | h
      · exact hk h.symm
      · exact hd h
theorem mapM_told : ∀ (l : List Coln), (∀ x ∈ l, Told x) → (l.map textK).mapM colP = some l
  | [], _ => rfl
  | x :: r, h => by
    have hx := h x (by simp)
    rw [List.map_cons, List.mapM_cons, colP_of hx.1 hx.2.1 hx.2.2.1 (by have := hx.2.2.1; have := hx.2.2.2.1; unfold inI; omega) hx.2.2.2.2 (textK_len hx).1, mapM_told r (fun y hy => h y (by simp [hy]))]
    rfl
theorem join_ne {ws : List (List UInt8)} (h : ws ≠ []) (hx : ∀ x ∈ ws, x ≠ []) : join ws [32] ≠ [] := by
  cases ws with
  | nil => exact absurd rfl h
  | cons x r =>
    rw [join_cons]
    intro e
    exact hx x (by simp) (List.append_eq_nil_iff.1 e).1
theorem planP_told {l : List Coln} (hl : l.length ≤ 100) (h : ∀ x ∈ l, Told x) : planP (textP l) = some l := by
  cases l with
  | nil => rfl
  | cons x r =>
    have hw : wds 32 (textP (x :: r)) = (x :: r).map textK := wds_join 32 _ (by simp) (fun y hy => by
      obtain ⟨z, _, rfl⟩ := List.mem_map.1 hy
      exact textK_no32 z)
    unfold planP
    have hne : textP (x :: r) ≠ [] := join_ne (by simp) (fun y hy => by
      obtain ⟨z, hz, rfl⟩ := List.mem_map.1 hy
      exact (textK_len (h z hz)).2)
    rw [if_neg hne, hw, if_neg (by rw [List.length_map]; omega)]
    exact mapM_told _ h
/-- Asked for twice. -/
def twiceB (x y : Coln) : Bool := ((x.k == 5) == (y.k == 5)) && x.c == y.c
/-- A column's fault. -/
def colE (n : Int) (y : Coln) (ahead : List Coln) : Int :=
  if y.k < 1 ∨ 5 < y.k ∨ (y.k = 5 ∧ y.c ≠ 0) then 1 else if y.k ≠ 5 ∧ (y.c < 0 ∨ n ≤ y.c) then 11 else if ahead.any (fun x => twiceB x y) then 15 else 0
def askB (y : Coln) : Bool := y.k == 1 || y.k == 2 || y.k == 5
/-- The first fault of columns behind others. -/
def colsE (n : Int) : List Coln → List Coln → Int
  | _, [] => 0
  | ahead, y :: r => if colE n y ahead = 0 then colsE n (ahead ++ [y]) r else colE n y ahead
/-- Which plans may be. -/
def planE (n : Int) (l : List Coln) : Int := if 16 < l.length then 2 else if colsE n [] l ≠ 0 then colsE n [] l else if l.any askB then 0 else 1
end Go.Viv
end

/-
  Plans that may be, one column more, and plans made of numbers. No program in sight.
-/
section
namespace Go.Viv
open Go.Lib
theorem colsE_yes {n : Int} {a r : List Coln} {x : Coln} (h : colE n x a = 0) : colsE n a (x :: r) = colsE n (a ++ [x]) r := by rw [colsE, if_pos h]
theorem colsE_no {n : Int} {a r : List Coln} {x : Coln} (h : colE n x a ≠ 0) : colsE n a (x :: r) = colE n x a := by rw [colsE, if_neg h]
theorem colsE_snoc (n : Int) : ∀ (l a : List Coln) (y : Coln), colsE n a (l ++ [y]) = if colsE n a l = 0 then colE n y (a ++ l) else colsE n a l
  | [], a, y => by
    rw [List.nil_append, List.append_nil]
    by_cases h : colE n y a = 0
    · rw [colsE_yes h, h]; rfl
    · rw [colsE_no h]; rfl
  | x :: r, a, y => by
    have ih := colsE_snoc n r (a ++ [x]) y
    rw [List.cons_append]
    by_cases h : colE n x a = 0
    · rw [colsE_yes h, colsE_yes h, ih]
      simp
    · rw [colsE_no h, colsE_no h, if_neg h]
/-- As far as k columns none has a fault. -/
theorem colsE_take {n : Int} {l : List Coln} {k : Nat} (hk : k < l.length) (h : colsE n [] (l.take k) = 0) : colsE n [] (l.take (k + 1)) = colE n l[k] (l.take k) := by
  rw [List.take_succ_eq_append_getElem hk, colsE_snoc, if_pos h]
  simp
theorem colsE_stop (n : Int) : ∀ (l m a : List Coln), colsE n a l ≠ 0 → colsE n a (l ++ m) = colsE n a l
  | [], m, a, h => absurd rfl h
  | x :: r, m, a, h => by
    rw [List.cons_append]
    by_cases hx : colE n x a = 0
    · rw [colsE_yes hx] at h
      rw [colsE_yes hx, colsE_yes hx]
      exact colsE_stop n r m _ h
    · rw [colsE_no hx, colsE_no hx]
theorem colsE_at {n : Int} {l : List Coln} {k : Nat} (hk : k < l.length) (h : colsE n [] (l.take k) = 0) (hne : colE n l[k] (l.take k) ≠ 0) : colsE n [] l = colE n l[k] (l.take k) := by
  have h1 := colsE_take hk h
  have h2 := colsE_stop n (l.take (k + 1)) (l.drop (k + 1)) [] (by rw [h1]; exact hne)
  rw [List.take_append_drop, h1] at h2
  exact h2
theorem planE_many {n : Int} {l : List Coln} (h : 16 < l.length) : planE n l = 2 := by unfold planE; rw [if_pos h]
theorem planE_fault {n : Int} {l : List Coln} (h : l.length ≤ 16) (h1 : colsE n [] l ≠ 0) : planE n l = colsE n [] l := by
  unfold planE
  rw [if_neg (by omega), if_pos h1]
theorem planE_asks {n : Int} {l : List Coln} (h : l.length ≤ 16) (h1 : colsE n [] l = 0) : planE n l = if l.any askB then 0 else 1 := by
  unfold planE
  rw [if_neg (by omega), if_neg (by simp [h1])]
theorem colE_mono {n m : Int} (hm : n ≤ m) {y : Coln} {a : List Coln} (h : colE n y a = 0) : colE m y a = 0 := by
  unfold colE at h ⊢
  split at h
  · cases h
  · rename_i h1
    rw [if_neg h1]
    split at h
    · cases h
    · rename_i h2
      rw [if_neg (by omega)]
      exact h
theorem colsE_mono {n m : Int} (hm : n ≤ m) : ∀ (l a : List Coln), colsE n a l = 0 → colsE m a l = 0
  | [], _, _ => rfl
  | y :: r, a, h => by
    by_cases h1 : colE n y a = 0
    · rw [colsE_yes h1] at h
      rw [colsE_yes (colE_mono hm h1)]
      exact colsE_mono hm r _ h
    · rw [colsE_no h1] at h
      exact absurd h h1
/-- A plan that may be, of components below a bound: what Tame makes. -/
structure Tame17 (m : Int) (p : List Coln) : Prop where
  len : p.length ≤ 7
  pos : 0 < p.length
  each : ∀ x ∈ p, (1 ≤ x.k ∧ x.k ≤ 4 ∧ 0 ≤ x.c ∧ x.c < m ∧ x.c < 64) ∨ (x.k = 5 ∧ x.c = 0)
  none : colsE m [] p = 0
  asks : p.any askB = true
theorem Tame17.may {m n : Int} {p : List Coln} (h : Tame17 m p) (hn : m ≤ n) : planE n p = 0 := by
  rw [planE_asks (by have := h.len; omega) (colsE_mono hn _ _ h.none), h.asks]
  rfl
theorem Tame17.told {m : Int} {p : List Coln} (h : Tame17 m p) : ∀ x ∈ p, Told x := fun x hx => by
  rcases h.each x hx with ⟨h1, h2, h3, h4, h5⟩ | ⟨h1, h2⟩
  · exact ⟨by omega, by omega, by omega, by omega, by omega⟩
  · exact ⟨by omega, by omega, by omega, by omega, fun _ => h2⟩
theorem Tame17.twice {m n : Int} {p : List Coln} (h : Tame17 m p) (hn : m ≤ n) {x : Coln} (hx : x ∈ p) {k : Int} (hk : 1 ≤ k ∧ k ≤ 4) : planE n (p ++ [if x.k = 5 then x else ⟨k, x.c⟩]) = 15 := by
  have hc : colE n (if x.k = 5 then x else ⟨k, x.c⟩) p = 15 := by
    rcases h.each x hx with ⟨h1, h2, h3, h4, h5⟩ | ⟨h1, h2⟩
    · rw [if_neg (by omega)]
      unfold colE
      simp only
      rw [if_neg (by omega), if_neg (by omega), if_pos]
      refine List.any_eq_true.2 ⟨x, hx, ?_⟩
      unfold twiceB
      rw [show (x.k == 5) = false from beq_eq_false_iff_ne.2 (by omega), show (k == 5) = false from beq_eq_false_iff_ne.2 (by omega)]
      simp
    · rw [if_pos h1]
      unfold colE
      rw [if_neg (by omega), if_neg (by omega), if_pos]
      refine List.any_eq_true.2 ⟨x, hx, ?_⟩
      unfold twiceB
      simp
  have hs : colsE n [] (p ++ [if x.k = 5 then x else ⟨k, x.c⟩]) = 15 := by
    rw [colsE_snoc, if_pos (colsE_mono hn _ _ h.none)]
    exact hc
  rw [planE_fault (by have := h.len; simp; omega) (by rw [hs]; decide), hs]
theorem colE_ent (n : Int) (p : List Coln) (hp : ∀ x ∈ p, x.k = 5 → x.c = 0) : colE n ⟨5, 0⟩ p = if p.any (fun x => x.k == 5) then 15 else 0 := by
  unfold colE
  simp only
  rw [if_neg (by omega), if_neg (by omega)]
  have e : p.any (fun x => twiceB x ⟨5, 0⟩) = p.any (fun x => x.k == 5) := by
    rw [Bool.eq_iff_iff, List.any_eq_true, List.any_eq_true]
    constructor
    · rintro ⟨x, hx, h⟩
      refine ⟨x, hx, ?_⟩
      unfold twiceB at h
      simp at h
      simp [h.1]
    · rintro ⟨x, hx, h⟩
      refine ⟨x, hx, ?_⟩
      have h5 : x.k = 5 := by simpa using h
      unfold twiceB
      simp [h5, hp x hx h5]
  rw [e]
theorem Tame17.fives {m : Int} {p : List Coln} (h : Tame17 m p) : ∀ x ∈ p, x.k = 5 → x.c = 0 := fun x hx h5 => by
  rcases h.each x hx with ⟨h1, h2, h3, h4, h6⟩ | ⟨_, h2⟩
  · omega
  · exact h2
theorem Tame17.ent {m n : Int} {p : List Coln} (h : Tame17 m p) (hn : m ≤ n) : planE n (p ++ [⟨5, 0⟩]) = if p.any (fun x => x.k == 5) then 15 else 0 := by
  have hs : colsE n [] (p ++ [⟨5, 0⟩]) = if p.any (fun x => x.k == 5) then 15 else 0 := by
    rw [colsE_snoc, if_pos (colsE_mono hn _ _ h.none)]
    exact colE_ent n p h.fives
  by_cases hf : p.any (fun x => x.k == 5) = true
  · rw [if_pos hf] at hs ⊢
    rw [planE_fault (by have := h.len; simp; omega) (by rw [hs]; decide), hs]
  · rw [if_neg hf] at hs ⊢
    rw [planE_asks (by have := h.len; simp; omega) hs, if_pos (by simp [askB])]
theorem Tame17.ents {m n : Int} {p : List Coln} (h : Tame17 m p) (hn : m ≤ n) : planE n (p ++ [⟨5, 0⟩] ++ [⟨5, 0⟩]) = 15 := by
  have hs : colsE n [] (p ++ [⟨5, 0⟩] ++ [⟨5, 0⟩]) = 15 := by
    rw [colsE_snoc]
    by_cases hf : p.any (fun x => x.k == 5) = true
    · have h1 : colsE n [] (p ++ [⟨5, 0⟩]) = 15 := by
        rw [colsE_snoc, if_pos (colsE_mono hn _ _ h.none)]
        show colE n ⟨5, 0⟩ p = 15
        rw [colE_ent n p h.fives, if_pos hf]
      rw [if_neg (by rw [h1]; decide), h1]
    · have h1 : colsE n [] (p ++ [⟨5, 0⟩]) = 0 := by
        rw [colsE_snoc, if_pos (colsE_mono hn _ _ h.none)]
        show colE n ⟨5, 0⟩ p = 0
        rw [colE_ent n p h.fives, if_neg hf]
      rw [if_pos h1, List.nil_append, colE_ent n _ (fun x hx h5 => by
        rcases List.mem_append.1 hx with hx | hx
        · exact h.fives x hx h5
        · rw [List.mem_singleton.1 hx]), if_pos (by simp)]
  rw [planE_fault (by have := h.len; simp; omega) (by rw [hs]; decide), hs]
/-- What Tame has made so far. -/
structure TameAt (m : Int) (q : Nat) (ds : List Coln) : Prop where
  len : ds.length ≤ q
  each : ∀ x ∈ ds, 1 ≤ x.k ∧ x.k ≤ 4 ∧ 0 ≤ x.c ∧ x.c < m ∧ x.c < 64
  none : colsE m [] ds = 0
theorem TameAt.nil (m : Int) : TameAt m 0 [] := ⟨by simp, by simp, rfl⟩
theorem TameAt.more {m : Int} {q : Nat} {ds : List Coln} (h : TameAt m q ds) : TameAt m (q + 1) ds := ⟨by have := h.len; omega, h.each, h.none⟩
theorem TameAt.snoc {m : Int} {q : Nat} {ds : List Coln} (h : TameAt m q ds) {y : Coln} (hy : 1 ≤ y.k ∧ y.k ≤ 4 ∧ 0 ≤ y.c ∧ y.c < m ∧ y.c < 64) (hn : ∀ x ∈ ds, x.c ≠ y.c) : TameAt m (q + 1) (ds ++ [y]) := by
  refine ⟨by have := h.len; simp; omega, fun x hx => ?_, ?_⟩
  · rcases List.mem_append.1 hx with hx | hx
    · exact h.each x hx
    · rw [List.mem_singleton.1 hx]; exact hy
  · rw [colsE_snoc, if_pos h.none]
    unfold colE
    rw [if_neg (by omega), if_neg (by omega), if_neg]
    intro ha
    obtain ⟨x, hx, ht⟩ := List.any_eq_true.1 ha
    unfold twiceB at ht
    simp at ht
    exact hn x (by simpa using hx) ht.2
def rwB (x : Coln) : Bool := x.k == 1 || x.k == 2
theorem TameAt.done {m : Int} {q : Nat} {ds : List Coln} (h : TameAt m q ds) (hq : q ≤ 6) (hs : ds.any rwB = true) : Tame17 m ds := by
  have ha : ds.any askB = true := by
    obtain ⟨x, hx, hr⟩ := List.any_eq_true.1 hs
    refine List.any_eq_true.2 ⟨x, hx, ?_⟩
    unfold rwB at hr
    unfold askB
    simp at hr ⊢
    exact .inl hr
  refine ⟨by have := h.len; omega, ?_, fun x hx => .inl (h.each x hx), h.none, ha⟩
  cases ds with
  | nil => simp at hs
  | cons x r => simp
theorem TameAt.ent {m : Int} {q : Nat} {ds : List Coln} (h : TameAt m q ds) (hq : q ≤ 6) : Tame17 m (ds ++ [⟨5, 0⟩]) := by
  refine ⟨by have := h.len; simp; omega, by simp, fun x hx => ?_, ?_, by simp [askB]⟩
  · rcases List.mem_append.1 hx with hx | hx
    · exact .inl (h.each x hx)
    · rw [List.mem_singleton.1 hx]; exact .inr ⟨rfl, rfl⟩
  · rw [colsE_snoc, if_pos h.none]
    show colE m ⟨5, 0⟩ ds = 0
    rw [colE_ent m ds (fun x hx h5 => by have := h.each x hx; omega), if_neg]
    intro ha
    obtain ⟨x, hx, ht⟩ := List.any_eq_true.1 ha
    have := h.each x hx
    have : x.k = 5 := by simpa using ht
    omega
end Go.Viv
end

/-
  What the library says of calls of the standard library at this seat: printed by the shelf.
-/
section
namespace Go.Proofs
open Go.Shelf
def Tryz.lays156_ren : Go.Shelf.Ren := ⟨fun | 156 => 106 | 165 => 153 | 166 => 154 | 169 => 155 | 240 => 179 | 241 => 180 | 276 => 210 | 277 => 211 | n => n, fun | 31 => 202 | 9 => 9 | 3 => 3 | 4 => 4 | 0 => 0 | 20 => 20 | 72 => 253 | 76 => 247 | 70 => 250 | 37 => 251 | 75 => 246 | 127 => 277 | 164 => 304 | 5 => 5 | 80 => 255 | n => n, fun | n => n⟩
theorem Tryz.lays156 : Go.Proofs.Lays.n156 Tryz.prog Tryz.lays156_ren := {
  mixed := by kernel_rfl
  f156 := Tryz.func106.trans (congrArg some (by kernel_rfl))
  f165 := Tryz.func153.trans (congrArg some (by kernel_rfl))
  f166 := Tryz.func154.trans (congrArg some (by kernel_rfl))
  f169 := Tryz.func155.trans (congrArg some (by kernel_rfl))
  f240 := Tryz.func179.trans (congrArg some (by kernel_rfl))
  f241 := Tryz.func180.trans (congrArg some (by kernel_rfl))
  f276 := Tryz.func210.trans (congrArg some (by kernel_rfl))
  f277 := Tryz.func211.trans (congrArg some (by kernel_rfl))
  t0 := Tryz.underlying0
  a0 := Tryz.isAgg0
  z0 := Tryz.sizeOf0
  v0 := Tryz.zeroValue0
  t3 := Tryz.underlying3
  a3 := Tryz.isAgg3
  z3 := Tryz.sizeOf3
  v3 := Tryz.zeroValue3
  t4 := Tryz.underlying4
  a4 := Tryz.isAgg4
  z4 := Tryz.sizeOf4
  v4 := Tryz.zeroValue4
  t9 := Tryz.underlying9
  a9 := Tryz.isAgg9
  z9 := Tryz.sizeOf9
  v9 := Tryz.zeroValue9
  t20 := Tryz.underlying20
  a20 := Tryz.isAgg20
  z20 := Tryz.sizeOf20
  v20 := Tryz.zeroValue20
  t31 := Tryz.underlying202
  a31 := Tryz.isAgg202
  z31 := Tryz.sizeOf202
  v31 := Tryz.zeroValue202
  t37 := Tryz.underlying251
  a37 := Tryz.isAgg251
  z37 := Tryz.sizeOf251
  v37 := Tryz.zeroValue251
  t70 := Tryz.underlying250
  a70 := Tryz.isAgg250
  z70 := Tryz.sizeOf250
  v70 := Tryz.zeroValue250
  t72 := Tryz.underlying253
  a72 := Tryz.isAgg253
  z72 := Tryz.sizeOf253
  v72 := Tryz.zeroValue253
  t75 := Tryz.underlying246
  a75 := Tryz.isAgg246
  z75 := Tryz.sizeOf246
  v75 := Tryz.zeroValue246
  t76 := Tryz.underlying247
  a76 := Tryz.isAgg247
  z76 := Tryz.sizeOf247
  v76 := Tryz.zeroValue247
  t127 := Tryz.underlying277
  a127 := Tryz.isAgg277
  z127 := Tryz.sizeOf277
  v127 := Tryz.zeroValue277
  t164 := Tryz.underlying304
  a164 := Tryz.isAgg304
  z164 := Tryz.sizeOf304
  v164 := Tryz.zeroValue304 }
theorem Tryz.Builder_Extra_156 : Builder.Extra Tryz.prog Tryz.lays156_ren := {
  sizeBuilder := by kernel_rfl
  liesBuilder := by kernel_rfl
  t5 := Tryz.underlying5
  a5 := Tryz.isAgg5
  z5 := Tryz.sizeOf5
  v5 := Tryz.zeroValue5
  infoByte := by kernel_rfl
  cellsByte := by kernel_rfl
  sizeByte := by kernel_rfl
  neB5 := by decide }
open Go.RowKit in
theorem Tryz.strings_Join_none (a : Option Addr) (c : Nat) (sep : ByteArray) (w : World) :
    Calls Tryz.prog 106 #[.slice a 0 c, .string sep] w fun e w' => e = .returned (.string ⟨#[]⟩) ∧ w' = w := Any.strings_Join_none Tryz.lays156 Tryz.Builder_Extra_156 a c sep w
open Go.RowKit in
theorem Tryz.strings_Join (bk o c : Nat) (xs : List ByteArray) (sep : ByteArray) (w : World) (hcells : ∀ (j : Nat) x, xs[j]? = some x → w.cell? ⟨bk, o + j, none⟩ = some (.string x)) (hbk : bk < w.heap.size) (hN : xs.length ≤ 140737488355328) (hcap : xs.length ≤ c) (hlen : (Lib.join (xs.map (·.data.toList)) sep.data.toList).length ≤ 140737488355328) :
    Calls Tryz.prog 106 #[.slice (some ⟨bk, o, none⟩) xs.length c, .string sep] w fun e w' => e = .returned (.string ⟨(Lib.join (xs.map (·.data.toList)) sep.data.toList).toArray⟩) ∧ Below w.heap.size w w' := Any.strings_Join Tryz.lays156 Tryz.Builder_Extra_156 bk o c xs sep w hcells hbk hN hcap hlen
def Tryz.laysM171_ren : Go.Shelf.Ren := ⟨fun | 171 => 152 | 243 => 178 | 246 => 209 | 283 => 231 | 284 => 232 | 285 => 233 | 286 => 234 | 129 => 191 | 317 => 244 | 318 => 245 | 319 => 246 | 320 => 247 | 337 => 248 | 338 => 102 | n => n, fun | 3 => 3 | 9 => 9 | 2 => 2 | 4 => 4 | 171 => 331 | 0 => 0 | 53 => 144 | 37 => 251 | 5 => 5 | 173 => 333 | 212 => 358 | 51 => 287 | 20 => 20 | 213 => 359 | 46 => 99 | 232 => 376 | 233 => 242 | n => n, fun | 17 => 6 | 18 => 7 | 19 => 0 | n => n⟩
theorem Tryz.laysM171 : Go.Proofs.LaysM.n171 Tryz.prog Tryz.laysM171_ren := {
  mixed := by kernel_rfl
  f129 := Tryz.func191.trans (congrArg some (by kernel_rfl))
  f171 := Tryz.func152.trans (congrArg some (by kernel_rfl))
  f243 := Tryz.func178.trans (congrArg some (by kernel_rfl))
  f246 := Tryz.func209.trans (congrArg some (by kernel_rfl))
  f283 := Tryz.func231.trans (congrArg some (by kernel_rfl))
  f284 := Tryz.func232.trans (congrArg some (by kernel_rfl))
  f285 := Tryz.func233.trans (congrArg some (by kernel_rfl))
  f286 := Tryz.func234.trans (congrArg some (by kernel_rfl))
  f317 := Tryz.func244.trans (congrArg some (by kernel_rfl))
  f318 := Tryz.func245.trans (congrArg some (by kernel_rfl))
  f319 := Tryz.func246.trans (congrArg some (by kernel_rfl))
  f320 := Tryz.func247.trans (congrArg some (by kernel_rfl))
  f337 := Tryz.func248.trans (congrArg some (by kernel_rfl))
  f338 := Tryz.func102.trans (congrArg some (by kernel_rfl))
  t0 := Tryz.underlying0
  a0 := Tryz.isAgg0
  z0 := Tryz.sizeOf0
  v0 := Tryz.zeroValue0
  t2 := Tryz.underlying2
  a2 := Tryz.isAgg2
  z2 := Tryz.sizeOf2
  v2 := Tryz.zeroValue2
  t3 := Tryz.underlying3
  a3 := Tryz.isAgg3
  z3 := Tryz.sizeOf3
  v3 := Tryz.zeroValue3
  t4 := Tryz.underlying4
  a4 := Tryz.isAgg4
  z4 := Tryz.sizeOf4
  v4 := Tryz.zeroValue4
  t5 := Tryz.underlying5
  a5 := Tryz.isAgg5
  z5 := Tryz.sizeOf5
  v5 := Tryz.zeroValue5
  t9 := Tryz.underlying9
  a9 := Tryz.isAgg9
  z9 := Tryz.sizeOf9
  v9 := Tryz.zeroValue9
  t20 := Tryz.underlying20
  a20 := Tryz.isAgg20
  z20 := Tryz.sizeOf20
  v20 := Tryz.zeroValue20
  t37 := Tryz.underlying251
  a37 := Tryz.isAgg251
  z37 := Tryz.sizeOf251
  v37 := Tryz.zeroValue251
  t46 := Tryz.underlying99
  a46 := Tryz.isAgg99
  z46 := Tryz.sizeOf99
  v46 := Tryz.zeroValue99
  t51 := Tryz.underlying287
  a51 := Tryz.isAgg287
  z51 := Tryz.sizeOf287
  v51 := Tryz.zeroValue287
  t53 := Tryz.underlying144
  a53 := Tryz.isAgg144
  z53 := Tryz.sizeOf144
  v53 := Tryz.zeroValue144
  t171 := Tryz.underlying331
  a171 := Tryz.isAgg331
  z171 := Tryz.sizeOf331
  v171 := Tryz.zeroValue331
  t173 := Tryz.underlying333
  a173 := Tryz.isAgg333
  z173 := Tryz.sizeOf333
  v173 := Tryz.zeroValue333
  t212 := Tryz.underlying358
  a212 := Tryz.isAgg358
  z212 := Tryz.sizeOf358
  v212 := Tryz.zeroValue358
  t213 := Tryz.underlying359
  a213 := Tryz.isAgg359
  z213 := Tryz.sizeOf359
  t232 := Tryz.underlying376
  a232 := Tryz.isAgg376
  z232 := Tryz.sizeOf376
  v232 := Tryz.zeroValue376
  t233 := Tryz.underlying242
  a233 := Tryz.isAgg242
  z233 := Tryz.sizeOf242
  v233 := Tryz.zeroValue242
  g17 := by kernel_rfl
  g18 := by kernel_rfl
  g19 := by kernel_rfl
  i0 := by kernel_rfl
  i2 := by kernel_rfl
  i3 := by kernel_rfl
  i4 := by kernel_rfl
  i5 := by kernel_rfl
  i9 := by kernel_rfl
  i20 := by kernel_rfl
  i37 := by kernel_rfl
  i46 := by kernel_rfl
  i51 := by kernel_rfl
  i53 := by kernel_rfl
  i171 := by kernel_rfl
  i173 := by kernel_rfl
  i212 := by kernel_rfl
  i232 := by kernel_rfl
  i233 := by kernel_rfl
  m17 := by kernel_rfl
  m18 := by kernel_rfl
  m19 := by kernel_rfl }
open Go.RowKit Go.Sort Go.Lib in
theorem Tryz.strconv_Itoa (n : Int) (h0 : -9223372036854775808 ≤ n) (h1 : n ≤ 9223372036854775807) (w : World) (htab : Lib.TabIs Tryz.prog w "internal/strconv.uint64pow10" .u64 Lib.pow10Tab) :
    Calls Tryz.prog 152 #[.int .i64 n] w fun e w' => e = .returned (.string ⟨(Lib.itoa n).toArray⟩) ∧ ∃ k os, w' = grow (w.drewN k) os := Any.strconv_Itoa Tryz.laysM171 n h0 h1 w htab
def Tryz.laysC172_ren : Go.Shelf.Ren := ⟨fun | 172 => 151 | 244 => 176 | 245 => 177 | 247 => 204 | 279 => 205 | 280 => 206 | 281 => 207 | 282 => 208 | 287 => 228 | 316 => 229 | 171 => 152 | 205 => 230 | 321 => 242 | 322 => 243 | 243 => 178 | 246 => 209 | 283 => 231 | 284 => 232 | 285 => 233 | 286 => 234 | 129 => 191 | 317 => 244 | 318 => 245 | 319 => 246 | 320 => 247 | 337 => 248 | 338 => 102 | n => n, fun | 9 => 9 | 3 => 3 | 75 => 246 | 76 => 247 | 4 => 4 | 5 => 5 | 167 => 297 | 37 => 251 | 0 => 0 | 85 => 298 | 2 => 2 | 168 => 300 | 53 => 144 | 175 => 325 | 46 => 99 | 210 => 329 | 127 => 277 | 145 => 356 | 143 => 354 | 21 => 21 | 171 => 331 | 173 => 333 | 212 => 358 | 51 => 287 | 20 => 20 | 213 => 359 | 232 => 376 | 233 => 242 | 80 => 255 | n => n, fun | 15 => 2 | 16 => 3 | 17 => 6 | 18 => 7 | 19 => 0 | n => n⟩
theorem Tryz.laysC172 : Go.Proofs.LaysC.n172 Tryz.prog Tryz.laysC172_ren := {
  mixed := by kernel_rfl
  f129 := Tryz.func191.trans (congrArg some (by kernel_rfl))
  f171 := Tryz.func152.trans (congrArg some (by kernel_rfl))
  f172 := Tryz.func151.trans (congrArg some (by kernel_rfl))
  f205 := Tryz.func230.trans (congrArg some (by kernel_rfl))
  f243 := Tryz.func178.trans (congrArg some (by kernel_rfl))
  f244 := Tryz.func176.trans (congrArg some (by kernel_rfl))
  f245 := Tryz.func177.trans (congrArg some (by kernel_rfl))
  f246 := Tryz.func209.trans (congrArg some (by kernel_rfl))
  f247 := Tryz.func204.trans (congrArg some (by kernel_rfl))
  f279 := Tryz.func205.trans (congrArg some (by kernel_rfl))
  f280 := Tryz.func206.trans (congrArg some (by kernel_rfl))
  f281 := Tryz.func207.trans (congrArg some (by kernel_rfl))
  f282 := Tryz.func208.trans (congrArg some (by kernel_rfl))
  f283 := Tryz.func231.trans (congrArg some (by kernel_rfl))
  f284 := Tryz.func232.trans (congrArg some (by kernel_rfl))
  f285 := Tryz.func233.trans (congrArg some (by kernel_rfl))
  f286 := Tryz.func234.trans (congrArg some (by kernel_rfl))
  f287 := Tryz.func228.trans (congrArg some (by kernel_rfl))
  f316 := Tryz.func229.trans (congrArg some (by kernel_rfl))
  f317 := Tryz.func244.trans (congrArg some (by kernel_rfl))
  f318 := Tryz.func245.trans (congrArg some (by kernel_rfl))
  f319 := Tryz.func246.trans (congrArg some (by kernel_rfl))
  f320 := Tryz.func247.trans (congrArg some (by kernel_rfl))
  f321 := Tryz.func242.trans (congrArg some (by kernel_rfl))
  f322 := Tryz.func243.trans (congrArg some (by kernel_rfl))
  f337 := Tryz.func248.trans (congrArg some (by kernel_rfl))
  f338 := Tryz.func102.trans (congrArg some (by kernel_rfl))
  t0 := Tryz.underlying0
  a0 := Tryz.isAgg0
  z0 := Tryz.sizeOf0
  v0 := Tryz.zeroValue0
  t2 := Tryz.underlying2
  a2 := Tryz.isAgg2
  z2 := Tryz.sizeOf2
  v2 := Tryz.zeroValue2
  t3 := Tryz.underlying3
  a3 := Tryz.isAgg3
  z3 := Tryz.sizeOf3
  v3 := Tryz.zeroValue3
  t4 := Tryz.underlying4
  a4 := Tryz.isAgg4
  z4 := Tryz.sizeOf4
  v4 := Tryz.zeroValue4
  t5 := Tryz.underlying5
  a5 := Tryz.isAgg5
  z5 := Tryz.sizeOf5
  v5 := Tryz.zeroValue5
  t9 := Tryz.underlying9
  a9 := Tryz.isAgg9
  z9 := Tryz.sizeOf9
  v9 := Tryz.zeroValue9
  t20 := Tryz.underlying20
  a20 := Tryz.isAgg20
  z20 := Tryz.sizeOf20
  v20 := Tryz.zeroValue20
  t21 := Tryz.underlying21
  a21 := Tryz.isAgg21
  z21 := Tryz.sizeOf21
  v21 := Tryz.zeroValue21
  t37 := Tryz.underlying251
  a37 := Tryz.isAgg251
  z37 := Tryz.sizeOf251
  v37 := Tryz.zeroValue251
  t46 := Tryz.underlying99
  a46 := Tryz.isAgg99
  z46 := Tryz.sizeOf99
  v46 := Tryz.zeroValue99
  t51 := Tryz.underlying287
  a51 := Tryz.isAgg287
  z51 := Tryz.sizeOf287
  v51 := Tryz.zeroValue287
  t53 := Tryz.underlying144
  a53 := Tryz.isAgg144
  z53 := Tryz.sizeOf144
  v53 := Tryz.zeroValue144
  t75 := Tryz.underlying246
  a75 := Tryz.isAgg246
  z75 := Tryz.sizeOf246
  v75 := Tryz.zeroValue246
  t76 := Tryz.underlying247
  a76 := Tryz.isAgg247
  z76 := Tryz.sizeOf247
  v76 := Tryz.zeroValue247
  t85 := Tryz.underlying298
  a85 := Tryz.isAgg298
  z85 := Tryz.sizeOf298
  v85 := Tryz.zeroValue298
  t127 := Tryz.underlying277
  a127 := Tryz.isAgg277
  z127 := Tryz.sizeOf277
  v127 := Tryz.zeroValue277
  t143 := Tryz.underlying354
  a143 := Tryz.isAgg354
  z143 := Tryz.sizeOf354
  v143 := Tryz.zeroValue354
  t145 := Tryz.underlying356
  a145 := Tryz.isAgg356
  z145 := Tryz.sizeOf356
  v145 := Tryz.zeroValue356
  t167 := Tryz.underlying297
  a167 := Tryz.isAgg297
  z167 := Tryz.sizeOf297
  v167 := Tryz.zeroValue297
  t168 := Tryz.underlying300
  a168 := Tryz.isAgg300
  z168 := Tryz.sizeOf300
  v168 := Tryz.zeroValue300
  t171 := Tryz.underlying331
  a171 := Tryz.isAgg331
  z171 := Tryz.sizeOf331
  v171 := Tryz.zeroValue331
  t173 := Tryz.underlying333
  a173 := Tryz.isAgg333
  z173 := Tryz.sizeOf333
  v173 := Tryz.zeroValue333
  t175 := Tryz.underlying325
  a175 := Tryz.isAgg325
  z175 := Tryz.sizeOf325
  v175 := Tryz.zeroValue325
  t210 := Tryz.underlying329
  a210 := Tryz.isAgg329
  z210 := Tryz.sizeOf329
  v210 := Tryz.zeroValue329
  t212 := Tryz.underlying358
  a212 := Tryz.isAgg358
  z212 := Tryz.sizeOf358
  v212 := Tryz.zeroValue358
  t213 := Tryz.underlying359
  a213 := Tryz.isAgg359
  z213 := Tryz.sizeOf359
  t232 := Tryz.underlying376
  a232 := Tryz.isAgg376
  z232 := Tryz.sizeOf376
  v232 := Tryz.zeroValue376
  t233 := Tryz.underlying242
  a233 := Tryz.isAgg242
  z233 := Tryz.sizeOf242
  v233 := Tryz.zeroValue242
  g15 := by kernel_rfl
  g16 := by kernel_rfl
  g17 := by kernel_rfl
  g18 := by kernel_rfl
  g19 := by kernel_rfl
  t80 := Tryz.underlying255
  a80 := Tryz.isAgg255
  z80 := Tryz.sizeOf255
  v80 := Tryz.zeroValue255
  i0 := by kernel_rfl
  i2 := by kernel_rfl
  i3 := by kernel_rfl
  i4 := by kernel_rfl
  i5 := by kernel_rfl
  i9 := by kernel_rfl
  i20 := by kernel_rfl
  i21 := by kernel_rfl
  i37 := by kernel_rfl
  i46 := by kernel_rfl
  i51 := by kernel_rfl
  i53 := by kernel_rfl
  i75 := by kernel_rfl
  i76 := by kernel_rfl
  i80 := by kernel_rfl
  i85 := by kernel_rfl
  i127 := by kernel_rfl
  i143 := by kernel_rfl
  i145 := by kernel_rfl
  i167 := by kernel_rfl
  i168 := by kernel_rfl
  i171 := by kernel_rfl
  i173 := by kernel_rfl
  i175 := by kernel_rfl
  i210 := by kernel_rfl
  i212 := by kernel_rfl
  i232 := by kernel_rfl
  i233 := by kernel_rfl
  m15 := by kernel_rfl
  m16 := by kernel_rfl
  m17 := by kernel_rfl
  m18 := by kernel_rfl
  m19 := by kernel_rfl
  c0 := by kernel_rfl
  c2 := by kernel_rfl
  c3 := by kernel_rfl
  c4 := by kernel_rfl
  c5 := by kernel_rfl
  c9 := by kernel_rfl
  c20 := by kernel_rfl
  c21 := by kernel_rfl
  c37 := by kernel_rfl
  c46 := by kernel_rfl
  c51 := by kernel_rfl
  c53 := by kernel_rfl
  c75 := by kernel_rfl
  c76 := by kernel_rfl
  c80 := by kernel_rfl
  c85 := by kernel_rfl
  c127 := by kernel_rfl
  c143 := by kernel_rfl
  c145 := by kernel_rfl
  c167 := by kernel_rfl
  c168 := by kernel_rfl
  c171 := by kernel_rfl
  c173 := by kernel_rfl
  c175 := by kernel_rfl
  c210 := by kernel_rfl
  c212 := by kernel_rfl
  c213 := by kernel_rfl
  c232 := by kernel_rfl
  c233 := by kernel_rfl }
open Go.RowKit in
theorem Tryz.strconv_Atoi_ok (s : ByteArray) (hmax : s.size ≤ 9223372036854775806) (v : Int) (h : Lib.atoiAll s.data.toList = .ok v) (w : World) :
    Calls Tryz.prog 151 #[.string s] w fun e w' => e = .returned (.tuple #[.int .i64 v, .nilIface]) ∧ (w' = w ∨ ∃ t, w' = Lib.bytesWorld w 5 t) := Any.strconv_Atoi_ok Tryz.laysC172 s hmax v h w
def Tryz.lays143_ren : Go.Shelf.Ren := ⟨fun | 143 => 150 | 219 => 175 | 217 => 200 | 225 => 201 | 224 => 202 | 267 => 203 | 266 => 226 | 314 => 227 | n => n, fun | 9 => 9 | 3 => 3 | 4 => 4 | 5 => 5 | 46 => 99 | 146 => 323 | 51 => 287 | n => n, fun | 1 => 1 | n => n⟩
theorem Tryz.lays143 : Go.Proofs.Lays.n143 Tryz.prog Tryz.lays143_ren := {
  mixed := by kernel_rfl
  f143 := Tryz.func150.trans (congrArg some (by kernel_rfl))
  f217 := Tryz.func200.trans (congrArg some (by kernel_rfl))
  f219 := Tryz.func175.trans (congrArg some (by kernel_rfl))
  f224 := Tryz.func202.trans (congrArg some (by kernel_rfl))
  f225 := Tryz.func201.trans (congrArg some (by kernel_rfl))
  f266 := Tryz.func226.trans (congrArg some (by kernel_rfl))
  f267 := Tryz.func203.trans (congrArg some (by kernel_rfl))
  f314 := Tryz.func227.trans (congrArg some (by kernel_rfl))
  t3 := Tryz.underlying3
  a3 := Tryz.isAgg3
  z3 := Tryz.sizeOf3
  v3 := Tryz.zeroValue3
  t4 := Tryz.underlying4
  a4 := Tryz.isAgg4
  z4 := Tryz.sizeOf4
  v4 := Tryz.zeroValue4
  t5 := Tryz.underlying5
  a5 := Tryz.isAgg5
  z5 := Tryz.sizeOf5
  v5 := Tryz.zeroValue5
  t9 := Tryz.underlying9
  a9 := Tryz.isAgg9
  z9 := Tryz.sizeOf9
  v9 := Tryz.zeroValue9
  t46 := Tryz.underlying99
  a46 := Tryz.isAgg99
  z46 := Tryz.sizeOf99
  v46 := Tryz.zeroValue99
  t51 := Tryz.underlying287
  a51 := Tryz.isAgg287
  z51 := Tryz.sizeOf287
  v51 := Tryz.zeroValue287
  t146 := Tryz.underlying323
  a146 := Tryz.isAgg323
  z146 := Tryz.sizeOf323
  v146 := Tryz.zeroValue323
  g1 := by kernel_rfl }
open Go.RowKit Go.Lib in
theorem Tryz.strings_Index_one (s : ByteArray) (c : UInt8) (w : World) :
    Calls Tryz.prog 150 #[.string s, .string ⟨#[c]⟩] w fun e w' => e = .returned (.int .i64 (Lib.indexByte s.data.toList c)) ∧ w' = w := Any.strings_Index_one Tryz.lays143 s c w
def Tryz.lays189_ren : Go.Shelf.Ren := ⟨fun | 189 => 110 | 125 => 158 | 257 => 157 | 128 => 190 | 129 => 191 | 294 => 181 | 295 => 182 | 296 => 183 | 297 => 184 | 298 => 185 | 299 => 186 | 216 => 187 | 300 => 188 | 301 => 189 | 328 => 212 | 329 => 213 | 330 => 214 | 331 => 215 | 332 => 216 | 215 => 217 | 343 => 235 | n => n, fun | 28 => 22 | 3 => 3 | 46 => 99 | 0 => 0 | 51 => 287 | 53 => 144 | 4 => 4 | 183 => 280 | 182 => 279 | 131 => 100 | 5 => 5 | 9 => 9 | 218 => 307 | 222 => 311 | 228 => 335 | 229 => 160 | n => n, fun | n => n⟩
theorem Tryz.lays189 : Go.Proofs.Lays.n189 Tryz.prog Tryz.lays189_ren := {
  mixed := by kernel_rfl
  f125 := Tryz.func158.trans (congrArg some (by kernel_rfl))
  f128 := Tryz.func190.trans (congrArg some (by kernel_rfl))
  f129 := Tryz.func191.trans (congrArg some (by kernel_rfl))
  f189 := Tryz.func110.trans (congrArg some (by kernel_rfl))
  f215 := Tryz.func217.trans (congrArg some (by kernel_rfl))
  f216 := Tryz.func187.trans (congrArg some (by kernel_rfl))
  f257 := Tryz.func157.trans (congrArg some (by kernel_rfl))
  f294 := Tryz.func181.trans (congrArg some (by kernel_rfl))
  f295 := Tryz.func182.trans (congrArg some (by kernel_rfl))
  f296 := Tryz.func183.trans (congrArg some (by kernel_rfl))
  f297 := Tryz.func184.trans (congrArg some (by kernel_rfl))
  f298 := Tryz.func185.trans (congrArg some (by kernel_rfl))
  f299 := Tryz.func186.trans (congrArg some (by kernel_rfl))
  f300 := Tryz.func188.trans (congrArg some (by kernel_rfl))
  f301 := Tryz.func189.trans (congrArg some (by kernel_rfl))
  f328 := Tryz.func212.trans (congrArg some (by kernel_rfl))
  f329 := Tryz.func213.trans (congrArg some (by kernel_rfl))
  f330 := Tryz.func214.trans (congrArg some (by kernel_rfl))
  f331 := Tryz.func215.trans (congrArg some (by kernel_rfl))
  f332 := Tryz.func216.trans (congrArg some (by kernel_rfl))
  f343 := Tryz.func235.trans (congrArg some (by kernel_rfl))
  t0 := Tryz.underlying0
  a0 := Tryz.isAgg0
  z0 := Tryz.sizeOf0
  v0 := Tryz.zeroValue0
  t3 := Tryz.underlying3
  a3 := Tryz.isAgg3
  z3 := Tryz.sizeOf3
  v3 := Tryz.zeroValue3
  t4 := Tryz.underlying4
  a4 := Tryz.isAgg4
  z4 := Tryz.sizeOf4
  v4 := Tryz.zeroValue4
  t5 := Tryz.underlying5
  a5 := Tryz.isAgg5
  z5 := Tryz.sizeOf5
  v5 := Tryz.zeroValue5
  t9 := Tryz.underlying9
  a9 := Tryz.isAgg9
  z9 := Tryz.sizeOf9
  v9 := Tryz.zeroValue9
  t28 := Tryz.underlying22
  a28 := Tryz.isAgg22
  z28 := Tryz.sizeOf22
  v28 := Tryz.zeroValue22
  t46 := Tryz.underlying99
  a46 := Tryz.isAgg99
  z46 := Tryz.sizeOf99
  v46 := Tryz.zeroValue99
  t51 := Tryz.underlying287
  a51 := Tryz.isAgg287
  z51 := Tryz.sizeOf287
  v51 := Tryz.zeroValue287
  t53 := Tryz.underlying144
  a53 := Tryz.isAgg144
  z53 := Tryz.sizeOf144
  v53 := Tryz.zeroValue144
  t131 := Tryz.underlying100
  a131 := Tryz.isAgg100
  z131 := Tryz.sizeOf100
  v131 := Tryz.zeroValue100
  t182 := Tryz.underlying279
  a182 := Tryz.isAgg279
  z182 := Tryz.sizeOf279
  v182 := Tryz.zeroValue279
  t183 := Tryz.underlying280
  a183 := Tryz.isAgg280
  z183 := Tryz.sizeOf280
  v183 := Tryz.zeroValue280
  t218 := Tryz.underlying307
  a218 := Tryz.isAgg307
  z218 := Tryz.sizeOf307
  v218 := Tryz.zeroValue307
  t222 := Tryz.underlying311
  a222 := Tryz.isAgg311
  z222 := Tryz.sizeOf311
  v222 := Tryz.zeroValue311
  t228 := Tryz.underlying335
  a228 := Tryz.isAgg335
  z228 := Tryz.sizeOf335
  v228 := Tryz.zeroValue335
  t229 := Tryz.underlying160
  a229 := Tryz.isAgg160
  z229 := Tryz.sizeOf160
  v229 := Tryz.zeroValue160 }
open Go.Sort Go.RowKit in
theorem Tryz.slices_Sort_int (blk off cap : Nat) (zs : List Int) (w : World) (hH : Holds (Value.int .i64) w blk off zs.toArray) (hblk : blk < w.heap.size) (hsz : zs.length < 4611686018427387904) :
    Calls Tryz.prog 110 #[.slice (some ⟨blk, off, none⟩) zs.length cap] w fun e w' =>
      e = .returned (.tuple #[]) ∧ ∃ n os, w' = grow (putRow (Value.int .i64) (Sort.ahead w n) blk off (zs.mergeSort fun x y => decide (x ≤ y)).toArray) os := Any.slices_Sort_int Tryz.lays189 blk off cap zs w hH hblk hsz
def Tryz.lays146_ren : Go.Shelf.Ren := ⟨fun | 146 => 103 | 221 => 149 | 268 => 173 | 138 => 174 | 143 => 150 | 195 => 197 | 197 => 198 | 218 => 199 | 219 => 175 | 260 => 225 | 217 => 200 | 225 => 201 | 224 => 202 | 267 => 203 | 266 => 226 | 314 => 227 | n => n, fun | 9 => 9 | 31 => 202 | 3 => 3 | 4 => 4 | 0 => 0 | 105 => 294 | 21 => 21 | 5 => 5 | 46 => 99 | 119 => 348 | 139 => 351 | 138 => 350 | 146 => 323 | 51 => 287 | n => n, fun | 1 => 1 | 3 => 4 | 4 => 5 | n => n⟩
theorem Tryz.lays146 : Go.Proofs.Lays.n146 Tryz.prog Tryz.lays146_ren := {
  mixed := by kernel_rfl
  f138 := Tryz.func174.trans (congrArg some (by kernel_rfl))
  f143 := Tryz.func150.trans (congrArg some (by kernel_rfl))
  f146 := Tryz.func103.trans (congrArg some (by kernel_rfl))
  f195 := Tryz.func197.trans (congrArg some (by kernel_rfl))
  f197 := Tryz.func198.trans (congrArg some (by kernel_rfl))
  f217 := Tryz.func200.trans (congrArg some (by kernel_rfl))
  f218 := Tryz.func199.trans (congrArg some (by kernel_rfl))
  f219 := Tryz.func175.trans (congrArg some (by kernel_rfl))
  f221 := Tryz.func149.trans (congrArg some (by kernel_rfl))
  f224 := Tryz.func202.trans (congrArg some (by kernel_rfl))
  f225 := Tryz.func201.trans (congrArg some (by kernel_rfl))
  f260 := Tryz.func225.trans (congrArg some (by kernel_rfl))
  f266 := Tryz.func226.trans (congrArg some (by kernel_rfl))
  f267 := Tryz.func203.trans (congrArg some (by kernel_rfl))
  f268 := Tryz.func173.trans (congrArg some (by kernel_rfl))
  f314 := Tryz.func227.trans (congrArg some (by kernel_rfl))
  t0 := Tryz.underlying0
  a0 := Tryz.isAgg0
  z0 := Tryz.sizeOf0
  v0 := Tryz.zeroValue0
  t3 := Tryz.underlying3
  a3 := Tryz.isAgg3
  z3 := Tryz.sizeOf3
  v3 := Tryz.zeroValue3
  t4 := Tryz.underlying4
  a4 := Tryz.isAgg4
  z4 := Tryz.sizeOf4
  v4 := Tryz.zeroValue4
  t5 := Tryz.underlying5
  a5 := Tryz.isAgg5
  z5 := Tryz.sizeOf5
  v5 := Tryz.zeroValue5
  t9 := Tryz.underlying9
  a9 := Tryz.isAgg9
  z9 := Tryz.sizeOf9
  v9 := Tryz.zeroValue9
  t21 := Tryz.underlying21
  a21 := Tryz.isAgg21
  z21 := Tryz.sizeOf21
  v21 := Tryz.zeroValue21
  t31 := Tryz.underlying202
  a31 := Tryz.isAgg202
  z31 := Tryz.sizeOf202
  v31 := Tryz.zeroValue202
  t46 := Tryz.underlying99
  a46 := Tryz.isAgg99
  z46 := Tryz.sizeOf99
  v46 := Tryz.zeroValue99
  t51 := Tryz.underlying287
  a51 := Tryz.isAgg287
  z51 := Tryz.sizeOf287
  v51 := Tryz.zeroValue287
  t105 := Tryz.underlying294
  a105 := Tryz.isAgg294
  z105 := Tryz.sizeOf294
  v105 := Tryz.zeroValue294
  t119 := Tryz.underlying348
  a119 := Tryz.isAgg348
  z119 := Tryz.sizeOf348
  t138 := Tryz.underlying350
  a138 := Tryz.isAgg350
  z138 := Tryz.sizeOf350
  v138 := Tryz.zeroValue350
  t139 := Tryz.underlying351
  a139 := Tryz.isAgg351
  z139 := Tryz.sizeOf351
  v139 := Tryz.zeroValue351
  t146 := Tryz.underlying323
  a146 := Tryz.isAgg323
  z146 := Tryz.sizeOf323
  v146 := Tryz.zeroValue323
  g1 := by kernel_rfl
  g3 := by kernel_rfl
  g4 := by kernel_rfl }
open Go.RowKit Go.Lib in
theorem Tryz.strings_Split (s sep : ByteArray) (m : Int) (w : World) (hs : s.size < 4294967281) (hm : w.cell? ⟨1, 0, none⟩ = some (.int .i64 m)) (h1 : 1 ≤ sep.size) :
    Calls Tryz.prog 103 #[.string s, .string sep] w fun e w' =>
      e = .returned (.slice (some ⟨w.heap.size, 0, none⟩) (Lib.countB s sep + 1) (Lib.countB s sep + 1)) ∧ w' = w.alloc (.cells ((Lib.splitB sep 0 (Lib.countB s sep) s).map Value.string).toArray 9) := Any.strings_Split Tryz.lays146 (by kernel_rfl) s sep m w hs hm h1
open Go.RowKit Go.Sort in
theorem Tryz.slices_Sort_int_none (p : Option Addr) (cap : Nat) (w : World) :
    Calls Tryz.prog 110 #[.slice p 0 cap] w fun e w' => e = .returned (.tuple #[]) ∧ w' = w := Any.slices_Sort_int_none Tryz.lays189 p cap w
end Go.Proofs
end
