/-
  Contracts of package value: numbers and their texts.
-/
import Derived.Test.YtadnbkjjdkgfiaaDoorRows
import Derived.Test.YtadnbkjjdkgfiaaDoorBase
import Derived.Test.YtadnbkjjdkgfiaaDoorShelf
import Derived.Test.YtadnbkjjdkgfiaaDoorNum
import Derived.Outline
import Derived.Lib.Hide
import Derived.BigRegion
import Derived.Deep.RegionWith
import Derived.Deep.DeepCutAuto
import Derived.WalkSpells
import Derived.WalkLawsBesides
namespace Go.Proofs.YtadnbkjjdkgfiaaDoor
open Go.RowKit Go.Viv

/-- What a call leans on: the table of powers of ten, and the two errors. -/
structure Env (w : World) : Prop where
  tab : Lib.TabIs Tryd.prog w "internal/strconv.uint64pow10" .u64 Lib.pow10Tab
  e2 : ∃ t p, w.cell? ⟨2, 0, none⟩ = some (.iface t p)
  e3 : ∃ t p, w.cell? ⟨3, 0, none⟩ = some (.iface t p)
  size : 8 ≤ w.heap.size

theorem globPow : Tryd.prog.globalNamed "internal/strconv.uint64pow10" = some 1 := by kernel_rfl
theorem Env.of_blocks {w w' : World} (h : Env w) (hb : ∀ k, k < 8 → w'.heap[k]? = w.heap[k]?) (hs : w.heap.size ≤ w'.heap.size) : Env w' := by
  refine ⟨?_, ?_, ?_, Nat.le_trans h.size hs⟩
  · have := h.tab
    unfold Lib.TabIs World.var? at this ⊢
    rw [globPow] at this ⊢
    simpa [hb 1 (by omega)] using this
  · obtain ⟨t, p, h2⟩ := h.e2
    exact ⟨t, p, (World.cell?_of_block (hb 2 (by omega))).trans h2⟩
  · obtain ⟨t, p, h2⟩ := h.e3
    exact ⟨t, p, (World.cell?_of_block (hb 3 (by omega))).trans h2⟩
theorem Env.fr {w w' : World} (h : Env w) (hf : Fr (fun _ => False) w w') : Env w' :=
  h.of_blocks (fun k hk => hf.block k (by have := h.size; omega) (fun h => h)) hf.size
theorem Env.drew {w : World} (h : Env w) : Env w.drew := h.fr (Fr.refl _ _).drew
theorem Env.alloc {w : World} (h : Env w) (o : Obj) : Env (w.alloc o) := h.fr (Fr.alloc1 _ _ _)

theorem fr_grow (w : World) (k : Nat) (os : Array Obj) : Fr (fun _ => False) w (Go.Sort.grow (w.drewN k) os) :=
  ⟨rfl, rfl, rfl, by simp [Go.Sort.grow, World.drewN], fun i hi _ => by
    show (w.heap ++ os)[i]? = w.heap[i]?
    rw [Array.getElem?_append_left hi]⟩
theorem fr_bytes (w : World) (e : TypeId) (t : ByteArray) : Fr (fun _ => False) w (Lib.bytesWorld w e t) := by
  unfold Lib.bytesWorld World.freeze
  refine ⟨?_, ?_, ?_, ?_, fun i hi _ => ?_⟩
  · split <;> rfl
  · split <;> rfl
  · split <;> rfl
  · split <;> simp
  · split
    · exact Below.heap_alloc _ _ _ hi
    · simp only [Array.getElem?_modify]
      rw [if_neg (by show ¬ w.heap.size = i; omega)]
      exact Below.heap_alloc _ _ _ hi
theorem fr_below {w w' : World} (h : Below w.heap.size w w') : Fr (fun _ => False) w w' := Fr.of_below h
theorem fr_no {w w1 w2 : World} (h1 : Fr (fun _ => False) w w1) (h2 : Fr (fun _ => False) w1 w2) : Fr (fun _ => False) w w2 := h1.trans h2 (fun _ h => h.elim)

abbrev str (l : List UInt8) : Value := .string ⟨l.toArray⟩

theorem number_any (n : Int) (w : World) (he : Env w) (hn : inI n) :
    Calls Tryd.prog 42 #[.int .i64 n] w fun e w' => e = .returned (str (Lib.itoa n)) ∧ Fr (fun _ => False) w w' := by
  have HE := Lib.hid he
  have h0 := hn.1
  have h1 := hn.2
  clear he hn
  go_enter Tryd.func42, Tryd.ntmps42
  go_wp2_with (go_at_call 65; refine (Tryd.strconv_FormatInt_10 n h0 h1 _ HE.out.tab).mono ?_; rintro e w' ⟨rfl, k, os, rfl⟩)
  go_ret
  exact ⟨rfl, fr_grow _ _ _⟩

/-- What ParseInt answers: a number and no error, or an error. -/
def Parsed (l : List UInt8) (v : Int) (er : Value) : Prop := (Lib.parseIntB 64 l = .ok v ∧ er = .nilIface) ∨ ((∀ u, Lib.parseIntB 64 l ≠ .ok u) ∧ ∃ t x, er = .iface t x)
theorem parseInt_any (s : ByteArray) (w : World) (he : Env w) (hs : s.size ≤ 281474976710656) :
    Calls Tryd.prog 67 #[.string s, .int .i64 10, .int .i64 64] w fun e w' => ∃ v er, e = .returned (.tuple #[.int .i64 v, er]) ∧ Parsed s.data.toList v er ∧ Fr (fun _ => False) w w' := by
  cases hp : Lib.parseIntB 64 s.data.toList
  · rename_i v
    refine (Any.strconv_ParseInt_10_at64_ok Tryd.laysC174 s (by omega) v hp w).mono ?_
    rintro e w' ⟨rfl, hw⟩
    refine ⟨v, .nilIface, rfl, .inl ⟨hp, rfl⟩, ?_⟩
    rcases hw with rfl | ⟨t, rfl⟩
    · exact Fr.refl _ _
    · exact fr_bytes _ _ _
  · obtain ⟨t, p, h2⟩ := he.e2
    refine (Any.strconv_ParseInt_10_at64_syntax Tryd.laysC174 s hs hp _ w h2 (.inr ⟨t, p, rfl⟩)).mono ?_
    rintro e w' ⟨N, rfl, _, _, hb⟩
    exact ⟨_, _, rfl, .inr ⟨fun u hu => (by rw [hp] at hu; cases hu), _, _, rfl⟩, fr_below hb⟩
  · obtain ⟨t, p, h3⟩ := he.e3
    refine (Any.strconv_ParseInt_10_at64_range Tryd.laysC174 s hs hp _ w h3 (.inr ⟨t, p, rfl⟩)).mono ?_
    rintro e w' ⟨N, rfl, _, _, hb⟩
    exact ⟨_, _, rfl, .inr ⟨fun u hu => (by rw [hp] at hu; cases hu), _, _, rfl⟩, fr_below hb⟩

theorem str_eq (l : List UInt8) : str l = .string ⟨l.toArray⟩ := rfl
theorem data_str (l : List UInt8) : (⟨l.toArray⟩ : ByteArray).data.toList = l := by simp
theorem size_str (l : List UInt8) : (⟨l.toArray⟩ : ByteArray).size = l.length := by simp [ByteArray.size]

theorem Number_ok (s : ByteArray) (w : World) (he : Env w) (hs : s.size ≤ 281474976710656) (v : Int) (hp : Lib.parseIntB 64 s.data.toList = .ok v) (hit : Lib.itoa v = s.data.toList) :
    Calls Tryd.prog 44 #[.string s] w fun e w' => e = .returned (.tuple #[.int .i64 v, .bool true]) ∧ Fr (fun _ => False) w w' := by
  have HE := Lib.hid he
  have hv := parse_in hp
  have HP := Lib.hid (parseInt_any s w HE.out hs)
  have HQ := Lib.hid (And.intro hp hit)
  clear he hp hit
  go_enter Tryd.func44, Tryd.ntmps44
  go_wp2_with fail
  refine (HP.out).mono ?_
  rintro e w1 ⟨v', er, rfl, hpar, hf1⟩
  have hve : v' = v ∧ er = .nilIface := by
    rcases hpar with ⟨hp', rfl⟩ | ⟨hp', _⟩
    · rw [HQ.out.1] at hp'; injection hp' with hp'; exact ⟨hp'.symm, rfl⟩
    · exact absurd HQ.out.1 (hp' v)
  rw [hve.1, hve.2]
  have H1 := Lib.hid hf1
  clear hf1 hpar hve
  have HS := Lib.hid (show (⟨(Lib.itoa v).toArray⟩ : ByteArray) = s from by rw [HQ.out.2])
  go_wp2_with (go_at_call 42; refine (number_any v _ (HE.out.fr H1.out) hv).mono ?_; rintro e w2 ⟨rfl, hf2⟩; rw [str_eq, HS.out])
  go_ret2
  exact ⟨rfl, fr_no H1.out hf2⟩
theorem Number_off (s : ByteArray) (w : World) (he : Env w) (hs : s.size ≤ 281474976710656) (v : Int) (hp : Lib.parseIntB 64 s.data.toList = .ok v) (hit : ¬ Lib.itoa v = s.data.toList) :
    Calls Tryd.prog 44 #[.string s] w fun e w' => e = .returned (.tuple #[.int .i64 0, .bool false]) ∧ Fr (fun _ => False) w w' := by
  have HE := Lib.hid he
  have hv := parse_in hp
  have HP := Lib.hid (parseInt_any s w HE.out hs)
  have HQ := Lib.hid (And.intro hp hit)
  have hb : (Lib.itoa v == s.toList) = false := by rw [ByteArray.toList_eq]; simpa using hit
  clear he hp hit
  go_enter Tryd.func44, Tryd.ntmps44
  go_wp2_with fail
  refine (HP.out).mono ?_
  rintro e w1 ⟨v', er, rfl, hpar, hf1⟩
  have hve : v' = v ∧ er = .nilIface := by
    rcases hpar with ⟨hp', rfl⟩ | ⟨hp', _⟩
    · rw [HQ.out.1] at hp'; injection hp' with hp'; exact ⟨hp'.symm, rfl⟩
    · exact absurd HQ.out.1 (hp' v)
  rw [hve.1, hve.2]
  have H1 := Lib.hid hf1
  clear hf1 hpar hve
  go_wp2_with (go_at_call 42; refine (number_any v _ (HE.out.fr H1.out) hv).mono ?_; rintro e w2 ⟨rfl, hf2⟩)
  go_ret2
  exact ⟨rfl, fr_no H1.out hf2⟩
theorem Number_bad (s : ByteArray) (w : World) (he : Env w) (hs : s.size ≤ 281474976710656) (hp : ∀ u, Lib.parseIntB 64 s.data.toList ≠ .ok u) :
    Calls Tryd.prog 44 #[.string s] w fun e w' => e = .returned (.tuple #[.int .i64 0, .bool false]) ∧ Fr (fun _ => False) w w' := by
  have HP := Lib.hid (parseInt_any s w he hs)
  have HQ := Lib.hid hp
  clear he hp
  go_enter Tryd.func44, Tryd.ntmps44
  go_wp2_with fail
  refine (HP.out).mono ?_
  rintro e w1 ⟨v', er, rfl, hpar, hf1⟩
  have hve : ∃ t x, er = .iface t x := by
    rcases hpar with ⟨hp', rfl⟩ | ⟨hp', h⟩
    · exact absurd hp' (HQ.out v')
    · exact h
  obtain ⟨t, x, hx⟩ := hve
  rw [hx]
  have H1 := Lib.hid hf1
  clear hf1 hpar hx
  go_wp2
  go_ret2
  exact ⟨rfl, H1.out⟩
theorem Number_any (s : ByteArray) (w : World) (he : Env w) (hs : s.size ≤ 281474976710656) :
    Calls Tryd.prog 44 #[.string s] w fun e w' => e = .returned (.tuple #[.int .i64 ((num s.data.toList).getD 0), .bool (num s.data.toList).isSome]) ∧ Fr (fun _ => False) w w' := by
  cases hp : Lib.parseIntB 64 s.data.toList
  · rename_i v
    by_cases hit : Lib.itoa v = s.data.toList
    · have hn : num s.data.toList = some v := by unfold num; rw [hp]; simp [hit]
      rw [hn]
      exact Number_ok s w he hs v hp hit
    · have hn : num s.data.toList = none := by unfold num; rw [hp]; simp [hit]
      rw [hn]
      exact Number_off s w he hs v hp hit
  all_goals
    have hn : num s.data.toList = none := by unfold num; rw [hp]
    rw [hn]
    exact Number_bad s w he hs (fun u hu => by rw [hp] at hu; cases hu)
end Go.Proofs.YtadnbkjjdkgfiaaDoor
