/-
  Contracts of the document's Table: find, Get, Row, Index.
-/
import Derived.Test.YtbcaajgomekjaaaLawB
namespace Go.Proofs.Ytbcaajgomekjaaa
open Go.RowKit Go.Maps Go.Viv

theorem ret_int {k : IntKind} {a b : Int} (h : a = b) : Ending.returned (.int k a) = .returned (.int k b) := by rw [h]

def TableIs (w : World) (p : Nat) (rs : List (Int × Val)) (S : Nat → Prop) : Prop :=
  ∃ sv, Blk w p 37 #[sv] ∧ w.ownsRow 0 58 4 sv rs.length (rs.flatMap rowCells) ∧ (rs.map (·.1)).Nodup ∧ (∀ r ∈ rs, 0 ≤ r.1 ∧ r.1 < 65536) ∧ S p ∧ ∀ k, sv.ownBlock = some k → S k

theorem TableIs.keep {w w' : World} {p : Nat} {rs : List (Int × Val)} {S T : Nat → Prop} (h : TableIs w p rs S) (hf : Fr T w w') (hd : ∀ k, S k → ¬ T k) : TableIs w' p rs S := by
  obtain ⟨sv, h1, h2, h4, h5, h6, h8⟩ := h
  exact ⟨sv, h1.fr hf (hd _ h6), own_fr h2 hf (fun k hk => hd _ (h8 k hk)), h4, h5, h6, h8⟩
theorem TableIs.mono {w : World} {p : Nat} {rs : List (Int × Val)} {S T : Nat → Prop} (h : TableIs w p rs S) (hd : ∀ k, S k → T k) : TableIs w p rs T := by
  obtain ⟨sv, h1, h2, h4, h5, h6, h8⟩ := h
  exact ⟨sv, h1, h2, h4, h5, hd _ h6, fun k hk => hd _ (h8 k hk)⟩
theorem TableIs.len {w : World} {p : Nat} {rs : List (Int × Val)} {S : Nat → Prop} (h : TableIs w p rs S) : rs.length ≤ 65536 := by
  obtain ⟨sv, h1, h2, h4, h5, h6, h8⟩ := h
  have := nodup_le (rs.map (·.1)) ((List.range 65536).map (fun n : Nat => (n : Int))) h4 (fun x hx => by
    obtain ⟨r, hr, rfl⟩ := List.mem_map.1 hx
    have := h5 r hr
    exact List.mem_map.2 ⟨r.1.toNat, by simp; omega, by omega⟩)
  simpa using this

theorem row_cellsE {e : TypeId} {w : World} {g cap : Nat} {rs : List (Int × Val)} (h : w.ownsRow 0 e 4 (.slice (some ⟨g, 0, none⟩) rs.length cap) rs.length (rs.flatMap rowCells)) {k : Nat} {i : Int} {v : Val} (hk : rs[k]? = some (i, v)) :
    w.cell? ⟨g, k * 4, none⟩ = some (.int .i64 i) ∧ w.cell? ⟨g, k * 4 + 1, none⟩ = some (.int .i64 v.k) ∧ w.cell? ⟨g, k * 4 + 1 + 1, none⟩ = some (.int .i64 v.a) ∧ w.cell? ⟨g, k * 4 + 1 + 2, none⟩ = some (.int .i64 v.b) := by
  have hl : k < rs.length := (List.getElem?_eq_some_iff.1 hk).1
  have hc : ∀ c, c < 4 → w.cell? ⟨g, k * 4 + c, none⟩ = (rowCells (i, v))[c]? := fun c hc => by
    rw [h.cellAt _ (by omega), chunk_get rowCells 4 rowCells_len rs k c hc, hk]
    rfl
  exact ⟨hc 0 (by omega), hc 1 (by omega), hc 2 (by omega), hc 3 (by omega)⟩

def posI (rs : List (Int × Val)) (i : Int) : Int := match pos rs i with
  | some k => (k : Int)
  | none => -1

/-- No row ahead of k is i's. -/
def NotYet (rs : List (Int × Val)) (i : Int) (k : Nat) : Prop := ∀ j r, j < k → rs[j]? = some r → r.1 ≠ i
theorem NotYet.hit {rs : List (Int × Val)} {i : Int} {k : Nat} {v : Val} (h : NotYet rs i k) (hk : rs[k]? = some (i, v)) : posI rs i = k := by
  unfold posI pos
  obtain ⟨hl, he⟩ := List.getElem?_eq_some_iff.1 hk
  have : rs.findIdx? (fun r => r.1 == i) = some k := List.findIdx?_eq_some_iff_getElem.2 ⟨hl, by rw [he]; simp, fun j hj => by
    have := h j (rs[j]) hj (List.getElem?_eq_getElem (by omega))
    simpa using this⟩
  rw [this]
theorem NotYet.miss {rs : List (Int × Val)} {i : Int} {k : Nat} (h : NotYet rs i k) (hk : rs.length ≤ k) : posI rs i = -1 := by
  unfold posI pos
  have : rs.findIdx? (fun r => r.1 == i) = none := List.findIdx?_eq_none_iff.2 (fun r hr => by
    obtain ⟨j, hj⟩ := List.mem_iff_getElem?.1 hr
    have hl := (List.getElem?_eq_some_iff.1 hj).1
    simpa using h j r (by omega) hj)
  rw [this]

theorem find_any (p : Nat) (i : Int) (rs : List (Int × Val)) (S : Nat → Prop) (w : World) (h : TableIs w p rs S) :
    Calls Try.prog 20 #[.pointer (some ⟨p, 0, none⟩), .int .i64 i] w fun e w' => e = .returned (.int .i64 (posI rs i)) ∧ w = w' := by
  have hlen := h.len
  obtain ⟨sv, h1, h2, h4, h5, h6, h8⟩ := h
  have c0 := h1.cell 0
  simp at c0
  obtain ⟨A, cap, hsv, hcap⟩ := own_len h2
  rw [hsv] at c0
  have H2 := Lib.hid (And.intro h2 hsv)
  clear h1 h2 h4 h5 h8 hsv
  go_enter Try.func20, Try.ntmps20
  go_wp2
  go_loop [5] (fun t => ∃ k : Nat, k ≤ rs.length ∧ t = .int .i64 k ∧ NotYet rs i k) (fun t => rs.length - (intOf t).toNat)
  case atStart => exact ⟨0, Nat.zero_le _, rfl, fun j r hj => by omega⟩
  case round =>
    obtain ⟨k, hk, rfl, hny⟩ := hrel
    have HN := Lib.hid hny
    clear hny
    by_cases hlt : k < rs.length
    · obtain ⟨h2, hsv⟩ := H2.out
      obtain ⟨g, cap', cur, hv, _⟩ := own_cases h2 (by omega)
      obtain ⟨ri, rv, hr⟩ : ∃ ri rv, rs[k]? = some (ri, rv) := ⟨_, _, List.getElem?_eq_getElem hlt⟩
      have hsv2 := hsv.symm.trans hv
      injection hsv2 with e1 _ e3
      subst e1 e3
      rw [hsv] at h2
      obtain ⟨k0, _⟩ := row_cellsE h2 hr
      have HR := Lib.hid hr
      have hlt' : (k : Int) < rs.length := by omega
      clear h2 hsv hv hr H2
      by_cases he : ri = i
      · have hb : (ri == i) = true := by simpa using he
        go_wp2
        go_ret
        subst he
        exact ⟨ret_int (HN.out.hit HR.out).symm, rfl⟩
      · have hb : (ri == i) = false := by simpa using he
        go_wp2
        go_round
        case rel => exact ⟨k + 1, by omega, by go_num, fun j r hj hr => by
          rcases Nat.lt_or_ge j k with h | h
          · exact HN.out j r h hr
          · have : j = k := by omega
            subst this
            rw [HR.out] at hr
            injection hr with hr
            rw [← hr]
            exact he⟩
        case measure => simp [intOf]; omega
    · have hd : ¬ (k : Int) < rs.length := by omega
      go_wp2
      go_ret
      exact ⟨ret_int (HN.out.miss (by omega)).symm, rfl⟩

theorem index_any (i : Int) (w : World) : Calls Try.prog 19 #[.int .i64 i] w fun e w' => e = .returned (.bool (!decide (i < 0 ∨ 65536 ≤ i))) ∧ w = w' := by
  by_cases h0 : 0 ≤ i
  · by_cases h1 : i < 65536
    · go_enter Try.func19, Try.ntmps19
      go_wp2
      go_ret
      have : decide (i < 0 ∨ 65536 ≤ i) = false := by simp; omega
      exact ⟨by simp [this], rfl⟩
    · have hd : decide (i < 65536) = false := decide_eq_false h1
      go_enter Try.func19, Try.ntmps19
      go_wp2
      go_ret
      have : decide (i < 0 ∨ 65536 ≤ i) = true := by simp; omega
      exact ⟨by simp [this], rfl⟩
  · have hd : decide (0 ≤ i) = false := decide_eq_false h0
    go_enter Try.func19, Try.ntmps19
    go_wp2
    go_ret
    have : decide (i < 0 ∨ 65536 ≤ i) = true := by simp; omega
    exact ⟨by simp [this], rfl⟩

theorem posI_some {rs : List (Int × Val)} {i : Int} {k : Nat} (h : pos rs i = some k) : posI rs i = k := by simp [posI, h]
theorem posI_none {rs : List (Int × Val)} {i : Int} (h : pos rs i = none) : posI rs i = -1 := by simp [posI, h]

theorem tget_any (p : Nat) (i : Int) (rs : List (Int × Val)) (S : Nat → Prop) (w : World) (h : TableIs w p rs S) :
    Calls Try.prog 18 #[.pointer (some ⟨p, 0, none⟩), .int .i64 i] w fun e w' => e = .returned (.tuple #[(getV rs i).agg, .bool (hasV rs i)]) ∧ Fr (fun _ => False) w w' := by
  have hfind := fun o => find_any p i rs S (w.alloc o) (h.keep (Fr.alloc1 (fun _ => False) _ _) (fun _ _ h => h))
  have HF := Lib.hid hfind
  clear hfind
  obtain ⟨sv, h1, h2, h4, h5, h6, h8⟩ := h
  have hpl := h1.lt
  have c0 := h1.cell 0
  simp at c0
  cases hp : pos rs i with
  | none =>
    obtain ⟨g1, g2, _⟩ := pos_none hp
    have hpi := posI_none hp
    rw [g1, g2]
    have AG := Lib.hid (show Val.zero.agg = Value.agg #[.int .i64 0, .int .i64 0, .int .i64 0] from rfl)
    rw [AG.out]
    clear h2 h4 h5 h8 hp g1 g2
    go_enter Try.func18, Try.ntmps18
    go_wp2_with (go_at_call 20; refine (HF.out _).mono ?_; rintro e w1 ⟨rfl, rfl⟩)
    exact bodyPost_ret (v := .tuple #[.agg #[.int .i64 0, .int .i64 0, .int .i64 0], .bool false]) (by simp [results, Try.results18, go_sem]) rfl ⟨rfl, (Fr.refl _ _).alloc _⟩
  | some k =>
    obtain ⟨v, hk, hkl, g1, g2⟩ := pos_some hp
    have hpi := posI_some hp
    rw [g1, g2]
    have AG := Lib.hid (show v.agg = Value.agg #[.int .i64 v.k, .int .i64 v.a, .int .i64 v.b] from rfl)
    rw [AG.out]
    obtain ⟨g, cap, cur, rfl, hcap, _, hb, hcs, hct⟩ := own_cases h2 (by omega)
    obtain ⟨k0, k1, k2, k3⟩ := row_cellsE h2 hk
    have hgl := hb.lt
    clear h2 h4 h5 h8 hp g1 g2 hct hcs hk k0
    go_enter Try.func18, Try.ntmps18
    go_wp2_with (go_at_call 20; refine (HF.out _).mono ?_; rintro e w1 ⟨rfl, rfl⟩)
    exact bodyPost_ret (v := .tuple #[.agg #[.int .i64 v.k, .int .i64 v.a, .int .i64 v.b], .bool true]) (by simp [results, Try.results18, go_sem]) rfl ⟨rfl, (Fr.refl _ _).alloc _⟩

theorem trow_any (p : Nat) (k : Int) (rs : List (Int × Val)) (S : Nat → Prop) (w : World) (h : TableIs w p rs S) :
    Calls Try.prog 15 #[.pointer (some ⟨p, 0, none⟩), .int .i64 k] w fun e w' => e = .returned (.tuple #[.int .i64 (((rowI rs k).map (·.1)).getD 0), (((rowI rs k).map (·.2)).getD Val.zero).agg, .bool (rowI rs k).isSome]) ∧ Fr (fun _ => False) w w' := by
  obtain ⟨sv, h1, h2, h4, h5, h6, h8⟩ := h
  have c0 := h1.cell 0
  have hpl := h1.lt
  simp at c0
  obtain ⟨A, cap, hsv, hcap⟩ := own_len h2
  unfold rowI
  by_cases hk : k < 0
  · rw [if_pos hk]
    subst hsv
    clear h2 h5 h8
    go_enter Try.func15, Try.ntmps15
    go_wp2
    refine bodyPost_ret (v := .tuple #[.int .i64 0, .agg #[.int .i64 0, .int .i64 0, .int .i64 0], .bool false]) (by simp [results, Try.results15, go_sem]) rfl ⟨rfl, (Fr.refl _ _).alloc _⟩
  · rw [if_neg hk]
    by_cases hl : (rs.length : Int) ≤ k
    · rw [List.getElem?_eq_none (by omega)]
      subst hsv
      clear h2 h5 h8
      go_enter Try.func15, Try.ntmps15
      go_wp2
      refine bodyPost_ret (v := .tuple #[.int .i64 0, .agg #[.int .i64 0, .int .i64 0, .int .i64 0], .bool false]) (by simp [results, Try.results15, go_sem]) rfl ⟨rfl, (Fr.refl _ _).alloc _⟩
    · obtain ⟨n, rfl⟩ : ∃ n : Nat, k = n := ⟨k.toNat, by omega⟩
      have hn : n < rs.length := by omega
      obtain ⟨g, cap, cur, rfl, hcap, _, hb, hcs, hct⟩ := own_cases h2 (by omega)
      obtain ⟨k0, k1, k2, k3⟩ := row_cellsE h2 (k := n) (i := rs[n].1) (v := rs[n].2) (by rw [List.getElem?_eq_getElem hn])
      rw [Int.toNat_natCast, List.getElem?_eq_getElem hn]
      simp only [Option.map_some, Option.getD_some, Option.isSome_some]
      generalize rs[n].1 = ri at *
      generalize rs[n].2 = rv at *
      have hgl := hb.lt
      have hln : (n : Int) < rs.length := by omega
      clear h2 h5 h8 hsv hct hcs
      unfold Val.agg
      go_enter Try.func15, Try.ntmps15
      go_wp2
      go_region
      go_wp2
      refine bodyPost_ret (v := .tuple #[.int .i64 ri, .agg #[.int .i64 rv.k, .int .i64 rv.a, .int .i64 rv.b], .bool true]) (by simp [results, Try.results15, go_sem]) rfl ⟨rfl, ((Fr.refl _ _).alloc _).drew⟩
end Go.Proofs.Ytbcaajgomekjaaa
