/-
  Contracts of package dense: New, Len, Row, Put.
-/
import Derived.Test.YtbcaajgomekjaaaDenB
namespace Go.Proofs.Ytbcaajgomekjaaa
open Go.RowKit Go.Maps Go.Viv

theorem put_out (p : Nat) (i : Int) (v : Val) (w : World) (h : i < 0 ∨ 65536 ≤ i) :
    Calls Try.prog 8 #[.pointer (some ⟨p, 0, none⟩), .int .i64 i, v.agg] w fun e w' => e = .returned (.tuple #[Val.zero.agg, .bool false]) ∧ Fr (fun _ => False) w w' := by
  unfold Val.agg
  rcases h with h | h
  · go_enter Try.func8, Try.ntmps8
    go_wp2
    refine bodyPost_ret (v := .tuple #[.agg #[.int .i64 0, .int .i64 0, .int .i64 0], .bool false]) (by simp [results, Try.results8, go_sem]) rfl ⟨rfl, ((Fr.refl _ _).alloc _).alloc _⟩
  · have h' : ¬ i < 0 := by omega
    go_enter Try.func8, Try.ntmps8
    go_wp2
    refine bodyPost_ret (v := .tuple #[.agg #[.int .i64 0, .int .i64 0, .int .i64 0], .bool false]) (by simp [results, Try.results8, go_sem]) rfl ⟨rfl, ((Fr.refl _ _).alloc _).alloc _⟩

theorem hasV_out {w : World} {p : Nat} {rs : List (Int × Val)} {S : Nat → Prop} (h : DenseIs w p rs S) {i : Int} (ho : i < 0 ∨ 65536 ≤ i) : pos rs i = none := by
  obtain ⟨sv, bm, h1, h2, h3, h4, h5, h6, h7, h8⟩ := h
  refine List.findIdx?_eq_none_iff.2 (fun r hr => ?_)
  have := h5 r hr
  simp; omega

theorem put_any (p : Nat) (i : Int) (v : Val) (rs : List (Int × Val)) (S : Nat → Prop) (w : World) (h : DenseIs w p rs S) (hi : (Lit.int .i64 i).wf = true) :
    Calls Try.prog 8 #[.pointer (some ⟨p, 0, none⟩), .int .i64 i, v.agg] w fun e w' => e = .returned (.tuple #[(getV rs i).agg, .bool (hasV rs i)]) ∧ DenseIs w' p (putV rs i v) (Ext S w w') ∧ Fr S w w' := by
  by_cases ho : i < 0 ∨ 65536 ≤ i
  · obtain ⟨g1, g2, _⟩ := pos_none (hasV_out h ho)
    rw [g1, g2, putV, if_pos ho]
    exact (put_out p i v w ho).mono fun e w' ⟨he, hf⟩ => ⟨he, (h.keep hf (fun _ _ h => h)).mono (fun k hk => .inl hk), hf.mono (fun _ _ h => h.elim)⟩
  · cases hp : pos rs i with
    | none =>
      obtain ⟨g1, g2, _⟩ := pos_none hp
      rw [g1, g2, putV, if_neg ho, hp]
      exact put_new p i v rs S w h hi (by omega) (by omega) hp
    | some k =>
      rw [putV, if_neg ho, hp]
      exact (put_found p i v rs S w h hi (by omega) (by omega) k hp).mono fun e w' ⟨he, hd, hf⟩ => ⟨he, hd.mono (fun k hk => .inl hk), hf⟩

theorem new_any (w : World) :
    Calls Try.prog 7 #[] w fun e w' => ∃ p, e = .returned (.pointer (some ⟨p, 0, none⟩)) ∧ DenseIs w' p [] (fun k => w.heap.size ≤ k ∧ k < w'.heap.size) ∧ Fr (fun _ => False) w w' := by
  have hmm := @run_makeMap Try.prog
  go_enter Try.func7, Try.ntmps7
  go_wp2
  go_ret
  refine ⟨w.heap.size + 1, rfl, ⟨.slice none 0 0, w.heap.size, ?_, World.ownsRow_nil _ _ _ _, ?_, by simp, by simp, ?_, ?_, ?_⟩, ?_⟩
  · have := Blk.new (w.alloc (.map #[] 0)) 53 #[.slice none 0 0, .map (some w.heap.size)]
    simpa using this
  · exact (IMap.made w Try.prog 3 3).fr (Fr.alloc1 (fun _ => False) _ _) (fun h => h)
  · simp
  · simp; omega
  · simp [Value.ownBlock]
  · exact ((Fr.refl _ _).alloc _).alloc _

theorem len_any (p : Nat) (rs : List (Int × Val)) (S : Nat → Prop) (w : World) (h : DenseIs w p rs S) :
    Calls Try.prog 10 #[.pointer (some ⟨p, 0, none⟩)] w fun e w' => e = .returned (.int .i64 rs.length) ∧ w = w' := by
  obtain ⟨sv, bm, h1, h2, h3, h4, h5, h6, h7, h8⟩ := h
  have c0 := h1.cell 0
  simp at c0
  obtain ⟨A, cap, rfl, hcap⟩ := own_len h2
  clear h2 h3 h5 h8
  go_enter Try.func10, Try.ntmps10
  go_wp2
  go_ret
  exact ⟨rfl, rfl⟩

def rowI (rs : List (Int × Val)) (k : Int) : Option (Int × Val) := if k < 0 then none else rs[k.toNat]?

theorem row_any (p : Nat) (k : Int) (rs : List (Int × Val)) (S : Nat → Prop) (w : World) (h : DenseIs w p rs S) :
    Calls Try.prog 14 #[.pointer (some ⟨p, 0, none⟩), .int .i64 k] w fun e w' => e = .returned (.tuple #[.int .i64 (((rowI rs k).map (·.1)).getD 0), (((rowI rs k).map (·.2)).getD Val.zero).agg, .bool (rowI rs k).isSome]) ∧ Fr (fun _ => False) w w' := by
  obtain ⟨sv, bm, h1, h2, h3, h4, h5, h6, h7, h8⟩ := h
  have c0 := h1.cell 0
  have hpl := h1.lt
  simp at c0
  obtain ⟨A, cap, hsv, hcap⟩ := own_len h2
  unfold rowI
  by_cases hk : k < 0
  · rw [if_pos hk]
    subst hsv
    clear h2 h3 h5 h8
    go_enter Try.func14, Try.ntmps14
    go_wp2
    refine bodyPost_ret (v := .tuple #[.int .i64 0, .agg #[.int .i64 0, .int .i64 0, .int .i64 0], .bool false]) (by simp [results, Try.results14, go_sem]) rfl ⟨rfl, (Fr.refl _ _).alloc _⟩
  · rw [if_neg hk]
    by_cases hl : (rs.length : Int) ≤ k
    · rw [List.getElem?_eq_none (by omega)]
      subst hsv
      clear h2 h3 h5 h8
      go_enter Try.func14, Try.ntmps14
      go_wp2
      refine bodyPost_ret (v := .tuple #[.int .i64 0, .agg #[.int .i64 0, .int .i64 0, .int .i64 0], .bool false]) (by simp [results, Try.results14, go_sem]) rfl ⟨rfl, (Fr.refl _ _).alloc _⟩
    · obtain ⟨n, rfl⟩ : ∃ n : Nat, k = n := ⟨k.toNat, by omega⟩
      have hn : n < rs.length := by omega
      obtain ⟨g, cap, cur, rfl, hcap, _, hb, hcs, hct⟩ := own_cases h2 (by omega)
      obtain ⟨k0, k1, k2, k3⟩ := row_cells h2 (k := n) (i := rs[n].1) (v := rs[n].2) (by rw [List.getElem?_eq_getElem hn])
      rw [Int.toNat_natCast, List.getElem?_eq_getElem hn]
      simp only [Option.map_some, Option.getD_some, Option.isSome_some]
      generalize rs[n].1 = ri at *
      generalize rs[n].2 = rv at *
      have hgl := hb.lt
      have hln : (n : Int) < rs.length := by omega
      clear h2 h3 h5 h8 hsv hct hcs
      unfold Val.agg
      go_enter Try.func14, Try.ntmps14
      go_wp2
      go_region
      go_wp2
      refine bodyPost_ret (v := .tuple #[.int .i64 ri, .agg #[.int .i64 rv.k, .int .i64 rv.a, .int .i64 rv.b], .bool true]) (by simp [results, Try.results14, go_sem]) rfl ⟨rfl, ((Fr.refl _ _).alloc _).drew⟩
end Go.Proofs.Ytbcaajgomekjaaa
