/-
  The law DensePlays: 'do' calls both, and they answer alike.
-/
import Derived.Test.YtbcaajgomekjaaaPlayA
namespace Go.Proofs.Ytbcaajgomekjaaa
open Go.RowKit Go.Maps Go.Viv

/-- Three cells of a local stored anew. -/
theorem fr_loc3 (w : World) (L : Nat) (a b c : Value) : Fr (fun k => k = L) w (((w.setCell ⟨L, 0, none⟩ a).setCell ⟨L, 1, none⟩ b).setCell ⟨L, 2, none⟩ c) := by
  refine Fr.setCell (Fr.setCell (Fr.setCell (Fr.refl _ _) ?_ _) ?_ _) ?_ _ <;> exact .inl rfl
theorem blk_loc3 {w : World} {L : Nat} {t : TypeId} {x y z : Value} (h : Blk w L t #[x, y, z]) (a b c : Value) : Blk (((w.setCell ⟨L, 0, none⟩ a).setCell ⟨L, 1, none⟩ b).setCell ⟨L, 2, none⟩ c) L t #[a, b, c] := by
  have := ((h.set_ 0 a).set_ 1 b).set_ 2 c
  simpa using this
theorem Half.far {w0 w w' : World} {p q : Nat} {rs rs' : List (Int × Val)} {S T U : Nat → Prop} (h : Half w0 w p q rs' rs S T) (hf : Fr U w w') (hs : ∀ k, U k → ¬ S k ∧ ¬ T k ∧ w0.heap.size ≤ k) : Half w0 w' p q rs' rs S T :=
  ⟨h.den.keep hf (fun k hk hu => (hs k hu).1 hk), h.tab.keep hf (fun k hk hu => (hs k hu).2.1 hk), h.apart, h.fr.trans hf (fun k hk => .inr (hs k hk).2.2), h.sup, h.tup, fun k hk => Nat.lt_of_lt_of_le (h.slt k hk) hf.size, fun k hk => Nat.lt_of_lt_of_le (h.tlt k hk) hf.size⟩
theorem Both.far {w0 w w' : World} {p q : Nat} {rs : List (Int × Val)} {S T U : Nat → Prop} (h : Both w0 w p q rs S T) (hf : Fr U w w') (hs : ∀ k, U k → ¬ S k ∧ ¬ T k ∧ w0.heap.size ≤ k) : Both w0 w' p q rs S T :=
  ⟨h.den.keep hf (fun k hk hu => (hs k hu).1 hk), h.tab.keep hf (fun k hk hu => (hs k hu).2.1 hk), h.apart, h.fr.trans hf (fun k hk => .inr (hs k hk).2.2), h.sup, h.tup, fun k hk => Nat.lt_of_lt_of_le (h.slt k hk) hf.size, fun k hk => Nat.lt_of_lt_of_le (h.tlt k hk) hf.size⟩
theorem LocN.far {w w' : World} {S T U : Nat → Prop} {L : Nat} {t : TypeId} {cs : Array Value} (h : LocN w S T L t cs) (hf : Fr U w w') (hu : ¬ U L) : LocN w' S T L t cs := ⟨h.blk.fr hf hu, h.s, h.t⟩
theorem LocN.drewN {w : World} {S T : Nat → Prop} {L : Nat} {t : TypeId} {cs : Array Value} (h : LocN w S T L t cs) (n : Nat) : LocN (w.drewN n) S T L t cs := ⟨h.blk, h.s, h.t⟩
theorem Both.tlen {w0 w : World} {p q : Nat} {rs : List (Int × Val)} {S T : Nat → Prop} (h : Both w0 w p q rs S T) : ∃ A cap, w.cell? ⟨q, 0, none⟩ = some (.slice A rs.length cap) := by
  obtain ⟨sv, h1, h2, _⟩ := h.tab
  obtain ⟨A, cap, rfl, _⟩ := own_len h2
  exact ⟨A, cap, by rw [h1.cell]; rfl⟩
theorem LocN.cells3 {w : World} {S T : Nat → Prop} {L : Nat} {t : TypeId} {a b c : Value} (h : LocN w S T L t #[a, b, c]) : (w.cell? ⟨L, 0, none⟩ = some a ∧ w.cell? ⟨L, 1, none⟩ = some b ∧ w.cell? ⟨L, 2, none⟩ = some c) ∧ w.frozen? ⟨L, 0, none⟩ = false ∧ w.frozen? ⟨L, 1, none⟩ = false ∧ w.frozen? ⟨L, 2, none⟩ = false :=
  ⟨⟨by rw [h.blk.cell]; rfl, by rw [h.blk.cell]; rfl, by rw [h.blk.cell]; rfl⟩, h.blk.frozen 0, h.blk.frozen 1, h.blk.frozen 2⟩

/-- What 'do' leaves. -/
def Done (w0 w : World) (p q : Nat) (S T : Nat → Prop) (w' : World) : Prop := ∃ rs' S' T', Both w0 w' p q rs' S' T' ∧ Step w w' S T S' T'

set_option maxRecDepth 100000 in
set_option maxHeartbeats 1000000 in
theorem do_get {w0 w : World} {p q : Nat} {rs : List (Int × Val)} {S T : Nat → Prop} (h : Both w0 w p q rs S T) (kd i : Int) (v : Val) (hi : (Lit.int .i64 i).wf = true) (hk0 : (kd == 0) = false) (hk1 : (kd == 1) = false) :
    Calls Try.prog 13 #[.pointer (some ⟨p, 0, none⟩), .pointer (some ⟨q, 0, none⟩), .agg #[.int .i64 kd, .int .i64 i, .int .i64 v.k, .int .i64 v.a, .int .i64 v.b]] w fun e w' => e = .returned (.bool true) ∧ Done w0 w p q S T w' := by
  have AG := Lib.hid (show ∀ v : Val, v.agg = Value.agg #[.int .i64 v.k, .int .i64 v.a, .int .i64 v.b] from fun _ => rfl)
  have hw0 := h.fr.size
  obtain ⟨wa, hwa⟩ : ∃ wa, wa = ((w.alloc (.cells #[.int .i64 kd, .int .i64 i, .int .i64 v.k, .int .i64 v.a, .int .i64 v.b] 40)).alloc (.cells #[.int .i64 0, .int .i64 0, .int .i64 0] 23)).alloc (.cells #[.int .i64 0, .int .i64 0, .int .i64 0] 23) := ⟨_, rfl⟩
  have fa : Fr (fun _ => False) w wa := by rw [hwa]; exact (((Fr.refl _ _).alloc _).alloc _).alloc _
  have h0 := h.still fa
  have sa : wa.heap.size = w.heap.size + 3 := by rw [hwa]; simp
  have l5 : LocN wa S T w.heap.size 40 #[.int .i64 kd, .int .i64 i, .int .i64 v.k, .int .i64 v.a, .int .i64 v.b] := ⟨by rw [hwa]; exact ((Blk.new w 40 _).alloc _).alloc _, fun hh => by have := h.slt _ hh; omega, fun hh => by have := h.tlt _ hh; omega⟩
  have l7 : LocN wa S T (w.heap.size + 1) 23 #[.int .i64 0, .int .i64 0, .int .i64 0] := ⟨by rw [hwa]; exact (blk_at (by simp)).alloc _, fun hh => by have := h.slt _ hh; omega, fun hh => by have := h.tlt _ hh; omega⟩
  have l8 : LocN wa S T (w.heap.size + 1 + 1) 23 #[.int .i64 0, .int .i64 0, .int .i64 0] := ⟨by rw [hwa]; exact blk_at (by simp), fun hh => by have := h.slt _ hh; omega, fun hh => by have := h.tlt _ hh; omega⟩
  have st0 : Step w wa S T S T := Step.still fa
  go_enter Try.func13, Try.ntmps13
  go_wp2_with fail
  rw [← hwa]
  refine (bget h0 i hi).mono ?_
  rintro e w1 ⟨rfl, S1, h1, st1⟩
  rw [AG.out]
  replace l5 := st1.loc l5
  replace l7 := st1.loc l7
  replace l8 := st1.loc l8
  have st := st0.trans st1
  have n7s := l7.s
  have n7t := l7.t
  obtain ⟨⟨c0, c1, c2⟩, f0, f1, f2⟩ := l7.cells3
  have b1 : w1.cell? ⟨w.heap.size, 1, none⟩ = some (.int .i64 i) := by rw [l5.blk.cell]; rfl
  have H1 := Lib.hid (And.intro h1 (And.intro l5 (And.intro l7 (And.intro l8 st))))
  clear h0 h1 l5 l7 l8 st st0 st1 hwa fa sa h
  go_wp2_with fail
  obtain ⟨h1, l5, l7, l8, st⟩ := H1.out
  have f3 := fr_loc3 w1 (w.heap.size + 1) (.int .i64 (getV rs i).k) (.int .i64 (getV rs i).a) (.int .i64 (getV rs i).b)
  have h2 := h1.far f3 (fun k hk => by rw [hk]; exact ⟨l7.s, l7.t, by omega⟩)
  have l7b : LocN _ S1 T (w.heap.size + 1) 23 #[.int .i64 (getV rs i).k, .int .i64 (getV rs i).a, .int .i64 (getV rs i).b] := ⟨blk_loc3 l7.blk (.int .i64 (getV rs i).k) (.int .i64 (getV rs i).a) (.int .i64 (getV rs i).b), l7.s, l7.t⟩
  have l8b := l8.far f3 (by omega)
  clear h1 l5 l7 l8 H1 c0 c1 c2 f0 f1 f2
  refine (hget i h2).mono ?_
  rintro e w2 ⟨rfl, T2, h3, st2⟩
  rw [AG.out]
  have l7 := st2.loc l7b
  have l8 := st2.loc l8b
  have st3 : Step w w2 S T S1 T2 := ⟨(st.fr.trans f3 (fun k hk => .inr (by omega))).trans st2.fr (fun k hk => by
      rcases hk with hk | hk
      · rcases st.s k hk with h1 | h1
        · exact .inl (.inl h1)
        · exact .inr h1
      · rcases st.t k hk with h1 | h1
        · exact .inl (.inr h1)
        · exact .inr h1), fun k hk => by
      rcases st2.s k hk with h1 | h1
      · exact st.s k h1
      · exact .inr (Nat.le_trans st.fr.size (Nat.le_trans f3.size h1)), fun k hk => by
      rcases st2.t k hk with h1 | h1
      · exact st.t k h1
      · exact .inr (Nat.le_trans st.fr.size (Nat.le_trans f3.size h1))⟩
  generalize getV rs i = gv at *
  generalize hasV rs i = hv at *
  obtain ⟨⟨c0, c1, c2⟩, f0, f1, f2⟩ := l8.cells3
  have H2 := Lib.hid (And.intro h3 (And.intro l7 (And.intro l8 st3)))
  clear h2 h3 l7 l8 l7b l8b st st2 st3 f3 b1
  have f4 := fr_loc3 w2 (w.heap.size + 1 + 1) (.int .i64 gv.k) (.int .i64 gv.a) (.int .i64 gv.b)
  obtain ⟨w3, hw3⟩ : ∃ w3, w3 = ((w2.setCell ⟨w.heap.size + 1 + 1, 0, none⟩ (.int .i64 gv.k)).setCell ⟨w.heap.size + 1 + 1, 1, none⟩ (.int .i64 gv.a)).setCell ⟨w.heap.size + 1 + 1, 2, none⟩ (.int .i64 gv.b) := ⟨_, rfl⟩
  rw [← hw3] at f4
  obtain ⟨h3, l7, l8, st3⟩ := H2.out
  have h4 := h3.far f4 (fun k hk => by rw [hk]; exact ⟨l8.s, l8.t, by omega⟩)
  have l7c := l7.far f4 (by omega)
  have l8c : LocN w3 S1 T2 (w.heap.size + 1 + 1) 23 #[.int .i64 gv.k, .int .i64 gv.a, .int .i64 gv.b] := ⟨by rw [hw3]; exact blk_loc3 l8.blk _ _ _, l8.s, l8.t⟩
  obtain ⟨⟨a0, a1, a2⟩, _⟩ := l7c.cells3
  obtain ⟨⟨b0, b1, b2⟩, _⟩ := l8c.cells3
  obtain ⟨A, cap, tq⟩ := h4.tlen
  have st5 : Step w w3 S T S1 T2 := ⟨st3.fr.trans f4 (fun k hk => .inr (by omega)), st3.s, st3.t⟩
  have H4 := Lib.hid (And.intro h4 st5)
  have HW := Lib.hid hw3
  clear h3 l7 l8 st3 f4 h4 l7c l8c st5 hw3 H2
  go_wp2_with fail
  rw [← HW.out]
  clear c0 c1 c2 f0 f1 f2
  go_quiet ((go_at_call 10; exact quiet_left (len_any p _ S1 _ H4.out.1.den)))
  go_wp2
  go_ret
  exact ⟨rfl, _, S1, T2, H4.out.1.still ((Fr.refl _ _).drewN _), ⟨H4.out.2.fr.drewN _, H4.out.2.s, H4.out.2.t⟩⟩
set_option maxRecDepth 100000 in
set_option maxHeartbeats 1000000 in
theorem do_put {w0 w : World} {p q : Nat} {rs : List (Int × Val)} {S T : Nat → Prop} (h : Both w0 w p q rs S T) (kd i : Int) (v : Val) (hi : (Lit.int .i64 i).wf = true) (hk0 : (kd == 0) = true) :
    Calls Try.prog 13 #[.pointer (some ⟨p, 0, none⟩), .pointer (some ⟨q, 0, none⟩), .agg #[.int .i64 kd, .int .i64 i, .int .i64 v.k, .int .i64 v.a, .int .i64 v.b]] w fun e w' => e = .returned (.bool true) ∧ Done w0 w p q S T w' := by
  have AG := Lib.hid (show ∀ v : Val, v.agg = Value.agg #[.int .i64 v.k, .int .i64 v.a, .int .i64 v.b] from fun _ => rfl)
  have hw0 := h.fr.size
  obtain ⟨wa, hwa⟩ : ∃ wa, wa = ((w.alloc (.cells #[.int .i64 kd, .int .i64 i, .int .i64 v.k, .int .i64 v.a, .int .i64 v.b] 40)).alloc (.cells #[.int .i64 0, .int .i64 0, .int .i64 0] 23)).alloc (.cells #[.int .i64 0, .int .i64 0, .int .i64 0] 23) := ⟨_, rfl⟩
  have fa : Fr (fun _ => False) w wa := by rw [hwa]; exact (((Fr.refl _ _).alloc _).alloc _).alloc _
  have h0 := h.still fa
  have sa : wa.heap.size = w.heap.size + 3 := by rw [hwa]; simp
  have l5 : LocN wa S T w.heap.size 40 #[.int .i64 kd, .int .i64 i, .int .i64 v.k, .int .i64 v.a, .int .i64 v.b] := ⟨by rw [hwa]; exact ((Blk.new w 40 _).alloc _).alloc _, fun hh => by have := h.slt _ hh; omega, fun hh => by have := h.tlt _ hh; omega⟩
  have l7 : LocN wa S T (w.heap.size + 1) 23 #[.int .i64 0, .int .i64 0, .int .i64 0] := ⟨by rw [hwa]; exact (blk_at (by simp)).alloc _, fun hh => by have := h.slt _ hh; omega, fun hh => by have := h.tlt _ hh; omega⟩
  have l8 : LocN wa S T (w.heap.size + 1 + 1) 23 #[.int .i64 0, .int .i64 0, .int .i64 0] := ⟨by rw [hwa]; exact blk_at (by simp), fun hh => by have := h.slt _ hh; omega, fun hh => by have := h.tlt _ hh; omega⟩
  have st0 : Step w wa S T S T := Step.still fa
  go_enter Try.func13, Try.ntmps13
  go_wp2_with fail
  rw [← hwa]
  refine (bput h0 i v hi).mono ?_
  rintro e w1 ⟨rfl, S1, h1, st1⟩
  rw [AG.out]
  replace l5 := st1.loc l5
  replace l7 := st1.loc l7
  replace l8 := st1.loc l8
  have st := st0.trans st1
  have n7s := l7.s
  have n7t := l7.t
  obtain ⟨⟨c0, c1, c2⟩, f0, f1, f2⟩ := l7.cells3
  have b1 : w1.cell? ⟨w.heap.size, 1, none⟩ = some (.int .i64 i) := by rw [l5.blk.cell]; rfl
  have b2 : w1.cell? ⟨w.heap.size, 2, none⟩ = some (.int .i64 v.k) := by rw [l5.blk.cell]; rfl
  have b3 : w1.cell? ⟨w.heap.size, 2 + 1, none⟩ = some (.int .i64 v.a) := by rw [l5.blk.cell]; rfl
  have b4 : w1.cell? ⟨w.heap.size, 2 + 2, none⟩ = some (.int .i64 v.b) := by rw [l5.blk.cell]; rfl
  have H1 := Lib.hid (And.intro h1 (And.intro l5 (And.intro l7 (And.intro l8 st))))
  clear h0 h1 l5 l7 l8 st st0 st1 hwa fa sa h
  go_wp2_with fail
  obtain ⟨h1, l5, l7, l8, st⟩ := H1.out
  have f3 := fr_loc3 w1 (w.heap.size + 1) (.int .i64 (getV rs i).k) (.int .i64 (getV rs i).a) (.int .i64 (getV rs i).b)
  have h2 := h1.far f3 (fun k hk => by rw [hk]; exact ⟨l7.s, l7.t, by omega⟩)
  have l7b : LocN _ S1 T (w.heap.size + 1) 23 #[.int .i64 (getV rs i).k, .int .i64 (getV rs i).a, .int .i64 (getV rs i).b] := ⟨blk_loc3 l7.blk (.int .i64 (getV rs i).k) (.int .i64 (getV rs i).a) (.int .i64 (getV rs i).b), l7.s, l7.t⟩
  have l8b := l8.far f3 (by omega)
  clear h1 l5 l7 l8 H1 c0 c1 c2 f0 f1 f2
  refine (hput i v h2).mono ?_
  rintro e w2 ⟨rfl, T2, h3, st2⟩
  rw [AG.out]
  have l7 := st2.loc l7b
  have l8 := st2.loc l8b
  have st3 : Step w w2 S T S1 T2 := ⟨(st.fr.trans f3 (fun k hk => .inr (by omega))).trans st2.fr (fun k hk => by
      rcases hk with hk | hk
      · rcases st.s k hk with h1 | h1
        · exact .inl (.inl h1)
        · exact .inr h1
      · rcases st.t k hk with h1 | h1
        · exact .inl (.inr h1)
        · exact .inr h1), fun k hk => by
      rcases st2.s k hk with h1 | h1
      · exact st.s k h1
      · exact .inr (Nat.le_trans st.fr.size (Nat.le_trans f3.size h1)), fun k hk => by
      rcases st2.t k hk with h1 | h1
      · exact st.t k h1
      · exact .inr (Nat.le_trans st.fr.size (Nat.le_trans f3.size h1))⟩
  generalize getV rs i = gv at *
  generalize hasV rs i = hv at *
  obtain ⟨⟨c0, c1, c2⟩, f0, f1, f2⟩ := l8.cells3
  have H2 := Lib.hid (And.intro h3 (And.intro l7 (And.intro l8 st3)))
  clear h2 h3 l7 l8 l7b l8b st st2 st3 f3 b1 b2 b3 b4
  have f4 := fr_loc3 w2 (w.heap.size + 1 + 1) (.int .i64 gv.k) (.int .i64 gv.a) (.int .i64 gv.b)
  obtain ⟨w3, hw3⟩ : ∃ w3, w3 = ((w2.setCell ⟨w.heap.size + 1 + 1, 0, none⟩ (.int .i64 gv.k)).setCell ⟨w.heap.size + 1 + 1, 1, none⟩ (.int .i64 gv.a)).setCell ⟨w.heap.size + 1 + 1, 2, none⟩ (.int .i64 gv.b) := ⟨_, rfl⟩
  rw [← hw3] at f4
  obtain ⟨h3, l7, l8, st3⟩ := H2.out
  have h4 := h3.far f4 (fun k hk => by rw [hk]; exact ⟨l8.s, l8.t, by omega⟩)
  have l7c := l7.far f4 (by omega)
  have l8c : LocN w3 S1 T2 (w.heap.size + 1 + 1) 23 #[.int .i64 gv.k, .int .i64 gv.a, .int .i64 gv.b] := ⟨by rw [hw3]; exact blk_loc3 l8.blk _ _ _, l8.s, l8.t⟩
  obtain ⟨⟨a0, a1, a2⟩, _⟩ := l7c.cells3
  obtain ⟨⟨b0, b1, b2⟩, _⟩ := l8c.cells3
  obtain ⟨A, cap, tq⟩ := h4.tlen
  have st5 : Step w w3 S T S1 T2 := ⟨st3.fr.trans f4 (fun k hk => .inr (by omega)), st3.s, st3.t⟩
  have H4 := Lib.hid (And.intro h4 st5)
  have HW := Lib.hid hw3
  clear h3 l7 l8 st3 f4 h4 l7c l8c st5 hw3 H2
  go_wp2_with fail
  rw [← HW.out]
  clear c0 c1 c2 f0 f1 f2
  go_quiet ((go_at_call 10; exact quiet_left (len_any p _ S1 _ H4.out.1.den)))
  go_wp2
  go_ret
  exact ⟨rfl, _, S1, T2, H4.out.1.still ((Fr.refl _ _).drewN _), ⟨H4.out.2.fr.drewN _, H4.out.2.s, H4.out.2.t⟩⟩
set_option maxRecDepth 100000 in
set_option maxHeartbeats 1000000 in
theorem do_take {w0 w : World} {p q : Nat} {rs : List (Int × Val)} {S T : Nat → Prop} (h : Both w0 w p q rs S T) (kd i : Int) (v : Val) (hi : (Lit.int .i64 i).wf = true) (hk0 : (kd == 0) = false) (hk1 : (kd == 1) = true) :
    Calls Try.prog 13 #[.pointer (some ⟨p, 0, none⟩), .pointer (some ⟨q, 0, none⟩), .agg #[.int .i64 kd, .int .i64 i, .int .i64 v.k, .int .i64 v.a, .int .i64 v.b]] w fun e w' => e = .returned (.bool true) ∧ Done w0 w p q S T w' := by
  have AG := Lib.hid (show ∀ v : Val, v.agg = Value.agg #[.int .i64 v.k, .int .i64 v.a, .int .i64 v.b] from fun _ => rfl)
  have hw0 := h.fr.size
  obtain ⟨wa, hwa⟩ : ∃ wa, wa = ((w.alloc (.cells #[.int .i64 kd, .int .i64 i, .int .i64 v.k, .int .i64 v.a, .int .i64 v.b] 40)).alloc (.cells #[.int .i64 0, .int .i64 0, .int .i64 0] 23)).alloc (.cells #[.int .i64 0, .int .i64 0, .int .i64 0] 23) := ⟨_, rfl⟩
  have fa : Fr (fun _ => False) w wa := by rw [hwa]; exact (((Fr.refl _ _).alloc _).alloc _).alloc _
  have h0 := h.still fa
  have sa : wa.heap.size = w.heap.size + 3 := by rw [hwa]; simp
  have l5 : LocN wa S T w.heap.size 40 #[.int .i64 kd, .int .i64 i, .int .i64 v.k, .int .i64 v.a, .int .i64 v.b] := ⟨by rw [hwa]; exact ((Blk.new w 40 _).alloc _).alloc _, fun hh => by have := h.slt _ hh; omega, fun hh => by have := h.tlt _ hh; omega⟩
  have l7 : LocN wa S T (w.heap.size + 1) 23 #[.int .i64 0, .int .i64 0, .int .i64 0] := ⟨by rw [hwa]; exact (blk_at (by simp)).alloc _, fun hh => by have := h.slt _ hh; omega, fun hh => by have := h.tlt _ hh; omega⟩
  have l8 : LocN wa S T (w.heap.size + 1 + 1) 23 #[.int .i64 0, .int .i64 0, .int .i64 0] := ⟨by rw [hwa]; exact blk_at (by simp), fun hh => by have := h.slt _ hh; omega, fun hh => by have := h.tlt _ hh; omega⟩
  have st0 : Step w wa S T S T := Step.still fa
  go_enter Try.func13, Try.ntmps13
  go_wp2_with fail
  rw [← hwa]
  refine (btake h0 i hi).mono ?_
  rintro e w1 ⟨rfl, S1, h1, st1⟩
  rw [AG.out]
  replace l5 := st1.loc l5
  replace l7 := st1.loc l7
  replace l8 := st1.loc l8
  have st := st0.trans st1
  have n7s := l7.s
  have n7t := l7.t
  obtain ⟨⟨c0, c1, c2⟩, f0, f1, f2⟩ := l7.cells3
  have b1 : w1.cell? ⟨w.heap.size, 1, none⟩ = some (.int .i64 i) := by rw [l5.blk.cell]; rfl
  have H1 := Lib.hid (And.intro h1 (And.intro l5 (And.intro l7 (And.intro l8 st))))
  clear h0 h1 l5 l7 l8 st st0 st1 hwa fa sa h
  go_wp2_with fail
  obtain ⟨h1, l5, l7, l8, st⟩ := H1.out
  have f3 := fr_loc3 w1 (w.heap.size + 1) (.int .i64 (getV rs i).k) (.int .i64 (getV rs i).a) (.int .i64 (getV rs i).b)
  have h2 := h1.far f3 (fun k hk => by rw [hk]; exact ⟨l7.s, l7.t, by omega⟩)
  have l7b : LocN _ S1 T (w.heap.size + 1) 23 #[.int .i64 (getV rs i).k, .int .i64 (getV rs i).a, .int .i64 (getV rs i).b] := ⟨blk_loc3 l7.blk (.int .i64 (getV rs i).k) (.int .i64 (getV rs i).a) (.int .i64 (getV rs i).b), l7.s, l7.t⟩
  have l8b := l8.far f3 (by omega)
  clear h1 l5 l7 l8 H1 c0 c1 c2 f0 f1 f2
  refine (htake i h2).mono ?_
  rintro e w2 ⟨rfl, T2, h3, st2⟩
  rw [AG.out]
  have l7 := st2.loc l7b
  have l8 := st2.loc l8b
  have st3 : Step w w2 S T S1 T2 := ⟨(st.fr.trans f3 (fun k hk => .inr (by omega))).trans st2.fr (fun k hk => by
      rcases hk with hk | hk
      · rcases st.s k hk with h1 | h1
        · exact .inl (.inl h1)
        · exact .inr h1
      · rcases st.t k hk with h1 | h1
        · exact .inl (.inr h1)
        · exact .inr h1), fun k hk => by
      rcases st2.s k hk with h1 | h1
      · exact st.s k h1
      · exact .inr (Nat.le_trans st.fr.size (Nat.le_trans f3.size h1)), fun k hk => by
      rcases st2.t k hk with h1 | h1
      · exact st.t k h1
      · exact .inr (Nat.le_trans st.fr.size (Nat.le_trans f3.size h1))⟩
  generalize getV rs i = gv at *
  generalize hasV rs i = hv at *
  obtain ⟨⟨c0, c1, c2⟩, f0, f1, f2⟩ := l8.cells3
  have H2 := Lib.hid (And.intro h3 (And.intro l7 (And.intro l8 st3)))
  clear h2 h3 l7 l8 l7b l8b st st2 st3 f3 b1
  have f4 := fr_loc3 w2 (w.heap.size + 1 + 1) (.int .i64 gv.k) (.int .i64 gv.a) (.int .i64 gv.b)
  obtain ⟨w3, hw3⟩ : ∃ w3, w3 = ((w2.setCell ⟨w.heap.size + 1 + 1, 0, none⟩ (.int .i64 gv.k)).setCell ⟨w.heap.size + 1 + 1, 1, none⟩ (.int .i64 gv.a)).setCell ⟨w.heap.size + 1 + 1, 2, none⟩ (.int .i64 gv.b) := ⟨_, rfl⟩
  rw [← hw3] at f4
  obtain ⟨h3, l7, l8, st3⟩ := H2.out
  have h4 := h3.far f4 (fun k hk => by rw [hk]; exact ⟨l8.s, l8.t, by omega⟩)
  have l7c := l7.far f4 (by omega)
  have l8c : LocN w3 S1 T2 (w.heap.size + 1 + 1) 23 #[.int .i64 gv.k, .int .i64 gv.a, .int .i64 gv.b] := ⟨by rw [hw3]; exact blk_loc3 l8.blk _ _ _, l8.s, l8.t⟩
  obtain ⟨⟨a0, a1, a2⟩, _⟩ := l7c.cells3
  obtain ⟨⟨b0, b1, b2⟩, _⟩ := l8c.cells3
  obtain ⟨A, cap, tq⟩ := h4.tlen
  have st5 : Step w w3 S T S1 T2 := ⟨st3.fr.trans f4 (fun k hk => .inr (by omega)), st3.s, st3.t⟩
  have H4 := Lib.hid (And.intro h4 st5)
  have HW := Lib.hid hw3
  clear h3 l7 l8 st3 f4 h4 l7c l8c st5 hw3 H2
  go_wp2_with fail
  rw [← HW.out]
  clear c0 c1 c2 f0 f1 f2
  go_quiet ((go_at_call 10; exact quiet_left (len_any p _ S1 _ H4.out.1.den)))
  go_wp2
  go_ret
  exact ⟨rfl, _, S1, T2, H4.out.1.still ((Fr.refl _ _).drewN _), ⟨H4.out.2.fr.drewN _, H4.out.2.s, H4.out.2.t⟩⟩

theorem do_any {w0 w : World} {p q : Nat} {rs : List (Int × Val)} {S T : Nat → Prop} (h : Both w0 w p q rs S T) (kd i : Int) (v : Val) (hi : (Lit.int .i64 i).wf = true) :
    Calls Try.prog 13 #[.pointer (some ⟨p, 0, none⟩), .pointer (some ⟨q, 0, none⟩), .agg #[.int .i64 kd, .int .i64 i, .int .i64 v.k, .int .i64 v.a, .int .i64 v.b]] w fun e w' => e = .returned (.bool true) ∧ Done w0 w p q S T w' := by
  cases h0 : (kd == 0) with
  | true => exact do_put h kd i v hi h0
  | false =>
    cases h1 : (kd == 1) with
    | true => exact do_take h kd i v hi h0 h1
    | false => exact do_get h kd i v hi h0 h1
end Go.Proofs.Ytbcaajgomekjaaa
