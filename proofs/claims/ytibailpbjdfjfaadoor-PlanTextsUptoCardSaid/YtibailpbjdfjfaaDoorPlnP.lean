/-
  The document's plan texts: column.
-/
import Derived.Test.YtibailpbjdfjfaaDoorPlnO
import Derived.Test.YtibailpbjdfjfaaDoorPlnI
import Derived.Test.YtibailpbjdfjfaaDoorSeq
import Derived.BigRegion
namespace Go.Viv
open Go.Lib Go.RowKit
theorem bat_ {l : List UInt8} {k : Nat} {c : UInt8} (h : l[k]? = some c) (hk : k < (ByteArray.mk l.toArray).size) : (ByteArray.mk l.toArray)[k]'hk = c := by
  have h1 : k < l.length := (List.getElem?_eq_some_iff.1 h).1
  have h2 : l[k] = c := (List.getElem?_eq_some_iff.1 h).2
  rw [← h2]
  rfl
theorem valA_snoc (d : List UInt8) (a : Nat) (c : UInt8) : valA a (d ++ [c]) = valA a d * 10 + (c.toNat - 48) := by
  rw [valA_append]
  rfl
theorem all_snoc {d : List UInt8} {k : Nat} {x : UInt8} (hx : d[k]? = some x) : d.take (k + 1) = d.take k ++ [x] := by
  rw [List.take_add_one, hx]
  rfl
theorem ColSt.put0 {w W : World} {t : TypeId} {g2 g4 : Nat} {k v : Int} (h : ColSt w W t g2 g4 k v) (u : Int) (hlo : w.heap.size ≤ g4) : ColSt w (W.setCell ⟨g4, 0, none⟩ (.int .i64 u)) t g2 g4 u v :=
  ⟨h.b2.far (by show g2 ≠ g4; exact Ne.symm h.ne) _, h.b4.set_ 0 _, h.ne, h.lo, h.fr.setCell (.inr hlo) _⟩
theorem notdig {d : List UInt8} {k : Nat} {x : UInt8} (hx : d[k]? = some x) (hn : isDig x = false) : (d.all isDig) = false := by
  have hm : x ∈ d := List.mem_of_getElem? hx
  cases h : d.all isDig with
  | false => rfl
  | true => rw [List.all_eq_true.1 h x hm] at hn; cases hn
end Go.Viv
namespace Go.Proofs.YtibailpbjdfjfaaDoor
open Go.RowKit Go.Viv
theorem fr_out (w : World) (o : Obj) (a b : Value) : Fr (fun _ => False) w (((w.alloc o).setCell ⟨w.heap.size, 0, none⟩ a).setCell ⟨w.heap.size, 1, none⟩ b) := by
  refine ((Fr.alloc1 _ _ _).setCell ?_ _).setCell ?_ _ <;> exact .inr (Nat.le_refl _)
theorem fr_res {w W : World} {t : TypeId} {k v : Int} {g4 : Nat} (h : ColSt w W t w.heap.size g4 k v) (a b : Value) : Fr (fun _ => False) w ((W.setCell ⟨w.heap.size, 0, none⟩ a).setCell ⟨w.heap.size, 1, none⟩ b) :=
  by refine (h.fr.setCell ?_ _).setCell ?_ _ <;> exact .inr (Nat.le_refl _)
set_option maxRecDepth 100000 in
set_option maxHeartbeats 4000000 in
theorem column_any (l : List UInt8) (w : World) (hl : l.length ≤ 9223372036854775807) : Calls Tryd.prog 23 #[str l] w (ColA l w) := by
  by_cases he : l = [101]
  · subst he
    go_enter Tryd.func23, Tryd.ntmps23
    go_wp2
    refine bodyPost_ret (v := .tuple #[.agg #[.int .i64 5, .int .i64 0], .bool true]) (by simp [results, Tryd.results23, go_sem]) rfl ⟨⟨5, 0⟩, rfl, fun y hy => (by have := Option.some.inj hy; exact this.symm), ?_⟩
    exact Fr.alloc1 _ _ _
  · have hne : (l == [101]) = false := beq_eq_false_iff_ne.2 he
    have hne2 : ¬ l = [101] := he
    cases l with
    | nil =>
      go_enter Tryd.func23, Tryd.ntmps23
      go_wp2
      refine bodyPost_ret (v := .tuple #[.agg #[.int .i64 0, .int .i64 0], .bool false]) (by simp [results, Tryd.results23, go_sem]) rfl ⟨⟨0, 0⟩, rfl, fun y hy => (by cases hy), ?_⟩
      exact Fr.alloc1 _ _ _
    | cons c d =>
      have hec : ¬ (c = 101 ∧ d = []) := fun ⟨h1, h2⟩ => he (by rw [h1, h2])
      have HB := Lib.hid (fun h => colP_bad hec h)
      have HG := Lib.hid (fun h0 hl hz ha => colP_good (c := c) (d := d) h0 hl hz ha)
      have hD := Lib.hid (show ∀ k, (c :: d)[k + 1]? = d[k]? from fun k => rfl)
      have e0 : ∀ h, (ByteArray.mk (c :: d).toArray)[0]'h = c := fun _ => rfl
      obtain ⟨L, hL⟩ : ∃ L, c :: d = L := ⟨_, rfl⟩
      have hLn : L.length = d.length + 1 := by rw [← hL]; rfl
      rw [hL] at hne hne2 hl HB HG hD e0 ⊢
      clear he hec hL
      obtain ⟨n, hn⟩ : ∃ n, L.length = n := ⟨_, rfl⟩
      have HN := Lib.hid (And.intro hLn hn)
      by_cases hlen : n < 2 ∨ 4 < n
      · have HC := Lib.hid (show colP L = none from HB.out (by
          rcases hlen with h | h
          · exact .inl (by cases d with | nil => rfl | cons _ _ => simp at hLn; omega)
          · exact .inr (.inl (by omega))))
        rw [hn] at hl
        clear hLn
        rcases hlen with h | h
        · have h' : (n : Int) < 2 := by omega
          go_enter Tryd.func23, Tryd.ntmps23
          go_wp2
          refine bodyPost_ret (v := .tuple #[.agg #[.int .i64 0, .int .i64 0], .bool false]) (by simp [results, Tryd.results23, go_sem]) rfl ⟨⟨0, 0⟩, by rw [HC.out]; rfl, fun y hy => (by rw [HC.out] at hy; cases hy), ?_⟩
          exact Fr.alloc1 _ _ _
        · have h' : (4 : Int) < n := by omega
          have h'' : ¬ (n : Int) < 2 := by omega
          go_enter Tryd.func23, Tryd.ntmps23
          go_wp2
          refine bodyPost_ret (v := .tuple #[.agg #[.int .i64 0, .int .i64 0], .bool false]) (by simp [results, Tryd.results23, go_sem]) rfl ⟨⟨0, 0⟩, by rw [HC.out]; rfl, fun y hy => (by rw [HC.out] at hy; cases hy), ?_⟩
          exact Fr.alloc1 _ _ _
      · have h2 : 2 ≤ n := by omega
        have h4 : n ≤ 4 := by omega
        obtain ⟨x, hx⟩ : ∃ x, d[0]? = some x := ⟨_, List.getElem?_eq_getElem (by omega)⟩
        have e1 : ∀ h, (ByteArray.mk L.toArray)[1]'h = x := fun h => bat_ (by rw [hD.out 0]; exact hx) h
        have hdl : d.length = n - 1 := by omega
        have hd0 : d ≠ [] := fun h => by rw [h] at hdl; simp at hdl; omega
        have hdh : d.head? = some x := by rw [← hx]; cases d <;> rfl
        have h2' : ¬ (n : Int) < 2 := by omega
        have h4' : ¬ (4 : Int) < n := by omega
        have HD := Lib.hid (And.intro hdl (And.intro hd0 hdh))
        obtain ⟨b1, q1⟩ : ∃ b, ((x.toNat : Int) == 48) = b := ⟨_, rfl⟩
        have Hq := Lib.hid (show x = 48 ↔ b1 = true from by
          rw [← q1, beq_iff_eq]
          exact ⟨fun h => by rw [h]; rfl, fun h => UInt8.toNat.inj (by show x.toNat = 48; omega)⟩)
        rw [hn] at hl
        clear hx hdl hd0 hdh hLn
        by_cases hbad : b1 = true ∧ 2 < n
        · obtain ⟨rfl, h3⟩ := hbad
          have HC := Lib.hid (show colP L = none from HB.out (.inr (.inr (.inl ⟨by rw [HD.out.2.2, Hq.out.2 rfl], by rw [HD.out.1]; omega⟩))))
          have h3' : (2 : Int) < n := by omega
          go_enter Tryd.func23, Tryd.ntmps23
          go_wp2
          refine bodyPost_ret (v := .tuple #[.agg #[.int .i64 0, .int .i64 0], .bool false]) (by simp [results, Tryd.results23, go_sem]) rfl ⟨⟨0, 0⟩, by rw [HC.out]; rfl, fun y hy => (by rw [HC.out] at hy; cases hy), ?_⟩
          exact Fr.alloc1 _ _ _
        · have hz : d.head? = some 48 → d.length = 1 := fun h => by
            have h5 : x = 48 := by rw [HD.out.2.2] at h; exact Option.some.inj h
            have g1 := HD.out.1
            have g2 := Hq.out.1 h5
            have g3 : ¬ 2 < n := fun h => hbad ⟨g2, h⟩
            omega
          have HC := Lib.hid (fun ha => HG.out HD.out.2.1 (by have := HD.out.1; omega) hz ha)
          have HCB := Lib.hid (fun ha => HB.out (.inr (.inr (.inr ha))))
          have h3' : b1 = true → ¬ (2 : Int) < n := fun h => by have g3 : ¬ 2 < n := fun h2 => hbad ⟨h, h2⟩; omega
          clear hbad hz
          go_enter Tryd.func23, Tryd.ntmps23
          cases b1
          all_goals
            have h3 := h3'
            simp only [Bool.false_eq_true, false_implies, true_implies] at h3
            clear h3'
            go_wp2_with fail
            go_loopw [5] (fun t wr => ∃ k : Nat, k ≤ 4 ∧ t = .int .i64 k ∧ ColSt w wr 43 w.heap.size (w.heap.size + 1) (kindTo c k) 0) (fun t _ => 4 - (intOf t).toNat)
            case atStart =>
              refine ⟨0, by omega, rfl, ?_⟩
              rw [kindTo_0]
              exact ColSt.made _ _ _ _
            case round =>
              obtain ⟨k, hk, rfl, hst⟩ := hrel
              by_cases hlt : k < 4
              · have hs := letters_at c
                obtain ⟨t, ht⟩ : ∃ t, decide (kindL c = k + 1) = t := ⟨_, rfl⟩
                have q0 := hst.b4.cell 0
                have z0 := hst.b4.frozen 0
                simp at q0
                have hlw := hst.b4.lt
                have HS := Lib.hid (And.intro hst ht)
                have hkk : k = 0 ∨ k = 1 ∨ k = 2 ∨ k = 3 := by omega
                clear hst
                rcases hkk with rfl | rfl | rfl | rfl
                · have hb : ∀ h, (((((ByteArray.mk #[114, 119, 109, 110])[0]'h).toNat : Nat) : Int) == (c.toNat : Int)) = t := fun _ => by show (((114 : Nat) : Int) == (c.toNat : Int)) = t; exact hs.1.trans ht
                  clear hs ht
                  cases t
                  · go_wp2_with fail
                    refine Mix.wp_region_seq [(0, true), (1, true), (2, true), (3, true), (4, true)] (by kernel_rfl) (by kernel_rfl) (by intro c d v a w h; cases d <;> exact h) ?_
                    repeat (refine Mix.seq_read rfl rfl ?_; go_wp2_with fail; refine ⟨rfl, rfl, ?_⟩)
                    refine Mix.seq_nil ?_
                    go_wp2
                    go_roundw
                    case rel => exact ⟨1, by omega, rfl, by rw [kindTo_miss (k := 0) (by have := of_decide_eq_false HS.out.2; omega)]; exact HS.out.1.on (Fr.refl _ _).drew⟩
                    case measure => simp [intOf]
                  · go_wp2_with fail
                    refine Mix.wp_region_seq [(0, true), (1, true), (2, true), (3, true), (4, true)] (by kernel_rfl) (by kernel_rfl) (by intro c d v a w h; cases d <;> exact h) ?_
                    repeat (refine Mix.seq_read rfl rfl ?_; go_wp2_with fail; refine ⟨rfl, rfl, ?_⟩)
                    refine Mix.seq_nil ?_
                    go_wp2
                    go_roundw
                    case rel => exact ⟨1, by omega, rfl, by rw [kindTo_hit (k := 0) (of_decide_eq_true HS.out.2)]; exact (HS.out.1.on (Fr.refl _ _).drew).put0 _ (by omega)⟩
                    case measure => simp [intOf]
                · have hb : ∀ h, (((((ByteArray.mk #[114, 119, 109, 110])[1]'h).toNat : Nat) : Int) == (c.toNat : Int)) = t := fun _ => by show (((119 : Nat) : Int) == (c.toNat : Int)) = t; exact hs.2.1.trans ht
                  clear hs ht
                  cases t
                  · go_wp2_with fail
                    refine Mix.wp_region_seq [(0, true), (1, true), (2, true), (3, true), (4, true)] (by kernel_rfl) (by kernel_rfl) (by intro c d v a w h; cases d <;> exact h) ?_
                    repeat (refine Mix.seq_read rfl rfl ?_; go_wp2_with fail; refine ⟨rfl, rfl, ?_⟩)
                    refine Mix.seq_nil ?_
                    go_wp2
                    go_roundw
                    case rel => exact ⟨2, by omega, rfl, by rw [kindTo_miss (k := 1) (by have := of_decide_eq_false HS.out.2; omega)]; exact HS.out.1.on (Fr.refl _ _).drew⟩
                    case measure => simp [intOf]
                  · go_wp2_with fail
                    refine Mix.wp_region_seq [(0, true), (1, true), (2, true), (3, true), (4, true)] (by kernel_rfl) (by kernel_rfl) (by intro c d v a w h; cases d <;> exact h) ?_
                    repeat (refine Mix.seq_read rfl rfl ?_; go_wp2_with fail; refine ⟨rfl, rfl, ?_⟩)
                    refine Mix.seq_nil ?_
                    go_wp2
                    go_roundw
                    case rel => exact ⟨2, by omega, rfl, by rw [kindTo_hit (k := 1) (of_decide_eq_true HS.out.2)]; exact (HS.out.1.on (Fr.refl _ _).drew).put0 _ (by omega)⟩
                    case measure => simp [intOf]
                · have hb : ∀ h, (((((ByteArray.mk #[114, 119, 109, 110])[2]'h).toNat : Nat) : Int) == (c.toNat : Int)) = t := fun _ => by show (((109 : Nat) : Int) == (c.toNat : Int)) = t; exact hs.2.2.1.trans ht
                  clear hs ht
                  cases t
                  · go_wp2_with fail
                    refine Mix.wp_region_seq [(0, true), (1, true), (2, true), (3, true), (4, true)] (by kernel_rfl) (by kernel_rfl) (by intro c d v a w h; cases d <;> exact h) ?_
                    repeat (refine Mix.seq_read rfl rfl ?_; go_wp2_with fail; refine ⟨rfl, rfl, ?_⟩)
                    refine Mix.seq_nil ?_
                    go_wp2
                    go_roundw
                    case rel => exact ⟨3, by omega, rfl, by rw [kindTo_miss (k := 2) (by have := of_decide_eq_false HS.out.2; omega)]; exact HS.out.1.on (Fr.refl _ _).drew⟩
                    case measure => simp [intOf]
                  · go_wp2_with fail
                    refine Mix.wp_region_seq [(0, true), (1, true), (2, true), (3, true), (4, true)] (by kernel_rfl) (by kernel_rfl) (by intro c d v a w h; cases d <;> exact h) ?_
                    repeat (refine Mix.seq_read rfl rfl ?_; go_wp2_with fail; refine ⟨rfl, rfl, ?_⟩)
                    refine Mix.seq_nil ?_
                    go_wp2
                    go_roundw
                    case rel => exact ⟨3, by omega, rfl, by rw [kindTo_hit (k := 2) (of_decide_eq_true HS.out.2)]; exact (HS.out.1.on (Fr.refl _ _).drew).put0 _ (by omega)⟩
                    case measure => simp [intOf]
                · have hb : ∀ h, (((((ByteArray.mk #[114, 119, 109, 110])[3]'h).toNat : Nat) : Int) == (c.toNat : Int)) = t := fun _ => by show (((110 : Nat) : Int) == (c.toNat : Int)) = t; exact hs.2.2.2.trans ht
                  clear hs ht
                  cases t
                  · go_wp2_with fail
                    refine Mix.wp_region_seq [(0, true), (1, true), (2, true), (3, true), (4, true)] (by kernel_rfl) (by kernel_rfl) (by intro c d v a w h; cases d <;> exact h) ?_
                    repeat (refine Mix.seq_read rfl rfl ?_; go_wp2_with fail; refine ⟨rfl, rfl, ?_⟩)
                    refine Mix.seq_nil ?_
                    go_wp2
                    go_roundw
                    case rel => exact ⟨4, by omega, rfl, by rw [kindTo_miss (k := 3) (by have := of_decide_eq_false HS.out.2; omega)]; exact HS.out.1.on (Fr.refl _ _).drew⟩
                    case measure => simp [intOf]
                  · go_wp2_with fail
                    refine Mix.wp_region_seq [(0, true), (1, true), (2, true), (3, true), (4, true)] (by kernel_rfl) (by kernel_rfl) (by intro c d v a w h; cases d <;> exact h) ?_
                    repeat (refine Mix.seq_read rfl rfl ?_; go_wp2_with fail; refine ⟨rfl, rfl, ?_⟩)
                    refine Mix.seq_nil ?_
                    go_wp2
                    go_roundw
                    case rel => exact ⟨4, by omega, rfl, by rw [kindTo_hit (k := 3) (of_decide_eq_true HS.out.2)]; exact (HS.out.1.on (Fr.refl _ _).drew).put0 _ (by omega)⟩
                    case measure => simp [intOf]
              · obtain rfl : k = 4 := by omega
                rw [kindTo_4] at hst
                have HS := Lib.hid hst
                clear hst
                obtain ⟨wB, hwB⟩ : ∃ wB, wB = wr := ⟨wr, rfl⟩
                subst hwB
                go_wp2_with fail
                go_loopw [6] (fun t wr => ∃ k : Nat, 1 ≤ k ∧ k ≤ n ∧ t = .int .i64 k ∧ ((d.take (k - 1)).all isDig) = true ∧ ColSt w wr 43 w.heap.size (w.heap.size + 1) (kindL c) (valA 0 (d.take (k - 1)))) (fun t _ => n - (intOf t).toNat)
                case atStart => exact ⟨1, by omega, by omega, rfl, rfl, HS.out⟩
                case round =>
                  obtain ⟨k, hk1, hk, rfl, hall, hst⟩ := hrel
                  by_cases hlt : k < n
                  · have hltI : (k : Int) < n := by omega
                    obtain ⟨y, hy⟩ : ∃ y, d[k - 1]? = some y := ⟨_, List.getElem?_eq_getElem (by have := HD.out.1; omega)⟩
                    have ey : ∀ h, (ByteArray.mk L.toArray)[k]'h = y := fun h => bat_ (by rw [show k = k - 1 + 1 by omega, hD.out (k - 1)]; exact hy) h
                    have hv : valA 0 (d.take (k - 1)) < 10 ^ 3 := valA_lt hall (by rw [List.length_take]; omega)
                    rw [show (10 : Nat) ^ 3 = 1000 from by decide] at hv
                    have hsn := all_snoc hy
                    rw [show k - 1 + 1 = k by omega] at hsn
                    have hyb := y.toNat_lt
                    by_cases hdg : isDig y = true
                    · have h48 : 48 ≤ y.toNat := by
                        unfold isDig at hdg; simp at hdg; omega
                      have h57 : y.toNat ≤ 57 := by
                        unfold isDig at hdg; simp at hdg; omega
                      have g1 : ¬ (y.toNat : Int) < 48 := by omega
                      have g2 : ¬ (57 : Int) < y.toNat := by omega
                      have g3 : (48 : Int) ≤ y.toNat := by omega
                      have g4 : (y.toNat : Int) ≤ 57 := by omega
                      have HV := Lib.hid (show valA 0 (d.take k) = valA 0 (d.take (k - 1)) * 10 + (y.toNat - 48) from by rw [hsn, valA_snoc])
                      have HA := Lib.hid (show ((d.take k).all isDig) = true from by rw [hsn, List.all_append, hall, List.all_cons, hdg]; rfl)
                      obtain ⟨v, hvv⟩ : ∃ v, valA 0 (d.take (k - 1)) = v := ⟨_, rfl⟩
                      rw [hvv] at HV hst hv
                      have q1' := hst.b4.cell 1
                      have z1 := hst.b4.frozen 1
                      simp at q1'
                      have hlw := hst.b4.lt
                      have HS2 := Lib.hid hst
                      clear hst hy hall hsn hvv hdg
                      obtain ⟨wB, hwB⟩ : ∃ wB, wB = wr := ⟨wr, rfl⟩
                      subst hwB
                      go_wp2_with fail
                      refine Mix.wp_region_seq [(0, true), (1, true), (2, true), (3, true), (4, true), (5, true), (6, true), (7, true), (8, true), (9, true), (10, false)] (by kernel_rfl) (by kernel_rfl) (by intro c d v a w h; cases d <;> exact h) ?_
                      repeat (refine Mix.seq_read rfl rfl ?_; go_wp2_with fail; refine ⟨rfl, rfl, ?_⟩)
                      refine Mix.seq_does rfl ?_; go_wp2_with fail; refine Mix.behind_seq ?_
                      refine Mix.seq_nil ?_
                      go_wp2
                      go_roundw
                      case rel =>
                        iterate 29 (apply Exists.intro)
                        refine ⟨?_, rfl⟩
                        refine ⟨k + 1, by omega, by omega, by go_num, HA.out, ?_⟩
                        rw [show k + 1 - 1 = k by omega, HV.out, show (((v * 10 + (y.toNat - 48) : Nat)) : Int) = 10 * (v : Int) + ((y.toNat : Int) - 48) from by omega]
                        exact (HS2.out.put _ (by omega)).on (Fr.refl _ _).drew
                      case measure => simp [intOf]; omega
                    · have HC2 := Lib.hid (HCB.out (notdig hy (by simpa using hdg)))
                      have hdg' : y.toNat < 48 ∨ 57 < y.toNat := by
                        unfold isDig at hdg
                        simp at hdg
                        omega
                      have HS2 := Lib.hid hst
                      have q0' := hst.b2.cell 0
                      have z0' := hst.b2.frozen 0
                      have q1' := hst.b2.cell 1
                      have z1' := hst.b2.frozen 1
                      simp at q0' q1'
                      clear hst hy hall hsn hv hdg
                      obtain ⟨wB, hwB⟩ : ∃ wB, wB = wr := ⟨wr, rfl⟩
                      subst hwB
                      rcases hdg' with g | g
                      · have g1 : (y.toNat : Int) < 48 := by omega
                        go_wp2
                        refine bodyPost_ret (v := .tuple #[.agg #[.int .i64 0, .int .i64 0], .bool false]) (by simp [results, Tryd.results23, go_sem, q0', q1']) rfl ⟨⟨0, 0⟩, by rw [HC2.out]; rfl, fun y hy => (by rw [HC2.out] at hy; cases hy), ?_⟩
                        exact fr_res HS2.out _ _
                      · have g1 : ¬ (y.toNat : Int) < 48 := by omega
                        have g3 : (48 : Int) ≤ y.toNat := by omega
                        have g2 : (57 : Int) < y.toNat := by omega
                        go_wp2
                        refine bodyPost_ret (v := .tuple #[.agg #[.int .i64 0, .int .i64 0], .bool false]) (by simp [results, Tryd.results23, go_sem, q0', q1']) rfl ⟨⟨0, 0⟩, by rw [HC2.out]; rfl, fun y hy => (by rw [HC2.out] at hy; cases hy), ?_⟩
                        exact fr_res HS2.out _ _
                  · obtain rfl : k = n := by omega
                    have hdt : d.take (k - 1) = d := List.take_of_length_le (by have := HD.out.1; omega)
                    rw [hdt] at hall hst
                    have HC2 := Lib.hid (HC.out hall)
                    obtain ⟨V, hV⟩ : ∃ V, valA 0 d = V := ⟨_, rfl⟩
                    obtain ⟨K, hK⟩ : ∃ K, kindL c = K := ⟨_, rfl⟩
                    rw [hV, hK] at HC2 hst
                    have q0' := hst.b2.cell 0
                    have z0' := hst.b2.frozen 0
                    have q1' := hst.b2.cell 1
                    have z1' := hst.b2.frozen 1
                    have q4 := hst.b4.cell 0
                    have q5 := hst.b4.cell 1
                    simp at q0' q1' q4 q5
                    have HS2 := Lib.hid hst
                    clear hst hall hdt hV hK
                    obtain ⟨wB, hwB⟩ : ∃ wB, wB = wr := ⟨wr, rfl⟩
                    subst hwB
                    obtain ⟨t, ht⟩ : ∃ t, (K != 0) = t := ⟨_, rfl⟩
                    go_wp2_with fail
                    go_region
                    go_wp2
                    refine bodyPost_ret (v := .tuple #[.agg #[.int .i64 K, .int .i64 V], .bool t]) (by simp [results, Tryd.results23, go_sem, q0', q1']) rfl ⟨⟨K, V⟩, ?_, ?_, ?_⟩
                    · rw [HC2.out, ← ht]
                      by_cases h0 : K = 0
                      · rw [if_pos h0, h0]; rfl
                      · rw [if_neg h0, show (K != 0) = true from by simpa using h0]; rfl
                    · intro y hy
                      rw [HC2.out] at hy
                      split at hy
                      · cases hy
                      · exact (Option.some.inj hy).symm
                    · exact fr_res (HS2.out.on (Fr.refl _ _).drew) _ _
end Go.Proofs.YtibailpbjdfjfaaDoor
