/-
  ConsoleBounds: the law's own walk.
-/
import Derived.Test.YtenigphjddnknaaGreatDoorNmp
import Derived.Test.YtenigphjddnknaaGreatDoorShq
import Derived.Laws.OwnMore
import Derived.Laws.IdiomStrings
import Derived.Lib.AtoiAllCases
set_option linter.unusedVariables false
namespace Go.Viv
open Go Go.Lib
theorem ext_one (c : UInt8) (d : List UInt8) : (ByteArray.mk (c :: d).toArray).extract 0 1 = ⟨#[c]⟩ := by
  apply ba_ext
  simp
theorem ext_rest (c : UInt8) (d : List UInt8) : (ByteArray.mk (c :: d).toArray).extract 1 (d.length + 1) = ⟨d.toArray⟩ := by
  apply ba_ext
  simp
/-- What the walk of col has laid: the answer's block, the column's. -/
structure ColSt (w W : World) (t : TypeId) (g2 g4 : Nat) (k v : Int) : Prop where
  b2 : Blk W g2 t #[.int .i64 0, .int .i64 0]
  b4 : Blk W g4 t #[.int .i64 k, .int .i64 v]
  ne : g4 ≠ g2
  lo : w.heap.size ≤ g2
  fr : Fr (fun _ => False) w W
theorem ColSt.made (w : World) (t : TypeId) (k v : Int) : ColSt w ((w.alloc (.cells #[.int .i64 0, .int .i64 0] t)).alloc (.cells #[.int .i64 k, .int .i64 v] t)) t w.heap.size (w.heap.size + 1) k v :=
  ⟨(Blk.new w t _).alloc _, by have := Blk.new (w.alloc (.cells #[.int .i64 0, .int .i64 0] t)) t #[.int .i64 k, .int .i64 v]; simpa using this, by omega, Nat.le_refl _, (Fr.alloc1 _ _ _).alloc _⟩
theorem ColSt.on {w W W' : World} {t : TypeId} {g2 g4 : Nat} {k v : Int} (h : ColSt w W t g2 g4 k v) (hf : Fr (fun _ => False) W W') : ColSt w W' t g2 g4 k v :=
  ⟨h.b2.fr hf (fun h => h), h.b4.fr hf (fun h => h), h.ne, h.lo, fr_two h.fr hf⟩
theorem ColSt.put {w W : World} {t : TypeId} {g2 g4 : Nat} {k v : Int} (h : ColSt w W t g2 g4 k v) (u : Int) (hlo : w.heap.size ≤ g4) : ColSt w (W.setCell ⟨g4, 1, none⟩ (.int .i64 u)) t g2 g4 k u :=
  ⟨h.b2.far (by show g2 ≠ g4; exact Ne.symm h.ne) _, h.b4.set_ 1 _, h.ne, h.lo, h.fr.setCell (.inr hlo) _⟩
/-- The answer laid into its block. -/
theorem ColSt.done {W W' : World} {g2 : Nat} (hf : Fr (fun x => x = g2) W W') (a b : Value) : Fr (fun x => x = g2) W ((W'.setCell ⟨g2, 0, none⟩ a).setCell ⟨g2, 1, none⟩ b) :=
  (hf.setCell (.inl rfl) _).setCell (.inl rfl) _
end Go.Viv
namespace Go.Proofs.YtenigphjddnknaaGreatDoor
open Go Go.RowKit Go.Viv Go.Shelf Go.Eva Go.Fv Go.Fw
theorem infoU8 : (Tryz.prog.info? 5).map (fun i => (i.zero, i.size, i.bytes)) = some (some (.int .u8 0), 1, 1) := by kernel_rfl
theorem make_u8 (n : Nat) (hn : n ≤ 16383) (w : World) : ∃ w' cur, (Instr.makeSlice 28 (.int .i64 (n : Int)) (.int .i64 (n : Int))).run Tryz.prog w = .ok (.slice (some ⟨w.heap.size, 0, none⟩) n n) w' ∧ Blk w' w.heap.size 5 cur ∧ cur.size = n ∧ Fr (fun _ => False) w w' := by
  obtain ⟨i0, hi, hz0, hz1, hz2⟩ := info_parts infoU8
  obtain ⟨w', h1, h3, h2⟩ := run_makeSlice_full (P := Tryz.prog) w w.heap.size 28 5 i0 _ 1 Tryz.underlying28 hi hz0 hz1 .i64 .i64 n (by omega) (by rw [hz2]; omega) (by unfold maxLen; omega) (Nat.le_refl _)
  rcases h3.2 with ⟨h4, _⟩ | ⟨g, cap, cur, h4, _, hg, _, _, hs, _⟩
  · cases h4
  · cases h4
    exact ⟨w', cur, h1, hg, by omega, (Fr.refl _ _).grown h2 (fun k hk => by cases hk)⟩
/-- What is asked of memory, an error's variable too. -/
structure EnvB (W : World) : Prop where
  s : EnvS W
  e : ∃ t p, W.var? Tryz.prog "strconv.ErrSyntax" = some #[.iface t p]
theorem globSy : Tryz.prog.globalNamed "strconv.ErrSyntax" = some 4 := by kernel_rfl
theorem EnvB.low {w w' : World} (h : EnvB w) (hb : ∀ k, k < w.heap.size → w'.heap[k]? = w.heap[k]?) : EnvB w' := by
  obtain ⟨hs, t, p, hv⟩ := h
  refine ⟨hs.low hb, t, p, ?_⟩
  unfold World.var? at hv ⊢
  rw [globSy] at hv ⊢
  rcases Nat.lt_or_ge 4 w.heap.size with h1 | h1
  · simpa [hb _ h1] using hv
  · simp [Array.getElem?_eq_none h1] at hv
theorem atoi_w (d : List UInt8) (w : World) (hE : EnvB w) (hx : ∃ r, d = 120 :: r) (hd : d.length ≤ 100000) : Calls Tryz.prog 89 #[.string ⟨d.toArray⟩] w fun e w' => ∃ er, e = .returned (.tuple #[.int .i64 0, er]) ∧ Fr (fun _ => False) w w' := by
  obtain ⟨r, rfl⟩ := hx
  obtain ⟨tp, p, hv⟩ := hE.e
  have hat : Lib.atoiAll (⟨(120 :: r).toArray⟩ : ByteArray).data.toList = Lib.signless (Lib.parseMag (120 :: r)) := Lib.atoiAll_plain 120 r (by decide) (by decide)
  cases hp : Lib.atoiAll (⟨(120 :: r).toArray⟩ : ByteArray).data.toList
  · rw [hat] at hp
    cases hp
  · refine (Any.strconv_Atoi_syntax_var Tryz.laysC172 ⟨(120 :: r).toArray⟩ (by simp [ByteArray.size] at hd ⊢; omega) hp tp p w hv).mono ?_
    rintro e w' ⟨N, rfl, _, _, hb⟩
    exact ⟨_, rfl, Fr.of_below hb⟩
  · rw [hat] at hp
    cases hp
set_option maxRecDepth 100000 in
set_option maxHeartbeats 2000000 in
theorem col_x (d : List UInt8) (w : World) (hE : EnvB w) (hx : ∃ r, d = 120 :: r) (hd : d.length ≤ 100000) : Calls Tryz.prog 65 #[str (120 :: d)] w fun e w' => e = .returned (.tuple #[.agg #[.int .i64 (-1), .int .i64 0], .bool false]) ∧ Fr (fun _ => False) w w' := by
  obtain ⟨m, hm⟩ := hE.s.max
  have HI := Lib.hid (fun W (hW : Fr (fun _ => False) w W) => show Calls Tryz.prog 61 #[.string ⟨#[32, 114, 119, 109, 110, 101]⟩, .string ⟨#[120]⟩] W fun e w' => e = .returned (.int .i64 (-1)) ∧ w' = W from
    Any.strings_Index Tryz.lays143 ⟨#[32, 114, 119, 109, 110, 101]⟩ ⟨#[120]⟩ m W (by decide) ((World.cell?_of_block (a := ⟨0, 0, none⟩) (hW.block 0 (World.block_lt_of_cell? _ _ hm) (fun h => h))).trans hm))
  have HA := Lib.hid (fun W (hW : Fr (fun _ => False) w W) => show Calls Tryz.prog 89 #[.string ⟨d.toArray⟩] W fun e w' => ∃ er, e = .returned (.tuple #[.int .i64 0, er]) ∧ Fr (fun _ => False) W w' from atoi_w d W (hE.low fun k hk => hW.block k hk (fun h => h)) hx hd)
  have x1 := ext_one 120 d
  have x2 := ext_rest 120 d
  clear hE hm hx
  go_enter Tryz.func65, Tryz.ntmps65
  go_wp2_with fail
  refine (HI.out _ ((Fr.refl _ _).alloc _)).mono ?_
  rintro e w1 ⟨rfl, rfl⟩
  go_wp2_with fail
  have hst := ColSt.made w 148 (-1) 0
  refine (HA.out _ hst.fr).mono ?_
  rintro e w3 ⟨er, rfl, hf3⟩
  have hst1 := hst.on hf3
  have y0 : w3.cell? ⟨w.heap.size + 1, 1, none⟩ = some (.int .i64 0) := hst1.b4.cell 1
  have y1 := hst1.b4.frozen 1
  have hst4 := hst1.put 0 (by omega)
  clear hst hst1 hf3
  go_wp2_with fail
  clear y0 y1
  obtain ⟨W, hW⟩ : ∃ W, W = w3.setCell ⟨w.heap.size + 1, 1, none⟩ (.int .i64 0) := ⟨_, rfl⟩
  rw [← hW] at hst4 ⊢
  clear hW
  obtain ⟨g2, hg2⟩ : ∃ g, w.heap.size = g := ⟨_, rfl⟩
  obtain ⟨g4, hg4⟩ : ∃ g, w.heap.size + 1 = g := ⟨_, rfl⟩
  rw [hg4] at hst4 ⊢
  have hst2 : ColSt w W 148 g2 g4 (-1) 0 := by rw [← hg2]; exact hst4
  rw [hg2]
  clear hst4 hg2 hg4
  have q0 := cell_cl (S := fun x => x = g2) (show W.cell? ⟨g4, 0, none⟩ = some (.int .i64 (-1)) from hst2.b4.cell 0) hst2.ne
  have q1 := cell_cl (S := fun x => x = g2) (show W.cell? ⟨g4, 1, none⟩ = some (.int .i64 0) from hst2.b4.cell 1) hst2.ne
  have lt2 := hst2.b2.lt
  have lt4 := hst2.b4.lt
  have HS := Lib.hid hst2
  clear hst2
  refine Mix.wp_region_mixS (S := fun w' => ∃ p : Cl (fun x => x = g2) W, w' = p.w) [(0, true), (1, true), (2, true), (3, true), (4, true), (5, true), (7, true), (6, false), (8, true), (9, true), (10, true), (11, true), (12, true), (13, true), (14, true), (15, false), (16, true)] (by kernel_rfl) (by kernel_rfl) (by intro c d v a w h; cases d <;> exact h) (cl_drew _ _) ?_
  repeat (refine Mix.mix_read rfl rfl ?_; (first | go_big_quiet_step (fail) | quiet_step (fail)); refine wpQuiet_nil ?_)
  refine Mix.mix_does rfl ?_
  go_wp2_with fail
  obtain ⟨w2, hw2⟩ : ∃ w2, w2 = W.drew := ⟨_, rfl⟩
  rw [← hw2]
  have hf3 : Fr (fun x => x = g2) W w2 := by rw [hw2]; exact (Fr.refl _ _).drew
  have hst3 : ColSt w w2 148 g2 g4 (-1) 0 := by rw [hw2]; exact HS.out.on (Fr.refl _ _).drew
  clear hw2
  have s0 : w2.cell? ⟨g2, 0, none⟩ = some (.int .i64 0) := hst3.b2.cell 0
  have s1 : w2.cell? ⟨g2, 1, none⟩ = some (.int .i64 0) := hst3.b2.cell 1
  have z0 := hst3.b2.frozen 0
  have z1 := hst3.b2.frozen 1
  have H3 := Lib.hid (And.intro hf3 hst3)
  clear hf3 hst3
  refine behind_cl H3.out.1 ?_
  repeat (refine Mix.mix_read rfl rfl ?_; (first | go_big_quiet_step (fail) | quiet_step (fail)); refine wpQuiet_nil ?_)
  refine Mix.mix_does rfl ?_
  go_wp2_with fail
  refine behind_cl (ColSt.done H3.out.1 _ _) ?_
  repeat (refine Mix.mix_read rfl rfl ?_; (first | go_big_quiet_step (fail) | quiet_step (fail)); refine wpQuiet_nil ?_)
  refine Mix.mix_nil ?_
  go_wp2
  refine bodyPost_ret (v := .tuple #[.agg #[.int .i64 (-1), .int .i64 0], .bool false]) (by simp [results, Tryz.results65, go_sem, s0, s1] <;> omega) rfl ⟨rfl, ?_⟩
  exact H3.out.2.fr.setCell (.inr H3.out.2.lo) _ |>.setCell (.inr H3.out.2.lo) _
def fCut1 : List Value → Option Value
  | [.string s, .string u] => (match s.data.toList, Nat.ble s.size 2000, u.data.toList with
    | 114 :: 111 :: 119 :: 115 :: 32 :: r, true, [32] => some (.tuple ⟨[.string ⟨#[114, 111, 119, 115]⟩, .string ⟨r.toArray⟩, .bool true]⟩)
    | _, _, _ => none)
  | _ => none
def fSpl1 : List Value → Option (List Value)
  | [.string s, .string u] => (match s.data.toList.all (fun c => Nat.beq c.toNat 120), Nat.ble s.size 2000, u.data.toList with
    | true, true, [32] => some [.string s]
    | _, _, _ => none)
  | _ => none
def fCol1 : List Value → Option Value
  | [.string s] => (match s.data.toList, Nat.ble s.size 2000 with
    | 120 :: 120 :: _, true => some (.tuple ⟨[.agg ⟨[.int .i64 (-1), .int .i64 0]⟩, .bool false]⟩)
    | _, _ => none)
  | _ => none
noncomputable def bnIc : IcF := addIc 18 (pureX fCut1) (addIc 64 (newX fSpl1 9) (addIc 65 (pureX fCol1) (awIc none)))
noncomputable def bnTb : Tb := (((awTb none).set 65 (some (pureB fCol1))).set 64 (some (newB fSpl1 9))).set 18 (some (pureB fCut1))
theorem bnIc_ok : IcOK bnIc bnTb := addIc_ok (pure_ok _) (addIc_ok (new_ok _ _) (addIc_ok (pure_ok _) (awIc_ok none)))
set_option maxRecDepth 100000 in
theorem bnTb_ok {W0 : Begin} {ν : Toks} (hE : ∀ w, Fr W0.may W0.w w → EnvB w) : TbOK Tryz.prog GG W0 ν bnTb := by
  refine tok_tb (new_tb (tok_tb TbOK.none fun l v hf φ l' hl w hw => ?_) (by kernel_rfl) fun l c hf φ l' hl w hw => ?_) fun l v hf φ l' hl w hw => ?_
  · unfold fCol1 at hf
    split at hf <;> try (cases hf; done)
    split at hf <;> try (cases hf; done)
    rename_i s _ _ r hs hz
    cases hf
    have hs' : s = ⟨(120 :: 120 :: r).toArray⟩ := ba_ext hs
    have hz := Nat.le_of_ble_eq_true hz
    subst hs'
    cases hl with
    | cons q t =>
      cases t
      cases q
      refine (col_x (120 :: r) w (hE w hw) ⟨r, rfl⟩ (by simp [ByteArray.size] at hz; simp; omega)).mono ?_
      rintro e w' ⟨rfl, hf⟩
      exact ⟨_, rfl, VR.refl _ rfl, hf⟩
  · unfold fSpl1 at hf
    split at hf <;> try (cases hf; done)
    split at hf <;> try (cases hf; done)
    rename_i s u _ _ _ ha hz hu
    cases hf
    have hu : u = ⟨#[32]⟩ := ba_ext hu
    subst hu
    have hz := Nat.le_of_ble_eq_true hz
    cases hl with
    | cons q t =>
      cases t with
      | cons q2 t2 =>
        cases t2
        cases q
        cases q2
        obtain ⟨m, hm⟩ := (hE w hw).s.max
        have hn : (32 : UInt8) ∉ s.data.toList := fun h => by
          have := List.all_eq_true.1 ha _ h
          cases this
        refine ⟨[.string s], fun φ' => .cons (.string _) .nil, ?_⟩
        have h := Tryz.strings_Split s ⟨#[32]⟩ m w (by omega) hm (by decide)
        have e2 : (Lib.splitB ⟨#[32]⟩ 0 (Lib.countB s ⟨#[32]⟩) s).map (·.data.toList) = [s.data.toList] := by
          rw [Lib.splitB_data, ← wds_word 32 _ hn, ← split_wds]
          rfl
        obtain ⟨x, hx⟩ := List.map_eq_singleton_iff.1 e2
        have hx2 : x = s := by
          have := hx.2
          cases x; cases s
          simp at this
          rw [this]
        rw [hx.1, hx2] at h
        have e3 := Lib.splitB_all ⟨#[32]⟩ (by decide) 0 _ s rfl
        rw [hx.1] at e3
        have e4 : Lib.countB s ⟨#[32]⟩ = 0 := by simpa using e3.symm
        rw [e4] at h
        exact h
  · unfold fCut1 at hf
    split at hf <;> try (cases hf; done)
    split at hf <;> try (cases hf; done)
    rename_i s u _ _ _ r hs hz hu
    cases hf
    have hz := Nat.le_of_ble_eq_true hz
    have hs : s = ⟨([114, 111, 119, 115] ++ 32 :: r).toArray⟩ := ba_ext hs
    have hu : u = ⟨#[32]⟩ := ba_ext hu
    subst hu
    cases hl with
    | cons q t =>
      cases t with
      | cons q2 t2 =>
        cases t2
        cases q
        cases q2
        obtain ⟨m, hm⟩ := (hE w hw).s.max
        have h := Any.strings_Cut Tryz.lays145 s ⟨#[32]⟩ m w (by omega) hm
        have e : Lib.cut s.data.toList (⟨#[32]⟩ : ByteArray).data.toList = ([114, 111, 119, 115], r, true) := by
          rw [hs]
          exact cut_at (p := [114, 111, 119, 115]) (by decide)
        rw [e] at h
        refine h.mono fun e w' hp => ?_
        obtain ⟨rfl, n, rfl⟩ := hp
        exact ⟨_, rfl, .tuple (.cons (.string _) (.cons (.string _) (.cons (.bool _) .nil))), (Fr.refl _ _).drewN _⟩
/-- What console.Parse comes to at each length. -/
def wantE (k : Nat) : Int := if 10 < k then 22 else 16
noncomputable def bnRun (k : Nat) : Bool := hput 7 (some (.cells deC 0 false)) H0 fun H => xW Tryz.prog sy0 GG tfn bnIc 1000000 1000 10 [.string ⟨(longT (k + 985)).toArray⟩] H GG fun v _ _ => veq v (.tuple ⟨[cmd0, .int .i64 (wantE k)]⟩)
theorem bn0 : bnRun 0 = true := by kernel_rfl
theorem bn1 : bnRun 1 = true := by kernel_rfl
theorem bn2 : bnRun 2 = true := by kernel_rfl
theorem bn3 : bnRun 3 = true := by kernel_rfl
theorem bn4 : bnRun 4 = true := by kernel_rfl
theorem bn5 : bnRun 5 = true := by kernel_rfl
theorem bn6 : bnRun 6 = true := by kernel_rfl
theorem bn7 : bnRun 7 = true := by kernel_rfl
theorem bn8 : bnRun 8 = true := by kernel_rfl
theorem bn9 : bnRun 9 = true := by kernel_rfl
theorem bn10 : bnRun 10 = true := by kernel_rfl
theorem bn11 : bnRun 11 = true := by kernel_rfl
theorem bn12 : bnRun 12 = true := by kernel_rfl
theorem bn13 : bnRun 13 = true := by kernel_rfl
theorem bn14 : bnRun 14 = true := by kernel_rfl
theorem bn15 : bnRun 15 = true := by kernel_rfl
theorem bn_run : ∀ k, k < 16 → bnRun k = true
  | 0, _ => bn0
  | 1, _ => bn1
  | 2, _ => bn2
  | 3, _ => bn3
  | 4, _ => bn4
  | 5, _ => bn5
  | 6, _ => bn6
  | 7, _ => bn7
  | 8, _ => bn8
  | 9, _ => bn9
  | 10, _ => bn10
  | 11, _ => bn11
  | 12, _ => bn12
  | 13, _ => bn13
  | 14, _ => bn14
  | 15, _ => bn15
  | k + 16, h => by omega
theorem long_ok {k : Nat} (hk : k < 16) {W : World} (hE : EnvB W) : Calls Tryz.prog 10 #[str (longT (k + 985))] W fun e w' => e = .returned (.tuple #[cmd0, .int .i64 (wantE k)]) ∧ Fr (fun _ => False) W w' := by
  obtain ⟨H, hH, h⟩ := hput_of HR.start (bn_run k hk)
  obtain ⟨v, h0, H0', q1, q2, q3⟩ := fastw_ev (β := noB) (P := Tryz.prog) (G := GG) sy0_t tabOK bnIc_ok 1000000 1000 _ _ _ _ _ _ hH h
  have e : syb noB sy0 = sy0 := by
    funext o vs
    unfold syb
    split <;> rfl
  rw [e] at q1
  have := veq_spec q3
  subst this
  refine (ev_sound (W0 := Begin.still W) (ν := noToks) (by kernel_rfl) syOK_none (bnTb_ok fun w' hw' => hE.low fun k hk => hw'.block k hk (fun h => h)) _ _ _ _ _ _ _ q1 _ W _ (.cons (.string _) .nil) (start_ok hE.s.tab _) (Nat.le_refl _)).mono fun e w' hp => ?_
  obtain ⟨v', rfl, φ', hv, hR, _, _⟩ := hp
  rw [hv.plain rfl]
  exact ⟨rfl, hR.frame⟩
end Go.Proofs.YtenigphjddnknaaGreatDoor
set_option linter.unusedVariables false
namespace Go.Proofs.YtenigphjddnknaaGreatDoor
open Go Go.RowKit Go.Viv Go.Shelf Go.Eva Go.Fv Go.Fw
set_option maxRecDepth 100000 in
set_option maxHeartbeats 2000000 in
theorem run_long (l : List UInt8) (w : World) (hE : EnvS w) (h : 10000 < l.length) : Calls Tryz.prog 9 #[str l] w fun e w' => e = .returned (str [101, 114, 114, 111, 114, 32, 50, 50, 10]) ∧ Fr (fun _ => False) w w' := by
  have hd : decide ((l.length : Int) > 10000) = true := decide_eq_true (by omega)
  have ht := told_long hE
  go_enter Tryz.func9, Tryz.ntmps9
  go_wp2_with (first | (go_at_call 13; refine ht.mono ?_; rintro e w1 ⟨rfl, hf1⟩))
  go_ret
  exact ⟨rfl, hf1⟩
theorem longT_cat (m : Nat) : longT m ++ [120] = longT (m + 1) := by
  unfold longT
  rw [List.append_assoc, ← List.replicate_succ']
theorem longT_len (m : Nat) : (longT m).length = m + 5 := by simp [longT]
def lenOf : Value → Nat
  | .string s => s.size
  | _ => 0
attribute [local go_sem] cat_str
set_option maxRecDepth 100000 in
set_option maxHeartbeats 2000000 in
theorem bounds_any (n0 n1 : Int) (w : World) (hE : EnvB w) : Calls Tryz.prog 4 #[.int .i64 n0, .int .i64 n1] w fun e w' => e = .returned (.bool true) ∧ Fr (fun _ => False) w w' := by
  obtain ⟨a, ha, ha2⟩ := mask_nat n0 16383 14 (by decide) (by decide)
  obtain ⟨b, hb, hb2⟩ := mask_nat n1 15 4 (by decide) (by decide)
  obtain ⟨w1, cur0, hmk, hblk, hsz, hf1⟩ := make_u8 a (by omega) w
  have HE := Lib.hid hE
  clear hE
  go_enter Tryz.func4, Tryz.ntmps4
  go_wp2_with fail
  go_loopw [6, 17] (fun _ t wr => ∃ (k : Nat) (cur : Array Value), k ≤ a ∧ t = .int .i64 k ∧ Blk wr w.heap.size 5 cur ∧ cur.size = a ∧ (∀ j, j < k → cur[j]? = some (.int .u8 10)) ∧ Fr (fun _ => False) w wr) (fun _ t _ => a - (intOf t).toNat)
  case atStart => exact ⟨0, cur0, by omega, rfl, hblk, hsz, fun j h => absurd h (Nat.not_lt_zero _), hf1⟩
  case round =>
    obtain ⟨k, cur, hk, rfl, hb1, hs, hc, hfr⟩ := hrel
    by_cases hlt : k < a
    · have q0 := hb1.cell k
      obtain ⟨u, hu⟩ : ∃ u, cur[k]? = some u := ⟨_, Array.getElem?_eq_getElem (by omega)⟩
      rw [hu] at q0
      have q1 := hb1.frozen k
      have HB := Lib.hid (And.intro hb1 (And.intro hs (And.intro hc hfr)))
      clear hb1 hs hc hfr hmk hblk hsz hf1 hu
      go_wp2_with fail
      refine ⟨⟨k + 1, cur.setIfInBounds k (.int .u8 10), by omega, by simp, HB.out.1.set_ k _, by simpa using HB.out.2.1, fun j hj => ?_, HB.out.2.2.2.setCell (.inr (Nat.le_refl _)) _⟩, by simp [intOf]; omega⟩
      rw [Array.getElem?_setIfInBounds]
      have := HB.out.2.1
      by_cases e : k = j
      · subst e
        rw [if_pos rfl, if_pos (by omega)]
      · rw [if_neg e]
        exact HB.out.2.2.1 j (by omega)
    · obtain rfl : k = a := by omega
      have hcv := run_convert_bytes_back (P := Tryz.prog) wr 28 9 5 ⟨w.heap.size, 0, none⟩ k (List.replicate k 10) Tryz.underlying28 Tryz.underlying5 Tryz.underlying9 (fun j hj => by
        rw [show (⟨w.heap.size, 0, none⟩ : Addr).add j = ⟨w.heap.size, 0 + j, none⟩ by simp [Addr.add]; omega, Nat.zero_add, hb1.cell j, hc j (by simpa using hj)]
        simp)
      rw [List.length_replicate] at hcv
      have HF := Lib.hid hfr
      have HS := Lib.hid (fun W (hW : Fr (fun _ => False) w W) => HE.out.low fun k hk => hW.block k hk (fun h => h))
      have key : ∀ W, Fr (fun _ => False) w W → ∃ s : List UInt8, (10000 < k → s = [101, 114, 114, 111, 114, 32, 50, 50, 10]) ∧ (k ≤ 10000 → s = []) ∧ Calls Tryz.prog 9 #[.string ⟨(List.replicate k (10 : UInt8)).toArray⟩] W fun e w' => e = .returned (str s) ∧ Fr (fun _ => False) W w' := fun W hW => by
        rcases Nat.lt_or_ge 10000 k with h | h
        · exact ⟨_, fun _ => rfl, fun h2 => by omega, run_long _ W (HS.out W hW).s (by simpa using h)⟩
        · exact ⟨_, fun h2 => by omega, fun _ => rfl, run_nl k W (HS.out W hW).s h⟩
      obtain ⟨s, hs1, hs2, hrun⟩ := key wr HF.out
      clear hmk hblk hsz hf1 hb1 hs hc hfr key
      generalize List.replicate k (10 : UInt8) = L at *
      by_cases hk1 : 10000 < k
      · obtain rfl := hs1 hk1
        have hk2 : decide ((k : Int) > 10000) = true := decide_eq_true (by omega)
        have hk3 : decide ((k : Int) ≤ 10000) = false := decide_eq_false (by omega)
        clear hs1 hs2
        go_wp2_with (first | (go_at_call 9; refine hrun.mono ?_; rintro e w2 ⟨rfl, hf2⟩))
        have H2 := Lib.hid (fr_two HF.out hf2)
        clear hf2
        go_loop [8] (fun u => ∃ m : Nat, m ≤ b + 985 ∧ u = .string ⟨(longT m).toArray⟩) (fun u => b + 990 - lenOf u)
        case atStart => exact ⟨0, by omega, rfl⟩
        case round =>
          obtain ⟨m, hm, rfl⟩ := hrel
          have hlen := longT_len m
          by_cases hlt : m < b + 985
          · have l1 : ((longT m).length : Int) < b + 990 := by omega
            have l2 : ¬ 9223372036854775807 < (longT m).length + 1 := by omega
            have hcat := longT_cat m
            have HL := Lib.hid (And.intro hcat hlen)
            clear hcat hlen
            go_wp2
            go_round
            case rel => exact ⟨m + 1, by omega, by rw [← HL.out.1]⟩
            case measure => have := HL.out.2; simp [lenOf, ByteArray.size]; omega
          · obtain rfl : m = b + 985 := by omega
            have l1 : decide (((longT (b + 985)).length : Int) < b + 990) = false := decide_eq_false (by omega)
            have HL := Lib.hid hlen
            clear hlen
            by_cases h10 : 10 < b
            · have hw : wantE b = 22 := if_pos h10
              have hb10 : decide ((b : Int) + 990 > 1000) = true := decide_eq_true (by omega)
              have hp := long_ok (k := b) (by omega) (HS.out _ H2.out)
              rw [hw] at hp
              clear hw
              go_wp2_with (first | (go_at_call 10; refine hp.mono ?_; rintro e w3 ⟨rfl, hf3⟩) | (go_at_call 8; refine (awake_any _ (HS.out _ ((fr_two H2.out hf3).alloc _)).s).mono ?_; rintro e w4 ⟨rfl, hf4⟩))
              go_ret
              exact ⟨rfl, fr_two ((fr_two H2.out hf3).alloc _) hf4⟩
            · have hw : wantE b = 16 := if_neg h10
              have hb10 : decide ((b : Int) + 990 > 1000) = false := decide_eq_false (by omega)
              have hp := long_ok (k := b) (by omega) (HS.out _ H2.out)
              rw [hw] at hp
              clear hw
              go_wp2_with (first | (go_at_call 10; refine hp.mono ?_; rintro e w3 ⟨rfl, hf3⟩) | (go_at_call 8; refine (awake_any _ (HS.out _ ((fr_two H2.out hf3).alloc _)).s).mono ?_; rintro e w4 ⟨rfl, hf4⟩))
              go_ret
              exact ⟨rfl, fr_two ((fr_two H2.out hf3).alloc _) hf4⟩
      · obtain rfl := hs2 (by omega)
        have hk2 : decide ((k : Int) > 10000) = false := decide_eq_false (by omega)
        have hk3 : decide ((k : Int) ≤ 10000) = true := decide_eq_true (by omega)
        clear hs1 hs2
        go_wp2_with (first | (go_at_call 9; refine hrun.mono ?_; rintro e w2 ⟨rfl, hf2⟩))
        have H2 := Lib.hid (fr_two HF.out hf2)
        clear hf2
        go_loop [8] (fun u => ∃ m : Nat, m ≤ b + 985 ∧ u = .string ⟨(longT m).toArray⟩) (fun u => b + 990 - lenOf u)
        case atStart => exact ⟨0, by omega, rfl⟩
        case round =>
          obtain ⟨m, hm, rfl⟩ := hrel
          have hlen := longT_len m
          by_cases hlt : m < b + 985
          · have l1 : ((longT m).length : Int) < b + 990 := by omega
            have l2 : ¬ 9223372036854775807 < (longT m).length + 1 := by omega
            have hcat := longT_cat m
            have HL := Lib.hid (And.intro hcat hlen)
            clear hcat hlen
            go_wp2
            go_round
            case rel => exact ⟨m + 1, by omega, by rw [← HL.out.1]⟩
            case measure => have := HL.out.2; simp [lenOf, ByteArray.size]; omega
          · obtain rfl : m = b + 985 := by omega
            have l1 : decide (((longT (b + 985)).length : Int) < b + 990) = false := decide_eq_false (by omega)
            have HL := Lib.hid hlen
            clear hlen
            by_cases h10 : 10 < b
            · have hw : wantE b = 22 := if_pos h10
              have hb10 : decide ((b : Int) + 990 > 1000) = true := decide_eq_true (by omega)
              have hp := long_ok (k := b) (by omega) (HS.out _ H2.out)
              rw [hw] at hp
              clear hw
              go_wp2_with (first | (go_at_call 10; refine hp.mono ?_; rintro e w3 ⟨rfl, hf3⟩) | (go_at_call 8; refine (awake_any _ (HS.out _ ((fr_two H2.out hf3).alloc _)).s).mono ?_; rintro e w4 ⟨rfl, hf4⟩))
              go_ret
              exact ⟨rfl, fr_two ((fr_two H2.out hf3).alloc _) hf4⟩
            · have hw : wantE b = 16 := if_neg h10
              have hb10 : decide ((b : Int) + 990 > 1000) = false := decide_eq_false (by omega)
              have hp := long_ok (k := b) (by omega) (HS.out _ H2.out)
              rw [hw] at hp
              clear hw
              go_wp2_with (first | (go_at_call 10; refine hp.mono ?_; rintro e w3 ⟨rfl, hf3⟩) | (go_at_call 8; refine (awake_any _ (HS.out _ ((fr_two H2.out hf3).alloc _)).s).mono ?_; rintro e w4 ⟨rfl, hf4⟩))
              go_ret
              exact ⟨rfl, fr_two ((fr_two H2.out hf3).alloc _) hf4⟩
end Go.Proofs.YtenigphjddnknaaGreatDoor
