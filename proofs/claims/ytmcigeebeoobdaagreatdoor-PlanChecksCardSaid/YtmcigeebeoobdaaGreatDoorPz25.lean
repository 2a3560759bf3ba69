/-
  Several texts in one. Contracts of package plan: text, Text, col.
-/
import Derived.Test.YtmcigeebeoobdaaGreatDoorPz24
import Derived.Lib.SplitLaws
import Derived.Laws.OwnMore
section
namespace Go.Viv
open Go.Lib Go.RowKit
def cellsW (ws : List (List UInt8)) : List Value := ws.map str
theorem cellsW_snoc (ds : List (List UInt8)) (x : List UInt8) : cellsW (ds ++ [x]) = cellsW ds ++ [str x] := by simp [cellsW]
theorem lens_le (ws : List (List UInt8)) (n : Nat) (h : ∀ x ∈ ws, x.length ≤ n) : (ws.map List.length).sum ≤ ws.length * n := by
  induction ws with
  | nil => simp
  | cons x r ih =>
    have h1 := ih (fun y hy => h y (by simp [hy]))
    have h2 := h x (by simp)
    simp only [List.map_cons, List.sum_cons, List.length_cons, Nat.succ_mul]
    omega
theorem joinTail_len (n : Nat) : ∀ (r : List (List UInt8)), (∀ x ∈ r, x.length ≤ n) → (joinTail [32] r).length ≤ r.length * (n + 1)
  | [], _ => by simp [joinTail]
  | x :: r, h => by
    have h1 := joinTail_len n r (fun y hy => h y (by simp [hy]))
    have h2 := h x (by simp)
    have e : joinTail [32] (x :: r) = 32 :: (x ++ joinTail [32] r) := by simp [joinTail]
    rw [e]
    simp only [List.length_cons, List.length_append, Nat.succ_mul]
    omega
theorem join_len (ws : List (List UInt8)) (n : Nat) (h : ∀ x ∈ ws, x.length ≤ n) : (Lib.join ws [32]).length ≤ ws.length * (n + 1) + n := by
  cases ws with
  | nil => simp [Lib.join_nil]
  | cons x r =>
    have h1 := h x (by simp)
    have h2 := joinTail_len n r (fun y hy => h y (by simp [hy]))
    rw [join_cons, List.length_append]
    simp only [List.length_cons, Nat.succ_mul]
    omega
theorem textK_le {x : Coln} (h : inI x.c) : (textK x).length ≤ 22 := by
  have := itoa_len h
  unfold textK
  split
  · simp
  · split
    · simp
    · simp; omega
theorem ext_list (l : List UInt8) (a b : Nat) : (ByteArray.mk l.toArray).extract a b = ⟨((l.drop a).take (b - a)).toArray⟩ := by
  have : ∀ x y : ByteArray, x.data.toList = y.data.toList → x = y := by
    rintro ⟨x⟩ ⟨y⟩ h
    simp at h
    rw [h]
  exact this _ _ (by rw [Lib.extract_data, data_str])
/-- What Index finds of a letter. -/
def idxL (c : UInt8) : Int := indexByte [32, 114, 119, 109, 110, 101] c
theorem idxL_e : idxL 101 = 5 := by decide
theorem idxL_kind {c : UInt8} (h : c ≠ 101) : (kindL c = 0 ∧ (idxL c = 0 ∨ idxL c = -1)) ∨ (1 ≤ kindL c ∧ kindL c ≤ 4 ∧ idxL c = kindL c) := by
  by_cases h1 : c = 114
  · subst h1; exact .inr (by decide)
  · by_cases h2 : c = 119
    · subst h2; exact .inr (by decide)
    · by_cases h3 : c = 109
      · subst h3; exact .inr (by decide)
      · by_cases h4 : c = 110
        · subst h4; exact .inr (by decide)
        · left
          refine ⟨by unfold kindL; simp [h1, h2, h3, h4], ?_⟩
          by_cases h5 : c = 32
          · subst h5; exact .inl (by decide)
          · right
            unfold idxL indexByte
            have e : ∀ b : UInt8, c ≠ b → (b == c) = false := fun b hb => beq_eq_false_iff_ne.2 (fun h => hb h.symm)
            rw [e 32 h5]
            simp [indexByte, e 114 h1, e 119 h2, e 109 h3, e 110 h4, e 101 h]
/-- What Atoi answers is the number, or the text is none. -/
def Atoied (d : List UInt8) (v : Int) : Prop := inI v ∧ (parseIntB 64 d = .ok v ∨ ∀ u, parseIntB 64 d ≠ .ok u)
theorem colP_told {c : UInt8} {d : List UInt8} {v : Int} (hc : c ≠ 101) (hk : 1 ≤ kindL c) (hv : Atoied d v) : colP (c :: d) = if textK ⟨kindL c, v⟩ = c :: d ∧ (c :: d).length ≤ 4 then some ⟨kindL c, v⟩ else none := by
  obtain ⟨hi, hv⟩ := hv
  rcases kindL_in c with h | ⟨_, h4, hl⟩
  · omega
  · rw [colP_cons, if_neg hc]
    by_cases h3 : 3 < d.length
    · rw [if_pos (.inr h3), if_neg (by simp; omega)]
    · rw [if_neg (by omega)]
      have hT : 0 ≤ v → textK ⟨kindL c, v⟩ = c :: itoa v := fun h0 => by
        unfold textK
        rw [if_neg (by simp; omega), if_neg (by simp; omega)]
        simp only [hl]
      have hT0 : v < 0 → textK ⟨kindL c, v⟩ = [] := fun h0 => by
        unfold textK
        rw [if_pos (by simp; omega)]
      rcases hv with hv | hv
      · have hn : num d = if itoa v = d then some v else none := by unfold num; rw [hv]
        rw [hn]
        by_cases hd : itoa v = d
        · rw [if_pos hd]
          simp only
          by_cases h0 : v < 0
          · rw [if_pos h0, hT0 h0, if_neg (by simp)]
          · rw [if_neg h0, hT (by omega), hd, if_pos ⟨rfl, by simp; omega⟩]
        · rw [if_neg hd]
          simp only
          rw [if_neg]
          rintro ⟨h1, _⟩
          by_cases h0 : v < 0
          · rw [hT0 h0] at h1; simp at h1
          · rw [hT (by omega)] at h1
            injection h1 with _ h1
            exact hd h1
      · have hn : num d = none := by
          unfold num
          split
          · rename_i u hu; exact absurd hu (hv u)
          · rfl
        rw [hn]
        simp only
        rw [if_neg]
        rintro ⟨h1, _⟩
        by_cases h0 : v < 0
        · rw [hT0 h0] at h1; simp at h1
        · rw [hT (by omega)] at h1
          injection h1 with _ h1
          rw [← h1] at hv
          exact hv v (parse_itoa v hi)
theorem colP_none {c : UInt8} {d : List UInt8} (hc : c ≠ 101) (hk : kindL c = 0) : colP (c :: d) = none := by rw [colP_cons, if_neg hc, if_pos (.inl hk)]
theorem colP_e (d : List UInt8) : colP (101 :: d) = if d = [] then some ⟨5, 0⟩ else none := by rw [colP_cons, if_pos rfl]
end Go.Viv
namespace Go.Proofs.YtmcigeebeoobdaaGreatDoor
open Go.RowKit Go.Viv
/-- A pair laid into a block of its own, the world behind it under a name. -/
theorem box2 (w : World) (t : TypeId) (a b : Value) : ∃ W1, W1 = w.alloc (.cells #[a, b] t) ∧ Hid (Fr (fun _ => False) w W1) ∧ (∀ d os, (Go.Sort.grow (redrawn W1 d) os).cell? ⟨w.heap.size, 0, none⟩ = some a) ∧ (∀ d os, (Go.Sort.grow (redrawn W1 d) os).cell? ⟨w.heap.size, 1, none⟩ = some b) :=
  ⟨_, rfl, Lib.hid (Fr.alloc1 _ _ _), fun d os => cell_regrown ((Blk.new w t #[a, b]).cell 0) d os, fun d os => cell_regrown ((Blk.new w t #[a, b]).cell 1) d os⟩
theorem join_any (ws : List (List UInt8)) (A : Option Addr) (cap : Nat) (w : World) (hr : RowC w A (cellsW ws)) (hcap : ws.length ≤ cap) (hN : ws.length ≤ 1000000000) (hl : (Lib.join ws [32]).length ≤ 140737488355328) :
    Calls Tryz.prog 106 #[.slice A ws.length cap, str [32]] w fun e w' => e = .returned (str (Lib.join ws [32])) ∧ Fr (fun _ => False) w w' := by
  rcases hr with hn | ⟨bk, o, hA, hbk, hcs⟩
  · have hw : ws = [] := by simpa [cellsW] using hn
    subst hw
    refine (Tryz.strings_Join_none A cap ⟨#[32]⟩ w).mono ?_
    rintro e w' ⟨rfl, rfl⟩
    exact ⟨rfl, Fr.refl _ _⟩
  · subst hA
    have hmap : (ws.map ((·.data.toList) ∘ fun l => (⟨l.toArray⟩ : ByteArray))) = ws := by
      conv => rhs; rw [← List.map_id ws]
      exact List.map_congr_left (fun _ _ => by simp)
    have hj := Tryz.strings_Join bk o cap (ws.map fun l => ⟨l.toArray⟩) ⟨#[32]⟩ w (fun j x hx => hcs j (.string x) (by
      rw [List.getElem?_map] at hx
      unfold cellsW
      rw [List.getElem?_map]
      cases h : ws[j]? with
      | none => rw [h] at hx; cases hx
      | some y => rw [h] at hx; obtain rfl := Option.some.inj hx; rfl)) hbk (by rw [List.length_map]; omega) (by rw [List.length_map]; exact hcap) (by
      rw [List.map_map, hmap]
      exact hl)
    rw [List.length_map, List.map_map, hmap] at hj
    refine hj.mono ?_
    rintro e w' ⟨rfl, hb⟩
    exact ⟨rfl, fr_below hb⟩
set_option maxRecDepth 100000 in
set_option maxHeartbeats 1000000 in
theorem coltext_any (x : Coln) (w : World) (he : EnvP w) (hi : inI x.c) : Calls Tryz.prog 105 #[x.agg] w fun e w' => e = .returned (str (textK x)) ∧ Fr (fun _ => False) w w' := by
  obtain ⟨k, c⟩ := x
  simp only at hi
  have HE := Lib.hid he
  have HI := Lib.hid hi
  clear he hi
  by_cases hno : k < 1 ∨ 5 < k ∨ c < 0
  · have HT := Lib.hid (show textK ⟨k, c⟩ = [] from by unfold textK; rw [if_pos hno])
    rcases Int.lt_or_le k 1 with h1 | h1
    · clear hno
      go_enter Tryz.func105, Tryz.ntmps105
      go_wp2
      go_ret
      exact ⟨by rw [HT.out]; rfl, Fr.alloc1 _ _ _⟩
    · rcases Int.lt_or_le 5 k with h5 | h5
      · clear hno
        go_enter Tryz.func105, Tryz.ntmps105
        go_wp2
        go_ret
        exact ⟨by rw [HT.out]; rfl, Fr.alloc1 _ _ _⟩
      · have h0 : c < 0 := by omega
        clear hno
        go_enter Tryz.func105, Tryz.ntmps105
        go_wp2
        go_ret
        exact ⟨by rw [HT.out]; rfl, Fr.alloc1 _ _ _⟩
  · have h1 : 1 ≤ k := by omega
    have h5 : k ≤ 5 := by omega
    have h0 : 0 ≤ c := by omega
    have HT := Lib.hid (show textK ⟨k, c⟩ = if k = 5 then [101] else letK k :: Lib.itoa c from by unfold textK; rw [if_neg hno])
    have hl := itoa_len HI.out
    have HS := Lib.hid (fun W (hW : Fr (fun _ => False) w W) => itoa_any c W (HE.out.fr hW) HI.out)
    obtain ⟨NA, hNA⟩ : ∃ l, Lib.itoa c = l := ⟨_, rfl⟩
    rw [hNA] at HT hl HS
    have m1 : ¬ 9223372036854775807 < 1 + NA.length := by omega
    clear hno hNA
    have hk : k = 5 ∨ k = 1 ∨ k = 2 ∨ k = 3 ∨ k = 4 := by omega
    rcases hk with rfl | rfl | rfl | rfl | rfl
    · go_enter Tryz.func105, Tryz.ntmps105
      go_wp2
      go_ret
      exact ⟨by rw [HT.out]; rfl, Fr.alloc1 _ _ _⟩
    all_goals
      go_enter Tryz.func105, Tryz.ntmps105
      go_wp2_with fail
      obtain ⟨W1, hW1, H1, k0, k1⟩ := box2 w 37 _ _
      rw [← hW1]
      clear hW1
      refine wp_region_quiet_below (by kernel_rfl) (by kernel_rfl) ?_
      repeat (first | go_big_quiet_step ((go_at_call 152; exact calls_reg (HS.out _ (fr_regrown H1.out _ _)))) | quiet_step ((go_at_call 152; exact calls_reg (HS.out _ (fr_regrown H1.out _ _)))))
      refine wpQuiet_nil ?_
      intro wq hq
      obtain ⟨pq, rfl⟩ := hq
      go_wp2
      go_ret
      exact ⟨by rw [HT.out]; rfl, fr_regrown H1.out _ _⟩
end Go.Proofs.YtmcigeebeoobdaaGreatDoor
end

/-
  Contracts of package plan: Text, col.
-/
section
namespace Go.Proofs.YtmcigeebeoobdaaGreatDoor
open Go.RowKit Go.Viv
attribute [local go_sem ↓] wp_appendV
theorem infoStr : (Tryz.prog.info? 9).map (fun i => (i.zero, i.size, i.bytes)) = some (some (.string ⟨#[]⟩), 1, 16) := by kernel_rfl
theorem infoCol : (Tryz.prog.info? 37).map (fun i => (i.zero, i.size, i.bytes)) = some (some (.agg #[.int .i64 0, .int .i64 0]), 2, 16) := by kernel_rfl
set_option maxRecDepth 100000 in
set_option maxHeartbeats 1000000 in
theorem planText_any (l : List Coln) (A : Option Addr) (cap : Nat) (w : World) (he : EnvP w) (hr : RowC w A (l.flatMap cellsK)) (hn : l.length ≤ cap) (_hc : cap ≤ 9223372036854775807) (hl : l.length ≤ 1000) (hi : ∀ x ∈ l, inI x.c) :
    Calls Tryz.prog 62 #[.slice A l.length cap] w fun e w' => e = .returned (str (textP l)) ∧ Fr (fun _ => False) w w' := by
  have HE := Lib.hid he
  have HR := Lib.hid hr
  have HI := Lib.hid hi
  obtain ⟨n, hnl⟩ : ∃ n, l.length = n := ⟨_, rfl⟩
  have HN := Lib.hid hnl
  rw [hnl] at hn hl ⊢
  clear he hr hi hnl
  go_enter Tryz.func62, Tryz.ntmps62
  go_wp2_with fail
  go_loopw [3, 5, 8] (fun v _ t wr => ∃ k : Nat, k ≤ n ∧ t = .int .i64 k ∧ wr.ownsRow w.heap.size 9 1 v k (cellsW ((l.take k).map textK)) ∧ Fr (fun _ => False) w wr) (fun _ _ t _ => n - (intOf t).toNat)
  case atStart => exact ⟨0, by omega, rfl, World.ownsRow_nil _ _ _ _, Fr.refl _ _⟩
  case round =>
    obtain ⟨k, hk, rfl, hown, hfr⟩ := hrel
    by_cases hlt : k < n
    · have hkl : k < l.length := by rw [HN.out]; exact hlt
      have hx : l[k]? = some l[k] := List.getElem?_eq_getElem hkl
      obtain ⟨b, o, rfl, hbw, d0, d1⟩ := rowK_at (HR.out.fr hfr) hx
      have hsn : (l.take (k + 1)).map textK = (l.take k).map textK ++ [textK l[k]] := by rw [List.take_succ_eq_append_getElem hkl, List.map_append]; rfl
      have hin := HI.out l[k] (List.getElem_mem hkl)
      obtain ⟨y, hy⟩ : ∃ y, l[k] = y := ⟨_, rfl⟩
      rw [hy] at hsn d0 d1 hin
      have HT := Lib.hid (fun W (hW : Fr (fun _ => False) w W) => coltext_any y W (HE.out.fr hW) hin)
      obtain ⟨X, hX⟩ : ∃ X, textK y = X := ⟨_, rfl⟩
      rw [hX] at hsn HT
      have HX := Lib.hid (And.intro hsn (And.intro hown hfr))
      clear hx hsn hown hfr hy hX hin hkl
      obtain ⟨wB, hwB⟩ : ∃ wB, wB = wr := ⟨wr, rfl⟩
      subst hwB
      go_wp2_with fail
      refine (HT.out _ (HX.out.2.2.alloc _)).mono ?_
      rintro e w2 ⟨rfl, hf2⟩
      have hf3 : Fr (fun _ => False) wB w2 := fr_two (Fr.alloc1 _ _ _) hf2
      obtain ⟨v2, w3, happ, hown3, hfr3⟩ := app_one (P := Tryz.prog) (T := 202) Tryz.underlying202 infoStr rfl (by omega) ((own_fr HX.out.2.1 hf3 (fun _ _ h => h)).alloc (.cells #[str X] 9)) (Blk.new w2 9 #[str X]) rfl (by simp [Value.oneCell']) (by unfold maxLen; omega) (by omega) (by have := (fr_two HX.out.2.2 hf3).size; simp; omega)
      have H3 := Lib.hid (And.intro hown3 (hfr3 w ((fr_two HX.out.2.2 hf3).alloc _) (Nat.le_refl _)))
      clear hown3 hfr3 hf3 hf2 d0 d1
      go_wp2
      go_roundw
      case rel => exact ⟨k + 1, by omega, by go_num, by rw [HX.out.1, cellsW_snoc]; exact H3.out.1, H3.out.2⟩
      case measure => simp [intOf]; omega
    · obtain rfl : k = n := by omega
      obtain ⟨A2, cap2, rfl, h1, h2, h3⟩ := rowC_of_own hown
      rw [List.take_of_length_le (by rw [HN.out]; exact Nat.le_refl _)] at h3
      have HJ := Lib.hid (show Calls Tryz.prog 106 #[.slice A2 k cap2, str [32]] wr fun e w' => e = .returned (str (textP l)) ∧ Fr (fun _ => False) wr w' from by
        have hlen : (l.map textK).length = k := by rw [List.length_map]; exact HN.out
        have := join_any (l.map textK) A2 cap2 wr h3 (by rw [hlen]; exact h1) (by rw [hlen]; omega) (by
          have := join_len (l.map textK) 22 (fun x hx => by
            obtain ⟨z, hz, rfl⟩ := List.mem_map.1 hx
            exact textK_le (HI.out z hz))
          rw [hlen] at this
          omega)
        rw [hlen] at this
        exact this)
      have HF := Lib.hid hfr
      clear hown hfr h1 h2 h3
      obtain ⟨wB, hwB⟩ : ∃ wB, wB = wr := ⟨wr, rfl⟩
      subst hwB
      go_wp2_with fail
      refine HJ.out.mono ?_
      rintro e w2 ⟨rfl, hf2⟩
      have H2 := Lib.hid hf2
      clear hf2
      go_wp2
      go_ret
      exact ⟨rfl, fr_two HF.out H2.out⟩
theorem atoi_any (d : List UInt8) (w : World) (he : EnvP w) (hd : d.length ≤ 281474976710655) : Calls Tryz.prog 151 #[str d] w fun e w' => ∃ v er, e = .returned (.tuple #[.int .i64 v, er]) ∧ Atoied d v ∧ Fr (fun _ => False) w w' := by
  have hs : (⟨d.toArray⟩ : ByteArray).size ≤ 281474976710656 := by rw [size_str]; omega
  cases hp : Lib.atoiAll (⟨d.toArray⟩ : ByteArray).data.toList
  · rename_i v
    refine (Tryz.strconv_Atoi_ok ⟨d.toArray⟩ (by omega) v hp w).mono ?_
    rintro e w' ⟨rfl, hw⟩
    have hp2 : Lib.parseIntB 64 d = .ok v := by rw [Lib.parseIntB_64, ← data_str d]; exact hp
    refine ⟨v, _, rfl, ⟨parse_in hp2, .inl hp2⟩, ?_⟩
    rcases hw with rfl | ⟨t, rfl⟩
    · exact Fr.refl _ _
    · exact fr_bytes _ _ _
  · obtain ⟨t, p, h2⟩ := he.es
    refine (Any.strconv_Atoi_syntax_var Tryz.laysC172 ⟨d.toArray⟩ hs hp t p w h2).mono ?_
    rintro e w' ⟨N, rfl, _, _, hb⟩
    refine ⟨0, _, rfl, ⟨by simp [inI], .inr (fun u hu => ?_)⟩, fr_below hb⟩
    rw [Lib.parseIntB_64, ← data_str d, hp] at hu
    cases hu
  · obtain ⟨t, p, h2⟩ := he.er
    refine (Any.strconv_Atoi_range_var Tryz.laysC172 ⟨d.toArray⟩ hs hp t p w h2).mono ?_
    rintro e w' ⟨N, rfl, _, _, hb⟩
    refine ⟨_, _, rfl, ⟨by unfold Lib.atoiSat inI; split <;> omega, .inr (fun u hu => ?_)⟩, fr_below hb⟩
    rw [Lib.parseIntB_64, ← data_str d, hp] at hu
    cases hu
/-- What col answers. -/
def ColA (l : List UInt8) (w : World) (e : Ending) (w' : World) : Prop := ∃ x : Coln, e = .returned (.tuple #[x.agg, .bool (colP l).isSome]) ∧ (∀ y, colP l = some y → y = x) ∧ Fr (fun _ => False) w w'
theorem zeroCol (w : World) : (zeroValue 37).run Tryz.prog w = .ok (.agg #[.int .i64 0, .int .i64 0]) w := by kernel_rfl
set_option maxRecDepth 100000 in
set_option maxHeartbeats 1000000 in
theorem col_nil (w : World) : Calls Tryz.prog 104 #[str []] w (ColA [] w) := by
  go_enter Tryz.func104, Tryz.ntmps104
  go_wp2
  refine bodyPost_ret (v := .tuple #[.agg #[.int .i64 0, .int .i64 0], .bool false]) (by simp [results, Tryz.results104, go_sem]) rfl ⟨⟨0, 0⟩, rfl, fun y hy => (by cases hy), ?_⟩
  exact Fr.alloc1 _ _ _
end Go.Proofs.YtmcigeebeoobdaaGreatDoor
end

/-
  Contracts of package plan: col.
-/
section
namespace Go.Viv
open Go.RowKit
theorem ext_one (c : UInt8) (d : List UInt8) : (ByteArray.mk (c :: d).toArray).extract 0 1 = ⟨#[c]⟩ := by rw [ext_list]; rfl
theorem ext_rest (c : UInt8) (d : List UInt8) : (ByteArray.mk (c :: d).toArray).extract 1 (d.length + 1) = ⟨d.toArray⟩ := by rw [ext_list]; simp
/-- What the walk of col has laid: the answer's block, the column's. -/
structure ColSt (w W : World) (t : TypeId) (g2 g4 : Nat) (k v : Int) : Prop where
  b2 : Blk W g2 t #[.int .i64 0, .int .i64 0]
  b4 : Blk W g4 t #[.int .i64 k, .int .i64 v]
  ne : g4 ≠ g2
  lo : w.heap.size ≤ g2
  fr : Fr (fun _ => False) w W
theorem ColSt.made (w : World) (t : TypeId) (k v : Int) : ColSt w ((w.alloc (.cells #[.int .i64 0, .int .i64 0] t)).alloc (.cells #[.int .i64 k, .int .i64 v] t)) t w.heap.size (w.heap.size + 1) k v :=
  ⟨(Blk.new w t _).alloc _, by have := Blk.new (w.alloc (.cells #[.int .i64 0, .int .i64 0] t)) t #[.int .i64 k, .int .i64 v]; simpa using this, by omega, Nat.le_refl _, (Fr.alloc1 _ _ _).alloc _⟩
theorem ColSt.on {w W W' : World} {t : TypeId} {g2 g4 : Nat} {k v : Int} (h : ColSt w W t g2 g4 k v) (hf : Fr (fun _ => False) W W') : ColSt w W' t g2 g4 k v :=
  ⟨h.b2.fr hf (fun h => h), h.b4.fr hf (fun h => h), h.ne, h.lo, fr_two h.fr hf⟩
theorem ColSt.put {w W : World} {t : TypeId} {g2 g4 : Nat} {k v : Int} (h : ColSt w W t g2 g4 k v) (u : Int) (hlo : w.heap.size ≤ g4) : ColSt w (W.setCell ⟨g4, 1, none⟩ (.int .i64 u)) t g2 g4 k u :=
  ⟨h.b2.far (by show g2 ≠ g4; exact Ne.symm h.ne) _, h.b4.set_ 1 _, h.ne, h.lo, h.fr.setCell (.inr hlo) _⟩
/-- The answer laid into its block. -/
theorem ColSt.done {W W' : World} {g2 : Nat} (hf : Fr (fun x => x = g2) W W') (a b : Value) : Fr (fun x => x = g2) W ((W'.setCell ⟨g2, 0, none⟩ a).setCell ⟨g2, 1, none⟩ b) :=
  (hf.setCell (.inl rfl) _).setCell (.inl rfl) _
end Go.Viv
namespace Go.Proofs.YtmcigeebeoobdaaGreatDoor
open Go.RowKit Go.Viv
set_option maxRecDepth 100000 in
set_option maxHeartbeats 2000000 in
theorem col_e (d : List UInt8) (w : World) (he : EnvP w) (hd : d.length ≤ 281474976710655) : Calls Tryz.prog 104 #[str (101 :: d)] w (ColA (101 :: d) w) := by
  have HI := Lib.hid (fun W => show Calls Tryz.prog 150 #[.string ⟨#[32, 114, 119, 109, 110, 101]⟩, .string ⟨#[101]⟩] W fun e w' => e = .returned (.int .i64 5) ∧ w' = W from Tryz.strings_Index_one ⟨#[32, 114, 119, 109, 110, 101]⟩ 101 W)
  have HT := Lib.hid (fun W (hW : Fr (fun _ => False) w W) => show Calls Tryz.prog 105 #[Coln.agg ⟨5, 0⟩] W fun e w' => e = .returned (str [101]) ∧ Fr (fun _ => False) W w' from coltext_any ⟨5, 0⟩ W (he.fr hW) (by simp [inI]))
  have HC := Lib.hid (colP_e d)
  have x1 := ext_one 101 d
  clear he
  go_enter Tryz.func104, Tryz.ntmps104
  go_wp2_with fail
  refine (HI.out _).mono ?_
  rintro e w1 ⟨rfl, rfl⟩
  go_wp2_with fail
  have hst := ColSt.made w 37 5 0
  obtain ⟨W, hW⟩ : ∃ W, W = (w.alloc (.cells #[.int .i64 0, .int .i64 0] 37)).alloc (.cells #[.int .i64 5, .int .i64 0] 37) := ⟨_, rfl⟩
  rw [← hW] at hst ⊢
  clear hW
  obtain ⟨g2, hg2⟩ : ∃ g, w.heap.size = g := ⟨_, rfl⟩
  obtain ⟨g4, hg4⟩ : ∃ g, w.heap.size + 1 = g := ⟨_, rfl⟩
  rw [hg4] at hst ⊢
  have hst2 : ColSt w W 37 g2 g4 5 0 := by rw [← hg2]; exact hst
  rw [hg2]
  clear hst hg2 hg4
  have q0 := cell_cl (S := fun x => x = g2) (show W.cell? ⟨g4, 0, none⟩ = some (.int .i64 (5)) from hst2.b4.cell 0) hst2.ne
  have q1 := cell_cl (S := fun x => x = g2) (show W.cell? ⟨g4, 1, none⟩ = some (.int .i64 (0)) from hst2.b4.cell 1) hst2.ne
  have lt2 := hst2.b2.lt
  have lt4 := hst2.b4.lt
  have HS := Lib.hid hst2
  clear hst2
  by_cases hd0 : d = []
  · subst hd0
    refine Mix.wp_region_mixS (S := fun w' => ∃ p : Cl (fun x => x = g2) W, w' = p.w) [(0, true), (1, true), (2, true), (3, true), (4, true), (5, true), (7, true), (6, false), (8, true), (9, true), (10, true), (11, true), (12, true), (13, true), (14, true), (15, false), (16, true)] (by kernel_rfl) (by kernel_rfl) (by intro c d v a w h; cases d <;> exact h) (cl_drew _ _) ?_
    repeat (refine Mix.mix_read rfl rfl ?_; (first | go_big_quiet_step (fail) | quiet_step (fail)); refine wpQuiet_nil ?_)
    refine Mix.mix_does rfl ?_
    go_wp2_with fail
    refine (HT.out _ (HS.out.fr.drew)).mono ?_
    rintro e w2 ⟨rfl, hf2⟩
    have hf3 : Fr (fun x => x = g2) W w2 := ((Fr.refl _ _).drew).trans hf2 (fun _ h => h.elim)
    have hst3 := (HS.out.on (Fr.refl _ _).drew).on hf2
    clear hf2
    have s0 : w2.cell? ⟨g2, 0, none⟩ = some (.int .i64 0) := hst3.b2.cell 0
    have s1 : w2.cell? ⟨g2, 1, none⟩ = some (.int .i64 0) := hst3.b2.cell 1
    have z0 := hst3.b2.frozen 0
    have z1 := hst3.b2.frozen 1
    have H3 := Lib.hid (And.intro hf3 hst3)
    clear hf3 hst3
    go_wp2_with fail
    refine behind_cl H3.out.1 ?_
    repeat (refine Mix.mix_read rfl rfl ?_; (first | go_big_quiet_step (fail) | quiet_step (fail)); refine wpQuiet_nil ?_)
    refine Mix.mix_does rfl ?_
    go_wp2_with fail
    refine behind_cl (ColSt.done H3.out.1 _ _) ?_
    repeat (refine Mix.mix_read rfl rfl ?_; (first | go_big_quiet_step (fail) | quiet_step (fail)); refine wpQuiet_nil ?_)
    refine Mix.mix_nil ?_
    go_wp2
    refine bodyPost_ret (v := .tuple #[.agg #[.int .i64 (5), .int .i64 (0)], .bool true]) (by simp [results, Tryz.results104, go_sem, s0, s1] <;> omega) rfl ⟨⟨5, 0⟩, ?_, ?_, ?_⟩
    · rw [HC.out]; rfl
    · intro y hy
      rw [HC.out] at hy
      exact (Option.some.inj hy).symm
    · exact H3.out.2.fr.setCell (.inr H3.out.2.lo) _ |>.setCell (.inr H3.out.2.lo) _
  · have hne : ([101] == (101 :: d)) = false := beq_eq_false_iff_ne.2 (fun h => hd0 (by injection h with _ h; exact h.symm))
    have hne2 : ([] == d) = false := beq_eq_false_iff_ne.2 (fun h => hd0 h.symm)
    have hne3 : ¬ [] = d := fun h => hd0 h.symm
    have HC2 := Lib.hid (show colP (101 :: d) = none from by rw [HC.out, if_neg hd0])
    clear hd0
    refine Mix.wp_region_mixS (S := fun w' => ∃ p : Cl (fun x => x = g2) W, w' = p.w) [(0, true), (1, true), (2, true), (3, true), (4, true), (5, true), (7, true), (6, false), (8, true), (9, true), (10, true), (11, true), (12, true), (13, true), (14, true), (15, false), (16, true)] (by kernel_rfl) (by kernel_rfl) (by intro c d v a w h; cases d <;> exact h) (cl_drew _ _) ?_
    repeat (refine Mix.mix_read rfl rfl ?_; (first | go_big_quiet_step (fail) | quiet_step (fail)); refine wpQuiet_nil ?_)
    refine Mix.mix_does rfl ?_
    go_wp2_with fail
    refine (HT.out _ (HS.out.fr.drew)).mono ?_
    rintro e w2 ⟨rfl, hf2⟩
    have hf3 : Fr (fun x => x = g2) W w2 := ((Fr.refl _ _).drew).trans hf2 (fun _ h => h.elim)
    have hst3 := (HS.out.on (Fr.refl _ _).drew).on hf2
    clear hf2
    have s0 : w2.cell? ⟨g2, 0, none⟩ = some (.int .i64 0) := hst3.b2.cell 0
    have s1 : w2.cell? ⟨g2, 1, none⟩ = some (.int .i64 0) := hst3.b2.cell 1
    have z0 := hst3.b2.frozen 0
    have z1 := hst3.b2.frozen 1
    have H3 := Lib.hid (And.intro hf3 hst3)
    clear hf3 hst3
    go_wp2_with fail
    refine behind_cl H3.out.1 ?_
    repeat (refine Mix.mix_read rfl rfl ?_; (first | go_big_quiet_step (fail) | quiet_step (fail)); refine wpQuiet_nil ?_)
    refine Mix.mix_does rfl ?_
    go_wp2_with fail
    refine behind_cl (ColSt.done H3.out.1 _ _) ?_
    repeat (refine Mix.mix_read rfl rfl ?_; (first | go_big_quiet_step (fail) | quiet_step (fail)); refine wpQuiet_nil ?_)
    refine Mix.mix_nil ?_
    go_wp2
    refine bodyPost_ret (v := .tuple #[.agg #[.int .i64 (5), .int .i64 (0)], .bool false]) (by simp [results, Tryz.results104, go_sem, s0, s1] <;> omega) rfl ⟨⟨5, 0⟩, ?_, ?_, ?_⟩
    · rw [HC2.out]; rfl
    · intro y hy
      rw [HC2.out] at hy
      cases hy
    · exact H3.out.2.fr.setCell (.inr H3.out.2.lo) _ |>.setCell (.inr H3.out.2.lo) _
set_option maxRecDepth 100000 in
set_option maxHeartbeats 2000000 in
theorem col_no (c : UInt8) (d : List UInt8) (kx : Int) (w : World) (he : EnvP w) (hd : d.length ≤ 281474976710655) (hkx : idxL c = kx) (h1 : kx < 1) (hn : colP (c :: d) = none) : Calls Tryz.prog 104 #[str (c :: d)] w (ColA (c :: d) w) := by
  have HE := Lib.hid he
  have HI := Lib.hid (fun W => show Calls Tryz.prog 150 #[.string ⟨#[32, 114, 119, 109, 110, 101]⟩, .string ⟨#[c]⟩] W fun e w' => e = .returned (.int .i64 kx) ∧ w' = W from by rw [← hkx]; exact Tryz.strings_Index_one ⟨#[32, 114, 119, 109, 110, 101]⟩ c W)
  have HA := Lib.hid (fun W (hW : Fr (fun _ => False) w W) => atoi_any d W (he.fr hW) hd)
  have x1 := ext_one c d
  have x2 := ext_rest c d
  clear he hkx
  have HN := Lib.hid hn
  have h1d : decide (1 ≤ kx) = false := by simp; omega
  clear hn
  go_enter Tryz.func104, Tryz.ntmps104
  go_wp2_with fail
  refine (HI.out _).mono ?_
  rintro e w1 ⟨rfl, rfl⟩
  go_wp2_with fail
  have hst := ColSt.made w 37 kx 0
  refine (HA.out _ hst.fr).mono ?_
  rintro e w3 ⟨v, er, rfl, hat, hf3⟩
  have hst1 := hst.on hf3
  have y0 : w3.cell? ⟨w.heap.size + 1, 1, none⟩ = some (.int .i64 0) := hst1.b4.cell 1
  have y1 := hst1.b4.frozen 1
  have hst4 := hst1.put v (by omega)
  have HAT := Lib.hid hat
  clear hst hst1 hf3 hat
  go_wp2_with fail
  clear y0 y1
  obtain ⟨W, hW⟩ : ∃ W, W = w3.setCell ⟨w.heap.size + 1, 1, none⟩ (.int .i64 v) := ⟨_, rfl⟩
  rw [← hW] at hst4 ⊢
  clear hW
  obtain ⟨g2, hg2⟩ : ∃ g, w.heap.size = g := ⟨_, rfl⟩
  obtain ⟨g4, hg4⟩ : ∃ g, w.heap.size + 1 = g := ⟨_, rfl⟩
  rw [hg4] at hst4 ⊢
  have hst2 : ColSt w W 37 g2 g4 kx v := by rw [← hg2]; exact hst4
  rw [hg2]
  clear hst4 hg2 hg4
  have q0 := cell_cl (S := fun x => x = g2) (show W.cell? ⟨g4, 0, none⟩ = some (.int .i64 (kx)) from hst2.b4.cell 0) hst2.ne
  have q1 := cell_cl (S := fun x => x = g2) (show W.cell? ⟨g4, 1, none⟩ = some (.int .i64 (v)) from hst2.b4.cell 1) hst2.ne
  have lt2 := hst2.b2.lt
  have lt4 := hst2.b4.lt
  have HS := Lib.hid hst2
  clear hst2
  refine Mix.wp_region_mixS (S := fun w' => ∃ p : Cl (fun x => x = g2) W, w' = p.w) [(0, true), (1, true), (2, true), (3, true), (4, true), (5, true), (7, true), (6, false), (8, true), (9, true), (10, true), (11, true), (12, true), (13, true), (14, true), (15, false), (16, true)] (by kernel_rfl) (by kernel_rfl) (by intro c d v a w h; cases d <;> exact h) (cl_drew _ _) ?_
  repeat (refine Mix.mix_read rfl rfl ?_; (first | go_big_quiet_step (fail) | quiet_step (fail)); refine wpQuiet_nil ?_)
  refine Mix.mix_does rfl ?_
  go_wp2_with fail
  obtain ⟨w2, hw2⟩ : ∃ w2, w2 = W.drew := ⟨_, rfl⟩
  rw [← hw2]
  have hf3 : Fr (fun x => x = g2) W w2 := by rw [hw2]; exact (Fr.refl _ _).drew
  have hst3 : ColSt w w2 37 g2 g4 (kx) (v) := by rw [hw2]; exact HS.out.on (Fr.refl _ _).drew
  clear hw2
  have s0 : w2.cell? ⟨g2, 0, none⟩ = some (.int .i64 0) := hst3.b2.cell 0
  have s1 : w2.cell? ⟨g2, 1, none⟩ = some (.int .i64 0) := hst3.b2.cell 1
  have z0 := hst3.b2.frozen 0
  have z1 := hst3.b2.frozen 1
  have H3 := Lib.hid (And.intro hf3 hst3)
  clear hf3 hst3
  refine behind_cl H3.out.1 ?_
  repeat (refine Mix.mix_read rfl rfl ?_; (first | go_big_quiet_step (fail) | quiet_step (fail)); refine wpQuiet_nil ?_)
  refine Mix.mix_does rfl ?_
  go_wp2_with fail
  refine behind_cl (ColSt.done H3.out.1 _ _) ?_
  repeat (refine Mix.mix_read rfl rfl ?_; (first | go_big_quiet_step (fail) | quiet_step (fail)); refine wpQuiet_nil ?_)
  refine Mix.mix_nil ?_
  go_wp2
  refine bodyPost_ret (v := .tuple #[.agg #[.int .i64 (kx), .int .i64 (v)], .bool false]) (by simp [results, Tryz.results104, go_sem, s0, s1] <;> omega) rfl ⟨⟨kx, v⟩, ?_, ?_, ?_⟩
  · rw [HN.out]; rfl
  · intro y hy
    rw [HN.out] at hy
    cases hy
  · exact H3.out.2.fr.setCell (.inr H3.out.2.lo) _ |>.setCell (.inr H3.out.2.lo) _
set_option maxRecDepth 100000 in
set_option maxHeartbeats 2000000 in
theorem col_yes (c : UInt8) (d : List UInt8) (kx : Int) (w : World) (he : EnvP w) (hd : d.length ≤ 281474976710655) (hkx : idxL c = kx) (h1 : 1 ≤ kx) (h4 : kx ≤ 4) (hc : c ≠ 101) (hk : kindL c = kx) : Calls Tryz.prog 104 #[str (c :: d)] w (ColA (c :: d) w) := by
  have HE := Lib.hid he
  have HI := Lib.hid (fun W => show Calls Tryz.prog 150 #[.string ⟨#[32, 114, 119, 109, 110, 101]⟩, .string ⟨#[c]⟩] W fun e w' => e = .returned (.int .i64 kx) ∧ w' = W from by rw [← hkx]; exact Tryz.strings_Index_one ⟨#[32, 114, 119, 109, 110, 101]⟩ c W)
  have HA := Lib.hid (fun W (hW : Fr (fun _ => False) w W) => atoi_any d W (he.fr hW) hd)
  have x1 := ext_one c d
  have x2 := ext_rest c d
  clear he hkx
  have HK := Lib.hid (And.intro hc hk)
  clear hc hk
  go_enter Tryz.func104, Tryz.ntmps104
  go_wp2_with fail
  refine (HI.out _).mono ?_
  rintro e w1 ⟨rfl, rfl⟩
  go_wp2_with fail
  have hst := ColSt.made w 37 kx 0
  refine (HA.out _ hst.fr).mono ?_
  rintro e w3 ⟨v, er, rfl, hat, hf3⟩
  have hst1 := hst.on hf3
  have y0 : w3.cell? ⟨w.heap.size + 1, 1, none⟩ = some (.int .i64 0) := hst1.b4.cell 1
  have y1 := hst1.b4.frozen 1
  have hst4 := hst1.put v (by omega)
  have HAT := Lib.hid hat
  clear hst hst1 hf3 hat
  go_wp2_with fail
  clear y0 y1
  obtain ⟨W, hW⟩ : ∃ W, W = w3.setCell ⟨w.heap.size + 1, 1, none⟩ (.int .i64 v) := ⟨_, rfl⟩
  rw [← hW] at hst4 ⊢
  clear hW
  obtain ⟨g2, hg2⟩ : ∃ g, w.heap.size = g := ⟨_, rfl⟩
  obtain ⟨g4, hg4⟩ : ∃ g, w.heap.size + 1 = g := ⟨_, rfl⟩
  rw [hg4] at hst4 ⊢
  have hst2 : ColSt w W 37 g2 g4 kx v := by rw [← hg2]; exact hst4
  rw [hg2]
  clear hst4 hg2 hg4
  have q0 := cell_cl (S := fun x => x = g2) (show W.cell? ⟨g4, 0, none⟩ = some (.int .i64 (kx)) from hst2.b4.cell 0) hst2.ne
  have q1 := cell_cl (S := fun x => x = g2) (show W.cell? ⟨g4, 1, none⟩ = some (.int .i64 (v)) from hst2.b4.cell 1) hst2.ne
  have lt2 := hst2.b2.lt
  have lt4 := hst2.b4.lt
  have HS := Lib.hid hst2
  clear hst2
  have hcp := colP_told HK.out.1 (by rw [HK.out.2]; exact h1) HAT.out
  rw [HK.out.2] at hcp
  have HT := Lib.hid (fun W (hW : Fr (fun _ => False) w W) => coltext_any ⟨kx, v⟩ W (HE.out.fr hW) HAT.out.1)
  obtain ⟨T, hT⟩ : ∃ T, textK ⟨kx, v⟩ = T := ⟨_, rfl⟩
  rw [hT] at hcp HT
  clear hT
  by_cases ht : T = c :: d
  · subst ht
    by_cases hl : (c :: d).length ≤ 4
    · have hl2 : (d.length : Int) + 1 ≤ 4 := by simp at hl; omega
      have hl3 : d.length + 1 ≤ 4 := by simp at hl; omega
      have HC := Lib.hid (show colP (c :: d) = some ⟨kx, v⟩ from by rw [hcp, if_pos ⟨rfl, hl⟩])
      clear hcp hl
      refine Mix.wp_region_mixS (S := fun w' => ∃ p : Cl (fun x => x = g2) W, w' = p.w) [(0, true), (1, true), (2, true), (3, true), (4, true), (5, true), (7, true), (6, false), (8, true), (9, true), (10, true), (11, true), (12, true), (13, true), (14, true), (15, false), (16, true)] (by kernel_rfl) (by kernel_rfl) (by intro c d v a w h; cases d <;> exact h) (cl_drew _ _) ?_
      repeat (refine Mix.mix_read rfl rfl ?_; (first | go_big_quiet_step (fail) | quiet_step (fail)); refine wpQuiet_nil ?_)
      refine Mix.mix_does rfl ?_
      go_wp2_with fail
      refine (HT.out _ (HS.out.fr.drew)).mono ?_
      rintro e w2 ⟨rfl, hf2⟩
      have hf3 : Fr (fun x => x = g2) W w2 := ((Fr.refl _ _).drew).trans hf2 (fun _ h => h.elim)
      have hst3 := (HS.out.on (Fr.refl _ _).drew).on hf2
      clear hf2
      have s0 : w2.cell? ⟨g2, 0, none⟩ = some (.int .i64 0) := hst3.b2.cell 0
      have s1 : w2.cell? ⟨g2, 1, none⟩ = some (.int .i64 0) := hst3.b2.cell 1
      have z0 := hst3.b2.frozen 0
      have z1 := hst3.b2.frozen 1
      have H3 := Lib.hid (And.intro hf3 hst3)
      clear hf3 hst3
      go_wp2_with fail
      refine behind_cl H3.out.1 ?_
      repeat (refine Mix.mix_read rfl rfl ?_; (first | go_big_quiet_step (fail) | quiet_step (fail)); refine wpQuiet_nil ?_)
      refine Mix.mix_does rfl ?_
      go_wp2_with fail
      refine behind_cl (ColSt.done H3.out.1 _ _) ?_
      repeat (refine Mix.mix_read rfl rfl ?_; (first | go_big_quiet_step (fail) | quiet_step (fail)); refine wpQuiet_nil ?_)
      refine Mix.mix_nil ?_
      go_wp2
      refine bodyPost_ret (v := .tuple #[.agg #[.int .i64 (kx), .int .i64 (v)], .bool true]) (by simp [results, Tryz.results104, go_sem, s0, s1] <;> omega) rfl ⟨⟨kx, v⟩, ?_, ?_, ?_⟩
      · rw [HC.out]; rfl
      · intro y hy
        rw [HC.out] at hy
        exact (Option.some.inj hy).symm
      · exact H3.out.2.fr.setCell (.inr H3.out.2.lo) _ |>.setCell (.inr H3.out.2.lo) _
    · have hl2 : ¬ (d.length : Int) + 1 ≤ 4 := by simp at hl; omega
      have hl3 : ¬ d.length + 1 ≤ 4 := by simp at hl; omega
      have HC := Lib.hid (show colP (c :: d) = none from by rw [hcp, if_neg (fun h => hl h.2)])
      clear hcp hl
      refine Mix.wp_region_mixS (S := fun w' => ∃ p : Cl (fun x => x = g2) W, w' = p.w) [(0, true), (1, true), (2, true), (3, true), (4, true), (5, true), (7, true), (6, false), (8, true), (9, true), (10, true), (11, true), (12, true), (13, true), (14, true), (15, false), (16, true)] (by kernel_rfl) (by kernel_rfl) (by intro c d v a w h; cases d <;> exact h) (cl_drew _ _) ?_
      repeat (refine Mix.mix_read rfl rfl ?_; (first | go_big_quiet_step (fail) | quiet_step (fail)); refine wpQuiet_nil ?_)
      refine Mix.mix_does rfl ?_
      go_wp2_with fail
      refine (HT.out _ (HS.out.fr.drew)).mono ?_
      rintro e w2 ⟨rfl, hf2⟩
      have hf3 : Fr (fun x => x = g2) W w2 := ((Fr.refl _ _).drew).trans hf2 (fun _ h => h.elim)
      have hst3 := (HS.out.on (Fr.refl _ _).drew).on hf2
      clear hf2
      have s0 : w2.cell? ⟨g2, 0, none⟩ = some (.int .i64 0) := hst3.b2.cell 0
      have s1 : w2.cell? ⟨g2, 1, none⟩ = some (.int .i64 0) := hst3.b2.cell 1
      have z0 := hst3.b2.frozen 0
      have z1 := hst3.b2.frozen 1
      have H3 := Lib.hid (And.intro hf3 hst3)
      clear hf3 hst3
      go_wp2_with fail
      refine behind_cl H3.out.1 ?_
      repeat (refine Mix.mix_read rfl rfl ?_; (first | go_big_quiet_step (fail) | quiet_step (fail)); refine wpQuiet_nil ?_)
      refine Mix.mix_does rfl ?_
      go_wp2_with fail
      refine behind_cl (ColSt.done H3.out.1 _ _) ?_
      repeat (refine Mix.mix_read rfl rfl ?_; (first | go_big_quiet_step (fail) | quiet_step (fail)); refine wpQuiet_nil ?_)
      refine Mix.mix_nil ?_
      go_wp2
      refine bodyPost_ret (v := .tuple #[.agg #[.int .i64 (kx), .int .i64 (v)], .bool false]) (by simp [results, Tryz.results104, go_sem, s0, s1] <;> omega) rfl ⟨⟨kx, v⟩, ?_, ?_, ?_⟩
      · rw [HC.out]; rfl
      · intro y hy
        rw [HC.out] at hy
        cases hy
      · exact H3.out.2.fr.setCell (.inr H3.out.2.lo) _ |>.setCell (.inr H3.out.2.lo) _
  · have HC := Lib.hid (show colP (c :: d) = none from by rw [hcp, if_neg (fun h => ht h.1)])
    have ht2 : (T == c :: d) = false := beq_eq_false_iff_ne.2 ht
    clear hcp
    refine Mix.wp_region_mixS (S := fun w' => ∃ p : Cl (fun x => x = g2) W, w' = p.w) [(0, true), (1, true), (2, true), (3, true), (4, true), (5, true), (7, true), (6, false), (8, true), (9, true), (10, true), (11, true), (12, true), (13, true), (14, true), (15, false), (16, true)] (by kernel_rfl) (by kernel_rfl) (by intro c d v a w h; cases d <;> exact h) (cl_drew _ _) ?_
    repeat (refine Mix.mix_read rfl rfl ?_; (first | go_big_quiet_step (fail) | quiet_step (fail)); refine wpQuiet_nil ?_)
    refine Mix.mix_does rfl ?_
    go_wp2_with fail
    refine (HT.out _ (HS.out.fr.drew)).mono ?_
    rintro e w2 ⟨rfl, hf2⟩
    have hf3 : Fr (fun x => x = g2) W w2 := ((Fr.refl _ _).drew).trans hf2 (fun _ h => h.elim)
    have hst3 := (HS.out.on (Fr.refl _ _).drew).on hf2
    clear hf2
    have s0 : w2.cell? ⟨g2, 0, none⟩ = some (.int .i64 0) := hst3.b2.cell 0
    have s1 : w2.cell? ⟨g2, 1, none⟩ = some (.int .i64 0) := hst3.b2.cell 1
    have z0 := hst3.b2.frozen 0
    have z1 := hst3.b2.frozen 1
    have H3 := Lib.hid (And.intro hf3 hst3)
    clear hf3 hst3
    go_wp2_with fail
    refine behind_cl H3.out.1 ?_
    repeat (refine Mix.mix_read rfl rfl ?_; (first | go_big_quiet_step (fail) | quiet_step (fail)); refine wpQuiet_nil ?_)
    refine Mix.mix_does rfl ?_
    go_wp2_with fail
    refine behind_cl (ColSt.done H3.out.1 _ _) ?_
    repeat (refine Mix.mix_read rfl rfl ?_; (first | go_big_quiet_step (fail) | quiet_step (fail)); refine wpQuiet_nil ?_)
    refine Mix.mix_nil ?_
    go_wp2
    refine bodyPost_ret (v := .tuple #[.agg #[.int .i64 (kx), .int .i64 (v)], .bool false]) (by simp [results, Tryz.results104, go_sem, s0, s1] <;> omega) rfl ⟨⟨kx, v⟩, ?_, ?_, ?_⟩
    · rw [HC.out]; rfl
    · intro y hy
      rw [HC.out] at hy
      cases hy
    · exact H3.out.2.fr.setCell (.inr H3.out.2.lo) _ |>.setCell (.inr H3.out.2.lo) _
theorem col_any (l : List UInt8) (w : World) (he : EnvP w) (hd : l.length ≤ 281474976710655) : Calls Tryz.prog 104 #[str l] w (ColA l w) := by
  cases l with
  | nil => exact col_nil w
  | cons c d =>
    have hd' : d.length ≤ 281474976710655 := by simp at hd; omega
    by_cases hc : c = 101
    · subst hc; exact col_e d w he hd'
    · rcases idxL_kind hc with ⟨h0, hx⟩ | ⟨h1, h4, hx⟩
      · exact col_no c d _ w he hd' rfl (by omega) (colP_none hc h0)
      · exact col_yes c d _ w he hd' hx h1 h4 hc rfl
end Go.Proofs.YtmcigeebeoobdaaGreatDoor
end

/-
  Contracts of package plan: Parse; the plan laws' awake.
-/
section
namespace Go.Viv
open Go.Lib Go.RowKit
/-- The words of a text, parted at single blanks. -/
def wordsB (l : List UInt8) : List (List UInt8) := (Lib.splitB ⟨#[32]⟩ 0 (Lib.countB ⟨l.toArray⟩ ⟨#[32]⟩) ⟨l.toArray⟩).map (·.data.toList)
theorem words_str (l : List UInt8) : ((Lib.splitB ⟨#[32]⟩ 0 (Lib.countB ⟨l.toArray⟩ ⟨#[32]⟩) ⟨l.toArray⟩).map Value.string) = cellsW (wordsB l) := by
  unfold cellsW wordsB
  rw [List.map_map]
  apply List.map_congr_left
  intro x _
  simp
theorem words_len (l : List UInt8) : (wordsB l).length = Lib.countB ⟨l.toArray⟩ ⟨#[32]⟩ + 1 := by
  unfold wordsB
  rw [List.length_map]
  exact Lib.splitB_all ⟨#[32]⟩ (by decide) 0 _ _ rfl
theorem words_wds (l : List UInt8) : wordsB l = wds 32 l := by
  unfold wordsB
  rw [Lib.splitB_data, ← split_wds]
  rfl
theorem glue_len (p : List UInt8) (ws : List (List UInt8)) (n : Nat) (hp : p.length + n ≤ n + p.length) (h : ∀ x ∈ ws, x.length ≤ n) : ∀ x ∈ glue p ws, x.length ≤ n + p.length := by
  intro x hx
  cases ws with
  | nil => simp [glue] at hx; subst hx; omega
  | cons y r =>
    simp [glue] at hx
    rcases hx with rfl | hx
    · have := h y (by simp); simp; omega
    · have := h x (by simp [hx]); omega
theorem wds_each (b : UInt8) : ∀ l : List UInt8, ∀ x ∈ wds b l, x.length ≤ l.length
  | [], x, hx => by simp [wds] at hx; subst hx; simp
  | c :: r, x, hx => by
    have ih := wds_each b r
    unfold wds at hx
    split at hx
    · rcases List.mem_cons.1 hx with rfl | hx
      · simp
      · have := ih x hx; simp; omega
    · have := glue_len [c] (wds b r) r.length (by omega) ih x hx
      simpa using this
theorem mapM_step {ws : List (List UInt8)} {k : Nat} (hk : k < ws.length) {ds : List Coln} (h : (ws.take k).mapM colP = some ds) : (ws.take (k + 1)).mapM colP = (colP ws[k]).map (fun x => ds ++ [x]) := by
  rw [List.take_succ_eq_append_getElem hk, List.mapM_append, h]
  cases hc : colP ws[k] with
  | none => simp [hc]
  | some x => simp [hc]
theorem mapM_none {ws : List (List UInt8)} {k : Nat} (hk : k < ws.length) {ds : List Coln} (h : (ws.take k).mapM colP = some ds) (hc : colP ws[k] = none) : ws.mapM colP = none := by
  have h1 := mapM_step hk h
  rw [hc] at h1
  rw [← List.take_append_drop (k + 1) ws, List.mapM_append, h1]
  rfl
theorem mapM_len {ws : List (List UInt8)} {ds : List Coln} (h : ws.mapM colP = some ds) : ds.length = ws.length := by
  have := mapM_text ws ds h
  rw [← this, List.length_map]
theorem flatK_snoc (ds : List Coln) (x : Coln) : (ds ++ [x]).flatMap cellsK = ds.flatMap cellsK ++ [.int .i64 x.k, .int .i64 x.c] := by simp [cellsK]
/-- What Parse answers. -/
def ParseA (l : List UInt8) (w : World) (e : Ending) (w' : World) : Prop := ∃ A cap p er, e = .returned (.tuple #[.slice A p.length cap, .int .i64 er]) ∧ p.length ≤ cap ∧ cap ≤ maxLen ∧ RowC w' A (p.flatMap cellsK) ∧ ((planP l = some p ∧ er = 0) ∨ (planP l = none ∧ p = [] ∧ er = 16)) ∧ Fr (fun _ => False) w w'
end Go.Viv
namespace Go.Proofs.YtmcigeebeoobdaaGreatDoor
open Go.RowKit Go.Viv
attribute [local go_sem ↓] wp_appendV
theorem split_any (l : List UInt8) (w : World) (he : EnvP w) (hl : l.length < 4294967281) : Calls Tryz.prog 103 #[str l, .string ⟨#[32]⟩] w fun e w' => e = .returned (.slice (some ⟨w.heap.size, 0, none⟩) (wds 32 l).length (wds 32 l).length) ∧ w' = w.alloc (.cells (cellsW (wds 32 l)).toArray 9) := by
  obtain ⟨m, hm⟩ := he.max
  have h := Tryz.strings_Split ⟨l.toArray⟩ ⟨#[32]⟩ m w (by rw [size_str]; exact hl) hm (by decide)
  rw [words_str, ← words_len, words_wds] at h
  exact h
set_option maxRecDepth 100000 in
set_option maxHeartbeats 1000000 in
theorem planParse_any (l : List UInt8) (w : World) (he : EnvP w) (hl : l.length < 4294967281) : Calls Tryz.prog 61 #[str l] w (ParseA l w) := by
  cases l with
  | nil =>
    go_enter Tryz.func61, Tryz.ntmps61
    go_wp2
    go_ret2
    exact ⟨none, 0, [], 0, rfl, Nat.le_refl _, Nat.zero_le _, .inl rfl, .inl ⟨rfl, rfl⟩, Fr.refl _ _⟩
  | cons c d =>
    have HE := Lib.hid he
    have HS := Lib.hid (split_any (c :: d) w he hl)
    have HW := Lib.hid (wds_each 32 (c :: d))
    have HP := Lib.hid (show planP (c :: d) = if 100 < (wds 32 (c :: d)).length then none else (wds 32 (c :: d)).mapM colP from by unfold planP; rw [if_neg (by simp)])
    have hwl := wds_len 32 (c :: d)
    have HL := Lib.hid hl
    obtain ⟨ws, hws⟩ : ∃ ws, wds 32 (c :: d) = ws := ⟨_, rfl⟩
    rw [hws] at HS HW HP hwl
    obtain ⟨n, hnl⟩ : ∃ n, ws.length = n := ⟨_, rfl⟩
    have HN := Lib.hid hnl
    rw [hnl] at HS HP hwl
    obtain ⟨L, hL⟩ : ∃ L, (c :: d) = L := ⟨_, rfl⟩
    rw [hL] at HS HW HP HL hwl hl ⊢
    have hne : (L == []) = false := by rw [← hL]; rfl
    have hne2 : ¬ L = [] := by rw [← hL]; simp
    clear he hws hnl hL
    by_cases h100 : 100 < n
    · have h100' : (100 : Int) < n := by omega
      have HPP := Lib.hid (show planP L = none from by rw [HP.out, if_pos h100])
      go_enter Tryz.func61, Tryz.ntmps61
      go_wp2_with fail
      refine HS.out.mono ?_
      rintro e w1 ⟨rfl, rfl⟩
      go_wp2
      go_ret2
      exact ⟨none, 0, [], 16, rfl, Nat.le_refl _, Nat.zero_le _, .inl rfl, .inr ⟨HPP.out, rfl, rfl⟩, Fr.alloc1 _ _ _⟩
    · have h100' : (n : Int) ≤ 100 := by omega
      have hle : n ≤ 100 := by omega
      have HPP := Lib.hid (show planP L = ws.mapM colP from by rw [HP.out, if_neg h100])
      clear h100
      go_enter Tryz.func61, Tryz.ntmps61
      go_wp2_with fail
      refine HS.out.mono ?_
      rintro e w1 ⟨rfl, hw1⟩
      have hb1 : Blk w1 w.heap.size 9 (cellsW ws).toArray := by rw [hw1]; exact Blk.new _ _ _
      have hf1 : Fr (fun _ => False) w w1 := by rw [hw1]; exact Fr.alloc1 _ _ _
      have H1 := Lib.hid (And.intro hb1 hf1)
      clear hw1 hb1 hf1
      obtain ⟨g, hg⟩ : ∃ g, w.heap.size = g := ⟨_, rfl⟩
      have HG := Lib.hid hg
      rw [hg] at H1 ⊢
      clear hg
      go_wp2_with fail
      go_loopw [5, 7, 8, 9, 19] (fun v _ _ _ t wr => ∃ (k : Nat) (ds : List Coln), k ≤ n ∧ t = .int .i64 k ∧ (ws.take k).mapM colP = some ds ∧ ds.length ≤ k ∧ wr.ownsRow w1.heap.size 37 2 v ds.length (ds.flatMap cellsK) ∧ Fr (fun _ => False) w1 wr) (fun _ _ _ _ t _ => n - (intOf t).toNat)
      case atStart => exact ⟨0, [], by omega, rfl, rfl, by simp, World.ownsRow_nil _ _ _ _, Fr.refl _ _⟩
      case round =>
        obtain ⟨k, ds, hk, rfl, hmap, hdk, hown, hfr⟩ := hrel
        by_cases hlt : k < n
        · have hkl : k < ws.length := by rw [HN.out]; exact hlt
          have hcell : wr.cell? ⟨g, k, none⟩ = some (str ws[k]) := by
            rw [(H1.out.1.fr hfr (fun h => h)).cell k]
            simp [cellsW, hkl]
          have hs := mapM_step hkl hmap
          have hs0 := mapM_none hkl hmap
          have hxl := HW.out ws[k] (List.getElem_mem hkl)
          obtain ⟨x, hx⟩ : ∃ x, ws[k] = x := ⟨_, rfl⟩
          rw [hx] at hcell hs hs0 hxl
          have HC := Lib.hid (col_any x wr (HE.out.fr (fr_two H1.out.2 hfr)) (by have := HL.out; omega))
          have ltg : g < wr.heap.size := lt_cell hcell
          have HX := Lib.hid (And.intro hs (And.intro hs0 (And.intro hown hfr)))
          clear hs hs0 hown hfr hx hkl hmap hxl
          obtain ⟨wB, hwB⟩ : ∃ wB, wB = wr := ⟨wr, rfl⟩
          subst hwB
          go_wp2_with fail
          refine HC.out.mono ?_
          rintro e w2 ⟨y, rfl, hy, hf2⟩
          have HY := Lib.hid hy
          cases hc : colP x with
          | none =>
            have HNO := Lib.hid (HX.out.2.1 hc)
            have H2 := Lib.hid hf2
            clear hc hy hf2
            go_wp2
            go_ret2
            exact ⟨none, 0, [], 16, rfl, Nat.le_refl _, Nat.zero_le _, .inl rfl, .inr ⟨by rw [HPP.out]; exact HNO.out, rfl, rfl⟩, (fr_two (fr_two H1.out.2 HX.out.2.2.2) H2.out).alloc _⟩
          | some z =>
            obtain rfl := hy z hc
            have hs := HX.out.1
            rw [hc] at hs
            have hf3 : Fr (fun _ => False) w1 (w2.alloc (.cells #[.int .i64 z.k, .int .i64 z.c] 37)) := (fr_two HX.out.2.2.2 hf2).alloc _
            obtain ⟨v2, w3, happ, hown3, hfr3⟩ := app_one (P := Tryz.prog) (T := 34) Tryz.underlying34 infoCol rfl (by omega) ((own_fr HX.out.2.2.1 (hf2.alloc (.cells #[.int .i64 z.k, .int .i64 z.c] 37)) (fun _ _ h => h)).alloc (.cells #[.int .i64 z.k, .int .i64 z.c] 37)) (Blk.new _ 37 #[.int .i64 z.k, .int .i64 z.c]) rfl (by simp [Value.oneCell']) (by unfold maxLen; omega) (by omega) (by have := hf3.size; simp at this ⊢; omega)
            rw [show (w2.alloc (.cells #[.int .i64 z.k, .int .i64 z.c] 37)).heap.size = w2.heap.size + 1 from by simp] at happ
            have H3 := Lib.hid (And.intro hs (And.intro hown3 (hfr3 w1 (hf3.alloc _) (Nat.le_refl _))))
            clear hown3 hfr3 hf3 hf2 hcell hs hc hy
            go_wp2
            go_roundw
            case rel => exact ⟨k + 1, ds ++ [z], by omega, by go_num, H3.out.1, by simp; omega, by rw [flatK_snoc, List.length_append]; exact H3.out.2.1, H3.out.2.2⟩
            case measure => simp [intOf]; omega
        · obtain rfl : k = n := by omega
          obtain ⟨A2, cap2, rfl, h1, h2, h3⟩ := rowC_of_own hown
          have HF := Lib.hid (And.intro (show planP L = some ds from by rw [HPP.out, ← hmap, List.take_of_length_le (by rw [HN.out]; exact Nat.le_refl _)]) (And.intro hfr (And.intro h1 (And.intro h2 h3))))
          clear hown hfr h1 h2 h3 hmap
          go_wp2
          go_ret2
          exact ⟨A2, cap2, ds, 0, rfl, HF.out.2.2.1, HF.out.2.2.2.1, HF.out.2.2.2.2, .inl ⟨HF.out.1, rfl⟩, fr_two H1.out.2 HF.out.2.1⟩
end Go.Proofs.YtmcigeebeoobdaaGreatDoor
end

/-
  The plan laws' awake.
-/
section
namespace Go.Viv
open Go.Lib Go.RowKit
theorem awp : planP [114, 48, 32, 110, 49] = some [⟨1, 0⟩, ⟨4, 1⟩] := by kernel_rfl
theorem awc : planE 2 [⟨1, 0⟩, ⟨4, 1⟩] = 0 := by kernel_rfl
theorem awn : planE 0 [] = 1 := by kernel_rfl
theorem awt : textP [⟨5, 0⟩] = [101] := by kernel_rfl
end Go.Viv
namespace Go.Proofs.YtmcigeebeoobdaaGreatDoor
open Go.RowKit Go.Viv
theorem infoDesc : (Tryz.prog.info? 123).map (fun i => (i.zero, i.size, i.bytes)) = some (some (.agg #[.int .i64 0, .int .i64 0, .int .i64 0]), 3, 24) := by kernel_rfl
/-- As many components as are asked for, made anew. -/
theorem make_desc (n : Nat) (hn : n ≤ 100000) (w : World) : ∃ w', (Instr.makeSlice 89 (.int .i64 (n : Int)) (.int .i64 (n : Int))).run Tryz.prog w = .ok (.slice (some ⟨w.heap.size, 0, none⟩) n n) w' ∧ Fr (fun _ => False) w w' := by
  obtain ⟨i0, hi, hz0, hz1, hz2⟩ := info_parts infoDesc
  obtain ⟨w', h1, _, h2⟩ := run_makeSlice_full (P := Tryz.prog) w w.heap.size 89 123 i0 _ 3 Tryz.underlying89 hi hz0 hz1 .i64 .i64 n (by omega) (by rw [hz2]; omega) (by unfold maxLen; omega) (Nat.le_refl _)
  exact ⟨w', h1, (Fr.refl _ _).grown h2 (fun k hk => by cases hk)⟩
set_option maxRecDepth 100000 in
set_option maxHeartbeats 1000000 in
theorem awake_any (w : World) (he : EnvP w) : Calls Tryz.prog 25 #[] w fun e w' => e = .returned (.bool true) ∧ Fr (fun _ => False) w w' := by
  have HE := Lib.hid he
  have HP := Lib.hid (planParse_any [114, 48, 32, 110, 49] w he (by decide))
  have HC := Lib.hid (fun W A cap (h : RowC W A (List.flatMap cellsK [⟨1, 0⟩, ⟨4, 1⟩])) (h1 : 2 ≤ cap) (h2 : cap ≤ 9223372036854775807) (D : Option Addr) (dc : Nat) => show Calls Tryz.prog 26 #[.slice D 2 dc, .slice A 2 cap] W fun e w' => e = .returned (.int .i64 0) ∧ Fr (fun _ => False) W w' from planCheck_any 2 D dc [⟨1, 0⟩, ⟨4, 1⟩] A cap W h h1 h2 (by decide))
  have HN := Lib.hid (fun W => show Calls Tryz.prog 26 #[.slice none 0 0, .slice none 0 0] W fun e w' => e = .returned (.int .i64 1) ∧ Fr (fun _ => False) W w' from planCheck_any 0 none 0 [] none 0 W (.inl rfl) (Nat.le_refl _) (by decide) (by decide))
  have HT := Lib.hid (fun W g (hW : Fr (fun _ => False) w W) (h : Blk W g 37 #[.int .i64 5, .int .i64 0]) => show Calls Tryz.prog 62 #[.slice (some ⟨g, 0, none⟩) 1 1] W fun e w' => e = .returned (str [101]) ∧ Fr (fun _ => False) W w' from planText_any [⟨5, 0⟩] (some ⟨g, 0, none⟩) 1 W (he.fr hW) (RowC.blk h) (Nat.le_refl _) (by decide) (by decide) (by simp [inI]))
  clear he
  go_enter Tryz.func25, Tryz.ntmps25
  go_wp2_with fail
  refine HP.out.mono ?_
  rintro e w1 ⟨A, cap, p, er, rfl, h1, h2, h3, h4, h5⟩
  rw [awp] at h4
  rcases h4 with ⟨h4, rfl⟩ | ⟨h4, _, _⟩
  · obtain rfl := Option.some.inj h4
    obtain ⟨b, o, rfl, hbw, d0, d1⟩ := rowK_at h3 (show ([⟨1, 0⟩, ⟨4, 1⟩] : List Coln)[1]? = some ⟨4, 1⟩ from rfl)
    obtain ⟨w2, hmk, hf2⟩ := make_desc 2 (by decide) w1
    have hmk2 : (Instr.makeSlice 89 (.int .i64 2) (.int .i64 2)).run Tryz.prog w1 = .ok (.slice (some ⟨w1.heap.size, 0, none⟩) 2 2) w2 := hmk
    have hcap : 2 ≤ cap := h1
    have H1 := Lib.hid (And.intro h1 (And.intro h2 (And.intro h3 h5)))
    have H2 := Lib.hid hf2
    have D0 := Lib.hid d0
    have D1 := Lib.hid d1
    clear h1 h2 h3 h4 h5 hmk hf2 d0 d1
    go_wp2_with fail
    refine (HC.out _ _ _ (H1.out.2.2.1.fr H2.out) H1.out.1 (by have := H1.out.2.1; unfold maxLen at this; exact this) _ _).mono ?_
    rintro e w3 ⟨rfl, hf3⟩
    have H3 := Lib.hid (fr_two (fr_two H1.out.2.2.2 H2.out) hf3)
    have d0 := cell_fr D0.out (fr_two H2.out hf3)
    have d1 := cell_fr D1.out (fr_two H2.out hf3)
    have hcap' : (2 : Int) ≤ cap := by omega
    clear hmk2 hf3
    go_wp2_with fail
    refine (HN.out _).mono ?_
    rintro e w4 ⟨rfl, hf4⟩
    have H4 := Lib.hid (fr_two H3.out hf4)
    clear hf4 d0 d1
    go_wp2_with fail
    refine (HT.out _ _ (H4.out.alloc _) (Blk.new _ _ _)).mono ?_
    rintro e w5 ⟨rfl, hf5⟩
    have H5 := Lib.hid (fr_two (H4.out.alloc _) hf5)
    clear hf5
    go_wp2
    go_ret
    exact ⟨rfl, H5.out⟩
  · cases h4
end Go.Proofs.YtmcigeebeoobdaaGreatDoor
end

/-
  PlanChecks: all that it calls, put together; from memory to the tree and back.
-/
section
set_option linter.unusedSimpArgs false
set_option linter.unusedVariables false
namespace Go.Proofs.YtmcigeebeoobdaaGreatDoor
open Go Go.RowKit Go.Viv Go.Eva Go.Sym
noncomputable def k0 : CallB := fun _ _ _ => none
noncomputable def k1 : CallB := addC k0 156 (cIdxInt)
noncomputable def k2 : CallB := addC k1 109 (cContInt)
noncomputable def k3 : CallB := addC k2 110 (cSort)
noncomputable def k4 : CallB := addC k3 112 (cCompact)
noncomputable def k5 : CallB := addC k4 111 (cClip)
noncomputable def k6 : CallB := addC k5 67 (cComps)
noncomputable def k7 : CallB := addC k6 65 (cAsks)
noncomputable def k8 : CallB := addC k7 66 (cParts1)
noncomputable def k9 : CallB := addC k8 107 (cTwice)
noncomputable def k10 : CallB := addC k9 108 (cIdxCol)
noncomputable def k11 : CallB := addC k10 64 (cContCol)
noncomputable def k12 : CallB := addC k11 63 (cPCheck)
noncomputable def k13 : CallB := addC k12 26 (cPlanCheck)
noncomputable def k14 : CallB := addC k13 27 (cParts)
noncomputable def k15 : CallB := addC k14 28 (cReads)
noncomputable def k16 : CallB := addC k15 30 (cWrites)
noncomputable def k17 : CallB := addC k16 20 (cPlanMay)
noncomputable def k18 : CallB := addC k17 33 (cAt1)
noncomputable def k19 : CallB := addC k18 68 (cWith1)
noncomputable def k20 : CallB := addC k19 12 (cSame1)
noncomputable def k21 : CallB := addC k20 29 (cDComps)
noncomputable def k22 : CallB := addC k21 10 (cTame)
noncomputable def k23 : CallB := addC k22 25 (cAwk17)
noncomputable def k24 : CallB := addC k23 7 (cPck)
section
variable {G : Nat} {ν : Toks} {W : World} {may : Nat → Prop}
theorem awk17_ok (hE : EnvP W) (hm2 : ∀ k, ¬ may k) : SpecOK Tryz.prog G (LBegin Tryz.prog ν LL W may) ν 25 cAwk17 := by
  intro args s v h' e φ w args' ha hR hG
  unfold cAwk17 at e
  split at e <;> try (cases e; done)
  simp only [Option.some.injEq, Prod.mk.injEq] at e
  obtain ⟨rfl, rfl⟩ := e
  cases ha
  have hf : Fr (fun _ => False) W w := hR.frame.mono fun k _ h => hm2 k h
  exact (awake_any w (hE.fr hf)).mono fun e w' ⟨he, hf'⟩ => ⟨_, he, φ, .bool true, hR.later hf', fun _ _ => rfl, Nat.le_refl _⟩
theorem k0_ok : CallOK Tryz.prog G (LBegin Tryz.prog ν LL W may) ν k0 := fun _ _ _ _ _ e => by cases e
theorem kAll_ok (hE : EnvP W) (hm2 : ∀ k, ¬ may k) : CallOK Tryz.prog G (LBegin Tryz.prog ν LL W may) ν k24 := by
  have q0 : CallOK Tryz.prog G (LBegin Tryz.prog ν LL W may) ν k0 := k0_ok
  have q1 : CallOK Tryz.prog G (LBegin Tryz.prog ν LL W may) ν k1 := addC_ok q0 (idxInt_ok q0)
  have q2 : CallOK Tryz.prog G (LBegin Tryz.prog ν LL W may) ν k2 := addC_ok q1 (contInt_ok q1 (fun _ _ => rfl))
  have q3 : CallOK Tryz.prog G (LBegin Tryz.prog ν LL W may) ν k3 := addC_ok q2 (sort_ok)
  have q4 : CallOK Tryz.prog G (LBegin Tryz.prog ν LL W may) ν k4 := addC_ok q3 (compact_ok q3)
  have q5 : CallOK Tryz.prog G (LBegin Tryz.prog ν LL W may) ν k5 := addC_ok q4 (clip_ok q4)
  have q6 : CallOK Tryz.prog G (LBegin Tryz.prog ν LL W may) ν k6 := addC_ok q5 (planComps_ok q5 (fun _ _ => rfl) (fun _ _ => rfl) (fun _ _ => rfl) (fun _ _ => rfl))
  have q7 : CallOK Tryz.prog G (LBegin Tryz.prog ν LL W may) ν k7 := addC_ok q6 (asks_ok q6)
  have q8 : CallOK Tryz.prog G (LBegin Tryz.prog ν LL W may) ν k8 := addC_ok q7 (parts1_ok q7)
  have q9 : CallOK Tryz.prog G (LBegin Tryz.prog ν LL W may) ν k9 := addC_ok q8 (twice_ok q8)
  have q10 : CallOK Tryz.prog G (LBegin Tryz.prog ν LL W may) ν k10 := addC_ok q9 (idxCol_ok q9 (fun _ _ => rfl) (fun _ _ => rfl) (fun _ _ => rfl))
  have q11 : CallOK Tryz.prog G (LBegin Tryz.prog ν LL W may) ν k11 := addC_ok q10 (contCol_ok q10 (fun _ _ => rfl))
  have q12 : CallOK Tryz.prog G (LBegin Tryz.prog ν LL W may) ν k12 := addC_ok q11 (pcheck_ok q11 (fun _ _ => rfl))
  have q13 : CallOK Tryz.prog G (LBegin Tryz.prog ν LL W may) ν k13 := addC_ok q12 (planCheck_ok q12 (fun _ _ => rfl) (fun _ _ => rfl))
  have q14 : CallOK Tryz.prog G (LBegin Tryz.prog ν LL W may) ν k14 := addC_ok q13 (parts_ok q13 (fun _ _ => rfl) (fun _ _ => rfl))
  have q15 : CallOK Tryz.prog G (LBegin Tryz.prog ν LL W may) ν k15 := addC_ok q14 (reads_ok q14 (fun _ _ => rfl))
  have q16 : CallOK Tryz.prog G (LBegin Tryz.prog ν LL W may) ν k16 := addC_ok q15 (writes_ok q15 (fun _ _ => rfl))
  have q17 : CallOK Tryz.prog G (LBegin Tryz.prog ν LL W may) ν k17 := addC_ok q16 (planMay_ok q16)
  have q18 : CallOK Tryz.prog G (LBegin Tryz.prog ν LL W may) ν k18 := addC_ok q17 (at1_ok q17)
  have q19 : CallOK Tryz.prog G (LBegin Tryz.prog ν LL W may) ν k19 := addC_ok q18 (with1_ok q18 (fun _ _ => rfl))
  have q20 : CallOK Tryz.prog G (LBegin Tryz.prog ν LL W may) ν k20 := addC_ok q19 (same1_ok q19)
  have q21 : CallOK Tryz.prog G (LBegin Tryz.prog ν LL W may) ν k21 := addC_ok q20 (dcomps_ok q20 (fun _ _ => rfl))
  have q22 : CallOK Tryz.prog G (LBegin Tryz.prog ν LL W may) ν k22 := addC_ok q21 (tame_ok q21)
  have q23 : CallOK Tryz.prog G (LBegin Tryz.prog ν LL W may) ν k23 := addC_ok q22 (awk17_ok hE hm2)
  have q24 : CallOK Tryz.prog G (LBegin Tryz.prog ν LL W may) ν k24 := addC_ok q23 (pck_ok q23 (fun _ _ => rfl) (fun _ _ => rfl) (fun _ _ => rfl) (fun _ _ => rfl) (fun _ _ => rfl) (fun _ _ => rfl) (fun _ _ => rfl) (fun _ _ => rfl) (fun _ _ => rfl))
  exact q24
end
theorem colsK_C : ∀ xs : List Coln, xs.flatMap cellsK = colsC xs
  | [] => rfl
  | a :: l => by rw [List.flatMap_cons, colsK_C l]; rfl
theorem cols_num : ∀ {xs : List Coln} {i : Nat} {x : Value}, (colsC xs)[i]? = some x → ∃ (j : Nat) (y : Int), x = .int .i64 y
  | [], i, x, h => by cases i <;> cases h
  | a :: l, 0, x, h => ⟨0, a.k, (Option.some.inj h).symm⟩
  | a :: l, 1, x, h => ⟨0, a.c, (Option.some.inj h).symm⟩
  | a :: l, i + 2, x, h => cols_num (xs := l) (i := i) h
theorem room_of {t : Tr AObj} {e : TypeId} {v : Value} (h : roomOk v = true) : roomB t e v = true := by
  unfold roomOk at h
  unfold roomB
  split at h
  · rfl
  · rfl
  · split
    · rename_i h1; cases h1
    · rename_i h1; cases h1; exact h
    · rfl
  · cases h
theorem planChecks_any (n : Int) (xs : List Coln) (A : Option Addr) (cp : Nat) (l : List Int) (B : Option Addr) (cq : Nat) (W : World) (hE : EnvP W) (hr : RowC W A (xs.flatMap cellsK)) (hk : xs.length ≤ cp) (hA : A = none → cp = 0) (hr2 : RowC W B (ints l)) (hk2 : l.length ≤ cq) (hB : B = none → cq = 0) :
    Calls Tryz.prog 7 #[.int .i64 n, .slice A xs.length cp, .slice B l.length cq] W fun e w' => e = .returned (.bool true) ∧ Fr (fun _ => False) W w' := by
  rw [colsK_C] at hr
  obtain ⟨v0, b0, r0, p0, q0⟩ := arg_rowV (k := 2) (n := xs.length) (cap := cp) hr (fun i x hx => by
    obtain ⟨j, y, rfl⟩ := cols_num hx
    rfl) (colsC_len xs) (by omega) hk hA
  obtain ⟨v1, b1, r1, p1, q1⟩ := arg_row (k := 1) (n := l.length) (cap := cq) (l := l) hr2 (by omega) (by omega) hk2 hB
  let t : Tr AObj := (Tr.nil.set b0 (blkOb W b0)).set b1 (blkOb W b1)
  have ht : ∀ b, b = b0 ∨ b = b1 → t.at_ b = blkOb W b := fun b hb => by
    show ((Tr.nil.set b0 (blkOb W b0)).set b1 (blkOb W b1)).at_ b = _
    by_cases h1 : b1 = b
    · subst h1; exact Tr.at_set_same _ _ _
    · rw [Tr.at_set_ne _ _ h1]
      by_cases h0 : b0 = b
      · subst h0; exact Tr.at_set_same _ _ _
      · omega
  have htn : ∀ b o, t.at_ b = some o → blkOb W b = some o := fun b o h => by
    by_cases hb : b = b0 ∨ b = b1
    · rw [← ht b hb]; exact h
    · exfalso
      have : t.at_ b = none := by
        show ((Tr.nil.set b0 (blkOb W b0)).set b1 (blkOb W b1)).at_ b = _
        rw [Tr.at_set_ne _ _ (by omega), Tr.at_set_ne _ _ (by omega)]
        exact nil_at b
      rw [this] at h; cases h
  let may : Nat → Prop := fun _ => False
  have hR : Rw Tryz.prog W.heap.size (LBegin Tryz.prog noToks LL W may) noToks (phi0 W.heap.size (szOf W)) ⟨t, W.heap.size⟩ W :=
    Rw.start (W0 := LBegin Tryz.prog noToks LL W may) (Nat.le_refl _) t (szOf W) fun g o ho _ => blk_obj (htn g o ho)
  have hrun : cPck [.int .i64 n, v0, v1] ⟨t, W.heap.size⟩ = some (.bool true, ⟨t, W.heap.size⟩) := by
    have e0 : (rowB t 2 v0).bind colsL = some xs := by rw [q0 t (fun _ => ht _ (.inl rfl))]; exact colsL_of _
    have e1 : (rowB t 1 v1).bind intsL = some l := by rw [q1 t (fun _ => ht _ (.inr rfl))]; exact intsL_of _
    simp only [cPck, e0, e1]
    rw [if_pos (room_of r0)]
  have hrun2 : k24 7 [.int .i64 n, v0, v1] ⟨t, W.heap.size⟩ = some (.bool true, ⟨t, W.heap.size⟩) := hrun
  have hcall := kAll_ok (G := W.heap.size) (ν := noToks) (may := may) hE (fun _ h => h) 7 _ _ _ _ hrun2 (phi0 W.heap.size (szOf W)) W [.int .i64 n, .slice A xs.length cp, .slice B l.length cq] (.cons (.int _ _) (.cons (p0 _) (.cons (p1 _) .nil))) hR (Nat.le_refl _)
  refine hcall.mono ?_
  rintro e w' ⟨z, rfl, φ', hz, hR', _⟩
  cases hz
  exact ⟨rfl, hR'.frame⟩
end Go.Proofs.YtmcigeebeoobdaaGreatDoor
end
