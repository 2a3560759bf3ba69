/-
  Contracts of package plan: Text, col.
-/
import Derived.Test.YtibailpbjdfjfaaDoorPlnF
namespace Go.Proofs.YtibailpbjdfjfaaDoor
open Go.RowKit Go.Viv
attribute [local go_sem ↓] wp_appendV
theorem infoStr : (Tryd.prog.info? 9).map (fun i => (i.zero, i.size, i.bytes)) = some (some (.string ⟨#[]⟩), 1, 16) := by kernel_rfl
theorem infoCol : (Tryd.prog.info? 43).map (fun i => (i.zero, i.size, i.bytes)) = some (some (.agg #[.int .i64 0, .int .i64 0]), 2, 16) := by kernel_rfl
set_option maxRecDepth 100000 in
set_option maxHeartbeats 1000000 in
theorem planText_any (l : List Coln) (A : Option Addr) (cap : Nat) (w : World) (he : EnvP w) (hr : RowC w A (l.flatMap cellsK)) (hn : l.length ≤ cap) (_hc : cap ≤ 9223372036854775807) (hl : l.length ≤ 1000) (hi : ∀ x ∈ l, inI x.c) :
    Calls Tryd.prog 10 #[.slice A l.length cap] w fun e w' => e = .returned (str (textP l)) ∧ Fr (fun _ => False) w w' := by
  have HE := Lib.hid he
  have HR := Lib.hid hr
  have HI := Lib.hid hi
  obtain ⟨n, hnl⟩ : ∃ n, l.length = n := ⟨_, rfl⟩
  have HN := Lib.hid hnl
  rw [hnl] at hn hl ⊢
  clear he hr hi hnl
  go_enter Tryd.func10, Tryd.ntmps10
  go_wp2_with fail
  go_loopw [3, 5, 8] (fun v _ t wr => ∃ k : Nat, k ≤ n ∧ t = .int .i64 k ∧ wr.ownsRow w.heap.size 9 1 v k (cellsW ((l.take k).map textK)) ∧ Fr (fun _ => False) w wr) (fun _ _ t _ => n - (intOf t).toNat)
  case atStart => exact ⟨0, by omega, rfl, World.ownsRow_nil _ _ _ _, Fr.refl _ _⟩
  case round =>
    obtain ⟨k, hk, rfl, hown, hfr⟩ := hrel
    by_cases hlt : k < n
    · have hkl : k < l.length := by rw [HN.out]; exact hlt
      have hx : l[k]? = some l[k] := List.getElem?_eq_getElem hkl
      obtain ⟨b, o, rfl, hbw, d0, d1⟩ := rowK_at (HR.out.fr hfr) hx
      have hsn : (l.take (k + 1)).map textK = (l.take k).map textK ++ [textK l[k]] := by rw [List.take_succ_eq_append_getElem hkl, List.map_append]; rfl
      have hin := HI.out l[k] (List.getElem_mem hkl)
      obtain ⟨y, hy⟩ : ∃ y, l[k] = y := ⟨_, rfl⟩
      rw [hy] at hsn d0 d1 hin
      have HT := Lib.hid (fun W (hW : Fr (fun _ => False) w W) => coltext_any y W (HE.out.fr hW) hin)
      obtain ⟨X, hX⟩ : ∃ X, textK y = X := ⟨_, rfl⟩
      rw [hX] at hsn HT
      have HX := Lib.hid (And.intro hsn (And.intro hown hfr))
      clear hx hsn hown hfr hy hX hin hkl
      obtain ⟨wB, hwB⟩ : ∃ wB, wB = wr := ⟨wr, rfl⟩
      subst hwB
      go_wp2_with fail
      refine (HT.out _ (HX.out.2.2.alloc _)).mono ?_
      rintro e w2 ⟨rfl, hf2⟩
      have hf3 : Fr (fun _ => False) wB w2 := fr_two (Fr.alloc1 _ _ _) hf2
      obtain ⟨v2, w3, happ, hown3, hfr3⟩ := app_one (P := Tryd.prog) (T := 47) Tryd.underlying47 infoStr rfl (by omega) ((own_fr HX.out.2.1 hf3 (fun _ _ h => h)).alloc (.cells #[str X] 9)) (Blk.new w2 9 #[str X]) rfl (by simp [Value.oneCell']) (by unfold maxLen; omega) (by omega) (by have := (fr_two HX.out.2.2 hf3).size; simp; omega)
      have H3 := Lib.hid (And.intro hown3 (hfr3 w ((fr_two HX.out.2.2 hf3).alloc _) (Nat.le_refl _)))
      clear hown3 hfr3 hf3 hf2 d0 d1
      go_wp2
      go_roundw
      case rel => exact ⟨k + 1, by omega, by go_num, by rw [HX.out.1, cellsW_snoc]; exact H3.out.1, H3.out.2⟩
      case measure => simp [intOf]; omega
    · obtain rfl : k = n := by omega
      obtain ⟨A2, cap2, rfl, h1, h2, h3⟩ := rowC_of_own hown
      rw [List.take_of_length_le (by rw [HN.out]; exact Nat.le_refl _)] at h3
      have HJ := Lib.hid (show Calls Tryd.prog 19 #[.slice A2 k cap2, str [32]] wr fun e w' => e = .returned (str (textP l)) ∧ Fr (fun _ => False) wr w' from by
        have hlen : (l.map textK).length = k := by rw [List.length_map]; exact HN.out
        have := join_any (l.map textK) A2 cap2 wr h3 (by rw [hlen]; exact h1) (by rw [hlen]; omega) (by
          have := join_len (l.map textK) 22 (fun x hx => by
            obtain ⟨z, hz, rfl⟩ := List.mem_map.1 hx
            exact textK_le (HI.out z hz))
          rw [hlen] at this
          omega)
        rw [hlen] at this
        exact this)
      have HF := Lib.hid hfr
      clear hown hfr h1 h2 h3
      obtain ⟨wB, hwB⟩ : ∃ wB, wB = wr := ⟨wr, rfl⟩
      subst hwB
      go_wp2_with fail
      refine HJ.out.mono ?_
      rintro e w2 ⟨rfl, hf2⟩
      have H2 := Lib.hid hf2
      clear hf2
      go_wp2
      go_ret
      exact ⟨rfl, fr_two HF.out H2.out⟩
theorem atoi_any (d : List UInt8) (w : World) (he : EnvP w) (hd : d.length ≤ 281474976710655) : Calls Tryd.prog 33 #[str d] w fun e w' => ∃ v er, e = .returned (.tuple #[.int .i64 v, er]) ∧ Atoied d v ∧ Fr (fun _ => False) w w' := by
  have hs : (⟨d.toArray⟩ : ByteArray).size ≤ 281474976710656 := by rw [size_str]; omega
  cases hp : Lib.atoiAll (⟨d.toArray⟩ : ByteArray).data.toList
  · rename_i v
    refine (Tryd.strconv_Atoi_ok ⟨d.toArray⟩ (by omega) v hp w).mono ?_
    rintro e w' ⟨rfl, hw⟩
    have hp2 : Lib.parseIntB 64 d = .ok v := by rw [Lib.parseIntB_64, ← data_str d]; exact hp
    refine ⟨v, _, rfl, ⟨parse_in hp2, .inl hp2⟩, ?_⟩
    rcases hw with rfl | ⟨t, rfl⟩
    · exact Fr.refl _ _
    · exact fr_bytes _ _ _
  · obtain ⟨t, p, h2⟩ := he.es
    refine (Any.strconv_Atoi_syntax_var Tryd.laysC172 ⟨d.toArray⟩ hs hp t p w h2).mono ?_
    rintro e w' ⟨N, rfl, _, _, hb⟩
    refine ⟨0, _, rfl, ⟨by simp [inI], .inr (fun u hu => ?_)⟩, fr_below hb⟩
    rw [Lib.parseIntB_64, ← data_str d, hp] at hu
    cases hu
  · obtain ⟨t, p, h2⟩ := he.er
    refine (Any.strconv_Atoi_range_var Tryd.laysC172 ⟨d.toArray⟩ hs hp t p w h2).mono ?_
    rintro e w' ⟨N, rfl, _, _, hb⟩
    refine ⟨_, _, rfl, ⟨by unfold Lib.atoiSat inI; split <;> omega, .inr (fun u hu => ?_)⟩, fr_below hb⟩
    rw [Lib.parseIntB_64, ← data_str d, hp] at hu
    cases hu
/-- What col answers. -/
def ColA (l : List UInt8) (w : World) (e : Ending) (w' : World) : Prop := ∃ x : Coln, e = .returned (.tuple #[x.agg, .bool (colP l).isSome]) ∧ (∀ y, colP l = some y → y = x) ∧ Fr (fun _ => False) w w'
theorem zeroCol (w : World) : (zeroValue 43).run Tryd.prog w = .ok (.agg #[.int .i64 0, .int .i64 0]) w := by kernel_rfl
set_option maxRecDepth 100000 in
set_option maxHeartbeats 1000000 in
theorem col_nil (w : World) : Calls Tryd.prog 22 #[str []] w (ColA [] w) := by
  go_enter Tryd.func22, Tryd.ntmps22
  go_wp2
  refine bodyPost_ret (v := .tuple #[.agg #[.int .i64 0, .int .i64 0], .bool false]) (by simp [results, Tryd.results22, go_sem]) rfl ⟨⟨0, 0⟩, rfl, fun y hy => (by cases hy), ?_⟩
  exact Fr.alloc1 _ _ _
end Go.Proofs.YtibailpbjdfjfaaDoor
