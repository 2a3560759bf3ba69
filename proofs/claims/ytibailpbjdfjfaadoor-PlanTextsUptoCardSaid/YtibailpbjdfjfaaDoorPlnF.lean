/-
  Contracts of package plan: text, Text, col.
-/
import Derived.Test.YtibailpbjdfjfaaDoorPlnE
import Derived.Lib.SplitLaws
namespace Go.Viv
open Go.Lib Go.RowKit
def cellsW (ws : List (List UInt8)) : List Value := ws.map str
theorem cellsW_snoc (ds : List (List UInt8)) (x : List UInt8) : cellsW (ds ++ [x]) = cellsW ds ++ [str x] := by simp [cellsW]
theorem lens_le (ws : List (List UInt8)) (n : Nat) (h : ∀ x ∈ ws, x.length ≤ n) : (ws.map List.length).sum ≤ ws.length * n := by
  induction ws with
  | nil => simp
  | cons x r ih =>
    have h1 := ih (fun y hy => h y (by simp [hy]))
    have h2 := h x (by simp)
    simp only [List.map_cons, List.sum_cons, List.length_cons, Nat.succ_mul]
    omega
theorem joinTail_len (n : Nat) : ∀ (r : List (List UInt8)), (∀ x ∈ r, x.length ≤ n) → (joinTail [32] r).length ≤ r.length * (n + 1)
  | [], _ => by simp [joinTail]
  | x :: r, h => by
    have h1 := joinTail_len n r (fun y hy => h y (by simp [hy]))
    have h2 := h x (by simp)
    have e : joinTail [32] (x :: r) = 32 :: (x ++ joinTail [32] r) := by simp [joinTail]
    rw [e]
    simp only [List.length_cons, List.length_append, Nat.succ_mul]
    omega
theorem join_len (ws : List (List UInt8)) (n : Nat) (h : ∀ x ∈ ws, x.length ≤ n) : (Lib.join ws [32]).length ≤ ws.length * (n + 1) + n := by
  cases ws with
  | nil => simp [Lib.join_nil]
  | cons x r =>
    have h1 := h x (by simp)
    have h2 := joinTail_len n r (fun y hy => h y (by simp [hy]))
    rw [join_cons, List.length_append]
    simp only [List.length_cons, Nat.succ_mul]
    omega
theorem textK_le {x : Coln} (h : inI x.c) : (textK x).length ≤ 22 := by
  have := itoa_len h
  unfold textK
  split
  · simp
  · split
    · simp
    · simp; omega
theorem ext_list (l : List UInt8) (a b : Nat) : (ByteArray.mk l.toArray).extract a b = ⟨((l.drop a).take (b - a)).toArray⟩ := by
  have : ∀ x y : ByteArray, x.data.toList = y.data.toList → x = y := by
    rintro ⟨x⟩ ⟨y⟩ h
    simp at h
    rw [h]
  exact this _ _ (by rw [Lib.extract_data, data_str])
/-- What Index finds of a letter. -/
def idxL (c : UInt8) : Int := indexByte [32, 114, 119, 109, 110, 101] c
theorem idxL_e : idxL 101 = 5 := by decide
theorem idxL_kind {c : UInt8} (h : c ≠ 101) : (kindL c = 0 ∧ (idxL c = 0 ∨ idxL c = -1)) ∨ (1 ≤ kindL c ∧ kindL c ≤ 4 ∧ idxL c = kindL c) := by
  by_cases h1 : c = 114
  · subst h1; exact .inr (by decide)
  · by_cases h2 : c = 119
    · subst h2; exact .inr (by decide)
    · by_cases h3 : c = 109
      · subst h3; exact .inr (by decide)
      · by_cases h4 : c = 110
        · subst h4; exact .inr (by decide)
        · left
          refine ⟨by unfold kindL; simp [h1, h2, h3, h4], ?_⟩
          by_cases h5 : c = 32
          · subst h5; exact .inl (by decide)
          · right
            unfold idxL indexByte
            have e : ∀ b : UInt8, c ≠ b → (b == c) = false := fun b hb => beq_eq_false_iff_ne.2 (fun h => hb h.symm)
            rw [e 32 h5]
            simp [indexByte, e 114 h1, e 119 h2, e 109 h3, e 110 h4, e 101 h]
/-- What Atoi answers is the number, or the text is none. -/
def Atoied (d : List UInt8) (v : Int) : Prop := inI v ∧ (parseIntB 64 d = .ok v ∨ ∀ u, parseIntB 64 d ≠ .ok u)
theorem colP_told {c : UInt8} {d : List UInt8} {v : Int} (hc : c ≠ 101) (hk : 1 ≤ kindL c) (hv : Atoied d v) : colP (c :: d) = if textK ⟨kindL c, v⟩ = c :: d ∧ (c :: d).length ≤ 4 then some ⟨kindL c, v⟩ else none := by
  obtain ⟨hi, hv⟩ := hv
  rcases kindL_in c with h | ⟨_, h4, hl⟩
  · omega
  · rw [colP_cons, if_neg hc]
    by_cases h3 : 3 < d.length
    · rw [if_pos (.inr h3), if_neg (by simp; omega)]
    · rw [if_neg (by omega)]
      have hT : 0 ≤ v → textK ⟨kindL c, v⟩ = c :: itoa v := fun h0 => by
        unfold textK
        rw [if_neg (by simp; omega), if_neg (by simp; omega)]
        simp only [hl]
      have hT0 : v < 0 → textK ⟨kindL c, v⟩ = [] := fun h0 => by
        unfold textK
        rw [if_pos (by simp; omega)]
      rcases hv with hv | hv
      · have hn : num d = if itoa v = d then some v else none := by unfold num; rw [hv]
        rw [hn]
        by_cases hd : itoa v = d
        · rw [if_pos hd]
          simp only
          by_cases h0 : v < 0
          · rw [if_pos h0, hT0 h0, if_neg (by simp)]
          · rw [if_neg h0, hT (by omega), hd, if_pos ⟨rfl, by simp; omega⟩]
        · rw [if_neg hd]
          simp only
          rw [if_neg]
          rintro ⟨h1, _⟩
          by_cases h0 : v < 0
          · rw [hT0 h0] at h1; simp at h1
          · rw [hT (by omega)] at h1
            injection h1 with _ h1
            exact hd h1
      · have hn : num d = none := by
          unfold num
          split
          · rename_i u hu; exact absurd hu (hv u)
          · rfl
        rw [hn]
        simp only
        rw [if_neg]
        rintro ⟨h1, _⟩
        by_cases h0 : v < 0
        · rw [hT0 h0] at h1; simp at h1
        · rw [hT (by omega)] at h1
          injection h1 with _ h1
          rw [← h1] at hv
          exact hv v (parse_itoa v hi)
theorem colP_none {c : UInt8} {d : List UInt8} (hc : c ≠ 101) (hk : kindL c = 0) : colP (c :: d) = none := by rw [colP_cons, if_neg hc, if_pos (.inl hk)]
theorem colP_e (d : List UInt8) : colP (101 :: d) = if d = [] then some ⟨5, 0⟩ else none := by rw [colP_cons, if_pos rfl]
end Go.Viv
namespace Go.Proofs.YtibailpbjdfjfaaDoor
open Go.RowKit Go.Viv
/-- A pair laid into a block of its own, the world behind it under a name. -/
theorem box2 (w : World) (t : TypeId) (a b : Value) : ∃ W1, W1 = w.alloc (.cells #[a, b] t) ∧ Hid (Fr (fun _ => False) w W1) ∧ (∀ d os, (Go.Sort.grow (redrawn W1 d) os).cell? ⟨w.heap.size, 0, none⟩ = some a) ∧ (∀ d os, (Go.Sort.grow (redrawn W1 d) os).cell? ⟨w.heap.size, 1, none⟩ = some b) :=
  ⟨_, rfl, Lib.hid (Fr.alloc1 _ _ _), fun d os => cell_regrown ((Blk.new w t #[a, b]).cell 0) d os, fun d os => cell_regrown ((Blk.new w t #[a, b]).cell 1) d os⟩
theorem join_any (ws : List (List UInt8)) (A : Option Addr) (cap : Nat) (w : World) (hr : RowC w A (cellsW ws)) (hcap : ws.length ≤ cap) (hN : ws.length ≤ 1000000000) (hl : (Lib.join ws [32]).length ≤ 140737488355328) :
    Calls Tryd.prog 19 #[.slice A ws.length cap, str [32]] w fun e w' => e = .returned (str (Lib.join ws [32])) ∧ Fr (fun _ => False) w w' := by
  rcases hr with hn | ⟨bk, o, hA, hbk, hcs⟩
  · have hw : ws = [] := by simpa [cellsW] using hn
    subst hw
    refine (Tryd.strings_Join_none A cap ⟨#[32]⟩ w).mono ?_
    rintro e w' ⟨rfl, rfl⟩
    exact ⟨rfl, Fr.refl _ _⟩
  · subst hA
    have hmap : (ws.map ((·.data.toList) ∘ fun l => (⟨l.toArray⟩ : ByteArray))) = ws := by
      conv => rhs; rw [← List.map_id ws]
      exact List.map_congr_left (fun _ _ => by simp)
    have hj := Tryd.strings_Join bk o cap (ws.map fun l => ⟨l.toArray⟩) ⟨#[32]⟩ w (fun j x hx => hcs j (.string x) (by
      rw [List.getElem?_map] at hx
      unfold cellsW
      rw [List.getElem?_map]
      cases h : ws[j]? with
      | none => rw [h] at hx; cases hx
      | some y => rw [h] at hx; obtain rfl := Option.some.inj hx; rfl)) hbk (by rw [List.length_map]; omega) (by rw [List.length_map]; exact hcap) (by
      rw [List.map_map, hmap]
      exact hl)
    rw [List.length_map, List.map_map, hmap] at hj
    refine hj.mono ?_
    rintro e w' ⟨rfl, hb⟩
    exact ⟨rfl, fr_below hb⟩
set_option maxRecDepth 100000 in
set_option maxHeartbeats 1000000 in
theorem coltext_any (x : Coln) (w : World) (he : EnvP w) (hi : inI x.c) : Calls Tryd.prog 18 #[x.agg] w fun e w' => e = .returned (str (textK x)) ∧ Fr (fun _ => False) w w' := by
  obtain ⟨k, c⟩ := x
  simp only at hi
  have HE := Lib.hid he
  have HI := Lib.hid hi
  clear he hi
  by_cases hno : k < 1 ∨ 5 < k ∨ c < 0
  · have HT := Lib.hid (show textK ⟨k, c⟩ = [] from by unfold textK; rw [if_pos hno])
    rcases Int.lt_or_le k 1 with h1 | h1
    · clear hno
      go_enter Tryd.func18, Tryd.ntmps18
      go_wp2
      go_ret
      exact ⟨by rw [HT.out]; rfl, Fr.alloc1 _ _ _⟩
    · rcases Int.lt_or_le 5 k with h5 | h5
      · clear hno
        go_enter Tryd.func18, Tryd.ntmps18
        go_wp2
        go_ret
        exact ⟨by rw [HT.out]; rfl, Fr.alloc1 _ _ _⟩
      · have h0 : c < 0 := by omega
        clear hno
        go_enter Tryd.func18, Tryd.ntmps18
        go_wp2
        go_ret
        exact ⟨by rw [HT.out]; rfl, Fr.alloc1 _ _ _⟩
  · have h1 : 1 ≤ k := by omega
    have h5 : k ≤ 5 := by omega
    have h0 : 0 ≤ c := by omega
    have HT := Lib.hid (show textK ⟨k, c⟩ = if k = 5 then [101] else letK k :: Lib.itoa c from by unfold textK; rw [if_neg hno])
    have hl := itoa_len HI.out
    have HS := Lib.hid (fun W (hW : Fr (fun _ => False) w W) => itoa_any c W (HE.out.fr hW) HI.out)
    obtain ⟨NA, hNA⟩ : ∃ l, Lib.itoa c = l := ⟨_, rfl⟩
    rw [hNA] at HT hl HS
    have m1 : ¬ 9223372036854775807 < 1 + NA.length := by omega
    clear hno hNA
    have hk : k = 5 ∨ k = 1 ∨ k = 2 ∨ k = 3 ∨ k = 4 := by omega
    rcases hk with rfl | rfl | rfl | rfl | rfl
    · go_enter Tryd.func18, Tryd.ntmps18
      go_wp2
      go_ret
      exact ⟨by rw [HT.out]; rfl, Fr.alloc1 _ _ _⟩
    all_goals
      go_enter Tryd.func18, Tryd.ntmps18
      go_wp2_with fail
      obtain ⟨W1, hW1, H1, k0, k1⟩ := box2 w 43 _ _
      rw [← hW1]
      clear hW1
      refine wp_region_quiet_below (by kernel_rfl) (by kernel_rfl) ?_
      repeat (first | go_big_quiet_step ((go_at_call 17; exact calls_reg (HS.out _ (fr_regrown H1.out _ _)))) | quiet_step ((go_at_call 17; exact calls_reg (HS.out _ (fr_regrown H1.out _ _)))))
      refine wpQuiet_nil ?_
      intro wq hq
      obtain ⟨pq, rfl⟩ := hq
      go_wp2
      go_ret
      exact ⟨by rw [HT.out]; rfl, fr_regrown H1.out _ _⟩
end Go.Proofs.YtibailpbjdfjfaaDoor
