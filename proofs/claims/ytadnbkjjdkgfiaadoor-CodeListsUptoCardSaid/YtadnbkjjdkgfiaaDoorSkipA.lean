/-
  What the walk of CodeSkips needs: rows of kills, a row appended to a row.
-/
import Derived.Test.YtadnbkjjdkgfiaaDoorCodJ
import Derived.Test.YtadnbkjjdkgfiaaDoorMasks
namespace Go.Viv
open Go.Lib Go.Proofs.YtadnbkjjdkgfiaaDoor Go.RowKit
abbrev kill : Insn := ⟨14, 0, 0, 0⟩
theorem kill_ok (b : Int) : insOk kill b = true := rfl
theorem all_kill : ∀ n, allOk (List.replicate n kill) = true
  | 0 => rfl
  | n + 1 => by rw [List.replicate_succ, allOk, kill_ok, all_kill n]; rfl
theorem check_kill (n : Nat) : checkI (List.replicate n kill) = if 16 < n then 2 else 0 := by
  unfold checkI
  rw [List.length_replicate, all_kill]
  simp
theorem allOk_set (x : Insn) (k : Nat) (hk : k < 12) : allOk ((List.replicate 12 kill).set k x) = insOk x (11 - (k : Int)) := by
  rcases k with _ | _ | _ | _ | _ | _ | _ | _ | _ | _ | _ | _ | k
  all_goals first | omega | (simp [allOk, kill_ok, List.replicate, List.set]; done) | (simp [allOk, kill_ok, List.replicate, List.set]; rfl)
theorem check_set (x : Insn) (k : Nat) (hk : k < 12) : checkI ((List.replicate 12 kill).set k x) = if insOk x (11 - (k : Int)) then 0 else 1 := by
  unfold checkI
  rw [List.length_set, List.length_replicate, if_neg (by omega), allOk_set x k hk]
theorem skip_ok (wd : Nat) (b : Int) : insOk ⟨13, 1, 0, wd⟩ b = decide ((wd : Int) ≤ b) := by
  have h : insOk ⟨13, 1, 0, wd⟩ b = (true && true && (true || (wd : Int) == 0) && (!true || decide (0 ≤ (wd : Int))) && ((13 : Int) != 13 || decide ((wd : Int) ≤ b))) := rfl
  rw [h]
  simp
theorem skip_bad (b : Int) : insOk ⟨13, 1, 0, -1⟩ b = false := rfl

/-- A row appended to a row of one's own. -/
theorem app_row {P : Program} {T E : TypeId} {z : Value} {size bytes : Nat} (hT : P.underlying T = some (.slice E)) (hE : (P.info? E).map (fun i => (i.zero, i.size, i.bytes)) = some (some z, size, bytes)) (hz : z.cells.size = size) (hs : 0 < size)
    {W : World} {base n : Nat} {v : Value} {xs : List Value} (hown : W.ownsRow base E size v n xs) {b o m c : Nat} {news : List Value} (hsrc : RowC W (some ⟨b, o, none⟩) news) (hl : news.length = m * size) (h1 : ∀ u ∈ news, u.oneCell' = true)
    (hn : n + m ≤ maxLen) (hb : (n + m) * bytes ≤ 140737488355328) (hbase : base ≤ W.heap.size) :
    ∃ v' w', appendV P T T v (.slice (some ⟨b, o, none⟩) m c) W = .ok v' w' ∧ w'.ownsRow base E size v' (n + m) (xs ++ news) ∧ ∀ V, Fr (fun _ => False) V W → V.heap.size ≤ base → Fr (fun _ => False) V w' := by
  obtain ⟨i0, hi, hz0, hz1, hz2⟩ := info_parts hE
  obtain ⟨v', w', h, ho, hgr, _⟩ := run_append_own_at (P := P) W base T T E i0 z size bytes hT hi hz0 hz1 hz2 hz hs v n xs hown ⟨b, o, none⟩ m c news hl (fun j u hj => by
    rw [show (⟨b, o, none⟩ : Addr).add j = ⟨b, o + j, none⟩ from Addr.add_mid b o j]
    rcases hsrc with hn0 | ⟨b', o', hA, _, hc⟩
    · rw [hn0] at hj; simp at hj
    · injection hA with hA
      injection hA with hA1 hA2
      subst hA1 hA2
      exact hc j u hj) h1 hn hb hbase
  refine ⟨v', w', h, ho, fun V hV hle => hV.grown hgr (fun k hk => .inr ?_)⟩
  have := (hown.lt k hk).1
  omega
/-- The head of a row of one's own. -/
theorem own_take {w : World} {base g : Nat} {e : TypeId} {size n cap m : Nat} {xs : List Value} (h : w.ownsRow base e size (.slice (some ⟨g, 0, none⟩) n cap) n xs) (hm : m ≤ n) : w.ownsRow base e size (.slice (some ⟨g, 0, none⟩) m cap) m (xs.take (m * size)) := by
  obtain ⟨h1, h2⟩ := h
  have hle : m * size ≤ n * size := Nat.mul_le_mul_right _ hm
  refine ⟨by rw [List.length_take, h1]; omega, ?_⟩
  rcases h2 with ⟨h2, _⟩ | ⟨g', cap', cur, hv, hb, hh, a1, a2, a3, a4⟩
  · cases h2
  · injection hv with hv _ hc
    subst hc
    refine .inr ⟨g', cap, cur, by rw [hv], hb, hh, by omega, a2, a3, ?_⟩
    rw [← a4, List.take_take, Nat.min_eq_left hle]
end Go.Viv
namespace Go.Proofs.YtadnbkjjdkgfiaaDoor
open Go.RowKit Go.Viv
theorem info42 : (Tryd.prog.info? 42).map (fun i => (i.zero, i.size, i.bytes)) = some (some (.agg #[.int .i64 0, .int .i64 0, .int .i64 0, .int .i64 0]), 4, 32) := by kernel_rfl
theorem mask_nat (x m : Int) (k : Nat) (hk : k ≤ 62) (h : (BitVec.ofInt 64 m).toNat = 2 ^ k - 1) : ∃ r : Nat, bits .and .i64 x m = r ∧ r < 2 ^ k := by
  have hp : (0 : Int) < ((2 ^ k : Nat) : Int) := by exact_mod_cast Nat.pow_pos (by decide)
  have h0 := Int.emod_nonneg x (Int.ne_of_gt hp)
  have h1 := Int.emod_lt_of_pos x hp
  exact ⟨(x % ((2 ^ k : Nat) : Int)).toNat, by rw [i64_mask x m k hk h, Int.toNat_of_nonneg h0], by omega⟩

end Go.Proofs.YtadnbkjjdkgfiaaDoor
