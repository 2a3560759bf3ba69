/-
  A world's copy: two boxes, and copies of its rows in the second one.
-/
import Derived.Test.YtobbfbmnlmjppaaGreatDoorAll
namespace Go.Proofs.YtobbfbmnlmjppaaGreatDoor
open Go.RowKit Go.Viv Go.Lib
theorem infoDesc : (Tryz.prog.info? 52).map (fun i => (i.zero, i.size, i.bytes)) = some (some (.agg #[.int .i64 0, .int .i64 0, .int .i64 0]), 3, 24) := by kernel_rfl
theorem infoI64 : (Tryz.prog.info? 2).map (fun i => (i.zero, i.size, i.bytes)) = some (some (.int .i64 0), 1, 8) := by kernel_rfl
/-- A row of one's own of no element. -/
theorem ownsRow_new (w : World) (base : Nat) (e : TypeId) (size : Nat) (h : base ≤ w.heap.size) : (w.alloc (.cells #[] e)).ownsRow base e size (.slice (some ⟨w.heap.size, 0, none⟩) 0 0) 0 [] :=
  ⟨by simp, .inr ⟨w.heap.size, 0, #[], rfl, h, Blk.new w e #[], Nat.le_refl _, Nat.zero_le _, by simp, by simp⟩⟩
theorem rowC_plain {w : World} {A : Option Addr} {cs : List Value} (h : RowC w A cs) (hne : cs ≠ []) : ∀ a, A = some a → ∃ b o, a = ⟨b, o, none⟩ := by
  intro a ha
  rcases h with h | ⟨b, o, h1, _⟩
  · exact (hne h).elim
  · rw [h1] at ha
    cases ha
    exact ⟨b, o, rfl⟩
theorem descs_len (l : List Dc) : (l.flatMap descC).length = l.length * 3 := by
  induction l with
  | nil => rfl
  | cons x r ih => simp [ih, descC]; omega
theorem descs_one (l : List Dc) : ∀ u ∈ l.flatMap descC, u.oneCell' = true := by
  intro u hu
  obtain ⟨x, _, hx⟩ := List.mem_flatMap.1 hu
  simp [descC] at hx
  rcases hx with rfl | rfl | rfl <;> rfl
/-- The first copy. -/
theorem copyD (c : Cf) (w : World) (hc : c.In w) (h70 : c.comps.length ≤ 70) {W : World} (hf : Fr (fun _ => False) w W) :
    ∃ v' w', appendV Tryz.prog 47 47 (.slice (some ⟨W.heap.size, 0, none⟩) 0 0) (.slice c.A c.comps.length c.ca) (W.alloc (.cells #[] 52)) = .ok v' w' ∧ w'.ownsRow W.heap.size 52 3 v' c.comps.length (c.comps.flatMap descC) ∧ Fr (fun _ => False) W w' := by
  obtain ⟨v', w', h1, h2, h3⟩ := app_any (P := Tryz.prog) (T := 47) Tryz.underlying47 infoDesc rfl (by omega) (ownsRow_new W W.heap.size 52 3 (Nat.le_refl _)) (m := c.comps.length) (c := c.ca) ((hc.fr (hf.alloc _)).comps) hc.pa (descs_len _) (descs_one _) (by unfold maxLen; omega) (by omega) (by simp)
  exact ⟨v', w', h1, by simpa using h2, h3 W ((Fr.refl _ _).alloc _) (Nat.le_refl _)⟩
/-- The second copy. -/
theorem copyR (c : Cf) (w : World) (hc : c.In w) (h60 : c.res.length ≤ 60) {W : World} (hf : Fr (fun _ => False) w W) :
    ∃ v' w', appendV Tryz.prog 48 48 (.slice (some ⟨W.heap.size, 0, none⟩) 0 0) (.slice c.B c.res.length c.cb) (W.alloc (.cells #[] 2)) = .ok v' w' ∧ w'.ownsRow W.heap.size 2 1 v' c.res.length (ints c.res) ∧ Fr (fun _ => False) W w' := by
  obtain ⟨v', w', h1, h2, h3⟩ := app_any (P := Tryz.prog) (T := 48) Tryz.underlying48 infoI64 rfl (by omega) (ownsRow_new W W.heap.size 2 1 (Nat.le_refl _)) (m := c.res.length) (c := c.cb) ((hc.fr (hf.alloc _)).res) hc.pb (by rw [ints_len]; omega) (ints_one _) (by unfold maxLen; omega) (by omega) (by simp)
  exact ⟨v', w', h1, by simpa using h2, h3 W ((Fr.refl _ _).alloc _) (Nat.le_refl _)⟩
theorem rowC_far {W : World} {A : Option Addr} {cs : List Value} (h : RowC W A cs) {p : Addr} (hne : ∀ a, A = some a → a.block ≠ p.block) (u : Value) : RowC (W.setCell p u) A cs := by
  rcases h with h | ⟨b, o, h1, h2, h3⟩
  · exact .inl h
  · refine .inr ⟨b, o, h1, by simpa using h2, fun i v hi => ?_⟩
    rw [← h3 i v hi]
    exact World.cell?_of_block (Below.heap_setCell W p u b (hne ⟨b, o, none⟩ h1))
theorem own_far {W : World} {base size n m cap : Nat} {e : TypeId} {A : Option Addr} {xs : List Value} (h : W.ownsRow base e size (.slice A m cap) n xs) : ∀ a, A = some a → base ≤ a.block := by
  intro a ha
  rcases h.2 with ⟨hv, _⟩ | ⟨g, cp, cur, hv, hb, _⟩
  · cases hv; cases ha
  · cases hv; cases ha; exact hb
theorem own_plain {W : World} {base size n m cap : Nat} {e : TypeId} {A : Option Addr} {xs : List Value} (h : W.ownsRow base e size (.slice A m cap) n xs) : ∀ a, A = some a → ∃ b o, a = ⟨b, o, none⟩ := by
  intro a ha
  rcases h.2 with ⟨hv, _⟩ | ⟨g, cp, cur, hv, hb, _⟩
  · cases hv; cases ha
  · cases hv; cases ha; exact ⟨g, 0, rfl⟩
/-- Two configurations lie in boxes of their own, at s and behind it. -/
structure Two (s : Nat) (c d : Cf) (W : World) : Prop where
  b1 : Blk W s 50 c.cells
  b2 : Blk W (s + 1) 50 d.cells
  c1 : c.In W
  c2 : d.In W
theorem Two.fr {s : Nat} {c d : Cf} {W W' : World} (h : Two s c d W) (hf : Fr (fun _ => False) W W') : Two s c d W' :=
  ⟨h.b1.fr hf (fun h => h), h.b2.fr hf (fun h => h), h.c1.fr hf, h.c2.fr hf⟩
/-- What is read of them. -/
theorem Two.cells {s : Nat} {c d : Cf} {W : World} (h : Two s c d W) :
    W.cell? ⟨s, 0, none⟩ = some (.int .i64 c.size) ∧ W.cell? ⟨s, 1, none⟩ = some (.int .i64 c.top) ∧ W.cell? ⟨s, 2, none⟩ = some (.slice c.A c.comps.length c.ca) ∧ W.cell? ⟨s, 3, none⟩ = some (.slice c.B c.res.length c.cb) ∧
    W.cell? ⟨s + 1, 0, none⟩ = some (.int .i64 d.size) ∧ W.cell? ⟨s + 1, 1, none⟩ = some (.int .i64 d.top) ∧ W.cell? ⟨s + 1, 2, none⟩ = some (.slice d.A d.comps.length d.ca) ∧ W.cell? ⟨s + 1, 3, none⟩ = some (.slice d.B d.res.length d.cb) :=
  ⟨(h.b1.cell 0).trans rfl, (h.b1.cell 1).trans rfl, (h.b1.cell 2).trans rfl, (h.b1.cell 3).trans rfl, (h.b2.cell 0).trans rfl, (h.b2.cell 1).trans rfl, (h.b2.cell 2).trans rfl, (h.b2.cell 3).trans rfl⟩
theorem sameL_refl (l : List Dc) : sameL l l = true :=
  sameL_of rfl rfl (fun k x y _ h1 h2 => by rw [h1] at h2; cases h2; simp [sameD])
theorem alikeC_refl (c : Cf) : alikeC c c = true := by simp [alikeC, sameL_refl]
end Go.Proofs.YtobbfbmnlmjppaaGreatDoor
