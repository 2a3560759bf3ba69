/-
  Replies that are the same, over the tree. Printed by wip/gen/genSsa.py.
-/
import Derived.Test.YtclmjcjaebonnaaGreatDoorSx20
set_option linter.unusedSimpArgs false
set_option linter.unusedVariables false
namespace Go.Proofs.YtclmjcjaebonnaaGreatDoor
open Go Go.RowKit Go.Viv Go.Eva Go.Sym
/-- What a reply holds beside its rows. -/
structure Sc where
  e : Int
  h1 : Int
  h2 : Int
  k : Int
  a : Int
  b : Int
  fl : Bool
  n : Int
  g1 : Int
  g2 : Int
  p1 : Int
  p2 : Int
  p3 : Int
  st : Int
  lo : Bool
  q1 : Int
  q2 : Int
  q3 : Int
/-- Its rows. -/
structure V5 where
  v1 : Value
  v2 : Value
  v3 : Value
  v4 : Value
  v5 : Value
/-- What its rows hold. -/
structure L5 where
  l1 : List Int
  l2 : List Int
  l3 : List Int
  l4 : List Bool
  l5 : List Int
@[reducible] def cellsR (x : Sc) (V : V5) : List Value := [.int .i64 x.e, .int .i64 x.h1, .int .i64 x.h2, .int .i64 x.k, .int .i64 x.a, .int .i64 x.b, .bool x.fl, .int .i64 x.n, V.v1, V.v2, .int .i64 x.g1, .int .i64 x.g2, V.v3, V.v4, .int .i64 x.p1, .int .i64 x.p2, .int .i64 x.p3, V.v5, .int .i64 x.st, .bool x.lo, .int .i64 x.q1, .int .i64 x.q2, .int .i64 x.q3]
def scOf : List Value → Option (Sc × V5)
  | [.int .i64 e, .int .i64 h1, .int .i64 h2, .int .i64 k, .int .i64 a, .int .i64 b, .bool fl, .int .i64 n, w1, w2, .int .i64 g1, .int .i64 g2, w3, w4, .int .i64 p1, .int .i64 p2, .int .i64 p3, w5, .int .i64 st, .bool lo, .int .i64 q1, .int .i64 q2, .int .i64 q3] => some (⟨e, h1, h2, k, a, b, fl, n, g1, g2, p1, p2, p3, st, lo, q1, q2, q3⟩, ⟨w1, w2, w3, w4, w5⟩)
  | _ => none
theorem scOf_of (x : Sc) (V : V5) : scOf (cellsR x V) = some (x, V) := rfl
theorem scOf_eq {c : List Value} {x : Sc} {V : V5} (h : scOf c = some (x, V)) : c = cellsR x V := by
  unfold scOf at h
  split at h <;> try (cases h; done)
  cases h
  rfl
def l5Of (t : Tr AObj) (V : V5) : Option L5 := match (rowB t 1 V.v1).bind intsL, (rowB t 2 V.v2).bind intsL, (rowB t 3 V.v3).bind intsL, (rowB t 1 V.v4).bind boolsL, (rowB t 3 V.v5).bind intsL with
  | some l1, some l2, some l3, some l4, some l5 => some ⟨l1, l2, l3, l4, l5⟩
  | _, _, _, _, _ => none
structure InR (t : Tr AObj) (V : V5) (l : L5) : Prop where
  r1 : rowB t 1 V.v1 = some (intsC l.l1)
  r2 : rowB t 2 V.v2 = some (intsC l.l2)
  r3 : rowB t 3 V.v3 = some (intsC l.l3)
  r4 : rowB t 1 V.v4 = some (boolsC l.l4)
  r5 : rowB t 3 V.v5 = some (intsC l.l5)
theorem InR.of {t : Tr AObj} {V : V5} {l : L5} (h : l5Of t V = some l) : InR t V l := by
  unfold l5Of at h
  split at h <;> try (cases h; done)
  rename_i l1 l2 l3 l4 l5 h1 h2 h3 h4 h5
  cases h
  have g : ∀ {o : Option (List Value)} {m : List Int}, o.bind intsL = some m → o = some (intsC m) := fun h => by
    obtain ⟨vs, p, q⟩ := Option.bind_eq_some_iff.1 h
    rw [p, intsL_eq q]
  obtain ⟨vs, p, q⟩ := Option.bind_eq_some_iff.1 h4
  exact ⟨g h1, g h2, g h3, by rw [p, boolsL_eq q], g h5⟩
theorem InR.to {t : Tr AObj} {V : V5} {l : L5} (h : InR t V l) : l5Of t V = some l := by
  unfold l5Of
  rw [h.r1, h.r2, h.r3, h.r4, h.r5]
  simp only [Option.bind_some, intsL_of, boolsL_of]
def occ5 (X : Nat) (V : V5) : Prop := occ X V.v1 = true ∨ occ X V.v2 = true ∨ occ X V.v3 = true ∨ occ X V.v4 = true ∨ occ X V.v5 = true
theorem InR.frame {t t' : Tr AObj} {V : V5} {l : L5} (h : InR t V l) (hf : ∀ X, occ5 X V → t'.at_ X = t.at_ X) : InR t' V l :=
  ⟨by rw [rowB_frame fun X hX => hf X (.inl hX)]; exact h.r1, by rw [rowB_frame fun X hX => hf X (.inr (.inl hX))]; exact h.r2, by rw [rowB_frame fun X hX => hf X (.inr (.inr (.inl hX)))]; exact h.r3, by rw [rowB_frame fun X hX => hf X (.inr (.inr (.inr (.inl hX))))]; exact h.r4, by rw [rowB_frame fun X hX => hf X (.inr (.inr (.inr (.inr hX))))]; exact h.r5⟩
def L5.small (l : L5) : Prop := l.l1.length ≤ 60 ∧ l.l2.length ≤ 120 ∧ l.l3.length ≤ 120 ∧ l.l4.length ≤ 60 ∧ l.l5.length ≤ 180
/-- One row is of another length. -/
inductive OneL : L5 → L5 → Prop
  | l1 {l : L5} {m : List Int} : l.l1.length ≠ m.length → OneL l {l with l1 := m}
  | l2 {l : L5} {m : List Int} : l.l2.length ≠ m.length → OneL l {l with l2 := m}
  | l3 {l : L5} {m : List Int} : l.l3.length ≠ m.length → OneL l {l with l3 := m}
  | l4 {l : L5} {m : List Bool} : l.l4.length ≠ m.length → OneL l {l with l4 := m}
  | l5 {l : L5} {m : List Int} : l.l5.length ≠ m.length → OneL l {l with l5 := m}
theorem OneL.ne {l m : L5} (h : OneL l m) : l ≠ m := by
  cases h with
  | l1 h => exact fun e => h (congrArg (fun z : L5 => z.l1.length) e)
  | l2 h => exact fun e => h (congrArg (fun z : L5 => z.l2.length) e)
  | l3 h => exact fun e => h (congrArg (fun z : L5 => z.l3.length) e)
  | l4 h => exact fun e => h (congrArg (fun z : L5 => z.l4.length) e)
  | l5 h => exact fun e => h (congrArg (fun z : L5 => z.l5.length) e)
open Classical in
noncomputable def cSm : Sym.CallS := fun args s => match args with
  | [.agg ⟨c⟩, .agg ⟨d⟩] => match scOf c, scOf d with
    | some (x, V), some (y, U) => match l5Of s.t V, l5Of s.t U with
      | some l, some m => if l.small ∧ m.small ∧ (l = m ∨ x = y ∧ OneL l m) then some (.bool (decide (l = m ∧ x = y)), noneT s 40000) else none
      | _, _ => none
    | _, _ => none
  | _ => none
open Classical in
theorem cSm_same {t : Tr AObj} {n : Nat} {x : Sc} {V : V5} {l : L5} (h : InR t V l) (hs : l.small) : cSm [.agg ⟨cellsR x V⟩, .agg ⟨cellsR x V⟩] ⟨t, n⟩ = some (.bool true, noneT ⟨t, n⟩ 40000) := by
  unfold cSm
  simp only [scOf_of, h.to]
  rw [if_pos ⟨hs, hs, by first | exact .inl rfl | exact .inl trivial⟩]
  simp
open Classical in
theorem cSm_ne {t : Tr AObj} {n : Nat} {x y : Sc} {V U : V5} {l m : L5} (h : InR t V l) (h' : InR t U m) (hs : l.small) (hs' : m.small) (hd : l = m ∧ x ≠ y ∨ x = y ∧ OneL l m) : cSm [.agg ⟨cellsR x V⟩, .agg ⟨cellsR y U⟩] ⟨t, n⟩ = some (.bool false, noneT ⟨t, n⟩ 40000) := by
  unfold cSm
  simp only [scOf_of, h.to, h'.to]
  rw [if_pos ⟨hs, hs', hd.elim (fun h => .inl h.1) .inr⟩]
  rw [decide_eq_false]
  rintro ⟨e1, e2⟩
  rcases hd with ⟨_, h⟩ | ⟨_, h⟩
  · exact h e2
  · exact h.ne e1
theorem eqL_t {k n : Nat} {t : Tr AObj} {v u : Value} {l : List Int} (r : rowB t k v = some (intsC l)) (r' : rowB t k u = some (intsC l)) (hl : l.length ≤ 1000000) : ∃ Q, cEqL k [v, u] ⟨t, n⟩ = some (.bool true, ⟨Q, n + 64 * l.length⟩) ∧ ∀ X, X < n → Q.at_ X = t.at_ X := by
  refine ⟨_, ?_, fun X hX => fillT_out t n (fun _ => none) (n := 64 * l.length) (.inl hX)⟩
  unfold cEqL
  simp only [r, r', intsL_of]
  rw [if_pos (by first | exact ⟨rfl, hl⟩ | exact ⟨trivial, hl⟩)]
  rfl
theorem eqL_f {k n : Nat} {t : Tr AObj} {v u : Value} {l m : List Int} (r : rowB t k v = some (intsC l)) (r' : rowB t k u = some (intsC m)) (hl : l.length ≠ m.length) : ∃ Q, cEqL k [v, u] ⟨t, n⟩ = some (.bool false, ⟨Q, n + 64 * l.length⟩) ∧ ∀ X, X < n → Q.at_ X = t.at_ X := by
  refine ⟨_, ?_, fun X hX => fillT_out t n (fun _ => none) (n := 64 * l.length) (.inl hX)⟩
  unfold cEqL
  simp only [r, r', intsL_of]
  rw [if_neg fun h => hl (by rw [h.1]), if_pos hl]
  rfl
theorem eqB_t {n : Nat} {t : Tr AObj} {v u : Value} {l : List Bool} (r : rowB t 1 v = some (boolsC l)) (r' : rowB t 1 u = some (boolsC l)) (hl : l.length ≤ 1000000) : ∃ Q, cEqB [v, u] ⟨t, n⟩ = some (.bool true, ⟨Q, n + 64 * l.length⟩) ∧ ∀ X, X < n → Q.at_ X = t.at_ X := by
  refine ⟨_, ?_, fun X hX => fillT_out t n (fun _ => none) (n := 64 * l.length) (.inl hX)⟩
  unfold cEqB
  simp only [r, r', boolsL_of]
  rw [if_pos (by first | exact ⟨rfl, hl⟩ | exact ⟨trivial, hl⟩)]
  rfl
theorem eqB_f {n : Nat} {t : Tr AObj} {v u : Value} {l m : List Bool} (r : rowB t 1 v = some (boolsC l)) (r' : rowB t 1 u = some (boolsC m)) (hl : l.length ≠ m.length) : ∃ Q, cEqB [v, u] ⟨t, n⟩ = some (.bool false, ⟨Q, n + 64 * l.length⟩) ∧ ∀ X, X < n → Q.at_ X = t.at_ X := by
  refine ⟨_, ?_, fun X hX => fillT_out t n (fun _ => none) (n := 64 * l.length) (.inl hX)⟩
  unfold cEqB
  simp only [r, r', boolsL_of]
  rw [if_neg fun h => hl (by rw [h.1]), if_pos hl]
  rfl
section
variable {G : Nat} {ν : Toks} {W : World} {may : Nat → Prop} {call : CallB}
set_option maxHeartbeats 8000000 in
set_option maxRecDepth 4000 in
open Classical in
theorem sm_ok (hc : CallOK Tryz.prog G (LBegin Tryz.prog ν LL W may) ν call) (k1 : ∀ a h, call 13 a h = cEqL 1 a h) (k2 : ∀ a h, call 14 a h = cEqL 2 a h) (k3 : ∀ a h, call 15 a h = cEqL 3 a h) (k4 : ∀ a h, call 16 a h = cEqB a h) (k5 : ∀ a h, call 17 a h = cEqL 3 a h) : SpecOK Tryz.prog G (LBegin Tryz.prog ν LL W may) ν 6 cSm := by
  refine fun_okX (by kernel_rfl) hc fun args s v h' e Lv hlv hG => ?_
  unfold cSm at e
  split at e <;> try (cases e; done)
  rename_i cx cy
  split at e <;> try (cases e; done)
  rename_i x V y U hx hy
  obtain rfl := scOf_eq hx
  obtain rfl := scOf_eq hy
  split at e <;> try (cases e; done)
  rename_i l m hl hm
  have iV := InR.of hl
  have iU := InR.of hm
  split at e <;> try (cases e; done)
  rename_i hcnd
  obtain ⟨hs, hs', hd⟩ := hcnd
  unfold noneT at e
  simp only [Option.some.injEq, Prod.mk.injEq] at e
  obtain ⟨rfl, rfl⟩ := e
  have ltV : ∀ X, occ5 X V → X < s.next := fun X h => hlv.lt _ (hlv.arg X (by rcases h with h | h | h | h | h <;> simp [occL, occ, h]))
  have ltU : ∀ X, occ5 X U → X < s.next := fun X h => hlv.lt _ (hlv.arg X (by rcases h with h | h | h | h | h <;> simp [occL, occ, h]))
  clear hx hy hl hm
  obtain ⟨v1, v2, v3, v4, v5⟩ := V
  obtain ⟨u1, u2, u3, u4, u5⟩ := U
  obtain ⟨a1, n1, c1, rfl, -⟩ := row_at iV.r1
  obtain ⟨a2, n2, c2, rfl, -⟩ := row_at iV.r2
  obtain ⟨a3, n3, c3, rfl, -⟩ := row_at iV.r3
  obtain ⟨a4, n4, c4, rfl, -⟩ := row_at iV.r4
  obtain ⟨a5, n5, c5, rfl, -⟩ := row_at iV.r5
  obtain ⟨b1, m1, d1, rfl, -⟩ := row_at iU.r1
  obtain ⟨b2, m2, d2, rfl, -⟩ := row_at iU.r2
  obtain ⟨b3, m3, d3, rfl, -⟩ := row_at iU.r3
  obtain ⟨b4, m4, d4, rfl, -⟩ := row_at iU.r4
  obtain ⟨b5, m5, d5, rfl, -⟩ := row_at iU.r5
  refine ⟨by simp, 0, ?_⟩
  generalize hQ : (s.t.set s.next (some (.cells [.int .i64 x.e, .int .i64 x.h1, .int .i64 x.h2, .int .i64 x.k, .int .i64 x.a, .int .i64 x.b, .bool x.fl, .int .i64 x.n, .slice a1 n1 c1, .slice a2 n2 c2, .int .i64 x.g1, .int .i64 x.g2, .slice a3 n3 c3, .slice a4 n4 c4, .int .i64 x.p1, .int .i64 x.p2, .int .i64 x.p3, .slice a5 n5 c5, .int .i64 x.st, .bool x.lo, .int .i64 x.q1, .int .i64 x.q2, .int .i64 x.q3] 39 true))).set (s.next + 1) (some (.cells [.int .i64 y.e, .int .i64 y.h1, .int .i64 y.h2, .int .i64 y.k, .int .i64 y.a, .int .i64 y.b, .bool y.fl, .int .i64 y.n, .slice b1 m1 d1, .slice b2 m2 d2, .int .i64 y.g1, .int .i64 y.g2, .slice b3 m3 d3, .slice b4 m4 d4, .int .i64 y.p1, .int .i64 y.p2, .int .i64 y.p3, .slice b5 m5 d5, .int .i64 y.st, .bool y.lo, .int .i64 y.q1, .int .i64 y.q2, .int .i64 y.q3] 39 true)) = Q at *
  have hQo : ∀ X, X < s.next → Q.at_ X = s.t.at_ X := fun X hX => by rw [← hQ]; simp (disch := omega) only [go_sem, reduceIte, sliceB]
  have gx : Q.at_ s.next = some (.cells [.int .i64 x.e, .int .i64 x.h1, .int .i64 x.h2, .int .i64 x.k, .int .i64 x.a, .int .i64 x.b, .bool x.fl, .int .i64 x.n, .slice a1 n1 c1, .slice a2 n2 c2, .int .i64 x.g1, .int .i64 x.g2, .slice a3 n3 c3, .slice a4 n4 c4, .int .i64 x.p1, .int .i64 x.p2, .int .i64 x.p3, .slice a5 n5 c5, .int .i64 x.st, .bool x.lo, .int .i64 x.q1, .int .i64 x.q2, .int .i64 x.q3] 39 true) := by rw [← hQ]; simp (disch := omega) only [go_sem, reduceIte, sliceB]
  have gy : Q.at_ (s.next + 1) = some (.cells [.int .i64 y.e, .int .i64 y.h1, .int .i64 y.h2, .int .i64 y.k, .int .i64 y.a, .int .i64 y.b, .bool y.fl, .int .i64 y.n, .slice b1 m1 d1, .slice b2 m2 d2, .int .i64 y.g1, .int .i64 y.g2, .slice b3 m3 d3, .slice b4 m4 d4, .int .i64 y.p1, .int .i64 y.p2, .int .i64 y.p3, .slice b5 m5 d5, .int .i64 y.st, .bool y.lo, .int .i64 y.q1, .int .i64 y.q2, .int .i64 y.q3] 39 true) := by rw [← hQ]; simp (disch := omega) only [go_sem, reduceIte, sliceB]
  have fV : ∀ T : Tr AObj, (∀ X, X < s.next → T.at_ X = s.t.at_ X) → InR T ⟨.slice a1 n1 c1, .slice a2 n2 c2, .slice a3 n3 c3, .slice a4 n4 c4, .slice a5 n5 c5⟩ l := fun T hT => iV.frame fun X h => hT X (ltV X h)
  have fU : ∀ T : Tr AObj, (∀ X, X < s.next → T.at_ X = s.t.at_ X) → InR T ⟨.slice b1 m1 d1, .slice b2 m2 d2, .slice b3 m3 d3, .slice b4 m4 d4, .slice b5 m5 d5⟩ m := fun T hT => iU.frame fun X h => hT X (ltU X h)
  obtain ⟨s1, s2, s3, s4, s5⟩ := hs
  rcases hd with rfl | ⟨rfl, hone⟩
  · -- the rows are the same
    obtain ⟨Q1, e1, o1⟩ := eqL_t (n := s.next + 1 + 1) (v := .slice a1 n1 c1) (u := .slice b1 m1 d1) (fV Q hQo).r1 (fU Q hQo).r1 (by omega)
    have p1 : ∀ X, X < s.next → Q1.at_ X = s.t.at_ X := fun X hX => (o1 X (by omega)).trans (hQo X hX)
    have gx1 := (o1 s.next (by omega)).trans gx
    have gy1 := (o1 (s.next + 1) (by omega)).trans gy
    obtain ⟨Q2, e2, o2⟩ := eqL_t (n := s.next + 1 + 1 + 64 * l.l1.length) (v := .slice a2 n2 c2) (u := .slice b2 m2 d2) (fV Q1 p1).r2 (fU Q1 p1).r2 (by omega)
    have p2 : ∀ X, X < s.next → Q2.at_ X = s.t.at_ X := fun X hX => (o2 X (by omega)).trans (p1 X hX)
    have gx2 := (o2 s.next (by omega)).trans gx1
    have gy2 := (o2 (s.next + 1) (by omega)).trans gy1
    obtain ⟨Q3, e3, o3⟩ := eqL_t (n := s.next + 1 + 1 + 64 * l.l1.length + 64 * l.l2.length) (v := .slice a3 n3 c3) (u := .slice b3 m3 d3) (fV Q2 p2).r3 (fU Q2 p2).r3 (by omega)
    have p3 : ∀ X, X < s.next → Q3.at_ X = s.t.at_ X := fun X hX => (o3 X (by omega)).trans (p2 X hX)
    have gx3 := (o3 s.next (by omega)).trans gx2
    have gy3 := (o3 (s.next + 1) (by omega)).trans gy2
    obtain ⟨Q4, e4, o4⟩ := eqB_t (n := s.next + 1 + 1 + 64 * l.l1.length + 64 * l.l2.length + 64 * l.l3.length) (v := .slice a4 n4 c4) (u := .slice b4 m4 d4) (fV Q3 p3).r4 (fU Q3 p3).r4 (by omega)
    have p4 : ∀ X, X < s.next → Q4.at_ X = s.t.at_ X := fun X hX => (o4 X (by omega)).trans (p3 X hX)
    have gx4 := (o4 s.next (by omega)).trans gx3
    have gy4 := (o4 (s.next + 1) (by omega)).trans gy3
    obtain ⟨Q5, e5, o5⟩ := eqL_t (n := s.next + 1 + 1 + 64 * l.l1.length + 64 * l.l2.length + 64 * l.l3.length + 64 * l.l4.length) (v := .slice a5 n5 c5) (u := .slice b5 m5 d5) (fV Q4 p4).r5 (fU Q4 p4).r5 (by omega)
    have p5 : ∀ X, X < s.next → Q5.at_ X = s.t.at_ X := fun X hX => (o5 X (by omega)).trans (p4 X hX)
    have gx5 := (o5 s.next (by omega)).trans gx4
    have gy5 := (o5 (s.next + 1) (by omega)).trans gy4
    by_cases t0 : x.e = y.e
    rotate_left
    · have b0 : decide (x.e = y.e) = false := by exact decide_eq_false t0
      rw [decide_eq_false (fun h => t0 (congrArg Sc.e h.2))]
      refine ⟨Tryz.f6, _, Tryz.func6, rfl, by simp [Tryz.f6], ?_⟩; rw [Tryz.ntmps6]
      repeat' (first | simp (disch := omega) only [go_sem, reduceIte, sliceB, hQ, gx, gy, e1, gx1, gy1, e2, gx2, gy2, e3, gx3, gy3, e4, gx4, gy4, e5, gx5, gy5, k1, k2, k3, k4, k5, b_eqlB und4, Tryz.results6, b0] | (with_reducible refine w_chain0 ?_ ?_; focus (decide +kernel)) | (with_reducible refine condK_of _ _ ?_ ?_ <;> (intro hb; try simp only [decide_eq_true_eq, decide_eq_false_iff_not] at hb)) | (with_reducible refine gdK_of_f _ _ _ _ _ ?_ ?_ <;> (intro hb; try simp only [decide_eq_true_eq, decide_eq_false_iff_not] at hb)) | (with_reducible refine gdK_of_t _ _ _ _ _ ?_ ?_ <;> (intro hb; try simp only [decide_eq_true_eq, decide_eq_false_iff_not] at hb)) | (with_reducible refine gK_of_f _ _ _ ?_ ?_ <;> (intro hb; try simp only [decide_eq_true_eq, decide_eq_false_iff_not] at hb)) | (with_reducible refine gK_of_t _ _ _ ?_ ?_ <;> (intro hb; try simp only [decide_eq_true_eq, decide_eq_false_iff_not] at hb)))
      exact endsX_same rfl (by (try simp only); omega) fun X hX => p5 X hX
    have b0 : decide (x.e = y.e) = true := by exact decide_eq_true t0
    by_cases t1 : x.h1 = y.h1 ∧ x.h2 = y.h2
    rotate_left
    · have b1 : (decide (x.h1 = y.h1) && decide (x.h2 = y.h2)) = false := by cases hb : (decide (x.h1 = y.h1) && decide (x.h2 = y.h2)) with | false => rfl | true => simp only [Bool.and_eq_true, decide_eq_true_eq] at hb; exact (t1 hb).elim
      rw [decide_eq_false (fun h => t1 (⟨congrArg Sc.h1 h.2, congrArg Sc.h2 h.2⟩))]
      refine ⟨Tryz.f6, _, Tryz.func6, rfl, by simp [Tryz.f6], ?_⟩; rw [Tryz.ntmps6]
      repeat' (first | simp (disch := omega) only [go_sem, reduceIte, sliceB, hQ, gx, gy, e1, gx1, gy1, e2, gx2, gy2, e3, gx3, gy3, e4, gx4, gy4, e5, gx5, gy5, k1, k2, k3, k4, k5, b_eqlB und4, Tryz.results6, b0, b1] | (with_reducible refine w_chain0 ?_ ?_; focus (decide +kernel)) | (with_reducible refine condK_of _ _ ?_ ?_ <;> (intro hb; try simp only [decide_eq_true_eq, decide_eq_false_iff_not] at hb)) | (with_reducible refine gdK_of_f _ _ _ _ _ ?_ ?_ <;> (intro hb; try simp only [decide_eq_true_eq, decide_eq_false_iff_not] at hb)) | (with_reducible refine gdK_of_t _ _ _ _ _ ?_ ?_ <;> (intro hb; try simp only [decide_eq_true_eq, decide_eq_false_iff_not] at hb)) | (with_reducible refine gK_of_f _ _ _ ?_ ?_ <;> (intro hb; try simp only [decide_eq_true_eq, decide_eq_false_iff_not] at hb)) | (with_reducible refine gK_of_t _ _ _ ?_ ?_ <;> (intro hb; try simp only [decide_eq_true_eq, decide_eq_false_iff_not] at hb)))
      exact endsX_same rfl (by (try simp only); omega) fun X hX => p5 X hX
    have b1 : (decide (x.h1 = y.h1) && decide (x.h2 = y.h2)) = true := by simp only [Bool.and_eq_true, decide_eq_true_eq]; exact t1
    by_cases t2 : x.k = y.k ∧ x.a = y.a ∧ x.b = y.b
    rotate_left
    · have b2 : (decide (x.k = y.k) && (decide (x.a = y.a) && decide (x.b = y.b))) = false := by cases hb : (decide (x.k = y.k) && (decide (x.a = y.a) && decide (x.b = y.b))) with | false => rfl | true => simp only [Bool.and_eq_true, decide_eq_true_eq] at hb; exact (t2 hb).elim
      rw [decide_eq_false (fun h => t2 (⟨congrArg Sc.k h.2, congrArg Sc.a h.2, congrArg Sc.b h.2⟩))]
      refine ⟨Tryz.f6, _, Tryz.func6, rfl, by simp [Tryz.f6], ?_⟩; rw [Tryz.ntmps6]
      repeat' (first | simp (disch := omega) only [go_sem, reduceIte, sliceB, hQ, gx, gy, e1, gx1, gy1, e2, gx2, gy2, e3, gx3, gy3, e4, gx4, gy4, e5, gx5, gy5, k1, k2, k3, k4, k5, b_eqlB und4, Tryz.results6, b0, b1, b2] | (with_reducible refine w_chain0 ?_ ?_; focus (decide +kernel)) | (with_reducible refine condK_of _ _ ?_ ?_ <;> (intro hb; try simp only [decide_eq_true_eq, decide_eq_false_iff_not] at hb)) | (with_reducible refine gdK_of_f _ _ _ _ _ ?_ ?_ <;> (intro hb; try simp only [decide_eq_true_eq, decide_eq_false_iff_not] at hb)) | (with_reducible refine gdK_of_t _ _ _ _ _ ?_ ?_ <;> (intro hb; try simp only [decide_eq_true_eq, decide_eq_false_iff_not] at hb)) | (with_reducible refine gK_of_f _ _ _ ?_ ?_ <;> (intro hb; try simp only [decide_eq_true_eq, decide_eq_false_iff_not] at hb)) | (with_reducible refine gK_of_t _ _ _ ?_ ?_ <;> (intro hb; try simp only [decide_eq_true_eq, decide_eq_false_iff_not] at hb)))
      exact endsX_same rfl (by (try simp only); omega) fun X hX => p5 X hX
    have b2 : (decide (x.k = y.k) && (decide (x.a = y.a) && decide (x.b = y.b))) = true := by simp only [Bool.and_eq_true, decide_eq_true_eq]; exact t2
    by_cases t3 : x.fl = y.fl
    rotate_left
    · have b3 : (x.fl == y.fl) = false := by simp only [beq_eq_false_iff_ne, ne_eq]; exact t3
      rw [decide_eq_false (fun h => t3 (congrArg Sc.fl h.2))]
      refine ⟨Tryz.f6, _, Tryz.func6, rfl, by simp [Tryz.f6], ?_⟩; rw [Tryz.ntmps6]
      repeat' (first | simp (disch := omega) only [go_sem, reduceIte, sliceB, hQ, gx, gy, e1, gx1, gy1, e2, gx2, gy2, e3, gx3, gy3, e4, gx4, gy4, e5, gx5, gy5, k1, k2, k3, k4, k5, b_eqlB und4, Tryz.results6, b0, b1, b2, b3] | (with_reducible refine w_chain0 ?_ ?_; focus (decide +kernel)) | (with_reducible refine condK_of _ _ ?_ ?_ <;> (intro hb; try simp only [decide_eq_true_eq, decide_eq_false_iff_not] at hb)) | (with_reducible refine gdK_of_f _ _ _ _ _ ?_ ?_ <;> (intro hb; try simp only [decide_eq_true_eq, decide_eq_false_iff_not] at hb)) | (with_reducible refine gdK_of_t _ _ _ _ _ ?_ ?_ <;> (intro hb; try simp only [decide_eq_true_eq, decide_eq_false_iff_not] at hb)) | (with_reducible refine gK_of_f _ _ _ ?_ ?_ <;> (intro hb; try simp only [decide_eq_true_eq, decide_eq_false_iff_not] at hb)) | (with_reducible refine gK_of_t _ _ _ ?_ ?_ <;> (intro hb; try simp only [decide_eq_true_eq, decide_eq_false_iff_not] at hb)))
      exact endsX_same rfl (by (try simp only); omega) fun X hX => p5 X hX
    have b3 : (x.fl == y.fl) = true := by simp only [beq_iff_eq]; exact t3
    by_cases t4 : x.n = y.n
    rotate_left
    · have b4 : decide (x.n = y.n) = false := by exact decide_eq_false t4
      rw [decide_eq_false (fun h => t4 (congrArg Sc.n h.2))]
      refine ⟨Tryz.f6, _, Tryz.func6, rfl, by simp [Tryz.f6], ?_⟩; rw [Tryz.ntmps6]
      repeat' (first | simp (disch := omega) only [go_sem, reduceIte, sliceB, hQ, gx, gy, e1, gx1, gy1, e2, gx2, gy2, e3, gx3, gy3, e4, gx4, gy4, e5, gx5, gy5, k1, k2, k3, k4, k5, b_eqlB und4, Tryz.results6, b0, b1, b2, b3, b4] | (with_reducible refine w_chain0 ?_ ?_; focus (decide +kernel)) | (with_reducible refine condK_of _ _ ?_ ?_ <;> (intro hb; try simp only [decide_eq_true_eq, decide_eq_false_iff_not] at hb)) | (with_reducible refine gdK_of_f _ _ _ _ _ ?_ ?_ <;> (intro hb; try simp only [decide_eq_true_eq, decide_eq_false_iff_not] at hb)) | (with_reducible refine gdK_of_t _ _ _ _ _ ?_ ?_ <;> (intro hb; try simp only [decide_eq_true_eq, decide_eq_false_iff_not] at hb)) | (with_reducible refine gK_of_f _ _ _ ?_ ?_ <;> (intro hb; try simp only [decide_eq_true_eq, decide_eq_false_iff_not] at hb)) | (with_reducible refine gK_of_t _ _ _ ?_ ?_ <;> (intro hb; try simp only [decide_eq_true_eq, decide_eq_false_iff_not] at hb)))
      exact endsX_same rfl (by (try simp only); omega) fun X hX => p5 X hX
    have b4 : decide (x.n = y.n) = true := by exact decide_eq_true t4
    by_cases t5 : x.g1 = y.g1 ∧ x.g2 = y.g2
    rotate_left
    · have b5 : (decide (x.g1 = y.g1) && decide (x.g2 = y.g2)) = false := by cases hb : (decide (x.g1 = y.g1) && decide (x.g2 = y.g2)) with | false => rfl | true => simp only [Bool.and_eq_true, decide_eq_true_eq] at hb; exact (t5 hb).elim
      rw [decide_eq_false (fun h => t5 (⟨congrArg Sc.g1 h.2, congrArg Sc.g2 h.2⟩))]
      refine ⟨Tryz.f6, _, Tryz.func6, rfl, by simp [Tryz.f6], ?_⟩; rw [Tryz.ntmps6]
      repeat' (first | simp (disch := omega) only [go_sem, reduceIte, sliceB, hQ, gx, gy, e1, gx1, gy1, e2, gx2, gy2, e3, gx3, gy3, e4, gx4, gy4, e5, gx5, gy5, k1, k2, k3, k4, k5, b_eqlB und4, Tryz.results6, b0, b1, b2, b3, b4, b5] | (with_reducible refine w_chain0 ?_ ?_; focus (decide +kernel)) | (with_reducible refine condK_of _ _ ?_ ?_ <;> (intro hb; try simp only [decide_eq_true_eq, decide_eq_false_iff_not] at hb)) | (with_reducible refine gdK_of_f _ _ _ _ _ ?_ ?_ <;> (intro hb; try simp only [decide_eq_true_eq, decide_eq_false_iff_not] at hb)) | (with_reducible refine gdK_of_t _ _ _ _ _ ?_ ?_ <;> (intro hb; try simp only [decide_eq_true_eq, decide_eq_false_iff_not] at hb)) | (with_reducible refine gK_of_f _ _ _ ?_ ?_ <;> (intro hb; try simp only [decide_eq_true_eq, decide_eq_false_iff_not] at hb)) | (with_reducible refine gK_of_t _ _ _ ?_ ?_ <;> (intro hb; try simp only [decide_eq_true_eq, decide_eq_false_iff_not] at hb)))
      exact endsX_same rfl (by (try simp only); omega) fun X hX => p5 X hX
    have b5 : (decide (x.g1 = y.g1) && decide (x.g2 = y.g2)) = true := by simp only [Bool.and_eq_true, decide_eq_true_eq]; exact t5
    by_cases t6 : x.p1 = y.p1 ∧ x.p2 = y.p2 ∧ x.p3 = y.p3
    rotate_left
    · have b6 : (decide (x.p1 = y.p1) && (decide (x.p2 = y.p2) && decide (x.p3 = y.p3))) = false := by cases hb : (decide (x.p1 = y.p1) && (decide (x.p2 = y.p2) && decide (x.p3 = y.p3))) with | false => rfl | true => simp only [Bool.and_eq_true, decide_eq_true_eq] at hb; exact (t6 hb).elim
      rw [decide_eq_false (fun h => t6 (⟨congrArg Sc.p1 h.2, congrArg Sc.p2 h.2, congrArg Sc.p3 h.2⟩))]
      refine ⟨Tryz.f6, _, Tryz.func6, rfl, by simp [Tryz.f6], ?_⟩; rw [Tryz.ntmps6]
      repeat' (first | simp (disch := omega) only [go_sem, reduceIte, sliceB, hQ, gx, gy, e1, gx1, gy1, e2, gx2, gy2, e3, gx3, gy3, e4, gx4, gy4, e5, gx5, gy5, k1, k2, k3, k4, k5, b_eqlB und4, Tryz.results6, b0, b1, b2, b3, b4, b5, b6] | (with_reducible refine w_chain0 ?_ ?_; focus (decide +kernel)) | (with_reducible refine condK_of _ _ ?_ ?_ <;> (intro hb; try simp only [decide_eq_true_eq, decide_eq_false_iff_not] at hb)) | (with_reducible refine gdK_of_f _ _ _ _ _ ?_ ?_ <;> (intro hb; try simp only [decide_eq_true_eq, decide_eq_false_iff_not] at hb)) | (with_reducible refine gdK_of_t _ _ _ _ _ ?_ ?_ <;> (intro hb; try simp only [decide_eq_true_eq, decide_eq_false_iff_not] at hb)) | (with_reducible refine gK_of_f _ _ _ ?_ ?_ <;> (intro hb; try simp only [decide_eq_true_eq, decide_eq_false_iff_not] at hb)) | (with_reducible refine gK_of_t _ _ _ ?_ ?_ <;> (intro hb; try simp only [decide_eq_true_eq, decide_eq_false_iff_not] at hb)))
      exact endsX_same rfl (by (try simp only); omega) fun X hX => p5 X hX
    have b6 : (decide (x.p1 = y.p1) && (decide (x.p2 = y.p2) && decide (x.p3 = y.p3))) = true := by simp only [Bool.and_eq_true, decide_eq_true_eq]; exact t6
    by_cases t7 : x.st = y.st
    rotate_left
    · have b7 : decide (x.st = y.st) = false := by exact decide_eq_false t7
      rw [decide_eq_false (fun h => t7 (congrArg Sc.st h.2))]
      refine ⟨Tryz.f6, _, Tryz.func6, rfl, by simp [Tryz.f6], ?_⟩; rw [Tryz.ntmps6]
      repeat' (first | simp (disch := omega) only [go_sem, reduceIte, sliceB, hQ, gx, gy, e1, gx1, gy1, e2, gx2, gy2, e3, gx3, gy3, e4, gx4, gy4, e5, gx5, gy5, k1, k2, k3, k4, k5, b_eqlB und4, Tryz.results6, b0, b1, b2, b3, b4, b5, b6, b7] | (with_reducible refine w_chain0 ?_ ?_; focus (decide +kernel)) | (with_reducible refine condK_of _ _ ?_ ?_ <;> (intro hb; try simp only [decide_eq_true_eq, decide_eq_false_iff_not] at hb)) | (with_reducible refine gdK_of_f _ _ _ _ _ ?_ ?_ <;> (intro hb; try simp only [decide_eq_true_eq, decide_eq_false_iff_not] at hb)) | (with_reducible refine gdK_of_t _ _ _ _ _ ?_ ?_ <;> (intro hb; try simp only [decide_eq_true_eq, decide_eq_false_iff_not] at hb)) | (with_reducible refine gK_of_f _ _ _ ?_ ?_ <;> (intro hb; try simp only [decide_eq_true_eq, decide_eq_false_iff_not] at hb)) | (with_reducible refine gK_of_t _ _ _ ?_ ?_ <;> (intro hb; try simp only [decide_eq_true_eq, decide_eq_false_iff_not] at hb)))
      exact endsX_same rfl (by (try simp only); omega) fun X hX => p5 X hX
    have b7 : decide (x.st = y.st) = true := by exact decide_eq_true t7
    by_cases t8 : x.lo = y.lo
    rotate_left
    · have b8 : (x.lo == y.lo) = false := by simp only [beq_eq_false_iff_ne, ne_eq]; exact t8
      rw [decide_eq_false (fun h => t8 (congrArg Sc.lo h.2))]
      refine ⟨Tryz.f6, _, Tryz.func6, rfl, by simp [Tryz.f6], ?_⟩; rw [Tryz.ntmps6]
      repeat' (first | simp (disch := omega) only [go_sem, reduceIte, sliceB, hQ, gx, gy, e1, gx1, gy1, e2, gx2, gy2, e3, gx3, gy3, e4, gx4, gy4, e5, gx5, gy5, k1, k2, k3, k4, k5, b_eqlB und4, Tryz.results6, b0, b1, b2, b3, b4, b5, b6, b7, b8] | (with_reducible refine w_chain0 ?_ ?_; focus (decide +kernel)) | (with_reducible refine condK_of _ _ ?_ ?_ <;> (intro hb; try simp only [decide_eq_true_eq, decide_eq_false_iff_not] at hb)) | (with_reducible refine gdK_of_f _ _ _ _ _ ?_ ?_ <;> (intro hb; try simp only [decide_eq_true_eq, decide_eq_false_iff_not] at hb)) | (with_reducible refine gdK_of_t _ _ _ _ _ ?_ ?_ <;> (intro hb; try simp only [decide_eq_true_eq, decide_eq_false_iff_not] at hb)) | (with_reducible refine gK_of_f _ _ _ ?_ ?_ <;> (intro hb; try simp only [decide_eq_true_eq, decide_eq_false_iff_not] at hb)) | (with_reducible refine gK_of_t _ _ _ ?_ ?_ <;> (intro hb; try simp only [decide_eq_true_eq, decide_eq_false_iff_not] at hb)))
      exact endsX_same rfl (by (try simp only); omega) fun X hX => p5 X hX
    have b8 : (x.lo == y.lo) = true := by simp only [beq_iff_eq]; exact t8
    by_cases t9 : x.q1 = y.q1 ∧ x.q2 = y.q2 ∧ x.q3 = y.q3
    rotate_left
    · have b9 : (decide (x.q1 = y.q1) && (decide (x.q2 = y.q2) && decide (x.q3 = y.q3))) = false := by cases hb : (decide (x.q1 = y.q1) && (decide (x.q2 = y.q2) && decide (x.q3 = y.q3))) with | false => rfl | true => simp only [Bool.and_eq_true, decide_eq_true_eq] at hb; exact (t9 hb).elim
      rw [decide_eq_false (fun h => t9 (⟨congrArg Sc.q1 h.2, congrArg Sc.q2 h.2, congrArg Sc.q3 h.2⟩))]
      refine ⟨Tryz.f6, _, Tryz.func6, rfl, by simp [Tryz.f6], ?_⟩; rw [Tryz.ntmps6]
      repeat' (first | simp (disch := omega) only [go_sem, reduceIte, sliceB, hQ, gx, gy, e1, gx1, gy1, e2, gx2, gy2, e3, gx3, gy3, e4, gx4, gy4, e5, gx5, gy5, k1, k2, k3, k4, k5, b_eqlB und4, Tryz.results6, b0, b1, b2, b3, b4, b5, b6, b7, b8, b9] | (with_reducible refine w_chain0 ?_ ?_; focus (decide +kernel)) | (with_reducible refine condK_of _ _ ?_ ?_ <;> (intro hb; try simp only [decide_eq_true_eq, decide_eq_false_iff_not] at hb)) | (with_reducible refine gdK_of_f _ _ _ _ _ ?_ ?_ <;> (intro hb; try simp only [decide_eq_true_eq, decide_eq_false_iff_not] at hb)) | (with_reducible refine gdK_of_t _ _ _ _ _ ?_ ?_ <;> (intro hb; try simp only [decide_eq_true_eq, decide_eq_false_iff_not] at hb)) | (with_reducible refine gK_of_f _ _ _ ?_ ?_ <;> (intro hb; try simp only [decide_eq_true_eq, decide_eq_false_iff_not] at hb)) | (with_reducible refine gK_of_t _ _ _ ?_ ?_ <;> (intro hb; try simp only [decide_eq_true_eq, decide_eq_false_iff_not] at hb)))
      exact endsX_same rfl (by (try simp only); omega) fun X hX => p5 X hX
    have b9 : (decide (x.q1 = y.q1) && (decide (x.q2 = y.q2) && decide (x.q3 = y.q3))) = true := by simp only [Bool.and_eq_true, decide_eq_true_eq]; exact t9
    rw [decide_eq_true ⟨rfl, by cases x; cases y; simp_all⟩]
    refine ⟨Tryz.f6, _, Tryz.func6, rfl, by simp [Tryz.f6], ?_⟩; rw [Tryz.ntmps6]
    repeat' (first | simp (disch := omega) only [go_sem, reduceIte, sliceB, hQ, gx, gy, e1, gx1, gy1, e2, gx2, gy2, e3, gx3, gy3, e4, gx4, gy4, e5, gx5, gy5, k1, k2, k3, k4, k5, b_eqlB und4, Tryz.results6, b0, b1, b2, b3, b4, b5, b6, b7, b8, b9] | (with_reducible refine w_chain0 ?_ ?_; focus (decide +kernel)) | (with_reducible refine condK_of _ _ ?_ ?_ <;> (intro hb; try simp only [decide_eq_true_eq, decide_eq_false_iff_not] at hb)) | (with_reducible refine gdK_of_f _ _ _ _ _ ?_ ?_ <;> (intro hb; try simp only [decide_eq_true_eq, decide_eq_false_iff_not] at hb)) | (with_reducible refine gdK_of_t _ _ _ _ _ ?_ ?_ <;> (intro hb; try simp only [decide_eq_true_eq, decide_eq_false_iff_not] at hb)) | (with_reducible refine gK_of_f _ _ _ ?_ ?_ <;> (intro hb; try simp only [decide_eq_true_eq, decide_eq_false_iff_not] at hb)) | (with_reducible refine gK_of_t _ _ _ ?_ ?_ <;> (intro hb; try simp only [decide_eq_true_eq, decide_eq_false_iff_not] at hb)))
    exact endsX_same rfl (by (try simp only); omega) fun X hX => p5 X hX
  cases hone
  · rename_i m hne
    rw [decide_eq_false (fun h => (OneL.l1 hne).ne h.1)]
    obtain ⟨Q1, e1, o1⟩ := eqL_f (n := s.next + 1 + 1) (v := .slice a1 n1 c1) (u := .slice b1 m1 d1) (fV Q hQo).r1 (fU Q hQo).r1 (by simp only; exact hne)
    have p1 : ∀ X, X < s.next → Q1.at_ X = s.t.at_ X := fun X hX => (o1 X (by omega)).trans (hQo X hX)
    have gx1 := (o1 s.next (by omega)).trans gx
    have gy1 := (o1 (s.next + 1) (by omega)).trans gy
    refine ⟨Tryz.f6, _, Tryz.func6, rfl, by simp [Tryz.f6], ?_⟩; rw [Tryz.ntmps6]
    repeat' (first | simp (disch := omega) only [go_sem, reduceIte, sliceB, hQ, gx, gy, e1, gx1, gy1, k1, k2, k3, k4, k5, b_eqlB und4, Tryz.results6, decide_true, beq_self_eq_true] | (with_reducible refine w_chain0 ?_ ?_; focus (decide +kernel)) | (with_reducible refine condK_of _ _ ?_ ?_ <;> (intro hb; try simp only [decide_eq_true_eq, decide_eq_false_iff_not] at hb)) | (with_reducible refine gdK_of_f _ _ _ _ _ ?_ ?_ <;> (intro hb; try simp only [decide_eq_true_eq, decide_eq_false_iff_not] at hb)) | (with_reducible refine gdK_of_t _ _ _ _ _ ?_ ?_ <;> (intro hb; try simp only [decide_eq_true_eq, decide_eq_false_iff_not] at hb)) | (with_reducible refine gK_of_f _ _ _ ?_ ?_ <;> (intro hb; try simp only [decide_eq_true_eq, decide_eq_false_iff_not] at hb)) | (with_reducible refine gK_of_t _ _ _ ?_ ?_ <;> (intro hb; try simp only [decide_eq_true_eq, decide_eq_false_iff_not] at hb)))
    exact endsX_same rfl (by (try simp only); omega) fun X hX => p1 X hX
  · rename_i m hne
    rw [decide_eq_false (fun h => (OneL.l2 hne).ne h.1)]
    obtain ⟨Q1, e1, o1⟩ := eqL_t (n := s.next + 1 + 1) (v := .slice a1 n1 c1) (u := .slice b1 m1 d1) (fV Q hQo).r1 (fU Q hQo).r1 (by omega)
    have p1 : ∀ X, X < s.next → Q1.at_ X = s.t.at_ X := fun X hX => (o1 X (by omega)).trans (hQo X hX)
    have gx1 := (o1 s.next (by omega)).trans gx
    have gy1 := (o1 (s.next + 1) (by omega)).trans gy
    obtain ⟨Q2, e2, o2⟩ := eqL_f (n := s.next + 1 + 1 + 64 * l.l1.length) (v := .slice a2 n2 c2) (u := .slice b2 m2 d2) (fV Q1 p1).r2 (fU Q1 p1).r2 (by simp only; exact hne)
    have p2 : ∀ X, X < s.next → Q2.at_ X = s.t.at_ X := fun X hX => (o2 X (by omega)).trans (p1 X hX)
    have gx2 := (o2 s.next (by omega)).trans gx1
    have gy2 := (o2 (s.next + 1) (by omega)).trans gy1
    refine ⟨Tryz.f6, _, Tryz.func6, rfl, by simp [Tryz.f6], ?_⟩; rw [Tryz.ntmps6]
    repeat' (first | simp (disch := omega) only [go_sem, reduceIte, sliceB, hQ, gx, gy, e1, gx1, gy1, e2, gx2, gy2, k1, k2, k3, k4, k5, b_eqlB und4, Tryz.results6, decide_true, beq_self_eq_true] | (with_reducible refine w_chain0 ?_ ?_; focus (decide +kernel)) | (with_reducible refine condK_of _ _ ?_ ?_ <;> (intro hb; try simp only [decide_eq_true_eq, decide_eq_false_iff_not] at hb)) | (with_reducible refine gdK_of_f _ _ _ _ _ ?_ ?_ <;> (intro hb; try simp only [decide_eq_true_eq, decide_eq_false_iff_not] at hb)) | (with_reducible refine gdK_of_t _ _ _ _ _ ?_ ?_ <;> (intro hb; try simp only [decide_eq_true_eq, decide_eq_false_iff_not] at hb)) | (with_reducible refine gK_of_f _ _ _ ?_ ?_ <;> (intro hb; try simp only [decide_eq_true_eq, decide_eq_false_iff_not] at hb)) | (with_reducible refine gK_of_t _ _ _ ?_ ?_ <;> (intro hb; try simp only [decide_eq_true_eq, decide_eq_false_iff_not] at hb)))
    exact endsX_same rfl (by (try simp only); omega) fun X hX => p2 X hX
  · rename_i m hne
    rw [decide_eq_false (fun h => (OneL.l3 hne).ne h.1)]
    obtain ⟨Q1, e1, o1⟩ := eqL_t (n := s.next + 1 + 1) (v := .slice a1 n1 c1) (u := .slice b1 m1 d1) (fV Q hQo).r1 (fU Q hQo).r1 (by omega)
    have p1 : ∀ X, X < s.next → Q1.at_ X = s.t.at_ X := fun X hX => (o1 X (by omega)).trans (hQo X hX)
    have gx1 := (o1 s.next (by omega)).trans gx
    have gy1 := (o1 (s.next + 1) (by omega)).trans gy
    obtain ⟨Q2, e2, o2⟩ := eqL_t (n := s.next + 1 + 1 + 64 * l.l1.length) (v := .slice a2 n2 c2) (u := .slice b2 m2 d2) (fV Q1 p1).r2 (fU Q1 p1).r2 (by omega)
    have p2 : ∀ X, X < s.next → Q2.at_ X = s.t.at_ X := fun X hX => (o2 X (by omega)).trans (p1 X hX)
    have gx2 := (o2 s.next (by omega)).trans gx1
    have gy2 := (o2 (s.next + 1) (by omega)).trans gy1
    obtain ⟨Q3, e3, o3⟩ := eqL_f (n := s.next + 1 + 1 + 64 * l.l1.length + 64 * l.l2.length) (v := .slice a3 n3 c3) (u := .slice b3 m3 d3) (fV Q2 p2).r3 (fU Q2 p2).r3 (by simp only; exact hne)
    have p3 : ∀ X, X < s.next → Q3.at_ X = s.t.at_ X := fun X hX => (o3 X (by omega)).trans (p2 X hX)
    have gx3 := (o3 s.next (by omega)).trans gx2
    have gy3 := (o3 (s.next + 1) (by omega)).trans gy2
    refine ⟨Tryz.f6, _, Tryz.func6, rfl, by simp [Tryz.f6], ?_⟩; rw [Tryz.ntmps6]
    repeat' (first | simp (disch := omega) only [go_sem, reduceIte, sliceB, hQ, gx, gy, e1, gx1, gy1, e2, gx2, gy2, e3, gx3, gy3, k1, k2, k3, k4, k5, b_eqlB und4, Tryz.results6, decide_true, beq_self_eq_true] | (with_reducible refine w_chain0 ?_ ?_; focus (decide +kernel)) | (with_reducible refine condK_of _ _ ?_ ?_ <;> (intro hb; try simp only [decide_eq_true_eq, decide_eq_false_iff_not] at hb)) | (with_reducible refine gdK_of_f _ _ _ _ _ ?_ ?_ <;> (intro hb; try simp only [decide_eq_true_eq, decide_eq_false_iff_not] at hb)) | (with_reducible refine gdK_of_t _ _ _ _ _ ?_ ?_ <;> (intro hb; try simp only [decide_eq_true_eq, decide_eq_false_iff_not] at hb)) | (with_reducible refine gK_of_f _ _ _ ?_ ?_ <;> (intro hb; try simp only [decide_eq_true_eq, decide_eq_false_iff_not] at hb)) | (with_reducible refine gK_of_t _ _ _ ?_ ?_ <;> (intro hb; try simp only [decide_eq_true_eq, decide_eq_false_iff_not] at hb)))
    exact endsX_same rfl (by (try simp only); omega) fun X hX => p3 X hX
  · rename_i m hne
    rw [decide_eq_false (fun h => (OneL.l4 hne).ne h.1)]
    obtain ⟨Q1, e1, o1⟩ := eqL_t (n := s.next + 1 + 1) (v := .slice a1 n1 c1) (u := .slice b1 m1 d1) (fV Q hQo).r1 (fU Q hQo).r1 (by omega)
    have p1 : ∀ X, X < s.next → Q1.at_ X = s.t.at_ X := fun X hX => (o1 X (by omega)).trans (hQo X hX)
    have gx1 := (o1 s.next (by omega)).trans gx
    have gy1 := (o1 (s.next + 1) (by omega)).trans gy
    obtain ⟨Q2, e2, o2⟩ := eqL_t (n := s.next + 1 + 1 + 64 * l.l1.length) (v := .slice a2 n2 c2) (u := .slice b2 m2 d2) (fV Q1 p1).r2 (fU Q1 p1).r2 (by omega)
    have p2 : ∀ X, X < s.next → Q2.at_ X = s.t.at_ X := fun X hX => (o2 X (by omega)).trans (p1 X hX)
    have gx2 := (o2 s.next (by omega)).trans gx1
    have gy2 := (o2 (s.next + 1) (by omega)).trans gy1
    obtain ⟨Q3, e3, o3⟩ := eqL_t (n := s.next + 1 + 1 + 64 * l.l1.length + 64 * l.l2.length) (v := .slice a3 n3 c3) (u := .slice b3 m3 d3) (fV Q2 p2).r3 (fU Q2 p2).r3 (by omega)
    have p3 : ∀ X, X < s.next → Q3.at_ X = s.t.at_ X := fun X hX => (o3 X (by omega)).trans (p2 X hX)
    have gx3 := (o3 s.next (by omega)).trans gx2
    have gy3 := (o3 (s.next + 1) (by omega)).trans gy2
    obtain ⟨Q4, e4, o4⟩ := eqB_f (n := s.next + 1 + 1 + 64 * l.l1.length + 64 * l.l2.length + 64 * l.l3.length) (v := .slice a4 n4 c4) (u := .slice b4 m4 d4) (fV Q3 p3).r4 (fU Q3 p3).r4 (by simp only; exact hne)
    have p4 : ∀ X, X < s.next → Q4.at_ X = s.t.at_ X := fun X hX => (o4 X (by omega)).trans (p3 X hX)
    have gx4 := (o4 s.next (by omega)).trans gx3
    have gy4 := (o4 (s.next + 1) (by omega)).trans gy3
    refine ⟨Tryz.f6, _, Tryz.func6, rfl, by simp [Tryz.f6], ?_⟩; rw [Tryz.ntmps6]
    repeat' (first | simp (disch := omega) only [go_sem, reduceIte, sliceB, hQ, gx, gy, e1, gx1, gy1, e2, gx2, gy2, e3, gx3, gy3, e4, gx4, gy4, k1, k2, k3, k4, k5, b_eqlB und4, Tryz.results6, decide_true, beq_self_eq_true] | (with_reducible refine w_chain0 ?_ ?_; focus (decide +kernel)) | (with_reducible refine condK_of _ _ ?_ ?_ <;> (intro hb; try simp only [decide_eq_true_eq, decide_eq_false_iff_not] at hb)) | (with_reducible refine gdK_of_f _ _ _ _ _ ?_ ?_ <;> (intro hb; try simp only [decide_eq_true_eq, decide_eq_false_iff_not] at hb)) | (with_reducible refine gdK_of_t _ _ _ _ _ ?_ ?_ <;> (intro hb; try simp only [decide_eq_true_eq, decide_eq_false_iff_not] at hb)) | (with_reducible refine gK_of_f _ _ _ ?_ ?_ <;> (intro hb; try simp only [decide_eq_true_eq, decide_eq_false_iff_not] at hb)) | (with_reducible refine gK_of_t _ _ _ ?_ ?_ <;> (intro hb; try simp only [decide_eq_true_eq, decide_eq_false_iff_not] at hb)))
    exact endsX_same rfl (by (try simp only); omega) fun X hX => p4 X hX
  · rename_i m hne
    rw [decide_eq_false (fun h => (OneL.l5 hne).ne h.1)]
    obtain ⟨Q1, e1, o1⟩ := eqL_t (n := s.next + 1 + 1) (v := .slice a1 n1 c1) (u := .slice b1 m1 d1) (fV Q hQo).r1 (fU Q hQo).r1 (by omega)
    have p1 : ∀ X, X < s.next → Q1.at_ X = s.t.at_ X := fun X hX => (o1 X (by omega)).trans (hQo X hX)
    have gx1 := (o1 s.next (by omega)).trans gx
    have gy1 := (o1 (s.next + 1) (by omega)).trans gy
    obtain ⟨Q2, e2, o2⟩ := eqL_t (n := s.next + 1 + 1 + 64 * l.l1.length) (v := .slice a2 n2 c2) (u := .slice b2 m2 d2) (fV Q1 p1).r2 (fU Q1 p1).r2 (by omega)
    have p2 : ∀ X, X < s.next → Q2.at_ X = s.t.at_ X := fun X hX => (o2 X (by omega)).trans (p1 X hX)
    have gx2 := (o2 s.next (by omega)).trans gx1
    have gy2 := (o2 (s.next + 1) (by omega)).trans gy1
    obtain ⟨Q3, e3, o3⟩ := eqL_t (n := s.next + 1 + 1 + 64 * l.l1.length + 64 * l.l2.length) (v := .slice a3 n3 c3) (u := .slice b3 m3 d3) (fV Q2 p2).r3 (fU Q2 p2).r3 (by omega)
    have p3 : ∀ X, X < s.next → Q3.at_ X = s.t.at_ X := fun X hX => (o3 X (by omega)).trans (p2 X hX)
    have gx3 := (o3 s.next (by omega)).trans gx2
    have gy3 := (o3 (s.next + 1) (by omega)).trans gy2
    obtain ⟨Q4, e4, o4⟩ := eqB_t (n := s.next + 1 + 1 + 64 * l.l1.length + 64 * l.l2.length + 64 * l.l3.length) (v := .slice a4 n4 c4) (u := .slice b4 m4 d4) (fV Q3 p3).r4 (fU Q3 p3).r4 (by omega)
    have p4 : ∀ X, X < s.next → Q4.at_ X = s.t.at_ X := fun X hX => (o4 X (by omega)).trans (p3 X hX)
    have gx4 := (o4 s.next (by omega)).trans gx3
    have gy4 := (o4 (s.next + 1) (by omega)).trans gy3
    obtain ⟨Q5, e5, o5⟩ := eqL_f (n := s.next + 1 + 1 + 64 * l.l1.length + 64 * l.l2.length + 64 * l.l3.length + 64 * l.l4.length) (v := .slice a5 n5 c5) (u := .slice b5 m5 d5) (fV Q4 p4).r5 (fU Q4 p4).r5 (by simp only; exact hne)
    have p5 : ∀ X, X < s.next → Q5.at_ X = s.t.at_ X := fun X hX => (o5 X (by omega)).trans (p4 X hX)
    have gx5 := (o5 s.next (by omega)).trans gx4
    have gy5 := (o5 (s.next + 1) (by omega)).trans gy4
    refine ⟨Tryz.f6, _, Tryz.func6, rfl, by simp [Tryz.f6], ?_⟩; rw [Tryz.ntmps6]
    repeat' (first | simp (disch := omega) only [go_sem, reduceIte, sliceB, hQ, gx, gy, e1, gx1, gy1, e2, gx2, gy2, e3, gx3, gy3, e4, gx4, gy4, e5, gx5, gy5, k1, k2, k3, k4, k5, b_eqlB und4, Tryz.results6, decide_true, beq_self_eq_true] | (with_reducible refine w_chain0 ?_ ?_; focus (decide +kernel)) | (with_reducible refine condK_of _ _ ?_ ?_ <;> (intro hb; try simp only [decide_eq_true_eq, decide_eq_false_iff_not] at hb)) | (with_reducible refine gdK_of_f _ _ _ _ _ ?_ ?_ <;> (intro hb; try simp only [decide_eq_true_eq, decide_eq_false_iff_not] at hb)) | (with_reducible refine gdK_of_t _ _ _ _ _ ?_ ?_ <;> (intro hb; try simp only [decide_eq_true_eq, decide_eq_false_iff_not] at hb)) | (with_reducible refine gK_of_f _ _ _ ?_ ?_ <;> (intro hb; try simp only [decide_eq_true_eq, decide_eq_false_iff_not] at hb)) | (with_reducible refine gK_of_t _ _ _ ?_ ?_ <;> (intro hb; try simp only [decide_eq_true_eq, decide_eq_false_iff_not] at hb)))
    exact endsX_same rfl (by (try simp only); omega) fun X hX => p5 X hX
end
end Go.Proofs.YtclmjcjaebonnaaGreatDoor
