/-
  Worlds that are alike, and that may be, over the tree.
-/
import Derived.Test.YtclmjcjaebonnaaGreatDoorTu21
set_option linter.unusedSimpArgs false
set_option linter.unusedVariables false
namespace Go.Proofs.YtclmjcjaebonnaaGreatDoor
open Go Go.RowKit Go.Viv Go.Eva Go.Sym
def cEqI : Sym.CallS := fun args s => match args with
  | [v, u] => match (rowB s.t 1 v).bind intsL, (rowB s.t 1 u).bind intsL with
    | some l, some k => if l = k ∧ l.length ≤ 1000000 then some (.bool true, noneT s (64 * l.length)) else none
    | _, _ => none
  | _ => none
def cSame : Sym.CallS := fun args s => match args with
  | [.agg ⟨[.int .i64 a, .int .i64 b, .int .i64 c]⟩, .agg ⟨[.int .i64 d, .int .i64 e, .int .i64 f]⟩] => if a = d ∧ c = f then some (.bool true, noneT s 2) else none
  | _ => none
def alikeD (x y : Dsc) : Prop := x.k = y.k ∧ x.b = y.b
def AlikeL (l k : List Dsc) : Prop := l.length = k.length ∧ ∀ (i : Nat) (x y : Dsc), l[i]? = some x → k[i]? = some y → alikeD x y
open Classical in
noncomputable def cEqF : Sym.CallS := fun args s => match args with
  | [v, u, .func (.func g) ⟨[]⟩ ⟨[]⟩] => match (rowB s.t 3 v).bind dscsL, (rowB s.t 3 u).bind dscsL with
    | some l, some k => if AlikeL l k ∧ l.length ≤ 1000000 ∧ g = 21 then some (.bool true, noneT s (4 * l.length)) else none
    | _, _ => none
  | _ => none
open Classical in
noncomputable def cAlike : Sym.CallS := fun args s => match args with
  | [.agg ⟨[.int .i64 a, .int .i64 b, v, r]⟩, .agg ⟨[.int .i64 a', .int .i64 b', v', r']⟩] => match (rowB s.t 3 v).bind dscsL, (rowB s.t 3 v').bind dscsL, (rowB s.t 1 r).bind intsL, (rowB s.t 1 r').bind intsL with
    | some l, some k, some m, some n => if a = a' ∧ b = b' ∧ m = n ∧ AlikeL l k ∧ l.length ≤ 1000000 ∧ m.length ≤ 1000000 then some (.bool true, noneT s (2 + 4 * l.length + 64 * m.length)) else none
    | _, _, _, _ => none
  | _ => none
def cAMay : Sym.CallS := fun args s => match args with
  | [.int .i64 n, .int .i64 t] => some (.bool (allocOk n t), noneT s 0)
  | _ => none
def cDMay : Sym.CallS := fun args s => match args with
  | [.agg ⟨[.int .i64 k, .int .i64 v, .int .i64 b]⟩] => some (.int .i64 (chkE k v b), noneT s 1)
  | _ => none
def cMay : Sym.CallS := fun args s => match args with
  | [.agg ⟨[.int .i64 n, .int .i64 t, v, .slice _ _ _]⟩] => match (rowB s.t 3 v).bind dscsL with
    | some ds => if ds.length ≤ 1000000 then some (.int .i64 (newE n t ds), noneT s (1 + ds.length)) else none
    | none => none
  | _ => none
def cLegal : Sym.CallS := fun args s => match args with
  | [.agg ⟨[.int .i64 n, .int .i64 t, v, r]⟩] => match (rowB s.t 3 v).bind dscsL, (rowB s.t 1 r).bind intsL, roomOk r with
    | some ds, some rs, true => some (.int .i64 (newE n t ds), noneT s (23 + 8 * ds.length))
    | _, _, _ => none
  | _ => none
section
variable {G : Nat} {ν : Toks} {W : World} {may : Nat → Prop} {call : CallB}
theorem eqI_ok (hc : CallOK Tryz.prog G (LBegin Tryz.prog ν LL W may) ν call) : SpecOK Tryz.prog G (LBegin Tryz.prog ν LL W may) ν 22 cEqI := by
  refine fun_okX (by kernel_rfl) hc fun args s v h' e Lv hlv hG => ?_
  unfold cEqI at e
  split at e <;> try (cases e; done)
  rename_i v0 u0
  split at e <;> try (cases e; done)
  rename_i l k hl hk
  split at e <;> try (cases e; done)
  rename_i hlk
  obtain ⟨rfl, hmx⟩ := hlk
  unfold noneT at e
  simp only [Option.some.injEq, Prod.mk.injEq] at e
  obtain ⟨rfl, rfl⟩ := e
  obtain ⟨vs, p1, p2⟩ := Option.bind_eq_some_iff.1 hl
  obtain ⟨us, q1, q2⟩ := Option.bind_eq_some_iff.1 hk
  obtain rfl := intsL_eq p2
  obtain rfl := intsL_eq q2
  obtain ⟨a, c, rfl, ha⟩ := row_ints p1
  obtain ⟨b, d, rfl, hb⟩ := row_ints q1
  refine ⟨by simp, 0, ?_⟩
  generalize hn : l.length = n at *
  refine ⟨Tryz.f22, _, Tryz.func22, rfl, by simp [Tryz.f22], ?_⟩; rw [Tryz.ntmps22]
  repeat' (first | simp (disch := omega) only [go_sem, reduceIte, sliceB, Tryz.results22] | (with_reducible refine w_chain0 ?_ ?_; focus (decide +kernel)) | (with_reducible refine condK_of _ _ ?_ ?_ <;> (intro hb; try simp only [decide_eq_true_eq, decide_eq_false_iff_not] at hb)) | (with_reducible refine gdK_of_f _ _ _ _ _ ?_ ?_ <;> (intro hb; try simp only [decide_eq_true_eq, decide_eq_false_iff_not] at hb)) | (with_reducible refine gdK_of_t _ _ _ _ _ ?_ ?_ <;> (intro hb; try simp only [decide_eq_true_eq, decide_eq_false_iff_not] at hb)) | (with_reducible refine gK_of_f _ _ _ ?_ ?_ <;> (intro hb; try simp only [decide_eq_true_eq, decide_eq_false_iff_not] at hb)) | (with_reducible refine gK_of_t _ _ _ ?_ ?_ <;> (intro hb; try simp only [decide_eq_true_eq, decide_eq_false_iff_not] at hb)))
  refine w_loop (fun m T1 h1 => ∃ i, i ≤ n ∧ m = n - i ∧ Eva.look T1 0 = .slice a n c ∧ Eva.look T1 1 = .slice b n d ∧ Eva.look T1 12 = .int .i64 (n : Int) ∧ Eva.look T1 13 = .int .i64 (i : Int) ∧ h1 = ⟨s.t, s.next + 64 * i⟩) n ?_ ?_
  · refine ⟨0, by omega, by omega, ?_, ?_, ?_, ?_, rfl⟩ <;> (try simp (disch := omega) only [go_sem, reduceIte, sliceB]) <;> (try rfl)
  · rintro m T1 h1 ⟨i, hi, hm, t0, t1, t12, t13, rfl⟩
    by_cases hlt : i < n
    · obtain ⟨x, hx⟩ : ∃ x, l[i]? = some x := ⟨l[i]'(by omega), List.getElem?_eq_getElem (by omega)⟩
      obtain ⟨B, o, cs, ty, rw, rfl, hB, hcs⟩ := ha i x hx
      obtain ⟨B', o', cs', ty', rw', rfl, hB', hcs'⟩ := hb i x hx
      repeat' (first | simp (disch := omega) only [go_sem, reduceIte, sliceB, t0, t1, t12, t13, hB, hB', hcs, hcs', Int.toNat_natCast] | (with_reducible refine w_chain0 ?_ ?_; focus (decide +kernel)) | (with_reducible refine condK_of _ _ ?_ ?_ <;> (intro hb; try simp only [decide_eq_true_eq, decide_eq_false_iff_not] at hb)) | (with_reducible refine gdK_of_f _ _ _ _ _ ?_ ?_ <;> (intro hb; try simp only [decide_eq_true_eq, decide_eq_false_iff_not] at hb)) | (with_reducible refine gdK_of_t _ _ _ _ _ ?_ ?_ <;> (intro hb; try simp only [decide_eq_true_eq, decide_eq_false_iff_not] at hb)) | (with_reducible refine gK_of_f _ _ _ ?_ ?_ <;> (intro hb; try simp only [decide_eq_true_eq, decide_eq_false_iff_not] at hb)) | (with_reducible refine gK_of_t _ _ _ ?_ ?_ <;> (intro hb; try simp only [decide_eq_true_eq, decide_eq_false_iff_not] at hb)))
      refine ⟨n - (i + 1), by omega, i + 1, by omega, rfl, ?_⟩
      exact ⟨by simp, by simp [Nat.mul_add, Nat.add_assoc]⟩
    · obtain rfl : i = n := by omega
      repeat' (first | simp (disch := omega) only [go_sem, reduceIte, sliceB, t0, t1, t12, t13, Tryz.results22] | (with_reducible refine w_chain0 ?_ ?_; focus (decide +kernel)) | (with_reducible refine condK_of _ _ ?_ ?_ <;> (intro hb; try simp only [decide_eq_true_eq, decide_eq_false_iff_not] at hb)) | (with_reducible refine gdK_of_f _ _ _ _ _ ?_ ?_ <;> (intro hb; try simp only [decide_eq_true_eq, decide_eq_false_iff_not] at hb)) | (with_reducible refine gdK_of_t _ _ _ _ _ ?_ ?_ <;> (intro hb; try simp only [decide_eq_true_eq, decide_eq_false_iff_not] at hb)) | (with_reducible refine gK_of_f _ _ _ ?_ ?_ <;> (intro hb; try simp only [decide_eq_true_eq, decide_eq_false_iff_not] at hb)) | (with_reducible refine gK_of_t _ _ _ ?_ ?_ <;> (intro hb; try simp only [decide_eq_true_eq, decide_eq_false_iff_not] at hb)))
      exact endsX_same rfl (by simp) fun X hX => rfl
theorem same_ok (hc : CallOK Tryz.prog G (LBegin Tryz.prog ν LL W may) ν call) : SpecOK Tryz.prog G (LBegin Tryz.prog ν LL W may) ν 21 cSame := by
  refine fun_okX (by kernel_rfl) hc fun args s v h' e Lv hlv hG => ?_
  unfold cSame at e
  split at e <;> try (cases e; done)
  rename_i a b c d e' f
  split at e <;> try (cases e; done)
  rename_i hcd
  obtain ⟨rfl, rfl⟩ := hcd
  unfold noneT at e
  simp only [Option.some.injEq, Prod.mk.injEq] at e
  obtain ⟨rfl, rfl⟩ := e
  refine ⟨by simp, 0, ?_⟩
  refine ⟨Tryz.f21, _, Tryz.func21, rfl, by simp [Tryz.f21], ?_⟩; rw [Tryz.ntmps21]
  repeat' (first | simp (disch := omega) only [go_sem, reduceIte, sliceB, Tryz.results21] | (with_reducible refine w_chain0 ?_ ?_; focus (decide +kernel)) | (with_reducible refine condK_of _ _ ?_ ?_ <;> (intro hb; try simp only [decide_eq_true_eq, decide_eq_false_iff_not] at hb)) | (with_reducible refine gdK_of_f _ _ _ _ _ ?_ ?_ <;> (intro hb; try simp only [decide_eq_true_eq, decide_eq_false_iff_not] at hb)) | (with_reducible refine gdK_of_t _ _ _ _ _ ?_ ?_ <;> (intro hb; try simp only [decide_eq_true_eq, decide_eq_false_iff_not] at hb)) | (with_reducible refine gK_of_f _ _ _ ?_ ?_ <;> (intro hb; try simp only [decide_eq_true_eq, decide_eq_false_iff_not] at hb)) | (with_reducible refine gK_of_t _ _ _ ?_ ?_ <;> (intro hb; try simp only [decide_eq_true_eq, decide_eq_false_iff_not] at hb)))
  exact endsX_same rfl (by simp only; omega) fun X hX => by simp (disch := omega) only [go_sem, reduceIte, sliceB]
theorem row_dscs {s : Hp} {v : Value} {ds : List Dsc} (h : (rowB s.t 3 v).bind dscsL = some ds) : ∃ a c, v = .slice a ds.length c ∧ ∀ i d, ds[i]? = some d → ∃ B o cs ty rw, a = some ⟨B, o, none⟩ ∧ s.t.at_ B = some (.cells cs ty rw) ∧ has (cs.drop (o + i * 3)) 3 = true ∧ (cs.drop (o + i * 3)).take 3 = [.int .i64 d.k, .int .i64 d.v, .int .i64 d.b] := by
  obtain ⟨vs, p1, p2⟩ := Option.bind_eq_some_iff.1 h
  obtain rfl := dscsL_eq p2
  obtain ⟨a, c, rfl, ha⟩ := row_descs p1
  refine ⟨a, c, rfl, fun i d hd => ?_⟩
  obtain ⟨B, o, cs, ty, rw, h1, h2, h3⟩ := ha i d hd
  unfold readCells at h3
  split at h3 <;> try (cases h3; done)
  rename_i hh
  exact ⟨B, o, cs, ty, rw, h1, h2, hh, Option.some.inj h3⟩
theorem eqF_ok (hc : CallOK Tryz.prog G (LBegin Tryz.prog ν LL W may) ν call) (h1 : ∀ a h, call 21 a h = cSame a h) : SpecOK Tryz.prog G (LBegin Tryz.prog ν LL W may) ν 23 cEqF := by
  refine fun_okX (by kernel_rfl) hc fun args s v h' e Lv hlv hG => ?_
  unfold cEqF at e
  split at e <;> try (cases e; done)
  rename_i v0 u0 g
  split at e <;> try (cases e; done)
  rename_i l k hl hk
  split at e <;> try (cases e; done)
  rename_i hlk
  obtain ⟨⟨hlen, hal⟩, hmx, rfl⟩ := hlk
  unfold noneT at e
  simp only [Option.some.injEq, Prod.mk.injEq] at e
  obtain ⟨rfl, rfl⟩ := e
  obtain ⟨a, c, rfl, ha⟩ := row_dscs hl
  obtain ⟨b, d, rfl, hb⟩ := row_dscs hk
  have e0 : k.length = l.length := hlen.symm
  rw [e0] at hlv ⊢
  refine ⟨by simp, 0, ?_⟩
  generalize hn : l.length = n at *
  refine ⟨Tryz.f23, _, Tryz.func23, rfl, by simp [Tryz.f23], ?_⟩; rw [Tryz.ntmps23]
  repeat' (first | simp (disch := omega) only [go_sem, reduceIte, sliceB, Tryz.results23] | (with_reducible refine w_chain0 ?_ ?_; focus (decide +kernel)) | (with_reducible refine condK_of _ _ ?_ ?_ <;> (intro hb; try simp only [decide_eq_true_eq, decide_eq_false_iff_not] at hb)) | (with_reducible refine gdK_of_f _ _ _ _ _ ?_ ?_ <;> (intro hb; try simp only [decide_eq_true_eq, decide_eq_false_iff_not] at hb)) | (with_reducible refine gdK_of_t _ _ _ _ _ ?_ ?_ <;> (intro hb; try simp only [decide_eq_true_eq, decide_eq_false_iff_not] at hb)) | (with_reducible refine gK_of_f _ _ _ ?_ ?_ <;> (intro hb; try simp only [decide_eq_true_eq, decide_eq_false_iff_not] at hb)) | (with_reducible refine gK_of_t _ _ _ ?_ ?_ <;> (intro hb; try simp only [decide_eq_true_eq, decide_eq_false_iff_not] at hb)))
  refine w_loop (fun m T1 h1 => ∃ i, i ≤ n ∧ m = n - i ∧ Eva.look T1 0 = .slice a n c ∧ Eva.look T1 1 = .slice b n d ∧ Eva.look T1 2 = .func (.func 21) ⟨[]⟩ ⟨[]⟩ ∧ Eva.look T1 15 = .slice a n c ∧ Eva.look T1 16 = .int .i64 (n : Int) ∧ Eva.look T1 17 = .int .i64 (i : Int) ∧ h1.next = s.next + 4 * i ∧ ∀ X, X < s.next → h1.t.at_ X = s.t.at_ X) n ?_ ?_
  · refine ⟨0, by omega, by omega, ?_, ?_, ?_, ?_, ?_, ?_, rfl, fun X hX => rfl⟩ <;> (try simp (disch := omega) only [go_sem, reduceIte, sliceB]) <;> (try rfl)
  · rintro m T1 h2 ⟨i, hi, hm, t0, t1, t2, t15, t16, t17, hnx, hold⟩
    by_cases hlt : i < n
    · obtain ⟨x, hx⟩ : ∃ x, l[i]? = some x := ⟨l[i]'(by omega), List.getElem?_eq_getElem (by omega)⟩
      obtain ⟨y, hy⟩ : ∃ y, k[i]? = some y := ⟨k[i]'(by omega), List.getElem?_eq_getElem (by omega)⟩
      obtain ⟨B, o, cs, ty, rw, rfl, hB, hh, hcs⟩ := ha i x hx
      obtain ⟨B', o', cs', ty', rw', rfl, hB', hh', hcs'⟩ := hb i y hy
      have lB := hlv.lt _ (hlv.arg B (by simp [occL, occ]))
      have lB' := hlv.lt _ (hlv.arg B' (by simp [occL, occ]))
      have gB := (hold B lB).trans hB
      have gB' := (hold B' lB').trans hB'
      obtain ⟨y1, y2⟩ := hal i x y hx hy
      have hsm : ∀ T nx, cSame [.agg ⟨[.int .i64 x.k, .int .i64 x.v, .int .i64 x.b]⟩, .agg ⟨[.int .i64 y.k, .int .i64 y.v, .int .i64 y.b]⟩] ⟨T, nx⟩ = some (.bool true, ⟨fillT T nx (fun _ => none) 2, nx + 2⟩) := fun T nx => by
        simp only [cSame, noneT]
        rw [if_pos ⟨y1, y2⟩]
      repeat' (first | simp (disch := omega) only [go_sem, reduceIte, sliceB, t0, t1, t2, t15, t16, t17, hnx, gB, gB', hh, hh', hcs, hcs', h1, hsm, Int.toNat_natCast] | (with_reducible refine w_chain0 ?_ ?_; focus (decide +kernel)) | (with_reducible refine condK_of _ _ ?_ ?_ <;> (intro hb; try simp only [decide_eq_true_eq, decide_eq_false_iff_not] at hb)) | (with_reducible refine gdK_of_f _ _ _ _ _ ?_ ?_ <;> (intro hb; try simp only [decide_eq_true_eq, decide_eq_false_iff_not] at hb)) | (with_reducible refine gdK_of_t _ _ _ _ _ ?_ ?_ <;> (intro hb; try simp only [decide_eq_true_eq, decide_eq_false_iff_not] at hb)) | (with_reducible refine gK_of_f _ _ _ ?_ ?_ <;> (intro hb; try simp only [decide_eq_true_eq, decide_eq_false_iff_not] at hb)) | (with_reducible refine gK_of_t _ _ _ ?_ ?_ <;> (intro hb; try simp only [decide_eq_true_eq, decide_eq_false_iff_not] at hb)))
      refine ⟨n - (i + 1), by omega, i + 1, by omega, rfl, ?_⟩
      refine ⟨by simp, by omega, fun X hX => ?_⟩
      simp (disch := omega) only [go_sem, reduceIte, sliceB, fillT_out]
      exact hold X hX
    · obtain rfl : i = n := by omega
      repeat' (first | simp (disch := omega) only [go_sem, reduceIte, sliceB, t0, t1, t2, t15, t16, t17, Tryz.results23] | (with_reducible refine w_chain0 ?_ ?_; focus (decide +kernel)) | (with_reducible refine condK_of _ _ ?_ ?_ <;> (intro hb; try simp only [decide_eq_true_eq, decide_eq_false_iff_not] at hb)) | (with_reducible refine gdK_of_f _ _ _ _ _ ?_ ?_ <;> (intro hb; try simp only [decide_eq_true_eq, decide_eq_false_iff_not] at hb)) | (with_reducible refine gdK_of_t _ _ _ _ _ ?_ ?_ <;> (intro hb; try simp only [decide_eq_true_eq, decide_eq_false_iff_not] at hb)) | (with_reducible refine gK_of_f _ _ _ ?_ ?_ <;> (intro hb; try simp only [decide_eq_true_eq, decide_eq_false_iff_not] at hb)) | (with_reducible refine gK_of_t _ _ _ ?_ ?_ <;> (intro hb; try simp only [decide_eq_true_eq, decide_eq_false_iff_not] at hb)))
      exact endsX_same rfl (by omega) fun X hX => hold X hX
theorem legal_ok (hc : CallOK Tryz.prog G (LBegin Tryz.prog ν LL W may) ν call) (h1 : ∀ a h, call 24 a h = cWorldNew a h) : SpecOK Tryz.prog G (LBegin Tryz.prog ν LL W may) ν 10 cLegal := by
  refine fun_okX (by kernel_rfl) hc fun args s v h' e Lv hlv hG => ?_
  unfold cLegal at e
  split at e <;> try (cases e; done)
  rename_i size top v0 r0
  split at e <;> try (cases e; done)
  rename_i ds rs hds hrs hrm
  unfold noneT at e
  simp only [Option.some.injEq, Prod.mk.injEq] at e
  obtain ⟨rfl, rfl⟩ := e
  have occV : ∀ X, occ X v0 = true → X < s.next := fun X h => hlv.lt _ (hlv.arg X (by simp [occL, occ, h]))
  have occR : ∀ X, occ X r0 = true → X < s.next := fun X h => hlv.lt _ (hlv.arg X (by simp [occL, occ, h]))
  obtain ⟨av, nv, cv, rfl⟩ : ∃ a n c, v0 = .slice a n c := by
    cases v0 <;> first | exact ⟨_, _, _, rfl⟩ | (simp [rowB] at hds)
  obtain ⟨ar, nr_, cr, rfl⟩ : ∃ a n c, r0 = .slice a n c := by
    cases r0 <;> first | exact ⟨_, _, _, rfl⟩ | (simp [rowB] at hrs)
  generalize hT : s.t.set s.next (some (.cells [.int .i64 size, .int .i64 top, .slice av nv cv, .slice ar nr_ cr] 50 true)) = T at *
  have hTc : T.at_ s.next = some (.cells [.int .i64 size, .int .i64 top, .slice av nv cv, .slice ar nr_ cr] 50 true) := by rw [← hT]; exact Tr.at_set_same _ _ _
  have hTo : ∀ X, X < s.next → T.at_ X = s.t.at_ X := fun X hX => by rw [← hT, Tr.at_set_ne _ _ (by omega)]
  have hw : ∃ u, ∃ U : Tr AObj, cWorldNew [.agg ⟨[.int .i64 size, .int .i64 top, .slice av nv cv, .slice ar nr_ cr]⟩] ⟨T, s.next + 1⟩ = some (.tuple ⟨[u, .int .i64 (newE size top ds)]⟩, ⟨U, s.next + 1 + (22 + 8 * ds.length)⟩) ∧ ∀ X, X < s.next → U.at_ X = s.t.at_ X := by
    have e1 : (rowB T 3 (.slice av nv cv)).bind dscsL = some ds := by rw [rowB_frame (t := s.t) (fun X h => hTo X (occV X h))]; exact hds
    have e2 : (rowB T 1 (.slice ar nr_ cr)).bind intsL = some rs := by rw [rowB_frame (t := s.t) (fun X h => hTo X (occR X h))]; exact hrs
    unfold cWorldNew
    simp only [e1, e2, hrm]
    by_cases hE : newE size top ds = 0
    · rw [if_pos hE, hE]
      exact ⟨_, _, rfl, fun X hX => by rw [fillT_out _ _ _ (.inl (by omega))]; exact hTo X hX⟩
    · rw [if_neg hE]
      exact ⟨_, _, rfl, fun X hX => by rw [fillT_out _ _ _ (.inl (by omega))]; exact hTo X hX⟩
  obtain ⟨u, U, hw, hU⟩ := hw
  refine ⟨by simp, 0, ?_⟩
  refine ⟨Tryz.f10, _, Tryz.func10, rfl, by simp [Tryz.f10], ?_⟩; rw [Tryz.ntmps10]
  repeat' (first | simp (disch := omega) only [go_sem, reduceIte, sliceB, hT, hTc, h1, hw, Tryz.results10] | (with_reducible refine w_chain0 ?_ ?_; focus (decide +kernel)) | (with_reducible refine condK_of _ _ ?_ ?_ <;> (intro hb; try simp only [decide_eq_true_eq, decide_eq_false_iff_not] at hb)) | (with_reducible refine gdK_of_f _ _ _ _ _ ?_ ?_ <;> (intro hb; try simp only [decide_eq_true_eq, decide_eq_false_iff_not] at hb)) | (with_reducible refine gdK_of_t _ _ _ _ _ ?_ ?_ <;> (intro hb; try simp only [decide_eq_true_eq, decide_eq_false_iff_not] at hb)) | (with_reducible refine gK_of_f _ _ _ ?_ ?_ <;> (intro hb; try simp only [decide_eq_true_eq, decide_eq_false_iff_not] at hb)) | (with_reducible refine gK_of_t _ _ _ ?_ ?_ <;> (intro hb; try simp only [decide_eq_true_eq, decide_eq_false_iff_not] at hb)))
  exact endsX_same rfl (by simp only; omega) fun X hX => hU X hX
theorem aMay_ok (hc : CallOK Tryz.prog G (LBegin Tryz.prog ν LL W may) ν call) : SpecOK Tryz.prog G (LBegin Tryz.prog ν LL W may) ν 25 cAMay := by
  refine fun_okX (by kernel_rfl) hc fun args s v h' e Lv hlv hG => ?_
  unfold cAMay at e
  split at e <;> try (cases e; done)
  rename_i n t
  unfold noneT at e
  simp only [Option.some.injEq, Prod.mk.injEq] at e
  obtain ⟨rfl, rfl⟩ := e
  refine ⟨by simp, 0, ?_⟩
  unfold allocOk
  refine ⟨Tryz.f25, _, Tryz.func25, rfl, by simp [Tryz.f25], ?_⟩; rw [Tryz.ntmps25]
  repeat' (first | simp (disch := omega) only [go_sem, reduceIte, sliceB, Tryz.results25] | (with_reducible refine w_chain0 ?_ ?_; focus (decide +kernel)) | (with_reducible refine condK_of _ _ ?_ ?_ <;> (intro hb; try simp only [decide_eq_true_eq, decide_eq_false_iff_not] at hb)) | (with_reducible refine gdK_of_f _ _ _ _ _ ?_ ?_ <;> (intro hb; try simp only [decide_eq_true_eq, decide_eq_false_iff_not] at hb)) | (with_reducible refine gdK_of_t _ _ _ _ _ ?_ ?_ <;> (intro hb; try simp only [decide_eq_true_eq, decide_eq_false_iff_not] at hb)) | (with_reducible refine gK_of_f _ _ _ ?_ ?_ <;> (intro hb; try simp only [decide_eq_true_eq, decide_eq_false_iff_not] at hb)) | (with_reducible refine gK_of_t _ _ _ ?_ ?_ <;> (intro hb; try simp only [decide_eq_true_eq, decide_eq_false_iff_not] at hb)))
  all_goals exact endsX_same (by first | rfl | (refine congrArg Value.bool ?_; simp only [Bool.eq_iff_iff, Bool.and_eq_true, decide_eq_true_eq, Bool.false_eq_true, false_iff, true_iff, iff_true, iff_false]; omega)) (by simp) fun X hX => rfl
theorem chkE_eq (k v b : Int) : chkE k v b = if k < 1 then 1 else if 3 < k then 1 else if v < 1 then 1 else if 4 < v then 1 else if b < 0 then 1 else if 1000 < b then 1 else if v = 4 then (if k = 3 then 0 else 9) else 0 := by
  unfold chkE okV
  simp only
  by_cases h1 : k = 1
  · subst h1; rfl
  · by_cases h2 : k = 2
    · subst h2; rfl
    · by_cases h3 : k = 3
      · subst h3; rfl
      · rw [if_neg h1, if_neg h2, if_neg h3]
        by_cases h4 : k < 1
        · rw [if_pos h4]
        · rw [if_neg h4, if_pos (show 3 < k by omega)]
theorem dMay_ok (hc : CallOK Tryz.prog G (LBegin Tryz.prog ν LL W may) ν call) : SpecOK Tryz.prog G (LBegin Tryz.prog ν LL W may) ν 26 cDMay := by
  refine fun_okX (by kernel_rfl) hc fun args s v' h' e Lv hlv hG => ?_
  unfold cDMay at e
  split at e <;> try (cases e; done)
  rename_i k v b
  unfold noneT at e
  simp only [Option.some.injEq, Prod.mk.injEq] at e
  obtain ⟨rfl, rfl⟩ := e
  refine ⟨by simp, 0, ?_⟩
  rw [chkE_eq]
  by_cases q0 : k < 1
  · rw [if_pos q0]
    refine ⟨Tryz.f26, _, Tryz.func26, rfl, by simp [Tryz.f26], ?_⟩; rw [Tryz.ntmps26]
    repeat' (first | simp (disch := omega) only [go_sem, reduceIte, sliceB, Tryz.results26] | (with_reducible refine w_chain0 ?_ ?_; focus (decide +kernel)) | (with_reducible refine condK_of _ _ ?_ ?_ <;> (intro hb; try simp only [decide_eq_true_eq, decide_eq_false_iff_not] at hb)) | (with_reducible refine gdK_of_f _ _ _ _ _ ?_ ?_ <;> (intro hb; try simp only [decide_eq_true_eq, decide_eq_false_iff_not] at hb)) | (with_reducible refine gdK_of_t _ _ _ _ _ ?_ ?_ <;> (intro hb; try simp only [decide_eq_true_eq, decide_eq_false_iff_not] at hb)) | (with_reducible refine gK_of_f _ _ _ ?_ ?_ <;> (intro hb; try simp only [decide_eq_true_eq, decide_eq_false_iff_not] at hb)) | (with_reducible refine gK_of_t _ _ _ ?_ ?_ <;> (intro hb; try simp only [decide_eq_true_eq, decide_eq_false_iff_not] at hb)))
    exact endsX_same rfl (by simp) fun X hX => by simp (disch := omega) only [go_sem, reduceIte, sliceB]
  · rw [if_neg q0]
    by_cases q1 : 3 < k
    · rw [if_pos q1]
      refine ⟨Tryz.f26, _, Tryz.func26, rfl, by simp [Tryz.f26], ?_⟩; rw [Tryz.ntmps26]
      repeat' (first | simp (disch := omega) only [go_sem, reduceIte, sliceB, Tryz.results26] | (with_reducible refine w_chain0 ?_ ?_; focus (decide +kernel)) | (with_reducible refine condK_of _ _ ?_ ?_ <;> (intro hb; try simp only [decide_eq_true_eq, decide_eq_false_iff_not] at hb)) | (with_reducible refine gdK_of_f _ _ _ _ _ ?_ ?_ <;> (intro hb; try simp only [decide_eq_true_eq, decide_eq_false_iff_not] at hb)) | (with_reducible refine gdK_of_t _ _ _ _ _ ?_ ?_ <;> (intro hb; try simp only [decide_eq_true_eq, decide_eq_false_iff_not] at hb)) | (with_reducible refine gK_of_f _ _ _ ?_ ?_ <;> (intro hb; try simp only [decide_eq_true_eq, decide_eq_false_iff_not] at hb)) | (with_reducible refine gK_of_t _ _ _ ?_ ?_ <;> (intro hb; try simp only [decide_eq_true_eq, decide_eq_false_iff_not] at hb)))
      exact endsX_same rfl (by simp) fun X hX => by simp (disch := omega) only [go_sem, reduceIte, sliceB]
    · rw [if_neg q1]
      by_cases q2 : v < 1
      · rw [if_pos q2]
        refine ⟨Tryz.f26, _, Tryz.func26, rfl, by simp [Tryz.f26], ?_⟩; rw [Tryz.ntmps26]
        repeat' (first | simp (disch := omega) only [go_sem, reduceIte, sliceB, Tryz.results26] | (with_reducible refine w_chain0 ?_ ?_; focus (decide +kernel)) | (with_reducible refine condK_of _ _ ?_ ?_ <;> (intro hb; try simp only [decide_eq_true_eq, decide_eq_false_iff_not] at hb)) | (with_reducible refine gdK_of_f _ _ _ _ _ ?_ ?_ <;> (intro hb; try simp only [decide_eq_true_eq, decide_eq_false_iff_not] at hb)) | (with_reducible refine gdK_of_t _ _ _ _ _ ?_ ?_ <;> (intro hb; try simp only [decide_eq_true_eq, decide_eq_false_iff_not] at hb)) | (with_reducible refine gK_of_f _ _ _ ?_ ?_ <;> (intro hb; try simp only [decide_eq_true_eq, decide_eq_false_iff_not] at hb)) | (with_reducible refine gK_of_t _ _ _ ?_ ?_ <;> (intro hb; try simp only [decide_eq_true_eq, decide_eq_false_iff_not] at hb)))
        exact endsX_same rfl (by simp) fun X hX => by simp (disch := omega) only [go_sem, reduceIte, sliceB]
      · rw [if_neg q2]
        by_cases q3 : 4 < v
        · rw [if_pos q3]
          refine ⟨Tryz.f26, _, Tryz.func26, rfl, by simp [Tryz.f26], ?_⟩; rw [Tryz.ntmps26]
          repeat' (first | simp (disch := omega) only [go_sem, reduceIte, sliceB, Tryz.results26] | (with_reducible refine w_chain0 ?_ ?_; focus (decide +kernel)) | (with_reducible refine condK_of _ _ ?_ ?_ <;> (intro hb; try simp only [decide_eq_true_eq, decide_eq_false_iff_not] at hb)) | (with_reducible refine gdK_of_f _ _ _ _ _ ?_ ?_ <;> (intro hb; try simp only [decide_eq_true_eq, decide_eq_false_iff_not] at hb)) | (with_reducible refine gdK_of_t _ _ _ _ _ ?_ ?_ <;> (intro hb; try simp only [decide_eq_true_eq, decide_eq_false_iff_not] at hb)) | (with_reducible refine gK_of_f _ _ _ ?_ ?_ <;> (intro hb; try simp only [decide_eq_true_eq, decide_eq_false_iff_not] at hb)) | (with_reducible refine gK_of_t _ _ _ ?_ ?_ <;> (intro hb; try simp only [decide_eq_true_eq, decide_eq_false_iff_not] at hb)))
          exact endsX_same rfl (by simp) fun X hX => by simp (disch := omega) only [go_sem, reduceIte, sliceB]
        · rw [if_neg q3]
          by_cases q4 : b < 0
          · rw [if_pos q4]
            refine ⟨Tryz.f26, _, Tryz.func26, rfl, by simp [Tryz.f26], ?_⟩; rw [Tryz.ntmps26]
            repeat' (first | simp (disch := omega) only [go_sem, reduceIte, sliceB, Tryz.results26] | (with_reducible refine w_chain0 ?_ ?_; focus (decide +kernel)) | (with_reducible refine condK_of _ _ ?_ ?_ <;> (intro hb; try simp only [decide_eq_true_eq, decide_eq_false_iff_not] at hb)) | (with_reducible refine gdK_of_f _ _ _ _ _ ?_ ?_ <;> (intro hb; try simp only [decide_eq_true_eq, decide_eq_false_iff_not] at hb)) | (with_reducible refine gdK_of_t _ _ _ _ _ ?_ ?_ <;> (intro hb; try simp only [decide_eq_true_eq, decide_eq_false_iff_not] at hb)) | (with_reducible refine gK_of_f _ _ _ ?_ ?_ <;> (intro hb; try simp only [decide_eq_true_eq, decide_eq_false_iff_not] at hb)) | (with_reducible refine gK_of_t _ _ _ ?_ ?_ <;> (intro hb; try simp only [decide_eq_true_eq, decide_eq_false_iff_not] at hb)))
            exact endsX_same rfl (by simp) fun X hX => by simp (disch := omega) only [go_sem, reduceIte, sliceB]
          · rw [if_neg q4]
            by_cases q5 : 1000 < b
            · rw [if_pos q5]
              refine ⟨Tryz.f26, _, Tryz.func26, rfl, by simp [Tryz.f26], ?_⟩; rw [Tryz.ntmps26]
              repeat' (first | simp (disch := omega) only [go_sem, reduceIte, sliceB, Tryz.results26] | (with_reducible refine w_chain0 ?_ ?_; focus (decide +kernel)) | (with_reducible refine condK_of _ _ ?_ ?_ <;> (intro hb; try simp only [decide_eq_true_eq, decide_eq_false_iff_not] at hb)) | (with_reducible refine gdK_of_f _ _ _ _ _ ?_ ?_ <;> (intro hb; try simp only [decide_eq_true_eq, decide_eq_false_iff_not] at hb)) | (with_reducible refine gdK_of_t _ _ _ _ _ ?_ ?_ <;> (intro hb; try simp only [decide_eq_true_eq, decide_eq_false_iff_not] at hb)) | (with_reducible refine gK_of_f _ _ _ ?_ ?_ <;> (intro hb; try simp only [decide_eq_true_eq, decide_eq_false_iff_not] at hb)) | (with_reducible refine gK_of_t _ _ _ ?_ ?_ <;> (intro hb; try simp only [decide_eq_true_eq, decide_eq_false_iff_not] at hb)))
              exact endsX_same rfl (by simp) fun X hX => by simp (disch := omega) only [go_sem, reduceIte, sliceB]
            · rw [if_neg q5]
              by_cases q6 : v = 4
              · rw [if_pos q6]
                by_cases q7 : k = 3
                · rw [if_pos q7]
                  refine ⟨Tryz.f26, _, Tryz.func26, rfl, by simp [Tryz.f26], ?_⟩; rw [Tryz.ntmps26]
                  repeat' (first | simp (disch := omega) only [go_sem, reduceIte, sliceB, Tryz.results26] | (with_reducible refine w_chain0 ?_ ?_; focus (decide +kernel)) | (with_reducible refine condK_of _ _ ?_ ?_ <;> (intro hb; try simp only [decide_eq_true_eq, decide_eq_false_iff_not] at hb)) | (with_reducible refine gdK_of_f _ _ _ _ _ ?_ ?_ <;> (intro hb; try simp only [decide_eq_true_eq, decide_eq_false_iff_not] at hb)) | (with_reducible refine gdK_of_t _ _ _ _ _ ?_ ?_ <;> (intro hb; try simp only [decide_eq_true_eq, decide_eq_false_iff_not] at hb)) | (with_reducible refine gK_of_f _ _ _ ?_ ?_ <;> (intro hb; try simp only [decide_eq_true_eq, decide_eq_false_iff_not] at hb)) | (with_reducible refine gK_of_t _ _ _ ?_ ?_ <;> (intro hb; try simp only [decide_eq_true_eq, decide_eq_false_iff_not] at hb)))
                  exact endsX_same rfl (by simp) fun X hX => by simp (disch := omega) only [go_sem, reduceIte, sliceB]
                · rw [if_neg q7]
                  refine ⟨Tryz.f26, _, Tryz.func26, rfl, by simp [Tryz.f26], ?_⟩; rw [Tryz.ntmps26]
                  repeat' (first | simp (disch := omega) only [go_sem, reduceIte, sliceB, Tryz.results26] | (with_reducible refine w_chain0 ?_ ?_; focus (decide +kernel)) | (with_reducible refine condK_of _ _ ?_ ?_ <;> (intro hb; try simp only [decide_eq_true_eq, decide_eq_false_iff_not] at hb)) | (with_reducible refine gdK_of_f _ _ _ _ _ ?_ ?_ <;> (intro hb; try simp only [decide_eq_true_eq, decide_eq_false_iff_not] at hb)) | (with_reducible refine gdK_of_t _ _ _ _ _ ?_ ?_ <;> (intro hb; try simp only [decide_eq_true_eq, decide_eq_false_iff_not] at hb)) | (with_reducible refine gK_of_f _ _ _ ?_ ?_ <;> (intro hb; try simp only [decide_eq_true_eq, decide_eq_false_iff_not] at hb)) | (with_reducible refine gK_of_t _ _ _ ?_ ?_ <;> (intro hb; try simp only [decide_eq_true_eq, decide_eq_false_iff_not] at hb)))
                  exact endsX_same rfl (by simp) fun X hX => by simp (disch := omega) only [go_sem, reduceIte, sliceB]
              · rw [if_neg q6]
                refine ⟨Tryz.f26, _, Tryz.func26, rfl, by simp [Tryz.f26], ?_⟩; rw [Tryz.ntmps26]
                repeat' (first | simp (disch := omega) only [go_sem, reduceIte, sliceB, Tryz.results26] | (with_reducible refine w_chain0 ?_ ?_; focus (decide +kernel)) | (with_reducible refine condK_of _ _ ?_ ?_ <;> (intro hb; try simp only [decide_eq_true_eq, decide_eq_false_iff_not] at hb)) | (with_reducible refine gdK_of_f _ _ _ _ _ ?_ ?_ <;> (intro hb; try simp only [decide_eq_true_eq, decide_eq_false_iff_not] at hb)) | (with_reducible refine gdK_of_t _ _ _ _ _ ?_ ?_ <;> (intro hb; try simp only [decide_eq_true_eq, decide_eq_false_iff_not] at hb)) | (with_reducible refine gK_of_f _ _ _ ?_ ?_ <;> (intro hb; try simp only [decide_eq_true_eq, decide_eq_false_iff_not] at hb)) | (with_reducible refine gK_of_t _ _ _ ?_ ?_ <;> (intro hb; try simp only [decide_eq_true_eq, decide_eq_false_iff_not] at hb)))
                exact endsX_same rfl (by simp) fun X hX => by simp (disch := omega) only [go_sem, reduceIte, sliceB]
theorem may_ok (hc : CallOK Tryz.prog G (LBegin Tryz.prog ν LL W may) ν call) (h1 : ∀ a h, call 25 a h = cAMay a h) (h2 : ∀ a h, call 26 a h = cDMay a h) : SpecOK Tryz.prog G (LBegin Tryz.prog ν LL W may) ν 11 cMay := by
  refine fun_okX (by kernel_rfl) hc fun args s v h' e Lv hlv hG => ?_
  unfold cMay at e
  split at e <;> try (cases e; done)
  rename_i size top v0 ra rn rc
  split at e <;> try (cases e; done)
  rename_i ds hds
  split at e <;> try (cases e; done)
  rename_i hmx
  unfold noneT at e
  simp only [Option.some.injEq, Prod.mk.injEq] at e
  obtain ⟨rfl, rfl⟩ := e
  refine ⟨by simp, 0, ?_⟩
  obtain ⟨a, c, rfl, ha⟩ := row_dscs hds
  generalize hn : ds.length = n at *
  have hCE : ∀ i, compsE i [] = 0 := fun i => rfl
  cases hal : allocOk size top with
  | false =>
    have hE : newE size top ds = 1 := by unfold newE; rw [hal]; rfl
    rw [hE]
    refine ⟨Tryz.f11, _, Tryz.func11, rfl, by simp [Tryz.f11], ?_⟩; rw [Tryz.ntmps11]
    repeat' (first | simp (disch := omega) only [go_sem, reduceIte, sliceB, h1, cAMay, hal, noneT, Tryz.results11] | (with_reducible refine w_chain0 ?_ ?_; focus (decide +kernel)) | (with_reducible refine condK_of _ _ ?_ ?_ <;> (intro hb; try simp only [decide_eq_true_eq, decide_eq_false_iff_not] at hb)) | (with_reducible refine gdK_of_f _ _ _ _ _ ?_ ?_ <;> (intro hb; try simp only [decide_eq_true_eq, decide_eq_false_iff_not] at hb)) | (with_reducible refine gdK_of_t _ _ _ _ _ ?_ ?_ <;> (intro hb; try simp only [decide_eq_true_eq, decide_eq_false_iff_not] at hb)) | (with_reducible refine gK_of_f _ _ _ ?_ ?_ <;> (intro hb; try simp only [decide_eq_true_eq, decide_eq_false_iff_not] at hb)) | (with_reducible refine gK_of_t _ _ _ ?_ ?_ <;> (intro hb; try simp only [decide_eq_true_eq, decide_eq_false_iff_not] at hb)))
    exact endsX_same rfl (by simp only; omega) fun X hX => by simp (disch := omega) only [go_sem, reduceIte, sliceB, fillT_out]
  | true =>
    have hE : newE size top ds = compsE 0 ds := by unfold newE; rw [hal]; rfl
    rw [hE]
    refine ⟨Tryz.f11, _, Tryz.func11, rfl, by simp [Tryz.f11], ?_⟩; rw [Tryz.ntmps11]
    repeat' (first | simp (disch := omega) only [go_sem, reduceIte, sliceB, h1, cAMay, hal, noneT, Tryz.results11] | (with_reducible refine w_chain0 ?_ ?_; focus (decide +kernel)) | (with_reducible refine condK_of _ _ ?_ ?_ <;> (intro hb; try simp only [decide_eq_true_eq, decide_eq_false_iff_not] at hb)) | (with_reducible refine gdK_of_f _ _ _ _ _ ?_ ?_ <;> (intro hb; try simp only [decide_eq_true_eq, decide_eq_false_iff_not] at hb)) | (with_reducible refine gdK_of_t _ _ _ _ _ ?_ ?_ <;> (intro hb; try simp only [decide_eq_true_eq, decide_eq_false_iff_not] at hb)) | (with_reducible refine gK_of_f _ _ _ ?_ ?_ <;> (intro hb; try simp only [decide_eq_true_eq, decide_eq_false_iff_not] at hb)) | (with_reducible refine gK_of_t _ _ _ ?_ ?_ <;> (intro hb; try simp only [decide_eq_true_eq, decide_eq_false_iff_not] at hb)))
    generalize hT : fillT _ _ _ _ = T0
    have hT0 : T0.at_ s.next = some (.cells [.int .i64 size, .int .i64 top, .slice a n c, .slice ra rn rc] 50 true) := by rw [← hT]; simp (disch := omega) only [go_sem, reduceIte, sliceB, fillT_out]
    have hT1 : ∀ X, X < s.next → T0.at_ X = s.t.at_ X := fun X hX => by rw [← hT]; simp (disch := omega) only [go_sem, reduceIte, sliceB, fillT_out]
    refine w_loop (fun m T1 h1 => ∃ i, i ≤ n ∧ m = n - i ∧ Eva.look T1 1 = .pointer (some ⟨s.next, 0, none⟩) ∧ Eva.look T1 3 = .int .i64 (i : Int) ∧ h1.next = s.next + 1 + i ∧ h1.t.at_ s.next = some (.cells [.int .i64 size, .int .i64 top, .slice a n c, .slice ra rn rc] 50 true) ∧ compsE 0 ds = compsE i (ds.drop i) ∧ ∀ X, X < s.next → h1.t.at_ X = s.t.at_ X) n ?_ ?_
    · refine ⟨0, by omega, by omega, ?_, ?_, ?_, hT0, rfl, hT1⟩ <;> (try simp (disch := omega) only [go_sem, reduceIte, sliceB]) <;> (try rfl)
    · rintro m T1 h3 ⟨i, hi, hm, t1, t3, hnx, hc0, hcmp, hold⟩
      by_cases hlt : i < n
      · obtain ⟨d, hd⟩ : ∃ d, ds[i]? = some d := ⟨ds[i]'(by omega), List.getElem?_eq_getElem (by omega)⟩
        obtain ⟨B, o, cs, ty, rw, rfl, hB, hh, hcs⟩ := ha i d hd
        have lB := hlv.lt _ (hlv.arg B (by simp [occL, occ]))
        have gB := (hold B lB).trans hB
        have hdrop : ds.drop i = d :: ds.drop (i + 1) := by rw [List.drop_eq_getElem_cons (by omega), (List.getElem?_eq_some_iff.1 hd).2]
        rw [hdrop, compsE_cons] at hcmp
        by_cases hE0 : chkE d.k d.v d.b = 0
        · rw [if_pos hE0] at hcmp
          by_cases h64 : i < 64
          · rw [if_pos h64] at hcmp
            repeat' (first | simp (disch := omega) only [go_sem, reduceIte, sliceB, t1, t3, hc0, gB, hh, hcs, h2, cDMay, hE0, noneT, Int.toNat_natCast] | (with_reducible refine w_chain0 ?_ ?_; focus (decide +kernel)) | (with_reducible refine condK_of _ _ ?_ ?_ <;> (intro hb; try simp only [decide_eq_true_eq, decide_eq_false_iff_not] at hb)) | (with_reducible refine gdK_of_f _ _ _ _ _ ?_ ?_ <;> (intro hb; try simp only [decide_eq_true_eq, decide_eq_false_iff_not] at hb)) | (with_reducible refine gdK_of_t _ _ _ _ _ ?_ ?_ <;> (intro hb; try simp only [decide_eq_true_eq, decide_eq_false_iff_not] at hb)) | (with_reducible refine gK_of_f _ _ _ ?_ ?_ <;> (intro hb; try simp only [decide_eq_true_eq, decide_eq_false_iff_not] at hb)) | (with_reducible refine gK_of_t _ _ _ ?_ ?_ <;> (intro hb; try simp only [decide_eq_true_eq, decide_eq_false_iff_not] at hb)))
            refine ⟨n - (i + 1), by omega, i + 1, by omega, rfl, ?_⟩
            refine ⟨by simp, by omega, ?_, hcmp, fun X hX => ?_⟩
            · simp (disch := omega) only [go_sem, reduceIte, sliceB, fillT_out]
              exact hc0
            · simp (disch := omega) only [go_sem, reduceIte, sliceB, fillT_out]
              exact hold X hX
          · rw [if_neg h64] at hcmp
            rw [hcmp]
            repeat' (first | simp (disch := omega) only [go_sem, reduceIte, sliceB, t1, t3, hc0, gB, hh, hcs, h2, cDMay, hE0, noneT, Int.toNat_natCast, Tryz.results11] | (with_reducible refine w_chain0 ?_ ?_; focus (decide +kernel)) | (with_reducible refine condK_of _ _ ?_ ?_ <;> (intro hb; try simp only [decide_eq_true_eq, decide_eq_false_iff_not] at hb)) | (with_reducible refine gdK_of_f _ _ _ _ _ ?_ ?_ <;> (intro hb; try simp only [decide_eq_true_eq, decide_eq_false_iff_not] at hb)) | (with_reducible refine gdK_of_t _ _ _ _ _ ?_ ?_ <;> (intro hb; try simp only [decide_eq_true_eq, decide_eq_false_iff_not] at hb)) | (with_reducible refine gK_of_f _ _ _ ?_ ?_ <;> (intro hb; try simp only [decide_eq_true_eq, decide_eq_false_iff_not] at hb)) | (with_reducible refine gK_of_t _ _ _ ?_ ?_ <;> (intro hb; try simp only [decide_eq_true_eq, decide_eq_false_iff_not] at hb)))
            exact endsX_same rfl (by simp only; omega) fun X hX => by
              simp (disch := omega) only [go_sem, reduceIte, sliceB, fillT_out]
              exact hold X hX
        · rw [if_neg hE0] at hcmp
          rw [hcmp]
          generalize hgE : chkE d.k d.v d.b = E at *
          repeat' (first | simp (disch := omega) only [go_sem, reduceIte, sliceB, t1, t3, hc0, gB, hh, hcs, h2, cDMay, hgE, noneT, Int.toNat_natCast, Tryz.results11] | (with_reducible refine w_chain0 ?_ ?_; focus (decide +kernel)) | (with_reducible refine condK_of _ _ ?_ ?_ <;> (intro hb; try simp only [decide_eq_true_eq, decide_eq_false_iff_not] at hb)) | (with_reducible refine gdK_of_f _ _ _ _ _ ?_ ?_ <;> (intro hb; try simp only [decide_eq_true_eq, decide_eq_false_iff_not] at hb)) | (with_reducible refine gdK_of_t _ _ _ _ _ ?_ ?_ <;> (intro hb; try simp only [decide_eq_true_eq, decide_eq_false_iff_not] at hb)) | (with_reducible refine gK_of_f _ _ _ ?_ ?_ <;> (intro hb; try simp only [decide_eq_true_eq, decide_eq_false_iff_not] at hb)) | (with_reducible refine gK_of_t _ _ _ ?_ ?_ <;> (intro hb; try simp only [decide_eq_true_eq, decide_eq_false_iff_not] at hb)))
          exact endsX_same rfl (by simp only; omega) fun X hX => by
            simp (disch := omega) only [go_sem, reduceIte, sliceB, fillT_out]
            exact hold X hX
      · obtain rfl : i = n := by omega
        have hd0 : ds.drop i = [] := List.drop_eq_nil_of_le (by omega)
        rw [hd0] at hcmp
        rw [show compsE 0 ds = 0 from hcmp]
        repeat' (first | simp (disch := omega) only [go_sem, reduceIte, sliceB, t1, t3, hc0, Tryz.results11] | (with_reducible refine w_chain0 ?_ ?_; focus (decide +kernel)) | (with_reducible refine condK_of _ _ ?_ ?_ <;> (intro hb; try simp only [decide_eq_true_eq, decide_eq_false_iff_not] at hb)) | (with_reducible refine gdK_of_f _ _ _ _ _ ?_ ?_ <;> (intro hb; try simp only [decide_eq_true_eq, decide_eq_false_iff_not] at hb)) | (with_reducible refine gdK_of_t _ _ _ _ _ ?_ ?_ <;> (intro hb; try simp only [decide_eq_true_eq, decide_eq_false_iff_not] at hb)) | (with_reducible refine gK_of_f _ _ _ ?_ ?_ <;> (intro hb; try simp only [decide_eq_true_eq, decide_eq_false_iff_not] at hb)) | (with_reducible refine gK_of_t _ _ _ ?_ ?_ <;> (intro hb; try simp only [decide_eq_true_eq, decide_eq_false_iff_not] at hb)))
        exact endsX_same rfl (by omega) fun X hX => hold X hX
theorem alike_ok (hc : CallOK Tryz.prog G (LBegin Tryz.prog ν LL W may) ν call) (h1 : ∀ a h, call 22 a h = cEqI a h) (h2 : ∀ a h, call 23 a h = cEqF a h) : SpecOK Tryz.prog G (LBegin Tryz.prog ν LL W may) ν 9 cAlike := by
  refine fun_okX (by kernel_rfl) hc fun args s v h' e Lv hlv hG => ?_
  unfold cAlike at e
  split at e <;> try (cases e; done)
  rename_i size top v0 r0 size' top' v1 r1
  split at e <;> try (cases e; done)
  rename_i l k m n hl hk hm hn
  split at e <;> try (cases e; done)
  rename_i hcond
  obtain ⟨rfl, rfl, rfl, hal, hml, hmm⟩ := hcond
  unfold noneT at e
  simp only [Option.some.injEq, Prod.mk.injEq] at e
  obtain ⟨rfl, rfl⟩ := e
  have lt : ∀ X, occ X v0 = true ∨ occ X r0 = true ∨ occ X v1 = true ∨ occ X r1 = true → X < s.next := fun X h => hlv.lt _ (hlv.arg X (by rcases h with h | h | h | h <;> simp [occL, occ, h]))
  obtain ⟨a0, n0, c0, rfl⟩ : ∃ a n c, v0 = .slice a n c := by
    cases v0 <;> first | exact ⟨_, _, _, rfl⟩ | (simp [rowB] at hl)
  obtain ⟨a1, n1, c1, rfl⟩ : ∃ a n c, v1 = .slice a n c := by
    cases v1 <;> first | exact ⟨_, _, _, rfl⟩ | (simp [rowB] at hk)
  obtain ⟨a2, n2, c2, rfl⟩ : ∃ a n c, r0 = .slice a n c := by
    cases r0 <;> first | exact ⟨_, _, _, rfl⟩ | (simp [rowB] at hm)
  obtain ⟨a3, n3, c3, rfl⟩ : ∃ a n c, r1 = .slice a n c := by
    cases r1 <;> first | exact ⟨_, _, _, rfl⟩ | (simp [rowB] at hn)
  have hE : ∀ T nx, (∀ X, X < s.next → T.at_ X = s.t.at_ X) → cEqI [.slice a2 n2 c2, .slice a3 n3 c3] ⟨T, nx⟩ = some (.bool true, noneT ⟨T, nx⟩ (64 * m.length)) := fun T nx hT => by
    have e1 : (rowB T 1 (.slice a2 n2 c2)).bind intsL = some m := by rw [rowB_frame (t := s.t) (fun X h => hT X (lt X (.inr (.inl h))))]; exact hm
    have e2 : (rowB T 1 (.slice a3 n3 c3)).bind intsL = some m := by rw [rowB_frame (t := s.t) (fun X h => hT X (lt X (.inr (.inr (.inr h)))))]; exact hn
    simp only [cEqI, e1, e2]
    rw [if_pos ⟨trivial, hmm⟩]
  have hF : ∀ T nx, (∀ X, X < s.next → T.at_ X = s.t.at_ X) → cEqF [.slice a0 n0 c0, .slice a1 n1 c1, .func (.func 21) ⟨[]⟩ ⟨[]⟩] ⟨T, nx⟩ = some (.bool true, noneT ⟨T, nx⟩ (4 * l.length)) := fun T nx hT => by
    have e1 : (rowB T 3 (.slice a0 n0 c0)).bind dscsL = some l := by rw [rowB_frame (t := s.t) (fun X h => hT X (lt X (.inl h)))]; exact hl
    have e2 : (rowB T 3 (.slice a1 n1 c1)).bind dscsL = some k := by rw [rowB_frame (t := s.t) (fun X h => hT X (lt X (.inr (.inr (.inl h)))))]; exact hk
    simp only [cEqF, e1, e2]
    rw [if_pos ⟨hal, hml, rfl⟩]
  refine ⟨by simp, 0, ?_⟩
  generalize hT : (s.t.set s.next (some (.cells [.int .i64 size, .int .i64 top, .slice a0 n0 c0, .slice a2 n2 c2] 50 true))).set (s.next + 1) (some (.cells [.int .i64 size, .int .i64 top, .slice a1 n1 c1, .slice a3 n3 c3] 50 true)) = T at *
  have hT0 : T.at_ s.next = some (.cells [.int .i64 size, .int .i64 top, .slice a0 n0 c0, .slice a2 n2 c2] 50 true) := by rw [← hT]; simp (disch := omega) only [go_sem, reduceIte, sliceB]
  have hT1 : T.at_ (s.next + 1) = some (.cells [.int .i64 size, .int .i64 top, .slice a1 n1 c1, .slice a3 n3 c3] 50 true) := by rw [← hT]; simp (disch := omega) only [go_sem, reduceIte, sliceB]
  have hTo : ∀ X, X < s.next → T.at_ X = s.t.at_ X := fun X hX => by rw [← hT]; simp (disch := omega) only [go_sem, reduceIte, sliceB]
  have hE' := fun nx => hE T nx hTo
  have hF' := fun nx => hF (fillT T (s.next + 1 + 1) (fun _ => none) (64 * m.length)) nx (fun X hX => (fillT_out _ _ _ (.inl (by omega))).trans (hTo X hX))
  refine ⟨Tryz.f9, _, Tryz.func9, rfl, by simp [Tryz.f9], ?_⟩; rw [Tryz.ntmps9]
  repeat' (first | simp (disch := omega) only [go_sem, reduceIte, sliceB, hT, hT0, hT1, h1, h2, hE', hF', noneT, fillT_out, Tryz.results9] | (with_reducible refine w_chain0 ?_ ?_; focus (decide +kernel)) | (with_reducible refine condK_of _ _ ?_ ?_ <;> (intro hb; try simp only [decide_eq_true_eq, decide_eq_false_iff_not] at hb)) | (with_reducible refine gdK_of_f _ _ _ _ _ ?_ ?_ <;> (intro hb; try simp only [decide_eq_true_eq, decide_eq_false_iff_not] at hb)) | (with_reducible refine gdK_of_t _ _ _ _ _ ?_ ?_ <;> (intro hb; try simp only [decide_eq_true_eq, decide_eq_false_iff_not] at hb)) | (with_reducible refine gK_of_f _ _ _ ?_ ?_ <;> (intro hb; try simp only [decide_eq_true_eq, decide_eq_false_iff_not] at hb)) | (with_reducible refine gK_of_t _ _ _ ?_ ?_ <;> (intro hb; try simp only [decide_eq_true_eq, decide_eq_false_iff_not] at hb)))
  exact endsX_same rfl (by simp only; omega) fun X hX => by
    simp (disch := omega) only [go_sem, reduceIte, sliceB, fillT_out]
    exact hTo X hX
end
end Go.Proofs.YtclmjcjaebonnaaGreatDoor
