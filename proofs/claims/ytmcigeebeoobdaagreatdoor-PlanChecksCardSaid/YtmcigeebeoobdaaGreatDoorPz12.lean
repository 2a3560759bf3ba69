/-
  Several texts in one. What the program's table of types tells, type by type; printed by a program of ours.
-/
import Derived.Test.YtmcigeebeoobdaaGreatDoorPz09
import Derived.Test.YtmcigeebeoobdaaGreatDoorProg
import Derived.Test.YtmcigeebeoobdaaGreatDoorPz11
import Derived.WalkKit
import Derived.Test.YtmcigeebeoobdaaGreatDoorPz02
section
namespace Go.Proofs.YtmcigeebeoobdaaGreatDoor
open Go Go.Eva Go.Sym

@[go_sem] theorem agg2 : isAggB Tryz.prog 2 = some false := by kernel_rfl
@[go_sem] theorem size2 : sizeB Tryz.prog 2 = some 1 := by kernel_rfl
@[go_sem] theorem und2 : Tryz.prog.underlying 2 = some (.int .i64) := by kernel_rfl
@[go_sem] theorem apb2 : Nat.ble (((Tryz.prog.info? 2).map (·.bytes)).getD 10000000) 1000000 = true := by kernel_rfl
@[go_sem] theorem pz2 : plainZero Tryz.prog 2 = some [.int .i64 0] := by kernel_rfl
@[go_sem] theorem agg3 : isAggB Tryz.prog 3 = some false := by kernel_rfl
@[go_sem] theorem size3 : sizeB Tryz.prog 3 = some 1 := by kernel_rfl
@[go_sem] theorem und3 : Tryz.prog.underlying 3 = some (.int .i64) := by kernel_rfl
@[go_sem] theorem apb3 : Nat.ble (((Tryz.prog.info? 3).map (·.bytes)).getD 10000000) 1000000 = true := by kernel_rfl
@[go_sem] theorem pz3 : plainZero Tryz.prog 3 = some [.int .i64 0] := by kernel_rfl
@[go_sem] theorem agg4 : isAggB Tryz.prog 4 = some false := by kernel_rfl
@[go_sem] theorem size4 : sizeB Tryz.prog 4 = some 1 := by kernel_rfl
@[go_sem] theorem und4 : Tryz.prog.underlying 4 = some .bool := by kernel_rfl
@[go_sem] theorem apb4 : Nat.ble (((Tryz.prog.info? 4).map (·.bytes)).getD 10000000) 1000000 = true := by kernel_rfl
@[go_sem] theorem pz4 : plainZero Tryz.prog 4 = some [.bool false] := by kernel_rfl
@[go_sem] theorem agg9 : isAggB Tryz.prog 9 = some false := by kernel_rfl
@[go_sem] theorem size9 : sizeB Tryz.prog 9 = some 1 := by kernel_rfl
@[go_sem] theorem und9 : Tryz.prog.underlying 9 = some .string := by kernel_rfl
@[go_sem] theorem apb9 : Nat.ble (((Tryz.prog.info? 9).map (·.bytes)).getD 10000000) 1000000 = true := by kernel_rfl
@[go_sem] theorem pz9 : plainZero Tryz.prog 9 = some [.string ⟨#[]⟩] := by kernel_rfl
@[go_sem] theorem agg22 : isAggB Tryz.prog 22 = some false := by kernel_rfl
@[go_sem] theorem size22 : sizeB Tryz.prog 22 = some 1 := by kernel_rfl
@[go_sem] theorem und22 : Tryz.prog.underlying 22 = some (.slice 3) := by kernel_rfl
@[go_sem] theorem apb22 : Nat.ble (((Tryz.prog.info? 22).map (·.bytes)).getD 10000000) 1000000 = true := by kernel_rfl
@[go_sem] theorem pz22 : plainZero Tryz.prog 22 = some [.slice none 0 0] := by kernel_rfl
@[go_sem] theorem agg29 : isAggB Tryz.prog 29 = some false := by kernel_rfl
@[go_sem] theorem size29 : sizeB Tryz.prog 29 = some 1 := by kernel_rfl
@[go_sem] theorem und29 : Tryz.prog.underlying 29 = some (.slice 2) := by kernel_rfl
@[go_sem] theorem apb29 : Nat.ble (((Tryz.prog.info? 29).map (·.bytes)).getD 10000000) 1000000 = true := by kernel_rfl
@[go_sem] theorem pz29 : plainZero Tryz.prog 29 = some [.slice none 0 0] := by kernel_rfl
@[go_sem] theorem agg34 : isAggB Tryz.prog 34 = some false := by kernel_rfl
@[go_sem] theorem size34 : sizeB Tryz.prog 34 = some 1 := by kernel_rfl
@[go_sem] theorem und34 : Tryz.prog.underlying 34 = some (.slice 37) := by kernel_rfl
@[go_sem] theorem apb34 : Nat.ble (((Tryz.prog.info? 34).map (·.bytes)).getD 10000000) 1000000 = true := by kernel_rfl
@[go_sem] theorem pz34 : plainZero Tryz.prog 34 = some [.slice none 0 0] := by kernel_rfl
@[go_sem] theorem agg37 : isAggB Tryz.prog 37 = some true := by kernel_rfl
@[go_sem] theorem size37 : sizeB Tryz.prog 37 = some 2 := by kernel_rfl
@[go_sem] theorem apb37 : Nat.ble (((Tryz.prog.info? 37).map (·.bytes)).getD 10000000) 1000000 = true := by kernel_rfl
@[go_sem] theorem pz37 : plainZero Tryz.prog 37 = some [.int .i64 0, .int .i64 0] := by kernel_rfl
@[go_sem] theorem flat37 : flatI Tryz.prog 37 = some 2 := by kernel_rfl
@[go_sem] theorem bld37 (parts : List (Nat × Value)) : buildB Tryz.prog 37 parts = (fillB (fun i => ([(0, 1), (1, 1)] : List (Nat × Nat))[i]?) [.int .i64 0, .int .i64 0] parts).map fun l => .agg ⟨l⟩ := by kernel_rfl
@[go_sem] theorem fa37_0 (B o : Nat) : fieldAddrB Tryz.prog 37 0 (.pointer (some ⟨B, o, none⟩)) = some (.pointer (some ⟨B, o, none⟩)) := by kernel_rfl
@[go_sem] theorem fd37_0 (l : List Value) : fieldB Tryz.prog 37 0 (.agg ⟨l⟩) = l[0]? := by kernel_rfl
@[go_sem] theorem fa37_1 (B o : Nat) : fieldAddrB Tryz.prog 37 1 (.pointer (some ⟨B, o, none⟩)) = some (.pointer (some ⟨B, o + 1, none⟩)) := by kernel_rfl
@[go_sem] theorem fd37_1 (l : List Value) : fieldB Tryz.prog 37 1 (.agg ⟨l⟩) = l[1]? := by kernel_rfl
@[go_sem] theorem agg38 : isAggB Tryz.prog 38 = some false := by kernel_rfl
@[go_sem] theorem size38 : sizeB Tryz.prog 38 = some 1 := by kernel_rfl
@[go_sem] theorem und38 : Tryz.prog.underlying 38 = some (.int .i64) := by kernel_rfl
@[go_sem] theorem apb38 : Nat.ble (((Tryz.prog.info? 38).map (·.bytes)).getD 10000000) 1000000 = true := by kernel_rfl
@[go_sem] theorem pz38 : plainZero Tryz.prog 38 = some [.int .i64 0] := by kernel_rfl
@[go_sem] theorem agg89 : isAggB Tryz.prog 89 = some false := by kernel_rfl
@[go_sem] theorem size89 : sizeB Tryz.prog 89 = some 1 := by kernel_rfl
@[go_sem] theorem und89 : Tryz.prog.underlying 89 = some (.slice 123) := by kernel_rfl
@[go_sem] theorem apb89 : Nat.ble (((Tryz.prog.info? 89).map (·.bytes)).getD 10000000) 1000000 = true := by kernel_rfl
@[go_sem] theorem pz89 : plainZero Tryz.prog 89 = some [.slice none 0 0] := by kernel_rfl
@[go_sem] theorem agg99 : isAggB Tryz.prog 99 = some false := by kernel_rfl
@[go_sem] theorem size99 : sizeB Tryz.prog 99 = some 1 := by kernel_rfl
@[go_sem] theorem und99 : Tryz.prog.underlying 99 = some (.int .u64) := by kernel_rfl
@[go_sem] theorem apb99 : Nat.ble (((Tryz.prog.info? 99).map (·.bytes)).getD 10000000) 1000000 = true := by kernel_rfl
@[go_sem] theorem pz99 : plainZero Tryz.prog 99 = some [.int .u64 0] := by kernel_rfl
@[go_sem] theorem size117 : sizeB Tryz.prog 117 = some 3 := by kernel_rfl
@[go_sem] theorem apb117 : Nat.ble (((Tryz.prog.info? 117).map (·.bytes)).getD 10000000) 1000000 = true := by kernel_rfl
@[go_sem] theorem pz117 : plainZero Tryz.prog 117 = some [.int .i64 0, .int .i64 0, .int .i64 0] := by kernel_rfl
@[go_sem] theorem agg123 : isAggB Tryz.prog 123 = some true := by kernel_rfl
@[go_sem] theorem size123 : sizeB Tryz.prog 123 = some 3 := by kernel_rfl
@[go_sem] theorem apb123 : Nat.ble (((Tryz.prog.info? 123).map (·.bytes)).getD 10000000) 1000000 = true := by kernel_rfl
@[go_sem] theorem pz123 : plainZero Tryz.prog 123 = some [.int .i64 0, .int .i64 0, .int .i64 0] := by kernel_rfl
@[go_sem] theorem flat123 : flatI Tryz.prog 123 = some 3 := by kernel_rfl
@[go_sem] theorem bld123 (parts : List (Nat × Value)) : buildB Tryz.prog 123 parts = (fillB (fun i => ([(0, 1), (1, 1), (2, 1)] : List (Nat × Nat))[i]?) [.int .i64 0, .int .i64 0, .int .i64 0] parts).map fun l => .agg ⟨l⟩ := by kernel_rfl
@[go_sem] theorem fa123_0 (B o : Nat) : fieldAddrB Tryz.prog 123 0 (.pointer (some ⟨B, o, none⟩)) = some (.pointer (some ⟨B, o, none⟩)) := by kernel_rfl
@[go_sem] theorem fd123_0 (l : List Value) : fieldB Tryz.prog 123 0 (.agg ⟨l⟩) = l[0]? := by kernel_rfl
@[go_sem] theorem fa123_1 (B o : Nat) : fieldAddrB Tryz.prog 123 1 (.pointer (some ⟨B, o, none⟩)) = some (.pointer (some ⟨B, o + 1, none⟩)) := by kernel_rfl
@[go_sem] theorem fd123_1 (l : List Value) : fieldB Tryz.prog 123 1 (.agg ⟨l⟩) = l[1]? := by kernel_rfl
@[go_sem] theorem fa123_2 (B o : Nat) : fieldAddrB Tryz.prog 123 2 (.pointer (some ⟨B, o, none⟩)) = some (.pointer (some ⟨B, o + 2, none⟩)) := by kernel_rfl
@[go_sem] theorem fd123_2 (l : List Value) : fieldB Tryz.prog 123 2 (.agg ⟨l⟩) = l[2]? := by kernel_rfl
@[go_sem] theorem agg266 : isAggB Tryz.prog 266 = some false := by kernel_rfl
@[go_sem] theorem size266 : sizeB Tryz.prog 266 = some 1 := by kernel_rfl
@[go_sem] theorem und266 : Tryz.prog.underlying 266 = some (.slice 290) := by kernel_rfl
@[go_sem] theorem apb266 : Nat.ble (((Tryz.prog.info? 266).map (·.bytes)).getD 10000000) 1000000 = true := by kernel_rfl
@[go_sem] theorem pz266 : plainZero Tryz.prog 266 = some [.slice none 0 0] := by kernel_rfl
@[go_sem] theorem agg290 : isAggB Tryz.prog 290 = some true := by kernel_rfl
@[go_sem] theorem size290 : sizeB Tryz.prog 290 = some 2 := by kernel_rfl
@[go_sem] theorem apb290 : Nat.ble (((Tryz.prog.info? 290).map (·.bytes)).getD 10000000) 1000000 = true := by kernel_rfl
@[go_sem] theorem pz290 : plainZero Tryz.prog 290 = some [.int .i64 0, .int .i64 0] := by kernel_rfl
@[go_sem] theorem flat290 : flatI Tryz.prog 290 = some 2 := by kernel_rfl
@[go_sem] theorem bld290 (parts : List (Nat × Value)) : buildB Tryz.prog 290 parts = (fillB (fun i => ([(0, 1), (1, 1)] : List (Nat × Nat))[i]?) [.int .i64 0, .int .i64 0] parts).map fun l => .agg ⟨l⟩ := by kernel_rfl
@[go_sem] theorem fa290_0 (B o : Nat) : fieldAddrB Tryz.prog 290 0 (.pointer (some ⟨B, o, none⟩)) = some (.pointer (some ⟨B, o, none⟩)) := by kernel_rfl
@[go_sem] theorem fd290_0 (l : List Value) : fieldB Tryz.prog 290 0 (.agg ⟨l⟩) = l[0]? := by kernel_rfl
@[go_sem] theorem fa290_1 (B o : Nat) : fieldAddrB Tryz.prog 290 1 (.pointer (some ⟨B, o, none⟩)) = some (.pointer (some ⟨B, o + 1, none⟩)) := by kernel_rfl
@[go_sem] theorem fd290_1 (l : List Value) : fieldB Tryz.prog 290 1 (.agg ⟨l⟩) = l[1]? := by kernel_rfl
@[go_sem] theorem und368 : Tryz.prog.underlying 368 = some (.slice 117) := by kernel_rfl
@[go_sem] theorem okf7 : okFn Tryz.prog 7 = true := by kernel_rfl
@[go_sem] theorem okf10 : okFn Tryz.prog 10 = true := by kernel_rfl
@[go_sem] theorem okf12 : okFn Tryz.prog 12 = true := by kernel_rfl
@[go_sem] theorem okf20 : okFn Tryz.prog 20 = true := by kernel_rfl
@[go_sem] theorem okf25 : okFn Tryz.prog 25 = true := by kernel_rfl
@[go_sem] theorem okf26 : okFn Tryz.prog 26 = true := by kernel_rfl
@[go_sem] theorem okf27 : okFn Tryz.prog 27 = true := by kernel_rfl
@[go_sem] theorem okf28 : okFn Tryz.prog 28 = true := by kernel_rfl
@[go_sem] theorem okf29 : okFn Tryz.prog 29 = true := by kernel_rfl
@[go_sem] theorem okf30 : okFn Tryz.prog 30 = true := by kernel_rfl
@[go_sem] theorem okf33 : okFn Tryz.prog 33 = true := by kernel_rfl
@[go_sem] theorem okf63 : okFn Tryz.prog 63 = true := by kernel_rfl
@[go_sem] theorem okf64 : okFn Tryz.prog 64 = true := by kernel_rfl
@[go_sem] theorem okf65 : okFn Tryz.prog 65 = true := by kernel_rfl
@[go_sem] theorem okf66 : okFn Tryz.prog 66 = true := by kernel_rfl
@[go_sem] theorem okf67 : okFn Tryz.prog 67 = true := by kernel_rfl
@[go_sem] theorem okf68 : okFn Tryz.prog 68 = true := by kernel_rfl
@[go_sem] theorem okf107 : okFn Tryz.prog 107 = true := by kernel_rfl
@[go_sem] theorem okf108 : okFn Tryz.prog 108 = true := by kernel_rfl
@[go_sem] theorem okf109 : okFn Tryz.prog 109 = true := by kernel_rfl
@[go_sem] theorem okf110 : okFn Tryz.prog 110 = true := by kernel_rfl
@[go_sem] theorem okf111 : okFn Tryz.prog 111 = true := by kernel_rfl
@[go_sem] theorem okf112 : okFn Tryz.prog 112 = true := by kernel_rfl
@[go_sem] theorem okf143 : okFn Tryz.prog 143 = true := by kernel_rfl
@[go_sem] theorem okf156 : okFn Tryz.prog 156 = true := by kernel_rfl
@[go_sem] theorem okf162 : okFn Tryz.prog 162 = true := by kernel_rfl
@[go_sem] theorem okf224 : okFn Tryz.prog 224 = true := by kernel_rfl
end Go.Proofs.YtmcigeebeoobdaaGreatDoor
end

/-
  No structure of this program is folded here: the forms are empty.
-/
section
set_option linter.unusedSimpArgs false
set_option linter.unusedVariables false
namespace Go.Proofs.YtmcigeebeoobdaaGreatDoor
open Go Go.RowKit Go.Viv Go.Eva Go.Sym
def LL : Frm := ⟨fun _ _ _ _ => False, fun _ _ _ _ => False, fun h => h.elim, fun h => h.elim, fun h => h.elim, fun h => h.elim⟩
end Go.Proofs.YtmcigeebeoobdaaGreatDoor
namespace Go.Sym
open Go Go.RowKit Go.Viv Go.Eva
attribute [go_sem] true_and decide_true decide_false Bool.true_and Bool.false_and Bool.not_false Bool.not_true Bool.and_true dec_t dec_f opened layL renL ren Option.map_some Option.map_none renO evA loadB readCells storeB indexAddrB wrap_nat wrap_nn lenB nilB List.map_cons List.map_nil quietBuiltin nblt_t nblt_f nble_t nble_f nbeq_t nbeq_f Array.toList Nat.add_zero List.nil_append List.append_nil List.cons_append List.take_zero List.take_succ_cons List.drop_zero List.drop_succ_cons List.take_nil List.drop_nil has Option.map goB Int.ofNat_eq_natCast len1 len2 len3 len4 len5 len6 len7 len8 Nat.zero_add Nat.mul_one rep invB eqInts Nat.zero_mul Nat.one_mul semV_pure fillB mapB Option.elim
end Go.Sym
end

/-
  What a run comes to may be told more weakly. No program in sight.
-/
section
set_option linter.unusedSimpArgs false
set_option linter.unusedVariables false
namespace Go.Sym
open Go Go.RowKit Go.Viv Go.Eva
section
variable {P : Program} {G n : Nat} {call : CallB}
theorem R_mono {all : List Oper} {K K' : Tr Value → Hp → Prop} (hK : ∀ T h, K T h → K' T h) : ∀ {l : List Oper} {T : Tr Value} {h : Hp}, R P G n call all l T h K → R P G n call all l T h K'
  | [], T, h, hr => hK _ _ hr
  | o :: l, T, h, hr => by
    unfold R at hr ⊢
    exact guardK_mono hr (onSome_mono fun r => onSome_mono fun T' h' => R_mono hK h') (onSome_mono fun T' h' => R_mono hK h')
theorem seqK_mono {Q Q' : Ex → Tr Value → Hp → Prop} {K K' : Tr Value → Hp → Prop} (hQ : ∀ x T h, Q x T h → Q' x T h) (hK : ∀ T h, K T h → K' T h) : ∀ x T h, seqK Q K x T h → seqK Q' K' x T h
  | .normal, T, h, hr => hK _ _ hr
  | .exit id, T, h, hr => hQ _ _ _ hr
  | .ret, T, h, hr => hQ _ _ _ hr
theorem blockK_mono {id : Nat} {Q Q' : Ex → Tr Value → Hp → Prop} (hQ : ∀ x T h, Q x T h → Q' x T h) : ∀ x T h, blockK id Q x T h → blockK id Q' x T h
  | .normal, T, h, hr => hQ _ _ _ hr
  | .exit id', T, h, hr => by
    simp only [blockK] at hr ⊢
    cases hb : Nat.beq id' id with
    | true => rw [hb] at hr; exact hQ _ _ _ hr
    | false => rw [hb] at hr; exact hQ _ _ _ hr
  | .ret, T, h, hr => hQ _ _ _ hr
theorem wpC_mono : ∀ {c : Code} {T : Tr Value} {h : Hp} {Q Q' : Ex → Tr Value → Hp → Prop}, (∀ x T h, Q x T h → Q' x T h) → wpC P G n call c T h Q → wpC P G n call c T h Q'
  | .skip, _, _, _, _, hQ, hr => hQ _ _ _ hr
  | .label _, _, _, _, _, hQ, hr => hQ _ _ _ hr
  | .exit _, _, _, _, _, hQ, hr => hQ _ _ _ hr
  | .ret, _, _, _, _, hQ, hr => hQ _ _ _ hr
  | .goto _, _, _, _, _, _, hr => hr.elim
  | .refuse _, _, _, _, _, _, hr => hr.elim
  | .rangeFunc _ _ _ _, _, _, _, _, _, hr => hr.elim
  | .region _ ops false, _, _, _, _, hQ, hr => R_mono (fun T h => hQ _ T h) hr
  | .region _ ops true, _, _, _, _, hQ, hr => by
    obtain ⟨h1, ord, k, m, h2⟩ := hr
    exact ⟨h1, ord, k, m, DR_mono (fun T h d hd => ⟨hd.1, hQ _ _ _ hd.2⟩) h2⟩
  | .seq a b, _, _, _, _, hQ, hr => wpC_mono (c := a) (seqK_mono hQ fun T h hr => wpC_mono (c := b) hQ hr) hr
  | .cond x a b, T, h, Q, Q', hQ, hr => by
    have hr' : onBool (evl G T x) (wpC P G n call a T h Q) (wpC P G n call b T h Q) := hr
    show onBool (evl G T x) (wpC P G n call a T h Q') (wpC P G n call b T h Q')
    cases hx : evl G T x <;> rw [hx] at hr' <;> try (exact hr'.elim)
    rename_i b'
    cases b' with
    | true => exact wpC_mono (c := a) hQ hr'
    | false => exact wpC_mono (c := b) hQ hr'
  | .block id c, _, _, _, _, hQ, hr => wpC_mono (c := c) (blockK_mono hQ) hr
  | .scope c, _, _, _, _, hQ, hr => wpC_mono (c := c) hQ hr
  | .loop c, _, _, _, _, hQ, hr => by
    obtain ⟨I, h0, hs⟩ := hr
    exact ⟨I, h0, fun m T h hI => wpC_mono (c := c) (seqK_mono hQ fun T h hr => hr) (hs m T h hI)⟩
theorem endK_mono {rs : List ResultVar} {K K' : Value → Hp → Prop} (hK : ∀ v h, K v h → K' v h) : ∀ x T h, endK P rs K x T h → endK P rs K' x T h
  | .exit _, _, _, hr => hr
  | .normal, _, _, hr => onSome_mono (fun vs => hK _ _) hr
  | .ret, _, _, hr => onSome_mono (fun vs => hK _ _) hr
theorem wpF_mono {g : FuncId} {args : List Value} {h : Hp} {K K' : Value → Hp → Prop} (hK : ∀ v h, K v h → K' v h) (hr : wpF P G call g args h K) : wpF P G call g args h K' := by
  obtain ⟨fn, c, h1, h2, h3, h4⟩ := hr
  exact ⟨fn, c, h1, h2, h3, wpC_mono (endK_mono hK) h4⟩
end
end Go.Sym
end

/-
  Rising rows of numbers: one put in, one struck, the next one. No program in sight.
-/
section
namespace Go.Viv

def RiseN : List Nat → Prop
  | [] => True
  | a :: r => (∀ x ∈ r, a < x) ∧ RiseN r
def insN (i : Nat) : List Nat → List Nat
  | [] => [i]
  | a :: r => if i < a then i :: a :: r else if i = a then a :: r else a :: insN i r
def remN (i : Nat) (l : List Nat) : List Nat := l.filter (fun x => decide (x ≠ i))
def nextN (l : List Nat) (k : Nat) : Option Nat := l.find? (fun x => decide (k ≤ x))

theorem mem_insN {i x : Nat} : ∀ {l : List Nat}, x ∈ insN i l ↔ x = i ∨ x ∈ l
  | [] => by simp [insN]
  | a :: r => by
    unfold insN
    split
    · simp
    · split
      · rename_i h; subst h; simp
      · simp [mem_insN (l := r)]; constructor
        · rintro (h | h | h)
          · exact .inr (.inl h)
          · exact .inl h
          · exact .inr (.inr h)
        · rintro (h | h | h)
          · exact .inr (.inl h)
          · exact .inl h
          · exact .inr (.inr h)
theorem riseN_ins {i : Nat} : ∀ {l : List Nat}, RiseN l → RiseN (insN i l)
  | [], _ => ⟨by simp, trivial⟩
  | a :: r, h => by
    unfold insN
    split
    · rename_i hlt
      exact ⟨fun x hx => by
        rcases List.mem_cons.1 hx with rfl | hx
        · exact hlt
        · exact Nat.lt_trans hlt (h.1 x hx), h⟩
    · split
      · exact h
      · refine ⟨fun x hx => ?_, riseN_ins h.2⟩
        rcases mem_insN.1 hx with rfl | hx
        · omega
        · exact h.1 x hx
theorem insN_there {i : Nat} : ∀ {l : List Nat}, RiseN l → i ∈ l → insN i l = l
  | [], _, h => by simp at h
  | a :: r, h, hm => by
    unfold insN
    rcases List.mem_cons.1 hm with rfl | hm
    · rw [if_neg (Nat.lt_irrefl _), if_pos rfl]
    · have := h.1 i hm
      rw [if_neg (by omega), if_neg (by omega), insN_there h.2 hm]
theorem insN_len {i : Nat} : ∀ {l : List Nat}, RiseN l → i ∉ l → (insN i l).length = l.length + 1
  | [], _, _ => rfl
  | a :: r, h, hm => by
    unfold insN
    split
    · rfl
    · rw [if_neg (fun e => hm (by simp [e])), List.length_cons, insN_len h.2 (fun hx => hm (by simp [hx])), List.length_cons]
theorem mem_remN {i x : Nat} {l : List Nat} : x ∈ remN i l ↔ x ∈ l ∧ x ≠ i := by simp [remN]
theorem riseN_filter {p : Nat → Bool} : ∀ {l : List Nat}, RiseN l → RiseN (l.filter p)
  | [], _ => trivial
  | a :: r, h => by
    rw [List.filter_cons]
    split
    · exact ⟨fun x hx => h.1 x (List.mem_filter.1 hx).1, riseN_filter h.2⟩
    · exact riseN_filter h.2
theorem remN_not {i : Nat} {l : List Nat} (h : i ∉ l) : remN i l = l := by
  unfold remN
  rw [List.filter_eq_self]
  intro x hx
  simp only [decide_eq_true_eq]
  rintro rfl
  exact h hx
theorem remN_len {i : Nat} : ∀ {l : List Nat}, RiseN l → i ∈ l → (remN i l).length + 1 = l.length
  | [], _, h => by simp at h
  | a :: r, h, hm => by
    unfold remN
    rw [List.filter_cons]
    rcases List.mem_cons.1 hm with rfl | hm
    · have hn : i ∉ r := fun hx => Nat.lt_irrefl _ (h.1 i hx)
      have := remN_not hn
      unfold remN at this
      simp only [ne_eq, not_true_eq_false, decide_false, Bool.false_eq_true, if_false]
      rw [show (List.filter (fun x => decide ¬x = i) r) = r from this]
      rfl
    · have hne : a ≠ i := fun e => by subst e; exact Nat.lt_irrefl _ (h.1 a hm)
      simp only [ne_eq, hne, not_false_eq_true, decide_true, if_true, List.length_cons]
      have := remN_len h.2 hm
      unfold remN at this
      simp only [ne_eq] at this
      omega
theorem nextN_some {l : List Nat} {k i : Nat} (hr : RiseN l) (h : nextN l k = some i) : i ∈ l ∧ k ≤ i ∧ ∀ x ∈ l, k ≤ x → i ≤ x := by
  induction l with
  | nil => simp [nextN] at h
  | cons a r ih =>
    unfold nextN at h
    rw [List.find?_cons] at h
    by_cases hk : k ≤ a
    · rw [decide_eq_true hk] at h
      obtain rfl := Option.some.inj h
      exact ⟨by simp, hk, fun x hx _ => by
        rcases List.mem_cons.1 hx with rfl | hx
        · exact Nat.le_refl _
        · exact Nat.le_of_lt (hr.1 x hx)⟩
    · rw [decide_eq_false hk] at h
      obtain ⟨h1, h2, h3⟩ := ih hr.2 h
      exact ⟨by simp [h1], h2, fun x hx hkx => by
        rcases List.mem_cons.1 hx with rfl | hx
        · omega
        · exact h3 x hx hkx⟩
theorem nextN_none {l : List Nat} {k : Nat} : nextN l k = none ↔ ∀ x ∈ l, x < k := by
  unfold nextN
  rw [List.find?_eq_none]
  constructor
  · intro h x hx
    have := h x hx
    simp at this
    exact this
  · intro h x hx
    have := h x hx
    simp
    exact this
theorem nextN_of {l : List Nat} {k i : Nat} (hr : RiseN l) (hi : i ∈ l) (hk : k ≤ i) (hmin : ∀ x ∈ l, k ≤ x → i ≤ x) : nextN l k = some i := by
  cases h : nextN l k with
  | none => have := nextN_none.1 h i hi; omega
  | some j =>
    obtain ⟨h1, h2, h3⟩ := nextN_some hr h
    have a := h3 i hi hk
    have b := hmin j h1 h2
    rw [show j = i by omega]
theorem riseN_ext : ∀ {a b : List Nat}, RiseN a → RiseN b → (∀ x, x ∈ a ↔ x ∈ b) → a = b
  | [], [], _, _, _ => rfl
  | [], y :: s, _, _, h => by have := (h y).2 (by simp); simp at this
  | x :: r, [], _, _, h => by have := (h x).1 (by simp); simp at this
  | x :: r, y :: s, ha, hb, h => by
    have hxy : x = y := by
      have h1 := (h x).1 (by simp)
      have h2 := (h y).2 (by simp)
      rcases List.mem_cons.1 h1 with e | h1
      · exact e
      · rcases List.mem_cons.1 h2 with e | h2
        · exact e.symm
        · have := hb.1 x h1
          have := ha.1 y h2
          omega
    subst hxy
    rw [riseN_ext ha.2 hb.2 (fun z => ?_)]
    constructor
    · intro hz
      have h1 := (h z).1 (by simp [hz])
      rcases List.mem_cons.1 h1 with rfl | h1
      · have := ha.1 z hz; omega
      · exact h1
    · intro hz
      have h1 := (h z).2 (by simp [hz])
      rcases List.mem_cons.1 h1 with rfl | h1
      · have := hb.1 z hz; omega
      · exact h1
end Go.Viv
end

/-
  Handles in plain words: the indexes of a state, rising. No program in sight.
-/
section
namespace Go.Viv
theorem rise_of_pairwise : ∀ {l : List Nat}, l.Pairwise (· < ·) → RiseN l
  | [], _ => trivial
  | _ :: _, h => ⟨fun x hx => (List.pairwise_cons.1 h).1 x hx, rise_of_pairwise (List.pairwise_cons.1 h).2⟩
/-- The indexes of a state. -/
def Als.idx (a : Als) (s : Nat) : List Nat := (List.range a.st.length).filter (fun i => a.stAt i == s)
theorem Als.idx_rise (a : Als) (s : Nat) : RiseN (a.idx s) := rise_of_pairwise (List.pairwise_lt_range.filter _)
theorem Als.mem_idx {a : Als} {s i : Nat} : i ∈ a.idx s ↔ i < a.st.length ∧ a.stAt i = s := by
  simp [Als.idx]
theorem Als.inSt_eq (a : Als) (s : Nat) : a.inSt s = (a.idx s).map fun (i : Nat) => ⟨i, a.genAt i⟩ := rfl
end Go.Viv
end

/-
  Handles in plain words: what giving, taking back and merging do to the sets of indexes.
-/
section
set_option linter.unusedSimpArgs false
set_option linter.unusedVariables false
namespace Go.Viv
/-- Handles as they may be. -/
structure AlsOk (a : Als) : Prop where
  len : a.gen.length = a.st.length
  lo : 1 ≤ a.st.length
  hi : a.st.length ≤ 65536
  top : 1 ≤ a.top ∧ a.top ≤ 4294967295
  gen : ∀ i, 0 ≤ a.genAt i ∧ a.genAt i ≤ a.top
  free : ∀ i, i < a.st.length → a.stAt i = 0 → a.genAt i < a.top
  st : ∀ i, a.stAt i = 0 ∨ a.stAt i = 1 ∨ a.stAt i = 2 ∨ a.stAt i = 9
theorem getD_set {α : Type} (l : List α) (i j : Nat) (x d : α) : (l.set i x).getD j d = if i = j ∧ j < l.length then x else l.getD j d := by
  simp only [List.getD_eq_getElem?_getD, List.getElem?_set]
  by_cases h : i = j
  · subst h
    by_cases h' : i < l.length
    · simp [h']
    · simp [h', List.getElem?_eq_none (Nat.le_of_not_lt h')]
  · simp [h]
theorem Als.idx_eq {a b : Als} {s t : Nat} (h : ∀ x, (x < a.st.length ∧ a.stAt x = s) ↔ (x < b.st.length ∧ b.stAt x = t)) : a.idx s = b.idx t :=
  riseN_ext (a.idx_rise s) (b.idx_rise t) fun x => by rw [Als.mem_idx, Als.mem_idx]; exact h x
theorem Als.give_len (a : Als) (i s : Nat) : (a.give i s).st.length = a.st.length := by simp [Als.give]
theorem Als.give_at (a : Als) (i s j : Nat) : (a.give i s).stAt j = if i = j ∧ j < a.st.length then s else a.stAt j := getD_set _ _ _ _ _
theorem Als.give_gen (a : Als) (i s j : Nat) : (a.give i s).genAt j = if i = j ∧ j < a.gen.length then a.genAt i + 1 else a.genAt j := getD_set _ _ _ _ _
theorem Als.idx_rem {a b : Als} {i s : Nat} (hl : b.st.length = a.st.length) (hi : b.stAt i ≠ s) (ho : ∀ j, j ≠ i → (b.stAt j = s ↔ a.stAt j = s)) : b.idx s = remN i (a.idx s) :=
  riseN_ext (b.idx_rise s) (riseN_filter (a.idx_rise s)) fun x => by
    rw [mem_remN, Als.mem_idx, Als.mem_idx, hl]
    by_cases h : x = i
    · subst h; simp [hi]
    · rw [ho x h]; simp [h]
theorem Als.idx_ins {a b : Als} {i s : Nat} (hl : b.st.length = a.st.length) (hlt : i < a.st.length) (hi : b.stAt i = s) (ho : ∀ j, j ≠ i → (b.stAt j = s ↔ a.stAt j = s)) : b.idx s = insN i (a.idx s) :=
  riseN_ext (b.idx_rise s) (riseN_ins (a.idx_rise s)) fun x => by
    rw [mem_insN, Als.mem_idx, Als.mem_idx, hl]
    by_cases h : x = i
    · subst h; simp [hi, hlt]
    · rw [ho x h]; simp [h]
theorem Als.idx_same {a b : Als} {s : Nat} (hl : b.st.length = a.st.length) (ho : ∀ j, j < a.st.length → (b.stAt j = s ↔ a.stAt j = s)) : b.idx s = a.idx s :=
  Als.idx_eq fun x => by
    rw [hl]
    constructor
    · rintro ⟨h1, h2⟩; exact ⟨h1, (ho x h1).1 h2⟩
    · rintro ⟨h1, h2⟩; exact ⟨h1, (ho x h1).2 h2⟩
theorem Als.least_some {a : Als} {i : Nat} (h : a.least = some i) : i < a.st.length ∧ a.stAt i = 0 ∧ ∀ j, j < i → a.stAt j ≠ 0 := by
  obtain ⟨h1, h2, h3⟩ := List.findIdx?_eq_some_iff_getElem.1 h
  refine ⟨h1, ?_, fun j hj => ?_⟩
  · have := h2
    simp only [beq_iff_eq] at this
    simp only [Als.stAt, List.getD_eq_getElem?_getD, List.getElem?_eq_getElem h1, Option.getD_some, this]
  · have := h3 j hj
    simp only [Bool.not_eq_true, beq_eq_false_iff_ne] at this
    simpa only [Als.stAt, List.getD_eq_getElem?_getD, List.getElem?_eq_getElem (Nat.lt_trans hj h1), Option.getD_some] using this
theorem Als.least_none {a : Als} (h : a.least = none) : ∀ j, j < a.st.length → a.stAt j ≠ 0 := by
  intro j hj e
  have := List.findIdx?_eq_none_iff.1 h (a.st[j]) (List.getElem_mem hj)
  simp only [Als.stAt, List.getD_eq_getElem?_getD, List.getElem?_eq_getElem hj, Option.getD_some] at e
  simp [e] at this
theorem Als.next_free (a : Als) : nextN (a.idx 0) 0 = a.least := by
  cases h : a.least with
  | none =>
    rw [nextN_none]
    intro x hx
    have := Als.mem_idx.1 hx
    exact absurd this.2 (Als.least_none h x this.1)
  | some i =>
    obtain ⟨h1, h2, h3⟩ := Als.least_some h
    refine nextN_of (a.idx_rise 0) (Als.mem_idx.2 ⟨h1, h2⟩) (Nat.zero_le _) fun x hx _ => ?_
    have := Als.mem_idx.1 hx
    rcases Nat.lt_or_ge x i with h' | h'
    · exact absurd this.2 (h3 x h')
    · exact h'
theorem Als.give_free {a : Als} {i s : Nat} (hs : s ≠ 0) (hi : i < a.st.length) : (a.give i s).idx 0 = remN i (a.idx 0) :=
  Als.idx_rem (a.give_len i s) (by rw [a.give_at, if_pos ⟨rfl, hi⟩]; exact hs) fun j hj => by rw [a.give_at, if_neg (fun h => hj h.1.symm)]
theorem Als.give_to {a : Als} {i s : Nat} (hi : i < a.st.length) : (a.give i s).idx s = insN i (a.idx s) :=
  Als.idx_ins (a.give_len i s) hi (by rw [a.give_at, if_pos ⟨rfl, hi⟩]) fun j hj => by rw [a.give_at, if_neg (fun h => hj h.1.symm)]
theorem Als.give_rest {a : Als} {i s t : Nat} (h0 : a.stAt i ≠ t) (hs : s ≠ t) : (a.give i s).idx t = a.idx t :=
  Als.idx_same (a.give_len i s) fun j hj => by
    rw [a.give_at]
    split
    · rename_i h
      obtain ⟨rfl, _⟩ := h
      simp [hs, h0]
    · exact Iff.rfl
theorem AlsOk.give {a : Als} (h : AlsOk a) {i s : Nat} (hi : i < a.st.length) (h0 : a.stAt i = 0) (hs : s = 1 ∨ s = 2) : AlsOk (a.give i s) where
  len := by simp [Als.give, h.len]
  lo := by rw [a.give_len]; exact h.lo
  hi := by rw [a.give_len]; exact h.hi
  top := h.top
  gen := fun j => by
    rw [a.give_gen]
    have h1 := h.gen i
    have h2 := h.free i hi h0
    split
    · exact ⟨by omega, by show a.genAt i + 1 ≤ a.top; omega⟩
    · exact h.gen j
  free := fun j hj hz => by
    rw [a.give_len] at hj
    rw [a.give_at] at hz
    rw [a.give_gen]
    split at hz
    · omega
    · rename_i hn
      rw [if_neg (fun hh => hn ⟨hh.1, hj⟩)]
      exact h.free j hj hz
  st := fun j => by
    rw [a.give_at]
    split
    · rcases hs with rfl | rfl <;> simp
    · exact h.st j
theorem Als.idx_len (a : Als) (s : Nat) : (a.idx s).length ≤ a.st.length := by
  unfold Als.idx
  exact Nat.le_trans (List.length_filter_le _ _) (by simp)
theorem Als.err_eq {a : Als} (h : AlsOk a) (hn : a.least = none) : (if 0 < (a.idx 1).length + (a.idx 2).length then (6 : Int) else 7) = a.err := by
  unfold Als.err
  have hz := Als.least_none hn
  by_cases hex : ∃ j, j < a.st.length ∧ a.stAt j ≠ 9
  · obtain ⟨j, hj, h9⟩ := hex
    have h1 : 0 < (a.idx 1).length + (a.idx 2).length := by
      rcases h.st j with h' | h' | h' | h'
      · exact absurd h' (hz j hj)
      · have := List.length_pos_of_mem (Als.mem_idx.2 ⟨hj, h'⟩); omega
      · have := List.length_pos_of_mem (Als.mem_idx.2 ⟨hj, h'⟩); omega
      · exact absurd h' h9
    have h2 : a.st.any (fun s => s != 9) = true := List.any_eq_true.2 ⟨a.st[j], List.getElem_mem hj, by
      simp only [Als.stAt, List.getD_eq_getElem?_getD, List.getElem?_eq_getElem hj, Option.getD_some] at h9
      simpa using h9⟩
    rw [if_pos h1, h2]
    rfl
  · have all9 : ∀ j, j < a.st.length → a.stAt j = 9 := fun j hj => by
      by_cases h' : a.stAt j = 9
      · exact h'
      · exact absurd ⟨j, hj, h'⟩ hex
    have e1 : ∀ s, s ≠ 9 → a.idx s = [] := fun s hs => List.eq_nil_iff_forall_not_mem.2 fun x hx => by
      have := Als.mem_idx.1 hx
      rw [all9 x this.1] at this
      exact hs this.2.symm
    have h2 : a.st.any (fun s => s != 9) = false := by
      rw [List.any_eq_false]
      intro x hx
      obtain ⟨j, hj, rfl⟩ := List.getElem_of_mem hx
      have := all9 j hj
      simp only [Als.stAt, List.getD_eq_getElem?_getD, List.getElem?_eq_getElem hj, Option.getD_some] at this
      simp [this]
    rw [e1 1 (by omega), e1 2 (by omega), h2]
    simp
theorem Als.gone_at (a : Als) (h : Hnd) (j : Nat) : (a.gone h).stAt j = if h.i.toNat = j ∧ j < a.st.length then (if a.top ≤ h.g then 9 else 0) else a.stAt j := getD_set _ _ _ _ _
theorem Als.gone_len (a : Als) (h : Hnd) : (a.gone h).st.length = a.st.length := by simp [Als.gone]
theorem Als.gone_live {a : Als} {h : Hnd} (hi : h.i.toNat < a.st.length) : (a.gone h).idx 1 = remN h.i.toNat (a.idx 1) :=
  Als.idx_rem (a.gone_len h) (by rw [a.gone_at, if_pos ⟨rfl, hi⟩]; split <;> omega) fun j hj => by rw [a.gone_at, if_neg (fun hh => hj hh.1.symm)]
theorem Als.gone_free {a : Als} {h : Hnd} (hi : h.i.toNat < a.st.length) (ht : ¬ a.top ≤ h.g) : (a.gone h).idx 0 = insN h.i.toNat (a.idx 0) :=
  Als.idx_ins (a.gone_len h) hi (by rw [a.gone_at, if_pos ⟨rfl, hi⟩, if_neg ht]) fun j hj => by rw [a.gone_at, if_neg (fun hh => hj hh.1.symm)]
theorem Als.gone_rest {a : Als} {h : Hnd} {t : Nat} (h0 : a.stAt h.i.toNat ≠ t) (ht : (if a.top ≤ h.g then 9 else 0) ≠ t) : (a.gone h).idx t = a.idx t :=
  Als.idx_same (a.gone_len h) fun j hj => by
    rw [a.gone_at]
    split
    · rename_i hh
      obtain ⟨rfl, _⟩ := hh
      simp [ht, h0]
    · exact Iff.rfl
theorem AlsOk.gone {a : Als} (ok : AlsOk a) {h : Hnd} (hg : a.genAt h.i.toNat = h.g) : AlsOk (a.gone h) where
  len := by simp [Als.gone, ok.len]
  lo := by rw [a.gone_len]; exact ok.lo
  hi := by rw [a.gone_len]; exact ok.hi
  top := ok.top
  gen := ok.gen
  free := fun j hj hz => by
    rw [a.gone_len] at hj
    rw [a.gone_at] at hz
    show a.genAt j < a.top
    split at hz
    · rename_i hh
      obtain ⟨rfl, _⟩ := hh
      split at hz
      · omega
      · omega
    · exact ok.free j hj hz
  st := fun j => by
    rw [a.gone_at]
    split
    · split <;> simp
    · exact ok.st j
theorem Als.of_live {a : Als} {i g : Int} (h0 : a.of ⟨i, g⟩ ≠ 0) (h2 : a.of ⟨i, g⟩ ≠ 2) : 0 ≤ i ∧ i < a.st.length ∧ a.genAt i.toNat = g ∧ a.stAt i.toNat = 1 ∧ a.of ⟨i, g⟩ = 1 := by
  unfold Als.of at h0 h2 ⊢
  simp only at h0 h2 ⊢
  by_cases h1 : i < 0 ∨ (a.st.length : Int) ≤ i
  · rw [if_pos h1] at h0; exact absurd rfl h0
  rw [if_neg h1] at h0 h2 ⊢
  by_cases h3 : a.genAt i.toNat ≠ g
  · rw [if_pos h3] at h0; exact absurd rfl h0
  rw [if_neg h3] at h0 h2 ⊢
  by_cases h4 : a.stAt i.toNat = 1 ∨ a.stAt i.toNat = 2
  · rw [if_pos h4] at h0 h2 ⊢
    exact ⟨by omega, by omega, by simpa using h3, by omega, by omega⟩
  · rw [if_neg h4] at h0; exact absurd rfl h0
theorem Als.merged_at (a : Als) (j : Nat) : a.merged.stAt j = if a.stAt j = 2 then 1 else a.stAt j := by
  simp only [Als.merged, Als.stAt, List.getD_eq_getElem?_getD, List.getElem?_map]
  rcases Nat.lt_or_ge j a.st.length with h | h
  · simp [List.getElem?_eq_getElem h]
  · simp [List.getElem?_eq_none h]
theorem Als.merged_len (a : Als) : a.merged.st.length = a.st.length := by simp [Als.merged]
theorem Als.merged_zero (a : Als) : a.merged.idx 0 = a.idx 0 := Als.idx_same a.merged_len fun j _ => by
  rw [a.merged_at]; split <;> omega
theorem Als.merged_two (a : Als) : a.merged.idx 2 = [] := List.eq_nil_iff_forall_not_mem.2 fun x hx => by
  have := (Als.mem_idx.1 hx).2
  rw [a.merged_at] at this
  split at this <;> omega
def insAll (p : List Nat) : List Nat → List Nat
  | [] => p
  | a :: l => insAll (insN a p) l
theorem insAll_mem {x : Nat} : ∀ {l p : List Nat}, x ∈ insAll p l ↔ x ∈ l ∨ x ∈ p
  | [], p => by simp [insAll]
  | a :: l, p => by
    simp only [insAll]
    rw [insAll_mem (l := l), mem_insN, List.mem_cons]
    constructor
    · rintro (h | h | h)
      · exact .inl (.inr h)
      · exact .inl (.inl h)
      · exact .inr h
    · rintro ((h | h) | h)
      · exact .inr (.inl h)
      · exact .inl h
      · exact .inr (.inr h)
theorem insAll_rise : ∀ {l p : List Nat}, RiseN p → RiseN (insAll p l)
  | [], p, h => h
  | a :: l, p, h => insAll_rise (l := l) (riseN_ins h)
theorem insAll_snoc : ∀ (l p : List Nat) (a : Nat), insAll p (l ++ [a]) = insN a (insAll p l)
  | [], p, a => rfl
  | b :: l, p, a => insAll_snoc l (insN b p) a
theorem Als.merged_one (a : Als) : a.merged.idx 1 = insAll (a.idx 1) (a.idx 2) :=
  riseN_ext (a.merged.idx_rise 1) (insAll_rise (a.idx_rise 1)) fun x => by
    rw [insAll_mem, Als.mem_idx, Als.mem_idx, Als.mem_idx, a.merged_len, a.merged_at]
    constructor
    · rintro ⟨h1, h2⟩
      split at h2
      · exact .inl ⟨h1, ‹_›⟩
      · exact .inr ⟨h1, h2⟩
    · rintro (⟨h1, h2⟩ | ⟨h1, h2⟩)
      · exact ⟨h1, by rw [if_pos h2]⟩
      · exact ⟨h1, by rw [if_neg (by omega)]; exact h2⟩
theorem AlsOk.merged {a : Als} (h : AlsOk a) : AlsOk a.merged where
  len := by rw [a.merged_len]; exact h.len
  lo := by rw [a.merged_len]; exact h.lo
  hi := by rw [a.merged_len]; exact h.hi
  top := h.top
  gen := h.gen
  free := fun i hi hz => by
    rw [a.merged_len] at hi
    rw [a.merged_at] at hz
    split at hz
    · omega
    · exact h.free i hi hz
  st := fun i => by
    rw [a.merged_at]
    split
    · simp
    · exact h.st i
end Go.Viv
end

/-
  A table of slots, looked through from a home on: what is found, what a put and a take leave. No program in sight.
-/
section
namespace Go.Viv

structure HS where
  k : Int
  i : Int
  v : Val
  deriving DecidableEq
def HS.none : HS := ⟨0, 0, Val.zero⟩
def HS.cells (x : HS) : List Value := [.int .i64 x.k, .int .i64 x.i, .int .i64 x.v.k, .int .i64 x.v.a, .int .i64 x.v.b]

structure HGood (hm : Int → Nat) (sl : List HS) : Prop where
  kind : ∀ (a : Nat) (x : HS), sl[a]? = some x → x.k = 0 ∨ x.k = 1 ∨ x.k = 2
  idx : ∀ (a : Nat) (x : HS), sl[a]? = some x → x.k = 1 → 0 ≤ x.i ∧ x.i < 65536
  uniq : ∀ (a b : Nat) (x y : HS), sl[a]? = some x → sl[b]? = some y → x.k = 1 → y.k = 1 → x.i = y.i → a = b
  path : ∀ (a : Nat) (x : HS), sl[a]? = some x → x.k = 1 → ∃ j, j < sl.length ∧ a = (hm x.i + j) % sl.length ∧ ∀ m, m < j → ∃ y, sl[(hm x.i + m) % sl.length]? = some y ∧ y.k ≠ 0
def isF (i : Int) (x : HS) : Bool := x.k == 1 && x.i == i
theorem isF_iff {i : Int} {x : HS} : isF i x = true ↔ x.k = 1 ∧ x.i = i := by simp [isF]
/-- What a table holds. -/
def hget (sl : List HS) (i : Int) : Option Val := (sl.find? (isF i)).map (·.v)

theorem hget_none {sl : List HS} {i : Int} (h : ∀ (a : Nat) (x : HS), sl[a]? = some x → isF i x = false) : hget sl i = none := by
  unfold hget
  rw [List.find?_eq_none.2 (fun x hx => by
    obtain ⟨a, ha⟩ := List.getElem?_of_mem hx
    rw [h a x ha]; simp)]
  rfl
theorem hget_some {hm : Int → Nat} {sl : List HS} (hg : HGood hm sl) {a : Nat} {x : HS} (ha : sl[a]? = some x) (hx : x.k = 1) : hget sl x.i = some x.v := by
  unfold hget
  cases hf : sl.find? (isF x.i) with
  | none =>
    have := List.find?_eq_none.1 hf x (List.mem_of_getElem? ha)
    rw [isF_iff.2 ⟨hx, rfl⟩] at this
    simp at this
  | some y =>
    have h1 := isF_iff.1 (List.find?_some hf)
    obtain ⟨b, hb⟩ := List.getElem?_of_mem (List.mem_of_find?_eq_some hf)
    have := hg.uniq a b x y ha hb hx h1.1 h1.2.symm
    subst this
    rw [ha] at hb
    cases hb
    rfl
theorem hget_in {sl : List HS} {i : Int} {v : Val} (h : hget sl i = some v) : ∃ (a : Nat) (x : HS), sl[a]? = some x ∧ x.k = 1 ∧ x.i = i ∧ x.v = v := by
  unfold hget at h
  cases hf : sl.find? (isF i) with
  | none => rw [hf] at h; cases h
  | some y =>
    rw [hf] at h
    obtain ⟨b, hb⟩ := List.getElem?_of_mem (List.mem_of_find?_eq_some hf)
    have h1 := isF_iff.1 (List.find?_some hf)
    exact ⟨b, y, hb, h1.1, h1.2, Option.some.inj h⟩
/-- Nobody of the first j slots behind a home is empty, or the one that is looked for. -/
def Past (sl : List HS) (h j : Nat) (i : Int) : Prop := ∀ m, m < j → ∃ y, sl[(h + m) % sl.length]? = some y ∧ y.k ≠ 0 ∧ isF i y = false
theorem past_absent {hm : Int → Nat} {sl : List HS} (hg : HGood hm sl) {i : Int} {j : Nat} {x : HS} (hp : Past sl (hm i) j i) (hx : sl[(hm i + j) % sl.length]? = some x) (h0 : x.k = 0) : hget sl i = none := by
  refine hget_none (fun a y ha => ?_)
  cases hf : isF i y with
  | false => rfl
  | true =>
    exfalso
    obtain ⟨h1, rfl⟩ := isF_iff.1 hf
    obtain ⟨j0, _, hj, hn⟩ := hg.path a y ha h1
    rcases Nat.lt_trichotomy j j0 with h | h | h
    · obtain ⟨z, hz, hz0⟩ := hn j h
      rw [hx] at hz
      cases hz
      exact hz0 h0
    · subst h
      rw [← hj, ha] at hx
      cases hx
      omega
    · obtain ⟨z, hz, _, hz1⟩ := hp j0 h
      rw [← hj, ha] at hz
      cases hz
      rw [hf] at hz1
      cases hz1
/-- An empty slot is met. -/
theorem past_lt {sl : List HS} {h j : Nat} {i : Int} (he : ∃ (a : Nat) (x : HS), sl[a]? = some x ∧ x.k = 0) (hp : Past sl h j i) : j < sl.length := by
  obtain ⟨a, x, ha, h0⟩ := he
  have hl : a < sl.length := (List.getElem?_eq_some_iff.1 ha).1
  rcases Nat.lt_or_ge j sl.length with h1 | h1
  · exact h1
  · exfalso
    have hlt : (a + (sl.length - h % sl.length)) % sl.length < sl.length := Nat.mod_lt _ (by omega)
    obtain ⟨y, hy, hy0, _⟩ := hp ((a + (sl.length - h % sl.length)) % sl.length) (by omega)
    have e : (h + (a + (sl.length - h % sl.length)) % sl.length) % sl.length = a := by
      have hm := Nat.mod_lt h (show 0 < sl.length by omega)
      rw [Nat.add_mod, Nat.mod_mod, ← Nat.add_mod, show h + (a + (sl.length - h % sl.length)) = a + sl.length + (h - h % sl.length) by have := Nat.mod_le h sl.length; omega]
      have hd : sl.length ∣ (h - h % sl.length) := Nat.dvd_sub_mod h
      obtain ⟨q, hq⟩ := hd
      rw [hq, Nat.add_mul_mod_self_left, Nat.add_mod_right, Nat.mod_eq_of_lt hl]
    rw [e, ha] at hy
    cases hy
    exact hy0 h0
theorem set_get {sl : List HS} {a b : Nat} {x y : HS} (ha : a < sl.length) (h : (sl.set a x)[b]? = some y) : (b = a ∧ y = x) ∨ (b ≠ a ∧ sl[b]? = some y) := by
  rw [List.getElem?_set] at h
  by_cases hb : a = b
  · subst hb
    rw [if_pos rfl, if_pos ha] at h
    exact .inl ⟨rfl, (Option.some.inj h).symm⟩
  · rw [if_neg hb] at h
    exact .inr ⟨fun e => hb e.symm, h⟩
/-- A slot laid anew, its fullness unchanged or gained. -/
theorem HGood.laid {hm : Int → Nat} {sl : List HS} (hg : HGood hm sl) {a j : Nat} {x0 : HS} {i : Int} {v : Val} (hj : j < sl.length) (ha : a = (hm i + j) % sl.length) (h0 : sl[a]? = some x0) (hi : 0 ≤ i ∧ i < 65536)
    (hp : ∀ m, m < j → ∃ y, sl[(hm i + m) % sl.length]? = some y ∧ y.k ≠ 0) (hu : ∀ (b : Nat) (y : HS), sl[b]? = some y → y.k = 1 → y.i = i → b = a) : HGood hm (sl.set a ⟨1, i, v⟩) := by
  have hal : a < sl.length := (List.getElem?_eq_some_iff.1 h0).1
  have keep : ∀ (b : Nat) (y : HS), sl[b]? = some y → y.k ≠ 0 → ∃ z, (sl.set a ⟨1, i, v⟩)[b]? = some z ∧ z.k ≠ 0 := fun b y hb hy => by
    rw [List.getElem?_set]
    by_cases hba : a = b
    · subst hba
      rw [if_pos rfl, if_pos hal]
      exact ⟨_, rfl, by simp⟩
    · rw [if_neg hba]
      exact ⟨y, hb, hy⟩
  refine ⟨?_, ?_, ?_, ?_⟩
  · intro b y hb
    rcases set_get hal hb with ⟨_, rfl⟩ | ⟨_, hb⟩
    · exact .inr (.inl rfl)
    · exact hg.kind b y hb
  · intro b y hb hy
    rcases set_get hal hb with ⟨_, rfl⟩ | ⟨_, hb⟩
    · exact hi
    · exact hg.idx b y hb hy
  · intro b c y z hb hc hy hz hyz
    rcases set_get hal hb with ⟨hb1, hb2⟩ | ⟨hb1, hb2⟩ <;> rcases set_get hal hc with ⟨hc1, hc2⟩ | ⟨hc1, hc2⟩
    · rw [hb1, hc1]
    · exact absurd (hu c z hc2 hz (by rw [← hyz, hb2])) hc1
    · exact absurd (hu b y hb2 hy (by rw [hyz, hc2])) hb1
    · exact hg.uniq b c y z hb2 hc2 hy hz hyz
  · intro b y hb hy
    rw [List.length_set]
    rcases set_get hal hb with ⟨rfl, rfl⟩ | ⟨_, hb⟩
    · exact ⟨j, hj, ha, fun m hm' => by obtain ⟨y, hy, hy0⟩ := hp m hm'; exact keep _ y hy hy0⟩
    · obtain ⟨j', h1, h2, h3⟩ := hg.path b y hb hy
      exact ⟨j', h1, h2, fun m hm' => by obtain ⟨z, hz, hz0⟩ := h3 m hm'; exact keep _ z hz hz0⟩
theorem hget_laid {hm : Int → Nat} {sl : List HS} {a : Nat} {x0 : HS} {i : Int} {v : Val} (hg : HGood hm (sl.set a ⟨1, i, v⟩)) (hg0 : HGood hm sl) (h0 : sl[a]? = some x0) (hx0 : x0.k ≠ 1 ∨ x0.i = i) (t : Int) :
    hget (sl.set a ⟨1, i, v⟩) t = if t = i then some v else hget sl t := by
  have hal : a < sl.length := (List.getElem?_eq_some_iff.1 h0).1
  have hs : (sl.set a ⟨1, i, v⟩)[a]? = some ⟨1, i, v⟩ := by rw [List.getElem?_set, if_pos rfl, if_pos hal]
  by_cases ht : t = i
  · subst ht
    rw [if_pos rfl]
    exact hget_some hg hs rfl
  · rw [if_neg ht]
    cases hgt : hget sl t with
    | some u =>
      obtain ⟨b, x, hb, hx1, hx2, hx3⟩ := hget_in hgt
      have hba : b ≠ a := fun e => by
        subst e
        rw [h0] at hb
        cases hb
        rcases hx0 with h | h
        · exact h hx1
        · exact ht (hx2.symm.trans h)
      have hb' : (sl.set a ⟨1, i, v⟩)[b]? = some x := by rw [List.getElem?_set, if_neg (Ne.symm hba)]; exact hb
      rw [← hx2, ← hx3]
      exact hget_some hg hb' hx1
    | none =>
      refine hget_none (fun b x hb => ?_)
      cases hf : isF t x with
      | false => rfl
      | true =>
        exfalso
        obtain ⟨h1, h2⟩ := isF_iff.1 hf
        rcases set_get hal hb with ⟨_, rfl⟩ | ⟨_, hb⟩
        · exact ht h2.symm
        · have := hget_some hg0 hb h1
          rw [h2, hgt] at this
          cases this
/-- A slot struck. -/
theorem HGood.struck {hm : Int → Nat} {sl : List HS} (hg : HGood hm sl) {a : Nat} {x0 : HS} (h0 : sl[a]? = some x0) : HGood hm (sl.set a ⟨2, 0, Val.zero⟩) := by
  have hal : a < sl.length := (List.getElem?_eq_some_iff.1 h0).1
  have keep : ∀ (b : Nat) (y : HS), sl[b]? = some y → y.k ≠ 0 → ∃ z, (sl.set a ⟨2, 0, Val.zero⟩)[b]? = some z ∧ z.k ≠ 0 := fun b y hb hy => by
    rw [List.getElem?_set]
    by_cases hba : a = b
    · subst hba
      rw [if_pos rfl, if_pos hal]
      exact ⟨_, rfl, by simp⟩
    · rw [if_neg hba]
      exact ⟨y, hb, hy⟩
  refine ⟨?_, ?_, ?_, ?_⟩
  · intro b y hb
    rcases set_get hal hb with ⟨_, rfl⟩ | ⟨_, hb⟩
    · exact .inr (.inr rfl)
    · exact hg.kind b y hb
  · intro b y hb hy
    rcases set_get hal hb with ⟨_, rfl⟩ | ⟨_, hb⟩
    · simp at hy
    · exact hg.idx b y hb hy
  · intro b c y z hb hc hy hz hyz
    rcases set_get hal hb with ⟨_, rfl⟩ | ⟨_, hb⟩
    · simp at hy
    · rcases set_get hal hc with ⟨_, rfl⟩ | ⟨_, hc⟩
      · simp at hz
      · exact hg.uniq b c y z hb hc hy hz hyz
  · intro b y hb hy
    rw [List.length_set]
    rcases set_get hal hb with ⟨_, rfl⟩ | ⟨_, hb⟩
    · simp at hy
    · obtain ⟨j', h1, h2, h3⟩ := hg.path b y hb hy
      exact ⟨j', h1, h2, fun m hm' => by obtain ⟨z, hz, hz0⟩ := h3 m hm'; exact keep _ z hz hz0⟩
theorem hget_struck {hm : Int → Nat} {sl : List HS} (hg0 : HGood hm sl) {a : Nat} {x0 : HS} (h0 : sl[a]? = some x0) (h1 : x0.k = 1) (t : Int) :
    hget (sl.set a ⟨2, 0, Val.zero⟩) t = if t = x0.i then none else hget sl t := by
  have hal : a < sl.length := (List.getElem?_eq_some_iff.1 h0).1
  have hg := hg0.struck h0
  by_cases ht : t = x0.i
  · rw [if_pos ht]
    refine hget_none (fun b x hb => ?_)
    cases hf : isF t x with
    | false => rfl
    | true =>
      exfalso
      obtain ⟨h2, h3⟩ := isF_iff.1 hf
      rcases set_get hal hb with ⟨_, rfl⟩ | ⟨hba, hb⟩
      · simp at h2
      · exact hba (hg0.uniq b a x x0 hb h0 h2 h1 (h3.trans ht))
  · rw [if_neg ht]
    cases hgt : hget sl t with
    | some u =>
      obtain ⟨b, x, hb, hx1, hx2, hx3⟩ := hget_in hgt
      have hba : b ≠ a := fun e => by
        subst e
        rw [h0] at hb
        cases hb
        exact ht hx2.symm
      have hb' : (sl.set a ⟨2, 0, Val.zero⟩)[b]? = some x := by rw [List.getElem?_set, if_neg (Ne.symm hba)]; exact hb
      rw [← hx2, ← hx3]
      exact hget_some hg hb' hx1
    | none =>
      refine hget_none (fun b x hb => ?_)
      cases hf : isF t x with
      | false => rfl
      | true =>
        exfalso
        obtain ⟨h2, h3⟩ := isF_iff.1 hf
        rcases set_get hal hb with ⟨_, rfl⟩ | ⟨_, hb⟩
        · simp at h2
        · have := hget_some hg0 hb h2
          rw [h3, hgt] at this
          cases this
theorem HGood.empty (hm : Int → Nat) (n : Nat) : HGood hm (List.replicate n HS.none) := by
  have h0 : ∀ (a : Nat) (x : HS), (List.replicate n HS.none)[a]? = some x → x = HS.none := fun a x ha => by
    rw [List.getElem?_replicate] at ha
    split at ha
    · exact (Option.some.inj ha).symm
    · cases ha
  refine ⟨fun a x ha => .inl (by rw [h0 a x ha]; rfl), fun a x ha h => ?_, fun a b x y ha _ h => ?_, fun a x ha h => ?_⟩
  all_goals
    rw [h0 a x ha] at h
    simp [HS.none] at h
theorem hget_empty (n : Nat) (t : Int) : hget (List.replicate n HS.none) t = none := by
  refine hget_none (fun a x ha => ?_)
  rw [List.getElem?_replicate] at ha
  split at ha
  · obtain rfl := Option.some.inj ha
    rfl
  · cases ha
end Go.Viv
end

/-
  Rows of elements as cells; what structures hold, cell by cell. No program in sight.
-/
section
set_option linter.unusedSimpArgs false
set_option linter.unusedVariables false
namespace Go.Sym
open Go Go.RowKit Go.Viv Go.Eva
section
variable {α : Type} {f : α → List Value} {n : Nat}
def rowsC (f : α → List Value) (l : List α) : List Value := l.flatMap f
theorem rowsC_nil : rowsC f [] = [] := nr rfl
theorem rowsC_cons (a : α) (l : List α) : rowsC f (a :: l) = f a ++ rowsC f l := nr rfl
theorem rowsC_one (a : α) : rowsC f [a] = f a := nr (by simp [rowsC])
theorem rowsC_app (l k : List α) : rowsC f (l ++ k) = rowsC f l ++ rowsC f k := nr (by simp [rowsC])
theorem rowsC_len (hf : ∀ a, (f a).length = n) (l : List α) : (rowsC f l).length = l.length * n := by
  induction l with
  | nil => simp [rowsC]
  | cons a l ih => rw [rowsC_cons, List.length_append, hf, ih, List.length_cons, Nat.add_mul, Nat.one_mul, Nat.add_comm]
theorem rowsC_plain (hp : ∀ a, plainL (f a) = true) : ∀ l : List α, plainL (rowsC f l) = true
  | [] => rfl
  | a :: l => by rw [rowsC_cons, plainL_app, hp, rowsC_plain hp l]; rfl
where
  plainL_app : ∀ a b : List Value, plainL (a ++ b) = (plainL a && plainL b)
    | [], b => by simp [plainL]
    | x :: a, b => by simp only [List.cons_append, plainL, plainL_app a b, Bool.and_assoc]
theorem plainL_app (a b : List Value) : plainL (a ++ b) = (plainL a && plainL b) := rowsC_plain.plainL_app a b
theorem rowsC_ren (hp : ∀ a, plainL (f a) = true) (κ : Nat → Nat) (l : List α) : renL κ (rowsC f l) = rowsC f l := renL_plain κ _ (rowsC_plain hp l)
theorem rowsC_split (hf : ∀ a, (f a).length = n) {l : List α} {i : Nat} {x : α} (h : l[i]? = some x) : rowsC f l = rowsC f (l.take i) ++ (f x ++ rowsC f (l.drop (i + 1))) ∧ (rowsC f (l.take i)).length = i * n := by
  obtain ⟨hi, hx⟩ := List.getElem?_eq_some_iff.1 h
  constructor
  · conv => lhs; rw [← List.take_append_drop i l, rowsC_app]
    rw [List.drop_eq_getElem_cons hi, hx, rowsC_cons]
  · rw [rowsC_len hf, List.length_take, Nat.min_eq_left (by omega)]
theorem rowsC_drop (hf : ∀ a, (f a).length = n) {l : List α} {i o : Nat} {x : α} (h : l[i]? = some x) (ho : o ≤ n) (j : List Value) : (rowsC f l ++ j).drop (i * n + o) = (f x).drop o ++ (rowsC f (l.drop (i + 1)) ++ j) := by
  obtain ⟨h1, h2⟩ := rowsC_split hf h
  have h3 := hf x
  rw [h1, List.append_assoc, ← h2, List.drop_append, List.append_assoc, List.drop_append_of_le_length (by omega), List.drop_eq_nil_of_le (by omega), show (rowsC f (l.take i)).length + o - (rowsC f (l.take i)).length = o by omega, List.nil_append]
theorem rowsC_cell (hf : ∀ a, (f a).length = n) {l : List α} {i o : Nat} {x : α} (h : l[i]? = some x) (ho : o < n) (j : List Value) : (rowsC f l ++ j)[i * n + o]? = (f x)[o]? := by
  have h3 := hf x
  have h1 := rowsC_drop hf h (Nat.le_of_lt ho) j
  have h2 := congrArg (·[0]?) h1
  simp only [List.getElem?_drop, Nat.add_zero] at h2
  rw [h2, List.getElem?_append_left (by simp; omega), List.getElem?_drop, Nat.add_zero]
theorem rowsC_has (hf : ∀ a, (f a).length = n) {l : List α} {i o m : Nat} {x : α} (h : l[i]? = some x) (ho : o + m ≤ n) (j : List Value) : has ((rowsC f l ++ j).drop (i * n + o)) m = true := by
  have h3 := hf x
  rw [rowsC_drop hf h (by omega) j]
  exact has_le (by simp; omega)
theorem rowsC_read (hf : ∀ a, (f a).length = n) {l : List α} {i o m : Nat} {x : α} (h : l[i]? = some x) (ho : o + m ≤ n) (j : List Value) : readCells (rowsC f l ++ j) (i * n + o) m = some (((f x).drop o).take m) := by
  have h3 := hf x
  unfold readCells
  rw [rowsC_has hf h ho j, rowsC_drop hf h (by omega) j, List.take_append_of_le_length (by simp; omega)]
theorem rowsC_put (hf : ∀ a, (f a).length = n) {l : List α} {i o : Nat} {x y : α} {vs : List Value} (h : l[i]? = some x) (ho : o + vs.length ≤ n) (hy : spl (f x) o vs = f y) (j : List Value) : spl (rowsC f l ++ j) (i * n + o) vs = rowsC f (l.set i y) ++ j := by
  obtain ⟨h1, h2⟩ := rowsC_split hf h
  have h3 := hf x
  obtain ⟨hi, hx⟩ := List.getElem?_eq_some_iff.1 h
  have hset : l.set i y = l.take i ++ y :: l.drop (i + 1) := by rw [List.set_eq_take_append_cons_drop, if_pos hi]
  rw [hset, rowsC_app, rowsC_cons, ← hy]
  unfold spl
  have e1 : (rowsC f l ++ j).take (i * n + o) = rowsC f (l.take i) ++ (f x).take o := by
    rw [h1, List.append_assoc, List.take_append, h2, List.take_of_length_le (by omega), show i * n + o - i * n = o by omega, List.append_assoc, List.take_append_of_le_length (by omega)]
  have e2 : (rowsC f l ++ j).drop (i * n + o + vs.length) = (f x).drop (o + vs.length) ++ (rowsC f (l.drop (i + 1)) ++ j) := by
    rw [Nat.add_assoc]; exact rowsC_drop hf h (by omega) j
  rw [e1, e2]
  simp [List.append_assoc]
end
theorem app_nil_ (l : List Value) : l ++ [] = l := nr (by simp)
def evC (p : Int × Int) : List Value := [.int .i64 p.1, .int .i64 p.2]
def opC (o : Ops) : List Value := [.int .i64 o.k, .int .i64 o.h.i, .int .i64 o.h.g, .int .i64 o.c, .int .i64 o.v.k, .int .i64 o.v.a, .int .i64 o.v.b]
def rcC (p : Int × Val) : List Value := [.int .i64 p.1, .int .i64 p.2.k, .int .i64 p.2.a, .int .i64 p.2.b]
def ndC (h : Hnd) : List Value := [.int .i64 h.i, .int .i64 h.g]
theorem evC_len (p : Int × Int) : (evC p).length = 2 := rfl
theorem opC_len (p : Ops) : (opC p).length = 7 := rfl
theorem rcC_len (p : Int × Val) : (rcC p).length = 4 := rfl
theorem ndC_len (p : Hnd) : (ndC p).length = 2 := rfl
theorem vaC_len (p : Val) : p.cells.length = 3 := rfl
theorem hsC_len (p : HS) : p.cells.length = 5 := rfl
theorem dsC_len (p : Dsc) : p.cells.length = 3 := rfl
theorem evC_plain (p : Int × Int) : plainL (evC p) = true := rfl
theorem opC_plain (p : Ops) : plainL (opC p) = true := rfl
theorem rcC_plain (p : Int × Val) : plainL (rcC p) = true := rfl
theorem ndC_plain (p : Hnd) : plainL (ndC p) = true := rfl
theorem vaC_plain (p : Val) : plainL p.cells = true := rfl
theorem hsC_plain (p : HS) : plainL p.cells = true := rfl
theorem dsC_plain (p : Dsc) : plainL p.cells = true := rfl
def pt (k : Nat) : Value := .pointer (some ⟨k, 0, none⟩)
def ptsC (b : Nat) : Nat → List Value
  | 0 => []
  | n + 1 => ptsC b n ++ [pt (b + n)]
theorem ptsC_len (b : Nat) : ∀ n, (ptsC b n).length = n
  | 0 => rfl
  | n + 1 => by simp [ptsC, ptsC_len b n]
theorem ptsC_get (b : Nat) : ∀ {n i : Nat}, i < n → (ptsC b n)[i]? = some (pt (b + i))
  | 0, i, h => by omega
  | n + 1, i, h => by
    unfold ptsC
    by_cases hi : i = n
    · subst hi
      rw [List.getElem?_append_right (by rw [ptsC_len]; exact Nat.le_refl _), ptsC_len]
      simp
    · rw [List.getElem?_append_left (by rw [ptsC_len]; omega)]
      exact ptsC_get b (by omega)
theorem ptsC_ren (κ : Nat → Nat) (b c : Nat) : ∀ n, (∀ i, i < n → κ (b + i) = c + i) → renL κ (ptsC b n) = ptsC c n
  | 0, _ => rfl
  | n + 1, h => by
    unfold ptsC
    rw [renL_append, ptsC_ren κ b c n (fun i hi => h i (by omega))]
    simp only [renL, pt, ren, h n (by omega)]
theorem ptsC_occ (b : Nat) : ∀ {n i : Nat}, i < n → occL (b + i) (ptsC b n) = true
  | 0, i, h => by omega
  | n + 1, i, h => by
    have key : ∀ (l k : List Value) X, occL X (l ++ k) = (occL X l || occL X k) := by
      intro l k X
      induction l with
      | nil => simp [occL]
      | cons a l ih => simp only [List.cons_append, occL, ih, Bool.or_assoc]
    unfold ptsC
    rw [key]
    by_cases hi : i = n
    · subst hi
      simp [occL, pt, occ]
    · rw [ptsC_occ b (by omega)]; rfl
/-- A row that may be empty, as cells of a structure's: block i of it. -/
def rowF (i n : Nat) (cs : List Value) (e : TypeId) (v : Value) (p : Option AObj) : Prop :=
  (n = 0 ∧ v = .slice none 0 0 ∧ p = none) ∨ (0 < n ∧ v = .slice (some ⟨i, 0, none⟩) n 0 ∧ p = some (.cells cs e true))
theorem rowF_nil {i : Nat} {cs : List Value} {e : TypeId} : rowF i 0 cs e (.slice none 0 0) none := .inl ⟨rfl, rfl, rfl⟩
theorem rowF_some {i n : Nat} {cs : List Value} {e : TypeId} (h : 0 < n) : rowF i n cs e (.slice (some ⟨i, 0, none⟩) n 0) (some (.cells cs e true)) := .inr ⟨h, rfl, rfl⟩
theorem rowF.occ_ {i n : Nat} {cs : List Value} {e : TypeId} {v : Value} {p : Option AObj} (h : rowF i n cs e v p) {ob : AObj} (hp : p = some ob) : occ i v = true ∧ ownable ob = true := by
  rcases h with ⟨_, _, h⟩ | ⟨_, h1, h2⟩
  · rw [h] at hp; cases hp
  · rw [h2] at hp
    cases hp
    subst h1
    exact ⟨Nat.beq_refl _, rfl⟩
/-- A row whose block may hold more behind it. -/
def rowG (i n : Nat) (cs : List Value) (e : TypeId) (v : Value) (p : Option AObj) : Prop :=
  (n = 0 ∧ v = .slice none 0 0 ∧ p = none) ∨ ∃ j, plainL j = true ∧ v = .slice (some ⟨i, 0, none⟩) n 0 ∧ p = some (.cells (cs ++ j) e true)
theorem rowG_nil {i : Nat} {cs : List Value} {e : TypeId} : rowG i 0 cs e (.slice none 0 0) none := .inl ⟨rfl, rfl, rfl⟩
theorem rowG.occ_ {i n : Nat} {cs : List Value} {e : TypeId} {v : Value} {p : Option AObj} (h : rowG i n cs e v p) {ob : AObj} (hp : p = some ob) : occ i v = true ∧ ownable ob = true := by
  rcases h with ⟨_, _, h⟩ | ⟨j, _, h1, h2⟩
  · rw [h] at hp; cases hp
  · rw [h2] at hp
    cases hp
    subst h1
    exact ⟨Nat.beq_refl _, rfl⟩
def rwC (p : Nat × Val) : List Value := [.int .i64 (p.1 : Int), .int .i64 p.2.k, .int .i64 p.2.a, .int .i64 p.2.b]
theorem rwC_len (p : Nat × Val) : (rwC p).length = 4 := rfl
theorem rwC_plain (p : Nat × Val) : plainL (rwC p) = true := rfl
def intsN (l : List Nat) : List Value := intsC (l.map fun (n : Nat) => (n : Int))
/-- What tells readers, as the document has it: the pointer's value, its blocks 2, 3, 4 of a slot's. -/
def flagF (fl : Option Fls) (ft et : TypeId) (it : TypeId) (vf : Value) (pf pe pr : Option AObj) : Prop := match fl with
  | none => vf = .pointer none ∧ pf = none ∧ pe = none ∧ pr = none
  | some f => vf = .pointer (some ⟨2, 0, none⟩) ∧ ∃ ve vr, pf = some (.cells [.int .i64 f.bound, ve, vr] ft true) ∧ rowF 3 f.evs.length (rowsC evC f.evs) et ve pe ∧ rowF 4 f.rd.length (intsN f.rd) it vr pr
end Go.Sym
namespace Go.Viv
/-- The slot of a table at which an index is looked for first. -/
def homeN (i : Int) (n : Nat) : Nat := i.toNat * 2654435761 % 4294967296 / (4294967296 / n)
/-! ### What may be -/
def Fls.last (f : Fls) : List (Int × Int) := f.evs.drop (f.evs.length - f.bound)
structure Fls.Ok (f : Fls) : Prop where
  lo : 1 ≤ f.bound
  hi : f.bound ≤ 1000
  rd : f.rd.length ≤ 100
  le : ∀ r ∈ f.rd, r ≤ f.evs.length
structure SM.Ok (l : SM) : Prop where
  rise : RiseN l.keys
  lt : ∀ p ∈ l, p.1 < 65536
structure Sls.Ok (s : Sls) : Prop where
  k : 1 ≤ s.d.k ∧ s.d.k ≤ 3
  v : 1 ≤ s.d.v ∧ s.d.v ≤ 4
  b : 0 ≤ s.d.b ∧ s.d.b ≤ 1000
  tag : s.d.v = 4 → s.d.k = 3
  m : s.l.Ok
  val : ∀ p ∈ s.l, okV p.2 = true ∧ p.2.k = s.d.k
  fl0 : s.fl = none ↔ s.d.b = 0
  flb : ∀ f, s.fl = some f → (f.bound : Int) = s.d.b
/-- Rows in some order that hold a table. -/
structure RowsOf (rl : List (Nat × Val)) (l : SM) : Prop where
  nd : (rl.map (·.1)).Nodup
  mem : ∀ p, p ∈ rl ↔ p ∈ l
end Go.Viv
end
