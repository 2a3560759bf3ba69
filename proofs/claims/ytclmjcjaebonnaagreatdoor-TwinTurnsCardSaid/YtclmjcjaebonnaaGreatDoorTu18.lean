/-
  Several texts in one. The forms of this program's structures.
-/
import Derived.Test.YtclmjcjaebonnaaGreatDoorTu14
import Derived.Test.YtclmjcjaebonnaaGreatDoorTu15
import Derived.Test.YtclmjcjaebonnaaGreatDoorTu16
import Derived.Test.YtclmjcjaebonnaaGreatDoorTu17
section
set_option linter.unusedSimpArgs false
set_option linter.unusedVariables false
namespace Go.Proofs.YtclmjcjaebonnaaGreatDoor
open Go Go.RowKit Go.Viv Go.Eva Go.Sym
/-- A table of slots that holds l: so many are full, so many are left. -/
structure HashOk (hs : List HS) (l : SM) (nf nl : Nat) : Prop where
  good : HGood (fun i => homeN i hs.length) hs
  pow : hs.length ∈ [8, 16, 32, 64, 128, 256, 512, 1024, 2048, 4096, 8192, 16384, 32768, 65536, 131072]
  get : ∀ i : Int, hget hs i = l.lk i
  full : nf = (hs.filter (fun x => x.k == 1)).length
  left : nl = (hs.filter (fun x => x.k == 2)).length
  room : 4 * (nf + nl) ≤ 3 * hs.length
def fmAll : Rs → List Value → TypeId → List (Option AObj) → Prop
  | .alloc a, oc, e, ps => AlsOk a ∧ ∃ r : Int, oc = [.pointer (some ⟨1, 0, none⟩), .pointer (some ⟨2, 0, none⟩), .pointer (some ⟨3, 0, none⟩), .int .i64 a.top, .slice (some ⟨4, 0, none⟩) a.st.length (a.st.length + 1), .int .i64 r] ∧ e = 133 ∧
      ps = [some (.res (.set (a.idx 0))), some (.res (.set (a.idx 1))), some (.res (.set (a.idx 2))), some (.cells (intsC a.gen) 2 true)]
  | .nums l, oc, e, ps => l.length ≤ 32 ∧ e = 124 ∧ ((l = [] ∧ (oc = [.slice none 0 0] ∨ oc = [.slice none 0 1]) ∧ ps = []) ∨ (∃ c, l ≠ [] ∧ oc = [.slice (some ⟨1, 0, none⟩) l.length c] ∧ ps = [some (.cells (intsC l) 2 true)]))
  | .place 2 l, oc, e, ps => l.Ok ∧ e = 292 ∧ ∃ (vs : List Val) (v : Value) (p : Option AObj), vs.length ≤ 65536 ∧ (∀ q ∈ l, vs[q.1]? = some q.2) ∧ oc = [pt 1, v] ∧ ps = [some (.res (.set l.keys)), p] ∧ rowF 2 vs.length (rowsC Val.cells vs) 26 v p
  | .place 3 l, oc, e, ps => l.Ok ∧ e = 297 ∧ ∃ (hs : List HS) (full left : Nat), HashOk hs l full left ∧ oc = [.int .i64 full, .int .i64 left, .slice (some ⟨1, 0, none⟩) hs.length (hs.length + 1)] ∧ ps = [some (.cells (rowsC HS.cells hs) 416 true)]
  | .flag f, oc, e, ps => f.Ok ∧ e = 245 ∧ ∃ v1 v2 p1 p2, oc = [.int .i64 f.bound, .int .i64 (IntKind.wrap .i64 (f.evs.length : Int)), v1, v2] ∧ ps = [p1, p2] ∧ rowF 1 f.last.length (rowsC evC f.last) 42 v1 p1 ∧ rowF 2 f.rd.length (intsC (f.rd.map fun r : Nat => IntKind.wrap .i64 (r : Int))) 2 v2 p2
  | .queue l, oc, e, ps => l.length ≤ 10000 ∧ e = 127 ∧ ∃ v p, oc = [v] ∧ ps = [p] ∧ rowF 1 l.length (rowsC opC l) 155 v p
  | _, _, _, _ => False
def leafAll : Rs → World → Nat → (Nat → Prop) → Prop
  | .set l, w, b, F => SetIs w b l F
  | .place 1 l, w, b, F => l.Ok ∧ ∃ rs, DenseIs w b rs F ∧ ∀ i : Int, l.lk i = (rs.find? (fun r => r.1 == i)).map (·.2)
  | _, _, _, _ => False
theorem DenseIs.same {w w' : World} {p : Nat} {rs : List (Int × Val)} {S : Nat → Prop} (h : DenseIs w p rs S) (hb : ∀ k, S k → w'.heap[k]? = w.heap[k]?) : DenseIs w' p rs S := by
  obtain ⟨sv, bm, h1, ⟨a, b⟩, h3, h4, h5, h6, h7, h8⟩ := h
  refine ⟨sv, bm, (hb _ h6).trans h1, ⟨a, ?_⟩, h3.of_block (hb _ h7), h4, h5, h6, h7, h8⟩
  rcases b with b | ⟨g, cap, cur, hv, hb', hh, r⟩
  · exact .inl b
  · exact .inr ⟨g, cap, cur, hv, hb', by rw [hb g (h8 g (by rw [hv]; rfl))]; exact hh, r⟩
theorem occ_one {i : Nat} {v : Value} {a b c : List Value} (h : occ i v = true) (hs : ∀ X, occL X c = (occL X a || (occ X v || occL X b))) : occL i c = true := by
  rw [hs, h]; simp
theorem occs_All {x : Rs} {oc : List Value} {e : TypeId} {ps : List (Option AObj)} (h : fmAll x oc e ps) (i : Nat) (ob : AObj) (hi : ps[i]? = some (some ob)) : (occL (i + 1) oc = true ∨ ∃ j c e' rw', j < i ∧ ps[j]? = some (some (.cells c e' rw')) ∧ occL (i + 1) c = true) ∧ ownable ob = true := by
  unfold fmAll at h
  split at h <;> try (exact h.elim)
  · obtain ⟨_, r, rfl, _, rfl⟩ := h
    rcases i with _ | _ | _ | _ | i <;> simp at hi <;> subst hi <;> exact ⟨.inl rfl, rfl⟩
  · obtain ⟨_, rfl, ⟨_, _, rfl⟩ | ⟨c, _, rfl, rfl⟩⟩ := h
    · simp at hi
    · rcases i with _ | i <;> simp at hi <;> subst hi <;> exact ⟨.inl rfl, rfl⟩
  · obtain ⟨_, _, vs, v, p, _, _, rfl, rfl, hr⟩ := h
    rcases i with _ | _ | i <;> simp at hi
    · subst hi; exact ⟨.inl rfl, rfl⟩
    · have := hr.occ_ hi
      exact ⟨.inl (by simp [occL, this.1]), this.2⟩
  · obtain ⟨_, _, hs, f, l, _, rfl, rfl⟩ := h
    rcases i with _ | i <;> simp at hi <;> subst hi <;> exact ⟨.inl rfl, rfl⟩
  · obtain ⟨_, _, v1, v2, p1, p2, rfl, rfl, h1, h2⟩ := h
    rcases i with _ | _ | i <;> simp at hi
    · have := h1.occ_ hi
      exact ⟨.inl (by simp [occL, this.1]), this.2⟩
    · have := h2.occ_ hi
      exact ⟨.inl (by simp [occL, this.1]), this.2⟩
  · obtain ⟨_, _, v1, p1, rfl, rfl, h1⟩ := h
    rcases i with _ | i <;> simp at hi
    have := h1.occ_ hi
    exact ⟨.inl (by simp [occL, this.1]), this.2⟩
theorem view_All {x : Rs} {oc : List Value} {e : TypeId} {ps : List (Option AObj)} (h : fmAll x oc e ps) (i : Nat) (v : Value) (hv : (viewRs x)[i]? = some v) : oc[i]? = some v := by
  cases x <;> try (simp [viewRs] at hv; done)
  all_goals exact h.elim
def LL : Frm := ⟨leafAll, fmAll, fun h => occs_All h, fun {x w w' b F} h hb hs => by
  unfold leafAll at h ⊢
  split at h <;> try (exact h.elim)
  · exact SetIs.same h hb hs
  · obtain ⟨h0, rs, h1, h2⟩ := h
    exact ⟨h0, rs, h1.same hb, h2⟩, fun h => view_All h, fun {x w b F} h i v hv => by
  cases x <;> first
    | (simp [viewRs] at hv; done)
    | exact h.elim⟩
theorem LL_set : SetL LL := ⟨fun _ _ _ _ => Iff.rfl, fun _ _ _ _ h => h⟩
end Go.Proofs.YtclmjcjaebonnaaGreatDoor
namespace Go.Sym
open Go Go.RowKit Go.Viv Go.Eva
attribute [go_sem] true_and decide_true decide_false Bool.true_and Bool.false_and Bool.not_false Bool.not_true Bool.and_true dec_t dec_f opened layL renL ren Option.map_some Option.map_none renO evA loadB readCells storeB indexAddrB wrap_nat wrap_nn lenB nilB List.map_cons List.map_nil quietBuiltin nblt_t nblt_f nble_t nble_f nbeq_t nbeq_f Array.toList Nat.add_zero List.nil_append List.append_nil List.cons_append List.take_zero List.take_succ_cons List.drop_zero List.drop_succ_cons List.take_nil List.drop_nil has Option.map goB Int.ofNat_eq_natCast len1 len2 len3 len4 len5 len6 len7 len8 Nat.zero_add Nat.mul_one rep invB eqInts Nat.zero_mul Nat.one_mul semV_pure fillB mapB Option.elim
end Go.Sym
end

/-
  What a run comes to may be told more weakly. No program in sight.
-/
section
set_option linter.unusedSimpArgs false
set_option linter.unusedVariables false
namespace Go.Sym
open Go Go.RowKit Go.Viv Go.Eva
section
variable {P : Program} {G n : Nat} {call : CallB}
theorem R_mono {all : List Oper} {K K' : Tr Value → Hp → Prop} (hK : ∀ T h, K T h → K' T h) : ∀ {l : List Oper} {T : Tr Value} {h : Hp}, R P G n call all l T h K → R P G n call all l T h K'
  | [], T, h, hr => hK _ _ hr
  | o :: l, T, h, hr => by
    unfold R at hr ⊢
    exact guardK_mono hr (onSome_mono fun r => onSome_mono fun T' h' => R_mono hK h') (onSome_mono fun T' h' => R_mono hK h')
theorem seqK_mono {Q Q' : Ex → Tr Value → Hp → Prop} {K K' : Tr Value → Hp → Prop} (hQ : ∀ x T h, Q x T h → Q' x T h) (hK : ∀ T h, K T h → K' T h) : ∀ x T h, seqK Q K x T h → seqK Q' K' x T h
  | .normal, T, h, hr => hK _ _ hr
  | .exit id, T, h, hr => hQ _ _ _ hr
  | .ret, T, h, hr => hQ _ _ _ hr
theorem blockK_mono {id : Nat} {Q Q' : Ex → Tr Value → Hp → Prop} (hQ : ∀ x T h, Q x T h → Q' x T h) : ∀ x T h, blockK id Q x T h → blockK id Q' x T h
  | .normal, T, h, hr => hQ _ _ _ hr
  | .exit id', T, h, hr => by
    simp only [blockK] at hr ⊢
    cases hb : Nat.beq id' id with
    | true => rw [hb] at hr; exact hQ _ _ _ hr
    | false => rw [hb] at hr; exact hQ _ _ _ hr
  | .ret, T, h, hr => hQ _ _ _ hr
theorem wpC_mono : ∀ {c : Code} {T : Tr Value} {h : Hp} {Q Q' : Ex → Tr Value → Hp → Prop}, (∀ x T h, Q x T h → Q' x T h) → wpC P G n call c T h Q → wpC P G n call c T h Q'
  | .skip, _, _, _, _, hQ, hr => hQ _ _ _ hr
  | .label _, _, _, _, _, hQ, hr => hQ _ _ _ hr
  | .exit _, _, _, _, _, hQ, hr => hQ _ _ _ hr
  | .ret, _, _, _, _, hQ, hr => hQ _ _ _ hr
  | .goto _, _, _, _, _, _, hr => hr.elim
  | .refuse _, _, _, _, _, _, hr => hr.elim
  | .rangeFunc _ _ _ _, _, _, _, _, _, hr => hr.elim
  | .region _ ops false, _, _, _, _, hQ, hr => R_mono (fun T h => hQ _ T h) hr
  | .region _ ops true, _, _, _, _, hQ, hr => by
    obtain ⟨h1, ord, k, m, h2⟩ := hr
    exact ⟨h1, ord, k, m, DR_mono (fun T h d hd => ⟨hd.1, hQ _ _ _ hd.2⟩) h2⟩
  | .seq a b, _, _, _, _, hQ, hr => wpC_mono (c := a) (seqK_mono hQ fun T h hr => wpC_mono (c := b) hQ hr) hr
  | .cond x a b, T, h, Q, Q', hQ, hr => by
    have hr' : onBool (evl G T x) (wpC P G n call a T h Q) (wpC P G n call b T h Q) := hr
    show onBool (evl G T x) (wpC P G n call a T h Q') (wpC P G n call b T h Q')
    cases hx : evl G T x <;> rw [hx] at hr' <;> try (exact hr'.elim)
    rename_i b'
    cases b' with
    | true => exact wpC_mono (c := a) hQ hr'
    | false => exact wpC_mono (c := b) hQ hr'
  | .block id c, _, _, _, _, hQ, hr => wpC_mono (c := c) (blockK_mono hQ) hr
  | .scope c, _, _, _, _, hQ, hr => wpC_mono (c := c) hQ hr
  | .loop c, _, _, _, _, hQ, hr => by
    obtain ⟨I, h0, hs⟩ := hr
    exact ⟨I, h0, fun m T h hI => wpC_mono (c := c) (seqK_mono hQ fun T h hr => hr) (hs m T h hI)⟩
theorem endK_mono {rs : List ResultVar} {K K' : Value → Hp → Prop} (hK : ∀ v h, K v h → K' v h) : ∀ x T h, endK P rs K x T h → endK P rs K' x T h
  | .exit _, _, _, hr => hr
  | .normal, _, _, hr => onSome_mono (fun vs => hK _ _) hr
  | .ret, _, _, hr => onSome_mono (fun vs => hK _ _) hr
theorem wpF_mono {g : FuncId} {args : List Value} {h : Hp} {K K' : Value → Hp → Prop} (hK : ∀ v h, K v h → K' v h) (hr : wpF P G call g args h K) : wpF P G call g args h K' := by
  obtain ⟨fn, c, h1, h2, h3, h4⟩ := hr
  exact ⟨fn, c, h1, h2, h3, wpC_mono (endK_mono hK) h4⟩
end
end Go.Sym
end

/-
  Slots that lie open among the tree's blocks: their own block, their place, the set of their indexes, what tells readers.
-/
section
set_option linter.unusedSimpArgs false
set_option linter.unusedVariables false
namespace Go.Viv
open Classical in
/-- The one that there is. -/
noncomputable def theOne {α : Type} (p : α → Prop) : Option α := if h : ∃ a, p a then some (Classical.choose h) else none
theorem theOne_spec {α : Type} {p : α → Prop} {a : α} (h : theOne p = some a) : p a := by
  unfold theOne at h
  split at h
  · rename_i hx
    cases h
    exact Classical.choose_spec hx
  · cases h
theorem theOne_of {α : Type} {p : α → Prop} {a : α} (h : p a) (hu : ∀ b, p b → b = a) : theOne p = some a := by
  unfold theOne
  rw [dif_pos ⟨a, h⟩]
  exact congrArg some (hu _ (Classical.choose_spec ⟨a, h⟩))
end Go.Viv
namespace Go.Proofs.YtclmjcjaebonnaaGreatDoor
open Go Go.RowKit Go.Viv Go.Eva Go.Sym
/-- A place of a variant at a block. -/
def keptT (v : Int) : TypeId := if v = 1 then 236 else if v = 2 then 238 else if v = 3 then 240 else 243
def keptX (n : Nat) (v : Int) : Value := if v = 1 then pt n else if v = 2 then pt n else if v = 3 then pt n else .agg ⟨[pt n]⟩
def keptV (n : Nat) (v : Int) : Value := .iface (keptT v) (keptX n v)
theorem keptX_ren (κ : Nat → Nat) (n : Nat) (v : Int) : ren κ (keptX n v) = keptX (κ n) v := by
  unfold keptX
  split
  · rfl
  · split
    · rfl
    · split <;> rfl
def keptR (v : Int) (l : SM) : Rs := if v = 4 then .set l.keys else .place v.toNat l
def placeV (K : Nat) (v : Int) : Value := keptV (K + 1) v
def placeR (s : Sls) : Rs := keptR s.d.v s.l
def flagV (K : Nat) (f : Option Fls) : Value := match f with
  | none => .pointer none
  | some _ => pt (K + 3)
def slotC (K : Nat) (s : Sls) : List Value := [placeV K s.d.v, .int .i64 s.d.k, .int .i64 s.d.v, .int .i64 s.d.b, pt (K + 2), flagV K s.fl]
structure SAt (t : Tr AObj) (K : Nat) (s : Sls) : Prop where
  ok : s.Ok
  own : t.at_ K = some (.cells (slotC K s) 196 true)
  place : t.at_ (K + 1) = some (.res (placeR s))
  mask : t.at_ (K + 2) = some (.res (.set s.l.keys))
  fl : ∀ f, s.fl = some f → t.at_ (K + 3) = some (.res (.flag f))
theorem SM.tags {l l' : SM} (h : ∀ p ∈ l, p.2 = ⟨3, 0, 0⟩) (h' : ∀ p ∈ l', p.2 = ⟨3, 0, 0⟩) (hk : l.keys = l'.keys) : l = l' := by
  induction l generalizing l' with
  | nil => cases l' with
    | nil => rfl
    | cons p l' => simp [SM.keys] at hk
  | cons p l ih => cases l' with
    | nil => simp [SM.keys] at hk
    | cons q l' =>
      simp only [SM.keys, List.map_cons, List.cons.injEq] at hk
      rw [ih (fun x hx => h x (List.mem_cons_of_mem _ hx)) (fun x hx => h' x (List.mem_cons_of_mem _ hx)) hk.2]
      congr 1
      exact Prod.ext hk.1 ((h p (by simp)).trans (h' q (by simp)).symm)
theorem Sls.tag_vals {s : Sls} (h : s.Ok) (hv : s.d.v = 4) : ∀ p ∈ s.l, p.2 = ⟨3, 0, 0⟩ := fun p hp => by
  obtain ⟨h1, h2⟩ := h.val p hp
  rw [h.tag hv] at h2
  obtain ⟨n, k, a, b⟩ := p
  simp only at h2
  subst h2
  simp [okV] at h1
  obtain ⟨rfl, rfl⟩ := h1
  rfl
theorem SAt.uniq {t : Tr AObj} {K : Nat} {s s' : Sls} (h : SAt t K s) (h' : SAt t K s') : s' = s := by
  have e1 := h.own.symm.trans h'.own
  simp only [Option.some.injEq, AObj.cells.injEq, slotC, List.cons.injEq, Value.int.injEq, true_and, and_true] at e1
  obtain ⟨_, hk, hv, hb, hf⟩ := e1
  have hd : s'.d = s.d := by
    cases hs : s.d; cases hs' : s'.d
    rw [hs] at hk hv hb; rw [hs'] at hk hv hb
    simp only at hk hv hb
    rw [hk, hv, hb]
  have hl : s'.l = s.l := by
    have e2 := h.place.symm.trans h'.place
    unfold placeR keptR at e2
    rw [hd] at e2
    by_cases h4 : s.d.v = 4
    · rw [if_pos h4, if_pos h4] at e2
      simp only [Option.some.injEq, AObj.res.injEq, Rs.set.injEq] at e2
      exact (SM.tags (Sls.tag_vals h.ok h4) (Sls.tag_vals h'.ok (by rw [hd]; exact h4)) e2).symm
    · rw [if_neg h4, if_neg h4] at e2
      simp only [Option.some.injEq, AObj.res.injEq, Rs.place.injEq] at e2
      exact e2.2.symm
  have hfl : s'.fl = s.fl := by
    cases e : s.fl with
    | none => cases e' : s'.fl with
      | none => rfl
      | some f' => rw [e, e'] at hf; simp [flagV, pt] at hf
    | some f => cases e' : s'.fl with
      | none => rw [e, e'] at hf; simp [flagV, pt] at hf
      | some f' =>
        have := (h.fl f e).symm.trans (h'.fl f' e')
        simp only [Option.some.injEq, AObj.res.injEq, Rs.flag.injEq] at this
        rw [this]
  obtain ⟨a, b, c⟩ := s
  obtain ⟨a', b', c'⟩ := s'
  simp only at hd hl hfl
  rw [hd, hl, hfl]
/-- The blocks of a slot that may turn. -/
def smods (K : Nat) (s : Sls) : List (Nat × Option AObj) := (K + 1, some (.res (placeR s))) :: (K + 2, some (.res (.set s.l.keys))) :: match s.fl with
  | none => []
  | some f => [(K + 3, some (.res (.flag f)))]
/-- Is a block one of a slot's that may turn? -/
def InS (K : Nat) (s : Sls) (X : Nat) : Prop := X = K + 1 ∨ X = K + 2 ∨ (s.fl.isSome ∧ X = K + 3)
theorem inS_iff {K X : Nat} {s : Sls} : KeyIn X (smods K s) ↔ InS K s X := by
  unfold smods InS
  cases s.fl <;> simp [KeyIn]
theorem slotC_same {K : Nat} {s s' : Sls} (hd : s'.d = s.d) (hf : s'.fl.isSome = s.fl.isSome) : slotC K s' = slotC K s := by
  unfold slotC
  rw [hd]
  congr 5
  cases h : s.fl <;> cases h' : s'.fl <;> rw [h, h'] at hf <;> first | rfl | cases hf
theorem SAt.lay {t : Tr AObj} {K : Nat} {s s' : Sls} (h : SAt t K s) (hd : s'.d = s.d) (hf : s'.fl.isSome = s.fl.isSome) (ok : s'.Ok) : SAt (setL t (smods K s')) K s' := by
  refine ⟨ok, ?_, ?_, ?_, fun f hf' => ?_⟩
  · rw [setL_out _ _ _ (by rw [inS_iff]; unfold InS; omega), slotC_same hd hf]
    exact h.own
  all_goals
    unfold smods
    cases e : s'.fl <;> simp (disch := omega) only [setL, Tr.at_set_same, Tr.at_set_ne]
  · rw [e] at hf'; cases hf'
  · rw [e] at hf'; cases hf'; rfl
theorem SAt.frame {t t' : Tr AObj} {K : Nat} {s : Sls} (h : SAt t K s) (hf : ∀ X, K ≤ X → X < K + 4 → t'.at_ X = t.at_ X) : SAt t' K s :=
  ⟨h.ok, (hf _ (by omega) (by omega)).trans h.own, (hf _ (by omega) (by omega)).trans h.place, (hf _ (by omega) (by omega)).trans h.mask, fun f e => (hf _ (by omega) (by omega)).trans (h.fl f e)⟩
/-- A method of a slot: what it answers, what the slot is behind it, new blocks. -/
abbrev SMeth := Hp → Sls → List Value → Option (Value × Sls × List AObj)
noncomputable def cS (f : SMeth) : Sym.CallS := fun args s => match args with
  | .pointer (some ⟨K, 0, none⟩) :: ar => (match theOne (SAt s.t K) with
    | some x => (match f s x ar with
      | some (v, x', obs) => some (v, ⟨news (setL s.t (smods K x')) s.next obs, s.next + obs.length⟩)
      | none => none)
    | none => none)
  | _ => none
theorem cS_at {f : SMeth} {s : Hp} {K : Nat} {x x' : Sls} {ar : List Value} {v : Value} {obs : List AObj} (h : SAt s.t K x) (hf : f s x ar = some (v, x', obs)) : cS f (pt K :: ar) s = some (v, ⟨news (setL s.t (smods K x')) s.next obs, s.next + obs.length⟩) := by
  unfold cS pt
  simp only [theOne_of h fun b hb => h.uniq hb, hf]
section
variable {G : Nat} {ν : Toks} {W : World} {may : Nat → Prop} {call : CallB}
/-- What stands behind a body of a slot's method. -/
structure EndsS (s : Hp) (K : Nat) (x x' : Sls) (ex : List Nat) (obs : List AObj) (h : Hp) (v u : Value) : Prop where
  at_ : SAt h.t K x'
  nd : ex.Nodup
  gt : ∀ k ∈ ex, s.next ≤ k
  len : ex.length = obs.length
  rest : ∀ X, X < s.next → ¬ InS K x X → h.t.at_ X = s.t.at_ X
  obs : ∀ j ob, obs[j]? = some ob → h.t.at_ (kap ex h.next j) = some (renO (inv_ s.next ex h.next) ob)
  val : Wk u (ren (inv_ s.next ex h.next) v)
theorem SAt.live {s : Hp} {ar : List Value} {K : Nat} {x : Sls} {Lv : Nat → Prop} (h : SAt s.t K x) (hl : Lives s (pt K :: ar) Lv) : K + 2 < s.next ∧ (x.fl.isSome → K + 3 < s.next) := by
  have l0 := hl.arg K (by simp [occL, occ, pt])
  have l2 := hl.lt _ (hl.cell K _ _ _ l0 h.own (K + 2) (by simp [slotC, occL, occ, pt]))
  refine ⟨l2, fun hf => ?_⟩
  obtain ⟨f, hf⟩ := Option.isSome_iff_exists.1 hf
  exact hl.lt _ (hl.cell K _ _ _ l0 h.own (K + 3) (by simp [slotC, occL, occ, pt, flagV, hf]))
theorem slot_ok (hc : CallOK Tryz.prog G (LBegin Tryz.prog ν LL W may) ν call) {g : FuncId} {f : SMeth}
    (hb : ∀ s K x ar v x' obs, f s x ar = some (v, x', obs) → SAt s.t K x → K + 2 < s.next → (x.fl.isSome → K + 3 < s.next) → G ≤ s.next → x'.fl.isSome = x.fl.isSome ∧ ∃ m, wpF Tryz.prog G call g (pt K :: ar) ⟨s.t, s.next + m⟩ fun u h1 => ∃ ex, EndsS s K x x' ex obs h1 v u) :
    SpecOK Tryz.prog G (LBegin Tryz.prog ν LL W may) ν g (cS f) := by
  refine fun_ok rfl (by kernel_rfl) hc fun args s v h' e Lv hlv hG => ?_
  unfold cS at e
  split at e <;> try (cases e; done)
  rename_i K ar
  split at e <;> try (cases e; done)
  rename_i x hx
  split at e <;> try (cases e; done)
  rename_i v1 x' obs hfx
  simp only [Option.some.injEq, Prod.mk.injEq] at e
  obtain ⟨rfl, rfl⟩ := e
  have hat := theOne_spec hx
  obtain ⟨l1, l2⟩ := hat.live hlv
  obtain ⟨hfl, m, hrun⟩ := hb s K x ar v1 x' obs hfx hat l1 l2 hG
  refine ⟨smods K x', obs, rfl, m, ?_⟩
  have hmono : ∀ u h1, (∃ ex, EndsS s K x x' ex obs h1 v1 u) → ∃ ex, EndsF s (smods K x') ex obs h1 v1 u := by
    rintro u h1 ⟨ex, E⟩
    refine ⟨ex, E.nd, E.gt, E.len, fun k o hk => ?_, fun k o hk => ?_, fun X hX hX' => E.rest X hX (fun hi => hX' ?_), E.obs, E.val⟩
    · have := inS_iff.1 (key_low hk)
      unfold InS at this
      rcases this with rfl | rfl | ⟨h3, rfl⟩
      · omega
      · omega
      · exact l2 (hfl ▸ h3)
    · unfold smods at hk
      cases e : x'.fl with
      | none =>
        rw [e] at hk
        simp only [List.mem_cons, Prod.mk.injEq, Option.some.injEq, List.not_mem_nil, or_false] at hk
        rcases hk with ⟨rfl, rfl⟩ | ⟨rfl, rfl⟩
        · exact E.at_.place
        · exact E.at_.mask
      | some fl =>
        rw [e] at hk
        simp only [List.mem_cons, Prod.mk.injEq, Option.some.injEq, List.not_mem_nil, or_false] at hk
        rcases hk with ⟨rfl, rfl⟩ | ⟨rfl, rfl⟩ | ⟨rfl, rfl⟩
        · exact E.at_.place
        · exact E.at_.mask
        · exact E.at_.fl _ e
    · rw [inS_iff]
      unfold InS at hi ⊢
      rw [hfl]
      exact hi
  exact wpF_mono hmono hrun
end
end Go.Proofs.YtclmjcjaebonnaaGreatDoor
end

/-
  Rows of values by their indexes: put, taken, looked up. No program in sight.
-/
section
set_option linter.unusedSimpArgs false
set_option linter.unusedVariables false
namespace Go.Viv
open Go.Sym
namespace SM
theorem lk_nil (i : Int) : lk [] i = none := rfl
theorem lk_cons (p : Nat × Val) (l : SM) (i : Int) : lk (p :: l) i = if (p.1 : Int) = i then some p.2 else lk l i := by
  unfold lk
  by_cases h : (p.1 : Int) = i
  · rw [List.find?_cons_of_pos (by simpa using h), if_pos h]; rfl
  · rw [List.find?_cons_of_neg (by simpa using h), if_neg h]
theorem lk_put (i : Nat) (v : Val) (j : Int) : ∀ l : SM, (put i v l).lk j = if j = i then some v else l.lk j
  | [] => by
    unfold put
    rw [lk_cons, lk_nil]
    by_cases h : j = i
    · rw [if_pos h, if_pos h.symm]
    · rw [if_neg h, if_neg (Ne.symm h)]
  | p :: l => by
    unfold put
    by_cases h1 : i < p.1
    · rw [if_pos h1, lk_cons]
      by_cases h : j = i
      · rw [if_pos h, if_pos h.symm]
      · rw [if_neg h, if_neg (Ne.symm h)]
    · rw [if_neg h1]
      by_cases h2 : i = p.1
      · rw [if_pos h2, lk_cons]
        by_cases h : j = i
        · rw [if_pos h, if_pos h.symm]
        · rw [if_neg h, if_neg (Ne.symm h), lk_cons, if_neg (by omega)]
      · rw [if_neg h2, lk_cons, lk_put i v j l, lk_cons]
        by_cases h : j = i
        · rw [if_pos h, if_neg (by omega), if_pos h]
        · rw [if_neg h, if_neg h]
theorem lk_del (i j : Int) : ∀ l : SM, (del i l).lk j = if j = i then none else l.lk j
  | [] => by simp [del, lk]
  | p :: l => by
    have ih := lk_del i j l
    unfold del at ih ⊢
    by_cases h : (p.1 : Int) = i
    · rw [List.filter_cons_of_neg (by simpa using h), ih, lk_cons]
      by_cases h2 : j = i
      · rw [if_pos h2]; rw [if_pos h2]
      · rw [if_neg h2, if_neg h2, if_neg (by omega)]
    · rw [List.filter_cons_of_pos (by simpa using h), lk_cons, ih, lk_cons]
      by_cases h2 : j = i
      · rw [if_pos h2, if_neg (by omega)]
        simp [h2]
      · rw [if_neg h2]
        simp [h2]
theorem keys_put (i : Nat) (v : Val) : ∀ l : SM, (put i v l).keys = insN i l.keys
  | [] => rfl
  | p :: l => by
    have ih := keys_put i v l
    unfold keys at ih ⊢
    unfold put
    simp only [List.map_cons, insN]
    by_cases h1 : i < p.1
    · rw [if_pos h1, if_pos h1]; rfl
    · rw [if_neg h1, if_neg h1]
      by_cases h2 : i = p.1
      · rw [if_pos h2, if_pos h2]; simp [h2]
      · rw [if_neg h2, if_neg h2]; simp [ih]
theorem keys_del (i : Nat) : ∀ l : SM, (del (i : Int) l).keys = remN i l.keys
  | [] => rfl
  | p :: l => by
    have ih := keys_del i l
    unfold del keys remN at ih ⊢
    by_cases h : p.1 = i
    · rw [List.filter_cons_of_neg (by simp; omega), ih, List.map_cons, List.filter_cons_of_neg (by simp; omega)]
    · rw [List.filter_cons_of_pos (by simp; omega), List.map_cons, ih, List.map_cons, List.filter_cons_of_pos (by simp; omega)]
theorem mem_keys {l : SM} {i : Nat} : i ∈ l.keys ↔ ∃ v, (i, v) ∈ l := by
  unfold keys
  rw [List.mem_map]
  constructor
  · rintro ⟨⟨a, v⟩, h, rfl⟩; exact ⟨v, h⟩
  · rintro ⟨v, h⟩; exact ⟨_, h, rfl⟩
theorem lk_some {l : SM} {i : Int} {v : Val} (h : l.lk i = some v) : ∃ k : Nat, i = k ∧ (k, v) ∈ l := by
  unfold lk at h
  obtain ⟨p, h1, h2⟩ := Option.map_eq_some_iff.1 h
  have h3 := List.find?_some h1
  have h4 := List.mem_of_find?_eq_some h1
  simp at h3
  exact ⟨p.1, h3.symm, by rw [← h2]; exact h4⟩
theorem lk_none {l : SM} {i : Int} : l.lk i = none ↔ ∀ p ∈ l, (p.1 : Int) ≠ i := by
  unfold lk
  rw [Option.map_eq_none_iff, List.find?_eq_none]
  simp
theorem lk_isSome (l : SM) (i : Int) : (l.lk i).isSome = hasZ i l.keys := by
  rw [hasZ_eq]
  cases h : l.lk i with
  | none =>
    rw [lk_none] at h
    symm
    simp only [Option.isSome_none, Bool.and_eq_false_iff, decide_eq_false_iff_not]
    by_cases h0 : 0 ≤ i
    · refine .inr fun hm => ?_
      obtain ⟨v, hv⟩ := mem_keys.1 hm
      have := h _ hv
      simp at this
      omega
    · exact .inl h0
  | some v =>
    obtain ⟨k, rfl, hk⟩ := lk_some h
    symm
    simp only [Option.isSome_some, Bool.and_eq_true, decide_eq_true_eq]
    exact ⟨by omega, mem_keys.2 ⟨v, by simpa using hk⟩⟩
theorem rise_tail {p : Nat × Val} {l : SM} (h : RiseN (keys (p :: l))) : RiseN l.keys := h.2
theorem lk_mem {l : SM} (hr : RiseN l.keys) {i : Nat} {v : Val} (h : (i, v) ∈ l) : l.lk (i : Int) = some v := by
  induction l with
  | nil => cases h
  | cons p l ih =>
    rw [lk_cons]
    rcases List.mem_cons.1 h with rfl | h
    · rw [if_pos rfl]
    · have := hr.1 i (mem_keys.2 ⟨v, h⟩)
      rw [if_neg (by simp only at this; omega)]
      exact ih hr.2 h
theorem Ok.nil : Ok [] := ⟨trivial, fun p h => by cases h⟩
theorem mem_put {i : Nat} {v : Val} {p : Nat × Val} : ∀ {l : SM}, p ∈ put i v l → p = (i, v) ∨ p ∈ l
  | [], h => .inl (by simpa [put] using h)
  | q :: l, h => by
    unfold put at h
    split at h
    · rcases List.mem_cons.1 h with h | h
      · exact .inl h
      · exact .inr h
    · split at h
      · rcases List.mem_cons.1 h with h | h
        · exact .inl h
        · exact .inr (List.mem_cons_of_mem _ h)
      · rcases List.mem_cons.1 h with h | h
        · exact .inr (by rw [h]; exact List.mem_cons_self)
        · rcases mem_put h with h | h
          · exact .inl h
          · exact .inr (List.mem_cons_of_mem _ h)
theorem Ok.put {l : SM} (h : l.Ok) {i : Nat} (hi : i < 65536) (v : Val) : (SM.put i v l).Ok := ⟨by rw [keys_put]; exact riseN_ins h.rise, fun p hp => by
  rcases mem_put hp with rfl | hp
  · exact hi
  · exact h.lt p hp⟩
theorem Ok.del {l : SM} (h : l.Ok) (i : Nat) : (SM.del (i : Int) l).Ok := ⟨by rw [keys_del]; exact riseN_filter h.rise, fun p hp => h.lt p (List.mem_filter.1 hp).1⟩
theorem mem_del {l : SM} {i : Int} {p : Nat × Val} (h : p ∈ del i l) : p ∈ l := (List.mem_filter.1 h).1
theorem keys_len (l : SM) : l.keys.length = l.length := by simp [keys]
end SM
end Go.Viv
end

/-
  Package dense over structures: New, Get, Put, Take.
-/
section
set_option linter.unusedSimpArgs false
set_option linter.unusedVariables false
namespace Go.Proofs.YtclmjcjaebonnaaGreatDoor
open Go Go.RowKit Go.Viv Go.Eva Go.Sym
def inP (i : Int) : Bool := decide (0 ≤ i) && decide (i < 65536)
theorem inP_iff {i : Int} : inP i = true ↔ 0 ≤ i ∧ i < 65536 := by simp [inP]
/-- What lies in a place, and whether it does. -/
def lkA (l : SM) (i : Int) : Value := .tuple ⟨[.agg ⟨((l.lk i).getD Val.zero).cells⟩, .bool (l.lk i).isSome]⟩
def mGet (k : Nat) : Meth := fun _ x ar => match x, ar with
  | .place k' l, [.int .i64 i] => if k' = k ∧ inP i = true then some (lkA l i, .place k' l, []) else none
  | _, _ => none
def mPut (k : Nat) : Meth := fun _ x ar => match x, ar with
  | .place k' l, [.int .i64 i, .agg ⟨[.int .i64 a, .int .i64 b, .int .i64 c]⟩] => if k' = k ∧ inP i = true then some (lkA l i, .place k' (l.put i.toNat ⟨a, b, c⟩), []) else none
  | _, _ => none
def mTakeP (k : Nat) : Meth := fun _ x ar => match x, ar with
  | .place k' l, [.int .i64 i] => if k' = k ∧ inP i = true then some (lkA l i, .place k' (l.del i), []) else none
  | _, _ => none
def sNewP (k : Nat) : Sym.CallS := fun args s => match args with
  | [] => some (.pointer (some ⟨s.next, 0, none⟩), ⟨s.t.set s.next (some (.res (.place k []))), s.next + 1⟩)
  | _ => none
/-! ### Rows as what lies at an index -/
def lkR (rs : List (Int × Val)) (i : Int) : Option Val := (rs.find? (fun r => r.1 == i)).map (·.2)
theorem lkR_has (rs : List (Int × Val)) (i : Int) : hasV rs i = (lkR rs i).isSome := by simp [hasV, lkR]
theorem lkR_iff {rs : List (Int × Val)} (h : (rs.map (·.1)).Nodup) {j : Int} {v : Val} : lkR rs j = some v ↔ ∃ m : Nat, rs[m]? = some (j, v) := by
  constructor
  · intro e
    unfold lkR at e
    obtain ⟨p, h1, h2⟩ := Option.map_eq_some_iff.1 e
    have h3 := List.find?_some h1
    obtain ⟨m, hm⟩ := List.getElem?_of_mem (List.mem_of_find?_eq_some h1)
    simp at h3
    exact ⟨m, by rw [hm, ← h2, ← h3]⟩
  · rintro ⟨m, hm⟩
    have hp := (pos_iff h).2 ⟨v, hm⟩
    obtain ⟨v', h1, _, h3, h4⟩ := pos_some hp
    rw [hm] at h1
    cases h1
    rw [lkR_has] at h4
    obtain ⟨u, hu⟩ := Option.isSome_iff_exists.1 h4
    have : getV rs j = u := by unfold getV; unfold lkR at hu; rw [hu]; rfl
    rw [hu, ← this, h3]
theorem lkR_nil (i : Int) : lkR [] i = none := rfl
theorem DenseIs.nodup {w : World} {p : Nat} {rs : List (Int × Val)} {S : Nat → Prop} (h : DenseIs w p rs S) : (rs.map (·.1)).Nodup := by
  obtain ⟨sv, bm, h1, h2, h3, h4, _⟩ := h
  exact h4
theorem lkR_put {rs : List (Int × Val)} (h : (rs.map (·.1)).Nodup) {i : Int} (hi : 0 ≤ i ∧ i < 65536) (v : Val) (hn : ((putV rs i v).map (·.1)).Nodup) (j : Int) : lkR (putV rs i v) j = if j = i then some v else lkR rs j := by
  have ho : ¬ (i < 0 ∨ 65536 ≤ i) := by omega
  apply Option.ext
  intro u
  rw [lkR_iff hn]
  unfold putV
  rw [if_neg ho]
  cases hp : pos rs i with
  | none =>
    simp only
    have hno := (pos_none hp).2.2
    constructor
    · rintro ⟨m, hm⟩
      rcases Nat.lt_or_ge m rs.length with hl | hl
      · rw [List.getElem?_append_left hl] at hm
        have hne := hno _ (List.mem_of_getElem? hm)
        simp only at hne
        rw [if_neg hne, lkR_iff h]
        exact ⟨m, hm⟩
      · rw [List.getElem?_append_right hl] at hm
        obtain ⟨hl2, e⟩ := List.getElem?_eq_some_iff.1 hm
        simp at hl2
        have : m - rs.length = 0 := by omega
        simp only [this, List.getElem_cons_zero, Prod.mk.injEq] at e
        rw [if_pos e.1.symm, e.2]
    · intro e
      by_cases hj : j = i
      · rw [if_pos hj] at e
        exact ⟨rs.length, by rw [List.getElem?_append_right (Nat.le_refl _)]; cases e; simp [hj]⟩
      · rw [if_neg hj, lkR_iff h] at e
        obtain ⟨m, hm⟩ := e
        exact ⟨m, by rw [List.getElem?_append_left (List.getElem?_eq_some_iff.1 hm).1]; exact hm⟩
  | some k =>
    simp only
    obtain ⟨v0, hk, hkl, _⟩ := pos_some hp
    constructor
    · rintro ⟨m, hm⟩
      rw [List.getElem?_set] at hm
      by_cases e : k = m
      · subst e
        rw [if_pos rfl, if_pos hkl] at hm
        cases hm
        rw [if_pos rfl]
      · rw [if_neg e] at hm
        have hne : j ≠ i := fun e' => e (key_inj h hk (e' ▸ hm))
        rw [if_neg hne, lkR_iff h]
        exact ⟨m, hm⟩
    · intro e
      by_cases hj : j = i
      · rw [if_pos hj] at e
        cases e
        exact ⟨k, by rw [List.getElem?_set, if_pos rfl, if_pos hkl, hj]⟩
      · rw [if_neg hj, lkR_iff h] at e
        obtain ⟨m, hm⟩ := e
        have hkm : k ≠ m := fun e' => by
          subst e'
          rw [hk] at hm
          cases hm
          exact hj rfl
        exact ⟨m, by rw [List.getElem?_set, if_neg hkm]; exact hm⟩
theorem lkR_take {rs : List (Int × Val)} (h : (rs.map (·.1)).Nodup) {i : Int} (hn : ((takeV rs i).map (·.1)).Nodup) (j : Int) : lkR (takeV rs i) j = if j = i then none else lkR rs j := by
  apply Option.ext
  intro u
  rw [lkR_iff hn]
  unfold takeV
  cases hp : pos rs i with
  | none =>
    simp only
    have hno := (pos_none hp).2.2
    constructor
    · rintro ⟨m, hm⟩
      have hne := hno _ (List.mem_of_getElem? hm)
      simp only at hne
      rw [if_neg hne, lkR_iff h]
      exact ⟨m, hm⟩
    · intro e
      by_cases hj : j = i
      · rw [if_pos hj] at e; cases e
      · rw [if_neg hj, lkR_iff h] at e
        exact e
  | some k =>
    simp only
    obtain ⟨v0, hk, hkl, _⟩ := pos_some hp
    have hlast : rs.getLast?.getD (0, Val.zero) = rs[rs.length - 1]'(by omega) := by
      rw [List.getLast?_eq_getElem?, List.getElem?_eq_getElem (by omega)]; rfl
    rw [hlast]
    constructor
    · rintro ⟨m, hm⟩
      obtain ⟨m1, m2⟩ := take_get_some hkl hm
      rcases m2 with ⟨rfl, m3⟩ | ⟨m3, m4⟩
      · have hl : rs[rs.length - 1]? = some (j, u) := by rw [List.getElem?_eq_getElem (by omega), m3]
        have hne : j ≠ i := fun e' => by
          have := key_inj h hk (e' ▸ hl)
          omega
        rw [if_neg hne, lkR_iff h]
        exact ⟨_, hl⟩
      · have hne : j ≠ i := fun e' => m3 (key_inj h (e' ▸ m4) hk)
        rw [if_neg hne, lkR_iff h]
        exact ⟨_, m4⟩
    · intro e
      by_cases hj : j = i
      · rw [if_pos hj] at e; cases e
      · rw [if_neg hj, lkR_iff h] at e
        obtain ⟨m, hm⟩ := e
        have hml := (List.getElem?_eq_some_iff.1 hm).1
        have hmk : m ≠ k := fun e' => by subst e'; rw [hk] at hm; cases hm; exact hj rfl
        by_cases hm1 : m < rs.length - 1
        · exact ⟨m, by rw [take_get hkl, if_pos hm1, if_neg hmk]; exact hm⟩
        · have hme : m = rs.length - 1 := by omega
          subst hme
          exact ⟨k, by
            rw [take_get hkl, if_pos (by omega), if_pos rfl]
            rw [List.getElem?_eq_getElem (by omega)] at hm
            exact hm⟩
section
variable {G : Nat} {ν : Toks} {W : World} {may : Nat → Prop}
/-- What turns, or reads, a place that is looked at as one. -/
theorem leaf_ok {g : FuncId} {f : Meth} (hf : ∀ s x ar v x' obs, f s x ar = some (v, x', obs) → obs = [] ∧ plainV v = true ∧ plainL ar = true ∧ (∀ oc e ps, ¬ fmAll x oc e ps) ∧ ∀ (p : Nat) (F : Nat → Prop) (w : World), leafAll x w p F → (∀ k, F k → k < w.heap.size) → Calls Tryz.prog g ⟨.pointer (some ⟨p, 0, none⟩) :: ar⟩ w fun e w' => e = .returned v ∧ ∃ F' : Nat → Prop, leafAll x' w' p F' ∧ (∀ k, F' k → F k ∨ (w.heap.size ≤ k ∧ k < w'.heap.size)) ∧ Fr F w w') :
    SpecOK Tryz.prog G (LBegin Tryz.prog ν LL W may) ν g (cMeth f) := by
  intro args s v h' e φ w args' ha hR _
  unfold cMeth at e
  split at e <;> try (cases e; done)
  rename_i B ar
  split at e <;> try (cases e; done)
  rename_i x hat
  split at e <;> try (cases e; done)
  rename_i v1 x' obs hfx
  simp only [Option.some.injEq, Prod.mk.injEq] at e
  obtain ⟨rfl, rfl⟩ := e
  obtain ⟨rfl, hp, hpl, hnf, hcall⟩ := hf _ _ _ _ _ _ hfx
  cases ha with
  | cons h1 h2 =>
    cases h1
    have := h2.plain hpl
    subst this
    rename_i r hφ
    obtain ⟨F, q1, q2, q3⟩ := hR.turn hφ hat
    have hl : leafAll x w r.b F := by
      cases q1 with
      | leaf h => exact h
      | form oc e ps h => exact absurd h (hnf _ _ _)
    exact (hcall r.b F w hl q2).mono fun e w' ⟨he, F', g1, g2, g3⟩ => ⟨_, he, φ, VR.refl _ hp, q3 x' w' F' (.leaf g1) g2 g3, fun _ _ => rfl, Nat.le_refl _⟩
theorem wf_of {i : Int} (h : inP i = true) : (Lit.int .i64 i).wf = true := by
  obtain ⟨h1, h2⟩ := inP_iff.1 h
  simp [Lit.wf, IntKind.min, IntKind.max, IntKind.bits, IntKind.signed]
  omega
theorem no_form {l : SM} : ∀ oc e ps, ¬ fmAll (.place 1 l) oc e ps := fun _ _ _ h => h.elim
theorem lkA_dense {l : SM} {rs : List (Int × Val)} (h : ∀ i : Int, l.lk i = (rs.find? (fun r => r.1 == i)).map (·.2)) (i : Int) : lkA l i = .tuple #[(getV rs i).agg, .bool (hasV rs i)] := by
  unfold lkA getV hasV
  rw [h i]
  simp [Val.agg, Val.cells]
theorem dGet_ok : SpecOK Tryz.prog G (LBegin Tryz.prog ν LL W may) ν 300 (cMeth (mGet 1)) := leaf_ok fun s x ar v x' obs e => by
  unfold mGet at e
  split at e <;> try (cases e; done)
  rename_i k' l i
  split at e <;> try (cases e; done)
  rename_i hc
  obtain ⟨rfl, hi⟩ := hc
  simp only [Option.some.injEq, Prod.mk.injEq] at e
  obtain ⟨rfl, rfl, rfl⟩ := e
  refine ⟨rfl, rfl, rfl, no_form, fun p F w hl hlt => ?_⟩
  obtain ⟨hok, rs, hd, hlk⟩ := hl
  refine (get_any p i rs F w hd (wf_of hi)).mono fun e w' ⟨he, hf⟩ => ⟨he.trans (by rw [lkA_dense hlk]), F, ⟨hok, rs, hd.same (fun k hk => hf.block k (hlt k hk) (fun h => h)), hlk⟩, fun k hk => .inl hk, hf.mono fun _ _ h => h.elim⟩
theorem dPut_ok : SpecOK Tryz.prog G (LBegin Tryz.prog ν LL W may) ν 302 (cMeth (mPut 1)) := leaf_ok fun s x ar v x' obs e => by
  unfold mPut at e
  split at e <;> try (cases e; done)
  rename_i k' l i a b c
  split at e <;> try (cases e; done)
  rename_i hc
  obtain ⟨rfl, hi⟩ := hc
  simp only [Option.some.injEq, Prod.mk.injEq] at e
  obtain ⟨rfl, rfl, rfl⟩ := e
  refine ⟨rfl, rfl, rfl, no_form, fun p F w hl hlt => ?_⟩
  obtain ⟨hok, rs, hd, hlk⟩ := hl
  obtain ⟨i1, i2⟩ := inP_iff.1 hi
  refine (put_any p i ⟨a, b, c⟩ rs F w hd (wf_of hi)).mono fun e w' ⟨he, hd', hf⟩ => ⟨he.trans (by rw [lkA_dense hlk]), Viv.Ext F w w', ⟨hok.put (by omega) _, _, hd', fun j => ?_⟩, fun k hk => hk, hf⟩
  have := lkR_put hd.nodup ⟨i1, i2⟩ ⟨a, b, c⟩ hd'.nodup j
  unfold lkR at this
  rw [this, SM.lk_put, hlk j, Int.toNat_of_nonneg i1]
theorem dTake_ok : SpecOK Tryz.prog G (LBegin Tryz.prog ν LL W may) ν 303 (cMeth (mTakeP 1)) := leaf_ok fun s x ar v x' obs e => by
  unfold mTakeP at e
  split at e <;> try (cases e; done)
  rename_i k' l i
  split at e <;> try (cases e; done)
  rename_i hc
  obtain ⟨rfl, hi⟩ := hc
  simp only [Option.some.injEq, Prod.mk.injEq] at e
  obtain ⟨rfl, rfl, rfl⟩ := e
  refine ⟨rfl, rfl, rfl, no_form, fun p F w hl hlt => ?_⟩
  obtain ⟨hok, rs, hd, hlk⟩ := hl
  obtain ⟨i1, i2⟩ := inP_iff.1 hi
  obtain ⟨n, rfl⟩ : ∃ n : Nat, i = n := ⟨i.toNat, by omega⟩
  rw [lkA_dense hlk]
  cases hp : pos rs n with
  | none =>
    obtain ⟨g1, g2, g3⟩ := pos_none hp
    rw [g1, g2]
    refine (take_none p n rs F w hd (wf_of hi) hp).mono fun e w' ⟨he, hf⟩ => ⟨he, F, ⟨hok.del n, rs, hd.same (fun k hk => hf.block k (hlt k hk) (fun h => h)), fun j => ?_⟩, fun k hk => .inl hk, hf.mono fun _ _ h => h.elim⟩
    · rw [SM.lk_del, hlk j]
      by_cases hj : j = n
      · rw [if_pos hj, hj]
        rw [lkR_has] at g2
        unfold lkR at g2
        cases h0 : (rs.find? (fun r => r.1 == (n : Int))).map (·.2) with
        | none => rfl
        | some u => rw [h0] at g2; cases g2
      · rw [if_neg hj]
  | some k =>
    obtain ⟨v0, hk, hkl, g1, g2⟩ := pos_some hp
    rw [g2]
    refine (take_some p n rs F w hd (wf_of hi) k hp).mono fun e w' ⟨he, hd', hf⟩ => ⟨he, F, ⟨hok.del n, _, hd', fun j => ?_⟩, fun k hk => .inl hk, hf⟩
    have := lkR_take hd.nodup hd'.nodup j
    unfold lkR at this
    rw [this, SM.lk_del, hlk j]
theorem dNew_ok : SpecOK Tryz.prog G (LBegin Tryz.prog ν LL W may) ν 137 (sNewP 1) := by
  intro args s v h' e φ w args' ha hR _
  unfold sNewP at e
  split at e <;> try (cases e; done)
  simp only [Option.some.injEq, Prod.mk.injEq] at e
  obtain ⟨rfl, rfl⟩ := e
  cases ha
  refine (new_any w).mono fun e w' ⟨p, he, hd, hfr⟩ => ?_
  have hin : w.heap.size ≤ p ∧ p < w'.heap.size := by
    obtain ⟨sv, bm, h1, h2, h3, h4, h5, h6, h7, h8⟩ := hd
    exact h6
  exact ⟨_, he, φ.add s.next ⟨p, 0, 0⟩, .ptr (Phi.add_same _ _ _), hR.made hfr (x := .place 1 []) (F := fun k => w.heap.size ≤ k ∧ k < w'.heap.size) hin.2 (fun k hk => hk) (fun _ _ => .leaf ⟨SM.Ok.nil, [], hd, fun _ => rfl⟩), Eva.Ext.add _, Nat.le_succ _⟩
end
end Go.Proofs.YtclmjcjaebonnaaGreatDoor
end

/-
  Package value over structures: Ok, Zero.
-/
section
set_option linter.unusedSimpArgs false
set_option linter.unusedVariables false
namespace Go.Proofs.YtclmjcjaebonnaaGreatDoor
open Go Go.RowKit Go.Viv Go.Eva Go.Sym
def cVOk : Sym.CallS := fun args s => match args with
  | [.agg ⟨[.int .i64 k, .int .i64 a, .int .i64 b]⟩] => some (.bool (okV ⟨k, a, b⟩), s)
  | _ => none
section
variable {G : Nat} {ν : Toks} {W : World} {may : Nat → Prop} {call : CallB}
theorem vOk_ok (hc : CallOK Tryz.prog G (LBegin Tryz.prog ν LL W may) ν call) : SpecOK Tryz.prog G (LBegin Tryz.prog ν LL W may) ν 149 cVOk := by
  refine fun_ok rfl (by kernel_rfl) hc fun args s v h' e Lv hlv hG => ?_
  unfold cVOk at e
  split at e <;> try (cases e; done)
  rename_i k a b
  simp only [Option.some.injEq, Prod.mk.injEq] at e
  obtain ⟨rfl, rfl⟩ := e
  refine ⟨[], [], rfl, 0, ?_⟩
  unfold okV
  by_cases h1 : k = 1
  · subst h1
    by_cases hb : b = 0
    · subst hb
      rw [show (if (1 : Int) = 1 then (0 : Int) == 0 else if (1 : Int) = 2 then true else if (1 : Int) = 3 then a == 0 && (0 : Int) == 0 else false) = true from rfl]
      refine ⟨Tryz.f149, _, Tryz.func149, rfl, by simp [Tryz.f149], ?_⟩; rw [Tryz.ntmps149]
      repeat' (first | simp (disch := omega) only [go_sem, reduceIte, sliceB, Tryz.results149] | (with_reducible refine w_chain0 ?_ ?_; focus (decide +kernel)) | (with_reducible refine condK_of _ _ ?_ ?_ <;> (intro hb; try simp only [decide_eq_true_eq, decide_eq_false_iff_not] at hb)) | (with_reducible refine gdK_of_f _ _ _ _ _ ?_ ?_ <;> (intro hb; try simp only [decide_eq_true_eq, decide_eq_false_iff_not] at hb)) | (with_reducible refine gdK_of_t _ _ _ _ _ ?_ ?_ <;> (intro hb; try simp only [decide_eq_true_eq, decide_eq_false_iff_not] at hb)) | (with_reducible refine gK_of_f _ _ _ ?_ ?_ <;> (intro hb; try simp only [decide_eq_true_eq, decide_eq_false_iff_not] at hb)) | (with_reducible refine gK_of_t _ _ _ ?_ ?_ <;> (intro hb; try simp only [decide_eq_true_eq, decide_eq_false_iff_not] at hb)))
      all_goals (refine ends_mk [] ?_ rfl ?_ ?_ ?_ ?_ <;> (try (intro X hX1 hX2; simp only [KeyIn, or_false, not_or, not_false_eq_true] at hX2)) <;> (try simp (disch := omega) only [go_sem, reduceIte, sliceB, AllMods, DistG, KeyIn, setL, news, not_false_eq_true, or_false, not_or, ne_eq, AllAt, AllObs, Dist, NotIn, kap_zero, kap_succ, kap_nil, inv_lt, inv_self, inv_add, ren_int, intsC_ren, and_true, and_self]) <;> (try omega))
    · have q : (b == 0) = false := by simpa using hb
      rw [if_pos rfl, q]
      refine ⟨Tryz.f149, _, Tryz.func149, rfl, by simp [Tryz.f149], ?_⟩; rw [Tryz.ntmps149]
      repeat' (first | simp (disch := omega) only [go_sem, reduceIte, sliceB, Tryz.results149] | (with_reducible refine w_chain0 ?_ ?_; focus (decide +kernel)) | (with_reducible refine condK_of _ _ ?_ ?_ <;> (intro hb; try simp only [decide_eq_true_eq, decide_eq_false_iff_not] at hb)) | (with_reducible refine gdK_of_f _ _ _ _ _ ?_ ?_ <;> (intro hb; try simp only [decide_eq_true_eq, decide_eq_false_iff_not] at hb)) | (with_reducible refine gdK_of_t _ _ _ _ _ ?_ ?_ <;> (intro hb; try simp only [decide_eq_true_eq, decide_eq_false_iff_not] at hb)) | (with_reducible refine gK_of_f _ _ _ ?_ ?_ <;> (intro hb; try simp only [decide_eq_true_eq, decide_eq_false_iff_not] at hb)) | (with_reducible refine gK_of_t _ _ _ ?_ ?_ <;> (intro hb; try simp only [decide_eq_true_eq, decide_eq_false_iff_not] at hb)))
      all_goals (refine ends_mk [] ?_ rfl ?_ ?_ ?_ ?_ <;> (try (intro X hX1 hX2; simp only [KeyIn, or_false, not_or, not_false_eq_true] at hX2)) <;> (try simp (disch := omega) only [go_sem, reduceIte, sliceB, AllMods, DistG, KeyIn, setL, news, not_false_eq_true, or_false, not_or, ne_eq, AllAt, AllObs, Dist, NotIn, kap_zero, kap_succ, kap_nil, inv_lt, inv_self, inv_add, ren_int, intsC_ren, and_true, and_self]) <;> (try omega))
  · by_cases h2 : k = 2
    · subst h2
      rw [if_neg (by simp), if_pos rfl]
      refine ⟨Tryz.f149, _, Tryz.func149, rfl, by simp [Tryz.f149], ?_⟩; rw [Tryz.ntmps149]
      repeat' (first | simp (disch := omega) only [go_sem, reduceIte, sliceB, Tryz.results149] | (with_reducible refine w_chain0 ?_ ?_; focus (decide +kernel)) | (with_reducible refine condK_of _ _ ?_ ?_ <;> (intro hb; try simp only [decide_eq_true_eq, decide_eq_false_iff_not] at hb)) | (with_reducible refine gdK_of_f _ _ _ _ _ ?_ ?_ <;> (intro hb; try simp only [decide_eq_true_eq, decide_eq_false_iff_not] at hb)) | (with_reducible refine gdK_of_t _ _ _ _ _ ?_ ?_ <;> (intro hb; try simp only [decide_eq_true_eq, decide_eq_false_iff_not] at hb)) | (with_reducible refine gK_of_f _ _ _ ?_ ?_ <;> (intro hb; try simp only [decide_eq_true_eq, decide_eq_false_iff_not] at hb)) | (with_reducible refine gK_of_t _ _ _ ?_ ?_ <;> (intro hb; try simp only [decide_eq_true_eq, decide_eq_false_iff_not] at hb)))
      all_goals (refine ends_mk [] ?_ rfl ?_ ?_ ?_ ?_ <;> (try (intro X hX1 hX2; simp only [KeyIn, or_false, not_or, not_false_eq_true] at hX2)) <;> (try simp (disch := omega) only [go_sem, reduceIte, sliceB, AllMods, DistG, KeyIn, setL, news, not_false_eq_true, or_false, not_or, ne_eq, AllAt, AllObs, Dist, NotIn, kap_zero, kap_succ, kap_nil, inv_lt, inv_self, inv_add, ren_int, intsC_ren, and_true, and_self]) <;> (try omega))
    · by_cases h3 : k = 3
      · subst h3
        rw [if_neg (by simp), if_neg (by simp), if_pos rfl]
        by_cases ha : a = 0
        · subst ha
          by_cases hb : b = 0
          · subst hb
            rw [show ((0 : Int) == 0 && (0 : Int) == 0) = true from rfl]
            refine ⟨Tryz.f149, _, Tryz.func149, rfl, by simp [Tryz.f149], ?_⟩; rw [Tryz.ntmps149]
            repeat' (first | simp (disch := omega) only [go_sem, reduceIte, sliceB, Tryz.results149] | (with_reducible refine w_chain0 ?_ ?_; focus (decide +kernel)) | (with_reducible refine condK_of _ _ ?_ ?_ <;> (intro hb; try simp only [decide_eq_true_eq, decide_eq_false_iff_not] at hb)) | (with_reducible refine gdK_of_f _ _ _ _ _ ?_ ?_ <;> (intro hb; try simp only [decide_eq_true_eq, decide_eq_false_iff_not] at hb)) | (with_reducible refine gdK_of_t _ _ _ _ _ ?_ ?_ <;> (intro hb; try simp only [decide_eq_true_eq, decide_eq_false_iff_not] at hb)) | (with_reducible refine gK_of_f _ _ _ ?_ ?_ <;> (intro hb; try simp only [decide_eq_true_eq, decide_eq_false_iff_not] at hb)) | (with_reducible refine gK_of_t _ _ _ ?_ ?_ <;> (intro hb; try simp only [decide_eq_true_eq, decide_eq_false_iff_not] at hb)))
            all_goals (refine ends_mk [] ?_ rfl ?_ ?_ ?_ ?_ <;> (try (intro X hX1 hX2; simp only [KeyIn, or_false, not_or, not_false_eq_true] at hX2)) <;> (try simp (disch := omega) only [go_sem, reduceIte, sliceB, AllMods, DistG, KeyIn, setL, news, not_false_eq_true, or_false, not_or, ne_eq, AllAt, AllObs, Dist, NotIn, kap_zero, kap_succ, kap_nil, inv_lt, inv_self, inv_add, ren_int, intsC_ren, and_true, and_self]) <;> (try omega))
          · have q : ((0 : Int) == 0 && b == 0) = false := by simpa using hb
            rw [q]
            refine ⟨Tryz.f149, _, Tryz.func149, rfl, by simp [Tryz.f149], ?_⟩; rw [Tryz.ntmps149]
            repeat' (first | simp (disch := omega) only [go_sem, reduceIte, sliceB, Tryz.results149] | (with_reducible refine w_chain0 ?_ ?_; focus (decide +kernel)) | (with_reducible refine condK_of _ _ ?_ ?_ <;> (intro hb; try simp only [decide_eq_true_eq, decide_eq_false_iff_not] at hb)) | (with_reducible refine gdK_of_f _ _ _ _ _ ?_ ?_ <;> (intro hb; try simp only [decide_eq_true_eq, decide_eq_false_iff_not] at hb)) | (with_reducible refine gdK_of_t _ _ _ _ _ ?_ ?_ <;> (intro hb; try simp only [decide_eq_true_eq, decide_eq_false_iff_not] at hb)) | (with_reducible refine gK_of_f _ _ _ ?_ ?_ <;> (intro hb; try simp only [decide_eq_true_eq, decide_eq_false_iff_not] at hb)) | (with_reducible refine gK_of_t _ _ _ ?_ ?_ <;> (intro hb; try simp only [decide_eq_true_eq, decide_eq_false_iff_not] at hb)))
            all_goals (refine ends_mk [] ?_ rfl ?_ ?_ ?_ ?_ <;> (try (intro X hX1 hX2; simp only [KeyIn, or_false, not_or, not_false_eq_true] at hX2)) <;> (try simp (disch := omega) only [go_sem, reduceIte, sliceB, AllMods, DistG, KeyIn, setL, news, not_false_eq_true, or_false, not_or, ne_eq, AllAt, AllObs, Dist, NotIn, kap_zero, kap_succ, kap_nil, inv_lt, inv_self, inv_add, ren_int, intsC_ren, and_true, and_self]) <;> (try omega))
        · have q : (a == 0 && b == 0) = false := by simp [ha]
          rw [q]
          refine ⟨Tryz.f149, _, Tryz.func149, rfl, by simp [Tryz.f149], ?_⟩; rw [Tryz.ntmps149]
          repeat' (first | simp (disch := omega) only [go_sem, reduceIte, sliceB, Tryz.results149] | (with_reducible refine w_chain0 ?_ ?_; focus (decide +kernel)) | (with_reducible refine condK_of _ _ ?_ ?_ <;> (intro hb; try simp only [decide_eq_true_eq, decide_eq_false_iff_not] at hb)) | (with_reducible refine gdK_of_f _ _ _ _ _ ?_ ?_ <;> (intro hb; try simp only [decide_eq_true_eq, decide_eq_false_iff_not] at hb)) | (with_reducible refine gdK_of_t _ _ _ _ _ ?_ ?_ <;> (intro hb; try simp only [decide_eq_true_eq, decide_eq_false_iff_not] at hb)) | (with_reducible refine gK_of_f _ _ _ ?_ ?_ <;> (intro hb; try simp only [decide_eq_true_eq, decide_eq_false_iff_not] at hb)) | (with_reducible refine gK_of_t _ _ _ ?_ ?_ <;> (intro hb; try simp only [decide_eq_true_eq, decide_eq_false_iff_not] at hb)))
          all_goals (refine ends_mk [] ?_ rfl ?_ ?_ ?_ ?_ <;> (try (intro X hX1 hX2; simp only [KeyIn, or_false, not_or, not_false_eq_true] at hX2)) <;> (try simp (disch := omega) only [go_sem, reduceIte, sliceB, AllMods, DistG, KeyIn, setL, news, not_false_eq_true, or_false, not_or, ne_eq, AllAt, AllObs, Dist, NotIn, kap_zero, kap_succ, kap_nil, inv_lt, inv_self, inv_add, ren_int, intsC_ren, and_true, and_self]) <;> (try omega))
      · rw [if_neg h1, if_neg h2, if_neg h3]
        refine ⟨Tryz.f149, _, Tryz.func149, rfl, by simp [Tryz.f149], ?_⟩; rw [Tryz.ntmps149]
        repeat' (first | simp (disch := omega) only [go_sem, reduceIte, sliceB, Tryz.results149] | (with_reducible refine w_chain0 ?_ ?_; focus (decide +kernel)) | (with_reducible refine condK_of _ _ ?_ ?_ <;> (intro hb; try simp only [decide_eq_true_eq, decide_eq_false_iff_not] at hb)) | (with_reducible refine gdK_of_f _ _ _ _ _ ?_ ?_ <;> (intro hb; try simp only [decide_eq_true_eq, decide_eq_false_iff_not] at hb)) | (with_reducible refine gdK_of_t _ _ _ _ _ ?_ ?_ <;> (intro hb; try simp only [decide_eq_true_eq, decide_eq_false_iff_not] at hb)) | (with_reducible refine gK_of_f _ _ _ ?_ ?_ <;> (intro hb; try simp only [decide_eq_true_eq, decide_eq_false_iff_not] at hb)) | (with_reducible refine gK_of_t _ _ _ ?_ ?_ <;> (intro hb; try simp only [decide_eq_true_eq, decide_eq_false_iff_not] at hb)))
        all_goals (refine ends_mk [] ?_ rfl ?_ ?_ ?_ ?_ <;> (try (intro X hX1 hX2; simp only [KeyIn, or_false, not_or, not_false_eq_true] at hX2)) <;> (try simp (disch := omega) only [go_sem, reduceIte, sliceB, AllMods, DistG, KeyIn, setL, news, not_false_eq_true, or_false, not_or, ne_eq, AllAt, AllObs, Dist, NotIn, kap_zero, kap_succ, kap_nil, inv_lt, inv_self, inv_add, ren_int, intsC_ren, and_true, and_self]) <;> (try omega))
def cVZero : Sym.CallS := fun args s => match args with
  | [.int .i64 k] => some (match okV ⟨k, 0, 0⟩ with
    | true => (.tuple ⟨[.agg ⟨[.int .i64 k, .int .i64 0, .int .i64 0]⟩, .bool true]⟩, s)
    | false => (.tuple ⟨[.agg ⟨[.int .i64 0, .int .i64 0, .int .i64 0]⟩, .bool false]⟩, s))
  | _ => none
theorem vZero_ok (hc : CallOK Tryz.prog G (LBegin Tryz.prog ν LL W may) ν call) (hok : ∀ a h, call 149 a h = cVOk a h) : SpecOK Tryz.prog G (LBegin Tryz.prog ν LL W may) ν 136 cVZero := by
  refine fun_ok rfl (by kernel_rfl) hc fun args s v h' e Lv hlv hG => ?_
  unfold cVZero at e
  split at e <;> try (cases e; done)
  rename_i k
  cases hk : okV ⟨k, 0, 0⟩ with
  | false =>
    rw [hk] at e
    simp only [Option.some.injEq, Prod.mk.injEq] at e
    obtain ⟨rfl, rfl⟩ := e
    refine ⟨[], [], rfl, 0, ?_⟩
    refine ⟨Tryz.f136, _, Tryz.func136, rfl, by simp [Tryz.f136], ?_⟩; rw [Tryz.ntmps136]
    repeat' (first | simp (disch := omega) only [go_sem, reduceIte, sliceB, hok, cVOk, hk, Tryz.results136] | (with_reducible refine w_chain0 ?_ ?_; focus (decide +kernel)) | (with_reducible refine condK_of _ _ ?_ ?_ <;> (intro hb; try simp only [decide_eq_true_eq, decide_eq_false_iff_not] at hb)) | (with_reducible refine gdK_of_f _ _ _ _ _ ?_ ?_ <;> (intro hb; try simp only [decide_eq_true_eq, decide_eq_false_iff_not] at hb)) | (with_reducible refine gdK_of_t _ _ _ _ _ ?_ ?_ <;> (intro hb; try simp only [decide_eq_true_eq, decide_eq_false_iff_not] at hb)) | (with_reducible refine gK_of_f _ _ _ ?_ ?_ <;> (intro hb; try simp only [decide_eq_true_eq, decide_eq_false_iff_not] at hb)) | (with_reducible refine gK_of_t _ _ _ ?_ ?_ <;> (intro hb; try simp only [decide_eq_true_eq, decide_eq_false_iff_not] at hb)))
    all_goals (refine ends_mk [] ?_ rfl ?_ ?_ ?_ ?_ <;> (try (intro X hX1 hX2; simp only [KeyIn, or_false, not_or, not_false_eq_true] at hX2)) <;> (try simp (disch := omega) only [go_sem, reduceIte, sliceB, AllMods, DistG, KeyIn, setL, news, not_false_eq_true, or_false, not_or, ne_eq, AllAt, AllObs, Dist, NotIn, kap_zero, kap_succ, kap_nil, inv_lt, inv_self, inv_add, ren_int, intsC_ren, and_true, and_self]) <;> (try omega))
  | true =>
    rw [hk] at e
    simp only [Option.some.injEq, Prod.mk.injEq] at e
    obtain ⟨rfl, rfl⟩ := e
    refine ⟨[], [], rfl, 0, ?_⟩
    refine ⟨Tryz.f136, _, Tryz.func136, rfl, by simp [Tryz.f136], ?_⟩; rw [Tryz.ntmps136]
    repeat' (first | simp (disch := omega) only [go_sem, reduceIte, sliceB, hok, cVOk, hk, Tryz.results136] | (with_reducible refine w_chain0 ?_ ?_; focus (decide +kernel)) | (with_reducible refine condK_of _ _ ?_ ?_ <;> (intro hb; try simp only [decide_eq_true_eq, decide_eq_false_iff_not] at hb)) | (with_reducible refine gdK_of_f _ _ _ _ _ ?_ ?_ <;> (intro hb; try simp only [decide_eq_true_eq, decide_eq_false_iff_not] at hb)) | (with_reducible refine gdK_of_t _ _ _ _ _ ?_ ?_ <;> (intro hb; try simp only [decide_eq_true_eq, decide_eq_false_iff_not] at hb)) | (with_reducible refine gK_of_f _ _ _ ?_ ?_ <;> (intro hb; try simp only [decide_eq_true_eq, decide_eq_false_iff_not] at hb)) | (with_reducible refine gK_of_t _ _ _ ?_ ?_ <;> (intro hb; try simp only [decide_eq_true_eq, decide_eq_false_iff_not] at hb)))
    all_goals (refine ends_mk [] ?_ rfl ?_ ?_ ?_ ?_ <;> (try (intro X hX1 hX2; simp only [KeyIn, or_false, not_or, not_false_eq_true] at hX2)) <;> (try simp (disch := omega) only [go_sem, reduceIte, sliceB, AllMods, DistG, KeyIn, setL, news, not_false_eq_true, or_false, not_or, ne_eq, AllAt, AllObs, Dist, NotIn, kap_zero, kap_succ, kap_nil, inv_lt, inv_self, inv_add, ren_int, intsC_ren, and_true, and_self]) <;> (try omega))
end
end Go.Proofs.YtclmjcjaebonnaaGreatDoor
end
