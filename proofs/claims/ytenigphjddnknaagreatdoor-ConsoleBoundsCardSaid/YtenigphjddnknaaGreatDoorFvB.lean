/-
  A run of a closed call, made for the kernel's speed: operations in a short form, and what each does. No program in sight.
-/
import Derived.Test.YtenigphjddnknaaGreatDoorFvA
set_option linter.unusedVariables false
namespace Go.Fv
open Go Go.Eva

inductive BF where
  | add | sub | mul | and | or | xor | quo | rem | lt | le | gt | ge | eq | ne
inductive Ci where
  | mov (a : Od)
  | bin (f : BF) (k : IntKind) (M : Nat) (a b : Od) (o : Op)
  | shf (l : Bool) (k : IntKind) (M w : Nat) (a b : Od) (o : Op)
  | nil (a : Od) (o : Op)
  | pick (c a b : Od)
  | cv (k : IntKind) (M : Nat) (a : Od) (o : Op)
  | isn (e sl : Bool) (a : Od) (o : Op)
  | nt (a : Od) (o : Op)
  | idx (len : Nat) (a i : Od)
  | ld (a : Od)
  | ldN (n : Nat) (a : Od)
  | st (a v : Od)
  | stN (n : Nat) (a v : Od)
  | fad (off : Nat) (a : Od)
  | iad (n : Nat) (a i : Od)
  | iaa (len n : Nat) (a i : Od)
  | ext (i : Nat) (a : Od)
  | len (a : Od)
  | q (o : Op)
  | qh (o : Op)
  | al (o : Op)
  | alf (o : Op)
  | box (e : TypeId) (a : Od)
  | call (g : Nat) (as : List Od)
  | cald (c : Call)
  | app (c : Call) (a b : Od)
  | bad
abbrev KV := Value → FH → Nat → Bool
abbrev CallX := Nat → List Value → FH → Nat → KV → Bool
noncomputable def oCells (o : Option AObj) : (List Value → TypeId → Bool → Bool) → Bool := Option.rec (motive := fun _ => (List Value → TypeId → Bool → Bool) → Bool) (fun _ => false) (fun ob f => AObj.rec (motive := fun _ => (List Value → TypeId → Bool → Bool) → Bool) (fun c e r f => f c e r) (fun _ _ _ => false) (fun _ _ => false) ob f) o
theorem oCells_of {o : Option AObj} {f : List Value → TypeId → Bool → Bool} (h : oCells o f = true) : ∃ c e r, o = some (.cells c e r) ∧ f c e r = true := by
  cases o with
  | none => cases h
  | some ob => cases ob with
    | cells c e r => exact ⟨c, e, r, rfl, h⟩
    | map es clk => cases h
    | res x => cases h
noncomputable def yes (b x : Bool) : Bool := Bool.rec (motive := fun _ => Bool) false x b
theorem yes_of {b x : Bool} (h : yes b x = true) : b = true ∧ x = true := by
  cases b
  · cases h
  · exact ⟨rfl, h⟩
noncomputable def ifB (b x y : Bool) : Bool := Bool.rec (motive := fun _ => Bool) y x b
theorem ifB_of {b x y : Bool} (h : ifB b x y = true) : (b = true ∧ x = true) ∨ (b = false ∧ y = true) := by
  cases b
  · exact .inr ⟨rfl, h⟩
  · exact .inl ⟨rfl, h⟩
noncomputable def lenIs (m : Nat) : List Value → Bool := Nat.rec (motive := fun _ => List Value → Bool) (fun l => List.rec (motive := fun _ => Bool) true (fun _ _ _ => false) l) (fun _ ih l => List.rec (motive := fun _ => Bool) false (fun _ l _ => ih l) l) m
theorem lenIs_of : ∀ {m : Nat} {l : List Value}, lenIs m l = true → l.length = m
  | 0, [], _ => rfl
  | 0, _ :: _, h => by cases h
  | _ + 1, [], h => by cases h
  | m + 1, _ :: l, h => by
    have := lenIs_of (m := m) (l := l) h
    simp [this]
/-- A row's spine brought to its plain form. -/
noncomputable def fSp (l : List Value) : (List Value → Bool) → Bool := List.rec (motive := fun _ => (List Value → Bool) → Bool) (fun f => f []) (fun x _ ih f => ih fun l => f (x :: l)) l
theorem fSp_eq : ∀ (l : List Value) (f : List Value → Bool), fSp l f = f l
  | [], _ => rfl
  | x :: l, f => fSp_eq l fun l => f (x :: l)
noncomputable def fOb (ob : AObj) : (AObj → Bool) → Bool := AObj.rec (motive := fun _ => (AObj → Bool) → Bool) (fun c e r f => fL fV c fun c => f (.cells c e r)) (fun es clk f => f (.map es clk)) (fun x f => f (.res x)) ob
theorem fOb_eq (ob : AObj) (f : AObj → Bool) : fOb ob f = f ob := by
  cases ob with
  | cells c e r => exact fL_eq fV_eq c fun c => f (.cells c e r)
  | map es clk => rfl
  | res x => rfl
noncomputable def rdsK (l : List Od) : Rg → (List Value → Bool) → Bool := List.rec (motive := fun _ => Rg → (List Value → Bool) → Bool) (fun _ k => k []) (fun a _ ih R k => rdK a R fun v => ih R fun l => k (v :: l)) l
theorem rdsK_eq : ∀ (l : List Od) (R : Rg) (k : List Value → Bool), rdsK l R k = k (l.map fun a => rd a R)
  | [], _, _ => rfl
  | a :: l, R, k => by
    show rdK a R (fun v => rdsK l R fun l => k (v :: l)) = _
    rw [rdK_eq, rdsK_eq l]
    rfl
/-- A kind's greatest number, and its bits. -/
def mxN : IntKind → Nat
  | .i8 => 127 | .i16 => 32767 | .i32 => 2147483647 | .i64 => 9223372036854775807
  | .u8 => 255 | .u16 => 65535 | .u32 => 4294967295 | .u64 => 18446744073709551615
def wdN : IntKind → Nat
  | .i8 => 8 | .i16 => 16 | .i32 => 32 | .i64 => 64
  | .u8 => 8 | .u16 => 16 | .u32 => 32 | .u64 => 64
/-- A number in range is handed on. -/
noncomputable def inR (kd : IntKind) (M : Nat) (z : Nat) (k : Value → Bool) (s : Bool) : Bool := fN z fun z => ifB (Nat.ble z M) (k (.int kd (.ofNat z))) s
theorem inR_of {kd : IntKind} {M z : Nat} {k : Value → Bool} {s : Bool} (h : inR kd M z k s = true) : (z ≤ M ∧ k (.int kd (.ofNat z)) = true) ∨ s = true := by
  rcases ifB_of (b := Nat.ble z M) h with ⟨h1, h2⟩ | ⟨_, h2⟩
  · exact .inl ⟨by simpa using h1, h2⟩
  · exact .inr h2
noncomputable def two (M x y : Nat) (a s : Bool) : Bool := ifB (Nat.ble x M) (ifB (Nat.ble y M) a s) s
theorem two_of {M x y : Nat} {a s : Bool} (h : two M x y a s = true) : (x ≤ M ∧ y ≤ M ∧ a = true) ∨ s = true := by
  rcases ifB_of h with ⟨h1, h2⟩ | ⟨_, h2⟩
  · rcases ifB_of h2 with ⟨h3, h4⟩ | ⟨_, h4⟩
    · exact .inl ⟨by simpa using h1, by simpa using h3, h4⟩
    · exact .inr h4
  · exact .inr h2
/-- Reckoned on plain numbers, where the answer lies in range. -/
abbrev HB := IntKind → Nat → Nat → Nat → (Value → Bool) → Bool → Bool
noncomputable def bf (f : BF) : HB := BF.rec (motive := fun _ => HB)
  (fun kd M x y k s => inR kd M (Nat.add x y) k s)
  (fun kd M x y k s => ifB (Nat.ble y x) (inR kd M (Nat.sub x y) k s) s)
  (fun kd M x y k s => inR kd M (Nat.mul x y) k s)
  (fun kd M x y k s => two M x y (inR kd M (Nat.land x y) k s) s)
  (fun kd M x y k s => two M x y (inR kd M (Nat.lor x y) k s) s)
  (fun kd M x y k s => two M x y (inR kd M (Nat.xor x y) k s) s)
  (fun kd M x y k s => ifB (Nat.beq y 0) s (inR kd M (Nat.div x y) k s))
  (fun kd M x y k s => ifB (Nat.beq y 0) s (inR kd M (Nat.mod x y) k s))
  (fun _ _ x y k _ => fB (Nat.blt x y) fun b => k (.bool b))
  (fun _ _ x y k _ => fB (Nat.ble x y) fun b => k (.bool b))
  (fun _ _ x y k _ => fB (Nat.blt y x) fun b => k (.bool b))
  (fun _ _ x y k _ => fB (Nat.ble y x) fun b => k (.bool b))
  (fun _ _ x y k _ => fB (Nat.beq x y) fun b => k (.bool b))
  (fun _ _ x y k _ => ifB (Nat.beq x y) (k (.bool false)) (k (.bool true))) f
/-- An append told by what it writes. -/
abbrev Ups := List (Nat × Option AObj)
def upsT : Ups → Tr AObj → Tr AObj
  | [], t => t
  | (B, o) :: l, t => upsT l (t.set B o)
noncomputable def upsH (l : Ups) : FH → (FH → Bool) → Bool := List.rec (motive := fun _ => FH → (FH → Bool) → Bool) (fun H k => k H) (fun x _ ih H k => Prod.rec (motive := fun _ => Bool) (fun B o => fN B fun B => Option.rec (motive := fun _ => Bool) (hput B none H fun H => ih H k) (fun ob => AObj.rec (motive := fun _ => Bool) (fun c e r => fSp c fun c => hput B (some (.cells c e r)) H fun H => ih H k) (fun es clk => hput B (some (.map es clk)) H fun H => ih H k) (fun x => hput B (some (.res x)) H fun H => ih H k) ob) o) x) l
theorem upsH_of : ∀ {l : Ups} {H : FH} {t : Tr AObj} {k : FH → Bool}, HR H t → upsH l H k = true → ∃ H', HR H' (upsT l t) ∧ k H' = true
  | [], H, t, k, hH, h => ⟨H, hH, h⟩
  | (B, o) :: l, H, t, k, hH, h => by
    have h' : hput B o H (fun H => upsH l H k) = true := by
      cases o with
      | none => exact h
      | some ob => cases ob with
        | cells c e r => exact (fSp_eq c fun c => hput B (some (.cells c e r)) H fun H => upsH l H k).symm.trans h
        | map es clk => exact h
        | res x => exact h
    obtain ⟨H', h1, h2⟩ := hput_of hH h'
    exact upsH_of (l := l) (H := H') (t := t.set B o) (k := k) h1 h2
section
variable (P : Program)
def firstG (get : Nat → Option AObj) (size n : Nat) : Value → Option (List Value)
  | .slice (some ⟨B, o, none⟩) len _ => match Nat.beq n 0 with
    | true => some []
    | false => match Nat.ble n len, get B with
      | true, some (.cells c _ _) => readCells c o (n * size)
      | _, _ => none
  | .slice none 0 0 => some []
  | .slice none 0 1 => (match Nat.beq n 0 with | true => some [] | false => none)
  | .string s => some ((s.extract 0 n).data.toList.map fun b => .int .u8 b.toNat)
  | _ => none
def newsG (get : Nat → Option AObj) (size : Nat) (z : List Value) (xt : TypeId) (x : Value) : Option (Nat × List Value) :=
  match P.underlying xt, x with
  | some (.int _), .int _ (.ofNat n) => (match Nat.ble n 1000000 with | true => some (n, rep z n) | false => none)
  | some (.int _), _ => none
  | _, _ => match srcB P xt, lenV x with
    | true, some n => (firstG get size n x).map fun l => (n, l)
    | _, _ => none
def appG (get : Nat → Option AObj) (next : Nat) (e : TypeId) (size n : Nat) (new : List Value) : Value → Option (Value × Ups × Nat)
    | .slice none 0 0 => match n with
      | 0 => some (.slice none 0 0, [], next)
      | n + 1 => some (.slice (some ⟨next, 0, none⟩) (n + 1) 0, [(next, some (.cells new e true))], next + 1)
    | .slice (some ⟨B, o, none⟩) len (cap + 1) => match Nat.ble (len + n) cap with
      | true => match get B with
        | some (.cells c e' true) => match has (c.drop (o + len * size)) new.length && Nat.ble (o + len * size) c.length with
          | true => some (.slice (some ⟨B, o, none⟩) (len + n) (cap + 1), [(B, some (.cells (spl c (o + len * size) new) e' true))], next)
          | false => none
        | _ => none
      | false => match firstG get size len (.slice (some ⟨B, o, none⟩) len (cap + 1)), Nat.ble len 1000000 with
        | some old, true => some (.slice (some ⟨next, 0, none⟩) (len + n) 0, [(next, some (.cells (old ++ new) e true))], next + 1)
        | _, _ => none
    | .slice (some ⟨B, 0, none⟩) len 0 => match n, get B with
      | 0, _ => some (.slice (some ⟨B, 0, none⟩) len 0, [], next)
      | n + 1, some (.cells c e' true) => match Nat.beq e e' && has c (len * size) && Nat.ble len 1000000 with
        | true => some (.slice (some ⟨next, 0, none⟩) (len + (n + 1)) 0, [(B, none), (next, some (.cells (c.take (len * size) ++ new) e true))], next + 1)
        | false => none
      | _, _ => none
    | _ => none
def appendG (get : Nat → Option AObj) (next : Nat) (ts : List TypeId) (s x : Value) : Option (Value × Ups × Nat) :=
  match ts with
  | [st, xt] => match P.underlying st with
    | some (.slice e) => match sizeB P e, plainZero P e with
      | some (size + 1), some z => match newsG P get (size + 1) z xt x with
        | some (n, new) => match new.all oneB && Nat.beq new.length (n * (size + 1)) && Nat.beq z.length (size + 1) && Nat.ble n 1000000 && Nat.ble (((P.info? e).map (·.bytes)).getD 10000000) 1000000 with
          | true => appG get next e (size + 1) n new s
          | false => none
        | none => none
      | _, _ => none
    | _ => none
  | _ => none
theorem firstG_eq (H : Tr AObj) (size n : Nat) (v : Value) : firstB H size n v = firstG H.at_ size n v := by
  unfold firstB firstG; rfl
theorem newsG_eq (H : Tr AObj) (size : Nat) (z : List Value) (xt : TypeId) (x : Value) : newsB P H size z xt x = newsG P H.at_ size z xt x := by
  unfold newsB newsG; simp only [firstG_eq]
  rfl
theorem appG_eq (h : Hp) (e : TypeId) (size n : Nat) (new : List Value) (s : Value) : appendB.app h e size n new s = (appG h.t.at_ h.next e size n new s).map fun r => (r.1, ⟨upsT r.2.1 h.t, r.2.2⟩) := by
  cases s with
  | slice a len cap =>
    cases a with
    | none => cases len <;> cases cap <;> cases n <;> rfl
    | some a =>
      obtain ⟨B, o, sp⟩ := a
      cases sp with
      | some i => cases cap <;> cases o <;> rfl
      | none =>
        cases cap with
        | zero =>
          cases o with
          | succ o => rfl
          | zero =>
            cases n with
            | zero => simp only [appendB.app, appG]; rfl
            | succ n =>
              simp only [appendB.app, appG]
              cases h.t.at_ B with
              | none => rfl
              | some ob => cases ob with
                | cells c e' rw_ => cases rw_ with
                  | false => rfl
                  | true =>
                    simp only
                    cases Nat.beq e e' && has c (len * size) && Nat.ble len 1000000 <;> rfl
                | map es clk => rfl
                | res x => rfl
        | succ cap =>
          simp only [appendB.app, appG, firstG_eq]
          cases Nat.ble (len + n) cap with
          | true =>
            simp only
            cases h.t.at_ B with
            | none => rfl
            | some ob => cases ob with
              | cells c e' rw_ => cases rw_ with
                | false => rfl
                | true =>
                  simp only
                  cases has (c.drop (o + len * size)) new.length && Nat.ble (o + len * size) c.length <;> rfl
              | map es clk => rfl
              | res x => rfl
          | false =>
            simp only
            cases firstG h.t.at_ size len (.slice (some ⟨B, o, none⟩) len (cap + 1)) with
            | none => rfl
            | some old => cases Nat.ble len 1000000 <;> rfl
  | _ => rfl
theorem appendG_eq (h : Hp) (ts : List TypeId) (s x : Value) : appendB P h ts s x = (appendG P h.t.at_ h.next ts s x).map fun r => (r.1, ⟨upsT r.2.1 h.t, r.2.2⟩) := by
  unfold appendB appendG
  rcases ts with _ | ⟨st, _ | ⟨xt, _ | ⟨_, _⟩⟩⟩
  · rfl
  · rfl
  · simp only
    cases P.underlying st with
    | none => rfl
    | some d =>
      cases d <;> try rfl
      rename_i e
      simp only
      cases sizeB P e with
      | none => rfl
      | some k =>
        cases k with
        | zero => rfl
        | succ size =>
          cases plainZero P e with
          | none => rfl
          | some z =>
            simp only [newsG_eq]
            cases newsG P h.t.at_ (size + 1) z xt x with
            | none => rfl
            | some r =>
              obtain ⟨n, new⟩ := r
              simp only
              cases new.all oneB && Nat.beq new.length (n * (size + 1)) && Nat.beq z.length (size + 1) && Nat.ble n 1000000 && Nat.ble (((P.info? e).map (·.bytes)).getD 10000000) 1000000 with
              | false => rfl
              | true => exact appG_eq _ _ _ _ _ _
  · rfl
end
end Go.Fv
