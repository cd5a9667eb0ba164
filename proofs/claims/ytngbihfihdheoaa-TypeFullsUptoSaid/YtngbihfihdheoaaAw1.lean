/-
  AW, PART 1. Values of Go as plain data ('V'), a frame ('Env'), the memory that may be written ('St'), and the conditions that a piece of code asks ('awp').
  No program is named here. What is asked is sound: Aw2, Aw3.
-/
import Derived.Tactics
import Derived.Laws.Cells
set_option linter.unusedVariables false
namespace Go.Aw
open Go

/-- who may append to a row: nobody; whoever does makes a new one; the row of a block, while it ends where the block's known part does -/
inductive Own where
  | any | full | tok (b : Nat)

inductive V where
  | junk
  | bool (b : Bool)
  | int (k : IntKind) (n : Int)
  | str (s : List UInt8)
  | agg (cs : List V)
  | tup (vs : List V)
  | slice (sz : Nat) (es : List (List V)) (own : Own)
  | ptr (b : Nat) (off : Nat)
  | lptr (id : Nat) (off : Nat)
  | eptr (e : List V) (off : Nat)
  | nilp
  | func (f : FuncId) (first captured : List V)
  | nilf
  | iface (t : TypeId) (v : V)
  | nili

def V.cells : V → List V
  | .agg cs => cs
  | v => [v]

/-- fits one cell -/
def V.sc : V → Bool
  | .junk | .agg _ | .tup _ => false
  | _ => true

/-- no pointer to a box of the frame's own -/
def V.plain : V → Bool
  | .lptr _ _ => false
  | _ => true
/-- plain, and something is known of it -/
def V.known : V → Bool
  | .lptr _ _ | .junk => false
  | _ => true

/-- whatever is told of who may append, struck -/
def V.wk0 : V → V
  | .slice sz es _ => .slice sz es .any
  | v => v
def V.wk1 : V → V
  | .slice sz es _ => .slice sz es .any
  | .agg cs => .agg (cs.map V.wk0)
  | v => v
def V.wk : V → V
  | .slice sz es _ => .slice sz es .any
  | .agg cs => .agg (cs.map V.wk0)
  | .tup vs => .tup (vs.map V.wk1)
  | v => v

structure St where
  box : Nat → Option (List V)
  hw : Nat → Option Nat

def St.setBox (st : St) (b : Nat) (cs : List V) : St := { st with box := fun x => if x = b then some cs else st.box x }
def St.setHw (st : St) (b : Nat) (h : Nat) : St := { st with hw := fun x => if x = b then some h else st.hw x }
def St.dropHw (st : St) (b : Nat) : St := { st with hw := fun x => if x = b then none else st.hw x }
def St.fresh (st : St) (b : Nat) : Prop := st.box b = none ∧ st.hw b = none
/-- no more is known in the first than in the second -/
def St.le (a b : St) : Prop := (∀ x cs, a.box x = some cs → b.box x = some cs) ∧ ∀ x h, a.hw x = some h → b.hw x = some h
theorem St.le_refl (a : St) : a.le a := ⟨fun _ _ h => h, fun _ _ h => h⟩
theorem St.le_setBox {a b : St} (h : a.le b) {x : Nat} (hx : a.box x = none) (cs : List V) : a.le (b.setBox x cs) :=
  ⟨fun y c hy => by
    simp only [St.setBox]
    split
    · rename_i e; subst e; rw [hx] at hy; cases hy
    · exact h.1 y c hy, h.2⟩
theorem St.le_setHw {a b : St} (h : a.le b) {x : Nat} (hx : a.hw x = none) (n : Nat) : a.le (b.setHw x n) :=
  ⟨h.1, fun y c hy => by
    simp only [St.setHw]
    split
    · rename_i e; subst e; rw [hx] at hy; cases hy
    · exact h.2 y c hy⟩
theorem St.le_trans {a b c : St} (h : a.le b) (k : b.le c) : a.le c := ⟨fun x cs hx => k.1 x cs (h.1 x cs hx), fun x n hx => k.2 x n (h.2 x n hx)⟩

/-- what is known of a type -/
inductive Ty where
  | sc (z : V)
  | slice (elem : TypeId) (sz bytes : Nat)
  | struct (offs : List (Nat × Nat)) (zero : List V)

def Ty.zero : Ty → V
  | .sc z => z
  | .slice _ sz _ => .slice sz [] .full
  | .struct _ z => .agg z

noncomputable def assoc {α : Type} (l : List (Nat × α)) (t : Nat) : Option α :=
  List.rec (motive := fun _ => Option α) none (fun p _ ih => Bool.rec (motive := fun _ => Option α) ih (some p.2) (Nat.beq p.1 t)) l
theorem assoc_nil {α : Type} (t : Nat) : assoc ([] : List (Nat × α)) t = none := rfl
theorem assoc_cons {α : Type} (k : Nat) (v : α) (r : List (Nat × α)) (t : Nat) : assoc ((k, v) :: r) t = bif Nat.beq k t then some v else assoc r t := by
  show Bool.rec (motive := fun _ => Option α) (assoc r t) (some v) (Nat.beq k t) = _
  cases Nat.beq k t <;> rfl

/-- a frame: its slots, the boxes that it alone points to, the next box's number, how many slots there are -/
structure Env where
  tmps : List (Nat × V)
  boxes : List (Nat × List V)
  nxt : Nat
  sz : Nat
  gl : List Nat

noncomputable def Env.get (e : Env) (t : Nat) : V := match assoc e.tmps t with | some v => v | none => .junk

def isNilSlice : Operand → Bool
  | .const (.slice none 0 0) => true
  | _ => false

def absConst : Value → V
  | .bool b => .bool b
  | .int k n => .int k n
  | .string ⟨⟨l⟩⟩ => match Nat.blt l.length 4611686018427387904 with | true => .str l | false => .junk
  | .nilFunc => .nilf
  | .nilIface => .nili
  | .pointer none => .nilp
  | _ => .junk

noncomputable def Env.eval (e : Env) : Operand → V
  | .tmp t => e.get t
  | .const v => absConst v
  | .func f => .func f [] []
  | .global _ => .junk

section
variable (T : List (Nat × Ty))

/-- an operand's value, of a type -/
noncomputable def Env.evalT (e : Env) (t : TypeId) (x : Operand) : V :=
  match isNilSlice x with
  | true => match assoc T t with
    | some (.slice _ sz _) => .slice sz [] .full
    | _ => .junk
  | false => e.eval x
end

/-- the way of a truth value that is known -/
def lit (b : Bool) (p q : Prop) : Prop := match b with | true => p | false => q

/-- a plain look, which comes out as it should -/
def chk (b : Bool) (p : Prop) : Prop := match b with | true => p | false => False
theorem chk_intro {b : Bool} {p : Prop} (h : b = true) (k : p) : chk b p := by subst h; exact k
theorem chk_iff {b : Bool} {p : Prop} : chk b p ↔ b = true ∧ p := by cases b <;> simp [chk]

/-- a truth value that parts the way -/
inductive bcase (b : Bool) (p q : Prop) : Prop where
  | mk : (b = true → p) → (b = false → q) → bcase b p q
theorem bcase_intro {b : Bool} {p q : Prop} (h : b = true → p) (k : b = false → q) : bcase b p q := .mk h k
theorem bcase_true_iff {p q : Prop} : bcase true p q ↔ p := ⟨fun ⟨h, _⟩ => h rfl, fun h => .mk (fun _ => h) (fun e => by cases e)⟩
theorem bcase_false_iff {p q : Prop} : bcase false p q ↔ q := ⟨fun ⟨_, h⟩ => h rfl, fun h => .mk (fun e => by cases e) (fun _ => h)⟩
theorem bcase_true {p q : Prop} (h : p) : bcase true p q := bcase_true_iff.2 h
theorem bcase_false {p q : Prop} (h : q) : bcase false p q := bcase_false_iff.2 h

/-- a value, laid open; a truth value parts the way -/
def V.force (v : V) (K : V → Prop) : Prop :=
  match v with
  | .junk => K .junk
  | .bool b => K (.bool b)
  | .int k n => K (.int k n)
  | .str s => K (.str s)
  | .agg cs => K (.agg cs)
  | .tup vs => K (.tup vs)
  | .slice sz es o => K (.slice sz es o)
  | .ptr b o => K (.ptr b o)
  | .lptr b o => K (.lptr b o)
  | .eptr b o => K (.eptr b o)
  | .nilp => K .nilp
  | .func f a c => K (.func f a c)
  | .nilf => K .nilf
  | .iface t v => K (.iface t v)
  | .nili => K .nili
theorem V.force_iff {v : V} {K : V → Prop} : v.force K ↔ K v := by
  cases v <;> exact Iff.rfl
/-- the same; a truth value parts the way -/
def V.part (v : V) (K : V → Prop) : Prop :=
  match v with
  | .bool b => bcase b (K (.bool true)) (K (.bool false))
  | v => v.force K
theorem V.part_iff {v : V} {K : V → Prop} : v.part K ↔ K v := by
  cases v with
  | bool b => cases b <;> first | exact bcase_false_iff | exact bcase_true_iff
  | _ => simp only [V.part, V.force_iff]
def partL (l : List V) : (List V → Prop) → Prop :=
  List.rec (motive := fun _ => (List V → Prop) → Prop) (fun K => K []) (fun v _ ih K => v.part fun v => ih fun r => K (v :: r)) l
theorem partL_cons (v : V) (r : List V) (K : List V → Prop) : partL (v :: r) K = v.part fun v => partL r fun r => K (v :: r) := rfl
theorem partL_iff : ∀ {l : List V} {K : List V → Prop}, partL l K ↔ K l
  | [], _ => Iff.rfl
  | v :: r, K => by rw [partL_cons, V.part_iff, partL_iff]
/-- what a call hands back: each truth value in it parts the way -/
def V.back (v : V) (K : V → Prop) : Prop :=
  match v with
  | .tup vs => partL vs fun vs => K (.tup vs)
  | v => v.part K
theorem V.back_iff {v : V} {K : V → Prop} : v.back K ↔ K v := by
  cases v with
  | tup vs => exact partL_iff
  | _ => simp only [V.back, V.part_iff]

/-- a list of values, laid open one by one -/
def forceL (l : List V) : (List V → Prop) → Prop :=
  List.rec (motive := fun _ => (List V → Prop) → Prop) (fun K => K []) (fun v _ ih K => v.force fun v => ih fun r => K (v :: r)) l
theorem forceL_cons (v : V) (r : List V) (K : List V → Prop) : forceL (v :: r) K = v.force fun v => forceL r fun r => K (v :: r) := rfl
theorem forceL_iff : ∀ {l : List V} {K : List V → Prop}, forceL l K ↔ K l
  | [], _ => Iff.rfl
  | v :: r, K => by rw [forceL_cons, V.force_iff, forceL_iff]

/-- the same of rows of cells -/
def forceLL (l : List (List V)) : (List (List V) → Prop) → Prop :=
  List.rec (motive := fun _ => (List (List V) → Prop) → Prop) (fun K => K []) (fun v _ ih K => forceL v fun v => ih fun r => K (v :: r)) l
theorem forceLL_cons (v : List V) (r : List (List V)) (K : List (List V) → Prop) : forceLL (v :: r) K = forceL v fun v => forceLL r fun r => K (v :: r) := rfl
theorem forceLL_iff : ∀ {l : List (List V)} {K : List (List V) → Prop}, forceLL l K ↔ K l
  | [], _ => Iff.rfl
  | v :: r, K => by rw [forceLL_cons, forceL_iff, forceLL_iff]

inductive Res where
  | ret (v : V)
  | pan (v : V)

inductive AExit where
  | normal | exit (id : Nat) | goto (l : Nat) | ret | pan (v : V)

/-- how long a text or a row may be -/
def lim : Nat := 4611686018427387904

def evs (env : Env) (l : List Operand) : (List V → Prop) → Prop :=
  List.rec (motive := fun _ => (List V → Prop) → Prop) (fun K => K []) (fun x _ ih K => (env.eval x).force fun v => chk v.plain (ih fun vs => K (v :: vs))) l
theorem evs_cons (env : Env) (x : Operand) (r : List Operand) (K : List V → Prop) : evs env (x :: r) K = (env.eval x).force fun v => chk v.plain (evs env r fun vs => K (v :: vs)) := rfl

section
variable (T : List (Nat × Ty))
def evsT (env : Env) (ts : List TypeId) (l : List Operand) : (List V → Prop) → Prop :=
  List.rec (motive := fun _ => List TypeId → (List V → Prop) → Prop) (fun _ K => K [])
    (fun x _ ih ts K => (env.evalT T (ts.headD 0) x).force fun v => chk v.plain (ih ts.tail fun vs => K (v :: vs))) l ts
theorem evsT_cons (env : Env) (ts : List TypeId) (x : Operand) (r : List Operand) (K : List V → Prop) :
    evsT T env ts (x :: r) K = (env.evalT T (ts.headD 0) x).force fun v => chk v.plain (evsT T env ts.tail r fun vs => K (v :: vs)) := rfl
end

def cellEq (x y : V) (yes no : Prop) : Prop :=
  match x, y with
  | .int _ a, .int _ b => bcase (a == b) yes no
  | .str a, .str b => bcase (a == b) yes no
  | _, _ => False

def bin (op : BinOp) (x y : V) (K : V → Prop) : Prop :=
  match x, y with
  | .int k a, .int k' b =>
    chk (decide (k = k')) (match op with
    | .add => ∃ r, r = k.wrap (a + b) ∧ K (.int k r)
    | .sub => ∃ r, r = k.wrap (a - b) ∧ K (.int k r)
    | .mul => ∃ r, r = k.wrap (a * b) ∧ K (.int k r)
    | .quo => b ≠ 0 ∧ ∃ r, r = k.wrap (a.tdiv b) ∧ K (.int k r)
    | .rem => b ≠ 0 ∧ K (.int k (a.tmod b))
    | .eql => bcase (a == b) (K (.bool true)) (K (.bool false))
    | .neq => bcase (a == b) (K (.bool false)) (K (.bool true))
    | .lss => bcase (decide (a < b)) (K (.bool true)) (K (.bool false))
    | .leq => bcase (decide (a ≤ b)) (K (.bool true)) (K (.bool false))
    | .gtr => bcase (decide (b < a)) (K (.bool true)) (K (.bool false))
    | .geq => bcase (decide (b ≤ a)) (K (.bool true)) (K (.bool false))
    | _ => False)
  | .str a, .str b =>
    match op with
    | .add => a.length + b.length < lim ∧ K (.str (a ++ b))
    | .eql => bcase (a == b) (K (.bool true)) (K (.bool false))
    | .neq => bcase (a == b) (K (.bool false)) (K (.bool true))
    | _ => False
  | _, _ => False

/-- two cells of one kind -/
def cellB (z x y : V) : Option Bool :=
  match z, x, y with
  | .int _ _, .int k a, .int k' b => bif decide (k = k') then some (a == b) else none
  | .str _, .str a, .str b => some (a == b)
  | .bool _, .bool a, .bool b => some (a == b)
  | _, _, _ => none
noncomputable def eqsB (z : List V) : List V → List V → Option Bool :=
  List.rec (motive := fun _ => List V → List V → Option Bool) (fun xs ys => match xs, ys with | [], [] => some true | _, _ => none)
    (fun z _ ih xs ys => match xs, ys with
      | x :: xs, y :: ys => match cellB z x y, ih xs ys with
        | some a, some b => some (a && b)
        | _, _ => none
      | _, _ => none) z
theorem eqsB_cons (z : V) (r xs ys : List V) : eqsB (z :: r) xs ys = match xs, ys with
      | x :: xs, y :: ys => match cellB z x y, eqsB r xs ys with
        | some a, some b => some (a && b)
        | _, _ => none
      | _, _ => none := rfl
def flatB (z : List V) : Bool := z.all fun | .int _ _ | .str _ | .bool _ => true | _ => false
def isNilIface : Operand → Bool
  | .const .nilIface => true
  | _ => false
/-- held against nil -/
def nilCmp (op : BinOp) (ty : Option Ty) (v : V) (K : V → Prop) : Prop :=
  match ty with
  | some (.sc .nili) => match op, v with
    | .eql, .nili => K (.bool true)
    | .eql, .iface _ _ => K (.bool false)
    | .neq, .nili => K (.bool false)
    | .neq, .iface _ _ => K (.bool true)
    | _, _ => False
  | _ => False
/-- a row held against nil -/
def nilSl (op : BinOp) (ty : Option Ty) (v : V) (K : V → Prop) : Prop :=
  match ty with
  | some (.slice _ _ _) => match op, v with
    | .eql, .slice _ es _ => ∀ b : Bool, (b = true → es = []) → K (.bool b)
    | .neq, .slice _ es _ => ∀ b : Bool, (b = false → es = []) → K (.bool b)
    | _, _ => False
  | _ => False
/-- two structs -/
def aggCmp (op : BinOp) (ty : Option Ty) (xs : List V) (y : V) (K : V → Prop) : Prop :=
  match ty, y with
  | some (.struct _ z), .agg ys => chk (flatB z) (match eqsB z xs ys with
    | some b => match op with
      | .eql => bcase b (K (.bool true)) (K (.bool false))
      | .neq => bcase b (K (.bool false)) (K (.bool true))
      | _ => False
    | none => False)
  | _, _ => False
def binT (op : BinOp) (ty : Option Ty) (x y : V) (K : V → Prop) : Prop :=
  match x with
  | .agg xs => aggCmp op ty xs y K
  | x => bin op x y K

/-- what is read in a row of cells from one on -/
def loadFrom (cs : List V) (off : Nat) (ty : Option Ty) (K : V → Prop) : Prop :=
  match ty with
  | some (.struct _ z) =>
    match Nat.beq off 0 && Nat.beq z.length cs.length with
    | true => K (.agg cs)
    | false => chk (Nat.ble (off + z.length) cs.length) (forceL ((cs.drop off).take z.length) fun l => K (.agg l))
  | some _ => match cs[off]? with | some v => v.force K | none => False
  | none => False

/-- cells written from one on -/
def storeTo (cs : List V) (off : Nat) (new : List V) (K : List V → Prop) : Prop :=
  chk (Nat.ble (off + new.length) cs.length) (chk (new.all V.sc) (forceL (cs.take off ++ new ++ cs.drop (off + new.length)) K))

/-- a struct's parts, laid over its zeros -/
def fillV (offs : List (Nat × Nat)) (cs : List V) (l : List (Nat × V)) : (List V → Prop) → Prop :=
  List.rec (motive := fun _ => List V → (List V → Prop) → Prop) (fun cs K => forceL cs K) (fun p _ ih cs K => match offs[p.1]? with
    | some (off, size) => chk (Nat.beq p.2.cells.length size) (chk (Nat.ble (off + size) cs.length) (ih (cs.take off ++ p.2.cells ++ cs.drop (off + size)) K))
    | none => False) l cs
theorem fillV_cons (offs : List (Nat × Nat)) (cs : List V) (i : Nat) (v : V) (r : List (Nat × V)) (K : List V → Prop) : fillV offs cs ((i, v) :: r) K = (match offs[i]? with
    | some (off, size) => chk (Nat.beq v.cells.length size) (chk (Nat.ble (off + size) cs.length) (fillV offs (cs.take off ++ v.cells ++ cs.drop (off + size)) r K))
    | none => False) := rfl

def evParts (env : Env) (l : List (Nat × Operand)) : (List (Nat × V) → Prop) → Prop :=
  List.rec (motive := fun _ => (List (Nat × V) → Prop) → Prop) (fun K => K []) (fun p _ ih K => (env.eval p.2).force fun v => chk v.known (ih fun vs => K ((p.1, v) :: vs))) l
theorem evParts_cons (env : Env) (i : Nat) (x : Operand) (r : List (Nat × Operand)) (K : List (Nat × V) → Prop) :
    evParts env ((i, x) :: r) K = (env.eval x).force fun v => chk v.known (evParts env r fun vs => K ((i, v) :: vs)) := rfl

def seqFrom : Nat → List (Nat × Operand) → Bool
  | _, [] => true
  | n, (i, _) :: r => Nat.beq i n && seqFrom (n + 1) r

def Env.isGl (e : Env) (d : Option Nat) : Bool := match d with | some t => e.gl.any (Nat.beq t) | none => false

/-- a new variable: a box of the frame's own, or one that may be handed on -/
def newBox (env : Env) (st : St) (d : Option Nat) (cs : List V) (K : V → Env → St → Prop) : Prop :=
  match env.isGl d with
  | true => forceL cs fun cs => ∀ b, st.fresh b → K (.ptr b 0) env (st.setBox b cs)
  | false => forceL cs fun cs => match env with
    | ⟨ts, bs, n, sz, gl⟩ => K (.lptr n 0) ⟨ts, (n, cs) :: bs, n + 1, sz, gl⟩ st

/-- a row with more behind it -/
def appendTo (sz bytes : Nat) (es : List (List V)) (own : Own) (new : List (List V)) (st : St) (K : V → St → Prop) : Prop :=
  (es.length + new.length) * bytes ≤ 140737488355328 ∧ es.length + new.length < lim ∧ chk (new.all fun v => v.all V.sc) (
  match own with
  | .any => False
  | .full => (new = [] → K (.slice sz es .full) st) ∧
      (new ≠ [] → ∀ b, st.fresh b → K (.slice sz (es ++ new.map (·.map V.wk0)) (.tok b)) (st.setHw b ((es.length + new.length) * sz)))
  | .tok b => st.hw b = some (es.length * sz) ∧
      ∀ b', (b' = b ∨ st.fresh b') → K (.slice sz (es ++ new.map (·.map V.wk0)) (.tok b')) ((st.dropHw b).setHw b' ((es.length + new.length) * sz)))

/-- what a frame holds of a row that it makes: nothing yet, or a block that nobody else knows -/
def Own.st (st : St) (n : Nat) : Own → St
  | .tok b => st.setHw b n
  | _ => st
def Own.good (st : St) : Own → Prop
  | .full => True
  | .tok b => st.fresh b
  | .any => False
theorem appendTo_own {sz bytes : Nat} {es : List (List V)} {own : Own} {new : List (List V)} {st : St} {K : V → St → Prop} (h : own.good st)
    (h1 : (es.length + new.length) * bytes ≤ 140737488355328) (h2 : es.length + new.length < lim) (h3 : (new.all fun v => v.all V.sc) = true)
    (k : ∀ own' : Own, own'.good st → K (.slice sz (es ++ new.map (·.map V.wk0)) own') (own'.st st ((es.length + new.length) * sz))) :
    appendTo sz bytes es own new (own.st st (es.length * sz)) K := by
  refine ⟨h1, h2, chk_intro h3 ?_⟩
  cases own with
  | any => exact h.elim
  | full => exact ⟨fun e => by have := k .full trivial; subst e; simpa using this, fun _ b hb => k (.tok b) hb⟩
  | tok b =>
    refine ⟨by simp [Own.st, St.setHw], fun b' hb' => ?_⟩
    have hf : st.fresh b := h
    have e : (st.setHw b (es.length * sz)).dropHw b = st := by
      cases st
      simp only [St.setHw, St.dropHw, St.mk.injEq, true_and]
      funext x
      split
      · rename_i e; subst e; exact hf.2.symm
      · rfl
    show K _ (((st.setHw b (es.length * sz)).dropHw b).setHw b' _)
    rw [e]
    refine k (.tok b') ?_
    rcases hb' with rfl | hb'
    · exact hf
    · refine ⟨hb'.1, ?_⟩
      have := hb'.2
      simp only [Own.st, St.setHw] at this
      split at this
      · cases this
      · exact this
theorem Own.good_le {st : St} {own : Own} {n : Nat} (h : own.good st) : st.le (own.st st n) := by
  cases own with
  | any => exact h.elim
  | full => exact St.le_refl _
  | tok b => exact St.le_setHw (St.le_refl _) (show st.fresh b from h).2 n

section
variable (P : Program) (T : List (Nat × Ty)) (C : FuncId → List V → St → (Res → St → Prop) → Prop)

/-- one operation -/
def opWp (o : Oper) (env : Env) (st : St) (K : V → Env → St → Prop) (Q : AExit → Env → St → Prop) : Prop :=
  match o.op with
  | .move x | .assign x => (env.evalT T o.type x).force fun v => K v env st
  | .pick c a b => match env.eval c with
    | .bool t => lit t ((env.evalT T o.type a).force fun v => K v env st) ((env.evalT T o.type b).force fun v => K v env st)
    | _ => False
  | .alloc t => match assoc T t with
    | some ty => newBox env st o.dst ty.zero.cells K
    | none => False
  | .box t x => (env.evalT T t x).force fun v => chk v.known (newBox env st o.dst v.cells K)
  | .build t parts => match assoc T t with
    | some (.struct offs z) => evParts env parts.toList fun ps => fillV offs z ps fun cs => K (.agg cs) env st
    | _ => False
  | .buildSlice t len parts => match assoc T t with
    | some (.slice _ sz _) => chk (seqFrom 0 parts.toList) (chk (Nat.beq len parts.toList.length) (chk (Nat.ble (len * sz) 16777216)
      (evs env (parts.toList.map (·.2)) fun vs => chk (vs.all fun v => v.known && Nat.beq v.cells.length sz) (forceLL (vs.map fun v => v.cells.map V.wk0) fun es => K (.slice sz es .full) env st))))
    | _ => False
  | .load t x => match env.eval x with
    | .lptr id off => match assoc env.boxes id with
      | some cs => loadFrom cs off (assoc T t) (fun v => K v env st)
      | none => False
    | .ptr b off => ∃ cs, st.box b = some cs ∧ loadFrom cs off (assoc T t) (fun v => K v env st)
    | .eptr e off => loadFrom e off (assoc T t) (fun v => K v env st)
    | _ => False
  | .store t x y => match env.eval x with
    | .lptr id off => match assoc env.boxes id, assoc T t with
      | some cs, some ty => match env with
        | ⟨ts, bs, n, sz, gl⟩ => (Env.evalT T ⟨ts, bs, n, sz, gl⟩ t y).force fun v => chk (v.known && Nat.beq v.cells.length ty.zero.cells.length)
          (storeTo cs off v.cells fun cs' => K .junk ⟨ts, (id, cs') :: bs, n, sz, gl⟩ st)
      | _, _ => False
    | .ptr b off => match assoc T t with
      | some ty => ∃ cs, st.box b = some cs ∧ (env.evalT T t y).force fun v => chk (v.known && Nat.beq v.cells.length ty.zero.cells.length)
          (storeTo cs off v.cells fun cs' => K .junk env (st.setBox b cs'))
      | none => False
    | _ => False
  | .nilCheck x => match env.eval x with
    | .lptr id off => K (.lptr id off) env st
    | .ptr b off => K (.ptr b off) env st
    | .eptr e off => K (.eptr e off) env st
    | _ => False
  | .fieldAddr t x f => match assoc T t, env.eval x with
    | some (.struct offs _), .lptr id off => match offs[f]? with | some (o, s) => chk (Nat.blt 0 s) (K (.lptr id (off + o)) env st) | none => False
    | some (.struct offs _), .ptr b off => match offs[f]? with | some (o, s) => chk (Nat.blt 0 s) (K (.ptr b (off + o)) env st) | none => False
    | some (.struct offs _), .eptr e off => match offs[f]? with | some (o, s) => chk (Nat.blt 0 s) (K (.eptr e (off + o)) env st) | none => False
    | _, _ => False
  | .binOp op t x y _ => match isNilIface y with
    | true => nilCmp op (assoc T t) (env.eval x) fun v => K v env st
    | false => match isNilSlice y with
      | true => nilSl op (assoc T t) (env.eval x) fun v => K v env st
      | false => binT op (assoc T t) (env.eval x) (env.eval y) fun v => K v env st
  | .makeInterface t x => match assoc T t with
    | some (.sc .nili) => False
    | some _ => (env.evalT T t x).force fun v => chk v.known (K (.iface t v) env st)
    | none => False
  | .typeAssert x _ t ok => match assoc T t with
    | some (.sc .nili) => False
    | some ty => match env.eval x with
      | .iface t' v => bif Nat.beq t' t then chk v.known (bif ok then K (.tup [v, .bool true]) env st else v.force fun v => K v env st) else chk ok (K (.tup [ty.zero, .bool false]) env st)
      | .nili => chk ok (K (.tup [ty.zero, .bool false]) env st)
      | _ => False
    | none => False
  | .panic x => match env.eval x with
    | .iface t v => Q (.pan (.iface t v)) env st
    | _ => False
  | .slice t x lo (some hi) (some mx) => match assoc T t, env.eval x with
    | some (.slice _ sz' _), .slice sz es _ =>
      match (lo.map env.eval).getD (.int .i64 0), env.eval hi, env.eval mx with
      | .int _ l, .int _ h, .int _ m => chk (Nat.beq sz' sz) ((0 ≤ l ∧ l ≤ h ∧ h = m ∧ m ≤ es.length) ∧ ∀ es', es' = (es.take h.toNat).drop l.toNat → K (.slice sz es' .full) env st)
      | _, _, _ => False
    | _, _ => False
  | .unOp op _ x => match op, env.eval x with
    | .not, .bool b => lit b (K (.bool false) env st) (K (.bool true) env st)
    | .neg, .int k n => ∃ r, r = k.wrap (0 - n) ∧ K (.int k r) env st
    | _, _ => False
  | .makeFunc (.func f) first cap => evs env first.toList fun a => evs env cap.toList fun c => K (.func f a c) env st
  | .indexAddr t x i => match assoc T t, env.eval x, env.eval i with
    | some (.slice _ sz' _), .slice sz es _, .int _ n => chk (Nat.beq sz' sz) (0 ≤ n ∧ ∃ e, es[n.toNat]? = some e ∧ K (.eptr e 0) env st)
    | _, _, _ => False
  | .index t x i => match assoc T t, env.eval x, env.eval i with
    | some (.sc (.str _)), .str s, .int _ n => 0 ≤ n ∧ ∃ e, s[n.toNat]? = some e ∧ K (.int .u8 e.toNat) env st
    | _, _, _ => False
  | .slice t x lo hi none => match assoc T t, env.eval x with
    | some (.slice _ sz' _), .slice sz es _ =>
      match (lo.map env.eval).getD (.int .i64 0), (hi.map env.eval).getD (.int .i64 es.length) with
      | .int _ l, .int _ h => chk (Nat.beq sz' sz) ((0 ≤ l ∧ l ≤ h ∧ h ≤ es.length) ∧ ∀ es', es' = (es.take h.toNat).drop l.toNat → K (.slice sz es' .any) env st)
      | _, _ => False
    | some (.sc (.str _)), .str s =>
      match (lo.map env.eval).getD (.int .i64 0), (hi.map env.eval).getD (.int .i64 s.length) with
      | .int _ l, .int _ h => (0 ≤ l ∧ l ≤ h ∧ h ≤ s.length) ∧ ∀ s', s' = (s.take h.toNat).drop l.toNat → K (.str s') env st
      | _, _ => False
    | _, _ => False
  | .extract x i => match env.eval x with
    | .tup vs => match vs[i]? with | some v => v.force fun v => K v env st | none => False
    | _ => False
  | .call c => match c.callee with
    | .builtin .len => match c.args.toList.map env.eval, c.argTypes.toList.map (assoc T) with
      | [.slice _ es _], [some (.slice _ _ _)] => ∀ m : Nat, m = es.length → m < lim → K (.int .i64 m) env st
      | [.str s], [some (.sc (.str _))] => s.length < lim → K (.int .i64 s.length) env st
      | _, _ => False
    | .builtin .min => match c.args.toList.map env.eval with
      | [.int k a, .int k' b] => chk (decide (k = k')) (∃ r, r = (if b < a then b else a) ∧ K (.int k r) env st)
      | _ => False
    | .builtin .max => match c.args.toList.map env.eval with
      | [.int k a, .int k' b] => chk (decide (k = k')) (∃ r, r = (if a < b then b else a) ∧ K (.int k r) env st)
      | _ => False
    | .builtin .append => match c.args.toList, c.argTypes.toList with
      | [x, y], [t, u] => match assoc T t, assoc T u, env.evalT T t x, env.evalT T u y with
        | some (.slice _ sz bytes), some (.slice _ _ _), .slice sz' es own, .slice sz'' new _ =>
          chk (Nat.beq t u && (Nat.beq sz sz' && Nat.beq sz sz'')) (appendTo sz bytes es own new st fun v st' => K v env st')
        | _, _, _, _ => False
      | _, _ => False
    | .value f => match env.eval f with
      | .func f a cap => evsT T env c.argTypes.toList c.args.toList fun vs => forceL (a ++ (vs ++ cap)) fun vs => C f vs st fun r st' => match r with
        | .ret v => v.back fun v => K v env st'
        | .pan v => Q (.pan v) env st'
      | _ => False
    | _ => False
  | _ => False

def Env.go (env : Env) (d : Option Nat) (v : V) (K : Env → Prop) : Prop :=
  match env, d with
  | ⟨ts, bs, n, sz, gl⟩, some t => chk (Nat.blt t sz) (K ⟨(t, v) :: ts, bs, n, sz, gl⟩)
  | e, none => K e

/-- is an operation wanted, as its guard says? -/
def guardWp (all : List Oper) (o : Oper) (env : Env) (yes no : Prop) : Prop :=
  match o.guard with
  | none => yes
  | some (j, want) =>
    match ((all[j]?).bind (·.dst)).map env.get with
    | some (.bool b) => bif want then lit b yes no else lit b no yes
    | some (.tup []) => no
    | _ => False

def opsWp (all : List Oper) (Q : AExit → Env → St → Prop) (l : List Oper) : Env → St → Prop :=
  List.rec (motive := fun _ => Env → St → Prop) (fun env st => Q .normal env st)
    (fun o _ ih env st => guardWp all o env (opWp T C o env st (fun v env st => env.go o.dst v fun env => ih env st) Q) (env.go o.dst (.tup []) fun env => ih env st)) l
theorem opsWp_cons (all : List Oper) (Q : AExit → Env → St → Prop) (o : Oper) (r : List Oper) (env : Env) (st : St) : opsWp T C all Q (o :: r) env st =
    guardWp all o env (opWp T C o env st (fun v env st => env.go o.dst v fun env => opsWp T C all Q r env st) Q) (env.go o.dst (.tup []) fun env => opsWp T C all Q r env st) := rfl

/-- an operation of a region whose order is open: its value, of what it looks at alone -/
noncomputable def Env.only (env : Env) (bs : List (Nat × List V)) (slots : List Nat) : Env := { env with tmps := slots.map fun t => (t, env.get t), boxes := bs }
def Oper.slots (all : List Oper) (o : Oper) : List Nat :=
  (o.op.operands.toList.filterMap fun | .tmp t => some t | _ => none) ++ (match o.guard with | some (j, _) => ((all[j]?).bind (·.dst)).toList | none => [])

/-- an operation's value, of what it looks at alone; it leaves the frame and the memory as they were -/
def quietWp (all : List Oper) (o : Oper) (bs : List (Nat × List V)) (env : Env) (st : St) (v : V) : Prop :=
  opWp T C o (env.only bs (Oper.slots all o)) st (fun v' e s => v' = v ∧ e = env.only bs (Oper.slots all o) ∧ s = st) (fun _ _ _ => False)

/-- the box of the frame's own that a store writes -/
noncomputable def sid (env : Env) (o : Oper) : Option Nat := match o.op with
  | .store _ x _ => match env.eval x with
    | .lptr id _ => some id
    | _ => none
  | _ => none
/-- it may stand among those whose order is open -/
noncomputable def headK (env : Env) (all : List Oper) (o : Oper) : Bool :=
  match o.op with
  | .store _ (.tmp x) _ => !(all.any fun p => p.dst == some x) && (match env.get x with | .lptr _ _ => true | _ => false)
  | .store _ _ _ => false
  | .call ⟨.builtin .append, _, _⟩ => false
  | _ => true
/-- how many of these there are, and which boxes they write -/
def headScan (env : Env) (all : List Oper) (l : List Oper) : (Nat → List (Option Nat) → Prop) → Prop :=
  List.rec (motive := fun _ => (Nat → List (Option Nat) → Prop) → Prop) (fun K => K 0 [])
    (fun o _ ih K => Bool.rec (motive := fun _ => Prop) (K 0 []) (match sid env o with
      | some id => ih fun k L => K (k + 1) (some id :: L)
      | none => ih fun k L => K (k + 1) (none :: L)) (headK env all o)) l
theorem headScan_cons (env : Env) (all : List Oper) (o : Oper) (r : List Oper) (K : Nat → List (Option Nat) → Prop) : headScan env all (o :: r) K = Bool.rec (motive := fun _ => Prop) (K 0 []) (match sid env o with
      | some id => headScan env all r fun k L => K (k + 1) (some id :: L)
      | none => headScan env all r fun k L => K (k + 1) (none :: L)) (headK env all o) := rfl
def nodupO : List (Option Nat) → Bool
  | [] => true
  | none :: r => nodupO r
  | some a :: r => !(r.contains (some a)) && nodupO r
/-- the boxes that are not written -/
noncomputable def dropIds (L : List (Option Nat)) (bs : List (Nat × List V)) : List (Nat × List V) :=
  List.rec (motive := fun _ => List (Nat × List V)) [] (fun p _ ih => Bool.rec (motive := fun _ => List (Nat × List V)) (p :: ih) ih (L.contains (some p.1))) bs
def Env.up (env : Env) (K : Env → Prop) : Prop := match env with | ⟨ts, bs, n, sz, gl⟩ => K ⟨ts, bs, n + 1, sz, gl⟩
def Env.newHead (env : Env) (cs : List V) (K : V → Env → Prop) : Prop := forceL cs fun cs => match env with | ⟨ts, bs, n, sz, gl⟩ => K (.lptr n 0) ⟨ts, (n, cs) :: bs, n, sz, gl⟩
/-- a new variable, a store, or a value; b1: the boxes ahead of all this; b0: those of them that are not written -/
def headOne (all : List Oper) (o : Oper) (b1 b0 : List (Nat × List V)) (env : Env) (st : St) (K : V → Env → Prop) : Prop :=
  match o.op with
  | .alloc t => match assoc T t with
    | some ty => chk (!env.isGl o.dst) (env.newHead ty.zero.cells K)
    | none => False
  | .box t x => chk (!env.isGl o.dst) ((env.evalT T t x).force fun v => chk v.known (env.newHead v.cells K))
  | .store t x y => match env.eval x with
    | .lptr id off => match assoc b1 id, assoc T t with
      | some cs, some ty => match env with
        | ⟨ts, bs, n, sz, gl⟩ => (Env.evalT T ⟨ts, bs, n, sz, gl⟩ t y).force fun v => chk (v.known && Nat.beq v.cells.length ty.zero.cells.length)
          (storeTo cs off v.cells fun cs' => K .junk ⟨ts, (id, cs') :: bs, n, sz, gl⟩)
      | _, _ => False
    | _ => False
  | _ => ∃ v, quietWp T C all o b0 env st v ∧ v.part fun v => K v env
/-- operations whose order is open, each with its value, in the order of the text; from the first on that is none of these, all in that order -/
def headWp (all : List Oper) (Q : AExit → Env → St → Prop) (e0 : Env) (b1 b0 : List (Nat × List V)) (l : List Oper) : Env → St → Prop :=
  List.rec (motive := fun _ => Env → St → Prop) (fun env st => Q .normal env st)
    (fun o r ih env st => Bool.rec (motive := fun _ => Prop) (opsWp T C all Q (o :: r) env st)
      (guardWp all o env (headOne T C all o b1 b0 env st fun v env => env.go o.dst v fun env => env.up fun env => ih env st) (env.go o.dst (.tup []) fun env => env.up fun env => ih env st)) (headK e0 all o)) l
theorem headWp_cons (all : List Oper) (Q : AExit → Env → St → Prop) (e0 : Env) (b1 b0 : List (Nat × List V)) (o : Oper) (r : List Oper) (env : Env) (st : St) : headWp T C all Q e0 b1 b0 (o :: r) env st =
    Bool.rec (motive := fun _ => Prop) (opsWp T C all Q (o :: r) env st)
      (guardWp all o env (headOne T C all o b1 b0 env st fun v env => env.go o.dst v fun env => env.up fun env => headWp T C all Q e0 b1 b0 r env st) (env.go o.dst (.tup []) fun env => env.up fun env => headWp T C all Q e0 b1 b0 r env st)) (headK e0 all o) := rfl

def thenQ (K : Env → St → Prop) (Q : AExit → Env → St → Prop) : AExit → Env → St → Prop
  | .normal, e, s => K e s
  | x, e, s => Q x e s

def blockQ (id : Nat) (Q : AExit → Env → St → Prop) : AExit → Env → St → Prop
  | .exit id', a, w => bif Nat.beq id' id then Q .normal a w else Q (.exit id') a w
  | e, a, w => Q e a w

/-- a pointer to a box of the frame's own is one to a box that is still told of -/
noncomputable def V.lptrIn (bs : List (Nat × List V)) : V → Bool
  | .lptr id _ => (assoc bs id).isSome
  | _ => true
/-- all that the first frame tells holds of the second -/
def Env.le (env' env : Env) : Prop :=
  env'.sz = env.sz ∧ (∀ t v, assoc env'.tmps t = some v → v = .junk ∨ (assoc env.tmps t = some v ∧ v.lptrIn env'.boxes = true)) ∧
  (∀ id cs, assoc env'.boxes id = some cs → assoc env.boxes id = some cs) ∧ (∀ id cs, assoc env'.boxes id = some cs → id < env'.nxt)

/-- the same, slot by slot -/
def leTmps (env : Env) (bs : List (Nat × List V)) : List (Nat × V) → Prop
  | [] => True
  | (t, v) :: r => (match assoc env.tmps t with | some u => u = v | none => False) ∧ v.lptrIn bs = true ∧ leTmps env bs r
def leBoxes (env : Env) : List (Nat × List V) → Prop
  | [] => True
  | (t, v) :: r => (match assoc env.boxes t with | some u => u = v | none => False) ∧ leBoxes env r
def Env.leC (env' env : Env) : Prop := env'.sz = env.sz ∧ leTmps env env'.boxes env'.tmps ∧ leBoxes env env'.boxes ∧ (env'.boxes.all fun p => Nat.blt p.1 env'.nxt) = true
theorem assoc_mem {α : Type} : ∀ {l : List (Nat × α)} {t : Nat} {v : α}, assoc l t = some v → (t, v) ∈ l
  | (k, u) :: r, t, v, h => by
    rw [assoc_cons] at h
    cases hk : Nat.beq k t with
    | true =>
      rw [hk] at h
      have := Nat.eq_of_beq_eq_true hk
      simp only [cond_true, Option.some.injEq] at h
      subst h; subst this; exact List.mem_cons_self
    | false => rw [hk] at h; exact List.mem_cons_of_mem _ (assoc_mem h)
theorem leTmps_mem {env : Env} {bs : List (Nat × List V)} : ∀ {l : List (Nat × V)}, leTmps env bs l → ∀ p ∈ l, assoc env.tmps p.1 = some p.2 ∧ p.2.lptrIn bs = true
  | (t, v) :: r, h, p, hp => by
    rcases List.mem_cons.1 hp with rfl | hp
    · refine ⟨?_, h.2.1⟩
      have h1 := h.1
      revert h1
      show (match assoc env.tmps t with | some u => u = v | none => False) → assoc env.tmps t = some v
      cases assoc env.tmps t with
      | none => exact False.elim
      | some u => intro e; rw [e]
    · exact leTmps_mem h.2.2 p hp
theorem leBoxes_mem {env : Env} : ∀ {l : List (Nat × List V)}, leBoxes env l → ∀ p ∈ l, assoc env.boxes p.1 = some p.2
  | (t, v) :: r, h, p, hp => by
    rcases List.mem_cons.1 hp with rfl | hp
    · have h1 := h.1
      revert h1
      show (match assoc env.boxes t with | some u => u = v | none => False) → assoc env.boxes t = some v
      cases assoc env.boxes t with
      | none => exact False.elim
      | some u => intro e; rw [e]
    · exact leBoxes_mem h.2 p hp
theorem Env.le_of {env' env : Env} (h : env'.leC env) : env'.le env := by
  refine ⟨h.1, fun t v ht => .inr (leTmps_mem h.2.1 (t, v) (assoc_mem ht)), fun id cs hb => leBoxes_mem h.2.2.1 (id, cs) (assoc_mem hb), fun id cs hb => ?_⟩
  have := List.all_eq_true.1 h.2.2.2 (id, cs) (assoc_mem hb)
  simpa [Nat.blt_eq] using this

/-- some frame and memory that tell no more -/
def weak (Q : Env → St → Prop) (env : Env) (st : St) : Prop := ∃ env' st', env'.le env ∧ St.le st' st ∧ Q env' st'

/-- it leaves the frame as it is -/
def quietKind : Op → Bool
  | .alloc _ | .box _ _ | .store _ _ _ => false
  | _ => true
/-- is one operation bound to come after another? -/
def reaches (all : List Oper) : Nat → Nat → Nat → Bool
  | 0, _, _ => false
  | n + 1, i, j => match all[i]? with
    | some o => (o.after.toList.any fun e => Region.binds .any e && Nat.beq e.on j) || o.after.toList.any fun e => Region.binds .any e && Nat.blt j e.on && reaches all n e.on j
    | none => false
/-- of two operations: neither writes the other's slot; who looks at a slot that the other writes is bound to it -/
def pairOK (all : List Oper) (i j : Nat) (o p : Oper) : Bool :=
  match p.dst with
  | none => true
  | some t => !(o.dst == some t) && (!((Oper.slots all o).contains t) || (if Nat.blt j i then reaches all all.length i j else reaches all all.length j i))
/-- a region whose first operations only look, make variables, or write a box each; all orders of these come to the same; the others come in the order of the text -/
def drawOK (k : Nat) (all : List Oper) : Bool :=
  Nat.ble k all.length && (List.range all.length).all fun i => match all[i]? with
    | none => true
    | some o => (o.after.toList.all fun e => !(Region.binds .any e) || Nat.blt e.on i) &&
      (bif Nat.blt i k then (List.range k).all fun j => Nat.beq i j || match all[j]? with | none => true | some p => pairOK all i j o p
        else (List.range i).all fun j => reaches all all.length i j)

/-- a memory of which nothing is told -/
def noSt0 : St := ⟨fun _ => none, fun _ => none⟩
/-- an operation whose value hangs on slots and boxes of the frame's own alone -/
def pureKind : Op → Bool
  | .move _ | .assign _ | .pick _ _ _ | .load _ _ | .fieldAddr _ _ _ | .nilCheck _ | .binOp _ _ _ _ _ | .unOp _ _ _ | .build _ _ | .buildSlice _ _ _ | .extract _ _ | .makeFunc _ _ _ | .index _ _ _ | .indexAddr _ _ _ | .slice _ _ _ _ _ | .makeInterface _ _ => true
  | .call ⟨.builtin .len, _, _⟩ | .call ⟨.builtin .min, _, _⟩ | .call ⟨.builtin .max, _, _⟩ => true
  | _ => false
def isStore : Op → Bool
  | .store _ _ _ => true
  | _ => false
/-- a store writes a box that is listed -/
noncomputable def storesIn (L : List Nat) (env : Env) (o : Oper) : Bool := match o.op with
  | .store _ x _ => match env.eval x with
    | .lptr id _ => L.contains id
    | _ => true
  | _ => true
/-- an order that may be told, of a region whose order is open: those that only look (true) as early as may be, the others in a chain -/
noncomputable def mixGo (all : List Oper) (l : List (Nat × Bool)) : List Nat → Bool :=
  List.rec (motive := fun _ => List Nat → Bool) (fun _ => true) (fun p r ih done => (match all[p.1]? with
    | some o => (o.after.toList.all fun e => !(Region.binds .any e) || done.contains e.on) && (bif p.2 then pureKind o.op else (quietKind o.op || isStore o.op))
    | none => false) && (!(done.contains p.1) && ((p.2 || r.all fun x => reaches all all.length x.1 p.1) && ih (p.1 :: done)))) l
noncomputable def mixOK (sched : List (Nat × Bool)) (all : List Oper) : Bool :=
  ((List.range all.length).all fun i => sched.any fun p => Nat.beq p.1 i) && (mixGo all sched [] && (List.range all.length).all fun i => (List.range all.length).all fun j => Nat.beq i j || match all[i]?, all[j]? with
    | some o, some p => pairOK all i j o p
    | _, _ => true)
/-- what such an order asks -/
def mixWp (all : List Oper) (L : List Nat) (b0 : List (Nat × List V)) (Q : AExit → Env → St → Prop) (l : List (Nat × Bool)) : Env → St → Prop :=
  List.rec (motive := fun _ => Env → St → Prop) (fun env st => Q .normal env st) (fun p _ ih env st => match all[p.1]? with
    | none => False
    | some o => match p.2 with
      | true => guardWp all o env (∃ v, quietWp T C all o b0 env noSt0 v ∧ v.part fun v => env.go o.dst v fun env => ih env st) (env.go o.dst (.tup []) fun env => ih env st)
      | false => guardWp all o env (chk (storesIn L env o) (opWp T C o env st (fun v env st => env.go o.dst v fun env => ih env st) (fun x _ s => ∀ e', Q x e' s))) (env.go o.dst (.tup []) fun env => ih env st)) l
theorem mixWp_cons (all : List Oper) (L : List Nat) (b0 : List (Nat × List V)) (Q : AExit → Env → St → Prop) (p : Nat × Bool) (r : List (Nat × Bool)) (env : Env) (st : St) : mixWp T C all L b0 Q (p :: r) env st = (match all[p.1]? with
    | none => False
    | some o => match p.2 with
      | true => guardWp all o env (∃ v, quietWp T C all o b0 env noSt0 v ∧ v.part fun v => env.go o.dst v fun env => mixWp T C all L b0 Q r env st) (env.go o.dst (.tup []) fun env => mixWp T C all L b0 Q r env st)
      | false => guardWp all o env (chk (storesIn L env o) (opWp T C o env st (fun v env st => env.go o.dst v fun env => mixWp T C all L b0 Q r env st) (fun x _ s => ∀ e', Q x e' s))) (env.go o.dst (.tup []) fun env => mixWp T C all L b0 Q r env st)) := rfl

def gotoQ (J : Nat → Env → St → Prop) (Q : AExit → Env → St → Prop) : AExit → Env → St → Prop
  | .goto l, e, s => J l e s
  | x, e, s => Q x e s

abbrev CW : Type := (AExit → Env → St → Prop) → Env → St → Prop
/-- what a code asks, and what it asks from a label on -/
abbrev CW2 : Type := CW × (Nat → Option CW)

def seqL (la : Option CW) (wb : CW) (lb : Option CW) : Option CW :=
  match la with
  | some f => some fun Q env st => f (thenQ (wb Q) Q) env st
  | none => lb

def scopeWp (w : CW) (lw : Nat → Option CW) (Q : AExit → Env → St → Prop) (env : Env) (st : St) : Prop :=
  ∃ (α : Type) (lab : α → Nat) (E : α → Env) (S : α → St) (J : α → Prop) (μ : α → Nat),
    w (gotoQ (fun l env' st' => ∃ y, lab y = l ∧ J y ∧ (E y).leC env' ∧ St.le (S y) st') Q) env st ∧
    ∀ x, J x → ∃ f, lw (lab x) = some f ∧ f (gotoQ (fun l env' st' => ∃ y, lab y = l ∧ J y ∧ μ y < μ x ∧ (E y).leC env' ∧ St.le (S y) st') Q) (E x) (S x)

noncomputable def awp2 (c : Code) : CW2 :=
  Code.rec (motive := fun _ => CW2)
    ⟨fun Q env st => Q .normal env st, fun _ => none⟩
    (fun _ ops draw => ⟨fun Q env st => Bool.rec (motive := fun _ => Prop) (opsWp T C ops.toList Q ops.toList env st) ((headScan env ops.toList ops.toList fun k L => (drawOK k ops.toList && nodupO L) = true ∧ headWp T C ops.toList Q env env.boxes (dropIds L env.boxes) ops.toList env st) ∨ ∃ (sched : List (Nat × Bool)) (L : List Nat), mixOK sched ops.toList = true ∧ mixWp T C ops.toList L (dropIds (L.map some) env.boxes) Q sched env st) draw, fun _ => none⟩)
    (fun _ _ iha ihb => ⟨fun Q env st => iha.1 (thenQ (ihb.1 Q) Q) env st, fun l => seqL (iha.2 l) ihb.1 (ihb.2 l)⟩)
    (fun c _ _ iha ihb => ⟨fun Q env st => match env.eval c with
      | .bool t => lit t (iha.1 Q env st) (ihb.1 Q env st)
      | _ => False, fun _ => none⟩)
    (fun id _ ih => ⟨fun Q env st => ih.1 (blockQ id Q) env st, fun _ => none⟩)
    (fun _ ih => ⟨fun Q env st => ∃ (α : Type) (E : α → Env) (S : α → St) (J : α → Prop) (μ : α → Nat) (x0 : α), J x0 ∧ (E x0).leC env ∧ St.le (S x0) st ∧
      ∀ x, J x → ih.1 (thenQ (fun env' st' => ∃ y, J y ∧ μ y < μ x ∧ (E y).leC env' ∧ St.le (S y) st') Q) (E x) (S x), fun _ => none⟩)
    (fun _ _ _ _ _ _ => ⟨fun _ _ _ => False, fun _ => none⟩)
    (fun id => ⟨fun Q env st => Q (.exit id) env st, fun _ => none⟩)
    (fun _ ih => ⟨fun Q env st => scopeWp ih.1 ih.2 Q env st, fun _ => none⟩)
    (fun l' => ⟨fun Q env st => Q .normal env st, fun l => bif Nat.beq l' l then some fun Q env st => Q .normal env st else none⟩)
    (fun l => ⟨fun Q env st => Q (.goto l) env st, fun _ => none⟩)
    ⟨fun Q env st => Q .ret env st, fun _ => none⟩
    (fun _ => ⟨fun _ _ _ => False, fun _ => none⟩) c
noncomputable def awp (c : Code) (Q : AExit → Env → St → Prop) (env : Env) (st : St) : Prop := (awp2 T C c).1 Q env st

/-- one result -/
def oneRet (env : Env) (st : St) (x : ResultVar) (K : V → Prop) : Prop :=
  match x with
  | .tmp t => (env.get t).force fun v => chk v.plain (K v)
  | .cell x t => match env.get x with
    | .lptr id off => match assoc env.boxes id with
      | some cs => loadFrom cs off (assoc T t) fun v => K v
      | none => False
    | .ptr b off => ∃ cs, st.box b = some cs ∧ loadFrom cs off (assoc T t) fun v => K v
    | _ => False
def forceRet (env : Env) (st : St) (l : List ResultVar) : (List V → Prop) → Prop :=
  List.rec (motive := fun _ => (List V → Prop) → Prop) (fun K => K []) (fun x _ ih K => oneRet T env st x fun v => ih fun vs => K (v :: vs)) l
theorem forceRet_cons (env : Env) (st : St) (x : ResultVar) (r : List ResultVar) (K : List V → Prop) : forceRet T env st (x :: r) K = oneRet T env st x fun v => forceRet T env st r fun vs => K (v :: vs) := rfl

def resPost (fn : Func) (R : Res → St → Prop) : AExit → Env → St → Prop
  | .normal, env, st | .ret, env, st => forceRet T env st fn.results.toList fun vs =>
    match vs with
    | [v] => R (.ret v) st
    | vs => R (.ret (.tup vs)) st
  | .pan v, _, st => R (.pan v) st
  | _, _, _ => False

noncomputable def args0 (i : Nat) (l : List V) : List (Nat × V) :=
  List.rec (motive := fun _ => Nat → List (Nat × V)) (fun _ => []) (fun v _ ih i => (i, v) :: ih (i + 1)) l i
theorem args0_cons (i : Nat) (v : V) (r : List V) : args0 i (v :: r) = (i, v) :: args0 (i + 1) r := rfl

/-- what a call's body asks -/
def bodyWp (fn : Func) (gl : List Nat) (args : List V) (st : St) (R : Res → St → Prop) : Prop :=
  match fn.body with
  | some c => chk (Nat.ble args.length fn.ntmps) (awp T C c (resPost T fn R) { tmps := args0 0 args, boxes := [], nxt := 0, sz := fn.ntmps, gl } st)
  | none => False

/-- a result with less told of it -/
def Res.wk : Res → Res
  | .ret v => .ret v.wk
  | .pan v => .pan v.wk
end
end Go.Aw
