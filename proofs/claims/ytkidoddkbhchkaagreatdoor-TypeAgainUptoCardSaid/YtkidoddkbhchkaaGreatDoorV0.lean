/-
  Parts of a proof: lemmas that the last text uses.
-/
import Derived.Tactics
import Derived.Laws.Cells
import Derived.Shelf.Unicode.DecodeSlow
import Derived.Lib.Space
import Derived.Laws.CopyRow
import Derived.ChangeKeysEq
import Derived.Laws.StructEq
import Derived.Laws.Append
import Derived.Laws.AppendOwn
import Derived.Laws.Strings
set_option maxHeartbeats 16000000
set_option linter.unusedVariables false
namespace Go.Aw
open Go
inductive Own where
  | any | full | tok (b : Nat)
inductive V where
  | junk
  | bool (b : Bool)
  | int (k : IntKind) (n : Int)
  | str (s : List UInt8)
  | agg (cs : List V)
  | tup (vs : List V)
  | slice (sz : Nat) (es : List (List V)) (own : Own)
  | ptr (b : Nat) (off : Nat)
  | lptr (id : Nat) (off : Nat)
  | eptr (e : List V) (off : Nat)
  | nilp
  | func (f : FuncId) (first captured : List V)
  | nilf
  | iface (t : TypeId) (v : V)
  | nili
  | sit (s : List UInt8) (pos : Nat)
  | mrow (sz b n cap : Nat)
  | yld (l : Nat)
def V.cells : V → List V
  | .agg cs => cs
  | v => [v]
def V.sc : V → Bool
  | .junk | .agg _ | .tup _ | .sit _ _ => false
  | _ => true
def V.plain : V → Bool
  | .lptr _ _ => false
  | _ => true
def V.known : V → Bool
  | .lptr _ _ | .junk | .sit _ _ => false
  | _ => true
def V.wk0 : V → V
  | .slice sz es _ => .slice sz es .any
  | v => v
def V.wk1 : V → V
  | .slice sz es _ => .slice sz es .any
  | .agg cs => .agg (cs.map V.wk0)
  | v => v
def V.wk : V → V
  | .slice sz es _ => .slice sz es .any
  | .agg cs => .agg (cs.map V.wk0)
  | .tup vs => .tup (vs.map V.wk1)
  | v => v
structure St where
  box : Nat → Option (List V)
  hw : Nat → Option Nat
def St.setBox (st : St) (b : Nat) (cs : List V) : St := { st with box := fun x => if x = b then some cs else st.box x }
def St.setHw (st : St) (b : Nat) (h : Nat) : St := { st with hw := fun x => if x = b then some h else st.hw x }
def St.dropHw (st : St) (b : Nat) : St := { st with hw := fun x => if x = b then none else st.hw x }
def St.fresh (st : St) (b : Nat) : Prop := st.box b = none ∧ st.hw b = none
def St.le (a b : St) : Prop := (∀ x cs, a.box x = some cs → b.box x = some cs) ∧ ∀ x h, a.hw x = some h → b.hw x = some h
theorem St.le_refl (a : St) : a.le a := ⟨fun _ _ h => h, fun _ _ h => h⟩
theorem St.le_setBox {a b : St} (h : a.le b) {x : Nat} (hx : a.box x = none) (cs : List V) : a.le (b.setBox x cs) :=
  ⟨fun y c hy => by
    simp only [St.setBox]
    split
    · rename_i e; subst e; rw [hx] at hy; cases hy
    · exact h.1 y c hy, h.2⟩
theorem St.le_setHw {a b : St} (h : a.le b) {x : Nat} (hx : a.hw x = none) (n : Nat) : a.le (b.setHw x n) :=
  ⟨h.1, fun y c hy => by
    simp only [St.setHw]
    split
    · rename_i e; subst e; rw [hx] at hy; cases hy
    · exact h.2 y c hy⟩
theorem St.le_trans {a b c : St} (h : a.le b) (k : b.le c) : a.le c := ⟨fun x cs hx => k.1 x cs (h.1 x cs hx), fun x n hx => k.2 x n (h.2 x n hx)⟩
inductive Ty where
  | sc (z : V)
  | slice (elem : TypeId) (sz bytes : Nat)
  | struct (offs : List (Nat × Nat)) (zero : List V)
  | arr (offs : List (Nat × Nat)) (zero : List V)
def Ty.zero : Ty → V
  | .sc z => z
  | .slice _ sz _ => .slice sz [] .full
  | .struct _ z => .agg z
  | .arr _ z => .agg z
noncomputable def assoc {α : Type} (l : List (Nat × α)) (t : Nat) : Option α :=
  List.rec (motive := fun _ => Option α) none (fun p _ ih => Bool.rec (motive := fun _ => Option α) ih (some p.2) (Nat.beq p.1 t)) l
theorem assoc_cons {α : Type} (k : Nat) (v : α) (r : List (Nat × α)) (t : Nat) : assoc ((k, v) :: r) t = bif Nat.beq k t then some v else assoc r t := by
  show Bool.rec (motive := fun _ => Option α) (assoc r t) (some v) (Nat.beq k t) = _
  cases Nat.beq k t <;> rfl
structure Env where
  tmps : List (Nat × V)
  boxes : List (Nat × List V)
  nxt : Nat
  sz : Nat
  gl : List Nat
noncomputable def Env.get (e : Env) (t : Nat) : V := match assoc e.tmps t with | some v => v | none => .junk
def isNilSlice : Operand → Bool
  | .const (.slice none 0 0) => true
  | _ => false
def absConst : Value → V
  | .bool b => .bool b
  | .int k n => .int k n
  | .string ⟨⟨l⟩⟩ => match Nat.blt l.length 4611686018427387904 with | true => .str l | false => .junk
  | .nilFunc => .nilf
  | .nilIface => .nili
  | .pointer none => .nilp
  | _ => .junk
noncomputable def Env.eval (e : Env) : Operand → V
  | .tmp t => e.get t
  | .const v => absConst v
  | .func f => .func f [] []
  | .global _ => .junk
section
variable (T : List (Nat × Ty))
noncomputable def Env.evalT (e : Env) (t : TypeId) (x : Operand) : V :=
  match isNilSlice x with
  | true => match assoc T t with
    | some (.slice _ sz _) => .slice sz [] .full
    | _ => .junk
  | false => e.eval x
end
def lit (b : Bool) (p q : Prop) : Prop := match b with | true => p | false => q
def chk (b : Bool) (p : Prop) : Prop := match b with | true => p | false => False
theorem chk_intro {b : Bool} {p : Prop} (h : b = true) (k : p) : chk b p := by subst h; exact k
theorem chk_iff {b : Bool} {p : Prop} : chk b p ↔ b = true ∧ p := by cases b <;> simp [chk]
inductive bcase (b : Bool) (p q : Prop) : Prop where
  | mk : (b = true → p) → (b = false → q) → bcase b p q
theorem Wk {b : Bool} {p q : Prop} (h : b = true → p) (k : b = false → q) : bcase b p q := .mk h k
theorem bcase_true_iff {p q : Prop} : bcase true p q ↔ p := ⟨fun ⟨h, _⟩ => h rfl, fun h => .mk (fun _ => h) (fun e => by cases e)⟩
theorem bcase_false_iff {p q : Prop} : bcase false p q ↔ q := ⟨fun ⟨_, h⟩ => h rfl, fun h => .mk (fun e => by cases e) (fun _ => h)⟩
theorem Wi {p q : Prop} (h : p) : bcase true p q := bcase_true_iff.2 h
theorem Wj {p q : Prop} (h : q) : bcase false p q := bcase_false_iff.2 h
def V.force (v : V) (K : V → Prop) : Prop :=
  match v with
  | .junk => K .junk
  | .bool b => K (.bool b)
  | .int k n => K (.int k n)
  | .str s => K (.str s)
  | .agg cs => K (.agg cs)
  | .tup vs => K (.tup vs)
  | .slice sz es o => K (.slice sz es o)
  | .ptr b o => K (.ptr b o)
  | .lptr b o => K (.lptr b o)
  | .eptr b o => K (.eptr b o)
  | .nilp => K .nilp
  | .func f a c => K (.func f a c)
  | .nilf => K .nilf
  | .iface t v => K (.iface t v)
  | .nili => K .nili
  | .sit s n => K (.sit s n)
  | .mrow sz b n c => K (.mrow sz b n c)
  | .yld l => K (.yld l)
theorem V.force_iff {v : V} {K : V → Prop} : v.force K ↔ K v := by
  cases v <;> exact Iff.rfl
def V.part (v : V) (K : V → Prop) : Prop :=
  match v with
  | .bool b => bcase b (K (.bool true)) (K (.bool false))
  | v => v.force K
theorem V.part_iff {v : V} {K : V → Prop} : v.part K ↔ K v := by
  cases v with
  | bool b => cases b <;> first | exact bcase_false_iff | exact bcase_true_iff
  | _ => simp only [V.part, V.force_iff]
def partL (l : List V) : (List V → Prop) → Prop :=
  List.rec (motive := fun _ => (List V → Prop) → Prop) (fun K => K []) (fun v _ ih K => v.part fun v => ih fun r => K (v :: r)) l
theorem partL_cons (v : V) (r : List V) (K : List V → Prop) : partL (v :: r) K = v.part fun v => partL r fun r => K (v :: r) := rfl
theorem partL_iff : ∀ {l : List V} {K : List V → Prop}, partL l K ↔ K l
  | [], _ => Iff.rfl
  | v :: r, K => by rw [partL_cons, V.part_iff, partL_iff]
def V.back (v : V) (K : V → Prop) : Prop :=
  match v with
  | .tup vs => partL vs fun vs => K (.tup vs)
  | v => v.part K
theorem V.back_iff {v : V} {K : V → Prop} : v.back K ↔ K v := by
  cases v with
  | tup vs => exact partL_iff
  | _ => simp only [V.back, V.part_iff]
def forceL (l : List V) : (List V → Prop) → Prop :=
  List.rec (motive := fun _ => (List V → Prop) → Prop) (fun K => K []) (fun v _ ih K => v.force fun v => ih fun r => K (v :: r)) l
theorem forceL_cons (v : V) (r : List V) (K : List V → Prop) : forceL (v :: r) K = v.force fun v => forceL r fun r => K (v :: r) := rfl
theorem forceL_iff : ∀ {l : List V} {K : List V → Prop}, forceL l K ↔ K l
  | [], _ => Iff.rfl
  | v :: r, K => by rw [forceL_cons, V.force_iff, forceL_iff]
def forceLL (l : List (List V)) : (List (List V) → Prop) → Prop :=
  List.rec (motive := fun _ => (List (List V) → Prop) → Prop) (fun K => K []) (fun v _ ih K => forceL v fun v => ih fun r => K (v :: r)) l
theorem forceLL_cons (v : List V) (r : List (List V)) (K : List (List V) → Prop) : forceLL (v :: r) K = forceL v fun v => forceLL r fun r => K (v :: r) := rfl
theorem forceLL_iff : ∀ {l : List (List V)} {K : List (List V) → Prop}, forceLL l K ↔ K l
  | [], _ => Iff.rfl
  | v :: r, K => by rw [forceLL_cons, forceL_iff, forceLL_iff]
inductive Res where
  | ret (v : V)
  | pan (v : V)
inductive AExit where
  | normal | exit (id : Nat) | goto (l : Nat) | ret | pan (v : V)
def lim : Nat := 4611686018427387904
def evs (env : Env) (l : List Operand) : (List V → Prop) → Prop :=
  List.rec (motive := fun _ => (List V → Prop) → Prop) (fun K => K []) (fun x _ ih K => (env.eval x).force fun v => chk v.plain (ih fun vs => K (v :: vs))) l
theorem evs_cons (env : Env) (x : Operand) (r : List Operand) (K : List V → Prop) : evs env (x :: r) K = (env.eval x).force fun v => chk v.plain (evs env r fun vs => K (v :: vs)) := rfl
section
variable (T : List (Nat × Ty))
def evsT (env : Env) (ts : List TypeId) (l : List Operand) : (List V → Prop) → Prop :=
  List.rec (motive := fun _ => List TypeId → (List V → Prop) → Prop) (fun _ K => K [])
    (fun x _ ih ts K => (env.evalT T (ts.headD 0) x).force fun v => chk v.plain (ih ts.tail fun vs => K (v :: vs))) l ts
theorem evsT_cons (env : Env) (ts : List TypeId) (x : Operand) (r : List Operand) (K : List V → Prop) :
    evsT T env ts (x :: r) K = (env.evalT T (ts.headD 0) x).force fun v => chk v.plain (evsT T env ts.tail r fun vs => K (v :: vs)) := rfl
end
def bin (op : BinOp) (x y : V) (K : V → Prop) : Prop :=
  match x, y with
  | .int k a, .int k' b =>
    chk (decide (k = k')) (match op with
    | .add => ∃ r, r = k.wrap (a + b) ∧ K (.int k r)
    | .sub => ∃ r, r = k.wrap (a - b) ∧ K (.int k r)
    | .mul => ∃ r, r = k.wrap (a * b) ∧ K (.int k r)
    | .quo => b ≠ 0 ∧ ∃ r, r = k.wrap (a.tdiv b) ∧ K (.int k r)
    | .rem => b ≠ 0 ∧ K (.int k (a.tmod b))
    | .and => ∃ r, r = k.wrap ((BitVec.ofInt k.bits a &&& BitVec.ofInt k.bits b).toNat : Int) ∧ K (.int k r)
    | .eql => bcase (a == b) (K (.bool true)) (K (.bool false))
    | .neq => bcase (a == b) (K (.bool false)) (K (.bool true))
    | .lss => bcase (decide (a < b)) (K (.bool true)) (K (.bool false))
    | .leq => bcase (decide (a ≤ b)) (K (.bool true)) (K (.bool false))
    | .gtr => bcase (decide (b < a)) (K (.bool true)) (K (.bool false))
    | .geq => bcase (decide (b ≤ a)) (K (.bool true)) (K (.bool false))
    | _ => False)
  | .str a, .str b =>
    match op with
    | .add => a.length + b.length < lim ∧ K (.str (a ++ b))
    | .eql => bcase (a == b) (K (.bool true)) (K (.bool false))
    | .neq => bcase (a == b) (K (.bool false)) (K (.bool true))
    | _ => False
  | _, _ => False
def cellB (z x y : V) : Option Bool :=
  match z, x, y with
  | .int _ _, .int k a, .int k' b => bif decide (k = k') then some (a == b) else none
  | .str _, .str a, .str b => some (a == b)
  | .bool _, .bool a, .bool b => some (a == b)
  | _, _, _ => none
noncomputable def eqsB (z : List V) : List V → List V → Option Bool :=
  List.rec (motive := fun _ => List V → List V → Option Bool) (fun xs ys => match xs, ys with | [], [] => some true | _, _ => none)
    (fun z _ ih xs ys => match xs, ys with
      | x :: xs, y :: ys => match cellB z x y, ih xs ys with
        | some a, some b => some (a && b)
        | _, _ => none
      | _, _ => none) z
theorem eqsB_cons (z : V) (r xs ys : List V) : eqsB (z :: r) xs ys = match xs, ys with
      | x :: xs, y :: ys => match cellB z x y, eqsB r xs ys with
        | some a, some b => some (a && b)
        | _, _ => none
      | _, _ => none := rfl
def flatB (z : List V) : Bool := z.all fun | .int _ _ | .str _ | .bool _ => true | _ => false
def isNilIface : Operand → Bool
  | .const .nilIface => true
  | _ => false
def nilCmp (op : BinOp) (ty : Option Ty) (v : V) (K : V → Prop) : Prop :=
  match ty with
  | some (.sc .nili) => match op, v with
    | .eql, .nili => K (.bool true)
    | .eql, .iface _ _ => K (.bool false)
    | .neq, .nili => K (.bool false)
    | .neq, .iface _ _ => K (.bool true)
    | _, _ => False
  | _ => False
def nilSl (op : BinOp) (ty : Option Ty) (v : V) (K : V → Prop) : Prop :=
  match ty with
  | some (.slice _ _ _) => match op, v with
    | .eql, .slice _ es _ => ∀ b : Bool, (b = true → es = []) → K (.bool b)
    | .neq, .slice _ es _ => ∀ b : Bool, (b = false → es = []) → K (.bool b)
    | _, _ => False
  | _ => False
def aggCmp (op : BinOp) (ty : Option Ty) (xs : List V) (y : V) (K : V → Prop) : Prop :=
  match ty, y with
  | some (.struct _ z), .agg ys => chk (flatB z) (match eqsB z xs ys with
    | some b => match op with
      | .eql => bcase b (K (.bool true)) (K (.bool false))
      | .neq => bcase b (K (.bool false)) (K (.bool true))
      | _ => False
    | none => False)
  | _, _ => False
def boolCmp (op : BinOp) (ty : Option Ty) (a : Bool) (y : V) (K : V → Prop) : Prop :=
  match ty, y with
  | some (.sc (.bool _)), .bool b => match op with
    | .eql => bcase a (bcase b (K (.bool true)) (K (.bool false))) (bcase b (K (.bool false)) (K (.bool true)))
    | .neq => bcase a (bcase b (K (.bool false)) (K (.bool true))) (bcase b (K (.bool true)) (K (.bool false)))
    | _ => False
  | _, _ => False
def binT (op : BinOp) (ty : Option Ty) (x y : V) (K : V → Prop) : Prop :=
  match x with
  | .agg xs => aggCmp op ty xs y K
  | .bool a => boolCmp op ty a y K
  | x => bin op x y K
def V.noIt : V → Bool
  | .sit _ _ => false
  | _ => true
def noIt : List V → Bool
  | [v] => v.noIt
  | _ => true
def loadFrom (cs : List V) (off : Nat) (ty : Option Ty) (K : V → Prop) : Prop :=
  chk (noIt cs) (match ty with
  | some (.struct _ z) =>
    match Nat.beq off 0 && Nat.beq z.length cs.length with
    | true => K (.agg cs)
    | false => chk (Nat.ble (off + z.length) cs.length) (forceL ((cs.drop off).take z.length) fun l => K (.agg l))
  | some (.arr _ _) => False
  | some _ => match cs[off]? with | some v => v.force K | none => False
  | none => False)
def storeTo (cs : List V) (off : Nat) (new : List V) (K : List V → Prop) : Prop :=
  chk (noIt cs) (chk (Nat.ble (off + new.length) cs.length) (chk (new.all V.sc) (forceL (cs.take off ++ new ++ cs.drop (off + new.length)) K)))
def fillV (offs : List (Nat × Nat)) (cs : List V) (l : List (Nat × V)) : (List V → Prop) → Prop :=
  List.rec (motive := fun _ => List V → (List V → Prop) → Prop) (fun cs K => forceL cs K) (fun p _ ih cs K => match offs[p.1]? with
    | some (off, size) => chk (Nat.beq p.2.cells.length size) (chk (Nat.ble (off + size) cs.length) (ih (cs.take off ++ p.2.cells ++ cs.drop (off + size)) K))
    | none => False) l cs
theorem fillV_cons (offs : List (Nat × Nat)) (cs : List V) (i : Nat) (v : V) (r : List (Nat × V)) (K : List V → Prop) : fillV offs cs ((i, v) :: r) K = (match offs[i]? with
    | some (off, size) => chk (Nat.beq v.cells.length size) (chk (Nat.ble (off + size) cs.length) (fillV offs (cs.take off ++ v.cells ++ cs.drop (off + size)) r K))
    | none => False) := rfl
def evParts (env : Env) (l : List (Nat × Operand)) : (List (Nat × V) → Prop) → Prop :=
  List.rec (motive := fun _ => (List (Nat × V) → Prop) → Prop) (fun K => K []) (fun p _ ih K => (env.eval p.2).force fun v => chk v.known (ih fun vs => K ((p.1, v) :: vs))) l
theorem evParts_cons (env : Env) (i : Nat) (x : Operand) (r : List (Nat × Operand)) (K : List (Nat × V) → Prop) :
    evParts env ((i, x) :: r) K = (env.eval x).force fun v => chk v.known (evParts env r fun vs => K ((i, v) :: vs)) := rfl
def seqFrom : Nat → List (Nat × Operand) → Bool
  | _, [] => true
  | n, (i, _) :: r => Nat.beq i n && seqFrom (n + 1) r
def Env.isGl (e : Env) (d : Option Nat) : Bool := match d with | some t => e.gl.any (Nat.beq t) | none => false
def newBox (env : Env) (st : St) (d : Option Nat) (cs : List V) (K : V → Env → St → Prop) : Prop :=
  match env.isGl d with
  | true => forceL cs fun cs => ∀ b, st.fresh b → K (.ptr b 0) env (st.setBox b cs)
  | false => forceL cs fun cs => match env with
    | ⟨ts, bs, n, sz, gl⟩ => K (.lptr n 0) ⟨ts, (n, cs) :: bs, n + 1, sz, gl⟩ st
def appendTo (sz bytes : Nat) (es : List (List V)) (own : Own) (new : List (List V)) (st : St) (K : V → St → Prop) : Prop :=
  (es.length + new.length) * bytes ≤ 140737488355328 ∧ es.length + new.length < lim ∧ chk (new.all fun v => v.all V.sc) (
  match own with
  | .any => False
  | .full => (new = [] → K (.slice sz es .full) st) ∧
      (new ≠ [] → (∀ b, st.fresh b → K (.slice sz (es ++ new.map (·.map V.wk0)) (.tok b)) (st.setHw b ((es.length + new.length) * sz))) ∨
        ∀ b cap m, st.fresh b → (es.length + new.length) * sz + m = cap * sz → K (.mrow sz b (es.length + new.length) cap) (st.setBox b ((es ++ new.map (·.map V.wk0)).flatten ++ List.replicate m .junk)))
  | .tok b => st.hw b = some (es.length * sz) ∧
      ∀ b', (b' = b ∨ st.fresh b') → K (.slice sz (es ++ new.map (·.map V.wk0)) (.tok b')) ((st.dropHw b).setHw b' ((es.length + new.length) * sz)))
def appendRow (sz bytes b n cap : Nat) (new : List (List V)) (st : St) (K : V → St → Prop) : Prop :=
  (n + new.length) * bytes ≤ 140737488355328 ∧ n + new.length < lim ∧ chk (new.all fun v => v.all V.sc) (new ≠ [] ∧ ∃ cs, st.box b = some cs ∧ cs.length = cap * sz ∧
    ∀ b' cap' m, (b' = b ∨ st.fresh b') → (n + new.length) * sz + m = cap' * sz → K (.mrow sz b' (n + new.length) cap') (st.setBox b' (cs.take (n * sz) ++ (new.map (·.map V.wk0)).flatten ++ List.replicate m .junk)))
def Own.st (st : St) (n : Nat) : Own → St
  | .tok b => st.setHw b n
  | _ => st
def Own.good (st : St) : Own → Prop
  | .full => True
  | .tok b => st.fresh b
  | .any => False
theorem appendTo_own {sz bytes : Nat} {es : List (List V)} {own : Own} {new : List (List V)} {st : St} {K : V → St → Prop} (h : own.good st)
    (h1 : (es.length + new.length) * bytes ≤ 140737488355328) (h2 : es.length + new.length < lim) (h3 : (new.all fun v => v.all V.sc) = true)
    (k : ∀ own' : Own, own'.good st → K (.slice sz (es ++ new.map (·.map V.wk0)) own') (own'.st st ((es.length + new.length) * sz))) :
    appendTo sz bytes es own new (own.st st (es.length * sz)) K := by
  refine ⟨h1, h2, chk_intro h3 ?_⟩
  cases own with
  | any => exact h.elim
  | full => exact ⟨fun e => by have := k .full trivial; subst e; simpa using this, fun _ => .inl fun b hb => k (.tok b) hb⟩
  | tok b =>
    refine ⟨by simp [Own.st, St.setHw], fun b' hb' => ?_⟩
    have hf : st.fresh b := h
    have e : (st.setHw b (es.length * sz)).dropHw b = st := by
      cases st
      simp only [St.setHw, St.dropHw, St.mk.injEq, true_and]
      funext x
      split
      · rename_i e; subst e; exact hf.2.symm
      · rfl
    show K _ (((st.setHw b (es.length * sz)).dropHw b).setHw b' _)
    rw [e]
    refine k (.tok b') ?_
    rcases hb' with rfl | hb'
    · exact hf
    · refine ⟨hb'.1, ?_⟩
      have := hb'.2
      simp only [Own.st, St.setHw] at this
      split at this
      · cases this
      · exact this
theorem Own.good_le {st : St} {own : Own} {n : Nat} (h : own.good st) : st.le (own.st st n) := by
  cases own with
  | any => exact h.elim
  | full => exact St.le_refl _
  | tok b => exact St.le_setHw (St.le_refl _) (show st.fresh b from h).2 n
section
variable (P : Program) (T : List (Nat × Ty)) (C : FuncId → List V → St → (Res → St → Prop) → Prop)
def decR : List UInt8 → Nat × Nat
  | [] => (0, 1)
  | a :: l =>
    let cont (k : Nat) : Bool := match l[k]? with | some b => b.toNat / 64 == 2 | none => false
    let at' (k : Nat) : Nat := (l.getD k 0).toNat
    if a.toNat < 128 then (a.toNat, 1)
    else if a.toNat / 32 == 6 && cont 0 then
      (if a.toNat % 32 * 64 + at' 0 % 64 ≥ 128 then (a.toNat % 32 * 64 + at' 0 % 64, 2) else (65533, 1))
    else if a.toNat / 16 == 14 && cont 0 && cont 1 then
      (if a.toNat % 16 * 4096 + at' 0 % 64 * 64 + at' 1 % 64 ≥ 2048 && Utf8.valid ((a.toNat % 16 * 4096 + at' 0 % 64 * 64 + at' 1 % 64 : Nat) : Int) then (a.toNat % 16 * 4096 + at' 0 % 64 * 64 + at' 1 % 64, 3) else (65533, 1))
    else if a.toNat / 8 == 30 && cont 0 && cont 1 && cont 2 then
      (if a.toNat % 8 * 262144 + at' 0 % 64 * 4096 + at' 1 % 64 * 64 + at' 2 % 64 ≥ 65536 && Utf8.valid ((a.toNat % 8 * 262144 + at' 0 % 64 * 4096 + at' 1 % 64 * 64 + at' 2 % 64 : Nat) : Int) then (a.toNat % 8 * 262144 + at' 0 % 64 * 4096 + at' 1 % 64 * 64 + at' 2 % 64, 4) else (65533, 1))
    else (65533, 1)
def opWp (o : Oper) (env : Env) (st : St) (K : V → Env → St → Prop) (Q : AExit → Env → St → Prop) : Prop :=
  match o.op with
  | .move x | .assign x => (env.evalT T o.type x).force fun v => K v env st
  | .pick c a b => match env.eval c with
    | .bool t => lit t ((env.evalT T o.type a).force fun v => K v env st) ((env.evalT T o.type b).force fun v => K v env st)
    | _ => False
  | .alloc t => match assoc T t with
    | some ty => newBox env st o.dst ty.zero.cells K
    | none => False
  | .box t x => (env.evalT T t x).force fun v => chk v.known (newBox env st o.dst v.cells K)
  | .build t parts => match assoc T t with
    | some (.struct offs z) => evParts env parts.toList fun ps => fillV offs z ps fun cs => K (.agg cs) env st
    | some (.arr offs z) => evParts env parts.toList fun ps => fillV offs z ps fun cs => K (.agg cs) env st
    | _ => False
  | .buildSlice t len parts => match assoc T t with
    | some (.slice _ sz _) => chk (seqFrom 0 parts.toList) (chk (Nat.beq len parts.toList.length) (chk (Nat.ble (len * sz) 16777216)
      (evs env (parts.toList.map (·.2)) fun vs => chk (vs.all fun v => v.known && Nat.beq v.cells.length sz) (forceLL (vs.map fun v => v.cells.map V.wk0) fun es => K (.slice sz es .full) env st))))
    | _ => False
  | .load t x => match env.eval x with
    | .lptr id off => match assoc env.boxes id with
      | some cs => loadFrom cs off (assoc T t) (fun v => K v env st)
      | none => False
    | .ptr b off => ∃ cs, st.box b = some cs ∧ loadFrom cs off (assoc T t) (fun v => K v env st)
    | .eptr e off => loadFrom e off (assoc T t) (fun v => K v env st)
    | _ => False
  | .store t x y => match env.eval x with
    | .lptr id off => match assoc env.boxes id, assoc T t with
      | some cs, some ty => match env with
        | ⟨ts, bs, n, sz, gl⟩ => (Env.evalT T ⟨ts, bs, n, sz, gl⟩ t y).force fun v => chk (v.known && Nat.beq v.cells.length ty.zero.cells.length)
          (storeTo cs off v.cells fun cs' => K .junk ⟨ts, (id, cs') :: bs, n, sz, gl⟩ st)
      | _, _ => False
    | .ptr b off => match assoc T t with
      | some ty => ∃ cs, st.box b = some cs ∧ (env.evalT T t y).force fun v => chk (v.known && Nat.beq v.cells.length ty.zero.cells.length)
          (storeTo cs off v.cells fun cs' => K .junk env (st.setBox b cs'))
      | none => False
    | _ => False
  | .nilCheck x => match env.eval x with
    | .lptr id off => K (.lptr id off) env st
    | .ptr b off => K (.ptr b off) env st
    | .eptr e off => K (.eptr e off) env st
    | _ => False
  | .fieldAddr t x f => match assoc T t, env.eval x with
    | some (.struct offs _), .lptr id off => match offs[f]? with | some (o, s) => chk (Nat.blt 0 s) (K (.lptr id (off + o)) env st) | none => False
    | some (.struct offs _), .ptr b off => match offs[f]? with | some (o, s) => chk (Nat.blt 0 s) (K (.ptr b (off + o)) env st) | none => False
    | some (.struct offs _), .eptr e off => match offs[f]? with | some (o, s) => chk (Nat.blt 0 s) (K (.eptr e (off + o)) env st) | none => False
    | _, _ => False
  | .binOp op t x y _ => match isNilIface y with
    | true => nilCmp op (assoc T t) (env.eval x) fun v => K v env st
    | false => match isNilSlice y with
      | true => nilSl op (assoc T t) (env.eval x) fun v => K v env st
      | false => binT op (assoc T t) (env.eval x) (env.eval y) fun v => K v env st
  | .makeInterface t x => match assoc T t with
    | some (.sc .nili) => False
    | some _ => (env.evalT T t x).force fun v => chk v.known (K (.iface t v) env st)
    | none => False
  | .typeAssert x _ t ok => match assoc T t with
    | some (.sc .nili) => False
    | some ty => match env.eval x with
      | .iface t' v => bif Nat.beq t' t then chk v.known (bif ok then K (.tup [v, .bool true]) env st else v.force fun v => K v env st) else chk ok (K (.tup [ty.zero, .bool false]) env st)
      | .nili => chk ok (K (.tup [ty.zero, .bool false]) env st)
      | _ => False
    | none => False
  | .panic x => match env.eval x with
    | .iface t v => Q (.pan (.iface t v)) env st
    | _ => False
  | .slice t x lo (some hi) (some mx) => match assoc T t, env.eval x with
    | some (.slice _ sz' _), .slice sz es _ =>
      match (lo.map env.eval).getD (.int .i64 0), env.eval hi, env.eval mx with
      | .int _ l, .int _ h, .int _ m => chk (Nat.beq sz' sz) ((0 ≤ l ∧ l ≤ h ∧ h = m ∧ m ≤ es.length) ∧ ∀ es', es' = (es.take h.toNat).drop l.toNat → K (.slice sz es' .full) env st)
      | _, _, _ => False
    | _, _ => False
  | .unOp op _ x => match op, env.eval x with
    | .not, .bool b => lit b (K (.bool false) env st) (K (.bool true) env st)
    | .neg, .int k n => ∃ r, r = k.wrap (0 - n) ∧ K (.int k r) env st
    | _, _ => False
  | .makeFunc (.func f) first cap => evs env first.toList fun a => evs env cap.toList fun c => K (.func f a c) env st
  | .indexAddr t x i => match assoc T t, env.eval x, env.eval i with
    | some (.slice _ sz' _), .slice sz es _, .int _ n => chk (Nat.beq sz' sz) (0 ≤ n ∧ ∃ e, es[n.toNat]? = some e ∧ K (.eptr e 0) env st)
    | some (.slice _ sz' _), .mrow sz b m _, .int _ n => chk (Nat.beq sz' sz) ((0 ≤ n ∧ n < (m : Int)) ∧ ∀ k, k = n.toNat * sz → K (.ptr b k) env st)
    | _, _, _ => False
  | .index t x i => match assoc T t, env.eval x, env.eval i with
    | some (.sc (.str _)), .str s, .int _ n => 0 ≤ n ∧ ∃ e, s[n.toNat]? = some e ∧ K (.int .u8 e.toNat) env st
    | _, _, _ => False
  | .slice t x lo hi none => match assoc T t, env.eval x with
    | some (.slice _ sz' _), .slice sz es _ =>
      match (lo.map env.eval).getD (.int .i64 0), (hi.map env.eval).getD (.int .i64 es.length) with
      | .int _ l, .int _ h => chk (Nat.beq sz' sz) ((0 ≤ l ∧ l ≤ h ∧ h ≤ es.length) ∧ ∀ es', es' = (es.take h.toNat).drop l.toNat → K (.slice sz es' .any) env st)
      | _, _ => False
    | some (.sc (.str _)), .str s =>
      match (lo.map env.eval).getD (.int .i64 0), (hi.map env.eval).getD (.int .i64 s.length) with
      | .int _ l, .int _ h => (0 ≤ l ∧ l ≤ h ∧ h ≤ s.length) ∧ ∀ s', s' = (s.take h.toNat).drop l.toNat → K (.str s') env st
      | _, _ => False
    | some (.slice _ sz' _), .mrow sz b n cap =>
      match (lo.map env.eval).getD (.int .i64 0), (hi.map env.eval).getD (.int .i64 n) with
      | .int _ l, .int _ h => chk (Nat.beq sz' sz) ((l = 0 ∧ 0 ≤ h ∧ h ≤ n) ∧ ∀ k, k = h.toNat → K (.mrow sz b k cap) env st)
      | _, _ => False
    | _, _ => False
  | .field t x f => match assoc T t, env.eval x with
    | some (.struct offs _), .agg cs => match offs[f]? with
      | some (o, 1) => match cs[o]? with | some v => v.force fun v => K v env st | none => False
      | _ => False
    | _, _ => False
  | .extract x i => match env.eval x with
    | .tup vs => match vs[i]? with | some v => v.force fun v => K v env st | none => False
    | _ => False
  | .convert t u x => match assoc T t, assoc T u, env.eval x with
    | some (.sc (.int _ _)), some (.sc (.int k' _)), .int _ n => ∃ r, r = k'.wrap n ∧ K (.int k' r) env st
    | _, _, _ => False
  | .range t x => match assoc T t, env.eval x with
    | some (.sc (.str _)), .str s => chk (!env.isGl o.dst) (match env with
      | ⟨ts, bs, n, sz, gl⟩ => K (.lptr n 0) ⟨ts, (n, [.sit s 0]) :: bs, n + 1, sz, gl⟩ st)
    | _, _ => False
  | .next x true => match env.eval x with
    | .lptr id 0 => match assoc env.boxes id with
      | some [.sit s pos] => match env with
        | ⟨ts, bs, n, sz, gl⟩ => bcase (decide (pos < s.length)) (∀ c m, (c, m) = decR (s.drop pos) → K (.tup [.bool true, .int .i64 pos, .int .i32 c]) ⟨ts, (id, [.sit s (pos + m)]) :: bs, n, sz, gl⟩ st) (K (.tup [.bool false]) ⟨ts, bs, n, sz, gl⟩ st)
      | _ => False
    | _ => False
  | .makeSlice t l c => match assoc T t, env.eval l, env.eval c with
    | some (.slice el sz bytes), .int _ n, .int _ m => (0 ≤ n ∧ n ≤ m ∧ m * bytes ≤ 140737488355328 ∧ m < lim) ∧
      ((n = 0 ∧ ∀ b, st.fresh b → K (.slice sz [] (.tok b)) env (st.setHw b 0)) ∨
       (n = m ∧ match assoc T el with | some ty => ∀ b k, st.fresh b → k = n.toNat → K (.mrow sz b k k) env (st.setBox b (List.replicate k ty.zero.cells).flatten) | none => False))
    | _, _, _ => False
  | .call c => match c.callee with
    | .builtin .len => match c.args.toList.map env.eval, c.argTypes.toList.map (assoc T) with
      | [.slice _ es _], [some (.slice _ _ _)] => ∀ m : Nat, m = es.length → m < lim → K (.int .i64 m) env st
      | [.str s], [some (.sc (.str _))] => s.length < lim → K (.int .i64 s.length) env st
      | [.mrow _ _ n _], [some (.slice _ _ _)] => n < lim → K (.int .i64 n) env st
      | _, _ => False
    | .builtin .min => match c.args.toList.map env.eval with
      | [.int k a, .int k' b] => chk (decide (k = k')) (∃ r, r = (if b < a then b else a) ∧ K (.int k r) env st)
      | _ => False
    | .builtin .max => match c.args.toList.map env.eval with
      | [.int k a, .int k' b] => chk (decide (k = k')) (∃ r, r = (if a < b then b else a) ∧ K (.int k r) env st)
      | _ => False
    | .builtin .append => match c.args.toList, c.argTypes.toList with
      | [x, y], [t, u] => match assoc T t, assoc T u, env.evalT T t x, env.evalT T u y with
        | some (.slice _ sz bytes), some (.slice _ _ _), .slice sz' es own, .slice sz'' new _ =>
          chk (Nat.beq t u && (Nat.beq sz sz' && Nat.beq sz sz'')) (appendTo sz bytes es own new st fun v st' => K v env st')
        | some (.slice _ sz bytes), some (.slice _ _ _), .mrow sz' b n cap, .slice sz'' new _ =>
          chk (Nat.beq t u && (Nat.beq sz sz' && Nat.beq sz sz'')) (appendRow sz bytes b n cap new st fun v st' => K v env st')
        | _, _, _, _ => False
      | _, _ => False
    | .value f => match env.eval f with
      | .func f a cap => evsT T env c.argTypes.toList c.args.toList fun vs => forceL (a ++ (vs ++ cap)) fun vs => C f vs st fun r st' => match r with
        | .ret v => v.back fun v => K v env st'
        | .pan v => Q (.pan v) env st'
      | _ => False
    | _ => False
  | _ => False
def Env.go (env : Env) (d : Option Nat) (v : V) (K : Env → Prop) : Prop :=
  match env, d with
  | ⟨ts, bs, n, sz, gl⟩, some t => chk (Nat.blt t sz) (K ⟨(t, v) :: ts, bs, n, sz, gl⟩)
  | e, none => K e
def guardWp (all : List Oper) (o : Oper) (env : Env) (yes no : Prop) : Prop :=
  match o.guard with
  | none => yes
  | some (j, want) =>
    match ((all[j]?).bind (·.dst)).map env.get with
    | some (.bool b) => bif want then lit b yes no else lit b no yes
    | some (.tup []) => no
    | _ => False
def opsWp (all : List Oper) (Q : AExit → Env → St → Prop) (l : List Oper) : Env → St → Prop :=
  List.rec (motive := fun _ => Env → St → Prop) (fun env st => Q .normal env st)
    (fun o _ ih env st => guardWp all o env (opWp T C o env st (fun v env st => env.go o.dst v fun env => ih env st) Q) (env.go o.dst (.tup []) fun env => ih env st)) l
theorem opsWp_cons (all : List Oper) (Q : AExit → Env → St → Prop) (o : Oper) (r : List Oper) (env : Env) (st : St) : opsWp T C all Q (o :: r) env st =
    guardWp all o env (opWp T C o env st (fun v env st => env.go o.dst v fun env => opsWp T C all Q r env st) Q) (env.go o.dst (.tup []) fun env => opsWp T C all Q r env st) := rfl
noncomputable def Env.only (env : Env) (bs : List (Nat × List V)) (slots : List Nat) : Env := { env with tmps := slots.map fun t => (t, env.get t), boxes := bs }
def Oper.slots (all : List Oper) (o : Oper) : List Nat :=
  (o.op.operands.toList.filterMap fun | .tmp t => some t | _ => none) ++ (match o.guard with | some (j, _) => ((all[j]?).bind (·.dst)).toList | none => [])
def quietWp (all : List Oper) (o : Oper) (bs : List (Nat × List V)) (env : Env) (st : St) (v : V) : Prop :=
  opWp T C o (env.only bs (Oper.slots all o)) st (fun v' e s => v' = v ∧ e = env.only bs (Oper.slots all o) ∧ s = st) (fun _ _ _ => False)
noncomputable def sid (env : Env) (o : Oper) : Option Nat := match o.op with
  | .store _ x _ => match env.eval x with
    | .lptr id _ => some id
    | _ => none
  | _ => none
noncomputable def headK (env : Env) (all : List Oper) (o : Oper) : Bool :=
  match o.op with
  | .store _ (.tmp x) _ => !(all.any fun p => p.dst == some x) && (match env.get x with | .lptr _ _ => true | _ => false)
  | .store _ _ _ => false
  | .call ⟨.builtin .append, _, _⟩ => false
  | .range _ _ | .next _ _ | .makeSlice _ _ _ => false
  | _ => true
def headScan (env : Env) (all : List Oper) (l : List Oper) : (Nat → List (Option Nat) → Prop) → Prop :=
  List.rec (motive := fun _ => (Nat → List (Option Nat) → Prop) → Prop) (fun K => K 0 [])
    (fun o _ ih K => Bool.rec (motive := fun _ => Prop) (K 0 []) (match sid env o with
      | some id => ih fun k L => K (k + 1) (some id :: L)
      | none => ih fun k L => K (k + 1) (none :: L)) (headK env all o)) l
theorem headScan_cons (env : Env) (all : List Oper) (o : Oper) (r : List Oper) (K : Nat → List (Option Nat) → Prop) : headScan env all (o :: r) K = Bool.rec (motive := fun _ => Prop) (K 0 []) (match sid env o with
      | some id => headScan env all r fun k L => K (k + 1) (some id :: L)
      | none => headScan env all r fun k L => K (k + 1) (none :: L)) (headK env all o) := rfl
def nodupO : List (Option Nat) → Bool
  | [] => true
  | none :: r => nodupO r
  | some a :: r => !(r.contains (some a)) && nodupO r
noncomputable def dropIds (L : List (Option Nat)) (bs : List (Nat × List V)) : List (Nat × List V) :=
  List.rec (motive := fun _ => List (Nat × List V)) [] (fun p _ ih => Bool.rec (motive := fun _ => List (Nat × List V)) (p :: ih) ih (L.contains (some p.1))) bs
def Env.up (env : Env) (K : Env → Prop) : Prop := match env with | ⟨ts, bs, n, sz, gl⟩ => K ⟨ts, bs, n + 1, sz, gl⟩
def Env.newHead (env : Env) (cs : List V) (K : V → Env → Prop) : Prop := forceL cs fun cs => match env with | ⟨ts, bs, n, sz, gl⟩ => K (.lptr n 0) ⟨ts, (n, cs) :: bs, n, sz, gl⟩
def headOne (all : List Oper) (o : Oper) (b1 b0 : List (Nat × List V)) (env : Env) (st : St) (K : V → Env → Prop) : Prop :=
  match o.op with
  | .alloc t => match assoc T t with
    | some ty => chk (!env.isGl o.dst) (env.newHead ty.zero.cells K)
    | none => False
  | .box t x => chk (!env.isGl o.dst) ((env.evalT T t x).force fun v => chk v.known (env.newHead v.cells K))
  | .store t x y => match env.eval x with
    | .lptr id off => match assoc b1 id, assoc T t with
      | some cs, some ty => match env with
        | ⟨ts, bs, n, sz, gl⟩ => (Env.evalT T ⟨ts, bs, n, sz, gl⟩ t y).force fun v => chk (v.known && Nat.beq v.cells.length ty.zero.cells.length)
          (storeTo cs off v.cells fun cs' => K .junk ⟨ts, (id, cs') :: bs, n, sz, gl⟩)
      | _, _ => False
    | _ => False
  | _ => ∃ v, quietWp T C all o b0 env st v ∧ v.part fun v => K v env
def headWp (all : List Oper) (Q : AExit → Env → St → Prop) (e0 : Env) (b1 b0 : List (Nat × List V)) (l : List Oper) : Env → St → Prop :=
  List.rec (motive := fun _ => Env → St → Prop) (fun env st => Q .normal env st)
    (fun o r ih env st => Bool.rec (motive := fun _ => Prop) (opsWp T C all Q (o :: r) env st)
      (guardWp all o env (headOne T C all o b1 b0 env st fun v env => env.go o.dst v fun env => env.up fun env => ih env st) (env.go o.dst (.tup []) fun env => env.up fun env => ih env st)) (headK e0 all o)) l
theorem headWp_cons (all : List Oper) (Q : AExit → Env → St → Prop) (e0 : Env) (b1 b0 : List (Nat × List V)) (o : Oper) (r : List Oper) (env : Env) (st : St) : headWp T C all Q e0 b1 b0 (o :: r) env st =
    Bool.rec (motive := fun _ => Prop) (opsWp T C all Q (o :: r) env st)
      (guardWp all o env (headOne T C all o b1 b0 env st fun v env => env.go o.dst v fun env => env.up fun env => headWp T C all Q e0 b1 b0 r env st) (env.go o.dst (.tup []) fun env => env.up fun env => headWp T C all Q e0 b1 b0 r env st)) (headK e0 all o) := rfl
def thenQ (K : Env → St → Prop) (Q : AExit → Env → St → Prop) : AExit → Env → St → Prop
  | .normal, e, s => K e s
  | x, e, s => Q x e s
def blockQ (id : Nat) (Q : AExit → Env → St → Prop) : AExit → Env → St → Prop
  | .exit id', a, w => bif Nat.beq id' id then Q .normal a w else Q (.exit id') a w
  | e, a, w => Q e a w
noncomputable def V.lptrIn (bs : List (Nat × List V)) : V → Bool
  | .lptr id _ => (assoc bs id).isSome
  | _ => true
def Env.le (env' env : Env) : Prop :=
  env'.sz = env.sz ∧ (∀ t v, assoc env'.tmps t = some v → v = .junk ∨ (assoc env.tmps t = some v ∧ v.lptrIn env'.boxes = true)) ∧
  (∀ id cs, assoc env'.boxes id = some cs → assoc env.boxes id = some cs) ∧ (∀ id cs, assoc env'.boxes id = some cs → id < env'.nxt)
def leTmps (env : Env) (bs : List (Nat × List V)) : List (Nat × V) → Prop
  | [] => True
  | (t, v) :: r => (match assoc env.tmps t with | some u => u = v | none => False) ∧ v.lptrIn bs = true ∧ leTmps env bs r
def leBoxes (env : Env) : List (Nat × List V) → Prop
  | [] => True
  | (t, v) :: r => (match assoc env.boxes t with | some u => u = v | none => False) ∧ leBoxes env r
def Env.leC (env' env : Env) : Prop := env'.sz = env.sz ∧ leTmps env env'.boxes env'.tmps ∧ leBoxes env env'.boxes ∧ (env'.boxes.all fun p => Nat.blt p.1 env'.nxt) = true
theorem assoc_mem {α : Type} : ∀ {l : List (Nat × α)} {t : Nat} {v : α}, assoc l t = some v → (t, v) ∈ l
  | (k, u) :: r, t, v, h => by
    rw [assoc_cons] at h
    cases hk : Nat.beq k t with
    | true =>
      rw [hk] at h
      have := Nat.eq_of_beq_eq_true hk
      simp only [cond_true, Option.some.injEq] at h
      subst h; subst this; exact List.mem_cons_self
    | false => rw [hk] at h; exact List.mem_cons_of_mem _ (assoc_mem h)
theorem leTmps_mem {env : Env} {bs : List (Nat × List V)} : ∀ {l : List (Nat × V)}, leTmps env bs l → ∀ p ∈ l, assoc env.tmps p.1 = some p.2 ∧ p.2.lptrIn bs = true
  | (t, v) :: r, h, p, hp => by
    rcases List.mem_cons.1 hp with rfl | hp
    · refine ⟨?_, h.2.1⟩
      have h1 := h.1
      revert h1
      show (match assoc env.tmps t with | some u => u = v | none => False) → assoc env.tmps t = some v
      cases assoc env.tmps t with
      | none => exact False.elim
      | some u => intro e; rw [e]
    · exact leTmps_mem h.2.2 p hp
theorem leBoxes_mem {env : Env} : ∀ {l : List (Nat × List V)}, leBoxes env l → ∀ p ∈ l, assoc env.boxes p.1 = some p.2
  | (t, v) :: r, h, p, hp => by
    rcases List.mem_cons.1 hp with rfl | hp
    · have h1 := h.1
      revert h1
      show (match assoc env.boxes t with | some u => u = v | none => False) → assoc env.boxes t = some v
      cases assoc env.boxes t with
      | none => exact False.elim
      | some u => intro e; rw [e]
    · exact leBoxes_mem h.2 p hp
theorem Env.le_of {env' env : Env} (h : env'.leC env) : env'.le env := by
  refine ⟨h.1, fun t v ht => .inr (leTmps_mem h.2.1 (t, v) (assoc_mem ht)), fun id cs hb => leBoxes_mem h.2.2.1 (id, cs) (assoc_mem hb), fun id cs hb => ?_⟩
  have := List.all_eq_true.1 h.2.2.2 (id, cs) (assoc_mem hb)
  simpa [Nat.blt_eq] using this
def quietKind : Op → Bool
  | .alloc _ | .box _ _ | .store _ _ _ | .range _ _ | .next _ _ | .makeSlice _ _ _ => false
  | _ => true
def reaches (all : List Oper) : Nat → Nat → Nat → Bool
  | 0, _, _ => false
  | n + 1, i, j => match all[i]? with
    | some o => (o.after.toList.any fun e => Region.binds .any e && Nat.beq e.on j) || o.after.toList.any fun e => Region.binds .any e && Nat.blt j e.on && reaches all n e.on j
    | none => false
def pairOK (all : List Oper) (i j : Nat) (o p : Oper) : Bool :=
  match p.dst with
  | none => true
  | some t => !(o.dst == some t) && (!((Oper.slots all o).contains t) || (if Nat.blt j i then reaches all all.length i j else reaches all all.length j i))
def drawOK (k : Nat) (all : List Oper) : Bool :=
  Nat.ble k all.length && (List.range all.length).all fun i => match all[i]? with
    | none => true
    | some o => (o.after.toList.all fun e => !(Region.binds .any e) || Nat.blt e.on i) &&
      (bif Nat.blt i k then (List.range k).all fun j => Nat.beq i j || match all[j]? with | none => true | some p => pairOK all i j o p
        else (List.range i).all fun j => reaches all all.length i j)
def noSt0 : St := ⟨fun _ => none, fun _ => none⟩
def pureKind : Op → Bool
  | .move _ | .assign _ | .pick _ _ _ | .load _ _ | .fieldAddr _ _ _ | .nilCheck _ | .binOp _ _ _ _ _ | .unOp _ _ _ | .build _ _ | .buildSlice _ _ _ | .extract _ _ | .field _ _ _ | .makeFunc _ _ _ | .index _ _ _ | .indexAddr _ _ _ | .slice _ _ _ _ _ | .makeInterface _ _ | .convert _ _ _ => true
  | .call ⟨.builtin .len, _, _⟩ | .call ⟨.builtin .min, _, _⟩ | .call ⟨.builtin .max, _, _⟩ => true
  | _ => false
def isStore : Op → Bool
  | .store _ _ _ => true
  | _ => false
noncomputable def storesIn (L : List Nat) (env : Env) (o : Oper) : Bool := match o.op with
  | .store _ x _ => match env.eval x with
    | .lptr id _ => L.contains id
    | _ => true
  | _ => true
noncomputable def mixGo (all : List Oper) (l : List (Nat × Bool)) : List Nat → Bool :=
  List.rec (motive := fun _ => List Nat → Bool) (fun _ => true) (fun p r ih done => (match all[p.1]? with
    | some o => (o.after.toList.all fun e => !(Region.binds .any e) || done.contains e.on) && (bif p.2 then pureKind o.op else (quietKind o.op || isStore o.op))
    | none => false) && (!(done.contains p.1) && ((p.2 || r.all fun x => reaches all all.length x.1 p.1) && ih (p.1 :: done)))) l
noncomputable def mixOK (sched : List (Nat × Bool)) (all : List Oper) : Bool :=
  ((List.range all.length).all fun i => sched.any fun p => Nat.beq p.1 i) && (mixGo all sched [] && (List.range all.length).all fun i => (List.range all.length).all fun j => Nat.beq i j || match all[i]?, all[j]? with
    | some o, some p => pairOK all i j o p
    | _, _ => true)
def earlyB (S : List (Nat × Bool)) (all : List Oper) (i : Nat) : Bool := S.all fun x => x.2 || reaches all all.length x.1 i
def storeB (S : List (Nat × Bool)) (all : List Oper) (i : Nat) : Bool := S.all fun x => x.2 || ((match all[x.1]? with | some o => !isStore o.op | none => false) || reaches all all.length x.1 i)
def mixWp (all : List Oper) (S : List (Nat × Bool)) (L : List Nat) (b0 : List (Nat × List V)) (Q : AExit → Env → St → Prop) (l : List (Nat × Bool)) : Env → St → Prop :=
  List.rec (motive := fun _ => Env → St → Prop) (fun env st => Q .normal env st) (fun p _ ih env st => match all[p.1]? with
    | none => False
    | some o => match p.2 with
      | true => guardWp all o env (∃ v, (quietWp T C all o b0 env noSt0 v ∨ (earlyB S all p.1 = true ∧ quietWp T C all o env.boxes env st v) ∨ (storeB S all p.1 = true ∧ quietWp T C all o env.boxes env noSt0 v)) ∧ v.part fun v => env.go o.dst v fun env => ih env st) (env.go o.dst (.tup []) fun env => ih env st)
      | false => guardWp all o env (chk (storesIn L env o) (opWp T C o env st (fun v env st => env.go o.dst v fun env => ih env st) (fun x _ s => ∀ e', Q x e' s))) (env.go o.dst (.tup []) fun env => ih env st)) l
theorem mixWp_cons (all : List Oper) (S : List (Nat × Bool)) (L : List Nat) (b0 : List (Nat × List V)) (Q : AExit → Env → St → Prop) (p : Nat × Bool) (r : List (Nat × Bool)) (env : Env) (st : St) : mixWp T C all S L b0 Q (p :: r) env st = (match all[p.1]? with
    | none => False
    | some o => match p.2 with
      | true => guardWp all o env (∃ v, (quietWp T C all o b0 env noSt0 v ∨ (earlyB S all p.1 = true ∧ quietWp T C all o env.boxes env st v) ∨ (storeB S all p.1 = true ∧ quietWp T C all o env.boxes env noSt0 v)) ∧ v.part fun v => env.go o.dst v fun env => mixWp T C all S L b0 Q r env st) (env.go o.dst (.tup []) fun env => mixWp T C all S L b0 Q r env st)
      | false => guardWp all o env (chk (storesIn L env o) (opWp T C o env st (fun v env st => env.go o.dst v fun env => mixWp T C all S L b0 Q r env st) (fun x _ s => ∀ e', Q x e' s))) (env.go o.dst (.tup []) fun env => mixWp T C all S L b0 Q r env st)) := rfl
def gotoQ (J : Nat → Env → St → Prop) (Q : AExit → Env → St → Prop) : AExit → Env → St → Prop
  | .goto l, e, s => J l e s
  | x, e, s => Q x e s
abbrev CW : Type := (AExit → Env → St → Prop) → Env → St → Prop
abbrev CW2 : Type := CW × (Nat → Option CW)
def seqL (la : Option CW) (wb : CW) (lb : Option CW) : Option CW :=
  match la with
  | some f => some fun Q env st => f (thenQ (wb Q) Q) env st
  | none => lb
def scopeWp (w : CW) (lw : Nat → Option CW) (Q : AExit → Env → St → Prop) (env : Env) (st : St) : Prop :=
  ∃ (α : Type) (lab : α → Nat) (E : α → Env) (S : α → St) (J : α → Prop) (μ : α → Nat),
    w (gotoQ (fun l env' st' => ∃ y, lab y = l ∧ J y ∧ (E y).leC env' ∧ St.le (S y) st') Q) env st ∧
    ∀ x, J x → ∃ f, lw (lab x) = some f ∧ f (gotoQ (fun l env' st' => ∃ y, lab y = l ∧ J y ∧ μ y < μ x ∧ (E y).leC env' ∧ St.le (S y) st') Q) (E x) (S x)
noncomputable def awp2 (c : Code) : CW2 :=
  Code.rec (motive := fun _ => CW2)
    ⟨fun Q env st => Q .normal env st, fun _ => none⟩
    (fun _ ops draw => ⟨fun Q env st => Bool.rec (motive := fun _ => Prop) (opsWp T C ops.toList Q ops.toList env st) ((headScan env ops.toList ops.toList fun k L => (drawOK k ops.toList && nodupO L) = true ∧ headWp T C ops.toList Q env env.boxes (dropIds L env.boxes) ops.toList env st) ∨ ∃ (sched : List (Nat × Bool)) (L : List Nat), mixOK sched ops.toList = true ∧ mixWp T C ops.toList sched L (dropIds (L.map some) env.boxes) Q sched env st) draw, fun _ => none⟩)
    (fun _ _ iha ihb => ⟨fun Q env st => iha.1 (thenQ (ihb.1 Q) Q) env st, fun l => seqL (iha.2 l) ihb.1 (ihb.2 l)⟩)
    (fun c _ _ iha ihb => ⟨fun Q env st => match env.eval c with
      | .bool t => lit t (iha.1 Q env st) (ihb.1 Q env st)
      | _ => False, fun _ => none⟩)
    (fun id _ ih => ⟨fun Q env st => ih.1 (blockQ id Q) env st, fun _ => none⟩)
    (fun _ ih => ⟨fun Q env st => ∃ (α : Type) (E : α → Env) (S : α → St) (J : α → Prop) (μ : α → Nat) (x0 : α), J x0 ∧ (E x0).leC env ∧ St.le (S x0) st ∧
      ∀ x, J x → ih.1 (thenQ (fun env' st' => ∃ y, J y ∧ μ y < μ x ∧ (E y).leC env' ∧ St.le (S y) st') Q) (E x) (S x), fun _ => none⟩)
    (fun _ _ _ _ _ _ => ⟨fun _ _ _ => False, fun _ => none⟩)
    (fun id => ⟨fun Q env st => Q (.exit id) env st, fun _ => none⟩)
    (fun _ ih => ⟨fun Q env st => scopeWp ih.1 ih.2 Q env st, fun _ => none⟩)
    (fun l' => ⟨fun Q env st => Q .normal env st, fun l => bif Nat.beq l' l then some fun Q env st => Q .normal env st else none⟩)
    (fun l => ⟨fun Q env st => Q (.goto l) env st, fun _ => none⟩)
    ⟨fun Q env st => Q .ret env st, fun _ => none⟩
    (fun _ => ⟨fun _ _ _ => False, fun _ => none⟩) c
noncomputable def awp (c : Code) (Q : AExit → Env → St → Prop) (env : Env) (st : St) : Prop := (awp2 T C c).1 Q env st
def oneRet (env : Env) (st : St) (x : ResultVar) (K : V → Prop) : Prop :=
  match x with
  | .tmp t => (env.get t).force fun v => chk v.plain (K v)
  | .cell x t => match env.get x with
    | .lptr id off => match assoc env.boxes id with
      | some cs => loadFrom cs off (assoc T t) fun v => K v
      | none => False
    | .ptr b off => ∃ cs, st.box b = some cs ∧ loadFrom cs off (assoc T t) fun v => K v
    | _ => False
def forceRet (env : Env) (st : St) (l : List ResultVar) : (List V → Prop) → Prop :=
  List.rec (motive := fun _ => (List V → Prop) → Prop) (fun K => K []) (fun x _ ih K => oneRet T env st x fun v => ih fun vs => K (v :: vs)) l
theorem forceRet_cons (env : Env) (st : St) (x : ResultVar) (r : List ResultVar) (K : List V → Prop) : forceRet T env st (x :: r) K = oneRet T env st x fun v => forceRet T env st r fun vs => K (v :: vs) := rfl
def resPost (fn : Func) (R : Res → St → Prop) : AExit → Env → St → Prop
  | .normal, env, st | .ret, env, st => forceRet T env st fn.results.toList fun vs =>
    match vs with
    | [v] => R (.ret v) st
    | vs => R (.ret (.tup vs)) st
  | .pan v, _, st => R (.pan v) st
  | _, _, _ => False
noncomputable def args0 (i : Nat) (l : List V) : List (Nat × V) :=
  List.rec (motive := fun _ => Nat → List (Nat × V)) (fun _ => []) (fun v _ ih i => (i, v) :: ih (i + 1)) l i
theorem args0_cons (i : Nat) (v : V) (r : List V) : args0 i (v :: r) = (i, v) :: args0 (i + 1) r := rfl
def bodyWp (fn : Func) (gl : List Nat) (args : List V) (st : St) (R : Res → St → Prop) : Prop :=
  match fn.body with
  | some c => chk (Nat.ble args.length fn.ntmps) (awp T C c (resPost T fn R) { tmps := args0 0 args, boxes := [], nxt := 0, sz := fn.ntmps, gl } st)
  | none => False
def Res.wk : Res → Res
  | .ret v => .ret v.wk
  | .pan v => .pan v.wk
end
end Go.Aw
set_option maxHeartbeats 16000000
set_option linter.unusedVariables false
set_option linter.unusedSimpArgs false
namespace Go.Aw
open Go
section
variable {T : List (Nat × Ty)} {C : FuncId → List V → St → (Res → St → Prop) → Prop} {env env' : Env}
theorem evalT_congr {x : Operand} {t : TypeId} (h : env.eval x = env'.eval x) : env.evalT T t x = env'.evalT T t x := by
  unfold Env.evalT
  cases isNilSlice x
  · exact h
  · rfl
theorem evs_congr : ∀ {l : List Operand} {K K' : List V → Prop}, (∀ x ∈ l, env.eval x = env'.eval x) → (∀ vs, K vs → K' vs) → evs env l K → evs env' l K'
  | [], K, K', h, k, e => k _ e
  | x :: r, K, K', h, k, e => by
    rw [evs_cons] at e ⊢
    rw [← h x List.mem_cons_self]
    rw [V.force_iff] at e ⊢
    obtain ⟨e1, e2⟩ := chk_iff.1 e
    exact chk_intro e1 (evs_congr (fun y hy => h y (List.mem_cons_of_mem _ hy)) (fun vs => k _) e2)
theorem evsT_congr : ∀ {l : List Operand} {ts : List TypeId} {K K' : List V → Prop}, (∀ x ∈ l, env.eval x = env'.eval x) → (∀ vs, K vs → K' vs) → evsT T env ts l K → evsT T env' ts l K'
  | [], ts, K, K', h, k, e => k _ e
  | x :: r, ts, K, K', h, k, e => by
    rw [evsT_cons] at e ⊢
    rw [← evalT_congr (h x List.mem_cons_self)]
    rw [V.force_iff] at e ⊢
    obtain ⟨e1, e2⟩ := chk_iff.1 e
    exact chk_intro e1 (evsT_congr (fun y hy => h y (List.mem_cons_of_mem _ hy)) (fun vs => k _) e2)
theorem evParts_congr : ∀ {l : List (Nat × Operand)} {K K' : List (Nat × V) → Prop}, (∀ x ∈ l.map (·.2), env.eval x = env'.eval x) → (∀ vs, K vs → K' vs) → evParts env l K → evParts env' l K'
  | [], K, K', h, k, e => k _ e
  | (i, x) :: r, K, K', h, k, e => by
    rw [evParts_cons] at e ⊢
    rw [← h x (by simp)]
    rw [V.force_iff] at e ⊢
    obtain ⟨e1, e2⟩ := chk_iff.1 e
    exact chk_intro e1 (evParts_congr (fun y hy => h y (List.mem_cons_of_mem _ hy)) (fun vs => k _) e2)
theorem bcase_mono {b : Bool} {p q p' q' : Prop} (h : p → p') (k : q → q') : bcase b p q → bcase b p' q' := fun ⟨x, y⟩ => ⟨fun e => h (x e), fun e => k (y e)⟩
theorem lit_mono {b : Bool} {p q p' q' : Prop} (h : p → p') (k : q → q') : lit b p q → lit b p' q' := by cases b; exact k; exact h
theorem loadFrom_mono {cs : List V} {off : Nat} {ty : Option Ty} {K K' : V → Prop} (h : ∀ v, K v → K' v) : loadFrom cs off ty K → loadFrom cs off ty K' := by
  unfold loadFrom
  intro e
  obtain ⟨e0, e⟩ := chk_iff.1 e
  refine chk_intro e0 ?_
  revert e
  split
  · split
    · exact h _
    · intro e
      obtain ⟨e1, e2⟩ := chk_iff.1 e
      exact chk_intro e1 (forceL_iff.2 (h _ (forceL_iff.1 e2)))
  · exact id
  · split
    · intro e; exact V.force_iff.2 (h _ (V.force_iff.1 e))
    · exact id
  · exact id
theorem fillV_mono {offs : List (Nat × Nat)} : ∀ {l : List (Nat × V)} {cs : List V} {K K' : List V → Prop}, (∀ v, K v → K' v) → fillV offs cs l K → fillV offs cs l K'
  | [], cs, K, K', h, e => forceL_iff.2 (h _ (forceL_iff.1 e))
  | (i, v) :: r, cs, K, K', h, e => by
    rw [fillV_cons] at e ⊢
    split
    · rename_i o s hx
      rw [hx] at e
      obtain ⟨e1, e⟩ := chk_iff.1 e
      obtain ⟨e2, e⟩ := chk_iff.1 e
      exact chk_intro e1 (chk_intro e2 (fillV_mono h e))
    · rename_i hx
      rw [hx] at e
      exact e
theorem bin_mono {op : BinOp} {x y : V} {K K' : V → Prop} (h : ∀ v, K v → K' v) : bin op x y K → bin op x y K' := by
  unfold bin
  split
  · intro e
    obtain ⟨e1, e⟩ := chk_iff.1 e
    refine chk_intro e1 ?_
    cases op <;> first
      | exact e.elim
      | exact bcase_mono (h _) (h _) e
      | (obtain ⟨r, h1, h2⟩ := e; exact ⟨r, h1, h _ h2⟩)
      | (obtain ⟨h0, r, h1, h2⟩ := e; exact ⟨h0, r, h1, h _ h2⟩)
      | (obtain ⟨h0, h1⟩ := e; exact ⟨h0, h _ h1⟩)
  · cases op <;> intro e <;> first
      | exact e.elim
      | exact bcase_mono (h _) (h _) e
      | (obtain ⟨h0, h1⟩ := e; exact ⟨h0, h _ h1⟩)
  · exact id
theorem nilCmp_mono {op : BinOp} {ty : Option Ty} {v : V} {K K' : V → Prop} (h : ∀ v, K v → K' v) : nilCmp op ty v K → nilCmp op ty v K' := by
  unfold nilCmp
  split
  · split <;> first | exact h _ | exact id
  · exact id
theorem nilSl_mono {op : BinOp} {ty : Option Ty} {v : V} {K K' : V → Prop} (h : ∀ v, K v → K' v) : nilSl op ty v K → nilSl op ty v K' := by
  unfold nilSl
  split
  · split <;> first | exact fun k b hb => h _ (k b hb) | exact id
  · exact id
theorem binT_mono {op : BinOp} {ty : Option Ty} {x y : V} {K K' : V → Prop} (h : ∀ v, K v → K' v) : binT op ty x y K → binT op ty x y K' := by
  unfold binT
  split
  · unfold aggCmp
    split
    · intro e
      obtain ⟨e1, e⟩ := chk_iff.1 e
      refine chk_intro e1 ?_
      split at e
      · rename_i b hb
        cases op <;> first | exact bcase_mono (h _) (h _) e | exact e.elim
      · exact e.elim
    · exact id
  · unfold boolCmp
    split
    · split
      · exact bcase_mono (bcase_mono (h _) (h _)) (bcase_mono (h _) (h _))
      · exact bcase_mono (bcase_mono (h _) (h _)) (bcase_mono (h _) (h _))
      · exact id
    · exact id
  · exact bin_mono h
theorem appendTo_mono {sz bytes : Nat} {es : List (List V)} {own : Own} {new : List (List V)} {st : St} {K K' : V → St → Prop} (h : ∀ v s, K v s → K' v s) :
    appendTo sz bytes es own new st K → appendTo sz bytes es own new st K' := by
  unfold appendTo
  rintro ⟨h1, h2, e⟩
  obtain ⟨h3, e⟩ := chk_iff.1 e
  refine ⟨h1, h2, chk_intro h3 ?_⟩
  cases own with
  | any => exact e
  | full => exact ⟨fun g => h _ _ (e.1 g), fun g => (e.2 g).imp (fun k b hb => h _ _ (k b hb)) (fun k b cap m hb hm => h _ _ (k b cap m hb hm))⟩
  | tok b => exact ⟨e.1, fun b' hb => h _ _ (e.2 b' hb)⟩
theorem appendRow_mono {sz bytes b n cap : Nat} {new : List (List V)} {st : St} {K K' : V → St → Prop} (h : ∀ v s, K v s → K' v s) :
    appendRow sz bytes b n cap new st K → appendRow sz bytes b n cap new st K' := by
  unfold appendRow
  rintro ⟨h1, h2, e⟩
  obtain ⟨h3, h4, cs, h5, h6, e⟩ := chk_iff.1 e
  exact ⟨h1, h2, chk_intro h3 ⟨h4, cs, h5, h6, fun b' cap' m hb hm => h _ _ (e b' cap' m hb hm)⟩⟩
theorem opWp_congr (hC : ∀ f args st (R R' : Res → St → Prop), (∀ r s, R r s → R' r s) → C f args st R → C f args st R') {o : Oper} {st st' : St} {K K' : V → Env → St → Prop} {Q Q' : AExit → Env → St → Prop}
    (hq : quietKind o.op = true) (hs : st' = st ∨ (pureKind o.op = true ∧ ∀ b, st.box b = none)) (he : ∀ x ∈ o.op.operands.toList, env.eval x = env'.eval x) (hb : ∀ id cs, assoc env.boxes id = some cs → assoc env'.boxes id = some cs)
    (hK : ∀ v s s', ((st' = st ∧ s' = s) ∨ (s = st ∧ s' = st')) → K v env s → K' v env' s') (hQ : ∀ v s, Q (.pan v) env s → Q' (.pan v) env' s) : opWp T C o env st K Q → opWp T C o env' st' K' Q' := by
  have hk : ∀ v, K v env st → K' v env' st' := fun v => hK v st st' (.inr ⟨rfl, rfl⟩)
  cases ho : o.op <;> simp only [opWp, ho, quietKind, pureKind, Op.operands] at * <;> try exact id
  case move x =>
    rw [← evalT_congr (he x (by simp))]
    intro e; exact V.force_iff.2 (hk _ (V.force_iff.1 e))
  case assign x =>
    rw [← evalT_congr (he x (by simp))]
    intro e; exact V.force_iff.2 (hk _ (V.force_iff.1 e))
  case pick c a b =>
    rw [← he c (by simp), ← evalT_congr (he a (by simp)), ← evalT_congr (he b (by simp))]
    split
    · exact lit_mono (fun e => V.force_iff.2 (hk _ (V.force_iff.1 e))) (fun e => V.force_iff.2 (hk _ (V.force_iff.1 e)))
    · exact id
  case alloc t => cases hq
  case box t x => cases hq
  case store t x y => cases hq
  case range t x => cases hq
  case next x b => cases hq
  case makeSlice t l c => cases hq
  case convert t u x =>
    rw [← he x (by simp)]
    split
    · rintro ⟨r, h1, h2⟩; exact ⟨r, h1, hk _ h2⟩
    · exact id
  case load t x =>
    rw [← he x (by simp)]
    split
    · split
      · rename_i cs hcs
        rw [hb _ _ hcs]
        exact loadFrom_mono fun v => hk v
      · exact False.elim
    · rintro ⟨cs, h1, h2⟩
      rcases hs with rfl | ⟨_, h0⟩
      · exact ⟨cs, h1, loadFrom_mono (fun v => hk v) h2⟩
      · rw [h0] at h1; cases h1
    · exact loadFrom_mono fun v => hk v
    · exact id
  case nilCheck x =>
    rw [← he x (by simp)]
    split <;> first | exact hk _ | exact id
  case fieldAddr t x f =>
    rw [← he x (by simp)]
    split
    · split
      · intro e; obtain ⟨e1, e⟩ := chk_iff.1 e; exact chk_intro e1 (hk _ e)
      · exact id
    · split
      · intro e; obtain ⟨e1, e⟩ := chk_iff.1 e; exact chk_intro e1 (hk _ e)
      · exact id
    · split
      · intro e; obtain ⟨e1, e⟩ := chk_iff.1 e; exact chk_intro e1 (hk _ e)
      · exact id
    · exact id
  case binOp op t x y u =>
    rw [← he x (by simp), ← he y (by simp)]
    split
    · exact nilCmp_mono fun v => hk v
    split
    · exact nilSl_mono fun v => hk v
    · exact binT_mono fun v => hk v
  case makeInterface t x =>
    rw [← evalT_congr (he x (by simp))]
    split
    · exact id
    · intro e
      obtain ⟨e1, e⟩ := chk_iff.1 (V.force_iff.1 e)
      exact V.force_iff.2 (chk_intro e1 (hk _ e))
    · exact id
  case typeAssert x t' t ok =>
    rw [← he x (by simp)]
    split
    · exact id
    · split
      · rename_i u v _
        cases Nat.beq u t with
        | true =>
          intro e
          obtain ⟨e1, e⟩ := chk_iff.1 e
          refine chk_intro e1 ?_
          cases ok with
          | true => exact hk _ e
          | false =>
            have e : v.force fun v => K v env st := e
            show v.force fun v => K' v env' st'
            exact V.force_iff.2 (hk _ (V.force_iff.1 e))
        | false => intro e; obtain ⟨e1, e⟩ := chk_iff.1 e; exact chk_intro e1 (hk _ e)
      · intro e; obtain ⟨e1, e⟩ := chk_iff.1 e; exact chk_intro e1 (hk _ e)
      · exact id
    · exact id
  case panic x =>
    rw [← he x (by simp)]
    split
    · rcases hs with rfl | ⟨h0, _⟩
      · exact hQ _ _
      · cases h0
    · exact id
  case field t x f =>
    rw [← he x (by simp)]
    split
    · split
      · split
        · intro e; exact V.force_iff.2 (hk _ (V.force_iff.1 e))
        · exact id
      · exact id
    · exact id
  case extract x i =>
    rw [← he x (by simp)]
    split
    · split
      · intro e; exact V.force_iff.2 (hk _ (V.force_iff.1 e))
      · exact id
    · exact id
  case unOp op t x =>
    rw [← he x (by simp)]
    split
    · exact lit_mono (hk _) (hk _)
    · rintro ⟨r, h1, h2⟩; exact ⟨r, h1, hk _ h2⟩
    · exact id
  case indexAddr t x i =>
    rw [← he x (by simp), ← he i (by simp)]
    split
    · intro e; obtain ⟨e1, h0, x, h1, h2⟩ := chk_iff.1 e; exact chk_intro e1 ⟨h0, x, h1, hk _ h2⟩
    · intro e; obtain ⟨e1, h0, h1⟩ := chk_iff.1 e; exact chk_intro e1 ⟨h0, fun k hk' => hk _ (h1 k hk')⟩
    · exact id
  case index t x i =>
    rw [← he x (by simp), ← he i (by simp)]
    split
    · rintro ⟨h0, x, h1, h2⟩; exact ⟨h0, x, h1, hk _ h2⟩
    · exact id
  case build t ps =>
    split
    · exact evParts_congr (fun x hx => he x (by simpa using hx)) fun vs => fillV_mono fun v => hk _
    · exact evParts_congr (fun x hx => he x (by simpa using hx)) fun vs => fillV_mono fun v => hk _
    · exact id
  case buildSlice t n ps =>
    split
    · intro e
      obtain ⟨e1, e⟩ := chk_iff.1 e
      obtain ⟨e2, e⟩ := chk_iff.1 e
      obtain ⟨e3, e⟩ := chk_iff.1 e
      refine chk_intro e1 (chk_intro e2 (chk_intro e3 (evs_congr (fun x hx => he x (by simpa using hx)) (fun vs e => ?_) e)))
      obtain ⟨e4, e⟩ := chk_iff.1 e
      exact chk_intro e4 (forceLL_iff.2 (hk _ (forceLL_iff.1 e)))
    · exact id
  case makeFunc fn first cap =>
    cases fn with
    | func f =>
      intro e
      refine evs_congr (fun x hx => he x (by simp only [Array.toList_append, List.mem_append]; exact .inl hx)) (fun a e => ?_) e
      exact evs_congr (fun x hx => he x (by simp only [Array.toList_append, List.mem_append]; exact .inr hx)) (fun c => hk _) e
    | _ => exact id
  case slice t x lo hi mx =>
    cases mx with
    | some mx =>
      cases hi with
      | none => exact id
      | some hi =>
        have h0 : env.eval x = env'.eval x := he x (by simp)
        have h1 : lo.map env.eval = lo.map env'.eval := by
          cases lo with
          | none => rfl
          | some y => exact congrArg some (he y (by simp))
        have h2 : env.eval hi = env'.eval hi := he hi (by simp)
        have h3 : env.eval mx = env'.eval mx := he mx (by simp)
        simp only [← h0, ← h1, ← h2, ← h3]
        split
        · split
          · intro e; obtain ⟨e1, e2, e3⟩ := chk_iff.1 e; exact chk_intro e1 ⟨e2, fun es h => hk _ (e3 es h)⟩
          · exact id
        · exact id
    | none =>
      have h0 : env.eval x = env'.eval x := he x (by simp)
      have h1 : lo.map env.eval = lo.map env'.eval := by
        cases lo with
        | none => rfl
        | some y => exact congrArg some (he y (by simp))
      have h2 : hi.map env.eval = hi.map env'.eval := by
        cases hi with
        | none => rfl
        | some y => exact congrArg some (he y (by simp))
      simp only [← h0, ← h1, ← h2]
      split
      · split
        · intro e; obtain ⟨e1, e2, e3⟩ := chk_iff.1 e; exact chk_intro e1 ⟨e2, fun es h => hk _ (e3 es h)⟩
        · exact id
      · split
        · rintro ⟨e2, e3⟩; exact ⟨e2, fun es h => hk _ (e3 es h)⟩
        · exact id
      · split
        · intro e; obtain ⟨e1, e2, e3⟩ := chk_iff.1 e; exact chk_intro e1 ⟨e2, fun es h => hk _ (e3 es h)⟩
        · exact id
      · exact id
  case call c =>
    have ha : ∀ x ∈ c.args.toList, env.eval x = env'.eval x := fun x hx => he x (by
      simp only [Call.operands]
      cases c.callee <;> simp_all)
    have hm : c.args.toList.map env.eval = c.args.toList.map env'.eval := List.map_congr_left ha
    cases hc : c.callee with
    | invoke r m => simp only [hc]; exact id
    | value f =>
      have hf : env.eval f = env'.eval f := he f (by simp [Call.operands, hc])
      simp only [hc, ← hf]
      rcases hs with rfl | ⟨h0, _⟩
      · split
        · refine evsT_congr ha fun vs e => forceL_iff.2 (hC _ _ _ _ _ ?_ (forceL_iff.1 e))
          rintro (v | v) s e
          · exact V.back_iff.2 (hK _ _ _ (.inl ⟨rfl, rfl⟩) (V.back_iff.1 e))
          · exact hQ _ _ e
        · exact id
      · obtain ⟨callee, az, ts⟩ := c
        cases hc
        cases h0
    | builtin b =>
      cases b <;> simp only [hc] <;> try exact id
      case len =>
        rw [← hm]
        split
        · intro e m h1 h2; exact hk _ (e m h1 h2)
        · intro e h; exact hk _ (e h)
        · intro e h; exact hk _ (e h)
        · exact id
      case min =>
        rw [← hm]
        split
        · intro e; obtain ⟨e1, r, e2, e3⟩ := chk_iff.1 e; exact chk_intro e1 ⟨r, e2, hk _ e3⟩
        · exact id
      case max =>
        rw [← hm]
        split
        · intro e; obtain ⟨e1, r, e2, e3⟩ := chk_iff.1 e; exact chk_intro e1 ⟨r, e2, hk _ e3⟩
        · exact id
      case append =>
        obtain ⟨callee, az, ts⟩ := c
        cases hc
        rcases hs with rfl | ⟨h0, _⟩
        rotate_left
        · cases h0
        split
        · rename_i x y t u hx ht
          rw [← evalT_congr (T := T) (ha x (by rw [hx]; simp)), ← evalT_congr (T := T) (ha y (by rw [hx]; simp))]
          split
          · intro e; obtain ⟨e1, e⟩ := chk_iff.1 e; exact chk_intro e1 (appendTo_mono (fun v s => hK v s s (.inl ⟨rfl, rfl⟩)) e)
          · intro e; obtain ⟨e1, e⟩ := chk_iff.1 e; exact chk_intro e1 (appendRow_mono (fun v s => hK v s s (.inl ⟨rfl, rfl⟩)) e)
          · exact id
        · exact id
end
end Go.Aw
set_option maxHeartbeats 16000000
namespace Go.Aw
open Go
structure gtab (c : Nat → Nat → Option Value) (s : Nat → Option Nat) : Prop where
  first : ∀ i, i < 256 → c 0 i = some (.int .u8 (Lib.firstT i))
  accept : ∀ i, i < 16 → c 1 (2 * i) = some (.int .u8 (Lib.accLo i)) ∧ c 1 (2 * i + 1) = some (.int .u8 (Lib.accHi i))
  maxLen : ∃ m, c 2 0 = some (.int .i64 m)
  space : ∀ i, i < 256 → c 3 i = some (.int .u8 (Lib.asciiSpaceTab.getD i 0))
  spaceN : s 3 = some 256
theorem gtab_le {c c' : Nat → Nat → Option Value} {s s' : Nat → Option Nat} (h : ∀ b o v, c b o = some v → c' b o = some v) (k : ∀ b n, s b = some n → s' b = some n) (g : gtab c s) : gtab c' s' :=
  ⟨fun i hi => h _ _ _ (g.first i hi), fun i hi => ⟨h _ _ _ (g.accept i hi).1, h _ _ _ (g.accept i hi).2⟩, g.maxLen.imp fun _ e => h _ _ _ e, fun i hi => h _ _ _ (g.space i hi), k _ _ g.spaceN⟩
end Go.Aw
set_option maxHeartbeats 16000000
set_option linter.unusedVariables false
namespace Go.Aw
open Go
structure Mem where
  cell : Nat → Nat → Option Value
  shape : Nat → Option Nat
def Mem.le (I J : Mem) : Prop := (∀ b o v, I.cell b o = some v → J.cell b o = some v) ∧ ∀ b n, I.shape b = some n → J.shape b = some n
theorem Mem.le_refl (I : Mem) : I.le I := ⟨fun _ _ _ h => h, fun _ _ h => h⟩
theorem Mem.le_trans {I J K : Mem} (h : I.le J) (k : J.le K) : I.le K := ⟨fun b o v x => k.1 _ _ _ (h.1 _ _ _ x), fun b n x => k.2 _ _ (h.2 _ _ x)⟩
def OwnOk (I : Mem) (sz len cap : Nat) (a : Option Addr) : Own → Prop
  | .any => True
  | .full => cap = len
  | .tok b => a = some ⟨b, 0, none⟩ ∧ I.shape b = some (cap * sz)
mutual
def Rep (I : Mem) : V → Value → Prop
  | .junk, _ => True
  | .bool b, c => c = .bool b
  | .int k n, c => c = .int k n
  | .str s, c => c = .string ⟨s.toArray⟩ ∧ s.length < lim
  | .agg cs, c => ∃ vs : List Value, c = .agg vs.toArray ∧ RepL I cs vs
  | .tup cs, c => ∃ vs : List Value, c = .tuple vs.toArray ∧ RepL I cs vs
  | .slice sz es own, c => ∃ a cap, c = .slice a es.length cap ∧ es.length ≤ cap ∧ es.length < lim ∧ 0 < sz ∧ OwnOk I sz es.length cap a own ∧
      (match a with | none => cap = 0 | some ad => (cap = 0 ∨ ad.spot = none) ∧ RepE I sz ad.block ad.off es)
  | .ptr b off, c => c = .pointer (some ⟨b, off, none⟩)
  | .lptr _ _, _ => False
  | .eptr e off, c => ∃ b o, c = .pointer (some ⟨b, o + off, none⟩) ∧ RepC I b o e
  | .nilp, c => c = .pointer none
  | .func f a cap, c => ∃ az cs : List Value, c = .func (.func f) az.toArray cs.toArray ∧ RepL I a az ∧ RepL I cap cs
  | .nilf, c => c = .nilFunc
  | .iface t v, c => ∃ c', c = .iface t c' ∧ Rep I v c'
  | .nili, c => c = .nilIface
  | .sit _ _, _ => False
  | .mrow sz b n cap, c => c = .slice (some ⟨b, 0, none⟩) n cap ∧ n ≤ cap ∧ n < lim ∧ 0 < sz
  | .yld l, c => c = .func (.yield l) #[] #[]
def RepL (I : Mem) : List V → List Value → Prop
  | [], vs => vs = []
  | v :: r, vs => ∃ c s, vs = c :: s ∧ Rep I v c ∧ RepL I r s
def RepC (I : Mem) (b o : Nat) : List V → Prop
  | [] => True
  | v :: r => (∃ c, I.cell b o = some c ∧ Rep I v c) ∧ RepC I b (o + 1) r
def RepE (I : Mem) (sz b o : Nat) : List (List V) → Prop
  | [] => True
  | e :: r => (e.length = sz ∧ RepC I b o e) ∧ RepE I sz b (o + sz) r
end
theorem OwnOk.mono {I J : Mem} (h : I.le J) {sz len cap : Nat} {a : Option Addr} {own : Own} (k : OwnOk I sz len cap a own) : OwnOk J sz len cap a own := by
  cases own with
  | any => trivial
  | full => exact k
  | tok b => exact ⟨k.1, h.2 _ _ k.2⟩
mutual
theorem Rep.mono {I J : Mem} (h : I.le J) : ∀ (v : V) (c : Value), Rep I v c → Rep J v c
  | .junk, _, _ => by simp only [Rep]
  | .bool b, c, k => by simpa only [Rep] using k
  | .int _ n, c, k => by simpa only [Rep] using k
  | .str s, c, k => by simpa only [Rep] using k
  | .agg cs, c, k => by
    simp only [Rep] at k ⊢
    obtain ⟨vs, e, k⟩ := k
    exact ⟨vs, e, RepL.mono h cs vs k⟩
  | .tup cs, c, k => by
    simp only [Rep] at k ⊢
    obtain ⟨vs, e, k⟩ := k
    exact ⟨vs, e, RepL.mono h cs vs k⟩
  | .slice sz es own, c, k => by
    simp only [Rep] at k ⊢
    obtain ⟨a, cap, e, h1, h2, h3, h4, h5⟩ := k
    refine ⟨a, cap, e, h1, h2, h3, h4.mono h, ?_⟩
    cases a with
    | none => exact h5
    | some ad => exact ⟨h5.1, RepE.mono h sz ad.block es ad.off h5.2⟩
  | .ptr _ _, c, k => by simpa only [Rep] using k
  | .lptr _ _, c, k => by simp only [Rep] at k
  | .eptr e off, c, k => by
    simp only [Rep] at k ⊢
    obtain ⟨b, o, e1, k⟩ := k
    exact ⟨b, o, e1, RepC.mono h b e o k⟩
  | .nilp, c, k => by simpa only [Rep] using k
  | .func f a cap, c, k => by
    simp only [Rep] at k ⊢
    obtain ⟨az, cs, e, k1, k2⟩ := k
    exact ⟨az, cs, e, RepL.mono h a az k1, RepL.mono h cap cs k2⟩
  | .nilf, c, k => by simpa only [Rep] using k
  | .iface t v, c, k => by
    simp only [Rep] at k ⊢
    obtain ⟨c', e, k⟩ := k
    exact ⟨c', e, Rep.mono h v c' k⟩
  | .nili, c, k => by simpa only [Rep] using k
  | .sit _ _, c, k => by simp only [Rep] at k
  | .mrow _ _ _ _, c, k => by simpa only [Rep] using k
  | .yld _, c, k => by simpa only [Rep] using k
theorem RepL.mono {I J : Mem} (h : I.le J) : ∀ (l : List V) (vs : List Value), RepL I l vs → RepL J l vs
  | [], vs, k => by simpa only [RepL] using k
  | v :: r, vs, k => by
    simp only [RepL] at k ⊢
    obtain ⟨c, s, e, k1, k2⟩ := k
    exact ⟨c, s, e, Rep.mono h v c k1, RepL.mono h r s k2⟩
theorem RepC.mono {I J : Mem} (h : I.le J) (b : Nat) : ∀ (l : List V) (o : Nat), RepC I b o l → RepC J b o l
  | [], o, k => by simp only [RepC]
  | v :: r, o, k => by
    simp only [RepC] at k ⊢
    obtain ⟨⟨c, k1, k2⟩, k3⟩ := k
    exact ⟨⟨c, h.1 _ _ _ k1, Rep.mono h v c k2⟩, RepC.mono h b r (o + 1) k3⟩
theorem RepE.mono {I J : Mem} (h : I.le J) (sz b : Nat) : ∀ (l : List (List V)) (o : Nat), RepE I sz b o l → RepE J sz b o l
  | [], o, k => by simp only [RepE]
  | v :: r, o, k => by
    simp only [RepE] at k ⊢
    exact ⟨⟨k.1.1, RepC.mono h b v o k.1.2⟩, RepE.mono h sz b r (o + sz) k.2⟩
end
theorem Rep.wk0 {I : Mem} : ∀ {v : V} {c : Value}, Rep I v c → Rep I v.wk0 c
  | .slice sz es own, c, k => by
    simp only [V.wk0, Rep] at k ⊢
    obtain ⟨a, cap, e, h1, h2, h3, h4, h5⟩ := k
    exact ⟨a, cap, e, h1, h2, h3, trivial, h5⟩
  | .junk, _, k | .bool _, _, k | .int _ _, _, k | .str _, _, k | .agg _, _, k | .tup _, _, k | .ptr _ _, _, k | .lptr _ _, _, k | .eptr _ _, _, k | .nilp, _, k
  | .func _ _ _, _, k | .nilf, _, k | .iface _ _, _, k | .nili, _, k | .sit _ _, _, k | .mrow _ _ _ _, _, k | .yld _, _, k => k
theorem RepL.map {I : Mem} {f : V → V} (hf : ∀ v c, Rep I v c → Rep I (f v) c) : ∀ {l : List V} {vs : List Value}, RepL I l vs → RepL I (l.map f) vs
  | [], vs, k => by simpa only [RepL, List.map_nil] using k
  | v :: r, vs, k => by
    simp only [RepL, List.map_cons] at k ⊢
    obtain ⟨c, s, e, k1, k2⟩ := k
    exact ⟨c, s, e, hf v c k1, RepL.map hf k2⟩
theorem RepC.map {I : Mem} {f : V → V} (hf : ∀ v c, Rep I v c → Rep I (f v) c) (b : Nat) : ∀ {l : List V} {o : Nat}, RepC I b o l → RepC I b o (l.map f)
  | [], o, k => by simp only [RepC, List.map_nil]
  | v :: r, o, k => by
    simp only [RepC, List.map_cons] at k ⊢
    obtain ⟨⟨c, k1, k2⟩, k3⟩ := k
    exact ⟨⟨c, k1, hf v c k2⟩, RepC.map hf b k3⟩
theorem Rep.wk1 {I : Mem} {v : V} {c : Value} (k : Rep I v c) : Rep I v.wk1 c := by
  cases v with
  | agg cs =>
    simp only [V.wk1, Rep] at k ⊢
    obtain ⟨vs, e, k⟩ := k
    exact ⟨vs, e, RepL.map (fun _ _ => Rep.wk0) k⟩
  | slice sz es own => exact Rep.wk0 k
  | _ => exact k
theorem Rep.wk {I : Mem} {v : V} {c : Value} (k : Rep I v c) : Rep I v.wk c := by
  cases v with
  | agg cs => exact Rep.wk1 k
  | tup cs =>
    simp only [V.wk, Rep] at k ⊢
    obtain ⟨vs, e, k⟩ := k
    exact ⟨vs, e, RepL.map (fun _ _ => Rep.wk1) k⟩
  | slice sz es own => exact Rep.wk0 k
  | _ => exact k
theorem RepL.length {I : Mem} : ∀ {l : List V} {vs : List Value}, RepL I l vs → l.length = vs.length
  | [], vs, k => by simp only [RepL] at k; subst k; rfl
  | v :: r, vs, k => by
    simp only [RepL] at k
    obtain ⟨c, s, e, k1, k2⟩ := k
    subst e
    simp [RepL.length k2]
theorem RepL.get {I : Mem} : ∀ {l : List V} {vs : List Value} {i : Nat} {v : V}, RepL I l vs → l[i]? = some v → ∃ c, vs[i]? = some c ∧ Rep I v c
  | [], vs, i, v, k, h => by simp at h
  | u :: r, vs, i, v, k, h => by
    simp only [RepL] at k
    obtain ⟨c, s, e, k1, k2⟩ := k
    subst e
    cases i with
    | zero => simp at h; subst h; exact ⟨c, by simp, k1⟩
    | succ i => simp at h; obtain ⟨c', h1, h2⟩ := RepL.get k2 h; exact ⟨c', by simpa using h1, h2⟩
theorem RepL.append {I : Mem} : ∀ {l r : List V} {vs us : List Value}, RepL I l vs → RepL I r us → RepL I (l ++ r) (vs ++ us)
  | [], r, vs, us, k, h => by simp only [RepL] at k; subst k; simpa using h
  | v :: l, r, vs, us, k, h => by
    simp only [RepL] at k
    obtain ⟨c, s, e, k1, k2⟩ := k
    subst e
    simp only [List.cons_append, RepL]
    exact ⟨c, s ++ us, rfl, k1, RepL.append k2 h⟩
theorem RepL.take {I : Mem} : ∀ {l : List V} {vs : List Value} (n : Nat), RepL I l vs → RepL I (l.take n) (vs.take n)
  | [], vs, n, k => by simp only [RepL] at k; subst k; simp [RepL]
  | v :: l, vs, 0, k => by simp [RepL]
  | v :: l, vs, n + 1, k => by
    simp only [RepL] at k
    obtain ⟨c, s, e, k1, k2⟩ := k
    subst e
    simp only [List.take_succ_cons, RepL]
    exact ⟨c, _, rfl, k1, RepL.take n k2⟩
theorem RepL.drop {I : Mem} : ∀ {l : List V} {vs : List Value} (n : Nat), RepL I l vs → RepL I (l.drop n) (vs.drop n)
  | [], vs, n, k => by simp only [RepL] at k; subst k; simp [RepL]
  | v :: l, vs, 0, k => by simpa using k
  | v :: l, vs, n + 1, k => by
    simp only [RepL] at k
    obtain ⟨c, s, e, k1, k2⟩ := k
    subst e
    simpa using RepL.drop n k2
theorem RepC.get {I : Mem} {b : Nat} : ∀ {l : List V} {o i : Nat} {v : V}, RepC I b o l → l[i]? = some v → ∃ c, I.cell b (o + i) = some c ∧ Rep I v c
  | [], o, i, v, k, h => by simp at h
  | u :: r, o, i, v, k, h => by
    simp only [RepC] at k
    cases i with
    | zero => simp at h; subst h; exact k.1
    | succ i =>
      simp at h
      obtain ⟨c, h1, h2⟩ := RepC.get k.2 h
      exact ⟨c, by rw [show o + (i + 1) = o + 1 + i by omega]; exact h1, h2⟩
theorem RepC.drop {I : Mem} {b : Nat} : ∀ {l : List V} {o : Nat} (n : Nat), RepC I b o l → RepC I b (o + n) (l.drop n)
  | [], o, n, k => by simp [RepC]
  | v :: l, o, 0, k => by simpa using k
  | v :: l, o, n + 1, k => by
    simp only [RepC] at k
    rw [show o + (n + 1) = o + 1 + n by omega]
    simpa using RepC.drop n k.2
theorem RepC.take {I : Mem} {b : Nat} : ∀ {l : List V} {o : Nat} (n : Nat), RepC I b o l → RepC I b o (l.take n)
  | [], o, n, k => by simp [RepC]
  | v :: l, o, 0, k => by simp [RepC]
  | v :: l, o, n + 1, k => by
    simp only [RepC, List.take_succ_cons] at k ⊢
    exact ⟨k.1, RepC.take n k.2⟩
theorem RepE.get {I : Mem} {sz b : Nat} : ∀ {l : List (List V)} {o i : Nat} {e : List V}, RepE I sz b o l → l[i]? = some e → e.length = sz ∧ RepC I b (o + i * sz) e
  | [], o, i, v, k, h => by simp at h
  | u :: r, o, i, v, k, h => by
    simp only [RepE] at k
    cases i with
    | zero => simp at h; subst h; simpa using k.1
    | succ i =>
      simp at h
      have := RepE.get k.2 h
      rw [show o + (i + 1) * sz = o + sz + i * sz by rw [Nat.add_mul]; omega]
      exact this
theorem RepE.drop {I : Mem} {sz b : Nat} : ∀ {l : List (List V)} {o : Nat} (n : Nat), RepE I sz b o l → RepE I sz b (o + n * sz) (l.drop n)
  | [], o, n, k => by simp [RepE]
  | v :: l, o, 0, k => by simpa using k
  | v :: l, o, n + 1, k => by
    simp only [RepE] at k
    rw [show o + (n + 1) * sz = o + sz + n * sz by rw [Nat.add_mul]; omega]
    simpa using RepE.drop n k.2
theorem RepE.take {I : Mem} {sz b : Nat} : ∀ {l : List (List V)} {o : Nat} (n : Nat), RepE I sz b o l → RepE I sz b o (l.take n)
  | [], o, n, k => by simp [RepE]
  | v :: l, o, 0, k => by simp [RepE]
  | v :: l, o, n + 1, k => by
    simp only [RepE, List.take_succ_cons] at k ⊢
    exact ⟨k.1, RepE.take n k.2⟩
theorem RepE.append {I : Mem} {sz b : Nat} : ∀ {l r : List (List V)} {o : Nat}, RepE I sz b o l → RepE I sz b (o + l.length * sz) r → RepE I sz b o (l ++ r)
  | [], r, o, k, h => by simpa using h
  | v :: l, r, o, k, h => by
    simp only [RepE, List.cons_append] at k ⊢
    refine ⟨k.1, RepE.append k.2 ?_⟩
    rw [show o + sz + l.length * sz = o + (l.length + 1) * sz by rw [Nat.add_mul]; omega]
    exact h
def RepT (I : Mem) (β : Nat → Option Nat) : V → Value → Prop
  | .lptr id off, c => ∃ b, β id = some b ∧ c = .pointer (some ⟨b, off, none⟩)
  | v, c => Rep I v c
theorem RepT.of {I : Mem} {β : Nat → Option Nat} {v : V} {c : Value} (h : Rep I v c) : RepT I β v c := by
  cases v <;> first | exact h | exact (by simp only [Rep] at h)
theorem RepT.mono {I J : Mem} (h : I.le J) {β : Nat → Option Nat} {v : V} {c : Value} (k : RepT I β v c) : RepT J β v c := by
  cases v <;> first | exact k | exact Rep.mono h _ _ k
structure RelS (I : Mem) (st : St) (w : World) : Prop where
  cell : ∀ b o v, I.cell b o = some v → w.cell? ⟨b, o, none⟩ = some v
  shape : ∀ b n, I.shape b = some n → ∃ c ty, w.heap[b]? = some (.cells c ty (0, 0)) ∧ c.size = n
  box : ∀ b cs, st.box b = some cs → ∃ (vs : List Value) (ty : TypeId), w.heap[b]? = some (.cells vs.toArray ty (0, 0)) ∧ RepL I cs vs
  boxI : ∀ b, st.box b ≠ none → (∀ o, I.cell b o = none) ∧ st.hw b = none ∧ I.shape b = none
  hw : ∀ b h, st.hw b = some h → b < w.heap.size ∧ ∀ o, h ≤ o → I.cell b o = none
  tab : gtab I.cell I.shape
structure Fr (I0 : Mem) (st0 : St) (w0 : World) (I : Mem) (st : St) (w : World) : Prop where
  os : w.os = w0.os
  tape : w.tape = w0.tape
  output : w.output = w0.output
  size : w0.heap.size ≤ w.heap.size
  old : ∀ b, b < w0.heap.size → st0.box b = none → st0.hw b = none → w.heap[b]? = w0.heap[b]?
  le : I0.le I
  new : ∀ b o, I0.cell b o = none → I.cell b o ≠ none → w0.heap.size ≤ b ∨ st0.box b ≠ none ∨ st0.hw b ≠ none
  newS : ∀ b, I0.shape b = none → I.shape b ≠ none → w0.heap.size ≤ b ∨ st0.box b ≠ none ∨ st0.hw b ≠ none
  dom : ∀ b, (st.box b ≠ none ∨ st.hw b ≠ none) → w0.heap.size ≤ b ∨ st0.box b ≠ none ∨ st0.hw b ≠ none
theorem Fr.refl {I : Mem} {st : St} {w : World} : Fr I st w I st w :=
  ⟨rfl, rfl, rfl, Nat.le_refl _, fun _ _ _ _ => rfl, Mem.le_refl _, fun _ _ h k => absurd h k, fun _ h k => absurd h k, fun _ h => .inr h⟩
theorem Fr.trans {I0 I1 I2 : Mem} {s0 s1 s2 : St} {w0 w1 w2 : World} (h : Fr I0 s0 w0 I1 s1 w1) (k : Fr I1 s1 w1 I2 s2 w2) : Fr I0 s0 w0 I2 s2 w2 := by
  refine ⟨k.os.trans h.os, k.tape.trans h.tape, k.output.trans h.output, Nat.le_trans h.size k.size, ?_, Mem.le_trans h.le k.le, ?_, ?_, ?_⟩
  · intro b hb h1 h2
    have e1 : s1.box b = none := by
      cases hh : s1.box b with
      | none => rfl
      | some c => rcases h.dom b (.inl (by rw [hh]; simp)) with h | h | h <;> first | omega | contradiction
    have e2 : s1.hw b = none := by
      cases hh : s1.hw b with
      | none => rfl
      | some c => rcases h.dom b (.inr (by rw [hh]; simp)) with h | h | h <;> first | omega | contradiction
    rw [k.old b (Nat.lt_of_lt_of_le hb h.size) e1 e2, h.old b hb h1 h2]
  · intro b o h1 h2
    cases hh : I1.cell b o with
    | some v => exact h.new b o h1 (by rw [hh]; simp)
    | none =>
      rcases k.new b o hh h2 with h3 | h3 | h3
      · exact .inl (Nat.le_trans h.size h3)
      · exact h.dom b (.inl h3)
      · exact h.dom b (.inr h3)
  · intro b h1 h2
    cases hh : I1.shape b with
    | some v => exact h.newS b h1 (by rw [hh]; simp)
    | none =>
      rcases k.newS b hh h2 with h3 | h3 | h3
      · exact .inl (Nat.le_trans h.size h3)
      · exact h.dom b (.inl h3)
      · exact h.dom b (.inr h3)
  · intro b hb
    rcases k.dom b hb with h3 | h3 | h3
    · exact .inl (Nat.le_trans h.size h3)
    · exact h.dom b (.inl h3)
    · exact h.dom b (.inr h3)
end Go.Aw
set_option maxHeartbeats 16000000
set_option linter.unusedVariables false
namespace Go.Aw
open Go
theorem loadFrom_noIt {cs : List V} {off : Nat} {ty : Option Ty} {K : V → Prop} (h : loadFrom cs off ty K) : noIt cs = true := (chk_iff.1 h).1
theorem storeTo_noIt {cs new : List V} {off : Nat} {K : List V → Prop} (h : storeTo cs off new K) : noIt cs = true := (chk_iff.1 h).1
def Laid (I : Mem) (o : Option Obj) (cs : List V) : Prop :=
  (∃ (vs : List Value) (ty : TypeId), o = some (.cells vs.toArray ty (0, 0)) ∧ RepL I cs vs) ∨ ∃ (s : List UInt8) (pos : Nat), cs = [.sit s pos] ∧ s.length < lim ∧ o = some (.stringIter ⟨s.toArray⟩ pos)
theorem Laid.mono {I J : Mem} {o : Option Obj} {cs : List V} (h : Laid I o cs) (hl : I.le J) : Laid J o cs := by
  rcases h with ⟨vs, ty, h1, h2⟩ | h
  · exact .inl ⟨vs, ty, h1, RepL.mono hl _ _ h2⟩
  · exact .inr h
theorem Laid.cells {I : Mem} {o : Option Obj} {cs : List V} (h : Laid I o cs) (hn : noIt cs = true) : ∃ (vs : List Value) (ty : TypeId), o = some (.cells vs.toArray ty (0, 0)) ∧ RepL I cs vs := by
  rcases h with h | ⟨s, pos, rfl, _⟩
  · exact h
  · cases hn
structure RelF (D : List Deferred) (B : Nat) (I : Mem) (β : Nat → Option Nat) (env : Env) (st : St) (a : Act) (w : World) : Prop where
  size : a.tmps.size = env.sz
  tmps : ∀ t v, assoc env.tmps t = some v → RepT I β v (a.tmps.getD t undef)
  box : ∀ id cs, assoc env.boxes id = some cs → ∃ b : Nat, β id = some b ∧ Laid I w.heap[b]? cs
  nxt : ∀ id b, β id = some b → id < env.nxt
  inj : ∀ i j b, β i = some b → β j = some b → i = j
  sep : ∀ id b, β id = some b → B ≤ b ∧ b < w.heap.size ∧ (∀ o, I.cell b o = none) ∧ I.shape b = none ∧ st.box b = none ∧ st.hw b = none
  defers : a.defers = D
structure Rel (D : List Deferred) (I0 : Mem) (st0 : St) (w0 : World) (I : Mem) (β : Nat → Option Nat) (env : Env) (st : St) (a : Act) (w : World) : Prop where
  fr : Fr I0 st0 w0 I st w
  s : RelS I st w
  f : RelF D w0.heap.size I β env st a w
section
variable {D : List Deferred} {I0 I : Mem} {st0 st : St} {w0 w w' : World} {β : Nat → Option Nat} {env : Env} {a : Act}
structure Grew (w w' : World) : Prop where
  os : w'.os = w.os
  tape : w'.tape = w.tape
  output : w'.output = w.output
  size : w.heap.size ≤ w'.heap.size
  old : ∀ b, b < w.heap.size → w'.heap[b]? = w.heap[b]?
theorem Grew.refl (w : World) : Grew w w := ⟨rfl, rfl, rfl, Nat.le_refl _, fun _ _ => rfl⟩
theorem Grew.drew (w : World) : Grew w w.drew := ⟨rfl, rfl, rfl, Nat.le_refl _, fun _ _ => rfl⟩
theorem Grew.alloc (w : World) (o : Obj) : Grew w (w.alloc o) :=
  ⟨rfl, rfl, rfl, by simp, fun b hb => by simp only [World.alloc, Array.getElem?_push]; rw [if_neg (by omega)]⟩
theorem Grew.trans {x y z : World} (h : Grew x y) (k : Grew y z) : Grew x z :=
  ⟨k.os.trans h.os, k.tape.trans h.tape, k.output.trans h.output, Nat.le_trans h.size k.size, fun b hb => (k.old b (Nat.lt_of_lt_of_le hb h.size)).trans (h.old b hb)⟩
theorem lt_of_heap {w : World} {b : Nat} {o : Obj} (h : w.heap[b]? = some o) : b < w.heap.size := by
  rcases Nat.lt_or_ge b w.heap.size with h' | h'
  · exact h'
  · rw [Array.getElem?_eq_none h'] at h; cases h
theorem lt_of_cell {w : World} {b o : Nat} {v : Value} (h : w.cell? ⟨b, o, none⟩ = some v) : b < w.heap.size := World.block_lt_of_cell? _ _ h
theorem cell_eq {w w' : World} {b o : Nat} (h : w'.heap[b]? = w.heap[b]?) : w'.cell? ⟨b, o, none⟩ = w.cell? ⟨b, o, none⟩ := by
  simp only [World.cell?, h]
theorem RelS.grew (h : RelS I st w) (g : Grew w w') : RelS I st w' where
  cell b o v k := by have := h.cell b o v k; rw [cell_eq (g.old b (lt_of_cell this))]; exact this
  shape b n k := by obtain ⟨c, ty, h1, h2⟩ := h.shape b n k; exact ⟨c, ty, by rw [g.old b (lt_of_heap h1)]; exact h1, h2⟩
  box b cs k := by obtain ⟨vs, ty, h1, h2⟩ := h.box b cs k; exact ⟨vs, ty, by rw [g.old b (lt_of_heap h1)]; exact h1, h2⟩
  boxI := h.boxI
  hw b n k := ⟨Nat.lt_of_lt_of_le (h.hw b n k).1 g.size, (h.hw b n k).2⟩
  tab := h.tab
theorem Fr.grew (h : Fr I0 st0 w0 I st w) (g : Grew w w') : Fr I0 st0 w0 I st w' where
  os := g.os.trans h.os
  tape := g.tape.trans h.tape
  output := g.output.trans h.output
  size := Nat.le_trans h.size g.size
  old b hb h1 h2 := (g.old b (Nat.lt_of_lt_of_le hb h.size)).trans (h.old b hb h1 h2)
  le := h.le
  new := h.new
  newS := h.newS
  dom := h.dom
theorem RelF.grew {B : Nat} (h : RelF D B I β env st a w) (g : Grew w w') : RelF D B I β env st a w' where
  size := h.size
  tmps := h.tmps
  box id cs k := by obtain ⟨b, h0, h1⟩ := h.box id cs k; exact ⟨b, h0, by rw [g.old b (h.sep id b h0).2.1]; exact h1⟩
  nxt := h.nxt
  inj := h.inj
  sep id b k := ⟨(h.sep id b k).1, Nat.lt_of_lt_of_le (h.sep id b k).2.1 g.size, (h.sep id b k).2.2⟩
  defers := h.defers
theorem Rel.grew (h : Rel D I0 st0 w0 I β env st a w) (g : Grew w w') : Rel D I0 st0 w0 I β env st a w' := ⟨h.fr.grew g, h.s.grew g, h.f.grew g⟩
theorem heap_alloc_new (w : World) (o : Obj) : (w.alloc o).heap[w.heap.size]? = some o := by
  simp only [World.alloc, Array.getElem?_push, if_true]
theorem st_lt (h : RelS I st w) {b : Nat} (k : st.box b ≠ none ∨ st.hw b ≠ none) : b < w.heap.size := by
  rcases k with k | k
  · cases hb : st.box b with
    | none => exact absurd hb k
    | some cs => obtain ⟨vs, ty, h1, _⟩ := h.box b cs hb; exact lt_of_heap h1
  · cases hb : st.hw b with
    | none => exact absurd hb k
    | some n => exact (h.hw b n hb).1
theorem fresh_new (h : RelS I st w) : st.fresh w.heap.size := by
  constructor
  · cases hb : st.box w.heap.size with
    | none => rfl
    | some cs => exact absurd (st_lt h (.inl (by rw [hb]; simp))) (Nat.lt_irrefl _)
  · cases hb : st.hw w.heap.size with
    | none => rfl
    | some cs => exact absurd (st_lt h (.inr (by rw [hb]; simp))) (Nat.lt_irrefl _)
theorem cell_new (h : RelS I st w) (o : Nat) : I.cell w.heap.size o = none := by
  cases hb : I.cell w.heap.size o with
  | none => rfl
  | some v => exact absurd (lt_of_cell (h.cell _ _ _ hb)) (Nat.lt_irrefl _)
theorem shape_new (h : RelS I st w) : I.shape w.heap.size = none := by
  cases hb : I.shape w.heap.size with
  | none => rfl
  | some v => obtain ⟨c, ty, h1, _⟩ := h.shape _ _ hb; exact absurd (lt_of_heap h1) (Nat.lt_irrefl _)
theorem Rel.localObj (h : Rel D I0 st0 w0 I β env st a w) {cs : List V} {ob : Obj} (k : Laid I (some ob) cs) {x n : Nat} (hx : β x = none) (hn : x < n) (hle : env.nxt ≤ n) :
    Rel D I0 st0 w0 I (fun i => if i = x then some w.heap.size else β i) { env with boxes := (x, cs) :: env.boxes, nxt := n } st a (w.alloc ob) := by
  have g := Grew.alloc w ob
  have h' := h.grew g
  have hne : ∀ id b, β id = some b → id ≠ x := fun id b e => by rintro rfl; rw [hx] at e; cases e
  refine ⟨h'.fr, h'.s, { h'.f with tmps := ?_, box := ?_, nxt := ?_, inj := ?_, sep := ?_ }⟩
  · intro t v e
    have := h.f.tmps t v e
    cases v <;> first
      | exact this
      | (obtain ⟨b, h1, h2⟩ := this; exact ⟨b, (if_neg (hne _ _ h1)).trans h1, h2⟩)
  · intro id cs' e
    rw [assoc_cons] at e
    cases hb : Nat.beq x id with
    | true =>
      rw [hb] at e
      have := Nat.eq_of_beq_eq_true hb
      subst this
      simp only [cond_true, Option.some.injEq] at e
      subst e
      exact ⟨_, if_pos rfl, by rw [heap_alloc_new w _]; exact k⟩
    | false =>
      rw [hb] at e
      obtain ⟨b, h1, h2⟩ := h'.f.box id cs' e
      exact ⟨b, (if_neg (hne _ _ h1)).trans h1, h2⟩
  · intro id b e
    split at e
    · rename_i hid; subst hid; exact hn
    · exact Nat.lt_of_lt_of_le (h.f.nxt id b e) hle
  · intro i j b e1 e2
    split at e1 <;> split at e2
    · rename_i x y; rw [x, y]
    · injection e1 with e1; subst e1; exact absurd (h.f.sep _ _ e2).2.1 (Nat.lt_irrefl _)
    · injection e2 with e2; subst e2; exact absurd (h.f.sep _ _ e1).2.1 (Nat.lt_irrefl _)
    · exact h.f.inj i j b e1 e2
  · intro id b e
    split at e
    · injection e with e
      subst e
      exact ⟨h.fr.size, by simp, cell_new h.s, shape_new h.s, (fresh_new h.s).1, (fresh_new h.s).2⟩
    · exact h'.f.sep id b e
theorem Rel.localBoxAt (h : Rel D I0 st0 w0 I β env st a w) {cs : List V} {vs : List Value} (k : RepL I cs vs) (ty : TypeId) {x n : Nat} (hx : β x = none) (hn : x < n) (hle : env.nxt ≤ n) :
    Rel D I0 st0 w0 I (fun i => if i = x then some w.heap.size else β i) { env with boxes := (x, cs) :: env.boxes, nxt := n } st a (w.alloc (.cells vs.toArray ty)) := h.localObj (.inl ⟨vs, ty, rfl, k⟩) hx hn hle
theorem Rel.localBox (h : Rel D I0 st0 w0 I β env st a w) {cs : List V} {vs : List Value} (k : RepL I cs vs) (ty : TypeId) :
    Rel D I0 st0 w0 I (fun i => if i = env.nxt then some w.heap.size else β i) { env with boxes := (env.nxt, cs) :: env.boxes, nxt := env.nxt + 1 } st a (w.alloc (.cells vs.toArray ty)) :=
  h.localBoxAt k ty (by
    cases e : β env.nxt with
    | none => rfl
    | some b => exact absurd (h.f.nxt _ _ e) (Nat.lt_irrefl _)) (Nat.lt_succ_self _) (Nat.le_succ _)
theorem Rel.nxtUp (h : Rel D I0 st0 w0 I β env st a w) {n : Nat} (hn : env.nxt ≤ n) : Rel D I0 st0 w0 I β { env with nxt := n } st a w :=
  ⟨h.fr, h.s, { h.f with nxt := fun id b e => Nat.lt_of_lt_of_le (h.f.nxt id b e) hn }⟩
theorem Rel.globalBox (h : Rel D I0 st0 w0 I β env st a w) {cs : List V} {vs : List Value} (k : RepL I cs vs) (ty : TypeId) :
    Rel D I0 st0 w0 I β env (st.setBox w.heap.size cs) a (w.alloc (.cells vs.toArray ty)) := by
  have g := Grew.alloc w (.cells vs.toArray ty)
  have h' := h.grew g
  refine ⟨{ h'.fr with dom := ?_ }, { h'.s with box := ?_, boxI := ?_ }, { h'.f with sep := ?_ }⟩
  · intro b hb
    by_cases e : b = w.heap.size
    · exact .inl (by rw [e]; exact h.fr.size)
    · refine h.fr.dom b ?_
      simpa [St.setBox, e] using hb
  · intro b cs' e
    simp only [St.setBox] at e
    split at e
    · rename_i hb; subst hb; injection e with e; subst e; exact ⟨vs, ty, heap_alloc_new w _, k⟩
    · exact h'.s.box b cs' e
  · intro b e
    by_cases hb : b = w.heap.size
    · subst hb; exact ⟨cell_new h.s, (fresh_new h.s).2, shape_new h.s⟩
    · exact h.s.boxI b (by simpa [St.setBox, hb] using e)
  · intro id b e
    obtain ⟨h1, h2, h3, h4, h5, h6⟩ := h.f.sep id b e
    have : b ≠ w.heap.size := by omega
    exact ⟨h1, by simp; omega, h3, h4, by simp [St.setBox, this, h5], h6⟩
def Mem.add (I : Mem) (b h : Nat) (vs : List Value) (n : Nat) : Mem where
  cell := fun x o => if x = b ∧ h ≤ o ∧ o < h + vs.length then vs[o - h]? else I.cell x o
  shape := fun x => if x = b then some n else I.shape x
theorem Mem.le_add {I : Mem} {b h n : Nat} {vs : List Value} (k : ∀ o, h ≤ o → I.cell b o = none) (k2 : I.shape b = none ∨ I.shape b = some n) : I.le (I.add b h vs n) := by
  constructor
  · intro x o v e
    simp only [Mem.add]
    rw [if_neg]
    · exact e
    · rintro ⟨rfl, h1, _⟩
      rw [k o h1] at e; cases e
  · intro x m e
    simp only [Mem.add]
    split
    · rename_i hx
      subst hx
      rcases k2 with k2 | k2
      · rw [k2] at e; cases e
      · rw [k2] at e; exact e
    · exact e
theorem RepC.add {I : Mem} {b h n : Nat} {vs : List Value} : ∀ (l : List V) (us : List Value) (o : Nat), RepL I l us → I.le (I.add b h vs n) →
    (∀ j c, us[j]? = some c → (I.add b h vs n).cell b (o + j) = some c) → RepC (I.add b h vs n) b o l
  | [], us, o, k, hl, hc => by simp only [RepC]
  | v :: r, us, o, k, hl, hc => by
    simp only [RepL] at k
    obtain ⟨c, s, e, k1, k2⟩ := k
    subst e
    simp only [RepC]
    refine ⟨⟨c, by simpa using hc 0 c (by simp), Rep.mono hl _ _ k1⟩, RepC.add r s (o + 1) k2 hl fun j c' hj => ?_⟩
    have := hc (j + 1) c' (by simpa using hj)
    rw [show o + 1 + j = o + (j + 1) by omega]; exact this
def RepR (I : Mem) (sz : Nat) : List (List V) → List Value → Prop
  | [], vs => vs = []
  | e :: r, vs => ∃ us s, vs = us ++ s ∧ e.length = sz ∧ RepL I e us ∧ RepR I sz r s
theorem RepR.length {I : Mem} {sz : Nat} : ∀ {l : List (List V)} {vs : List Value}, RepR I sz l vs → vs.length = l.length * sz
  | [], vs, k => by simp only [RepR] at k; subst k; simp
  | e :: r, vs, k => by
    simp only [RepR] at k
    obtain ⟨us, s, e1, h1, h2, h3⟩ := k
    subst e1
    rw [List.length_append, ← RepL.length h2, h1, RepR.length h3, List.length_cons, Nat.add_mul]; omega
theorem RepE.add {I : Mem} {b h n sz : Nat} {vs : List Value} : ∀ (l : List (List V)) (us : List Value) (o : Nat), RepR I sz l us → I.le (I.add b h vs n) →
    (∀ j c, us[j]? = some c → (I.add b h vs n).cell b (o + j) = some c) → RepE (I.add b h vs n) sz b o l
  | [], us, o, k, hl, hc => by simp only [RepE]
  | e :: r, us, o, k, hl, hc => by
    simp only [RepR] at k
    obtain ⟨u1, s, e1, h1, h2, h3⟩ := k
    subst e1
    have hu : u1.length = sz := by rw [← RepL.length h2, h1]
    simp only [RepE]
    refine ⟨⟨h1, RepC.add e u1 o h2 hl fun j c hj => hc j c ?_⟩, RepE.add r s (o + sz) h3 hl fun j c hj => ?_⟩
    · have hlt : j < u1.length := by
        rcases Nat.lt_or_ge j u1.length with h | h
        · exact h
        · rw [List.getElem?_eq_none h] at hj; cases hj
      rw [List.getElem?_append_left hlt]; exact hj
    · have := hc (sz + j) c (by rw [List.getElem?_append_right (by omega)]; simpa [hu] using hj)
      rw [show o + sz + j = o + (sz + j) by omega]; exact this
theorem Mem.add_at {I : Mem} {b h n : Nat} {vs : List Value} {j : Nat} {c : Value} (hj : vs[j]? = some c) : (I.add b h vs n).cell b (h + j) = some c := by
  have hlt : j < vs.length := by
    rcases Nat.lt_or_ge j vs.length with h | h
    · exact h
    · rw [List.getElem?_eq_none h] at hj; cases hj
  show (if b = b ∧ h ≤ h + j ∧ h + j < h + vs.length then vs[h + j - h]? else I.cell b (h + j)) = some c
  rw [if_pos ⟨rfl, by omega, by omega⟩, show h + j - h = j by omega, hj]
theorem RelF.mem {B : Nat} {J : Mem} {st' : St} (h : RelF D B I β env st a w) (hl : I.le J)
    (hs : ∀ id b, β id = some b → (∀ o, J.cell b o = none) ∧ J.shape b = none ∧ st'.box b = none ∧ st'.hw b = none) : RelF D B J β env st' a w where
  size := h.size
  tmps t v e := (h.tmps t v e).mono hl
  box id cs e := by obtain ⟨b, h1, h2⟩ := h.box id cs e; exact ⟨b, h1, h2.mono hl⟩
  nxt := h.nxt
  inj := h.inj
  sep id b e := ⟨(h.sep id b e).1, (h.sep id b e).2.1, hs id b e⟩
  defers := h.defers
theorem Rel.newRow (h : Rel D I0 st0 w0 I β env st a w) (vs rest : List Value) (ty : TypeId) :
    Rel D I0 st0 w0 (I.add w.heap.size 0 vs (vs.length + rest.length)) β env (st.setHw w.heap.size vs.length) a (w.alloc (.cells (vs ++ rest).toArray ty)) := by
  have g := Grew.alloc w (.cells (vs ++ rest).toArray ty)
  have h' := h.grew g
  have hl : I.le (I.add w.heap.size 0 vs (vs.length + rest.length)) := Mem.le_add (fun o _ => cell_new h.s o) (.inl (shape_new h.s))
  refine ⟨{ h'.fr with le := Mem.le_trans h.fr.le hl, new := ?_, newS := ?_, dom := ?_ }, ⟨?_, ?_, ?_, ?_, ?_, gtab_le hl.1 hl.2 h.s.tab⟩, RelF.mem h'.f hl ?_⟩
  · intro b o h1 h2
    by_cases e : b = w.heap.size
    · exact .inl (by rw [e]; exact h.fr.size)
    · exact h.fr.new b o h1 (by simpa [Mem.add, e] using h2)
  · intro b h1 h2
    by_cases e : b = w.heap.size
    · exact .inl (by rw [e]; exact h.fr.size)
    · exact h.fr.newS b h1 (by simpa [Mem.add, e] using h2)
  · intro b hb
    by_cases e : b = w.heap.size
    · exact .inl (by rw [e]; exact h.fr.size)
    · refine h.fr.dom b ?_
      simpa [St.setHw, e] using hb
  · intro b o v e
    simp only [Mem.add] at e
    split at e
    · rename_i hb
      obtain ⟨rfl, h1, h2⟩ := hb
      simp only [World.cell?, heap_alloc_new]
      rw [Nat.sub_zero] at e
      simp only [Option.isSome_none, Bool.false_eq_true, if_false, List.getElem?_toArray]
      rw [List.getElem?_append_left (by omega)]; exact e
    · exact h'.s.cell b o v e
  · intro b n e
    simp only [Mem.add] at e
    split at e
    · rename_i hb; subst hb; injection e with e; subst e; exact ⟨_, ty, heap_alloc_new w _, by simp⟩
    · exact h'.s.shape b n e
  · intro b cs e
    obtain ⟨us, ty', h1, h2⟩ := h'.s.box b cs e
    exact ⟨us, ty', h1, RepL.mono hl _ _ h2⟩
  · intro b e
    have hne : b ≠ w.heap.size := fun hb => e (by rw [hb]; exact (fresh_new h.s).1)
    obtain ⟨h1, h2, h3⟩ := h.s.boxI b e
    exact ⟨fun o => by simp [Mem.add, hne, h1 o], by simp [St.setHw, hne, h2], by simp [Mem.add, hne, h3]⟩
  · intro b n e
    simp only [St.setHw] at e
    split at e
    · rename_i hb
      subst hb
      injection e with e
      subst e
      exact ⟨by simp, fun o ho => by simp only [Mem.add]; rw [if_neg (by omega)]; exact cell_new h.s o⟩
    · rename_i hb
      exact ⟨(h'.s.hw b n e).1, fun o ho => by simp only [Mem.add]; rw [if_neg (by simp [hb])]; exact (h'.s.hw b n e).2 o ho⟩
  · intro id b e
    obtain ⟨h1, h2, h3, h4, h5, h6⟩ := h.f.sep id b e
    have hne : b ≠ w.heap.size := by omega
    exact ⟨fun o => by simp [Mem.add, hne, h3 o], by simp [Mem.add, hne, h4], h5, by simp [St.setHw, hne, h6]⟩
theorem Rel.stLe {st' : St} (h : Rel D I0 st0 w0 I β env st a w) (k : st'.le st) : Rel D I0 st0 w0 I β env st' a w := by
  have hb : ∀ b, st'.box b ≠ none → st.box b ≠ none := fun b e => by
    cases hh : st'.box b with
    | none => exact absurd hh e
    | some c => rw [k.1 b c hh]; simp
  have hh : ∀ b, st'.hw b ≠ none → st.hw b ≠ none := fun b e => by
    cases hh : st'.hw b with
    | none => exact absurd hh e
    | some c => rw [k.2 b c hh]; simp
  have nb : ∀ b, st.box b = none → st'.box b = none := fun b e => by
    cases hh' : st'.box b with
    | none => rfl
    | some c => exact absurd e (hb b (by rw [hh']; simp))
  have nh : ∀ b, st.hw b = none → st'.hw b = none := fun b e => by
    cases hh' : st'.hw b with
    | none => rfl
    | some c => exact absurd e (hh b (by rw [hh']; simp))
  refine ⟨{ h.fr with dom := fun b e => h.fr.dom b (e.imp (hb b) (hh b)) }, { h.s with box := fun b cs e => h.s.box b cs (k.1 b cs e), boxI := fun b e => ?_, hw := fun b n e => h.s.hw b n (k.2 b n e) },
    { h.f with sep := fun id b e => ?_ }⟩
  · obtain ⟨h1, h2, h3⟩ := h.s.boxI b (hb b e); exact ⟨h1, nh b h2, h3⟩
  · obtain ⟨h1, h2, h3, h4, h5, h6⟩ := h.f.sep id b e; exact ⟨h1, h2, h3, h4, nb b h5, nh b h6⟩
theorem Rel.envLe {env' : Env} (h : Rel D I0 st0 w0 I β env st a w) (k : env'.le env) :
    Rel D I0 st0 w0 I (fun id => if (assoc env'.boxes id).isSome then β id else none) env' st a w := by
  obtain ⟨k1, k2, k3, k4⟩ := k
  refine ⟨h.fr, h.s, ⟨h.f.size.trans k1.symm, ?_, ?_, ?_, ?_, ?_, h.f.defers⟩⟩
  · intro t v e
    rcases k2 t v e with rfl | ⟨h1, h2⟩
    · exact RepT.of (v := .junk) (by simp only [Rep])
    · have := h.f.tmps t v h1
      cases v <;> first
        | exact this
        | (obtain ⟨b, h3, h4⟩ := this; exact ⟨b, (if_pos (by simpa only [V.lptrIn] using h2)).trans h3, h4⟩)
  · intro id cs e
    obtain ⟨b, h1, h2⟩ := h.f.box id cs (k3 id cs e)
    exact ⟨b, (if_pos (by rw [e]; rfl)).trans h1, h2⟩
  · intro id b e
    split at e
    · rename_i hs
      cases ha : assoc env'.boxes id with
      | none => rw [ha] at hs; cases hs
      | some cs => exact k4 id cs ha
    · cases e
  · intro i j b e1 e2
    split at e1 <;> split at e2 <;> first | cases e1; done | cases e2; done | exact h.f.inj i j b e1 e2
  · intro id b e
    split at e
    · exact h.f.sep id b e
    · cases e
theorem Rel.put (h : Rel D I0 st0 w0 I β env st a w) {v : V} {c : Value} (k : RepT I β v c) {t : Nat} (ht : t < env.sz) :
    Rel D I0 st0 w0 I β { env with tmps := (t, v) :: env.tmps } st (a.put (some t) c) w := by
  refine ⟨h.fr, h.s, { h.f with size := ?_, tmps := ?_, defers := h.f.defers }⟩
  · simpa [Act.put] using h.f.size
  · intro t' v' e
    rw [assoc_cons] at e
    cases hb : Nat.beq t t' with
    | true =>
      rw [hb] at e
      have := Nat.eq_of_beq_eq_true hb
      subst this
      simp only [cond_true, Option.some.injEq] at e
      subst e
      have hlt : t < a.tmps.size := by rw [h.f.size]; exact ht
      simpa [Act.put, hlt] using k
    | false =>
      rw [hb] at e
      have hne : t ≠ t' := fun x => by subst x; simp at hb
      have := h.f.tmps t' v' e
      simpa [Act.put, Array.getElem?_setIfInBounds_ne hne] using this
theorem Rel.storeLocal (h : Rel D I0 st0 w0 I β env st a w) {id b : Nat} {cs cs' : List V} {vs us : List Value} {ty : TypeId} (hb : β id = some b) (hw : w.heap[b]? = some (.cells vs.toArray ty (0, 0)))
    (k : RepL I cs' us) : Rel D I0 st0 w0 I β { env with boxes := (id, cs') :: env.boxes } st a (w.setRow b us.toArray) := by
  obtain ⟨s1, s2, s3, s4, s5, s6⟩ := h.f.sep id b hb
  have hn := setRow_heap w b vs.toArray us.toArray ty (0, 0) hw
  have ho : ∀ x, x ≠ b → (w.setRow b us.toArray).heap[x]? = w.heap[x]? := fun x hx => setRow_other w b x us.toArray hx
  refine ⟨⟨h.fr.os, h.fr.tape, h.fr.output, by simpa using h.fr.size, fun x hx h1 h2 => ?_, h.fr.le, h.fr.new, h.fr.newS, h.fr.dom⟩, ⟨?_, ?_, ?_, h.s.boxI, ?_, h.s.tab⟩, ⟨h.f.size, h.f.tmps, ?_, h.f.nxt, h.f.inj, ?_, h.f.defers⟩⟩
  · rw [ho x (by omega)]; exact h.fr.old x hx h1 h2
  · intro x o v e
    have hx : x ≠ b := fun hx => by subst hx; rw [s3 o] at e; cases e
    rw [cell_eq (ho x hx)]; exact h.s.cell x o v e
  · intro x n e
    have hx : x ≠ b := fun hx => by subst hx; rw [s4] at e; cases e
    obtain ⟨c, ty', h1, h2⟩ := h.s.shape x n e
    exact ⟨c, ty', by rw [ho x hx]; exact h1, h2⟩
  · intro x n e
    have hx : x ≠ b := fun hx => by subst hx; rw [s5] at e; cases e
    obtain ⟨c, ty', h1, h2⟩ := h.s.box x n e
    exact ⟨c, ty', by rw [ho x hx]; exact h1, h2⟩
  · intro x n e
    exact ⟨by simpa using (h.s.hw x n e).1, (h.s.hw x n e).2⟩
  · intro id' c e
    rw [assoc_cons] at e
    cases hq : Nat.beq id id' with
    | true =>
      rw [hq] at e
      have := Nat.eq_of_beq_eq_true hq
      subst this
      simp only [cond_true, Option.some.injEq] at e
      subst e
      exact ⟨b, hb, .inl ⟨us, ty, hn, k⟩⟩
    | false =>
      rw [hq] at e
      obtain ⟨b', h1, h2⟩ := h.f.box id' c e
      have hx : b' ≠ b := fun hx => by
        subst hx
        have := h.f.inj _ _ _ h1 hb
        subst this
        simp at hq
      exact ⟨b', h1, by rw [ho b' hx]; exact h2⟩
  · intro id' b' e
    obtain ⟨h1, h2, h3⟩ := h.f.sep id' b' e
    exact ⟨h1, by simpa using h2, h3⟩
theorem Rel.storeGlobal (h : Rel D I0 st0 w0 I β env st a w) {b : Nat} {cs cs' : List V} {vs us : List Value} {ty : TypeId} (hb : st.box b = some cs) (hw : w.heap[b]? = some (.cells vs.toArray ty (0, 0)))
    (k : RepL I cs' us) : Rel D I0 st0 w0 I β env (st.setBox b cs') a (w.setRow b us.toArray) := by
  obtain ⟨s3, s6, s4⟩ := h.s.boxI b (by rw [hb]; simp)
  have hn := setRow_heap w b vs.toArray us.toArray ty (0, 0) hw
  have ho : ∀ x, x ≠ b → (w.setRow b us.toArray).heap[x]? = w.heap[x]? := fun x hx => setRow_other w b x us.toArray hx
  have hd := h.fr.dom b (.inl (by rw [hb]; simp))
  have nb : ∀ x, (st.setBox b cs').box x ≠ none → st.box x ≠ none := fun x e => by
    by_cases hx : x = b
    · subst hx; rw [hb]; simp
    · simpa [St.setBox, hx] using e
  refine ⟨⟨h.fr.os, h.fr.tape, h.fr.output, by simpa using h.fr.size, fun x hx h1 h2 => ?_, h.fr.le, h.fr.new, h.fr.newS, fun x e => h.fr.dom x (e.imp (nb x) id)⟩, ⟨?_, ?_, ?_, fun x e => h.s.boxI x (nb x e), ?_, h.s.tab⟩, ⟨h.f.size, h.f.tmps, ?_, h.f.nxt, h.f.inj, ?_, h.f.defers⟩⟩
  · have hne : x ≠ b := fun e => by
      subst e
      rcases hd with hd | hd | hd
      · omega
      · exact hd h1
      · exact hd h2
    rw [ho x hne]; exact h.fr.old x hx h1 h2
  · intro x o v e
    have hx : x ≠ b := fun hx => by subst hx; rw [s3 o] at e; cases e
    rw [cell_eq (ho x hx)]; exact h.s.cell x o v e
  · intro x n e
    have hx : x ≠ b := fun hx => by subst hx; rw [s4] at e; cases e
    obtain ⟨c, ty', h1, h2⟩ := h.s.shape x n e
    exact ⟨c, ty', by rw [ho x hx]; exact h1, h2⟩
  · intro x c e
    simp only [St.setBox] at e
    split at e
    · rename_i hx; subst hx; injection e with e; subst e; exact ⟨us, ty, hn, k⟩
    · rename_i hx
      obtain ⟨c', ty', h1, h2⟩ := h.s.box x c e
      exact ⟨c', ty', by rw [ho x hx]; exact h1, h2⟩
  · intro x n e
    exact ⟨by simpa using (h.s.hw x n e).1, (h.s.hw x n e).2⟩
  · intro id' c e
    obtain ⟨b', h1, h2⟩ := h.f.box id' c e
    have hx : b' ≠ b := fun hx => by
      subst hx
      have := (h.f.sep id' b' h1).2.2.2.2.1
      rw [hb] at this; cases this
    exact ⟨b', h1, by rw [ho b' hx]; exact h2⟩
  · intro id' b' e
    obtain ⟨h1, h2, h3, h4, h5, h6⟩ := h.f.sep id' b' e
    have hx : b' ≠ b := fun hx => by subst hx; rw [hb] at h5; cases h5
    exact ⟨h1, by simpa using h2, h3, h4, by simp [St.setBox, hx, h5], h6⟩
theorem Rel.appendIn (h : Rel D I0 st0 w0 I β env st a w) {b n m : Nat} {cur : List Value} {ty : TypeId} (hh : st.hw b = some n) (hw : w.heap[b]? = some (.cells cur.toArray ty (0, 0))) (hs : I.shape b = some m)
    (vs : List Value) (hle : n + vs.length ≤ cur.length) :
    Rel D I0 st0 w0 (I.add b n vs m) β env ((st.dropHw b).setHw b (n + vs.length)) a (w.setRow b (cur.take n ++ vs ++ cur.drop (n + vs.length)).toArray) := by
  have hf := (h.s.hw b n hh).2
  have hl : I.le (I.add b n vs m) := Mem.le_add hf (.inr hs)
  have hn := setRow_heap w b cur.toArray (cur.take n ++ vs ++ cur.drop (n + vs.length)).toArray ty (0, 0) hw
  have ho : ∀ x, x ≠ b → (w.setRow b (cur.take n ++ vs ++ cur.drop (n + vs.length)).toArray).heap[x]? = w.heap[x]? := fun x hx => setRow_other w b x _ hx
  have hd := h.fr.dom b (.inr (by rw [hh]; simp))
  have hbx : st.box b = none := by
    cases e : st.box b with
    | none => rfl
    | some c => have := (h.s.boxI b (by rw [e]; simp)).2.1; rw [hh] at this; cases this
  have nh : ∀ x, ((st.dropHw b).setHw b (n + vs.length)).hw x ≠ none → st.hw x ≠ none := fun x e => by
    by_cases hx : x = b
    · subst hx; rw [hh]; simp
    · simpa [St.setHw, St.dropHw, hx] using e
  have hlen : (cur.take n ++ vs ++ cur.drop (n + vs.length)).length = cur.length := by simp; omega
  refine ⟨⟨h.fr.os, h.fr.tape, h.fr.output, by simpa using h.fr.size, fun x hx h1 h2 => ?_, Mem.le_trans h.fr.le hl, ?_, ?_, fun x e => h.fr.dom x (e.imp id (nh x))⟩, ⟨?_, ?_, ?_, ?_, ?_, gtab_le hl.1 hl.2 h.s.tab⟩,
    ⟨h.f.size, fun t v e => (h.f.tmps t v e).mono hl, ?_, h.f.nxt, h.f.inj, ?_, h.f.defers⟩⟩
  · have hne : x ≠ b := fun e => by
      subst e
      rcases hd with hd | hd | hd
      · omega
      · exact hd h1
      · exact hd h2
    rw [ho x hne]; exact h.fr.old x hx h1 h2
  · intro x o h1 h2
    by_cases e : x = b
    · subst e; exact hd
    · exact h.fr.new x o h1 (by simpa [Mem.add, e] using h2)
  · intro x h1 h2
    by_cases e : x = b
    · subst e; exact hd
    · exact h.fr.newS x h1 (by simpa [Mem.add, e] using h2)
  · intro x o v e
    simp only [Mem.add] at e
    split at e
    · rename_i hx
      obtain ⟨rfl, h1, h2⟩ := hx
      simp only [World.cell?, hn, Option.isSome_none, Bool.false_eq_true, if_false, List.getElem?_toArray]
      rw [List.getElem?_append_left (by simp; omega), List.getElem?_append_right (by simp; omega)]
      rw [List.length_take, Nat.min_eq_left (by omega)]
      exact e
    · rename_i hx
      by_cases hxb : x = b
      · subst hxb
        have hc := h.s.cell x o v e
        have hlt : o < n := by
          rcases Nat.lt_or_ge o n with h' | h'
          · exact h'
          · rw [hf o h'] at e; cases e
        simp only [World.cell?, hw, Option.isSome_none, Bool.false_eq_true, if_false, List.getElem?_toArray] at hc
        simp only [World.cell?, hn, Option.isSome_none, Bool.false_eq_true, if_false, List.getElem?_toArray]
        rw [List.append_assoc, List.getElem?_append_left (by simp; omega), List.getElem?_take, if_pos hlt]
        exact hc
      · rw [cell_eq (ho x hxb)]; exact h.s.cell x o v e
  · intro x k e
    simp only [Mem.add] at e
    split at e
    · rename_i hx
      subst hx
      injection e with e
      subst e
      obtain ⟨c, ty', h1, h2⟩ := h.s.shape x _ hs
      rw [hw] at h1
      injection h1 with h1
      injection h1 with h1 _ _
      subst h1
      exact ⟨_, ty, hn, by rw [List.size_toArray, hlen]; simpa using h2⟩
    · rename_i hx
      obtain ⟨c, ty', h1, h2⟩ := h.s.shape x k e
      exact ⟨c, ty', by rw [ho x hx]; exact h1, h2⟩
  · intro x c e
    have hx : x ≠ b := fun hx => by
      subst hx
      rw [show ((st.dropHw x).setHw x (n + vs.length)).box x = st.box x from rfl, hbx] at e; cases e
    obtain ⟨c', ty', h1, h2⟩ := h.s.box x c e
    exact ⟨c', ty', by rw [ho x hx]; exact h1, RepL.mono hl _ _ h2⟩
  · intro x e
    have hx : x ≠ b := fun hx => e (by subst hx; exact hbx)
    obtain ⟨h1, h2, h3⟩ := h.s.boxI x e
    exact ⟨fun o => by simp [Mem.add, hx, h1 o], by simp [St.setHw, St.dropHw, hx, h2], by simp [Mem.add, hx, h3]⟩
  · intro x k e
    simp only [St.setHw, St.dropHw] at e
    split at e
    · rename_i hx
      subst hx
      injection e with e
      subst e
      exact ⟨by simpa using (h.s.hw x n hh).1, fun o ho' => by simp only [Mem.add]; rw [if_neg (by omega)]; exact hf o (by omega)⟩
    · rename_i hx
      first | rw [if_neg hx] at e | skip
      exact ⟨by simpa using (h.s.hw x k e).1, fun o ho' => by simp only [Mem.add]; rw [if_neg (by simp [hx])]; exact (h.s.hw x k e).2 o ho'⟩
  · intro id' c e
    obtain ⟨b', h1, h2⟩ := h.f.box id' c e
    have hx : b' ≠ b := fun hx => by
      subst hx
      have := (h.f.sep id' b' h1).2.2.2.2.2
      rw [hh] at this; cases this
    exact ⟨b', h1, by rw [ho b' hx]; exact h2.mono hl⟩
  · intro id' b' e
    obtain ⟨h1, h2, h3, h4, h5, h6⟩ := h.f.sep id' b' e
    have hx : b' ≠ b := fun hx => by subst hx; rw [hh] at h6; cases h6
    exact ⟨h1, by simpa using h2, fun o => by simp [Mem.add, hx, h3 o], by simp [Mem.add, hx, h4], h5, by simp [St.setHw, St.dropHw, hx, h6]⟩
theorem Rel.called {I1 : Mem} {st1 : St} {w1 : World} (h : Rel D I0 st0 w0 I β env st a w) (f : Fr I st w I1 st1 w1) (s : RelS I1 st1 w1) : Rel D I0 st0 w0 I1 β env st1 a w1 := by
  have key : ∀ id b, β id = some b → (∀ o, I1.cell b o = none) ∧ st1.box b = none ∧ st1.hw b = none ∧ w1.heap[b]? = w.heap[b]? := fun id b e => by
    obtain ⟨h1, h2, h3, h4, h5, h6⟩ := h.f.sep id b e
    refine ⟨fun o => ?_, ?_, ?_, f.old b h2 h5 h6⟩
    · cases hc : I1.cell b o with
      | none => rfl
      | some v => rcases f.new b o (h3 o) (by rw [hc]; simp) with h | h | h <;> first | omega | contradiction
    · cases hc : st1.box b with
      | none => rfl
      | some v => rcases f.dom b (.inl (by rw [hc]; simp)) with h | h | h <;> first | omega | contradiction
    · cases hc : st1.hw b with
      | none => rfl
      | some v => rcases f.dom b (.inr (by rw [hc]; simp)) with h | h | h <;> first | omega | contradiction
  refine ⟨h.fr.trans f, s, ⟨h.f.size, fun t v e => (h.f.tmps t v e).mono f.le, ?_, h.f.nxt, h.f.inj, ?_, h.f.defers⟩⟩
  · intro id cs e
    obtain ⟨b, h1, h2⟩ := h.f.box id cs e
    exact ⟨b, h1, by rw [(key id b h1).2.2.2]; exact h2.mono f.le⟩
  · intro id b e
    obtain ⟨h1, h2, h3, h4, h5, h6⟩ := h.f.sep id b e
    obtain ⟨k1, k2, k3, k4⟩ := key id b e
    refine ⟨h1, Nat.lt_of_lt_of_le h2 f.size, k1, ?_, k2, k3⟩
    cases hc : I1.shape b with
    | none => rfl
    | some v => rcases f.newS b h4 (by rw [hc]; simp) with h | h | h <;> first | omega | contradiction
end
end Go.Aw
set_option maxHeartbeats 16000000
set_option linter.unusedVariables false
set_option linter.unusedSimpArgs false
namespace Go.Aw
open Go
def Mem.empty : Mem := ⟨fun _ _ => none, fun _ => none⟩
theorem Mem.empty_le (I : Mem) : Mem.empty.le I := ⟨fun _ _ _ h => (by cases h), fun _ _ h => (by cases h)⟩
def aggD : TypeDesc → Bool
  | .struct _ | .array _ _ => true
  | _ => false
def eqOkB (P : Program) (t : TypeId) (z : List V) : Bool :=
  !P.stoodInHeld t && !P.eqGuardType P.depth t && match P.underlying t with
  | some (.struct fs) => fs.size == z.length && (List.range z.length).all fun i => match fs.toList[i]?, z[i]? with
    | some f, some v => f.name != "_" && f.offset == i && P.plainKey f.type && match v, P.underlying f.type with
      | .int _ _, some (.int _) => true
      | .str _, some .string => true
      | .bool _, some .bool => true
      | _, _ => false
    | _, _ => false
  | _ => false
def TyOk (P : Program) (t : TypeId) : Ty → Prop
  | .sc z => ∃ i d c, P.info? t = some i ∧ P.underlying t = some d ∧ aggD d = false ∧ i.size = 1 ∧ i.zero = some c ∧ Rep Mem.empty z c ∧ c.cells = #[c] ∧ z.known = true ∧ z.cells = [z] ∧
      (match z with | .str _ => d = .string | .nili => ∃ ms, d = .interface ms | .int k _ => d = .int k | .bool _ => d = .bool | _ => ∀ ms, d ≠ .interface ms)
  | .slice e sz bytes => ∃ i j c, P.info? t = some i ∧ P.underlying t = some (.slice e) ∧ i.size = 1 ∧ i.zero = some (.slice none 0 0) ∧ P.info? e = some j ∧ j.size = sz ∧ j.bytes = bytes ∧ 0 < sz ∧ j.zero = some c ∧ c.cells.size = sz
  | .struct offs z => ∃ i fields, ∃ zs : List Value, P.info? t = some i ∧ P.underlying t = some (.struct fields) ∧ i.size = z.length ∧ i.zero = some (.agg zs.toArray) ∧ RepL Mem.empty z zs ∧ 
      fields.size = offs.length ∧ (∀ (n o s : Nat), offs[n]? = some (o, s) → ∃ (f : Field) (j : TypeInfo), (fields[n]? = some f ∧ f.offset = o ∧ P.info? f.type = some j ∧ j.size = s)) ∧
      (flatB z = true → eqOkB P t z = true) ∧ (∀ n o : Nat, offs[n]? = some (o, 1) → ∃ (f : Field) (d : TypeDesc), fields[n]? = some f ∧ f.offset = o ∧ P.underlying f.type = some d ∧ aggD d = false)
  | .arr offs z => ∃ i n e j, ∃ zs : List Value, P.info? t = some i ∧ P.underlying t = some (.array n e) ∧ i.size = z.length ∧ i.zero = some (.agg zs.toArray) ∧ RepL Mem.empty z zs ∧ P.info? e = some j ∧
      (∀ (n o s : Nat), offs[n]? = some (o, s) → o = n * j.size ∧ s = j.size)
def TOk (P : Program) (T : List (Nat × Ty)) : Prop := ∀ t ty, assoc T t = some ty → TyOk P t ty
section
variable {D : List Deferred} {P : Program} {T : List (Nat × Ty)} {I : Mem} {β : Nat → Option Nat} {env : Env} {st : St} {a : Act} {w : World} {B : Nat}
theorem RelF.get (h : RelF D B I β env st a w) (t : Nat) : RepT I β (env.get t) (a.tmps.getD t undef) := by
  simp only [Env.get]
  cases hh : assoc env.tmps t with
  | none => exact RepT.of (by simp only [Rep])
  | some v => exact h.tmps t v hh
theorem rep_const (c : Value) : Rep I (absConst c) c := by
  unfold absConst
  split
  · simp only [Rep]
  · simp only [Rep]
  · rename_i l
    split
    · rename_i h
      simp only [Rep]
      exact ⟨trivial, by simpa [Nat.blt_eq, lim] using h⟩
    · simp only [Rep]
  all_goals simp only [Rep]
theorem RelF.eval (h : RelF D B I β env st a w) (x : Operand) : RepT I β (env.eval x) (a.eval x) := by
  cases x with
  | tmp t => exact h.get t
  | const c => exact RepT.of (rep_const c)
  | global g => exact RepT.of (v := .junk) (by simp only [Rep])
  | func f => exact RepT.of (v := .func f [] []) (by simp only [Rep]; exact ⟨[], [], rfl, by simp only [RepL], by simp only [RepL]⟩)
theorem isNilSlice_eq {x : Operand} (h : isNilSlice x = true) : x = .const (.slice none 0 0) := by
  unfold isNilSlice at h
  split at h
  · rfl
  · cases h
theorem rep_nil {sz : Nat} (h : 0 < sz) (own : Own) (ho : own = .full ∨ own = .any) : Rep I (.slice sz [] own) (.slice none 0 0) := by
  simp only [Rep]
  exact ⟨none, 0, rfl, Nat.le_refl _, by simp [lim], h, by rcases ho with rfl | rfl; exact rfl; trivial, rfl⟩
theorem RelF.evalT (hT : TOk P T) (h : RelF D B I β env st a w) (t : TypeId) (x : Operand) : RepT I β (env.evalT T t x) (a.eval x) := by
  simp only [Env.evalT]
  cases hn : isNilSlice x with
  | false => exact h.eval x
  | true =>
    have := isNilSlice_eq hn
    subst this
    simp only
    split
    · rename_i e sz b ht
      obtain ⟨i, j, c, _, _, _, _, _, _, _, hsz, _⟩ := hT t _ ht
      exact RepT.of (rep_nil hsz _ (.inl rfl))
    · exact RepT.of (v := .junk) (by simp only [Rep])
theorem RepT.rep {v : V} {c : Value} (h : RepT I β v c) (k : v.plain = true) : Rep I v c := by
  cases v <;> first | exact h | cases k
theorem run_underlying' {t : TypeId} {d : TypeDesc} (h : P.underlying t = some d) : (underlying t).run P w = .ok d w := run_underlying h w
theorem run_isAgg {t : TypeId} {d : TypeDesc} (h : P.underlying t = some d) : (isAgg t).run P w = .ok (aggD d) w := by
  simp only [isAgg, Sem.run_bind, run_underlying' h, Result.andThen_ok]
  cases d <;> rfl
theorem run_sizeOf' {t : TypeId} {i : TypeInfo} (h : P.info? t = some i) : (sizeOf t).run P w = .ok i.size w := by
  simp [sizeOf, typeInfo, h]
theorem run_zeroValue' {t : TypeId} {i : TypeInfo} {z : Value} (h : P.info? t = some i) (hz : i.zero = some z) : (zeroValue t).run P w = .ok z w := by
  simp [zeroValue, typeInfo, h, hz]
def Ty.one : Ty → Prop
  | .struct _ _ | .arr _ _ => False
  | _ => True
theorem TyOk.sc {t : TypeId} {ty : Ty} (h : TyOk P t ty) (k : ty.one) : ∃ i d c, P.info? t = some i ∧ P.underlying t = some d ∧ aggD d = false ∧ i.size = 1 ∧ i.zero = some c ∧ Rep Mem.empty ty.zero c ∧ c.cells = #[c] := by
  cases ty with
  | sc z =>
    obtain ⟨i, d, c, h1, h2, h3, h4, h5, h6, h7, _⟩ := h
    exact ⟨i, d, c, h1, h2, h3, h4, h5, h6, h7⟩
  | slice e sz b =>
    obtain ⟨i, j, c, h1, h2, h3, h4, h5, h6, h7, h8, _⟩ := h
    exact ⟨i, .slice e, .slice none 0 0, h1, h2, rfl, h3, h4, rep_nil h8 _ (.inl rfl), rfl⟩
  | struct _ _ => exact k.elim
  | arr _ _ => exact k.elim
theorem run_loadVar_sc {t : TypeId} {ty : Ty} (h : TyOk P t ty) (k : ty.one) {ad : Addr} {v : Value} (hv : w.cell? ad = some v) : (loadVar t ad).run P w = .ok v w := by
  obtain ⟨i, d, c, h1, h2, h3, _⟩ := h.sc k
  simp only [loadVar, Sem.run_bind, run_isAgg h2, h3, Result.andThen_ok, Bool.false_eq_true, if_false, run_load, hv]
theorem add_lit' (b o n : Nat) : (⟨b, o, none⟩ : Addr).add n = ⟨b, o + n, none⟩ := by unfold Addr.add; split <;> simp_all
theorem run_loadVar_struct {t : TypeId} {offs : List (Nat × Nat)} {z : List V} (h : TyOk P t (.struct offs z)) {b o : Nat} {vs : List Value} (hl : vs.length = z.length)
    (hv : ∀ j v, vs[j]? = some v → w.cell? ⟨b, o + j, none⟩ = some v) : (loadVar t ⟨b, o, none⟩).run P w = .ok (.agg vs.toArray) w := by
  obtain ⟨i, fields, zs, h1, h2, h3, _⟩ := h
  have hc := run_loadCells_list (P := P) w ⟨b, o, none⟩ vs (fun j v e => by rw [add_lit']; exact hv j v e)
  rw [hl, ← h3] at hc
  simp only [loadVar, Sem.run_bind, run_isAgg h2, aggD, run_sizeOf' h1, Result.andThen_ok, if_true, hc, Sem.run_pure]
theorem loadFrom_sound (hT : TOk P T) {cs : List V} {vs : List Value} {b o off : Nat} {t : TypeId} {K : V → Prop} (hk : RepL I cs vs) (hv : ∀ j v, vs[j]? = some v → w.cell? ⟨b, o + j, none⟩ = some v)
    (h : loadFrom cs off (assoc T t) K) : ∃ v c, (loadVar t ⟨b, o + off, none⟩).run P w = .ok c w ∧ Rep I v c ∧ K v := by
  have scCase : ∀ ty : Ty, assoc T t = some ty → ty.one → (match cs[off]? with | some v => v.force K | none => False) → ∃ v c, (loadVar t ⟨b, o + off, none⟩).run P w = .ok c w ∧ Rep I v c ∧ K v := by
    intro ty ht hone h
    cases hc : cs[off]? with
    | none => rw [hc] at h; exact h.elim
    | some v =>
      rw [hc] at h
      obtain ⟨c, h1, h2⟩ := RepL.get hk hc
      exact ⟨v, c, run_loadVar_sc (hT t ty ht) hone (hv off c h1), h2, V.force_iff.1 h⟩
  unfold loadFrom at h
  replace h := (chk_iff.1 h).2
  split at h
  · rename_i offs z ht
    have hty := hT t _ ht
    have hlen := RepL.length hk
    split at h
    · rename_i hb
      simp only [Bool.and_eq_true] at hb
      have h0 : off = 0 := Nat.eq_of_beq_eq_true hb.1
      have hz : z.length = cs.length := Nat.eq_of_beq_eq_true hb.2
      subst h0
      exact ⟨.agg cs, .agg vs.toArray, run_loadVar_struct hty (by omega) (fun j v e => by simpa using hv j v e), by simp only [Rep]; exact ⟨vs, rfl, hk⟩, h⟩
    · obtain ⟨hle, h⟩ := chk_iff.1 h
      have hle := Nat.le_of_ble_eq_true hle
      refine ⟨_, .agg ((vs.drop off).take z.length).toArray, run_loadVar_struct hty (by simp; omega) (fun j v e => ?_), ?_, forceL_iff.1 h⟩
      · have : vs[off + j]? = some v := by
          rw [List.getElem?_take] at e
          split at e
          · rw [List.getElem?_drop] at e; exact e
          · cases e
        rw [Nat.add_assoc]; exact hv _ _ this
      · simp only [Rep]
        exact ⟨_, rfl, RepL.take _ (RepL.drop _ hk)⟩
  · exact h.elim
  · rename_i ty hns hna ht
    exact scCase _ ht (by cases ty <;> first | trivial | exact (hns _ _ rfl).elim | exact (hna _ _ rfl).elim) h
  · exact h.elim
end
end Go.Aw
set_option maxHeartbeats 16000000
set_option linter.unusedVariables false
set_option linter.unusedSimpArgs false
namespace Go.Aw
open Go
def resM (I : Mem) : Ending → Res → Prop
  | .returned c, .ret v => Rep I v c
  | .panicked chain, .pan v => ∃ c, chain = [{ v := c, recovered := false }] ∧ Rep I v c
  | _, _ => False
def ACalls (P : Program) (f : FuncId) (args : List V) (st : St) (R : Res → St → Prop) : Prop :=
  ∀ (I : Mem) (w : World) (cargs : List Value), RelS I st w → RepL I args cargs →
    Calls P f cargs.toArray w fun e w' => ∃ I' st' r, Fr I st w I' st' w' ∧ RelS I' st' w' ∧ resM I' e r ∧ R r st'
theorem ACalls.mono {P : Program} {f : FuncId} {args : List V} {st : St} {R R' : Res → St → Prop} (h : ACalls P f args st R) (k : ∀ r s, R r s → R' r s) : ACalls P f args st R' :=
  fun I w cargs h1 h2 => (h I w cargs h1 h2).mono fun e w' ⟨I', st', r, k1, k2, k3, k4⟩ => ⟨I', st', r, k1, k2, k3, k r st' k4⟩
def exitM (I : Mem) : Exit → AExit → Prop
  | .normal, .normal => True
  | .exit i, .exit j => i = j
  | .goto i, .goto j => i = j
  | .ret, .ret => True
  | .panic chain, .pan v => ∃ c, chain = [{ v := c, recovered := false }] ∧ Rep I v c
  | _, _ => False
def liftQ (D : List Deferred) (I0 : Mem) (st0 : St) (w0 : World) (Q : AExit → Env → St → Prop) : Exit → Act → World → Prop :=
  fun e a w => ∃ I β env st ae, Rel D I0 st0 w0 I β env st a w ∧ exitM I e ae ∧ Q ae env st
def AW (P : Program) (c : Code) (Q : AExit → Env → St → Prop) (env : Env) (st : St) : Prop :=
  ∀ D I0 st0 w0 I β a w, Rel D I0 st0 w0 I β env st a w → c.wp P (liftQ D I0 st0 w0 Q) a w
section
variable {D : List Deferred} {P : Program} {T : List (Nat × Ty)} {C : FuncId → List V → St → (Res → St → Prop) → Prop} {I0 I : Mem} {st0 st : St} {w0 w : World} {β : Nat → Option Nat} {env : Env} {a : Act}
variable {o : Oper} {K : V → Env → St → Prop} {Q : AExit → Env → St → Prop} {next : Act → World → Prop}
def Takes (D : List Deferred) (I0 : Mem) (st0 : St) (w0 : World) (β0 : Nat → Option Nat) (n0 : Nat) (a : Act) (dst : Option Tmp) (next : Act → World → Prop) (K : V → Env → St → Prop) : Prop :=
  ∀ I β env st v c w, Rel D I0 st0 w0 I β env st a w → RepT I β v c → (∀ id, id < n0 → β id = β0 id) → K v env st → next (a.put dst c) w
theorem op_value {c : Value} {v : V} {w' : World} {I' : Mem} {β' : Nat → Option Nat} {env' : Env} {st' : St} {Qc : Exit → Act → World → Prop} (hK : Takes D I0 st0 w0 β env.nxt a o.dst next K)
    (hr : (execOp a.eval o).run P w = .ok (.value c) w') (h : Rel D I0 st0 w0 I' β' env' st' a w') (hv : RepT I' β' v c) (k : K v env' st') (hβ : ∀ id, id < env.nxt → β' id = β id := by exact fun _ _ => rfl) : o.wp P a w next Qc := by
  unfold Oper.wp; rw [hr]; exact hK _ _ _ _ _ _ _ h hv hβ k
theorem op_skip {w' : World} {I' : Mem} {β' : Nat → Option Nat} {env' : Env} {st' : St} {Qc : Exit → Act → World → Prop} (hK : Takes D I0 st0 w0 β env.nxt a o.dst next K)
    (hr : (execOp a.eval o).run P w = .ok .skip w') (h : Rel D I0 st0 w0 I' β' env' st' a w') (k : K .junk env' st') (hβ : ∀ id, id < env.nxt → β' id = β id := by exact fun _ _ => rfl) : o.wp P a w next Qc := by
  unfold Oper.wp; rw [hr]; exact hK _ _ _ _ _ _ _ h (RepT.of (v := .junk) (by simp only [Rep])) hβ k
theorem rep_cells {v : V} {c : Value} (h : Rep I v c) (k : v.known = true) : RepL I v.cells c.cells.toList := by
  have one : ∀ {u : V} {c : Value}, Rep I u c → c.cells = #[c] → RepL I [u] c.cells.toList := fun {u c} h e => by
    rw [e]; simp only [RepL]; exact ⟨c, [], rfl, h, rfl⟩
  cases v with
  | junk => cases k
  | lptr _ _ => cases k
  | agg cs => simp only [Rep] at h; obtain ⟨vs, rfl, h⟩ := h; exact h
  | bool b => refine one h ?_; simp only [Rep] at h; subst h; rfl
  | int k' n => refine one h ?_; simp only [Rep] at h; subst h; rfl
  | str s => refine one h ?_; simp only [Rep] at h; rw [h.1]; rfl
  | tup cs => refine one h ?_; simp only [Rep] at h; obtain ⟨vs, rfl, _⟩ := h; rfl
  | slice sz es own => refine one h ?_; simp only [Rep] at h; obtain ⟨x, y, rfl, _⟩ := h; rfl
  | ptr b off => refine one h ?_; simp only [Rep] at h; subst h; rfl
  | eptr b off => refine one h ?_; simp only [Rep] at h; obtain ⟨x, y, rfl, _⟩ := h; rfl
  | nilp => refine one h ?_; simp only [Rep] at h; subst h; rfl
  | func f x y => refine one h ?_; simp only [Rep] at h; obtain ⟨x, y, rfl, _⟩ := h; rfl
  | nilf => refine one h ?_; simp only [Rep] at h; subst h; rfl
  | iface t v => refine one h ?_; simp only [Rep] at h; obtain ⟨x, rfl, _⟩ := h; rfl
  | nili => refine one h ?_; simp only [Rep] at h; subst h; rfl
  | sit _ _ => cases k
  | mrow _ _ _ _ => refine one h ?_; simp only [Rep] at h; rw [h.1]; rfl
  | yld l => refine one h ?_; simp only [Rep] at h; subst h; rfl
theorem known_plain {v : V} (h : v.known = true) : v.plain = true := by cases v <;> first | rfl | cases h
theorem sc_one {v : V} {c : Value} (h : Rep I v c) (k : v.sc = true) : c.oneCell' = true := by
  cases v with
  | junk => cases k
  | agg cs => cases k
  | tup cs => cases k
  | lptr _ _ => simp only [Rep] at h
  | bool b => simp only [Rep] at h; subst h; rfl
  | int k' n => simp only [Rep] at h; subst h; rfl
  | str s => simp only [Rep] at h; rw [h.1]; rfl
  | slice sz es own => simp only [Rep] at h; obtain ⟨x, y, rfl, _⟩ := h; rfl
  | ptr b off => simp only [Rep] at h; subst h; rfl
  | eptr b off => simp only [Rep] at h; obtain ⟨x, y, rfl, _⟩ := h; rfl
  | nilp => simp only [Rep] at h; subst h; rfl
  | func f x y => simp only [Rep] at h; obtain ⟨x, y, rfl, _⟩ := h; rfl
  | nilf => simp only [Rep] at h; subst h; rfl
  | iface t v => simp only [Rep] at h; obtain ⟨x, rfl, _⟩ := h; rfl
  | nili => simp only [Rep] at h; subst h; rfl
  | sit _ _ => cases k
  | mrow _ _ _ _ => simp only [Rep] at h; rw [h.1]; rfl
  | yld l => simp only [Rep] at h; subst h; rfl
theorem sc_all : ∀ {l : List V} {vs : List Value}, RepL I l vs → l.all V.sc = true → ∀ c ∈ vs, c.oneCell' = true
  | [], vs, k, h, c, hc => by simp only [RepL] at k; subst k; cases hc
  | v :: r, vs, k, h, c, hc => by
    simp only [RepL] at k
    obtain ⟨c', s, e, k1, k2⟩ := k
    subst e
    simp only [List.all_cons, Bool.and_eq_true] at h
    rcases List.mem_cons.1 hc with rfl | hc
    · exact sc_one k1 h.1
    · exact sc_all k2 h.2 c hc
theorem evs_sound {B : Nat} (h : RelF D B I β env st a w) : ∀ {l : List Operand} {K : List V → Prop}, evs env l K → ∃ vs, RepL I vs (l.map a.eval) ∧ K vs
  | [], K, k => ⟨[], by simp only [List.map_nil, RepL], k⟩
  | x :: r, K, k => by
    rw [evs_cons, V.force_iff] at k
    obtain ⟨hp, k⟩ := chk_iff.1 k
    obtain ⟨vs, h1, h2⟩ := evs_sound h k
    exact ⟨_, by simp only [List.map_cons, RepL]; exact ⟨_, _, rfl, (h.eval x).rep hp, h1⟩, h2⟩
theorem evsT_sound (hT : TOk P T) {B : Nat} (h : RelF D B I β env st a w) : ∀ {ts : List TypeId} {l : List Operand} {K : List V → Prop}, evsT T env ts l K → ∃ vs, RepL I vs (l.map a.eval) ∧ K vs
  | ts, [], K, k => ⟨[], by simp only [List.map_nil, RepL], k⟩
  | ts, x :: r, K, k => by
    rw [evsT_cons, V.force_iff] at k
    obtain ⟨hp, k⟩ := chk_iff.1 k
    obtain ⟨vs, h1, h2⟩ := evsT_sound hT h k
    exact ⟨_, by simp only [List.map_cons, RepL]; exact ⟨_, _, rfl, (h.evalT hT _ x).rep hp, h1⟩, h2⟩
theorem newBox_sound (hK : Takes D I0 st0 w0 β env.nxt a o.dst next K) (h : Rel D I0 st0 w0 I β env st a w) {cs : List V} {vs : List Value} (hv : RepL I cs vs) (ty : TypeId)
    (k : newBox env st o.dst cs K) : next (a.put o.dst (.pointer (some ⟨w.heap.size, 0, none⟩))) (w.alloc (.cells vs.toArray ty)) := by
  unfold newBox at k
  split at k
  · have k := forceL_iff.1 k _ (fresh_new h.s)
    exact hK _ _ _ _ _ _ _ (h.globalBox hv ty) (RepT.of (by simp only [Rep])) (fun _ _ => rfl) k
  · have k := forceL_iff.1 k
    exact hK _ _ _ _ (.lptr _ 0) _ _ (h.localBox hv ty) (show ∃ b, _ ∧ _ from ⟨w.heap.size, if_pos rfl, rfl⟩) (fun id hid => if_neg (Nat.ne_of_lt hid)) k
theorem bin_sound {B : Nat} {op : BinOp} {x y : V} {cx cy : Value} {K : V → Prop} (h1 : RepT I β x cx) (h2 : RepT I β y cy) (t : TypeId) (ox oy : Operand) (k : bin op x y K) :
    ∃ v c, (do eqGuard op t ox oy cx cy; binOp op t cx cy : Sem Value).run P w = .ok c w ∧ Rep I v c ∧ K v := by
  have guardOk : ∀ {cx cy : Value}, ((∃ k n, cx = .int k n) ∨ (∃ s, cx = .string s)) → (eqGuard op t ox oy cx cy).run P w = .ok () w := by
    intro cx cy h
    rcases h with ⟨k, n, rfl⟩ | ⟨s, rfl⟩ <;> (unfold eqGuard; cases op <;> rfl)
  unfold bin at k
  split at k
  · rename_i ka na kb nb
    have e1 : cx = .int ka na := by have := h1; simpa only [RepT, Rep] using this
    have e2 : cy = .int kb nb := by have := h2; simpa only [RepT, Rep] using this
    subst e1; subst e2
    have k' : chk (decide (ka = kb)) _ := k
    rw [chk_iff] at k'
    obtain ⟨hk, k'⟩ := k'
    clear k
    have hk := of_decide_eq_true hk
    subst hk
    revert k'
    intro k
    simp only [Sem.run_bind, guardOk (.inl ⟨_, _, rfl⟩), Result.andThen_ok]
    have bc : ∀ {b : Bool} {K : V → Prop}, bcase b (K (.bool true)) (K (.bool false)) → K (.bool b) := fun {b K} h => by cases b <;> first | exact bcase_false_iff.1 h | exact bcase_true_iff.1 h
    have bcn : ∀ {b : Bool} {K : V → Prop}, bcase b (K (.bool false)) (K (.bool true)) → K (.bool (!b)) := fun {b K} h => by cases b <;> first | exact bcase_false_iff.1 h | exact bcase_true_iff.1 h
    cases op
    case add => obtain ⟨r, rfl, k⟩ := k; exact ⟨_, _, by simp [binOp, Op.intArith]; rfl, by simp only [Rep], k⟩
    case sub => obtain ⟨r, rfl, k⟩ := k; exact ⟨_, _, by simp [binOp, Op.intArith]; rfl, by simp only [Rep], k⟩
    case mul => obtain ⟨r, rfl, k⟩ := k; exact ⟨_, _, by simp [binOp, Op.intArith]; rfl, by simp only [Rep], k⟩
    case quo => obtain ⟨hb, r, rfl, k⟩ := k; exact ⟨_, _, by simp [binOp, Op.intDiv, hb]; rfl, by simp only [Rep], k⟩
    case rem => obtain ⟨hb, k⟩ := k; exact ⟨_, _, by simp [binOp, Op.intDiv, hb]; rfl, by simp only [Rep], k⟩
    case and => obtain ⟨r, rfl, k⟩ := k; exact ⟨_, _, by simp only [binOp, Op.intBits, ne_eq, not_true_eq_false, if_false]; rfl, by simp only [Rep], k⟩
    case eql => exact ⟨_, _, by simp [binOp, Op.intCmp]; rfl, by simp only [Rep], bc (K := K) k⟩
    case neq => exact ⟨_, _, by simp [binOp, Op.intCmp, bne]; rfl, by simp only [Rep], bcn (K := K) k⟩
    case lss => exact ⟨_, _, by simp [binOp, Op.intCmp]; rfl, by simp only [Rep], bc (K := K) k⟩
    case leq => exact ⟨_, _, by simp [binOp, Op.intCmp]; rfl, by simp only [Rep], bc (K := K) k⟩
    case gtr => exact ⟨_, _, by simp [binOp, Op.intCmp]; rfl, by simp only [Rep], bc (K := K) k⟩
    case geq => exact ⟨_, _, by simp [binOp, Op.intCmp]; rfl, by simp only [Rep], bc (K := K) k⟩
    all_goals exact k.elim
  · rename_i sa sb
    have e1 : cx = .string ⟨sa.toArray⟩ ∧ sa.length < lim := by have := h1; simpa only [RepT, Rep] using this
    have e2 : cy = .string ⟨sb.toArray⟩ ∧ sb.length < lim := by have := h2; simpa only [RepT, Rep] using this
    obtain ⟨rfl, l1⟩ := e1
    obtain ⟨rfl, l2⟩ := e2
    simp only [Sem.run_bind, guardOk (.inr ⟨_, rfl⟩), Result.andThen_ok]
    have bc : ∀ {b : Bool} {K : V → Prop}, bcase b (K (.bool true)) (K (.bool false)) → K (.bool b) := fun {b K} h => by cases b <;> first | exact bcase_false_iff.1 h | exact bcase_true_iff.1 h
    have bcn : ∀ {b : Bool} {K : V → Prop}, bcase b (K (.bool false)) (K (.bool true)) → K (.bool (!b)) := fun {b K} h => by cases b <;> first | exact bcase_false_iff.1 h | exact bcase_true_iff.1 h
    have hl : ∀ s : List UInt8, (⟨s.toArray⟩ : ByteArray).toList = s := fun s => ByteArray.toList_mk s
    cases op
    case add =>
      obtain ⟨hlen, k⟩ := k
      refine ⟨_, .string (⟨sa.toArray⟩ ++ ⟨sb.toArray⟩), ?_, ?_, k⟩
      · have : ¬ ((9223372036854775807 : Int) < ((sa.length + sb.length : Nat) : Int)) := by simp only [lim] at hlen; omega
        have hs : (⟨sa.toArray⟩ : ByteArray).size + (⟨sb.toArray⟩ : ByteArray).size = sa.length + sb.length := by
          show sa.toArray.size + sb.toArray.size = _
          simp
        have hm : IntKind.i64.max = 9223372036854775807 := by decide
        simp only [binOp, Op.stringOp, hs]
        rw [hm, if_neg this]
        rfl
      · simp only [Rep]
        refine ⟨?_, by simpa using hlen⟩
        congr 1
    case eql => exact ⟨_, _, by simp only [binOp, Op.stringOp, hl]; rfl, by simp only [Rep], bc (K := K) k⟩
    case neq => exact ⟨_, _, by simp only [binOp, Op.stringOp, hl]; rfl, by simp only [Rep], bcn (K := K) k⟩
    all_goals exact k.elim
  · exact k.elim
end
end Go.Aw
set_option maxHeartbeats 16000000
set_option linter.unusedVariables false
set_option linter.unusedSimpArgs false
namespace Go.Aw
open Go
section
variable {D : List Deferred} {P : Program} {T : List (Nat × Ty)} {C : FuncId → List V → St → (Res → St → Prop) → Prop} {I0 I : Mem} {st0 st : St} {w0 w : World} {β : Nat → Option Nat} {env : Env} {a : Act}
variable {o : Oper} {K : V → Env → St → Prop} {Q : AExit → Env → St → Prop} {next : Act → World → Prop} {Qc : Exit → Act → World → Prop}
theorem rep_bool {b : Bool} {c : Value} (h : RepT I β (.bool b) c) : c = .bool b := by have := h; simpa only [RepT, Rep] using this
theorem rep_int {k : IntKind} {n : Int} {c : Value} (h : RepT I β (.int k n) c) : c = .int k n := by have := h; simpa only [RepT, Rep] using this
theorem rep_str {s : List UInt8} {c : Value} (h : RepT I β (.str s) c) : c = .string ⟨s.toArray⟩ ∧ s.length < lim := by have := h; simpa only [RepT, Rep] using this
theorem rep_ptr {b off : Nat} {c : Value} (h : RepT I β (.ptr b off) c) : c = .pointer (some ⟨b, off, none⟩) := by have := h; simpa only [RepT, Rep] using this
theorem rep_lptr {id off : Nat} {c : Value} (h : RepT I β (.lptr id off) c) : ∃ b, β id = some b ∧ c = .pointer (some ⟨b, off, none⟩) := h
theorem rep_eptr {e : List V} {off : Nat} {c : Value} (h : RepT I β (.eptr e off) c) : ∃ b o, c = .pointer (some ⟨b, o + off, none⟩) ∧ RepC I b o e := by have := h; simpa only [RepT, Rep] using this
theorem rep_mrow {sz b n cap : Nat} {c : Value} (h : RepT I β (.mrow sz b n cap) c) : c = .slice (some ⟨b, 0, none⟩) n cap ∧ n ≤ cap ∧ n < lim ∧ 0 < sz := by
  have h' : Rep I (.mrow sz b n cap) c := h
  simp only [Rep] at h'
  exact h'
theorem rep_slice {sz : Nat} {es : List (List V)} {own : Own} {c : Value} (h : RepT I β (.slice sz es own) c) : ∃ ad cap, c = .slice ad es.length cap ∧ es.length ≤ cap ∧ es.length < lim ∧ 0 < sz ∧ OwnOk I sz es.length cap ad own ∧
      (match ad with | none => cap = 0 | some ad => (cap = 0 ∨ ad.spot = none) ∧ RepE I sz ad.block ad.off es) := by
  have h' : Rep I (.slice sz es own) c := h
  simp only [Rep] at h'
  obtain ⟨ad, cap, h1, h2, h3, h4, h5, h6⟩ := h'
  refine ⟨ad, cap, h1, h2, h3, h4, h5, ?_⟩
  cases ad <;> exact h6
theorem sound_move {x : Operand} (hT : TOk P T) (hK : Takes D I0 st0 w0 β env.nxt a o.dst next K) (h : Rel D I0 st0 w0 I β env st a w) (ho : o.op = .move x ∨ o.op = .assign x)
    (k : (env.evalT T o.type x).force fun v => K v env st) : o.wp P a w next Qc := by
  refine op_value hK (c := a.eval x) (w' := w) ?_ h (h.f.evalT hT o.type x) (V.force_iff.1 k)
  rcases ho with ho | ho <;> simp only [execOp, ho] <;> rfl
theorem sound_pick {c x y : Operand} (hT : TOk P T) (hK : Takes D I0 st0 w0 β env.nxt a o.dst next K) (h : Rel D I0 st0 w0 I β env st a w) (ho : o.op = .pick c x y)
    (k : match env.eval c with
      | .bool t => lit t ((env.evalT T o.type x).force fun v => K v env st) ((env.evalT T o.type y).force fun v => K v env st)
      | _ => False) : o.wp P a w next Qc := by
  have hc := h.f.eval c
  split at k
  · rename_i t he
    rw [he] at hc
    have hc := rep_bool hc
    cases t with
    | true =>
      have k : (env.evalT T o.type x).force fun v => K v env st := k
      refine op_value hK (c := a.eval x) (w' := w) ?_ h (h.f.evalT hT o.type x) (V.force_iff.1 k)
      simp only [execOp, ho, hc]; rfl
    | false =>
      have k : (env.evalT T o.type y).force fun v => K v env st := k
      refine op_value hK (c := a.eval y) (w' := w) ?_ h (h.f.evalT hT o.type y) (V.force_iff.1 k)
      simp only [execOp, ho, hc]; rfl
  · exact k.elim
theorem alloc_run {t : TypeId} {ty : Ty} (hT : TOk P T) (I : Mem) (w : World) (a : Act) (ht : assoc T t = some ty) (ho : o.op = .alloc t) :
    ∃ vs : List Value, RepL I ty.zero.cells vs ∧ (execOp a.eval o).run P w = .ok (.value (.pointer (some ⟨w.heap.size, 0, none⟩))) (w.alloc (.cells vs.toArray t)) := by
  have hz : ∃ (i : TypeInfo) (c : Value), P.info? t = some i ∧ i.zero = some c ∧ RepL I ty.zero.cells c.cells.toList := by
    have hty := hT t ty ht
    cases ty with
    | struct offs z =>
      obtain ⟨i, fields, zs, h1, h2, h3, h4, h5, _⟩ := hty
      exact ⟨i, _, h1, h4, RepL.mono (Mem.empty_le I) _ _ h5⟩
    | arr offs z =>
      obtain ⟨i, n, e, j, zs, h1, h2, h3, h4, h5, _⟩ := hty
      exact ⟨i, _, h1, h4, RepL.mono (Mem.empty_le I) _ _ h5⟩
    | sc z =>
      obtain ⟨i, d, c, h1, h2, h3, h4, h5, h6, h7, h8, h9, _⟩ := hty
      exact ⟨i, c, h1, h5, rep_cells (Rep.mono (Mem.empty_le I) _ _ h6) h8⟩
    | slice e sz b =>
      obtain ⟨i, j, c, h1, h2, h3, h4, h5, h6, h7, h8, _⟩ := hty
      exact ⟨i, _, h1, h4, rep_cells (rep_nil h8 _ (.inl rfl)) rfl⟩
  obtain ⟨i, c, h1, h2, h3⟩ := hz
  refine ⟨_, h3, ?_⟩
  simp only [execOp, ho, Instr.alloc, Sem.run_bind, run_zeroValue' h1 h2, Result.andThen_ok, newVar, newRow, run_newObj, Sem.run_pure, World.alloc_eq, Array.toArray_toList]
theorem box_run {t : TypeId} {x : Operand} (w : World) (a : Act) (ho : o.op = .box t x) :
    (execOp a.eval o).run P w = .ok (.value (.pointer (some ⟨w.heap.size, 0, none⟩))) (w.alloc (.cells (a.eval x).cells.toList.toArray t)) := by
  simp only [execOp, ho, Instr.box, Sem.run_bind, Result.andThen_ok, newVar, newRow, run_newObj, Sem.run_pure, World.alloc_eq, Array.toArray_toList]
theorem sound_alloc {t : TypeId} (hT : TOk P T) (hK : Takes D I0 st0 w0 β env.nxt a o.dst next K) (h : Rel D I0 st0 w0 I β env st a w) (ho : o.op = .alloc t)
    (k : match assoc T t with | some ty => newBox env st o.dst ty.zero.cells K | none => False) : o.wp P a w next Qc := by
  split at k
  · rename_i ty ht
    obtain ⟨vs, h3, hr⟩ := alloc_run (P := P) hT I w a ht ho
    unfold Oper.wp
    rw [hr]
    exact newBox_sound hK h h3 t k
  · exact k.elim
theorem sound_box {t : TypeId} {x : Operand} (hT : TOk P T) (hK : Takes D I0 st0 w0 β env.nxt a o.dst next K) (h : Rel D I0 st0 w0 I β env st a w) (ho : o.op = .box t x)
    (k : (env.evalT T t x).force fun v => chk v.known (newBox env st o.dst v.cells K)) : o.wp P a w next Qc := by
  obtain ⟨hk, k⟩ := chk_iff.1 (V.force_iff.1 k)
  have hv := (h.f.evalT hT t x).rep (known_plain hk)
  unfold Oper.wp
  rw [box_run w a ho]
  exact newBox_sound hK h (rep_cells hv hk) t k
theorem heap_cell {w : World} {b : Nat} {vs : List Value} {ty : TypeId} (hb : w.heap[b]? = some (.cells vs.toArray ty (0, 0))) {j : Nat} {v : Value} (hv : vs[j]? = some v) : w.cell? ⟨b, j, none⟩ = some v := by
  simp only [World.cell?, hb]
  simpa using hv
theorem repC_cells : ∀ {l : List V} {b o : Nat}, RelS I st w → RepC I b o l → ∃ vs, RepL I l vs ∧ ∀ j v, vs[j]? = some v → w.cell? ⟨b, o + j, none⟩ = some v
  | [], b, o, hs, k => ⟨[], by simp only [RepL], fun j v e => by simp at e⟩
  | u :: r, b, o, hs, k => by
    simp only [RepC] at k
    obtain ⟨⟨c, h1, h2⟩, k2⟩ := k
    obtain ⟨vs, h3, h4⟩ := repC_cells hs k2
    refine ⟨c :: vs, by simp only [RepL]; exact ⟨c, vs, rfl, h2, h3⟩, fun j v e => ?_⟩
    cases j with
    | zero => simp at e; subst e; exact hs.cell _ _ _ h1
    | succ j =>
      simp at e
      rw [show o + (j + 1) = o + 1 + j by omega]
      exact h4 j v e
theorem sound_load {t : TypeId} {x : Operand} (hT : TOk P T) (hK : Takes D I0 st0 w0 β env.nxt a o.dst next K) (h : Rel D I0 st0 w0 I β env st a w) (ho : o.op = .load t x)
    (k : match env.eval x with
    | .lptr id off => match assoc env.boxes id with
      | some cs => loadFrom cs off (assoc T t) (fun v => K v env st)
      | none => False
    | .ptr b off => ∃ cs, st.box b = some cs ∧ loadFrom cs off (assoc T t) (fun v => K v env st)
    | .eptr e off => loadFrom e off (assoc T t) (fun v => K v env st)
    | _ => False) : o.wp P a w next Qc := by
  have hx := h.f.eval x
  have fin : ∀ {ad : Addr} {c : Value} {v : V}, a.eval x = .pointer (some ad) → (loadVar t ad).run P w = .ok c w → Rep I v c → K v env st → o.wp P a w next Qc := by
    intro ad c v e1 e2 e3 e4
    refine op_value hK (c := c) (w' := w) ?_ h (RepT.of e3) e4
    simp only [execOp, ho, Instr.loadAt, e1, Instr.sureAddr, Sem.run_bind, Sem.run_pure, Result.andThen_ok, e2]
  split at k
  · rename_i id off he
    rw [he] at hx
    obtain ⟨b, hb, hx⟩ := rep_lptr hx
    split at k
    · rename_i cs hcs
      obtain ⟨b', h1, h2⟩ := h.f.box id cs hcs
      rw [hb] at h1
      injection h1 with h1
      subst h1
      obtain ⟨vs, ty, h2, h3⟩ := h2.cells (loadFrom_noIt k)
      obtain ⟨v, c, g1, g2, g3⟩ := loadFrom_sound (b := b) (o := 0) hT h3 (fun j v e => by simpa using heap_cell h2 e) k
      rw [Nat.zero_add] at g1
      exact fin hx g1 g2 g3
    · exact k.elim
  · rename_i b off he
    rw [he] at hx
    have hx := rep_ptr hx
    obtain ⟨cs, hcs, k⟩ := k
    obtain ⟨vs, ty, h2, h3⟩ := h.s.box b cs hcs
    obtain ⟨v, c, g1, g2, g3⟩ := loadFrom_sound (b := b) (o := 0) hT h3 (fun j v e => by simpa using heap_cell h2 e) k
    rw [Nat.zero_add] at g1
    exact fin hx g1 g2 g3
  · rename_i e off he
    rw [he] at hx
    obtain ⟨b, o', hx, hc⟩ := rep_eptr hx
    obtain ⟨vs, h3, h4⟩ := repC_cells h.s hc
    obtain ⟨v, c, g1, g2, g3⟩ := loadFrom_sound hT h3 h4 k
    exact fin hx g1 g2 g3
  · exact k.elim
theorem ty_size {t : TypeId} {ty : Ty} (h : TyOk P t ty) : ∃ i, P.info? t = some i ∧ i.size = ty.zero.cells.length := by
  cases ty with
  | struct offs z => obtain ⟨i, fields, zs, h1, h2, h3, _⟩ := h; exact ⟨i, h1, h3⟩
  | arr offs z => obtain ⟨i, n, e, j, zs, h1, h2, h3, _⟩ := h; exact ⟨i, h1, h3⟩
  | sc z => obtain ⟨i, d, c, h1, h2, h3, h4, h5, h6, h7, h8, h9, _⟩ := h; exact ⟨i, h1, by rw [h4]; show 1 = z.cells.length; rw [h9]; rfl⟩
  | slice e sz b => obtain ⟨i, j, c, h1, h2, h3, _⟩ := h; exact ⟨i, h1, h3⟩
theorem storeTo_sound {t : TypeId} {ty : Ty} (hty : TyOk P t ty) {cs : List V} {vs : List Value} {b off : Nat} {v : V} {c : Value} {ety : TypeId} {K : List V → Prop}
    (hb : w.heap[b]? = some (.cells vs.toArray ety (0, 0))) (hk : RepL I cs vs) (hv : Rep I v c) (hkn : v.known = true) (hsz : v.cells.length = ty.zero.cells.length) (k : storeTo cs off v.cells K) :
    ∃ cs' us, (storeVar t ⟨b, off, none⟩ c).run P w = .ok () (w.setRow b us.toArray) ∧ RepL I cs' us ∧ K cs' := by
  unfold storeTo at k
  obtain ⟨_, k⟩ := chk_iff.1 k
  obtain ⟨h1, k⟩ := chk_iff.1 k
  obtain ⟨h2, k⟩ := chk_iff.1 k
  have k := forceL_iff.1 k
  have h1 := Nat.le_of_ble_eq_true h1
  have hc := rep_cells hv hkn
  have hlc := RepL.length hc
  have hlv := RepL.length hk
  obtain ⟨i, hi, hs⟩ := ty_size hty
  refine ⟨_, _, ?_, RepL.append (RepL.append (RepL.take off hk) hc) (RepL.drop (off + v.cells.length) hk), k⟩
  have hrun := run_storeCells_at P b off ety c.cells.toList 0 vs.toArray w hb (by simp; simp at hlc; omega) (sc_all hc h2)
  have hcs : c.cells.size = i.size := by rw [hs, ← hsz, hlc, Array.length_toList]
  simp only [storeVar, Sem.run_bind, run_sizeOf' hi, Result.andThen_ok, hcs, ne_eq, not_true_eq_false, if_false, Sem.run_pure, hrun, Nat.add_zero]
  congr 4
  rw [hlc]
theorem sound_store {t : TypeId} {x y : Operand} (hT : TOk P T) (hK : Takes D I0 st0 w0 β env.nxt a o.dst next K) (h : Rel D I0 st0 w0 I β env st a w) (ho : o.op = .store t x y)
    (k : match env.eval x with
    | .lptr id off => match assoc env.boxes id, assoc T t with
      | some cs, some ty => match env with
        | ⟨ts, bs, n, sz, gl⟩ => (Env.evalT T ⟨ts, bs, n, sz, gl⟩ t y).force fun v => chk (v.known && Nat.beq v.cells.length ty.zero.cells.length)
          (storeTo cs off v.cells fun cs' => K .junk ⟨ts, (id, cs') :: bs, n, sz, gl⟩ st)
      | _, _ => False
    | .ptr b off => match assoc T t with
      | some ty => ∃ cs, st.box b = some cs ∧ (env.evalT T t y).force fun v => chk (v.known && Nat.beq v.cells.length ty.zero.cells.length)
          (storeTo cs off v.cells fun cs' => K .junk env (st.setBox b cs'))
      | none => False
    | _ => False) : o.wp P a w next Qc := by
  have hx := h.f.eval x
  have hy := h.f.evalT hT t y
  have fin : ∀ {ad : Addr} {w' : World}, a.eval x = .pointer (some ad) → (storeVar t ad (a.eval y)).run P w = .ok () w' → (execOp a.eval o).run P w = .ok .skip w' := by
    intro ad w' e1 e2
    simp only [execOp, ho, Instr.storeAt, e1, Instr.sureAddr, Sem.run_bind, Sem.run_pure, Result.andThen_ok, e2]
  split at k
  · rename_i id off he
    rw [he] at hx
    obtain ⟨b, hb, hx⟩ := rep_lptr hx
    split at k
    · rename_i cs ty hcs hty
      obtain ⟨b', h1, h2⟩ := h.f.box id cs hcs
      rw [hb] at h1
      injection h1 with h1
      subst h1
      have k := V.force_iff.1 k
      obtain ⟨hkn, k⟩ := chk_iff.1 k
      obtain ⟨vs, ety, h2, h3⟩ := h2.cells (storeTo_noIt k)
      simp only [Bool.and_eq_true] at hkn
      obtain ⟨cs', us, g1, g2, g3⟩ := storeTo_sound (hT t ty hty) h2 h3 (hy.rep (known_plain hkn.1)) hkn.1 (Nat.eq_of_beq_eq_true hkn.2) k
      exact op_skip hK (fin hx g1) (h.storeLocal (cs := cs) hb h2 g2) g3
    · exact k.elim
  · rename_i b off he
    rw [he] at hx
    have hx := rep_ptr hx
    split at k
    · rename_i ty hty
      obtain ⟨cs, hcs, k⟩ := k
      obtain ⟨vs, ety, h2, h3⟩ := h.s.box b cs hcs
      have k := V.force_iff.1 k
      obtain ⟨hkn, k⟩ := chk_iff.1 k
      simp only [Bool.and_eq_true] at hkn
      obtain ⟨cs', us, g1, g2, g3⟩ := storeTo_sound (hT t ty hty) h2 h3 (hy.rep (known_plain hkn.1)) hkn.1 (Nat.eq_of_beq_eq_true hkn.2) k
      exact op_skip hK (fin hx g1) (h.storeGlobal hcs h2 g2) g3
    · exact k.elim
  · exact k.elim
theorem sound_nilCheck {x : Operand} (hK : Takes D I0 st0 w0 β env.nxt a o.dst next K) (h : Rel D I0 st0 w0 I β env st a w) (ho : o.op = .nilCheck x)
    (k : match env.eval x with
    | .lptr id off => K (.lptr id off) env st
    | .ptr b off => K (.ptr b off) env st
    | .eptr e off => K (.eptr e off) env st
    | _ => False) : o.wp P a w next Qc := by
  have hx := h.f.eval x
  split at k
  · rename_i id off he
    rw [he] at hx
    obtain ⟨b, hb, hx'⟩ := rep_lptr hx
    exact op_value hK (c := a.eval x) (w' := w) (by simp only [execOp, ho, hx']; rfl) h hx k
  · rename_i b off he
    rw [he] at hx
    have hx' := rep_ptr hx
    exact op_value hK (c := a.eval x) (w' := w) (by simp only [execOp, ho, hx']; rfl) h hx k
  · rename_i e off he
    rw [he] at hx
    obtain ⟨b, o', hx', _⟩ := rep_eptr hx
    exact op_value hK (c := a.eval x) (w' := w) (by simp only [execOp, ho, hx']; rfl) h hx k
  · exact k.elim
theorem sound_fieldAddr {t : TypeId} {x : Operand} {f : Nat} (hT : TOk P T) (hK : Takes D I0 st0 w0 β env.nxt a o.dst next K) (h : Rel D I0 st0 w0 I β env st a w) (ho : o.op = .fieldAddr t x f)
    (k : match assoc T t, env.eval x with
    | some (.struct offs _), .lptr id off => match offs[f]? with | some (o, s) => chk (Nat.blt 0 s) (K (.lptr id (off + o)) env st) | none => False
    | some (.struct offs _), .ptr b off => match offs[f]? with | some (o, s) => chk (Nat.blt 0 s) (K (.ptr b (off + o)) env st) | none => False
    | some (.struct offs _), .eptr e off => match offs[f]? with | some (o, s) => chk (Nat.blt 0 s) (K (.eptr e (off + o)) env st) | none => False
    | _, _ => False) : o.wp P a w next Qc := by
  have hx := h.f.eval x
  have fin : ∀ {offs : List (Nat × Nat)} {z : List V} {b off o' s : Nat}, assoc T t = some (.struct offs z) → offs[f]? = some (o', s) → 0 < s → a.eval x = .pointer (some ⟨b, off, none⟩) →
      (execOp a.eval o).run P w = .ok (.value (.pointer (some ⟨b, off + o', none⟩))) w := by
    intro offs z b off o' s ht hf hs e
    obtain ⟨i, fields, zs, h1, h2, h3, h4, h5, h6, h7, _⟩ := hT t _ ht
    obtain ⟨fl, j, g1, g2, g3, g4⟩ := h7 f o' s hf
    have hne : ¬ j.size = 0 := by omega
    simp only [execOp, ho, Instr.fieldAt, Sem.run_bind, run_underlying' h2, Result.andThen_ok, g1, e, Instr.sureAddr, Sem.run_pure, fieldPlace, run_sizeOf' g3, Sem.run_ite]
    rw [if_neg hne]
    simp only [Result.andThen_ok, add_lit', g2]
  split at k
  · rename_i offs z id off ht he
    rw [he] at hx
    obtain ⟨b, hb, hx⟩ := rep_lptr hx
    split at k
    · rename_i o' s hf
      obtain ⟨hs, k⟩ := chk_iff.1 k
      exact op_value hK (fin ht hf (by simpa [Nat.blt_eq] using hs) hx) h (show RepT I β (.lptr id (off + o')) _ from ⟨b, hb, rfl⟩) k
    · exact k.elim
  · rename_i offs z b off ht he
    rw [he] at hx
    have hx := rep_ptr hx
    split at k
    · rename_i o' s hf
      obtain ⟨hs, k⟩ := chk_iff.1 k
      exact op_value hK (fin ht hf (by simpa [Nat.blt_eq] using hs) hx) h (RepT.of (by simp only [Rep])) k
    · exact k.elim
  · rename_i offs z e off ht he
    rw [he] at hx
    obtain ⟨b, o1, hx, hc⟩ := rep_eptr hx
    split at k
    · rename_i o' s hf
      obtain ⟨hs, k⟩ := chk_iff.1 k
      exact op_value hK (fin ht hf (by simpa [Nat.blt_eq] using hs) hx) h (RepT.of (by simp only [Rep]; exact ⟨b, o1, by rw [Nat.add_assoc], hc⟩)) k
    · exact k.elim
  · exact k.elim
end
end Go.Aw
set_option maxHeartbeats 16000000
set_option linter.unusedVariables false
set_option linter.unusedSimpArgs false
namespace Go.Aw
open Go
section
variable {D : List Deferred} {P : Program} {T : List (Nat × Ty)} {C : FuncId → List V → St → (Res → St → Prop) → Prop} {I0 I : Mem} {st0 st : St} {w0 w : World} {β : Nat → Option Nat} {env : Env} {a : Act}
variable {o : Oper} {K : V → Env → St → Prop} {Q : AExit → Env → St → Prop} {next : Act → World → Prop} {Qc : Exit → Act → World → Prop}
theorem sound_unOp {op : UnOp} {t : TypeId} {x : Operand} (hK : Takes D I0 st0 w0 β env.nxt a o.dst next K) (h : Rel D I0 st0 w0 I β env st a w)
    (k : match op, env.eval x with
    | .not, .bool b => lit b (K (.bool false) env st) (K (.bool true) env st)
    | .neg, .int k n => ∃ r, r = k.wrap (0 - n) ∧ K (.int k r) env st
    | _, _ => False) (ho : o.op = .unOp op t x) : o.wp P a w next Qc := by
  have hx := h.f.eval x
  split at k
  · rename_i b he
    rw [he] at hx
    have hx := rep_bool hx
    refine op_value hK (c := .bool (!b)) (w' := w) (v := .bool (!b)) (by simp only [execOp, ho, hx]; rfl) h (RepT.of (by simp only [Rep])) ?_
    cases b <;> exact k
  · rename_i kd n he
    rw [he] at hx
    have hx := rep_int hx
    obtain ⟨r, rfl, k⟩ := k
    exact op_value hK (c := .int kd (kd.wrap (0 - n))) (w' := w) (by simp only [execOp, ho, hx]; rfl) h (RepT.of (by simp only [Rep])) k
  · exact k.elim
theorem sound_makeFunc {f : FuncId} {first cap : Array Operand} (hK : Takes D I0 st0 w0 β env.nxt a o.dst next K) (h : Rel D I0 st0 w0 I β env st a w) (ho : o.op = .makeFunc (.func f) first cap)
    (k : evs env first.toList fun x => evs env cap.toList fun c => K (.func f x c) env st) : o.wp P a w next Qc := by
  obtain ⟨v1, h1, k⟩ := evs_sound h.f k
  obtain ⟨v2, h2, k⟩ := evs_sound h.f k
  refine op_value hK (c := .func (.func f) (first.map a.eval) (cap.map a.eval)) (w' := w) (by simp only [execOp, ho]; rfl) h (RepT.of ?_) k
  simp only [Rep]
  exact ⟨first.toList.map a.eval, cap.toList.map a.eval, by congr 1 <;> (apply Array.ext'; simp), h1, h2⟩
theorem sound_extract {x : Operand} {i : Nat} (hK : Takes D I0 st0 w0 β env.nxt a o.dst next K) (h : Rel D I0 st0 w0 I β env st a w) (ho : o.op = .extract x i)
    (k : match env.eval x with
    | .tup vs => match vs[i]? with | some v => v.force fun v => K v env st | none => False
    | _ => False) : o.wp P a w next Qc := by
  have hx := h.f.eval x
  split at k
  · rename_i vs he
    rw [he] at hx
    have hx' : Rep I (.tup vs) (a.eval x) := hx
    simp only [Rep] at hx'
    obtain ⟨cs, e, hl⟩ := hx'
    split at k
    · rename_i v hv
      obtain ⟨c, h1, h2⟩ := RepL.get hl hv
      refine op_value hK (c := c) (w' := w) ?_ h (RepT.of h2) (V.force_iff.1 k)
      simp only [execOp, ho, e, Instr.extract]
      have : cs.toArray[i]? = some c := by simpa using h1
      rw [this]; rfl
    · exact k.elim
  · exact k.elim
theorem sound_field {t : TypeId} {x : Operand} {f : Nat} (hT : TOk P T) (hK : Takes D I0 st0 w0 β env.nxt a o.dst next K) (h : Rel D I0 st0 w0 I β env st a w) (ho : o.op = .field t x f)
    (k : match assoc T t, env.eval x with
    | some (.struct offs _), .agg cs => match offs[f]? with
      | some (o, 1) => match cs[o]? with | some v => v.force fun v => K v env st | none => False
      | _ => False
    | _, _ => False) : o.wp P a w next Qc := by
  have hx := h.f.eval x
  split at k
  · rename_i offs z cs ht he
    rw [he] at hx
    have hx' : Rep I (.agg cs) (a.eval x) := hx
    simp only [Rep] at hx'
    obtain ⟨vs, e, hl⟩ := hx'
    split at k
    · rename_i o' hf
      split at k
      · rename_i v hv
        obtain ⟨c, h1, h2⟩ := RepL.get hl hv
        obtain ⟨i, fields, zs, g1, g2, g3, g4, g5, g6, g7, g8, g9⟩ := hT t _ ht
        obtain ⟨fl, d, q1, q2, q3, q4⟩ := g9 f o' hf
        refine op_value hK (c := c) (w' := w) ?_ h (RepT.of h2) (V.force_iff.1 k)
        have hc : vs.toArray[o']? = some c := by simpa using h1
        simp only [execOp, ho, e, Instr.field, Sem.run_bind, run_underlying' g2, Result.andThen_ok, q1, asAgg, Sem.run_pure, q2]
        unfold part
        simp only [Sem.run_bind, run_isAgg q3, q4, Result.andThen_ok, hc, Bool.false_eq_true, if_false]
        rfl
      · exact k.elim
    · exact k.elim
  · exact k.elim
theorem sound_indexAddr {t : TypeId} {x i : Operand} (hT : TOk P T) (hK : Takes D I0 st0 w0 β env.nxt a o.dst next K) (h : Rel D I0 st0 w0 I β env st a w) (ho : o.op = .indexAddr t x i)
    (k : match assoc T t, env.eval x, env.eval i with
    | some (.slice _ sz' _), .slice sz es _, .int _ n => chk (Nat.beq sz' sz) (0 ≤ n ∧ ∃ e, es[n.toNat]? = some e ∧ K (.eptr e 0) env st)
    | some (.slice _ sz' _), .mrow sz b m _, .int _ n => chk (Nat.beq sz' sz) ((0 ≤ n ∧ n < (m : Int)) ∧ ∀ k, k = n.toNat * sz → K (.ptr b k) env st)
    | _, _, _ => False) : o.wp P a w next Qc := by
  have hx := h.f.eval x
  have hi := h.f.eval i
  split at k
  · rename_i el sz' by' sz es own kd n ht hex hei
    rw [hex] at hx
    rw [hei] at hi
    have hi := rep_int hi
    obtain ⟨hsz, h0, e, he, k1⟩ := chk_iff.1 k
    clear k
    have hsz := Nat.eq_of_beq_eq_true hsz
    subst hsz
    obtain ⟨ad, cap, e1, e2, e3, e4, e5, e6⟩ := rep_slice hx
    obtain ⟨i0, j, c, h1, h2, h3, h4, h5, h6, h7, h8, _⟩ := hT t _ ht
    have hlt : n.toNat < es.length := by
      rcases Nat.lt_or_ge n.toNat es.length with h | h
      · exact h
      · rw [List.getElem?_eq_none h] at he; cases he
    cases ad with
    | none => simp only at e6; omega
    | some ad =>
      obtain ⟨b, off, spot⟩ := ad
      simp only at e6
      obtain ⟨e0, e6⟩ := e6
      obtain rfl : spot = none := e0.resolve_left (by omega)
      obtain ⟨g1, g2⟩ := RepE.get e6 he
      refine op_value hK (c := .pointer (some ⟨b, off + n.toNat * sz', none⟩)) (w' := w) (v := .eptr e 0) ?_ h (RepT.of (by simp only [Rep]; exact ⟨b, _, rfl, g2⟩)) k1
      have hcond : (0 ≤ n ∧ n < (es.length : Int)) := ⟨h0, by omega⟩
      simp only [execOp, ho, Instr.indexAt, hi, e1, asIntOf, Sem.run_bind, Sem.run_pure, Result.andThen_ok, run_underlying' h2]
      rw [if_pos hcond]
      simp only [Sem.run_bind, run_sizeOf' h5, h6, Result.andThen_ok, Sem.run_pure, add_lit']
  · rename_i el sz' by' sz b m cap kd n ht hex hei
    rw [hex] at hx
    rw [hei] at hi
    have hi := rep_int hi
    obtain ⟨hsz, hcond, k1⟩ := chk_iff.1 k
    clear k
    have hsz := Nat.eq_of_beq_eq_true hsz
    subst hsz
    obtain ⟨e1, e2, e3, e4⟩ := rep_mrow hx
    obtain ⟨i0, j, c, h1, h2, h3, h4, h5, h6, h7, h8, _⟩ := hT t _ ht
    refine op_value hK (c := .pointer (some ⟨b, n.toNat * sz', none⟩)) (w' := w) (v := .ptr b (n.toNat * sz')) ?_ h (RepT.of (by simp only [Rep])) (k1 _ rfl)
    simp only [execOp, ho, Instr.indexAt, hi, e1, asIntOf, Sem.run_bind, Sem.run_pure, Result.andThen_ok, run_underlying' h2]
    rw [if_pos hcond]
    simp only [Sem.run_bind, run_sizeOf' h5, h6, Result.andThen_ok, Sem.run_pure, add_lit', Nat.zero_add]
  · exact k.elim
theorem sound_index {t : TypeId} {x i : Operand} (hT : TOk P T) (hK : Takes D I0 st0 w0 β env.nxt a o.dst next K) (h : Rel D I0 st0 w0 I β env st a w) (ho : o.op = .index t x i)
    (k : match assoc T t, env.eval x, env.eval i with
    | some (.sc (.str _)), .str s, .int _ n => 0 ≤ n ∧ ∃ e, s[n.toNat]? = some e ∧ K (.int .u8 e.toNat) env st
    | _, _, _ => False) : o.wp P a w next Qc := by
  have hx := h.f.eval x
  have hi := h.f.eval i
  split at k
  · rename_i z s kd n ht hex hei
    rw [hex] at hx
    rw [hei] at hi
    have hi := rep_int hi
    obtain ⟨hx, hlen⟩ := rep_str hx
    obtain ⟨h0, e, he, k⟩ := k
    obtain ⟨i0, d, c, h1, h2, h3, h4, h5, h6, h7, h8, h9, h10⟩ := hT t _ ht
    simp only at h10
    subst h10
    refine op_value hK (c := .int .u8 e.toNat) (w' := w) (v := .int .u8 e.toNat) ?_ h (RepT.of (by simp only [Rep])) k
    have hg : (⟨s.toArray⟩ : ByteArray)[n.toNat]? = some e := by
      have hlt : n.toNat < s.length := by
        rcases Nat.lt_or_ge n.toNat s.length with h | h
        · exact h
        · rw [List.getElem?_eq_none h] at he; cases he
      rw [getElem?_pos (⟨s.toArray⟩ : ByteArray) n.toNat (by show n.toNat < s.toArray.size; simpa using hlt)]
      show some (s.toArray[n.toNat]) = some e
      rw [List.getElem?_eq_getElem hlt] at he
      simpa using he
    simp only [execOp, ho, Instr.index, hi, hx, asIntOf, Sem.run_bind, Sem.run_pure, Result.andThen_ok, run_underlying' h2]
    rw [if_pos h0, hg]
    rfl
  · exact k.elim
theorem run_bound {n : Int} {y : Nat} {kd : IntKind} {code : BoundsCode} (h : 0 ≤ n ∧ n ≤ (y : Int)) : (Instr.sliceBound (.int kd n) y code).run P w = .ok n.toNat w := by
  simp only [Instr.sliceBound, asIntOf, Sem.run_bind, Sem.run_pure, Result.andThen_ok]
  rw [if_pos h]; rfl
theorem bounds_ok {len cap : Nat} {lo hi : Option Operand} {kl kh : IntKind} {l h : Int} (hF : Rel D I0 st0 w0 I β env st a w) (isS : Bool)
    (hl : (lo.map env.eval).getD (.int .i64 0) = .int kl l) (hh : (hi.map env.eval).getD (.int .i64 len) = .int kh h)
    (h0 : 0 ≤ l) (h1 : l ≤ h) (h2 : h ≤ (len : Int)) (h3 : len ≤ cap) :
    (Instr.sliceBounds isS len cap (lo.map a.eval) (hi.map a.eval) none).run P w = .ok (l.toNat, h.toNat, cap) w := by
  have hhi : ∀ x, hi = some x → a.eval x = .int kh h := fun x e => by
    subst e
    simp only [Option.map_some, Option.getD_some] at hh
    have := hF.f.eval x
    rw [hh] at this
    exact rep_int this
  have hlo : ∀ x, lo = some x → a.eval x = .int kl l := fun x e => by
    subst e
    simp only [Option.map_some, Option.getD_some] at hl
    have := hF.f.eval x
    rw [hl] at this
    exact rep_int this
  have b1 : ∀ code : BoundsCode, (Instr.sliceBound (.int kh h) cap code).run P w = .ok h.toNat w := fun code => run_bound ⟨by omega, by omega⟩
  have b2 : ∀ code : BoundsCode, (Instr.sliceBound (.int kl l) h.toNat code).run P w = .ok l.toNat w := fun code => run_bound ⟨by omega, by omega⟩
  cases hi with
  | none =>
    simp only [Option.map_none, Option.getD_none, V.int.injEq] at hh
    obtain ⟨_, rfl⟩ := hh
    simp only [Int.toNat_natCast] at b2 ⊢
    cases lo with
    | none =>
      simp only [Option.map_none, Option.getD_none, V.int.injEq] at hl
      obtain ⟨_, rfl⟩ := hl
      simp [Instr.sliceBounds]
    | some x =>
      simp only [Instr.sliceBounds, Option.map_some, Option.map_none, hlo x rfl, Sem.run_bind, Sem.run_pure, Result.andThen_ok, b2]
  | some y =>
    cases lo with
    | none =>
      simp only [Option.map_none, Option.getD_none, V.int.injEq] at hl
      obtain ⟨_, rfl⟩ := hl
      simp only [Instr.sliceBounds, Option.map_some, Option.map_none, hhi y rfl, Sem.run_bind, Sem.run_pure, Result.andThen_ok, b1]
      rfl
    | some x =>
      simp only [Instr.sliceBounds, Option.map_some, hhi y rfl, hlo x rfl, Sem.run_bind, Sem.run_pure, Result.andThen_ok, b1, b2]
theorem sound_slice {t : TypeId} {x : Operand} {lo hi : Option Operand} (hT : TOk P T) (hK : Takes D I0 st0 w0 β env.nxt a o.dst next K) (h : Rel D I0 st0 w0 I β env st a w) (ho : o.op = .slice t x lo hi none)
    (k : match assoc T t, env.eval x with
    | some (.slice _ sz' _), .slice sz es _ =>
      match (lo.map env.eval).getD (.int .i64 0), (hi.map env.eval).getD (.int .i64 es.length) with
      | .int _ l, .int _ h => chk (Nat.beq sz' sz) ((0 ≤ l ∧ l ≤ h ∧ h ≤ es.length) ∧ ∀ es', es' = (es.take h.toNat).drop l.toNat → K (.slice sz es' .any) env st)
      | _, _ => False
    | some (.sc (.str _)), .str s =>
      match (lo.map env.eval).getD (.int .i64 0), (hi.map env.eval).getD (.int .i64 s.length) with
      | .int _ l, .int _ h => (0 ≤ l ∧ l ≤ h ∧ h ≤ s.length) ∧ ∀ s', s' = (s.take h.toNat).drop l.toNat → K (.str s') env st
      | _, _ => False
    | some (.slice _ sz' _), .mrow sz b n cap =>
      match (lo.map env.eval).getD (.int .i64 0), (hi.map env.eval).getD (.int .i64 n) with
      | .int _ l, .int _ h => chk (Nat.beq sz' sz) ((l = 0 ∧ 0 ≤ h ∧ h ≤ n) ∧ ∀ k, k = h.toNat → K (.mrow sz b k cap) env st)
      | _, _ => False
    | _, _ => False) : o.wp P a w next Qc := by
  have hx := h.f.eval x
  split at k
  · rename_i el sz' by' sz es own ht hex
    rw [hex] at hx
    split at k
    · rename_i kl l kh hh hel heh
      obtain ⟨hsz, ⟨h0, h1, h2⟩, k1⟩ := chk_iff.1 k
      clear k
      have k1 := k1 _ rfl
      have hsz := Nat.eq_of_beq_eq_true hsz
      subst hsz
      obtain ⟨ad, cap, e1, e2, e3, e4, e5, e6⟩ := rep_slice hx
      obtain ⟨i0, j, c, g1, g2, g3, g4, g5, g6, g7, g8, _⟩ := hT t _ ht
      have hb := bounds_ok (P := P) (cap := cap) h true hel heh h0 h1 h2 e2
      have hlen : ((es.take hh.toNat).drop l.toNat).length = hh.toNat - l.toNat := by simp; omega
      refine op_value hK (c := .slice (if cap = l.toNat then ad else ad.map (·.add (l.toNat * sz'))) (hh.toNat - l.toNat) (cap - l.toNat)) (w' := w) ?_ h (RepT.of ?_) k1
      · have hu : (underlying t).run P w = .ok (.slice el) w := run_underlying' g2
        simp only [execOp, ho, Instr.sliceAt, Option.map_none, Sem.run_bind, hu, Result.andThen_ok, Instr.slice, e1, hb, run_sizeOf' g5, g6, Sem.run_pure]
      · simp only [Rep]
        refine ⟨_, cap - l.toNat, by rw [hlen], by rw [hlen]; omega, by rw [hlen]; omega, e4, trivial, ?_⟩
        cases ad with
        | none => simp only at e6; subst e6; simp
        | some ad =>
          simp only at e6
          obtain ⟨s1, s2⟩ := e6
          split
          · rename_i hc
            split at hc
            · cases hc
            · cases hc
          · rename_i ad' hc
            split at hc
            · rename_i hcap
              injection hc with hc
              subst hc
              refine ⟨.inl (by omega), ?_⟩
              have : (es.take hh.toNat).drop l.toNat = [] := List.eq_nil_of_length_eq_zero (by rw [hlen]; omega)
              rw [this]; simp only [RepE]
            · simp only [Option.map_some, Option.some.injEq] at hc
              subst hc
              rename_i hne
              obtain ⟨b, off, spot⟩ := ad
              obtain rfl : spot = none := s1.resolve_left (by omega)
              rw [add_lit']
              exact ⟨.inr rfl, RepE.drop _ (RepE.take _ s2)⟩
    · exact k.elim
  · rename_i z s ht hex
    rw [hex] at hx
    obtain ⟨hx, hlim⟩ := rep_str hx
    split at k
    · rename_i kl l kh hh hel heh
      obtain ⟨⟨h0, h1, h2⟩, k⟩ := k
      have k := k _ rfl
      obtain ⟨i0, d, c, g1, g2, g3, g4, g5, g6, g7, g8, g9, g10⟩ := hT t _ ht
      simp only at g10
      subst g10
      have hb := bounds_ok (P := P) (cap := s.length) h false hel heh h0 h1 h2 (Nat.le_refl _)
      refine op_value hK (c := .string ⟨((s.take hh.toNat).drop l.toNat).toArray⟩) (w' := w) ?_ h (RepT.of (by simp only [Rep]; refine ⟨trivial, ?_⟩; simp; omega)) k
      have hu : (underlying t).run P w = .ok .string w := run_underlying' g2
      have hs : (⟨s.toArray⟩ : ByteArray).size = s.length := by show s.toArray.size = _; simp
      simp only [execOp, ho, Instr.sliceAt, Option.map_none, Sem.run_bind, hu, Result.andThen_ok, Instr.slice, hx, Option.isSome_none, Bool.false_eq_true, if_false, Sem.run_pure, hs, hb]
      congr 3
      apply ByteArray.ext
      apply Array.ext'
      simp [ByteArray.data_extract, List.drop_take]
    · exact k.elim
  · rename_i el sz' by' sz b n cap ht hex
    rw [hex] at hx
    split at k
    · rename_i kl l kh hh hel heh
      obtain ⟨hsz, ⟨h0, h1, h2⟩, k1⟩ := chk_iff.1 k
      clear k
      have k1 := k1 _ rfl
      have hsz := Nat.eq_of_beq_eq_true hsz
      subst hsz
      obtain ⟨e1, e2, e3, e4⟩ := rep_mrow hx
      obtain ⟨i0, j, c, g1, g2, g3, g4, g5, g6, g7, g8, _⟩ := hT t _ ht
      have hb := bounds_ok (P := P) (cap := cap) h true hel heh (by omega) (by omega) h2 e2
      subst h0
      refine op_value hK (c := .slice (some ⟨b, 0, none⟩) hh.toNat cap) (w' := w) ?_ h (RepT.of ?_) k1
      · have hu : (underlying t).run P w = .ok (.slice el) w := run_underlying' g2
        simp only [execOp, ho, Instr.sliceAt, Option.map_none, Sem.run_bind, hu, Result.andThen_ok, Instr.slice, e1, hb, run_sizeOf' g5, g6, Sem.run_pure]
        have ha : (⟨b, 0, none⟩ : Addr).add 0 = ⟨b, 0, none⟩ := by rw [add_lit']
        simp only [Int.toNat_zero, Nat.zero_mul, Nat.sub_zero, Option.map_some, ha]
        split <;> rfl
      · simp only [Rep]
        exact ⟨trivial, by omega, by omega, e4⟩
    · exact k.elim
  · exact k.elim
end
end Go.Aw
set_option maxHeartbeats 16000000
set_option linter.unusedVariables false
set_option linter.unusedSimpArgs false
namespace Go.Aw
open Go
section
variable {D : List Deferred} {P : Program} {T : List (Nat × Ty)} {C : FuncId → List V → St → (Res → St → Prop) → Prop} {I0 I : Mem} {st0 st : St} {w0 w : World} {β : Nat → Option Nat} {env : Env} {a : Act}
variable {o : Oper} {K : V → Env → St → Prop} {Q : AExit → Env → St → Prop} {next : Act → World → Prop} {Qc : Exit → Act → World → Prop}
theorem foldl_set : ∀ (vs : List Value) (k off : Nat) (cs : Array Value), off + k + vs.length ≤ cs.size →
    ((vs.zipIdx k).foldl (fun cs (p : Value × Nat) => cs.setIfInBounds (off + p.2) p.1) cs).toList = cs.toList.take (off + k) ++ vs ++ cs.toList.drop (off + k + vs.length)
  | [], k, off, cs, h => by simp
  | v :: vs, k, off, cs, h => by
    simp only [List.length_cons] at h
    rw [List.zipIdx_cons, List.foldl_cons, foldl_set vs (k + 1) off _ (by simp; omega)]
    have hlt : off + k < cs.toList.length := by simp; omega
    simp only [Array.toList_setIfInBounds, List.length_cons]
    rw [show off + (k + 1) = off + k + 1 by omega, List.take_set, List.drop_set_of_lt (by omega)]
    rw [show off + k + 1 + vs.length = off + k + (vs.length + 1) by omega]
    rw [List.take_succ_eq_append_getElem hlt, List.set_append_right _ _ (by simp; omega)]
    have hm : min (off + k) cs.size = off + k := by omega
    simp [hm]
theorem fill_sound {offs : List (Nat × Nat)} {place : Nat → Option (Nat × Nat)} (hp : ∀ (n o s : Nat), offs[n]? = some (o, s) → place n = some (o, s)) :
    ∀ {ps : List (Nat × V)} {cps : List (Nat × Value)} {cs : List V} {vs : List Value} {K : List V → Prop}, RepL I cs vs →
      cps.map (·.1) = ps.map (·.1) → RepL I (ps.map (·.2)) (cps.map (·.2)) → (∀ p ∈ ps, p.2.known = true) → fillV offs cs ps K →
      ∃ cs' us, Instr.fill place vs.toArray cps = some us.toArray ∧ RepL I cs' us ∧ K cs' ∧ us.length = vs.length
  | [], cps, cs, vs, K, hk, h1, h2, h3, k => by
    have : cps = [] := by simpa using h1
    subst this
    exact ⟨cs, vs, rfl, hk, forceL_iff.1 k, rfl⟩
  | (i, v) :: ps, [], cs, vs, K, hk, h1, h2, h3, k => by simp at h1
  | (i, v) :: ps, (j, c) :: cps, cs, vs, K, hk, h1, h2, h3, k => by
    simp only [List.map_cons, List.cons.injEq] at h1
    obtain ⟨rfl, h1⟩ := h1
    simp only [List.map_cons, RepL] at h2
    obtain ⟨c', s, e, h4, h5⟩ := h2
    injection e with e1 e2
    subst e1; subst e2
    rw [fillV_cons] at k
    split at k
    · rename_i off size ho
      obtain ⟨g1, k⟩ := chk_iff.1 k
      obtain ⟨g2, k⟩ := chk_iff.1 k
      have g1 := Nat.eq_of_beq_eq_true g1
      have g2 := Nat.le_of_ble_eq_true g2
      have hkn := h3 (j, v) List.mem_cons_self
      have hc := rep_cells h4 hkn
      have hlc : v.cells.length = c.cells.size := by rw [RepL.length hc, Array.length_toList]
      have hlv := RepL.length hk
      have hf := foldl_set c.cells.toList 0 off vs.toArray (by simp; omega)
      have hfa : c.cells.zipIdx.foldl (fun cs (p : Value × Nat) => cs.setIfInBounds (off + p.2) p.1) vs.toArray = (vs.take off ++ c.cells.toList ++ vs.drop (off + size)).toArray := by
        apply Array.ext'
        rw [← Array.foldl_toList, Array.toList_zipIdx, hf]
        simp [← hlc, g1]
      have hR : RepL I (cs.take off ++ v.cells ++ cs.drop (off + size)) (vs.take off ++ c.cells.toList ++ vs.drop (off + size)) :=
        RepL.append (RepL.append (RepL.take _ hk) hc) (RepL.drop _ hk)
      obtain ⟨cs', us, q1, q2, q3, q4⟩ := fill_sound hp hR h1 h5 (fun p hp' => h3 p (List.mem_cons_of_mem _ hp')) k
      refine ⟨cs', us, ?_, q2, q3, ?_⟩
      · simp only [Instr.fill, hp j off size ho]
        rw [if_neg (by simp; omega), hfa]
        exact q1
      · rw [q4]; simp; omega
    · exact k.elim
theorem evParts_sound {B : Nat} (h : RelF D B I β env st a w) : ∀ {l : List (Nat × Operand)} {K : List (Nat × V) → Prop}, evParts env l K →
    ∃ ps, (l.map fun p => (p.1, a.eval p.2)).map (·.1) = ps.map (·.1) ∧ RepL I (ps.map (·.2)) ((l.map fun p => (p.1, a.eval p.2)).map (·.2)) ∧ (∀ p ∈ ps, p.2.known = true) ∧ K ps
  | [], K, k => ⟨[], rfl, by simp only [List.map_nil, RepL], fun p hp => (by cases hp), k⟩
  | (i, x) :: r, K, k => by
    rw [evParts_cons, V.force_iff] at k
    obtain ⟨hp, k⟩ := chk_iff.1 k
    obtain ⟨ps, h1, h2, h3, h4⟩ := evParts_sound h k
    refine ⟨(i, env.eval x) :: ps, by simp only [List.map_cons, h1], ?_, fun p hp' => ?_, h4⟩
    · simp only [List.map_cons, RepL]
      exact ⟨_, _, rfl, (h.eval x).rep (known_plain hp), h2⟩
    · rcases List.mem_cons.1 hp' with rfl | hp'
      · exact hp
      · exact h3 p hp'
theorem sound_build {t : TypeId} {parts : Array (Nat × Operand)} (hT : TOk P T) (hK : Takes D I0 st0 w0 β env.nxt a o.dst next K) (h : Rel D I0 st0 w0 I β env st a w) (ho : o.op = .build t parts)
    (k : match assoc T t with
    | some (.struct offs z) => evParts env parts.toList fun ps => fillV offs z ps fun cs => K (.agg cs) env st
    | some (.arr offs z) => evParts env parts.toList fun ps => fillV offs z ps fun cs => K (.agg cs) env st
    | _ => False) : o.wp P a w next Qc := by
  split at k
  · rename_i offs z ht
    obtain ⟨i, fields, zs, h1, h2, h3, h4, h5, h6, h7, _⟩ := hT t _ ht
    obtain ⟨ps, g1, g2, g3, k⟩ := evParts_sound h.f k
    have hm : (fields.mapM fun f => do pure (f.offset, ← sizeOf f.type) : Sem (Array (Nat × Nat))).run P w = .ok offs.toArray w := by
      have key : ∀ (fs : List Field) (os : List (Nat × Nat)), fs.length = os.length → (∀ (n o s : Nat), os[n]? = some (o, s) → ∃ (f : Field) (j : TypeInfo), fs[n]? = some f ∧ f.offset = o ∧ P.info? f.type = some j ∧ j.size = s) →
          (fs.mapM fun f => do pure (f.offset, ← sizeOf f.type) : Sem (List (Nat × Nat))).run P w = .ok os w := by
        intro fs
        induction fs with
        | nil => intro os hl _; cases os with
          | nil => rfl
          | cons x y => simp at hl
        | cons f fs ih =>
          intro os hl hq
          cases os with
          | nil => simp at hl
          | cons p os =>
            obtain ⟨po, psz⟩ := p
            obtain ⟨f', j, q1, q2, q3, q4⟩ := hq 0 po psz (by simp)
            simp at q1
            subst q1
            have := ih os (by simpa using hl) (fun n o s e => hq (n + 1) o s (by simpa using e))
            simp only [List.mapM_cons, Sem.run_bind, run_sizeOf' q3, Result.andThen_ok, Sem.run_pure, this, q2, q4]
      have := key fields.toList offs (by rw [Array.length_toList]; exact h6) (fun n o s e => by
        obtain ⟨f, j, q1, q2⟩ := h7 n o s e
        exact ⟨f, j, by simpa using q1, q2⟩)
      rw [Array.mapM_eq_mapM_toList, Sem.run_map, this]
      rfl
    obtain ⟨cs', us, q1, q2, q3, q4⟩ := fill_sound (place := fun n => offs.toArray[n]?) (fun n o s e => by simpa using e) (RepL.mono (Mem.empty_le I) _ _ h5) g1 g2 g3 k
    refine op_value hK (c := .agg us.toArray) (w' := w) (v := .agg cs') ?_ h (RepT.of (by simp only [Rep]; exact ⟨us, rfl, q2⟩)) q3
    have hpl : (parts.map fun (i, x) => (i, a.eval x)).toList = parts.toList.map fun p => (p.1, a.eval p.2) := by simp
    simp only [execOp, ho, Instr.build, Sem.run_bind, run_zeroValue' h1 h4, Value.cells, Result.andThen_ok, run_underlying' h2, hm, hpl, q1, Sem.run_pure]
  · rename_i offs z ht
    obtain ⟨i, n, e, j, zs, h1, h2, h3, h4, h5, h6, h7⟩ := hT t _ ht
    obtain ⟨ps, g1, g2, g3, k⟩ := evParts_sound h.f k
    obtain ⟨cs', us, q1, q2, q3, q4⟩ := fill_sound (place := fun n => some (n * j.size, j.size)) (fun n o s e => by obtain ⟨rfl, rfl⟩ := h7 n o s e; rfl) (RepL.mono (Mem.empty_le I) _ _ h5) g1 g2 g3 k
    refine op_value hK (c := .agg us.toArray) (w' := w) (v := .agg cs') ?_ h (RepT.of (by simp only [Rep]; exact ⟨us, rfl, q2⟩)) q3
    have hpl : (parts.map fun (i, x) => (i, a.eval x)).toList = parts.toList.map fun p => (p.1, a.eval p.2) := by simp
    simp only [execOp, ho, Instr.build, Sem.run_bind, run_zeroValue' h1 h4, Value.cells, Result.andThen_ok, run_underlying' h2, run_sizeOf' h6, hpl, q1, Sem.run_pure]
  · exact k.elim
theorem repE_cells {sz : Nat} : ∀ {l : List (List V)} {b o : Nat}, RelS I st w → RepE I sz b o l → ∃ vs, RepR I sz l vs ∧ ∀ j v, vs[j]? = some v → w.cell? ⟨b, o + j, none⟩ = some v
  | [], b, o, hs, k => ⟨[], by simp only [RepR], fun j v e => by simp at e⟩
  | u :: r, b, o, hs, k => by
    simp only [RepE] at k
    obtain ⟨⟨h0, h1⟩, k2⟩ := k
    obtain ⟨us, h2, h3⟩ := repC_cells hs h1
    obtain ⟨vs, h4, h5⟩ := repE_cells hs k2
    have hl : us.length = sz := by rw [← RepL.length h2, h0]
    refine ⟨us ++ vs, by simp only [RepR]; exact ⟨us, vs, rfl, h0, h2, h4⟩, fun j v e => ?_⟩
    rcases Nat.lt_or_ge j us.length with h | h
    · rw [List.getElem?_append_left h] at e; exact h3 j v e
    · rw [List.getElem?_append_right h] at e
      have := h5 _ v e
      rw [show o + sz + (j - us.length) = o + j by omega] at this
      exact this
theorem RepR.append {sz : Nat} : ∀ {l r : List (List V)} {vs us : List Value}, RepR I sz l vs → RepR I sz r us → RepR I sz (l ++ r) (vs ++ us)
  | [], r, vs, us, k, h => by simp only [RepR] at k; subst k; simpa using h
  | v :: l, r, vs, us, k, h => by
    simp only [RepR] at k
    obtain ⟨u1, s, e, k1, k2, k3⟩ := k
    subst e
    simp only [List.cons_append, RepR]
    exact ⟨u1, s ++ us, by simp, k1, k2, RepR.append k3 h⟩
theorem RepR.wk {sz : Nat} : ∀ {l : List (List V)} {vs : List Value}, RepR I sz l vs → RepR I sz (l.map (·.map V.wk0)) vs
  | [], vs, k => by simpa only [List.map_nil, RepR] using k
  | v :: l, vs, k => by
    simp only [RepR] at k
    obtain ⟨u1, s, e, k1, k2, k3⟩ := k
    simp only [List.map_cons, RepR]
    exact ⟨u1, s, e, by simpa using k1, RepL.map (fun _ _ => Rep.wk0) k2, RepR.wk k3⟩
theorem RepR.sc {sz : Nat} : ∀ {l : List (List V)} {vs : List Value}, RepR I sz l vs → (l.all fun v => v.all V.sc) = true → ∀ c ∈ vs, c.oneCell' = true
  | [], vs, k, h, c, hc => by simp only [RepR] at k; subst k; cases hc
  | v :: l, vs, k, h, c, hc => by
    simp only [RepR] at k
    obtain ⟨u1, s, e, k1, k2, k3⟩ := k
    subst e
    simp only [List.all_cons, Bool.and_eq_true] at h
    rcases List.mem_append.1 hc with hc | hc
    · exact sc_all k2 h.1 c hc
    · exact RepR.sc k3 h.2 c hc
theorem RepR.mono {J : Mem} {sz : Nat} (h : I.le J) : ∀ {l : List (List V)} {vs : List Value}, RepR I sz l vs → RepR J sz l vs
  | [], vs, k => by simpa only [RepR] using k
  | v :: l, vs, k => by
    simp only [RepR] at k ⊢
    obtain ⟨u1, s, e, k1, k2, k3⟩ := k
    exact ⟨u1, s, e, k1, RepL.mono h _ _ k2, RepR.mono h k3⟩
theorem repR_of {sz : Nat} : ∀ {vs : List V} {cs : List Value}, RepL I vs cs → (vs.all fun v => v.known && Nat.beq v.cells.length sz) = true →
    RepR I sz (vs.map fun v => v.cells.map V.wk0) (cs.flatMap fun c => c.cells.toList) ∧ ∀ c ∈ cs, c.cells.size = sz
  | [], cs, k, h => by simp only [RepL] at k; subst k; exact ⟨by simp only [List.map_nil, List.flatMap_nil, RepR], fun c hc => by cases hc⟩
  | v :: r, cs, k, h => by
    simp only [RepL] at k
    obtain ⟨c, s, e, k1, k2⟩ := k
    subst e
    simp only [List.all_cons, Bool.and_eq_true] at h
    obtain ⟨⟨h1, h2⟩, h3⟩ := h
    have h2 := Nat.eq_of_beq_eq_true h2
    obtain ⟨g1, g2⟩ := repR_of k2 h3
    have hc := rep_cells k1 h1
    refine ⟨?_, fun c' hc' => ?_⟩
    · simp only [List.map_cons, List.flatMap_cons, RepR]
      exact ⟨_, _, rfl, by simpa using h2, RepL.map (fun _ _ => Rep.wk0) hc, g1⟩
    · rcases List.mem_cons.1 hc' with rfl | hc'
      · rw [← h2, RepL.length hc, Array.length_toList]
      · exact g2 c' hc'
theorem fill_seq {size : Nat} : ∀ (cps : List (Nat × Value)) (n : Nat) (pre rest : List Value), pre.length = n * size → rest.length = cps.length * size →
    (∀ j p, cps[j]? = some p → p.1 = n + j) → (∀ p ∈ cps, p.2.cells.size = size) →
    Instr.fill (fun i => some (i * size, size)) (pre ++ rest).toArray cps = some (pre ++ cps.flatMap fun p => p.2.cells.toList).toArray
  | [], n, pre, rest, h1, h2, h3, h4 => by
    have : rest = [] := List.eq_nil_of_length_eq_zero (by simpa using h2)
    subst this
    simp [Instr.fill]
  | (i, c) :: cps, n, pre, rest, h1, h2, h3, h4 => by
    have hi : i = n := by simpa using h3 0 (i, c) (by simp)
    subst hi
    have hc : c.cells.size = size := h4 (i, c) List.mem_cons_self
    have hr : rest.length = cps.length * size + size := by rw [h2, List.length_cons, Nat.add_mul]; omega
    have hf := foldl_set c.cells.toList 0 (i * size) (pre ++ rest).toArray (by simp; omega)
    have hfa : c.cells.zipIdx.foldl (fun cs (p : Value × Nat) => cs.setIfInBounds (i * size + p.2) p.1) (pre ++ rest).toArray = ((pre ++ c.cells.toList) ++ rest.drop size).toArray := by
      apply Array.ext'
      rw [← Array.foldl_toList, Array.toList_zipIdx, hf]
      simp only [Nat.add_zero, Array.length_toList, hc, ← h1]
      rw [List.take_left]
      simp [List.append_assoc, List.drop_append]
    have hlt : ¬ ((pre ++ rest).toArray.size < i * size + c.cells.size) := by simp; omega
    simp only [Instr.fill, hc, ne_eq, not_true_eq_false, decide_false, Bool.false_or, gt_iff_lt, decide_eq_true_eq]
    rw [hc] at hlt
    rw [if_neg hlt, hfa, fill_seq cps (i + 1) (pre ++ c.cells.toList) (rest.drop size) (by simp [hc, Nat.add_mul]; omega) (by simp; omega)
      (fun j p e => by have := h3 (j + 1) p (by simpa using e); omega) (fun p hp => h4 p (List.mem_cons_of_mem _ hp))]
    simp
theorem seqFrom_at : ∀ {l : List (Nat × Operand)} {n : Nat}, seqFrom n l = true → ∀ (j : Nat) (p : Nat × Operand), l[j]? = some p → p.1 = n + j
  | [], n, h, j, p, e => by simp at e
  | (i, x) :: r, n, h, j, p, e => by
    simp only [seqFrom, Bool.and_eq_true] at h
    have h1 := Nat.eq_of_beq_eq_true h.1
    cases j with
    | zero => simp at e; subst e; simpa using h1
    | succ j =>
      have := seqFrom_at h.2 j p (by simpa using e)
      omega
theorem Rel.newSlice {sz cap : Nat} {es : List (List V)} {vs rest : List Value} {ty : TypeId} (h : Rel D I0 st0 w0 I β env st a w) (hr : RepR I sz es vs) (hsz : 0 < sz) (hlim : es.length < lim)
    (hcap : vs.length + rest.length = cap * sz) (hle : es.length ≤ cap) :
    Rel D I0 st0 w0 (I.add w.heap.size 0 vs (vs.length + rest.length)) β env (st.setHw w.heap.size (es.length * sz)) a (w.alloc (.cells (vs ++ rest).toArray ty)) ∧
    Rep (I.add w.heap.size 0 vs (vs.length + rest.length)) (.slice sz es (.tok w.heap.size)) (.slice (some ⟨w.heap.size, 0, none⟩) es.length cap) := by
  have hl := RepR.length hr
  refine ⟨by rw [← hl]; exact h.newRow vs rest ty, ?_⟩
  simp only [Rep]
  refine ⟨some ⟨w.heap.size, 0, none⟩, cap, rfl, hle, hlim, hsz, ⟨rfl, ?_⟩, .inr rfl, ?_⟩
  · show (if w.heap.size = w.heap.size then some (vs.length + rest.length) else _) = _
    rw [if_pos rfl, hcap]
  · exact RepE.add es vs 0 hr (Mem.le_add (fun o _ => cell_new h.s o) (.inl (shape_new h.s))) fun j c e => Mem.add_at e
theorem Rep.own {sz : Nat} {es : List (List V)} {own own' : Own} {c : Value} (h : Rep I (.slice sz es own) c) (k : own' = .any ∨ (own' = .full ∧ ∃ ad, c = .slice ad es.length es.length)) : Rep I (.slice sz es own') c := by
  simp only [Rep] at h ⊢
  obtain ⟨ad, cap, e, h1, h2, h3, h4, h5⟩ := h
  refine ⟨ad, cap, e, h1, h2, h3, ?_, h5⟩
  rcases k with rfl | ⟨rfl, ad', e'⟩
  · trivial
  · rw [e] at e'; injection e' with _ _ e'
theorem sound_buildSlice {t : TypeId} {len : Nat} {parts : Array (Nat × Operand)} (hT : TOk P T) (hK : Takes D I0 st0 w0 β env.nxt a o.dst next K) (h : Rel D I0 st0 w0 I β env st a w) (ho : o.op = .buildSlice t len parts)
    (k : match assoc T t with
    | some (.slice _ sz _) => chk (seqFrom 0 parts.toList) (chk (Nat.beq len parts.toList.length) (chk (Nat.ble (len * sz) 16777216)
      (evs env (parts.toList.map (·.2)) fun vs => chk (vs.all fun v => v.known && Nat.beq v.cells.length sz) (forceLL (vs.map fun v => v.cells.map V.wk0) fun es => K (.slice sz es .full) env st))))
    | _ => False) : o.wp P a w next Qc := by
  split at k
  · rename_i el sz by' ht
    obtain ⟨h1, k⟩ := chk_iff.1 k
    obtain ⟨h2, k⟩ := chk_iff.1 k
    obtain ⟨h3, k⟩ := chk_iff.1 k
    obtain ⟨vs, h4, k⟩ := evs_sound h.f k
    obtain ⟨h5, k⟩ := chk_iff.1 k
    have k := forceLL_iff.1 k
    have h2 := Nat.eq_of_beq_eq_true h2
    have h3 := Nat.le_of_ble_eq_true h3
    obtain ⟨i0, j, c, g1, g2, g3, g4, g5, g6, g7, g8, g9, g10⟩ := hT t _ ht
    obtain ⟨q1, q2⟩ := repR_of h4 h5
    have hlv := RepL.length h4
    simp only [List.length_map] at hlv
    have hmul : len ≤ len * sz := Nat.le_mul_of_pos_right _ g8
    have hlen : (vs.map fun v => v.cells.map V.wk0).length = len := by simp [hlv, h2]
    have hR := RepR.length q1
    rw [hlen] at hR
    obtain ⟨r1, r2⟩ := h.newSlice (rest := []) (ty := el) (cap := len) q1 g8 (by rw [hlen]; simp only [lim]; omega) (by rw [hR, List.length_nil, Nat.add_zero]) (by rw [hlen]; exact Nat.le_refl _)
    rw [hlen] at r1 r2
    have hfr := fresh_new h.s
    have r1' := r1.stLe (st' := st) (St.le_setHw (St.le_refl st) hfr.2 _)
    refine op_value hK (c := .slice (some ⟨w.heap.size, 0, none⟩) len len) ?_ r1' (RepT.of (Rep.own r2 (.inr ⟨rfl, _, by rw [hlen]⟩))) k
    have hp : (parts.map fun (i, x) => (i, a.eval x)).toList = parts.toList.map fun p => (p.1, a.eval p.2) := by simp
    have hz : ∀ z : Array Value, ((Array.range (len * sz)).map fun x => z[x % z.size]!).toList.length = parts.toList.length * sz := fun z => by simp [h2]
    have hfill : ∀ z : Array Value, Instr.fill (fun i => some (i * sz, sz)) ((Array.range (len * sz)).map fun x => z[x % z.size]!) (parts.toList.map fun p => (p.1, a.eval p.2)) =
        some (((parts.toList.map (·.2)).map a.eval).flatMap fun c => c.cells.toList).toArray := fun z => by
      have := fill_seq (size := sz) (parts.toList.map fun p => (p.1, a.eval p.2)) 0 [] ((Array.range (len * sz)).map fun x => z[x % z.size]!).toList (by simp) (by rw [hz, List.length_map])
        (fun j p e => by
          rw [List.getElem?_map] at e
          cases hq : parts.toList[j]? with
          | none => rw [hq] at e; cases e
          | some p' =>
            rw [hq] at e
            simp only [Option.map_some, Option.some.injEq] at e
            subst e
            exact seqFrom_at h1 j p' hq)
        (fun p hp => by
          obtain ⟨p', hp1, rfl⟩ := List.mem_map.1 hp
          exact q2 _ (List.mem_map.2 ⟨p'.2, List.mem_map.2 ⟨p', hp1, rfl⟩, rfl⟩))
      simp only [List.nil_append, Array.toArray_toList] at this
      rw [this]
      congr 2
      simp [List.flatMap_map]
    have hbig : ¬ (len * sz > 2 ^ 24) := by omega
    simp only [execOp, ho, Instr.buildSlice, Sem.run_bind, run_underlying' g2, Result.andThen_ok, run_sizeOf' g5, g6, hp]
    rw [if_neg hbig]
    simp only [Sem.run_bind, Sem.run_pure, Result.andThen_ok, hfill, newRow, run_newObj, World.alloc_eq, List.append_nil]
    by_cases h0 : len * sz = 0
    · rw [if_pos h0]
      simp only [Sem.run_bind, Sem.run_pure, Result.andThen_ok, run_newObj, World.alloc_eq]
    · rw [if_neg h0]
      simp only [Sem.run_bind, Sem.run_pure, Result.andThen_ok, run_zeroValue' g5 g9, run_newObj, World.alloc_eq]
  · exact k.elim
theorem run_append_room' {t ty e : TypeId} {i : TypeInfo} (ht : P.underlying t = some (.slice e)) (hi : P.info? e = some i)
    {g sLen sCap : Nat} {cur : Array Value} {ety : TypeId} (hg : w.heap[g]? = some (.cells cur ety (0, 0)))
    {ad : Addr} {m c : Nat} {news : List Value} (hl : news.length = m * i.size) (hnews : ∀ j u, news[j]? = some u → w.cell? (ad.add j) = some u) (h1 : ∀ u ∈ news, u.oneCell' = true)
    (hroom : sLen + m ≤ sCap) (hfit : sLen * i.size + news.length ≤ cur.size) :
    (Builtin.append_ #[t, t] ty #[.slice (some ⟨g, 0, none⟩) sLen sCap, .slice (some ad) m c]).run P w =
      .ok (.slice (some ⟨g, 0, none⟩) (sLen + m) sCap) (w.setRow g (cur.toList.take (sLen * i.size) ++ news ++ cur.toList.drop (sLen * i.size + news.length)).toArray) := by
  have hf := run_firstCells_some (P := P) w i.size m ad m c news hl hnews
  have hst := run_storeCells_at P g (sLen * i.size) ety news 0 cur w hg (by simpa using hfit) h1
  simp only [Nat.add_zero] at hst
  simp [Builtin.append_, run_underlying ht, sizeOf, typeInfo, hi, Builtin.lenOf, hroom, hf, add_lit', hst]
theorem run_append_none' {t ty e : TypeId} {i : TypeInfo} (ht : P.underlying t = some (.slice e)) (hi : P.info? e = some i) {ad ad' : Option Addr} {n cap c : Nat} (h : n ≤ cap) :
    (Builtin.append_ #[t, t] ty #[.slice ad n cap, .slice ad' 0 c]).run P w = .ok (.slice ad n cap) w := by
  have hf : ∀ size : Nat, (Builtin.firstCells size 0 (.slice ad' 0 c)).run P w = .ok #[] w := by
    intro size
    cases ad' <;> simp [Builtin.firstCells, loadCells, loadCellsFrom]
  cases ad <;> simp [Builtin.append_, run_underlying ht, sizeOf, typeInfo, hi, Builtin.lenOf, h, hf, storeCells]
theorem RepR.flat {sz : Nat} : ∀ {l : List (List V)} {vs : List Value}, RepR I sz l vs → RepL I l.flatten vs
  | [], vs, k => by simp only [RepR] at k; subst k; simp only [List.flatten_nil, RepL]
  | v :: l, vs, k => by
    simp only [RepR] at k
    obtain ⟨u1, s, e, k1, k2, k3⟩ := k
    subst e
    rw [List.flatten_cons]
    exact RepL.append k2 (RepR.flat k3)
theorem RepL.junk : ∀ {vs : List Value} {m : Nat}, vs.length = m → RepL I (List.replicate m .junk) vs
  | [], m, e => by subst e; simp only [List.length_nil, List.replicate_zero, RepL]
  | v :: r, m, e => by
    obtain ⟨k, rfl⟩ : ∃ k, m = k + 1 := ⟨r.length, by rw [← e]; rfl⟩
    rw [List.replicate_succ]
    simp only [RepL]
    exact ⟨v, r, rfl, by simp only [Rep], RepL.junk (by simpa using e)⟩
theorem sound_appendRow {t : TypeId} {x y : Operand} {ty : TypeId} {sz bytes b n cap el : Nat} {new : List (List V)} {own : Own} (hT : TOk P T) (hK : Takes D I0 st0 w0 β env.nxt a o.dst next K) (h : Rel D I0 st0 w0 I β env st a w)
    (hr : ∀ (c : Value) (w' : World), (Builtin.append_ #[t, t] ty #[a.eval x, a.eval y]).run P w = .ok c w' → (execOp a.eval o).run P w = .ok (.value c) w')
    (ht : assoc T t = some (.slice el sz bytes)) (hx : RepT I β (.mrow sz b n cap) (a.eval x)) (hy : RepT I β (.slice sz new own) (a.eval y))
    (k : appendRow sz bytes b n cap new st fun v st' => K v env st') : o.wp P a w next Qc := by
  obtain ⟨hb, hlim, k⟩ := k
  obtain ⟨hsc, hne, cs, hcs, hlc, k⟩ := chk_iff.1 k
  obtain ⟨i0, j, c, g1, g2, g3, g4, g5, g6, g7, g8, g9, g10⟩ := hT t _ ht
  subst g6
  subst g7
  obtain ⟨x1, x2, x3, x4⟩ := rep_mrow hx
  obtain ⟨ay, cap', y1, y2, y3, y4, y5, y6⟩ := rep_slice hy
  obtain ⟨vs, ety, hw, hvs⟩ := h.s.box b cs hcs
  have hvl := RepL.length hvs
  have hpos : 0 < new.length := List.length_pos_iff.2 hne
  cases ay with
  | none => simp only at y6; omega
  | some ay =>
    obtain ⟨by1, oy, spy⟩ := ay
    simp only at y6
    obtain ⟨y0, y6⟩ := y6
    obtain rfl : spy = none := y0.resolve_left (by omega)
    obtain ⟨news, n1, n2⟩ := repE_cells h.s y6
    have n2' : ∀ jj v, news[jj]? = some v → w.cell? ((⟨by1, oy, none⟩ : Addr).add jj) = some v := fun jj v e => by rw [add_lit']; exact n2 jj v e
    have nl := RepR.length n1
    have nsc := RepR.sc n1 hsc
    have h63 : ((n + new.length : Nat) : Int) ≤ 9223372036854775807 := by simp only [lim] at hlim; omega
    have hmc : n * j.size ≤ cap * j.size := Nat.mul_le_mul_right _ x2
    rcases Nat.lt_or_ge cap (n + new.length) with hlt | hroom
    · have hge := grownCap_ge w (n + new.length) cap el
      have hz : ∀ q : Nat, (Builtin.zeroCells c.cells q).toList.length = q * j.size := fun q => by rw [Array.length_toList, size_zeroCells, g10]
      have ho : (vs.take (n * j.size)).length = n * j.size := by rw [List.length_take]; omega
      have hrun := run_append_grow (P := P) w t ty el j c g2 g5 g9 ⟨b, 0, none⟩ n cap (vs.take (n * j.size)) ho (fun jj v e => by
        rw [add_lit', Nat.zero_add]
        refine heap_cell hw ?_
        rw [List.getElem?_take] at e
        split at e
        · exact e
        · cases e) ⟨by1, oy, none⟩ new.length cap' news nl n2' hlt h63 (growslice_fits hlt (by omega))
      have hm : (Builtin.zeroCells c.cells (grownCap w (n + new.length) cap el - (n + new.length))).toList.length = (grownCap w (n + new.length) cap el - (n + new.length)) * j.size := hz _
      have r1 := (h.grew (Grew.drew w)).globalBox (cs := cs.take (n * j.size) ++ (new.map (·.map V.wk0)).flatten ++ List.replicate ((grownCap w (n + new.length) cap el - (n + new.length)) * j.size) .junk)
        (vs := vs.take (n * j.size) ++ news ++ (Builtin.zeroCells c.cells (grownCap w (n + new.length) cap el - (n + new.length))).toList)
        (RepL.append (RepL.append (RepL.take _ hvs) n1.wk.flat) (RepL.junk hm)) el
      have harr : (vs.take (n * j.size) ++ news ++ (Builtin.zeroCells c.cells (grownCap w (n + new.length) cap el - (n + new.length))).toList).toArray =
          (vs.take (n * j.size)).toArray ++ news.toArray ++ Builtin.zeroCells c.cells (grownCap w (n + new.length) cap el - (n + new.length)) := by
        apply Array.ext'; simp
      rw [harr] at r1
      refine op_value (β' := β) hK (hr _ _ (by rw [x1, y1]; exact hrun)) r1 (RepT.of (by simp only [Rep]; exact ⟨rfl, hge, hlim, x4⟩)) (k w.heap.size _ _ (.inr (fresh_new h.s)) ?_)
      rw [← Nat.add_mul]; congr 1; omega
    · have hmul : (n + new.length) * j.size ≤ cap * j.size := Nat.mul_le_mul_right _ hroom
      have hnm : n * j.size + new.length * j.size = (n + new.length) * j.size := (Nat.add_mul ..).symm
      have hrun := run_append_room' (P := P) (ty := ty) (c := cap') g2 g5 hw nl n2' nsc hroom (by rw [nl, List.size_toArray]; omega)
      have hm : (vs.drop (n * j.size + news.length)).length = cap * j.size - (n + new.length) * j.size := by rw [List.length_drop, nl]; omega
      have r1 := h.storeGlobal (b := b) (cs' := cs.take (n * j.size) ++ (new.map (·.map V.wk0)).flatten ++ List.replicate (cap * j.size - (n + new.length) * j.size) .junk) (us := vs.take (n * j.size) ++ news ++ vs.drop (n * j.size + news.length)) hcs hw
        (RepL.append (RepL.append (RepL.take _ hvs) n1.wk.flat) (RepL.junk hm))
      refine op_value (β' := β) hK (hr _ _ (by rw [x1, y1]; exact hrun)) r1 (RepT.of (by simp only [Rep]; exact ⟨rfl, hroom, hlim, x4⟩)) (k _ _ _ (.inl rfl) ?_)
      omega
theorem sound_append {t u : TypeId} {x y : Operand} {ty : TypeId} (hT : TOk P T) (hK : Takes D I0 st0 w0 β env.nxt a o.dst next K) (h : Rel D I0 st0 w0 I β env st a w)
    (hr : ∀ (c : Value) (w' : World), (Builtin.append_ #[t, u] ty #[a.eval x, a.eval y]).run P w = .ok c w' → (execOp a.eval o).run P w = .ok (.value c) w')
    (k : match assoc T t, assoc T u, env.evalT T t x, env.evalT T u y with
        | some (.slice _ sz bytes), some (.slice _ _ _), .slice sz' es own, .slice sz'' new _ =>
          chk (Nat.beq t u && (Nat.beq sz sz' && Nat.beq sz sz'')) (appendTo sz bytes es own new st fun v st' => K v env st')
        | some (.slice _ sz bytes), some (.slice _ _ _), .mrow sz' b n cap, .slice sz'' new _ =>
          chk (Nat.beq t u && (Nat.beq sz sz' && Nat.beq sz sz'')) (appendRow sz bytes b n cap new st fun v st' => K v env st')
        | _, _, _, _ => False) : o.wp P a w next Qc := by
  have hx := h.f.evalT hT t x
  have hy := h.f.evalT hT u y
  split at k
  · rename_i el sz by' _ _ _ sz' es own sz'' new own' ht hu hex hey
    rw [hex] at hx
    rw [hey] at hy
    obtain ⟨h1, k1⟩ := chk_iff.1 k
    clear k
    simp only [Bool.and_eq_true] at h1
    obtain ⟨e1, e2, e3⟩ := h1
    have e1 := Nat.eq_of_beq_eq_true e1
    have e2 := Nat.eq_of_beq_eq_true e2
    have e3 := Nat.eq_of_beq_eq_true e3
    subst e1; subst e2; subst e3
    obtain ⟨hb, hlim, k2⟩ := k1
    obtain ⟨hsc, k3⟩ := chk_iff.1 k2
    clear k2
    obtain ⟨i0, j, c, g1, g2, g3, g4, g5, g6, g7, g8, g9, g10⟩ := hT t _ ht
    subst g6
    subst g7
    obtain ⟨ax, cap, x1, x2, x3, x4, x5, x6⟩ := rep_slice hx
    obtain ⟨ay, cap', y1, y2, y3, y4, y5, y6⟩ := rep_slice hy
    cases hnew : new with
    | nil =>
      subst hnew
      have hrun := hr _ _ (by rw [x1, y1]; exact run_append_none' g2 g5 x2)
      cases own with
      | any => exact k3.elim
      | full => exact op_value hK hrun h (RepT.of (by have : Rep I (.slice j.size es .full) (a.eval x) := hx; rw [x1] at this; exact this)) (k3.1 rfl)
      | tok b =>
        obtain ⟨hh, k3⟩ := k3
        have k4 := k3 b (.inl rfl)
        simp only [List.map_nil, List.append_nil, List.length_nil, Nat.add_zero] at k4
        have hle : ((st.dropHw b).setHw b (es.length * j.size)).le st := by
          refine ⟨fun _ _ e => e, fun z n e => ?_⟩
          simp only [St.setHw, St.dropHw] at e
          split at e
          · rename_i hz; subst hz; rw [hh]; exact e
          · exact e
        exact op_value hK hrun (h.stLe hle) (RepT.of (by have : Rep I (.slice j.size es (.tok b)) (a.eval x) := hx; rw [x1] at this; exact this)) k4
    | cons n0 nr =>
      have hpos : 0 < new.length := by rw [hnew]; simp
      have hne : new ≠ [] := by rw [hnew]; simp
      cases ay with
      | none => simp only at y6; omega
      | some ay =>
        obtain ⟨by1, oy, spy⟩ := ay
        simp only at y6
        obtain ⟨y0, y6⟩ := y6
        obtain rfl : spy = none := y0.resolve_left (by omega)
        obtain ⟨news, n1, n2⟩ := repE_cells h.s y6
        have n2' : ∀ jj v, news[jj]? = some v → w.cell? ((⟨by1, oy, none⟩ : Addr).add jj) = some v := fun jj v e => by rw [add_lit']; exact n2 jj v e
        have nl := RepR.length n1
        have nsc := RepR.sc n1 hsc
        have h63 : ((es.length + new.length : Nat) : Int) ≤ 9223372036854775807 := by simp only [lim] at hlim; omega
        have grow : ∀ (olds : List Value) (oldCap : Nat) (kk : V → St → Prop),
            RepR I j.size es olds → oldCap < es.length + new.length →
            (Builtin.append_ #[t, t] ty #[a.eval x, a.eval y]).run P w = .ok (.slice (some ⟨w.heap.size, 0, none⟩) (es.length + new.length) (grownCap w (es.length + new.length) oldCap el))
              (w.drew.alloc (.cells (olds.toArray ++ news.toArray ++ Builtin.zeroCells c.cells (grownCap w (es.length + new.length) oldCap el - (es.length + new.length))) el)) →
            ∀ st', st'.le (st.setHw w.heap.size ((es.length + new.length) * j.size)) → K (.slice j.size (es ++ new.map (·.map V.wk0)) (.tok w.heap.size)) env st' → o.wp P a w next Qc := by
          intro olds oldCap kk ho hlt hrun st' hle hk
          have hge := grownCap_ge w (es.length + new.length) oldCap el
          have hall : RepR I j.size (es ++ new.map (·.map V.wk0)) (olds ++ news) := ho.append n1.wk
          have hlen : (es ++ new.map (·.map V.wk0)).length = es.length + new.length := by simp
          have hlo := RepR.length ho
          have hz : ∀ q : Nat, (Builtin.zeroCells c.cells q).toList.length = q * j.size := fun q => by rw [Array.length_toList, size_zeroCells, g10]
          obtain ⟨r1, r2⟩ := (h.grew (Grew.drew w)).newSlice (rest := (Builtin.zeroCells c.cells (grownCap w (es.length + new.length) oldCap el - (es.length + new.length))).toList) (ty := el)
            (cap := grownCap w (es.length + new.length) oldCap el) hall x4 (by rw [hlen]; exact hlim)
            (by rw [List.length_append, hlo, nl, hz, ← Nat.add_mul, ← Nat.add_mul]; congr 1; omega) (by rw [hlen]; exact hge)
          rw [hlen] at r1 r2
          refine op_value (β' := β) hK (hr _ _ hrun) ?_ (RepT.of r2) hk
          refine Rel.stLe ?_ hle
          have : (olds ++ news ++ (Builtin.zeroCells c.cells (grownCap w (es.length + new.length) oldCap el - (es.length + new.length))).toList).toArray =
              olds.toArray ++ news.toArray ++ Builtin.zeroCells c.cells (grownCap w (es.length + new.length) oldCap el - (es.length + new.length)) := by
            apply Array.ext'; simp
          rw [this] at r1
          exact r1
        have old : ∃ olds, RepR I j.size es olds ∧ (cap < es.length + new.length → (Builtin.append_ #[t, t] ty #[a.eval x, a.eval y]).run P w = .ok (.slice (some ⟨w.heap.size, 0, none⟩) (es.length + new.length) (grownCap w (es.length + new.length) cap el))
              (w.drew.alloc (.cells (olds.toArray ++ news.toArray ++ Builtin.zeroCells c.cells (grownCap w (es.length + new.length) cap el - (es.length + new.length))) el))) := by
          cases ax with
          | none =>
            simp only at x6
            subst x6
            have : es = [] := List.eq_nil_of_length_eq_zero (by omega)
            subst this
            refine ⟨[], by simp only [RepR], fun hlt => ?_⟩
            have := run_append_nil (P := P) w t ty el j c g2 g5 g9 ⟨by1, oy, none⟩ new.length cap' news nl n2' hpos (by simpa using h63) (by simp only [List.length_nil, Nat.zero_add] at hb; omega)
            rw [x1, y1]
            simp only [List.length_nil, Nat.zero_add] at this ⊢
            rw [this]
            simp
          | some ax =>
            obtain ⟨bx, ox, spx⟩ := ax
            simp only at x6
            obtain ⟨x0, x6⟩ := x6
            obtain ⟨olds, o1, o2⟩ := repE_cells h.s x6
            refine ⟨olds, o1, fun hlt => ?_⟩
            rw [x1, y1]
            exact run_append_grow (P := P) w t ty el j c g2 g5 g9 ⟨bx, ox, spx⟩ es.length cap olds (RepR.length o1) (fun jj v e => by
              rcases x0 with x0 | x0
              · have h0 : es.length = 0 := by omega
                have := RepR.length o1
                rw [h0, Nat.zero_mul] at this
                rw [List.eq_nil_of_length_eq_zero this] at e
                cases e
              · have x0 : spx = none := x0
                subst x0
                rw [add_lit']; exact o2 jj v e) ⟨by1, oy, none⟩ new.length cap' news nl n2' hlt h63
              (growslice_fits hlt (by omega))
        obtain ⟨olds, o1, o2⟩ := old
        have hfr := fresh_new h.s
        cases own with
        | any => exact k3.elim
        | full =>
          have hc : cap = es.length := x5
          rcases k3.2 hne with k4 | k4
          · exact grow olds cap (fun _ _ => True) o1 (by omega) (o2 (by omega)) _ (St.le_refl _) (k4 _ hfr)
          · have hge := grownCap_ge w (es.length + new.length) cap el
            have hz : (Builtin.zeroCells c.cells (grownCap w (es.length + new.length) cap el - (es.length + new.length))).toList.length = (grownCap w (es.length + new.length) cap el - (es.length + new.length)) * j.size := by rw [Array.length_toList, size_zeroCells, g10]
            have r1 := (h.grew (Grew.drew w)).globalBox (cs := (es ++ new.map (·.map V.wk0)).flatten ++ List.replicate ((grownCap w (es.length + new.length) cap el - (es.length + new.length)) * j.size) .junk)
              (vs := olds ++ news ++ (Builtin.zeroCells c.cells (grownCap w (es.length + new.length) cap el - (es.length + new.length))).toList)
              (RepL.append (o1.append n1.wk).flat (RepL.junk hz)) el
            have harr : (olds ++ news ++ (Builtin.zeroCells c.cells (grownCap w (es.length + new.length) cap el - (es.length + new.length))).toList).toArray =
                olds.toArray ++ news.toArray ++ Builtin.zeroCells c.cells (grownCap w (es.length + new.length) cap el - (es.length + new.length)) := by
              apply Array.ext'; simp
            rw [harr] at r1
            refine op_value (β' := β) hK (hr _ _ (o2 (by omega))) r1 (RepT.of (by simp only [Rep]; exact ⟨rfl, hge, hlim, x4⟩)) (k4 _ _ _ hfr ?_)
            rw [← Nat.add_mul]; congr 1; omega
        | tok b =>
          obtain ⟨hh, k3⟩ := k3
          obtain ⟨t1, t2⟩ := x5
          subst t1
          rcases Nat.lt_or_ge cap (es.length + new.length) with hlt | hroom
          · refine grow olds cap (fun _ _ => True) o1 hlt (o2 hlt) _ ?_ (k3 w.heap.size (.inr hfr))
            refine ⟨fun _ _ e => e, fun z n e => ?_⟩
            simp only [St.setHw, St.dropHw] at e ⊢
            split at e
            · rename_i hz; rw [if_pos hz]; exact e
            · rename_i hz
              rw [if_neg hz]
              split at e
              · cases e
              · exact e
          · obtain ⟨cur, ety, c1, c2⟩ := h.s.shape b _ t2
            have hmul : (es.length + new.length) * j.size ≤ cap * j.size := Nat.mul_le_mul_right _ hroom
            rw [Nat.add_mul] at hmul
            have hfit : es.length * j.size + news.length ≤ cur.size := by rw [nl, c2]; exact hmul
            have hrun := run_append_room' (P := P) (ty := ty) (c := cap') g2 g5 c1 nl n2' nsc hroom hfit
            have hcur : cur = cur.toList.toArray := by simp
            have r1 := h.appendIn (b := b) (n := es.length * j.size) (m := cap * j.size) (cur := cur.toList) (ty := ety) hh (by rw [← hcur]; exact c1) t2 news (by rw [Array.length_toList]; exact hfit)
            have hadd : es.length * j.size + news.length = (es.length + new.length) * j.size := by rw [nl, Nat.add_mul]
            rw [hadd] at r1
            have hf := (h.s.hw b _ hh).2
            have hl : I.le (I.add b (es.length * j.size) news (cap * j.size)) := Mem.le_add hf (.inr t2)
            refine op_value hK (hr _ _ (by rw [x1, y1]; exact hrun)) (by rw [hadd]; exact r1) (RepT.of ?_) (k3 b (.inl rfl))
            simp only at x6
            simp only [Rep]
            refine ⟨some ⟨b, 0, none⟩, cap, by simp, by simp; exact hroom, by simp; exact hlim, x4, ⟨rfl, hl.2 _ _ t2⟩, .inr rfl, ?_⟩
            refine RepE.append (RepE.mono hl _ _ _ _ x6.2) ?_
            refine RepE.add _ news _ n1.wk hl fun jj v e => ?_
            rw [Nat.zero_add]
            exact Mem.add_at e
  · rename_i el sz by' _ _ _ sz' b n cap sz'' new own' ht hu hex hey
    rw [hex] at hx
    rw [hey] at hy
    obtain ⟨h1, k1⟩ := chk_iff.1 k
    clear k
    simp only [Bool.and_eq_true] at h1
    obtain ⟨e1, e2, e3⟩ := h1
    have e1 := Nat.eq_of_beq_eq_true e1
    have e2 := Nat.eq_of_beq_eq_true e2
    have e3 := Nat.eq_of_beq_eq_true e3
    subst e1; subst e2; subst e3
    exact sound_appendRow hT hK h hr ht hx hy k1
  · exact k.elim
end
end Go.Aw
set_option maxHeartbeats 16000000
set_option linter.unusedVariables false
set_option linter.unusedSimpArgs false
namespace Go.Aw
open Go
theorem decR_of {s : List UInt8} {pos : Nat} (h : pos < s.length) : Utf8.decode ⟨s.toArray⟩ pos = decR (s.drop pos) := by
  have hg : ∀ k, (ByteArray.get! ⟨s.toArray⟩ (pos + k)).toNat = ((s.drop pos).getD k 0).toNat := fun k => by
    simp only [ByteArray.get!, List.getD_eq_getElem?_getD, List.getElem?_drop]
    by_cases hk : pos + k < s.length
    · simp [hk]
    · simp [hk]; rfl
  have hd : s.drop pos = s[pos] :: s.drop (pos + 1) := List.drop_eq_getElem_cons h
  have hc : ∀ k, (decide (pos + (k + 1) < s.length) && ((s.drop (pos + 1)).getD k 0).toNat / 64 == 2) = (match (s.drop (pos + 1))[k]? with | some b => b.toNat / 64 == 2 | none => false) := fun k => by
    rw [List.getD_eq_getElem?_getD, List.getElem?_drop]
    by_cases hk : pos + 1 + k < s.length
    · have : pos + (k + 1) < s.length := by omega
      simp [hk, this]
    · have : ¬ pos + (k + 1) < s.length := by omega
      simp [hk, this]
  have h1 : ∀ k, ((s.drop pos).getD (k + 1) 0) = ((s.drop (pos + 1)).getD k 0) := fun k => by rw [hd, List.getD_cons_succ]
  have h0 : (ByteArray.get! ⟨s.toArray⟩ (pos + 0)).toNat = (s[pos]).toNat := by rw [hg, hd]; rfl
  have hz : (⟨s.toArray⟩ : ByteArray).size = s.length := by simp [ByteArray.size]
  unfold Utf8.decode
  simp only [hz]
  rw [hd]
  unfold decR
  simp only [h0]
  have c0 : (decide (pos + 1 < s.length) && ((s.drop (pos + 1)).getD 0 0).toNat / 64 == 2) = (match (s.drop (pos + 1))[0]? with | some b => b.toNat / 64 == 2 | none => false) := hc 0
  have c1 : (decide (pos + 2 < s.length) && ((s.drop (pos + 1)).getD 1 0).toNat / 64 == 2) = (match (s.drop (pos + 1))[1]? with | some b => b.toNat / 64 == 2 | none => false) := hc 1
  have c2 : (decide (pos + 3 < s.length) && ((s.drop (pos + 1)).getD 2 0).toNat / 64 == 2) = (match (s.drop (pos + 1))[2]? with | some b => b.toNat / 64 == 2 | none => false) := hc 2
  have g1 := hg 1
  have g2 := hg 2
  have g3 := hg 3
  rw [h1] at g1 g2 g3
  simp only [g1, g2, g3, c0, c1, c2]
  rfl
section
variable {D : List Deferred} {P : Program} {T : List (Nat × Ty)} {C : FuncId → List V → St → (Res → St → Prop) → Prop} {I0 I : Mem} {st0 st : St} {w0 w : World} {β : Nat → Option Nat} {env : Env} {a : Act}
variable {o : Oper} {K : V → Env → St → Prop} {Q : AExit → Env → St → Prop} {next : Act → World → Prop} {Qc : Exit → Act → World → Prop}
theorem Rel.setLocal (h : Rel D I0 st0 w0 I β env st a w) {id b : Nat} {cs' : List V} {ob : Obj} {w' : World} (hb : β id = some b) (hn : w'.heap[b]? = some ob) (k : Laid I (some ob) cs') (ho : ∀ x, x ≠ b → w'.heap[x]? = w.heap[x]?)
    (e1 : w'.os = w.os) (e2 : w'.tape = w.tape) (e3 : w'.output = w.output) (e4 : w'.heap.size = w.heap.size) : Rel D I0 st0 w0 I β { env with boxes := (id, cs') :: env.boxes } st a w' := by
  obtain ⟨s1, s2, s3, s4, s5, s6⟩ := h.f.sep id b hb
  refine ⟨⟨e1.trans h.fr.os, e2.trans h.fr.tape, e3.trans h.fr.output, by rw [e4]; exact h.fr.size, fun x hx h1 h2 => ?_, h.fr.le, h.fr.new, h.fr.newS, h.fr.dom⟩, ⟨?_, ?_, ?_, h.s.boxI, ?_, h.s.tab⟩, ⟨h.f.size, h.f.tmps, ?_, h.f.nxt, h.f.inj, ?_, h.f.defers⟩⟩
  · rw [ho x (by omega)]; exact h.fr.old x hx h1 h2
  · intro x o v e
    have hx : x ≠ b := fun hx => by subst hx; rw [s3 o] at e; cases e
    rw [cell_eq (ho x hx)]; exact h.s.cell x o v e
  · intro x n e
    have hx : x ≠ b := fun hx => by subst hx; rw [s4] at e; cases e
    obtain ⟨c, ty', h1, h2⟩ := h.s.shape x n e
    exact ⟨c, ty', by rw [ho x hx]; exact h1, h2⟩
  · intro x n e
    have hx : x ≠ b := fun hx => by subst hx; rw [s5] at e; cases e
    obtain ⟨c, ty', h1, h2⟩ := h.s.box x n e
    exact ⟨c, ty', by rw [ho x hx]; exact h1, h2⟩
  · intro x n e
    exact ⟨by rw [e4]; exact (h.s.hw x n e).1, (h.s.hw x n e).2⟩
  · intro id' c e
    rw [assoc_cons] at e
    cases hq : Nat.beq id id' with
    | true =>
      rw [hq] at e
      have := Nat.eq_of_beq_eq_true hq
      subst this
      simp only [cond_true, Option.some.injEq] at e
      subst e
      exact ⟨b, hb, by rw [hn]; exact k⟩
    | false =>
      rw [hq] at e
      obtain ⟨b', h1, h2⟩ := h.f.box id' c e
      have hx : b' ≠ b := fun hx => by
        subst hx
        have := h.f.inj _ _ _ h1 hb
        subst this
        simp at hq
      exact ⟨b', h1, by rw [ho b' hx]; exact h2⟩
  · intro id' b' e
    obtain ⟨h1, h2, h3⟩ := h.f.sep id' b' e
    exact ⟨h1, by rw [e4]; exact h2, h3⟩
theorem sound_convert {t u : TypeId} {x : Operand} (hT : TOk P T) (hK : Takes D I0 st0 w0 β env.nxt a o.dst next K) (h : Rel D I0 st0 w0 I β env st a w) (ho : o.op = .convert t u x)
    (k : match assoc T t, assoc T u, env.eval x with
    | some (.sc (.int _ _)), some (.sc (.int k' _)), .int _ n => ∃ r, r = k'.wrap n ∧ K (.int k' r) env st
    | _, _, _ => False) : o.wp P a w next Qc := by
  have hx := h.f.eval x
  split at k
  · rename_i k0 n0 k' n' k2 n ht hu hv
    rw [hv] at hx
    obtain ⟨r, rfl, k⟩ := k
    obtain ⟨i0, d0, c0, _, g0, _⟩ := hT t _ ht
    obtain ⟨i1, d1, c1, _, g1, _, _, _, _, _, _, _, g2⟩ := hT u _ hu
    have g2 : d1 = .int k' := g2
    subst g2
    refine op_value hK (c := .int k' (k'.wrap n)) (w' := w) ?_ h (RepT.of (by simp only [Rep])) k
    have hx : a.eval x = .int k2 n := hx
    simp [execOp, ho, convert, hx, run_underlying' g0, run_underlying' g1, Conv.intToInt]
  · exact k.elim
theorem sound_range {t : TypeId} {x : Operand} (hT : TOk P T) (hK : Takes D I0 st0 w0 β env.nxt a o.dst next K) (h : Rel D I0 st0 w0 I β env st a w) (ho : o.op = .range t x)
    (k : match assoc T t, env.eval x with
    | some (.sc (.str _)), .str s => chk (!env.isGl o.dst) (match env with
      | ⟨ts, bs, n, sz, gl⟩ => K (.lptr n 0) ⟨ts, (n, [.sit s 0]) :: bs, n + 1, sz, gl⟩ st)
    | _, _ => False) : o.wp P a w next Qc := by
  have hx := h.f.eval x
  split at k
  · rename_i z0 s ht hv
    rw [hv] at hx
    obtain ⟨i1, d1, c1, _, g1, _, _, _, _, _, _, _, g2⟩ := hT t _ ht
    have g2 : d1 = .string := g2
    subst g2
    obtain ⟨_, k⟩ := chk_iff.1 k
    have hx : a.eval x = .string ⟨s.toArray⟩ ∧ s.length < lim := hx
    have hn : β env.nxt = none := by
      cases e : β env.nxt with
      | none => rfl
      | some b => exact absurd (h.f.nxt _ _ e) (Nat.lt_irrefl _)
    have hr := h.localObj (cs := [.sit s 0]) (ob := .stringIter ⟨s.toArray⟩ 0) (x := env.nxt) (n := env.nxt + 1) (.inr ⟨s, 0, rfl, hx.2, rfl⟩) hn (Nat.lt_succ_self _) (Nat.le_succ _)
    refine op_value hK (c := .pointer (some ⟨w.heap.size, 0, none⟩)) (v := .lptr env.nxt 0) (w' := w.alloc (.stringIter ⟨s.toArray⟩ 0)) ?_ hr (show ∃ b, _ ∧ _ from ⟨w.heap.size, if_pos rfl, rfl⟩) k (fun id hid => if_neg (by omega))
    simp only [execOp, ho, Instr.range, Sem.run_bind, run_underlying' g1, Result.andThen_ok, hx.1, run_newObj, Sem.run_pure, World.alloc_eq]
  · exact k.elim
theorem run_getIter {s : ByteArray} {pos b : Nat} {w : World} (h : w.heap[b]? = some (.stringIter s pos)) : (getObj b).run P w = .ok (.stringIter s pos) w := by
  simp only [getObj, Sem.run, h]
theorem run_setIter {s : ByteArray} {pos b : Nat} {w : World} {ob : Obj} (h : w.heap[b]? = some (.stringIter s pos)) : (setObj b ob).run P w = .ok () { w with heap := w.heap.setIfInBounds b ob } := by
  simp only [setObj, Sem.run, h]
theorem sound_next {x : Operand} (hK : Takes D I0 st0 w0 β env.nxt a o.dst next K) (h : Rel D I0 st0 w0 I β env st a w) (ho : o.op = .next x true)
    (k : match env.eval x with
    | .lptr id 0 => match assoc env.boxes id with
      | some [.sit s pos] => match env with
        | ⟨ts, bs, n, sz, gl⟩ => bcase (decide (pos < s.length)) (∀ c m, (c, m) = decR (s.drop pos) → K (.tup [.bool true, .int .i64 pos, .int .i32 c]) ⟨ts, (id, [.sit s (pos + m)]) :: bs, n, sz, gl⟩ st) (K (.tup [.bool false]) ⟨ts, bs, n, sz, gl⟩ st)
      | _ => False
    | _ => False) : o.wp P a w next Qc := by
  have hx := h.f.eval x
  split at k
  · rename_i id he
    rw [he] at hx
    obtain ⟨b, hb, hx⟩ := rep_lptr hx
    split at k
    · rename_i s pos hcs
      obtain ⟨b', h1, h2⟩ := h.f.box id _ hcs
      rw [hb] at h1
      injection h1 with h1
      subst h1
      have h2 : s.length < lim ∧ w.heap[b]? = some (.stringIter ⟨s.toArray⟩ pos) := by
        rcases h2 with ⟨vs, ty, _, h2⟩ | ⟨s', pos', e, h3, h4⟩
        · simp only [RepL, Rep] at h2
          obtain ⟨_, _, _, h2, _⟩ := h2
          exact h2.elim
        · cases e; exact ⟨h3, h4⟩
      have hz : (⟨s.toArray⟩ : ByteArray).size = s.length := by simp [ByteArray.size]
      by_cases hp : pos < s.length
      · rw [decide_eq_true hp] at k
        have k := bcase_true_iff.1 k (decR (s.drop pos)).1 (decR (s.drop pos)).2 rfl
        have hlt : b < w.heap.size := lt_of_heap h2.2
        let w' : World := { w with heap := w.heap.setIfInBounds b (.stringIter ⟨s.toArray⟩ (pos + (decR (s.drop pos)).2)) }
        have hr := h.setLocal (w' := w') (ob := .stringIter ⟨s.toArray⟩ (pos + (decR (s.drop pos)).2)) (cs' := [.sit s (pos + (decR (s.drop pos)).2)]) hb (by simp [w', hlt]) (.inr ⟨s, _, rfl, h2.1, rfl⟩)
          (fun x hx => by simp [w', Array.getElem?_setIfInBounds, Ne.symm hx]) rfl rfl rfl (by simp [w'])
        refine op_value hK (c := .tuple #[.bool true, .int .i64 pos, .int .i32 ((decR (s.drop pos)).1 : Nat)]) (w' := w') ?_ hr (RepT.of ?_) k
        · have hx : a.eval x = .pointer (some ⟨b, 0, none⟩) := hx
          have hp' : pos < (⟨s.toArray⟩ : ByteArray).size := by rw [hz]; exact hp
          simp only [execOp, ho, Instr.next, hx, Sem.run_bind, run_getIter h2.2, Result.andThen_ok, if_pos hp', decR_of hp, run_setIter h2.2, Sem.run_pure, goInt]
          rfl
        · simp only [Rep]
          exact ⟨[.bool true, .int .i64 pos, .int .i32 ((decR (s.drop pos)).1 : Nat)], rfl, by simp only [RepL, Rep]; exact ⟨_, _, rfl, rfl, _, _, rfl, rfl, _, _, rfl, rfl, rfl⟩⟩
      · rw [decide_eq_false hp] at k
        have k := bcase_false_iff.1 k
        refine op_value hK (c := .tuple #[.bool false]) (w' := w) ?_ h (RepT.of ?_) k
        · have hx : a.eval x = .pointer (some ⟨b, 0, none⟩) := hx
          have hp' : ¬ pos < (⟨s.toArray⟩ : ByteArray).size := by rw [hz]; exact hp
          simp only [execOp, ho, Instr.next, hx, Sem.run_bind, run_getIter h2.2, Result.andThen_ok, if_neg hp', Sem.run_pure]
        · simp only [Rep]
          exact ⟨[.bool false], rfl, by simp only [RepL, Rep]; exact ⟨_, _, rfl, rfl, rfl⟩⟩
    · exact k.elim
  · exact k.elim
end
end Go.Aw
