/-
  AW, PART 5. Calls; each operation does what 'opWp' asks of it.
-/
import Derived.Test.YtngbihfihdheoaaAw4
import Derived.Laws.Strings
set_option linter.unusedVariables false
set_option linter.unusedSimpArgs false
namespace Go.Aw
open Go

def resM (I : Mem) : Ending → Res → Prop
  | .returned c, .ret v => Rep I v c
  | .panicked chain, .pan v => ∃ c, chain = [{ v := c, recovered := false }] ∧ Rep I v c
  | _, _ => False

/-- a call of plain data: it ends as R says; it writes where it was let write, and in new memory -/
def ACalls (P : Program) (f : FuncId) (args : List V) (st : St) (R : Res → St → Prop) : Prop :=
  ∀ (I : Mem) (w : World) (cargs : List Value), RelS I st w → RepL I args cargs →
    Calls P f cargs.toArray w fun e w' => ∃ I' st' r, Fr I st w I' st' w' ∧ RelS I' st' w' ∧ resM I' e r ∧ R r st'

theorem ACalls.mono {P : Program} {f : FuncId} {args : List V} {st : St} {R R' : Res → St → Prop} (h : ACalls P f args st R) (k : ∀ r s, R r s → R' r s) : ACalls P f args st R' :=
  fun I w cargs h1 h2 => (h I w cargs h1 h2).mono fun e w' ⟨I', st', r, k1, k2, k3, k4⟩ => ⟨I', st', r, k1, k2, k3, k r st' k4⟩

def exitM (I : Mem) : Exit → AExit → Prop
  | .normal, .normal => True
  | .exit i, .exit j => i = j
  | .goto i, .goto j => i = j
  | .ret, .ret => True
  | .panic chain, .pan v => ∃ c, chain = [{ v := c, recovered := false }] ∧ Rep I v c
  | _, _ => False

def liftQ (D : List Deferred) (I0 : Mem) (st0 : St) (w0 : World) (Q : AExit → Env → St → Prop) : Exit → Act → World → Prop :=
  fun e a w => ∃ I β env st ae, Rel D I0 st0 w0 I β env st a w ∧ exitM I e ae ∧ Q ae env st

/-- what code asks of plain data holds of the machine -/
def AW (P : Program) (c : Code) (Q : AExit → Env → St → Prop) (env : Env) (st : St) : Prop :=
  ∀ D I0 st0 w0 I β a w, Rel D I0 st0 w0 I β env st a w → c.wp P (liftQ D I0 st0 w0 Q) a w

section
variable {D : List Deferred} {P : Program} {T : List (Nat × Ty)} {C : FuncId → List V → St → (Res → St → Prop) → Prop} {I0 I : Mem} {st0 st : St} {w0 w : World} {β : Nat → Option Nat} {env : Env} {a : Act}
variable {o : Oper} {K : V → Env → St → Prop} {Q : AExit → Env → St → Prop} {next : Act → World → Prop}

/-- what comes behind an operation, for whatever stands for its value -/
def Takes (D : List Deferred) (I0 : Mem) (st0 : St) (w0 : World) (β0 : Nat → Option Nat) (n0 : Nat) (a : Act) (dst : Option Tmp) (next : Act → World → Prop) (K : V → Env → St → Prop) : Prop :=
  ∀ I β env st v c w, Rel D I0 st0 w0 I β env st a w → RepT I β v c → (∀ id, id < n0 → β id = β0 id) → K v env st → next (a.put dst c) w

theorem op_value {c : Value} {v : V} {w' : World} {I' : Mem} {β' : Nat → Option Nat} {env' : Env} {st' : St} {Qc : Exit → Act → World → Prop} (hK : Takes D I0 st0 w0 β env.nxt a o.dst next K)
    (hr : (execOp a.eval o).run P w = .ok (.value c) w') (h : Rel D I0 st0 w0 I' β' env' st' a w') (hv : RepT I' β' v c) (k : K v env' st') (hβ : ∀ id, id < env.nxt → β' id = β id := by exact fun _ _ => rfl) : o.wp P a w next Qc := by
  unfold Oper.wp; rw [hr]; exact hK _ _ _ _ _ _ _ h hv hβ k
theorem op_skip {w' : World} {I' : Mem} {β' : Nat → Option Nat} {env' : Env} {st' : St} {Qc : Exit → Act → World → Prop} (hK : Takes D I0 st0 w0 β env.nxt a o.dst next K)
    (hr : (execOp a.eval o).run P w = .ok .skip w') (h : Rel D I0 st0 w0 I' β' env' st' a w') (k : K .junk env' st') (hβ : ∀ id, id < env.nxt → β' id = β id := by exact fun _ _ => rfl) : o.wp P a w next Qc := by
  unfold Oper.wp; rw [hr]; exact hK _ _ _ _ _ _ _ h (RepT.of (v := .junk) (by simp only [Rep])) hβ k

theorem rep_cells {v : V} {c : Value} (h : Rep I v c) (k : v.known = true) : RepL I v.cells c.cells.toList := by
  have one : ∀ {u : V} {c : Value}, Rep I u c → c.cells = #[c] → RepL I [u] c.cells.toList := fun {u c} h e => by
    rw [e]; simp only [RepL]; exact ⟨c, [], rfl, h, rfl⟩
  cases v with
  | junk => cases k
  | lptr _ _ => cases k
  | agg cs => simp only [Rep] at h; obtain ⟨vs, rfl, h⟩ := h; exact h
  | bool b => refine one h ?_; simp only [Rep] at h; subst h; rfl
  | int k' n => refine one h ?_; simp only [Rep] at h; subst h; rfl
  | str s => refine one h ?_; simp only [Rep] at h; rw [h.1]; rfl
  | tup cs => refine one h ?_; simp only [Rep] at h; obtain ⟨vs, rfl, _⟩ := h; rfl
  | slice sz es own => refine one h ?_; simp only [Rep] at h; obtain ⟨x, y, rfl, _⟩ := h; rfl
  | ptr b off => refine one h ?_; simp only [Rep] at h; subst h; rfl
  | eptr b off => refine one h ?_; simp only [Rep] at h; obtain ⟨x, y, rfl, _⟩ := h; rfl
  | nilp => refine one h ?_; simp only [Rep] at h; subst h; rfl
  | func f x y => refine one h ?_; simp only [Rep] at h; obtain ⟨x, y, rfl, _⟩ := h; rfl
  | nilf => refine one h ?_; simp only [Rep] at h; subst h; rfl
  | iface t v => refine one h ?_; simp only [Rep] at h; obtain ⟨x, rfl, _⟩ := h; rfl
  | nili => refine one h ?_; simp only [Rep] at h; subst h; rfl
theorem known_plain {v : V} (h : v.known = true) : v.plain = true := by cases v <;> first | rfl | cases h
theorem sc_one {v : V} {c : Value} (h : Rep I v c) (k : v.sc = true) : c.oneCell' = true := by
  cases v with
  | junk => cases k
  | agg cs => cases k
  | tup cs => cases k
  | lptr _ _ => simp only [Rep] at h
  | bool b => simp only [Rep] at h; subst h; rfl
  | int k' n => simp only [Rep] at h; subst h; rfl
  | str s => simp only [Rep] at h; rw [h.1]; rfl
  | slice sz es own => simp only [Rep] at h; obtain ⟨x, y, rfl, _⟩ := h; rfl
  | ptr b off => simp only [Rep] at h; subst h; rfl
  | eptr b off => simp only [Rep] at h; obtain ⟨x, y, rfl, _⟩ := h; rfl
  | nilp => simp only [Rep] at h; subst h; rfl
  | func f x y => simp only [Rep] at h; obtain ⟨x, y, rfl, _⟩ := h; rfl
  | nilf => simp only [Rep] at h; subst h; rfl
  | iface t v => simp only [Rep] at h; obtain ⟨x, rfl, _⟩ := h; rfl
  | nili => simp only [Rep] at h; subst h; rfl
theorem sc_all : ∀ {l : List V} {vs : List Value}, RepL I l vs → l.all V.sc = true → ∀ c ∈ vs, c.oneCell' = true
  | [], vs, k, h, c, hc => by simp only [RepL] at k; subst k; cases hc
  | v :: r, vs, k, h, c, hc => by
    simp only [RepL] at k
    obtain ⟨c', s, e, k1, k2⟩ := k
    subst e
    simp only [List.all_cons, Bool.and_eq_true] at h
    rcases List.mem_cons.1 hc with rfl | hc
    · exact sc_one k1 h.1
    · exact sc_all k2 h.2 c hc

/-- a list of operands -/
theorem evs_sound {B : Nat} (h : RelF D B I β env st a w) : ∀ {l : List Operand} {K : List V → Prop}, evs env l K → ∃ vs, RepL I vs (l.map a.eval) ∧ K vs
  | [], K, k => ⟨[], by simp only [List.map_nil, RepL], k⟩
  | x :: r, K, k => by
    rw [evs_cons, V.force_iff] at k
    obtain ⟨hp, k⟩ := chk_iff.1 k
    obtain ⟨vs, h1, h2⟩ := evs_sound h k
    exact ⟨_, by simp only [List.map_cons, RepL]; exact ⟨_, _, rfl, (h.eval x).rep hp, h1⟩, h2⟩
theorem evsT_sound (hT : TOk P T) {B : Nat} (h : RelF D B I β env st a w) : ∀ {ts : List TypeId} {l : List Operand} {K : List V → Prop}, evsT T env ts l K → ∃ vs, RepL I vs (l.map a.eval) ∧ K vs
  | ts, [], K, k => ⟨[], by simp only [List.map_nil, RepL], k⟩
  | ts, x :: r, K, k => by
    rw [evsT_cons, V.force_iff] at k
    obtain ⟨hp, k⟩ := chk_iff.1 k
    obtain ⟨vs, h1, h2⟩ := evsT_sound hT h k
    exact ⟨_, by simp only [List.map_cons, RepL]; exact ⟨_, _, rfl, (h.evalT hT _ x).rep hp, h1⟩, h2⟩

/-- a new variable -/
theorem newBox_sound (hK : Takes D I0 st0 w0 β env.nxt a o.dst next K) (h : Rel D I0 st0 w0 I β env st a w) {cs : List V} {vs : List Value} (hv : RepL I cs vs) (ty : TypeId)
    (k : newBox env st o.dst cs K) : next (a.put o.dst (.pointer (some ⟨w.heap.size, 0, none⟩))) (w.alloc (.cells vs.toArray ty)) := by
  unfold newBox at k
  split at k
  · have k := forceL_iff.1 k _ (fresh_new h.s)
    exact hK _ _ _ _ _ _ _ (h.globalBox hv ty) (RepT.of (by simp only [Rep])) (fun _ _ => rfl) k
  · have k := forceL_iff.1 k
    exact hK _ _ _ _ (.lptr _ 0) _ _ (h.localBox hv ty) (show ∃ b, _ ∧ _ from ⟨w.heap.size, if_pos rfl, rfl⟩) (fun id hid => if_neg (Nat.ne_of_lt hid)) k

theorem bin_sound {B : Nat} {op : BinOp} {x y : V} {cx cy : Value} {K : V → Prop} (h1 : RepT I β x cx) (h2 : RepT I β y cy) (t : TypeId) (ox oy : Operand) (k : bin op x y K) :
    ∃ v c, (do eqGuard op t ox oy cx cy; binOp op t cx cy : Sem Value).run P w = .ok c w ∧ Rep I v c ∧ K v := by
  have guardOk : ∀ {cx cy : Value}, ((∃ k n, cx = .int k n) ∨ (∃ s, cx = .string s)) → (eqGuard op t ox oy cx cy).run P w = .ok () w := by
    intro cx cy h
    rcases h with ⟨k, n, rfl⟩ | ⟨s, rfl⟩ <;> (unfold eqGuard; cases op <;> rfl)
  unfold bin at k
  split at k
  · rename_i ka na kb nb
    have e1 : cx = .int ka na := by have := h1; simpa only [RepT, Rep] using this
    have e2 : cy = .int kb nb := by have := h2; simpa only [RepT, Rep] using this
    subst e1; subst e2
    have k' : chk (decide (ka = kb)) _ := k
    rw [chk_iff] at k'
    obtain ⟨hk, k'⟩ := k'
    clear k
    have hk := of_decide_eq_true hk
    subst hk
    revert k'
    intro k
    simp only [Sem.run_bind, guardOk (.inl ⟨_, _, rfl⟩), Result.andThen_ok]
    have bc : ∀ {b : Bool} {K : V → Prop}, bcase b (K (.bool true)) (K (.bool false)) → K (.bool b) := fun {b K} h => by cases b <;> first | exact bcase_false_iff.1 h | exact bcase_true_iff.1 h
    have bcn : ∀ {b : Bool} {K : V → Prop}, bcase b (K (.bool false)) (K (.bool true)) → K (.bool (!b)) := fun {b K} h => by cases b <;> first | exact bcase_false_iff.1 h | exact bcase_true_iff.1 h
    cases op
    case add => obtain ⟨r, rfl, k⟩ := k; exact ⟨_, _, by simp [binOp, Op.intArith]; rfl, by simp only [Rep], k⟩
    case sub => obtain ⟨r, rfl, k⟩ := k; exact ⟨_, _, by simp [binOp, Op.intArith]; rfl, by simp only [Rep], k⟩
    case mul => obtain ⟨r, rfl, k⟩ := k; exact ⟨_, _, by simp [binOp, Op.intArith]; rfl, by simp only [Rep], k⟩
    case quo => obtain ⟨hb, r, rfl, k⟩ := k; exact ⟨_, _, by simp [binOp, Op.intDiv, hb]; rfl, by simp only [Rep], k⟩
    case rem => obtain ⟨hb, k⟩ := k; exact ⟨_, _, by simp [binOp, Op.intDiv, hb]; rfl, by simp only [Rep], k⟩
    case eql => exact ⟨_, _, by simp [binOp, Op.intCmp]; rfl, by simp only [Rep], bc (K := K) k⟩
    case neq => exact ⟨_, _, by simp [binOp, Op.intCmp, bne]; rfl, by simp only [Rep], bcn (K := K) k⟩
    case lss => exact ⟨_, _, by simp [binOp, Op.intCmp]; rfl, by simp only [Rep], bc (K := K) k⟩
    case leq => exact ⟨_, _, by simp [binOp, Op.intCmp]; rfl, by simp only [Rep], bc (K := K) k⟩
    case gtr => exact ⟨_, _, by simp [binOp, Op.intCmp]; rfl, by simp only [Rep], bc (K := K) k⟩
    case geq => exact ⟨_, _, by simp [binOp, Op.intCmp]; rfl, by simp only [Rep], bc (K := K) k⟩
    all_goals exact k.elim
  · rename_i sa sb
    have e1 : cx = .string ⟨sa.toArray⟩ ∧ sa.length < lim := by have := h1; simpa only [RepT, Rep] using this
    have e2 : cy = .string ⟨sb.toArray⟩ ∧ sb.length < lim := by have := h2; simpa only [RepT, Rep] using this
    obtain ⟨rfl, l1⟩ := e1
    obtain ⟨rfl, l2⟩ := e2
    simp only [Sem.run_bind, guardOk (.inr ⟨_, rfl⟩), Result.andThen_ok]
    have bc : ∀ {b : Bool} {K : V → Prop}, bcase b (K (.bool true)) (K (.bool false)) → K (.bool b) := fun {b K} h => by cases b <;> first | exact bcase_false_iff.1 h | exact bcase_true_iff.1 h
    have bcn : ∀ {b : Bool} {K : V → Prop}, bcase b (K (.bool false)) (K (.bool true)) → K (.bool (!b)) := fun {b K} h => by cases b <;> first | exact bcase_false_iff.1 h | exact bcase_true_iff.1 h
    have hl : ∀ s : List UInt8, (⟨s.toArray⟩ : ByteArray).toList = s := fun s => ByteArray.toList_mk s
    cases op
    case add =>
      obtain ⟨hlen, k⟩ := k
      refine ⟨_, .string (⟨sa.toArray⟩ ++ ⟨sb.toArray⟩), ?_, ?_, k⟩
      · have : ¬ ((9223372036854775807 : Int) < ((sa.length + sb.length : Nat) : Int)) := by simp only [lim] at hlen; omega
        have hs : (⟨sa.toArray⟩ : ByteArray).size + (⟨sb.toArray⟩ : ByteArray).size = sa.length + sb.length := by
          show sa.toArray.size + sb.toArray.size = _
          simp
        have hm : IntKind.i64.max = 9223372036854775807 := by decide
        simp only [binOp, Op.stringOp, hs]
        rw [hm, if_neg this]
        rfl
      · simp only [Rep]
        refine ⟨?_, by simpa using hlen⟩
        congr 1
    case eql => exact ⟨_, _, by simp only [binOp, Op.stringOp, hl]; rfl, by simp only [Rep], bc (K := K) k⟩
    case neq => exact ⟨_, _, by simp only [binOp, Op.stringOp, hl]; rfl, by simp only [Rep], bcn (K := K) k⟩
    all_goals exact k.elim
  · exact k.elim
end
end Go.Aw
