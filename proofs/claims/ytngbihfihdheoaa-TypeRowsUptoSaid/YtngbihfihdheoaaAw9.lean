/-
  AW, PART 9. All operations; regions; code; the body of a call.
-/
import Derived.Test.YtngbihfihdheoaaAw8
import Derived.ScopeJumps
set_option linter.unusedVariables false
set_option linter.unusedSimpArgs false
namespace Go.Aw
open Go

section
variable {D : List Deferred} {P : Program} {T : List (Nat × Ty)} {C : FuncId → List V → St → (Res → St → Prop) → Prop} {I0 I : Mem} {st0 st : St} {w0 w : World} {β : Nat → Option Nat} {env : Env} {a : Act}
variable {o : Oper} {K : V → Env → St → Prop} {Q : AExit → Env → St → Prop} {next : Act → World → Prop} {Qc : Exit → Act → World → Prop}

theorem sound_len {c : Call} (hT : TOk P T) (hK : Takes D I0 st0 w0 β env.nxt a o.dst next K) (h : Rel D I0 st0 w0 I β env st a w) (ho : o.op = .call c) (hc : c.callee = .builtin .len)
    (k : match c.args.toList.map env.eval, c.argTypes.toList.map (assoc T) with
      | [.slice _ es _], [some (.slice _ _ _)] => ∀ m : Nat, m = es.length → m < lim → K (.int .i64 m) env st
      | [.str s], [some (.sc (.str _))] => s.length < lim → K (.int .i64 s.length) env st
      | _, _ => False) : o.wp P a w next Qc := by
  obtain ⟨callee, args, argTypes⟩ := c
  simp only at hc k
  subst hc
  split at k
  · rename_i sz es own el sz' by' hx ht
    obtain ⟨xl⟩ := args
    obtain ⟨tl⟩ := argTypes
    simp only at hx ht
    cases xl with
    | nil => cases hx
    | cons x xr =>
      cases xr with
      | cons _ _ => simp at hx
      | nil =>
        cases tl with
        | nil => cases ht
        | cons t tr =>
          cases tr with
          | cons _ _ => simp at ht
          | nil =>
            simp only [List.map_cons, List.map_nil, List.cons.injEq, and_true] at hx ht
            have hv := h.f.eval x
            rw [hx] at hv
            obtain ⟨ad, cap, e1, e2, e3, _⟩ := rep_slice hv
            obtain ⟨i0, j, c, g1, g2, _⟩ := hT t _ ht
            refine op_value hK (c := .int .i64 es.length) (w' := w) ?_ h (RepT.of (by simp only [Rep])) (k _ rfl e3)
            simp [execOp, ho, resolve, invoke, builtin, Builtin.len_, e1, run_underlying' g2, goInt]
  · rename_i s z hx ht
    obtain ⟨xl⟩ := args
    obtain ⟨tl⟩ := argTypes
    simp only at hx ht
    cases xl with
    | nil => cases hx
    | cons x xr =>
      cases xr with
      | cons _ _ => simp at hx
      | nil =>
        cases tl with
        | nil => cases ht
        | cons t tr =>
          cases tr with
          | cons _ _ => simp at ht
          | nil =>
            simp only [List.map_cons, List.map_nil, List.cons.injEq, and_true] at hx ht
            have hv := h.f.eval x
            rw [hx] at hv
            obtain ⟨e1, e3⟩ := rep_str hv
            obtain ⟨i0, d, c, g1, g2, g3, g4, g5, g6, g7, g8, g9, g10⟩ := hT t _ ht
            simp only at g10
            subst g10
            refine op_value hK (c := .int .i64 s.length) (w' := w) ?_ h (RepT.of (by simp only [Rep])) (k e3)
            have hs : (⟨s.toArray⟩ : ByteArray).size = s.length := by show s.toArray.size = _; simp
            simp [execOp, ho, resolve, invoke, builtin, Builtin.len_, e1, run_underlying' g2, goInt, hs]
  · exact k.elim

/-- a function of the program that has a body, and is no row of the model's own -/
def Plain (P : Program) (f : FuncId) : Prop := ∃ fn, P.funcs[f]? = some fn ∧ fn.body.isSome = true ∧ (fn.name == "runtime.NumGoroutine") = false

theorem sound_call {c : Call} {f : Operand} (hT : TOk P T) (hC : ∀ f args st R, C f args st R → ACalls P f args st R ∧ Plain P f) (hK : Takes D I0 st0 w0 β env.nxt a o.dst next K) (h : Rel D I0 st0 w0 I β env st a w) (ho : o.op = .call c) (hc : c.callee = .value f)
    (k : match env.eval f with
      | .func f a cap => evsT T env c.argTypes.toList c.args.toList fun vs => forceL (a ++ (vs ++ cap)) fun vs => C f vs st fun r st' => match r with
        | .ret v => v.back fun v => K v env st'
        | .pan v => Q (.pan v) env st'
      | _ => False) : o.wp P a w next (liftQ D I0 st0 w0 Q) := by
  have hf := h.f.eval f
  split at k
  · rename_i fid fa cap he
    rw [he] at hf
    have hf' : Rep I (.func fid fa cap) (a.eval f) := hf
    simp only [Rep] at hf'
    obtain ⟨as, cs, e, h1, h2⟩ := hf'
    obtain ⟨vs, h3, k⟩ := evsT_sound hT h.f k
    have k := forceL_iff.1 k
    obtain ⟨hcall, fn, p1, p2, p3⟩ := hC _ _ _ _ k
    have hcall := hcall I w (as ++ (c.args.toList.map a.eval ++ cs)) h.s (RepL.append h1 (RepL.append h3 h2))
    have harr : (as ++ (c.args.toList.map a.eval ++ cs)).toArray = as.toArray ++ (c.args.map a.eval) ++ cs.toArray := by
      apply Array.ext'; simp
    rw [harr] at hcall
    have hrun : (execOp a.eval o).run P w = .ok (.enter fid (as.toArray ++ (c.args.map a.eval) ++ cs.toArray)) w := by
      have hb : fn.body.isNone = false := by cases hb : fn.body <;> simp_all
      simp only [execOp, ho, resolve, hc, e, Deferred.ofValue, Sem.run_bind, Sem.run_pure, Result.andThen_ok, invoke, callFunc, run_program, p1]
      rw [p3]
      simp [hb]
    unfold Oper.wp
    rw [hrun]
    refine hcall.mono fun e w' ⟨I1, st1, r, q1, q2, q3, q4⟩ => ?_
    have h' := h.called q1 q2
    cases e with
    | returned v =>
      cases r with
      | ret r => exact hK _ _ _ _ _ _ _ h' (RepT.of q3) (fun _ _ => rfl) (V.back_iff.1 q4)
      | pan r => exact q3.elim
    | panicked chain =>
      cases r with
      | ret r => exact q3.elim
      | pan r => exact ⟨I1, β, env, st1, .pan r, h', q3, q4⟩
    | outgrown => cases r <;> exact q3.elim
  · exact k.elim


theorem bc_true {b : Bool} {K : V → Prop} (h : bcase b (K (.bool true)) (K (.bool false))) : K (.bool b) := by
  cases b <;> first | exact bcase_false_iff.1 h | exact bcase_true_iff.1 h
theorem bc_not {b : Bool} {K : V → Prop} (h : bcase b (K (.bool false)) (K (.bool true))) : K (.bool (!b)) := by
  cases b <;> first | exact bcase_false_iff.1 h | exact bcase_true_iff.1 h

/-- cell by cell, on the machine -/
theorem eqsB_sound {P : Program} {w : World} {d : Nat} : ∀ {z xs ys : List V} {cx cy : List Value} {b : Bool} {fs : List Field} {k : Nat} {px py : List Value}, eqsB z xs ys = some b → RepL I xs cx → RepL I ys cy → px.length = k → py.length = k →
    fs.length = z.length → (∀ (i : Nat) (f : Field) (v : V), fs[i]? = some f → z[i]? = some v → f.name ≠ "_" ∧ f.offset = k + i ∧ P.plainKey f.type = true ∧ match v, P.underlying f.type with
      | .int _ _, some (.int _) => True
      | .str _, some .string => True
      | .bool _, some .bool => True
      | _, _ => False) →
    (Op.eqFields (d + 1) (px ++ cx).toArray (py ++ cy).toArray fs).run P w = .ok b w
  | [], xs, ys, cx, cy, b, fs, k, px, py, h, h1, h2, hx, hy, hl, hf => by
    have : fs = [] := List.eq_nil_of_length_eq_zero (by simpa using hl)
    subst this
    cases xs with
    | cons _ _ => cases h
    | nil =>
      cases ys with
      | cons _ _ => cases h
      | nil =>
        have : b = true := by
          have h : some true = some b := h
          cases h; rfl
        subst this
        rfl
  | z0 :: zr, xs, ys, cx, cy, b, fs, k, px, py, h, h1, h2, hx, hy, hl, hf => by
    cases fs with
    | nil => simp at hl
    | cons f fr =>
      rw [eqsB_cons] at h
      split at h
      · rename_i x xr y yr
        simp only [RepL] at h1 h2
        obtain ⟨c1, s1, rfl, r1, t1⟩ := h1
        obtain ⟨c2, s2, rfl, r2, t2⟩ := h2
        split at h
        · rename_i a a' ha ha'
          cases h
          obtain ⟨g1, g2, g3, g4⟩ := hf 0 f z0 rfl rfl
          rw [Nat.add_zero] at g2
          have p1 : (part f.type (px ++ c1 :: s1).toArray f.offset).run P w = .ok c1 w := run_part_plain _ g3 (by rw [g2]; simp [hx])
          have p2 : (part f.type (py ++ c2 :: s2).toArray f.offset).run P w = .ok c2 w := run_part_plain _ g3 (by rw [g2]; simp [hy])
          have pe : (Op.equalIn (d + 1) f.type c1 c2).run P w = .ok a w := by
            unfold cellB at ha
            split at ha
            · simp only [Rep] at r1 r2
              subst r1; subst r2
              obtain ⟨k0, hu⟩ : ∃ k0, P.underlying f.type = some (.int k0) := by
                cases hu : P.underlying f.type with
                | none => rw [hu] at g4; exact g4.elim
                | some u => rw [hu] at g4; cases u <;> first | exact g4.elim | exact ⟨_, rfl⟩
              rename_i k1 a1 k2 b1
              by_cases hk : k1 = k2
              · subst hk
                simp only [decide_true, cond_true, Option.some.injEq] at ha
                subst ha
                exact run_equalIn_int w d f.type _ _ _ _ hu
              · simp [hk] at ha
            · simp only [Rep] at r1 r2
              obtain ⟨rfl, _⟩ := r1
              obtain ⟨rfl, _⟩ := r2
              have hu : P.underlying f.type = some .string := by
                cases hu : P.underlying f.type with
                | none => rw [hu] at g4; exact g4.elim
                | some u => rw [hu] at g4; cases u <;> first | exact g4.elim | rfl
              cases ha
              rw [run_equalIn_string w d f.type _ _ hu]
              congr 1
              rw [ByteArray.toList_eq, ByteArray.toList_eq]
            · simp only [Rep] at r1 r2
              subst r1; subst r2
              have hu : P.underlying f.type = some .bool := by
                cases hu : P.underlying f.type with
                | none => rw [hu] at g4; exact g4.elim
                | some u => rw [hu] at g4; cases u <;> first | exact g4.elim | rfl
              cases ha
              exact run_equalIn_bool w d f.type _ _ hu
            · cases ha
          have ih := eqsB_sound (P := P) (w := w) (d := d) (fs := fr) (k := k + 1) (px := px ++ [c1]) (py := py ++ [c2]) ha' t1 t2 (by simp [hx]) (by simp [hy]) (by simpa using hl) (fun i f' v e1 e2 => by
            obtain ⟨q1, q2, q3, q4⟩ := hf (i + 1) f' v (by simpa using e1) (by simpa using e2)
            exact ⟨q1, by omega, q3, q4⟩)
          simp only [Op.eqFields, ne_eq, g1, not_false_eq_true, if_true, Sem.run_bind, p1, p2, pe, Result.andThen_ok]
          cases a with
          | false => simp
          | true =>
            simp only [Bool.not_true, Bool.false_eq_true, if_false, Bool.true_and]
            simpa using ih
        · cases h
      · cases h

theorem aggCmp_sound {op : BinOp} {t : TypeId} {xs : List V} {y : V} {cx cy : Value} {K : V → Prop} (hT : TOk P T) (h1 : RepT I β (.agg xs) cx) (h2 : RepT I β y cy) (ox oy : Operand) (k : aggCmp op (assoc T t) xs y K) :
    ∃ v c, (do eqGuard op t ox oy cx cy; binOp op t cx cy : Sem Value).run P w = .ok c w ∧ Rep I v c ∧ K v := by
  unfold aggCmp at k
  split at k
  · rename_i offs z ys ht
    obtain ⟨hfl, k⟩ := chk_iff.1 k
    split at k
    · rename_i b hb
      obtain ⟨i0, fields, zs, g1, g2, g3, g4, g5, g6, g7, g8⟩ := hT t _ ht
      have he := g8 hfl
      unfold eqOkB at he
      rw [g2] at he
      simp only [Bool.and_eq_true, Bool.not_eq_true', List.all_eq_true, List.mem_range, beq_iff_eq] at he
      obtain ⟨⟨e1, e2⟩, e3, e4⟩ := he
      have h1 : Rep I (.agg xs) cx := h1
      have h2 : Rep I (.agg ys) cy := h2
      simp only [Rep] at h1 h2
      obtain ⟨vx, rfl, r1⟩ := h1
      obtain ⟨vy, rfl, r2⟩ := h2
      have hfo : P.underlying t = some (.struct (P.fieldsOf t)) := by rw [g2]; simp [Program.fieldsOf, g2]
      have hft : P.fieldsOf t = fields := by simp [Program.fieldsOf, g2]
      have key : (Op.eqFields 9999 ([] ++ vx).toArray ([] ++ vy).toArray fields.toList).run P w = .ok b w := eqsB_sound (d := 9998) (k := 0) hb r1 r2 rfl rfl (by simpa using e3) (fun i f v q1 q2 => by
        have hi : i < z.length := (List.getElem?_eq_some_iff.1 q2).1
        have := e4 i hi
        rw [q1, q2] at this
        simp only [Bool.and_eq_true, bne_iff_ne, beq_iff_eq] at this
        obtain ⟨⟨⟨w1, w2⟩, w3⟩, w4⟩ := this
        refine ⟨w1, by omega, w3, ?_⟩
        revert w4
        rcases P.underlying f.type with _ | u
        · cases v <;> simp
        · cases v <;> cases u <;> simp)
      rw [List.nil_append, List.nil_append] at key
      have heq : (Op.equalIn 10000 t (.agg vx.toArray) (.agg vy.toArray)).run P w = .ok b w := by
        rw [run_equalIn_struct w 9999 t _ _ hfo e1, hft]; exact key
      have hg := run_eqGuard_agg (P := P) w op t ox oy vx.toArray vy.toArray e2
      cases op <;> try exact k.elim
      case eql => exact ⟨.bool b, .bool b, by simp only [Sem.run_bind, hg, Result.andThen_ok, run_eql_struct, heq], by simp only [Rep], bc_true (K := K) k⟩
      case neq => exact ⟨.bool (!b), .bool (!b), by simp only [Sem.run_bind, hg, Result.andThen_ok, run_neq_struct, heq], by simp only [Rep], bc_not (K := K) k⟩
    · exact k.elim
  · exact k.elim
theorem run_eq_nil1 {d : Nat} {t u : TypeId} {ms : Array (String × TypeId)} {c : Value} (h : P.underlying t = some (.interface ms)) : (Op.equalIn (d + 1) t (.iface u c) .nilIface).run P w = .ok false w := by
  simp [Op.equalIn, run_underlying' h]
theorem run_eq_nil2 {d : Nat} {t : TypeId} {ms : Array (String × TypeId)} (h : P.underlying t = some (.interface ms)) : (Op.equalIn (d + 1) t .nilIface .nilIface).run P w = .ok true w := by
  simp [Op.equalIn, run_underlying' h]
theorem run_eql_nil {t : TypeId} {c : Value} (hc : c = .nilIface ∨ ∃ u x, c = .iface u x) : (binOp .eql t c .nilIface).run P w = ((Op.equalIn 10000 t c .nilIface).run P w).andThen fun b w' => .ok (.bool b) w' := by
  rcases hc with rfl | ⟨u, x, rfl⟩ <;> (simp only [binOp]; simp [Op.equal, Op.maxDepth])
theorem run_neq_nil {t : TypeId} {c : Value} (hc : c = .nilIface ∨ ∃ u x, c = .iface u x) : (binOp .neq t c .nilIface).run P w = ((Op.equalIn 10000 t c .nilIface).run P w).andThen fun b w' => .ok (.bool (!b)) w' := by
  rcases hc with rfl | ⟨u, x, rfl⟩ <;> (simp only [binOp]; simp [Op.equal, Op.maxDepth])
theorem nilCmp_sound {op : BinOp} {t : TypeId} {v : V} {cx : Value} {K : V → Prop} (hT : TOk P T) (h1 : RepT I β v cx) (ox : Operand) (k : nilCmp op (assoc T t) v K) :
    ∃ v c, (do eqGuard op t ox (.const .nilIface) cx .nilIface; binOp op t cx .nilIface : Sem Value).run P w = .ok c w ∧ Rep I v c ∧ K v := by
  have guard : ∀ {c : Value}, (c = .nilIface ∨ ∃ u x, c = .iface u x) → (eqGuard op t ox (.const .nilIface) c .nilIface).run P w = .ok () w := by
    rintro c (rfl | ⟨u, x, rfl⟩)
    · cases op <;> simp [eqGuard]
    · cases op <;> simp [eqGuard]
  unfold nilCmp at k
  split at k
  · rename_i ht
    obtain ⟨i0, d, c, g1, g2, g3, g4, g5, g6, g7, g8, g9, ms, g10⟩ := hT t _ ht
    subst g10
    split at k
    · have h1 : cx = .nilIface := by have := h1; simpa only [RepT, Rep] using this
      subst h1
      exact ⟨.bool true, .bool true, by simp only [Sem.run_bind, guard (.inl rfl), Result.andThen_ok, run_eql_nil (.inl rfl), run_eq_nil2 (d := 9999) g2], by simp only [Rep], k⟩
    · rename_i t' v'
      have h1 : Rep I (.iface t' v') cx := h1
      simp only [Rep] at h1
      obtain ⟨c', rfl, _⟩ := h1
      exact ⟨.bool false, .bool false, by simp only [Sem.run_bind, guard (.inr ⟨_, _, rfl⟩), Result.andThen_ok, run_eql_nil (.inr ⟨_, _, rfl⟩), run_eq_nil1 (d := 9999) g2], by simp only [Rep], k⟩
    · have h1 : cx = .nilIface := by have := h1; simpa only [RepT, Rep] using this
      subst h1
      exact ⟨.bool false, .bool false, by simp only [Sem.run_bind, guard (.inl rfl), Result.andThen_ok, run_neq_nil (.inl rfl), run_eq_nil2 (d := 9999) g2, Bool.not_true], by simp only [Rep], k⟩
    · rename_i t' v'
      have h1 : Rep I (.iface t' v') cx := h1
      simp only [Rep] at h1
      obtain ⟨c', rfl, _⟩ := h1
      exact ⟨.bool true, .bool true, by simp only [Sem.run_bind, guard (.inr ⟨_, _, rfl⟩), Result.andThen_ok, run_neq_nil (.inr ⟨_, _, rfl⟩), run_eq_nil1 (d := 9999) g2, Bool.not_false], by simp only [Rep], k⟩
    · exact k.elim
  · exact k.elim
theorem run_sl_nil1 {d n m : Nat} {t e : TypeId} {ad : Addr} (h : P.underlying t = some (.slice e)) : (Op.equalIn (d + 1) t (.slice (some ad) n m) (.slice none 0 0)).run P w = .ok false w := by
  simp [Op.equalIn, run_underlying' h]
theorem run_sl_nil2 {d n m : Nat} {t e : TypeId} (h : P.underlying t = some (.slice e)) : (Op.equalIn (d + 1) t (.slice none n m) (.slice none 0 0)).run P w = .ok true w := by
  simp [Op.equalIn, run_underlying' h]
theorem nilSl_sound {op : BinOp} {t : TypeId} {v : V} {cx : Value} {K : V → Prop} (hT : TOk P T) (h1 : RepT I β v cx) (ox : Operand) (k : nilSl op (assoc T t) v K) :
    ∃ v c, (do eqGuard op t ox (.const (.slice none 0 0)) cx (.slice none 0 0); binOp op t cx (.slice none 0 0) : Sem Value).run P w = .ok c w ∧ Rep I v c ∧ K v := by
  unfold nilSl at k
  split at k
  · rename_i e sz bs ht
    obtain ⟨i0, j0, c0, g1, g2, _⟩ := hT t _ ht
    have main : ∀ {sz es own}, Rep I (.slice sz es own) cx → ∃ b : Bool, (b = true → es = []) ∧ (Op.equalIn 10000 t cx (.slice none 0 0)).run P w = .ok b w ∧ (∃ a n m, cx = .slice a n m) := by
      intro sz es own h
      simp only [Rep] at h
      obtain ⟨ad, cap, rfl, q1, q2, q3, q4, q5⟩ := h
      cases ad with
      | none =>
        refine ⟨true, fun _ => ?_, run_sl_nil2 (d := 9999) g2, _, _, _, rfl⟩
        have : cap = 0 := q5
        exact List.length_eq_zero_iff.1 (by omega)
      | some ad => exact ⟨false, (fun x => by cases x), run_sl_nil1 (d := 9999) g2, _, _, _, rfl⟩
    split at k
    · rename_i es own
      obtain ⟨b, q1, q2, a, n, m, rfl⟩ := main (show Rep I (.slice _ _ _) cx from h1)
      refine ⟨.bool b, .bool b, ?_, by simp only [Rep], k b q1⟩
      simp only [Sem.run_bind, eqGuard, binOp, Op.equal, Op.maxDepth, Sem.run_pure, Result.andThen_ok]
      simp [q2]
    · rename_i es own
      obtain ⟨b, q1, q2, a, n, m, rfl⟩ := main (show Rep I (.slice _ _ _) cx from h1)
      refine ⟨.bool (!b), .bool (!b), ?_, by simp only [Rep], k (!b) (fun x => q1 (by cases b <;> simp_all))⟩
      simp only [Sem.run_bind, eqGuard, binOp, Op.equal, Op.maxDepth, Sem.run_pure, Result.andThen_ok]
      simp [q2]
    · exact k.elim
  · exact k.elim
theorem isNilIface_eq {y : Operand} (h : isNilIface y = true) : y = .const .nilIface := by
  unfold isNilIface at h
  split at h
  · rfl
  · cases h
theorem sound_bin {op : BinOp} {t u : TypeId} {x y : Operand} (hT : TOk P T) (hK : Takes D I0 st0 w0 β env.nxt a o.dst next K) (h : Rel D I0 st0 w0 I β env st a w) (ho : o.op = .binOp op t x y u)
    (k : match isNilIface y with
    | true => nilCmp op (assoc T t) (env.eval x) fun v => K v env st
    | false => match isNilSlice y with
      | true => nilSl op (assoc T t) (env.eval x) fun v => K v env st
      | false => binT op (assoc T t) (env.eval x) (env.eval y) fun v => K v env st) : o.wp P a w next Qc := by
  have fin : (∃ v c, (do eqGuard op t x y (a.eval x) (a.eval y); binOp op t (a.eval x) (a.eval y) : Sem Value).run P w = .ok c w ∧ Rep I v c ∧ K v env st) → o.wp P a w next Qc := by
    rintro ⟨v, c, h1, h2, h3⟩
    refine op_value hK (c := c) (w' := w) ?_ h (RepT.of h2) h3
    simp only [execOp, ho, Sem.run_bind] at h1 ⊢
    rw [h1]; rfl
  split at k
  · rename_i hy
    have hy := isNilIface_eq hy
    subst hy
    exact fin (nilCmp_sound hT (h.f.eval x) x k)
  split at k
  · rename_i hy
    have hy := isNilSlice_eq hy
    subst hy
    exact fin (nilSl_sound hT (h.f.eval x) x k)
  · unfold binT at k
    split at k
    · rename_i xs hx
      have hx' := h.f.eval x
      rw [hx] at hx'
      exact fin (aggCmp_sound hT hx' (h.f.eval y) x y k)
    · exact fin (bin_sound (B := 0) (h.f.eval x) (h.f.eval y) t x y k)
/-- a type whose row is no interface's -/
theorem not_iface {t : TypeId} {ty : Ty} (hT : TOk P T) (ht : assoc T t = some ty) (hn : ty ≠ .sc .nili) : ∃ (i : TypeInfo) (d : TypeDesc) (c : Value), P.info? t = some i ∧ P.underlying t = some d ∧ (∀ ms, d ≠ .interface ms) ∧ i.zero = some c ∧ Rep Mem.empty ty.zero c := by
  have hty := hT t ty ht
  cases ty with
  | struct offs z =>
    obtain ⟨i, fields, zs, h1, h2, h3, h4, h5, _⟩ := hty
    exact ⟨i, _, _, h1, h2, (fun ms e => by cases e), h4, by simp only [Ty.zero, Rep]; exact ⟨zs, rfl, h5⟩⟩
  | slice e sz b =>
    obtain ⟨i, j, c, h1, h2, h3, h4, h5, h6, h7, h8, _⟩ := hty
    exact ⟨i, _, _, h1, h2, (fun ms e => by cases e), h4, rep_nil h8 _ (.inl rfl)⟩
  | sc z =>
    obtain ⟨i, d, c, h1, h2, h3, h4, h5, h6, h7, h8, h9, h10⟩ := hty
    refine ⟨i, d, c, h1, h2, ?_, h5, h6⟩
    cases z with
    | nili => exact absurd rfl hn
    | str s => intro ms e; have h10 : d = .string := h10; rw [h10] at e; cases e
    | _ => exact h10
theorem sound_makeInterface {t : TypeId} {x : Operand} (hT : TOk P T) (hK : Takes D I0 st0 w0 β env.nxt a o.dst next K) (h : Rel D I0 st0 w0 I β env st a w) (ho : o.op = .makeInterface t x)
    (k : match assoc T t with
    | some (.sc .nili) => False
    | some _ => (env.evalT T t x).force fun v => chk v.known (K (.iface t v) env st)
    | none => False) : o.wp P a w next Qc := by
  split at k
  · exact k.elim
  · rename_i ty hn ht
    obtain ⟨hk, k⟩ := chk_iff.1 (V.force_iff.1 k)
    obtain ⟨i, d, c, h1, h2, h3, _⟩ := not_iface hT ht (fun e => hn (by rw [e]))
    have hv := (h.f.evalT hT t x).rep (known_plain hk)
    refine op_value hK (c := .iface t (a.eval x)) (w' := w) (v := .iface t (env.evalT T t x)) ?_ h (RepT.of (by simp only [Rep]; exact ⟨_, rfl, hv⟩)) k
    have : (underlying t).run P w = .ok d w := run_underlying' h2
    simp only [execOp, ho, Instr.makeInterface, Sem.run_bind, this, Result.andThen_ok]
    cases d <;> first | rfl | exact absurd rfl (h3 _)
  · exact k.elim

theorem sound_typeAssert {x : Operand} {t' t : TypeId} {ok : Bool} (hT : TOk P T) (hK : Takes D I0 st0 w0 β env.nxt a o.dst next K) (h : Rel D I0 st0 w0 I β env st a w) (ho : o.op = .typeAssert x t' t ok)
    (k : match assoc T t with
    | some (.sc .nili) => False
    | some ty => match env.eval x with
      | .iface t' v => bif Nat.beq t' t then chk v.known (bif ok then K (.tup [v, .bool true]) env st else v.force fun v => K v env st) else chk ok (K (.tup [ty.zero, .bool false]) env st)
      | .nili => chk ok (K (.tup [ty.zero, .bool false]) env st)
      | _ => False
    | none => False) : o.wp P a w next Qc := by
  split at k
  · exact k.elim
  · rename_i ty hn ht
    obtain ⟨i, d, c, h1, h2, h3, h4, h5⟩ := not_iface hT ht (fun e => hn (by rw [e]))
    have hu : (underlying t).run P w = .ok d w := run_underlying' h2
    have hx := h.f.eval x
    have fails : chk ok (K (.tup [ty.zero, .bool false]) env st) → ∀ st' dy m, (execOp a.eval o).run P w = (do let v ← (if ok then (do pure (.tuple #[← zeroValue t, .bool false]) : Sem Value) else runtimePanic (.typeAssertion st' dy t m)); pure (Next.value v) : Sem Next).run P w → o.wp P a w next Qc := by
      intro k st' dy m hr
      obtain ⟨hok, k⟩ := chk_iff.1 k
      subst hok
      refine op_value hK (c := .tuple #[c, .bool false]) (w' := w) (v := .tup [ty.zero, .bool false]) ?_ h (RepT.of ?_) k
      · rw [hr]
        simp only [if_true, Sem.run_bind, run_zeroValue' h1 h4, Result.andThen_ok, Sem.run_pure]
      · simp only [Rep, RepL]
        exact ⟨[c, .bool false], rfl, _, _, rfl, Rep.mono (Mem.empty_le I) _ _ h5, _, _, rfl, rfl, rfl⟩
    split at k
    · rename_i t'' v hv
      rw [hv] at hx
      have hx : Rep I (.iface t'' v) (a.eval x) := hx
      simp only [Rep] at hx
      obtain ⟨c', hc, hr⟩ := hx
      cases hb : Nat.beq t'' t with
      | true =>
        have := Nat.eq_of_beq_eq_true hb
        subst this
        rw [hb] at k
        obtain ⟨hk, k⟩ := chk_iff.1 k
        cases ok with
        | true =>
          refine op_value hK (c := .tuple #[c', .bool true]) (w' := w) (v := .tup [v, .bool true]) ?_ h (RepT.of ?_) k
          · simp only [execOp, ho, Instr.typeAssert, Sem.run_bind, hu, Result.andThen_ok, hc]
            cases d <;> first | exact absurd rfl (h3 _) | simp
          · simp only [Rep, RepL]
            exact ⟨[c', .bool true], rfl, _, _, rfl, hr, _, _, rfl, rfl, rfl⟩
        | false =>
          refine op_value hK (c := c') (w' := w) (v := v) ?_ h (RepT.of hr) (V.force_iff.1 (show v.force (fun v => K v env st) from k))
          simp only [execOp, ho, Instr.typeAssert, Sem.run_bind, hu, Result.andThen_ok, hc]
          cases d <;> first | exact absurd rfl (h3 _) | simp
      | false =>
        rw [hb] at k
        have hne : ¬ t'' = t := fun e => by subst e; rw [Nat.beq_refl] at hb; cases hb
        refine fails k (some t') (some t'') "" ?_
        simp only [execOp, ho, Instr.typeAssert, Sem.run_bind, hu, Result.andThen_ok, hc]
        cases d <;> first | exact absurd rfl (h3 _) | simp [hne]
    · rename_i hv
      rw [hv] at hx
      have hc : a.eval x = .nilIface := by have := hx; simpa only [RepT, Rep] using this
      refine fails k (some t') none "" ?_
      cases d <;> first | exact absurd rfl (h3 _) | simp [execOp, ho, Instr.typeAssert, hu, hc]
    · exact k.elim
  · exact k.elim
theorem sound_panic {x : Operand} (h : Rel D I0 st0 w0 I β env st a w) (ho : o.op = .panic x)
    (k : match env.eval x with
    | .iface t v => Q (.pan (.iface t v)) env st
    | _ => False) : o.wp P a w next (liftQ D I0 st0 w0 Q) := by
  split at k
  · rename_i t v hv
    have hx := h.f.eval x
    rw [hv] at hx
    have hx : Rep I (.iface t v) (a.eval x) := hx
    have hx' := hx
    simp only [Rep] at hx
    obtain ⟨c', hc, hr⟩ := hx
    unfold Oper.wp
    have : (execOp a.eval o).run P w = .halt (.panic (.iface t c')) w := by
      simp only [execOp, ho, Instr.panic, Sem.run_bind, hc]
      rfl
    rw [this]
    rw [hc] at hx'
    exact ⟨I, β, env, st, .pan (.iface t v), h, ⟨_, rfl, hx'⟩, k⟩
  · exact k.elim
theorem sound_min {c : Call} (hK : Takes D I0 st0 w0 β env.nxt a o.dst next K) (h : Rel D I0 st0 w0 I β env st a w) (ho : o.op = .call c)
    (k : (c.callee = .builtin .min ∧ match c.args.toList.map env.eval with
      | [.int k a, .int k' b] => chk (decide (k = k')) (∃ r, r = (if b < a then b else a) ∧ K (.int k r) env st)
      | _ => False) ∨ (c.callee = .builtin .max ∧ match c.args.toList.map env.eval with
      | [.int k a, .int k' b] => chk (decide (k = k')) (∃ r, r = (if a < b then b else a) ∧ K (.int k r) env st)
      | _ => False)) : o.wp P a w next Qc := by
  obtain ⟨callee, ⟨xl⟩, ⟨tl⟩⟩ := c
  simp only at k
  have two : ∀ {p q : V}, xl.map env.eval = [p, q] → ∃ x y, xl = [x, y] ∧ env.eval x = p ∧ env.eval y = q := by
    intro p q hx
    match xl, hx with
    | [x, y], hx =>
      simp only [List.map_cons, List.map_nil, List.cons.injEq, and_true] at hx
      exact ⟨x, y, rfl, hx.1, hx.2⟩
  rcases k with ⟨hc, k⟩ | ⟨hc, k⟩
  · subst hc
    split at k
    · rename_i k1 m k2 n hx
      obtain ⟨x, y, rfl, q1, q2⟩ := two hx
      obtain ⟨hk, r, rfl, k2⟩ := chk_iff.1 k
      have hk := of_decide_eq_true hk
      subst hk
      have e1 := h.f.eval x
      have e2 := h.f.eval y
      rw [q1] at e1
      rw [q2] at e2
      have e1 : a.eval x = .int k1 m := by have := e1; simpa only [RepT, Rep] using this
      have e2 : a.eval y = .int k1 n := by have := e2; simpa only [RepT, Rep] using this
      refine op_value hK (c := .int k1 (if n < m then n else m)) (w' := w) ?_ h (RepT.of (v := .int k1 _) (by simp only [Rep])) k2
      simp [execOp, ho, resolve, invoke, builtin, Builtin.min_, Builtin.min2, e1, e2]
    · exact k.elim
  · subst hc
    split at k
    · rename_i k1 m k2 n hx
      obtain ⟨x, y, rfl, q1, q2⟩ := two hx
      obtain ⟨hk, r, rfl, k2⟩ := chk_iff.1 k
      have hk := of_decide_eq_true hk
      subst hk
      have e1 := h.f.eval x
      have e2 := h.f.eval y
      rw [q1] at e1
      rw [q2] at e2
      have e1 : a.eval x = .int k1 m := by have := e1; simpa only [RepT, Rep] using this
      have e2 : a.eval y = .int k1 n := by have := e2; simpa only [RepT, Rep] using this
      refine op_value hK (c := .int k1 (if m < n then n else m)) (w' := w) ?_ h (RepT.of (v := .int k1 _) (by simp only [Rep])) k2
      simp [execOp, ho, resolve, invoke, builtin, Builtin.max_, Builtin.max2, e1, e2]
    · exact k.elim
theorem sound_slice3 {t : TypeId} {x hi mx : Operand} {lo : Option Operand} (hT : TOk P T) (hK : Takes D I0 st0 w0 β env.nxt a o.dst next K) (h : Rel D I0 st0 w0 I β env st a w) (ho : o.op = .slice t x lo (some hi) (some mx))
    (k : match assoc T t, env.eval x with
    | some (.slice _ sz' _), .slice sz es _ =>
      match (lo.map env.eval).getD (.int .i64 0), env.eval hi, env.eval mx with
      | .int _ l, .int _ h, .int _ m => chk (Nat.beq sz' sz) ((0 ≤ l ∧ l ≤ h ∧ h = m ∧ m ≤ es.length) ∧ ∀ es', es' = (es.take h.toNat).drop l.toNat → K (.slice sz es' .full) env st)
      | _, _, _ => False
    | _, _ => False) : o.wp P a w next Qc := by
  have hx := h.f.eval x
  split at k
  · rename_i el sz' by' sz es own ht hex
    rw [hex] at hx
    split at k
    · rename_i kl l kh hh km m hel heh hem
      obtain ⟨hsz, ⟨h0, h1, h2, h3⟩, k1⟩ := chk_iff.1 k
      clear k
      have k1 := k1 _ rfl
      subst h2
      have hsz := Nat.eq_of_beq_eq_true hsz
      subst hsz
      obtain ⟨ad, cap, e1, e2, e3, e4, e5, e6⟩ := rep_slice hx
      obtain ⟨i0, j, c, g1, g2, g3, g4, g5, g6, g7, g8, _⟩ := hT t _ ht
      have q1 := h.f.eval hi
      have q2 := h.f.eval mx
      rw [heh] at q1
      rw [hem] at q2
      have q1 : a.eval hi = .int kh hh := by have := q1; simpa only [RepT, Rep] using this
      have q2 : a.eval mx = .int km hh := by have := q2; simpa only [RepT, Rep] using this
      have hlo : ∀ x, lo = some x → a.eval x = .int kl l := fun x e => by
        subst e
        simp only [Option.map_some, Option.getD_some] at hel
        have := h.f.eval x
        rw [hel] at this
        exact rep_int this
      have b1 : ∀ code : BoundsCode, (Instr.sliceBound (.int km hh) cap code).run P w = .ok hh.toNat w := fun code => run_bound ⟨by omega, by omega⟩
      have b2 : ∀ code : BoundsCode, (Instr.sliceBound (.int kh hh) hh.toNat code).run P w = .ok hh.toNat w := fun code => run_bound ⟨by omega, by omega⟩
      have b3 : ∀ code : BoundsCode, (Instr.sliceBound (.int kl l) hh.toNat code).run P w = .ok l.toNat w := fun code => run_bound ⟨by omega, by omega⟩
      have hb : (Instr.sliceBounds true es.length cap (lo.map a.eval) (some (a.eval hi)) (some (a.eval mx))).run P w = .ok (l.toNat, hh.toNat, hh.toNat) w := by
        cases lo with
        | none =>
          simp only [Option.map_none, Option.getD_none, V.int.injEq] at hel
          obtain ⟨_, rfl⟩ := hel
          simp only [Instr.sliceBounds, Option.map_none, q1, q2, Sem.run_bind, Sem.run_pure, Result.andThen_ok, b1, b2]
          rfl
        | some x =>
          simp only [Instr.sliceBounds, Option.map_some, hlo x rfl, q1, q2, Sem.run_bind, Sem.run_pure, Result.andThen_ok, b1, b2, b3]
      have hlen : ((es.take hh.toNat).drop l.toNat).length = hh.toNat - l.toNat := by simp; omega
      refine op_value hK (c := .slice (if hh.toNat = l.toNat then ad else ad.map (·.add (l.toNat * sz'))) (hh.toNat - l.toNat) (hh.toNat - l.toNat)) (w' := w) ?_ h (RepT.of ?_) k1
      · have hu : (underlying t).run P w = .ok (.slice el) w := run_underlying' g2
        simp only [execOp, ho, Instr.sliceAt, Option.map_some, Sem.run_bind, hu, Result.andThen_ok, Instr.slice, e1, hb, run_sizeOf' g5, g6, Sem.run_pure]
      · simp only [Rep]
        refine ⟨_, hh.toNat - l.toNat, by rw [hlen], by rw [hlen]; omega, by rw [hlen]; omega, e4, by rw [hlen]; rfl, ?_⟩
        cases ad with
        | none =>
          simp only at e6
          have z1 : hh.toNat = 0 := by omega
          simp [z1]
        | some ad =>
          simp only at e6
          obtain ⟨s1, s2⟩ := e6
          split
          · rename_i hc
            split at hc
            · cases hc
            · cases hc
          · rename_i ad' hc
            split at hc
            · rename_i hcap
              injection hc with hc
              subst hc
              refine ⟨.inl (by omega), ?_⟩
              have : (es.take hh.toNat).drop l.toNat = [] := List.eq_nil_of_length_eq_zero (by rw [hlen]; omega)
              rw [this]; simp only [RepE]
            · simp only [Option.map_some, Option.some.injEq] at hc
              subst hc
              rename_i hne
              obtain ⟨b, off, spot⟩ := ad
              obtain rfl : spot = none := s1.resolve_left (by omega)
              rw [add_lit']
              exact ⟨.inr rfl, RepE.drop _ (RepE.take _ s2)⟩
    · exact k.elim
  · exact k.elim

/-- each operation does what is asked -/
theorem op_sound (hT : TOk P T) (hC : ∀ f args st R, C f args st R → ACalls P f args st R ∧ Plain P f) (hK : Takes D I0 st0 w0 β env.nxt a o.dst next K) (h : Rel D I0 st0 w0 I β env st a w)
    (k : opWp T C o env st K Q) : o.wp P a w next (liftQ D I0 st0 w0 Q) := by
  cases ho : o.op <;> simp only [opWp, ho] at k <;> try exact k.elim
  case move x => exact sound_move hT hK h (.inl ho) k
  case assign x => exact sound_move hT hK h (.inr ho) k
  case pick c x y => exact sound_pick hT hK h ho k
  case alloc t => exact sound_alloc hT hK h ho k
  case box t x => exact sound_box hT hK h ho k
  case build t ps => exact sound_build hT hK h ho k
  case buildSlice t n ps => exact sound_buildSlice hT hK h ho k
  case load t x => exact sound_load hT hK h ho k
  case store t x y => exact sound_store hT hK h ho k
  case nilCheck x => exact sound_nilCheck hK h ho k
  case binOp op t x y u => exact sound_bin hT hK h ho k
  case makeInterface t x => exact sound_makeInterface hT hK h ho k
  case typeAssert x t' t ok => exact sound_typeAssert hT hK h ho k
  case panic x => exact sound_panic h ho k
  case unOp op t x => exact sound_unOp hK h k ho
  case makeFunc fn first cap =>
    cases fn with
    | func f => exact sound_makeFunc hK h ho k
    | _ => exact k.elim
  case slice t x lo hi mx =>
    cases mx with
    | none => exact sound_slice hT hK h ho (by cases hi <;> exact k)
    | some mx =>
      cases hi with
      | none => exact k.elim
      | some hi => exact sound_slice3 hT hK h ho k
  case fieldAddr t x f => exact sound_fieldAddr hT hK h ho k
  case indexAddr t x i => exact sound_indexAddr hT hK h ho k
  case index t x i => exact sound_index hT hK h ho k
  case extract x i => exact sound_extract hK h ho k
  case call c =>
    cases hc : c.callee with
    | value f => rw [hc] at k; exact sound_call hT hC hK h ho hc k
    | invoke r m => rw [hc] at k; exact k.elim
    | builtin b =>
      rw [hc] at k
      cases b
      case len => exact sound_len hT hK h ho hc k
      case min => exact sound_min hK h ho (.inl ⟨hc, k⟩)
      case max => exact sound_min hK h ho (.inr ⟨hc, k⟩)
      case append =>
        obtain ⟨callee, ⟨xl⟩, ⟨tl⟩⟩ := c
        simp only at hc k
        subst hc
        split at k
        · rename_i x y t u
          refine sound_append (ty := o.type) hT hK h (fun c w' e => ?_) k
          simp [execOp, ho, resolve, invoke, builtin, e]
        · exact k.elim
      all_goals exact k.elim

theorem env_go_sound {v : V} {c : Value} {K : Env → Prop} {d : Option Tmp} (h : Rel D I0 st0 w0 I β env st a w) (hv : RepT I β v c) (k : env.go d v K) : ∃ env', Rel D I0 st0 w0 I β env' st (a.put d c) w ∧ K env' := by
  unfold Env.go at k
  split at k
  · obtain ⟨h1, k⟩ := chk_iff.1 k
    exact ⟨_, h.put hv (by simpa [Nat.blt_eq] using h1), k⟩
  · exact ⟨_, h, k⟩

theorem yielded_eq {all : List Oper} {j : Nat} {b : Bool} (h : Rel D I0 st0 w0 I β env st a w) (k : ((all[j]?).bind (·.dst)).map env.get = some (.bool b)) : yielded all.toArray a.tmps j = some b := by
  cases hd : (all[j]?).bind (·.dst) with
  | none => rw [hd] at k; cases k
  | some t =>
    rw [hd] at k
    simp only [Option.map_some, Option.some.injEq] at k
    have := h.f.get t
    rw [k] at this
    have := rep_bool this
    have hy : yielded all.toArray a.tmps j = match a.tmps[t]? with | some (.bool b) => some b | _ => none := by
      simp only [yielded, List.getElem?_toArray]
      rw [hd]; rfl
    rw [hy]
    have hs : t < a.tmps.size := by
      rcases Nat.lt_or_ge t a.tmps.size with hlt | hge
      · exact hlt
      · simp [Array.getD, Nat.not_lt.2 hge, undef] at this
    rw [Array.getElem?_eq_getElem hs]
    rw [Array.getD, dif_pos hs] at this
    show (match some (a.tmps[t]) with | some (.bool b) => some b | _ => none) = some b
    have h2 : a.tmps[t] = .bool b := this
    rw [h2]

theorem yielded_und {all : List Oper} {j : Nat} (h : Rel D I0 st0 w0 I β env st a w) (k : ((all[j]?).bind (·.dst)).map env.get = some (.tup [])) : yielded all.toArray a.tmps j = none := by
  cases hd : (all[j]?).bind (·.dst) with
  | none => rw [hd] at k; cases k
  | some t =>
    rw [hd] at k
    simp only [Option.map_some, Option.some.injEq] at k
    have := h.f.get t
    rw [k] at this
    have h2 : Rep I (.tup []) (a.tmps.getD t undef) := this
    simp only [Rep, RepL] at h2
    obtain ⟨vs, h2, rfl⟩ := h2
    have hy : yielded all.toArray a.tmps j = match a.tmps[t]? with | some (.bool b) => some b | _ => none := by
      simp only [yielded, List.getElem?_toArray]
      rw [hd]; rfl
    rw [hy]
    cases hs : a.tmps[t]? with
    | none => rfl
    | some c =>
      have : a.tmps.getD t undef = c := by
        rw [Array.getD_eq_getD_getElem?, hs]; rfl
      rw [this] at h2
      subst h2
      rfl

theorem opsWp_sound (hT : TOk P T) (hC : ∀ f args st R, C f args st R → ACalls P f args st R ∧ Plain P f) {all : List Oper} : ∀ {r : List Oper} {I : Mem} {β : Nat → Option Nat} {env : Env} {st : St} {a : Act} {w : World}, Rel D I0 st0 w0 I β env st a w →
    opsWp T C all Q r env st → wpList P all.toArray (liftQ D I0 st0 w0 Q) r a w
  | [], I, β, env, st, a, w, h, k => ⟨I, β, env, st, .normal, h, trivial, k⟩
  | o :: r, I, β, env, st, a, w, h, k => by
    rw [opsWp_cons] at k
    have yes : ∀ env st, opWp T C o env st (fun v env st => env.go o.dst v fun env => opsWp T C all Q r env st) Q → ∀ {I β a w}, Rel D I0 st0 w0 I β env st a w → o.wp P a w (wpList P all.toArray (liftQ D I0 st0 w0 Q) r) (liftQ D I0 st0 w0 Q) := by
      intro env st k I β a w h
      refine op_sound hT hC (fun I β env st v c w h hv _ k => ?_) h k
      obtain ⟨env', h1, h2⟩ := env_go_sound h hv k
      exact opsWp_sound hT hC h1 h2
    have no : (env.go o.dst (.tup []) fun env => opsWp T C all Q r env st) → wpList P all.toArray (liftQ D I0 st0 w0 Q) r (a.put o.dst undef) w := by
      intro k
      obtain ⟨env', h1, h2⟩ := env_go_sound h (c := undef) (RepT.of (v := .tup []) (by simp only [Rep]; exact ⟨[], rfl, by simp only [RepL]⟩)) k
      exact opsWp_sound hT hC h1 h2
    unfold guardWp at k
    unfold wpList
    cases hg : o.guard with
    | none =>
      rw [hg] at k
      rw [if_pos (by simp [Region.wanted, hg])]
      exact .inl (yes env st k h)
    | some g =>
      obtain ⟨j, want⟩ := g
      rw [hg] at k
      simp only at k
      split at k
      · rename_i b hb
        have hy := yielded_eq h hb
        have hw : Region.wanted o (yielded all.toArray a.tmps) = (b == want) := by
          simp only [Region.wanted, hg, hy]
          cases b <;> cases want <;> rfl
        cases want <;> cases b <;> simp only [cond_true, cond_false, lit] at k
        · rw [if_pos (by rw [hw]; rfl)]; exact .inl (yes env st k h)
        · rw [if_neg (by rw [hw]; simp)]; exact no k
        · rw [if_neg (by rw [hw]; simp)]; exact no k
        · rw [if_pos (by rw [hw]; rfl)]; exact .inl (yes env st k h)
      · rename_i hb
        have hy := yielded_und h hb
        rw [if_neg (by simp only [Region.wanted, hg, hy]; cases want <;> simp)]
        exact no k
      · exact k.elim

theorem AW_mono {c : Code} {Q Q' : AExit → Env → St → Prop} {env : Env} {st : St} (h : AW P c Q env st) (k : ∀ e env st, Q e env st → Q' e env st) : AW P c Q' env st :=
  fun D I0 st0 w0 I β a w hr => wp_mono (h D I0 st0 w0 I β a w hr) fun e a w ⟨I, β, env, st, ae, h1, h2, h3⟩ => ⟨I, β, env, st, ae, h1, h2, k _ _ _ h3⟩

/-- a loop whose rounds are counted down by a number that stands in no slot -/
theorem wp_loop_idx {c : Code} {Q : Exit → Act → World → Prop} (R : Nat → Act → World → Prop) {n0 : Nat} (h0 : R n0 a w)
    (round : ∀ n a w, R n a w → c.wp P (Exit.then (fun a' w' => ∃ m, m < n ∧ R m a' w') Q) a w) : (Code.loop c).wp P Q a w := by
  intro b k cs
  have key : ∀ n a w, R n a w →
      ∃ e a' w', Q e a' w' ∧ Arrives P (lone (b.at a (.code c :: .inLoop c :: k)) cs w) b k cs e a' w' := by
    intro n
    induction n using Nat.strongRecOn with
    | _ n ih =>
      intro a w hR
      obtain ⟨e, a₁, w₁, hq, harr⟩ := round n a w hR b (.inLoop c :: k) cs
      cases e with
      | normal =>
        obtain ⟨m, hm, hR'⟩ := hq
        obtain ⟨e₂, a₂, w₂, hq₂, harr₂⟩ := ih m hm a₁ w₁ hR'
        exact ⟨e₂, a₂, w₂, hq₂, .of_steps (Steps.trans harr (.one step_inLoop)) harr₂⟩
      | exit id => exact ⟨_, a₁, w₁, hq, .pass (x := .inLoop c) rfl (fun _ _ => .inl (by simp)) harr⟩
      | goto l => exact ⟨_, a₁, w₁, hq, .pass (x := .inLoop c) rfl (fun _ _ => .inl (by simp)) harr⟩
      | ret => exact ⟨_, a₁, w₁, hq, .pass (x := .inLoop c) rfl (fun _ _ => .inl (by simp)) harr⟩
      | panic ch => exact ⟨_, a₁, w₁, hq, .pass (x := .inLoop c) rfl (fun _ _ => .inl (by simp)) harr⟩
      | outgrown => exact ⟨_, a₁, w₁, hq, .pass (x := .inLoop c) rfl (fun _ _ => .inl (by simp)) harr⟩
  obtain ⟨e, a', w', hq, harr⟩ := key n0 a w h0
  exact ⟨e, a', w', hq, .of_steps (.one step_loop) harr⟩

/-- a scope whose jumps are counted down by a number that stands in no slot -/
theorem wp_scope_idx {c : Code} {Q : Exit → Act → World → Prop} (R : Nat → Nat → Act → World → Prop)
    (first : c.wp P (fun e a w => match e with | .goto l => ∃ n, R l n a w | e => Q e a w) a w)
    (pass : ∀ l n a w, R l n a w → ∃ rest, findLabel c l = some rest ∧ rest.wp P (fun e a w => match e with | .goto l => ∃ m, m < n ∧ R l m a w | e => Q e a w) a w) : (Code.scope c).wp P Q a w := by
  intro b k cs
  have key : ∀ n l a w rest, R l n a w → findLabel c l = some rest → ∃ e a' w', Q e a' w' ∧ Arrives P (lone (b.at a (.code rest :: .inScope c :: k)) cs w) b k cs e a' w' := by
    intro n
    induction n using Nat.strongRecOn with
    | _ n ih =>
      intro l a w rest hR hf
      obtain ⟨rest', hf', hp⟩ := pass l n a w hR
      rw [hf] at hf'
      cases hf'
      obtain ⟨e, a₁, w₁, hq, harr⟩ := hp b (.inScope c :: k) cs
      cases e with
      | normal => exact ⟨.normal, a₁, w₁, hq, Steps.trans harr (.one step_inScope)⟩
      | exit id => exact ⟨.exit id, a₁, w₁, hq, fun k' hk => harr k' (by simp [exitTo, hk])⟩
      | goto l' =>
        obtain ⟨m, hm, hR'⟩ := hq
        obtain ⟨rest2, hf2, _⟩ := pass l' m a₁ w₁ hR'
        obtain ⟨e₂, a₂, w₂, hq₂, harr₂⟩ := ih m hm l' a₁ w₁ rest2 hR' hf2
        exact ⟨e₂, a₂, w₂, hq₂, .of_steps (harr _ (by simp [gotoIn, hf2])) harr₂⟩
      | ret => exact ⟨_, a₁, w₁, hq, harr⟩
      | panic ch => exact ⟨_, a₁, w₁, hq, harr⟩
      | outgrown => exact ⟨_, a₁, w₁, hq, harr⟩
  obtain ⟨e, a₁, w₁, hq, harr⟩ := first b (.inScope c :: k) cs
  cases e with
  | normal => exact ⟨.normal, a₁, w₁, hq, .head step_scope (Steps.trans harr (.one step_inScope))⟩
  | exit id => exact ⟨.exit id, a₁, w₁, hq, fun k' hk => .head step_scope (harr k' (by simp [exitTo, hk]))⟩
  | goto l' =>
    obtain ⟨n, hR⟩ := hq
    obtain ⟨rest, hf, _⟩ := pass l' n a₁ w₁ hR
    obtain ⟨e₂, a₂, w₂, hq₂, harr₂⟩ := key n l' a₁ w₁ rest hR hf
    exact ⟨e₂, a₂, w₂, hq₂, .of_steps (.head step_scope (harr _ (by simp [gotoIn, hf]))) harr₂⟩
  | ret => exact ⟨_, a₁, w₁, hq, .of_steps (.one step_scope) harr⟩
  | panic ch => exact ⟨_, a₁, w₁, hq, .of_steps (.one step_scope) harr⟩
  | outgrown => exact ⟨_, a₁, w₁, hq, .of_steps (.one step_scope) harr⟩

end
end Go.Aw
