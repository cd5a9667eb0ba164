/-
  AW, PART 18. A body that has its end seen to by a closure, which may recover.
-/
import Derived.Test.YtngbihfihdheoaaAw17
import Derived.Recover
set_option linter.unusedVariables false
set_option linter.unusedSimpArgs false
namespace Go.Aw
open Go

def V.isPtr : V → Bool
  | .ptr _ _ => true
  | _ => false

theorem RepL.ptrs {I J : Mem} : ∀ {vs : List V} {cs : List Value}, RepL I vs cs → vs.all V.isPtr = true → RepL J vs cs
  | [], cs, h, _ => by simpa only [RepL] using h
  | v :: vs, cs, h, k => by
    simp only [RepL] at h ⊢
    obtain ⟨c, r, rfl, h1, h2⟩ := h
    simp only [List.all_cons, Bool.and_eq_true] at k
    refine ⟨c, r, rfl, ?_, RepL.ptrs h2 k.2⟩
    cases v <;> first | (simp only [Rep] at h1 ⊢; exact h1) | exact absurd k.1 (by simp [V.isPtr])

/-- a closure that a frame calls as it ends: what it may recover -/
def DCalls (P : Program) (g : FuncId) (args : List V) (x : Option V) (st : St) (R : St → Prop) : Prop :=
  ∀ (I : Mem) (w : World) (cargs : List Value) (u : FrameMode), RelS I st w → RepL I args cargs →
    (match x with | none => u = .returning | some v => ∃ c, u = .panicking [{ v := c, recovered := false }] ∧ Rep I v c) →
    CallsD P g cargs.toArray u w fun e u' w' => (∃ v, e = .returned v) ∧ settle u' = .returning ∧ ∃ I' st', Fr I st w I' st' w' ∧ RelS I' st' w' ∧ R st'

section
variable {D : List Deferred} {P : Program} {T : List (Nat × Ty)} {I0 I : Mem} {st0 st : St} {w0 w : World} {β : Nat → Option Nat} {env : Env} {a : Act}

theorem Rel.defer (h : Rel D I0 st0 w0 I β env st a w) (d : Deferred) : Rel (d :: D) I0 st0 w0 I β env st { a with defers := d :: a.defers } w :=
  ⟨h.fr, h.s, ⟨h.f.size, h.f.tmps, h.f.box, h.f.nxt, h.f.inj, h.f.sep, by rw [← h.f.defers]⟩⟩

def retQ (T : List (Nat × Ty)) (fn : Func) (R : Res → St → Prop) (env : Env) (st : St) : Prop :=
  forceRet T env st fn.results.toList fun vs => match vs with | [v] => R (.ret v) st | vs => R (.ret (.tup vs)) st

def leaveQ (P : Program) (T : List (Nat × Ty)) (g : FuncId) (caps : List V) (fn : Func) (R : Res → St → Prop) : AExit → Env → St → Prop
  | .normal, env, st | .ret, env, st => DCalls P g caps none st fun st' => retQ T fn R env st'
  | .pan v, env, st => DCalls P g caps (some v) st fun st' => retQ T fn R env st'
  | _, _, _ => False
def noQ : AExit → Env → St → Prop := fun _ _ _ => False

theorem start_rel {fn : Func} {args : List V} {cargs : List Value} (gl : List Nat) (hs : RelS I st w) (hargs : RepL I args cargs) (hle : Nat.ble args.length fn.ntmps = true) :
    Rel [] I st w I (fun _ => none) { tmps := args0 0 args, boxes := [], nxt := 0, sz := fn.ntmps, gl } st
        { tmps := cargs.toArray ++ Array.replicate (fn.ntmps - cargs.toArray.size) undef, defers := [] } w := by
  have hle := Nat.le_of_ble_eq_true hle
  have hlen := RepL.length hargs
  refine noHw_rel hs (by simp; omega) (fun t v e => ?_) rfl rfl
  obtain ⟨_, e⟩ := args0_at e
  rw [Nat.sub_zero] at e
  obtain ⟨c', e1, e2⟩ := RepL.get hargs e
  have hlt : t < cargs.length := by
    rcases Nat.lt_or_ge t cargs.length with h | h
    · exact h
    · rw [List.getElem?_eq_none h] at e1; cases e1
  have : (cargs.toArray ++ Array.replicate (fn.ntmps - cargs.toArray.size) undef).getD t undef = c' := by
    rw [List.getElem?_eq_getElem hlt] at e1
    injection e1 with e1
    subst e1
    simp [Array.getD, Array.getElem_append, hlt]
    omega
  rw [this]
  exact e2

theorem pcalls_defer (hP : POk P T) {f : FuncId} {fn : Func} (gl : List Nat) {args : List V} {R : Res → St → Prop} (hf : P.funcs[f]? = some fn) {c0 c1 rest : Code} {rid : Nat} {mk df : Oper}
    (hb : fn.body = some (.seq c0 (.seq c1 (.seq (.region rid #[mk, df] false) rest)))) (hn : (fn.name == "runtime.NumGoroutine") = false) {g : FuncId} {cap : Array Operand} {tf : Nat}
    (h1 : mk.op = .makeFunc (.func g) #[] cap) (h2 : mk.dst = some tf) (h3 : mk.guard = none) (h4 : df.op = .defer { callee := .value (.tmp tf), args := #[], argTypes := #[] }) (h5 : df.guard = none) (h6 : df.dst = none)
    (hg : Plain P g) (hle : Nat.ble args.length fn.ntmps = true)
    (h : awp T (PCalls P) c0 (thenQ (awp T (PCalls P) c1 (thenQ (fun env st => evs env cap.toList fun vs => vs.all V.isPtr = true ∧ env.go (some tf) (.func g [] vs) fun env =>
      AW P rest (leaveQ P T g vs fn R) env st) noQ)) noQ) { tmps := args0 0 args, boxes := [], nxt := 0, sz := fn.ntmps, gl } st) : PCalls P f args st R := by
  refine ⟨?_, fn, hf, by rw [hb]; rfl, hn⟩
  intro I w cargs hs hargs
  refine calls_of_wp_defers hf hb ?_
  have hsd := fun c {Q env st} k => awp_sound (Q := Q) (env := env) (st := st) hP (pcalls_sound P) (fun _ _ _ _ _ h k => k.mono h) c k
  refine wp_seq (wp_mono (hsd c0 h [] I st w I _ _ w (start_rel gl hs hargs hle)) ?_)
  rintro e a w1 ⟨I1, β1, env1, st1, ae, r1, x1, k1⟩
  cases ae with
  | exit _ | goto _ | ret | pan _ => exact k1.elim
  | normal =>
  cases e with
  | exit _ | goto _ | ret | panic _ | outgrown => exact x1.elim
  | normal =>
  refine wp_seq (wp_mono (hsd c1 k1 [] I st w I1 _ _ w1 r1) ?_)
  rintro e a w2 ⟨I2, β2, env2, st2, ae, r2, x2, k2⟩
  cases ae with
  | exit _ | goto _ | ret | pan _ => exact k2.elim
  | normal =>
  cases e with
  | exit _ | goto _ | ret | panic _ | outgrown => exact x2.elim
  | normal =>
  refine wp_seq (wp_region_list ?_)
  show wpList P #[mk, df] _ [mk, df] a w2
  unfold wpList
  rw [if_pos (by simp [Region.wanted, h3])]
  left
  obtain ⟨vs, hv, kp, kg⟩ := evs_sound r2.f (show evs env2 cap.toList _ from k2)
  have hcv : Rep I2 (.func g [] vs) (.func (.func g) #[] (cap.map a.eval)) := by
    simp only [Rep]
    exact ⟨[], cap.toList.map a.eval, by congr 1; apply Array.ext'; simp, by simp only [RepL], hv⟩
  obtain ⟨env3, r3, k3⟩ := env_go_sound r2 (RepT.of hcv) kg
  have htf : tf < a.tmps.size := by
    rw [r2.f.size]
    exact (go_out kg).1 tf rfl
  unfold Oper.wp
  rw [show (execOp a.eval mk).run P w2 = .ok (.value (.func (.func g) #[] (cap.map a.eval))) w2 by simp only [execOp, h1, Array.map_empty]; rfl]
  show wpList P #[mk, df] _ [df] (a.put mk.dst _) w2
  rw [h2]
  unfold wpList
  rw [if_pos (by simp [Region.wanted, h5])]
  left
  have hev : (a.put (some tf) (.func (.func g) #[] (cap.map a.eval))).eval (.tmp tf) = .func (.func g) #[] (cap.map a.eval) := by
    simp [Act.put, Act.eval, htf]
  unfold Oper.wp
  rw [show (execOp (a.put (some tf) (.func (.func g) #[] (cap.map a.eval))).eval df).run P w2 = .ok (.defer { target := .fn (.func g) (cap.map a.eval), args := #[] }) w2 by
    simp only [execOp, h4, resolve, hev, Deferred.ofValue, Array.map_empty, Array.empty_append]; rfl]
  rw [Oper.upon_defer]
  rw [h6]
  unfold wpList
  show rest.wp P _ _ _
  have r4 := r3.defer { target := .fn (.func g) (cap.map a.eval), args := #[] }
  refine wp_mono (k3 _ I st w I2 _ _ w2 r4) ?_
  rintro e a5 w5 ⟨I5, β5, env5, st5, ae, r5, x5, k5⟩
  have hd := r5.f.defers
  obtain ⟨fn2, p1, p2, p3⟩ := hg
  have hinv : (invoke (.fn (.func g) (cap.map a.eval)) #[]).run P w5 = .ok (.enter g (cap.toList.map a.eval).toArray) w5 := by
    have hb : fn2.body.isNone = false := by cases hb : fn2.body <;> simp_all
    simp only [invoke, callFunc, Sem.run_bind, Sem.run_pure, Result.andThen_ok, run_program, p1]
    rw [p3]
    simp [hb]
    apply Array.ext'; simp
  have last : ∀ {u : FrameMode} {x : Option V}, u ≠ .run → (match x with | none => u = .returning | some v => ∃ c, u = .panicking [{ v := c, recovered := false }] ∧ Rep I5 v c) → DCalls P g vs x st5 (fun st' => retQ T fn R env5 st') →
      Leaves P fn a5.tmps (fun e w' => ∃ I' st' r, Fr I st w I' st' w' ∧ RelS I' st' w' ∧ resM I' e r ∧ R r st') a5.defers u w5 := by
    intro u x hu hx k
    rw [hd]
    refine leaves_cons hu hinv ((k I5 w5 _ u r5.s (RepL.ptrs hv kp) hx).mono ?_)
    rintro e u' w6 ⟨⟨v, rfl⟩, hset, I6, st6, q1, q2, q3⟩
    show Leaves P fn a5.tmps _ [] (settle u') w6
    rw [hset]
    have r6 := r5.called q1 q2
    obtain ⟨v, c, g1, g2, g3⟩ := results_sound (P := P) hP.t r6 q3
    exact ⟨c, g1, I6, st6, .ret v, r6.fr, r6.s, g2, g3⟩
  cases ae with
  | normal =>
    cases e with
    | normal => exact last (x := none) (by simp) rfl k5
    | _ => exact x5.elim
  | ret =>
    cases e with
    | ret => exact last (x := none) (by simp) rfl k5
    | _ => exact x5.elim
  | pan v =>
    cases e with
    | panic chain =>
      obtain ⟨c, rfl, hc⟩ := x5
      exact last (x := some v) (by simp) ⟨c, rfl, hc⟩ k5
    | _ => exact x5.elim
  | exit _ => exact k5.elim
  | goto _ => exact k5.elim

def recV : Option V → V
  | none => .nili
  | some v => v
def endQ (T : List (Nat × Ty)) (fn : Func) (R : St → Prop) : AExit → Env → St → Prop
  | .normal, env, st | .ret, env, st => retQ T fn (fun _ st => R st) env st
  | _, _, _ => False

theorem dcalls_of_body (hP : POk P T) {g : FuncId} {fn : Func} (gl : List Nat) {args : List V} {x : Option V} {st : St} {R : St → Prop} (hf : P.funcs[g]? = some fn) {rest : Code} {rid : Nat} {ro ao : Oper}
    (hb : fn.body = some (.seq (.region rid #[ro, ao] false) rest)) {t1 t2 : Nat} {tys : Array TypeId} (h1 : ro.op = .call { callee := .builtin .recover, args := #[], argTypes := tys }) (h2 : ro.dst = some t1) (h3 : ro.guard = none)
    (h4 : ao.op = .assign (.tmp t1)) (h5 : ao.dst = some t2) (h6 : ao.guard = none) (hle : Nat.ble args.length fn.ntmps = true)
    (h : ∀ env0 : Env, env0 = { tmps := args0 0 args, boxes := [], nxt := 0, sz := fn.ntmps, gl } → env0.go (some t1) (recV x) fun env => env.go (some t2) (recV x) fun env => AW P rest (endQ T fn R) env st) : DCalls P g args x st R := by
  intro I w cargs u hs hargs hx
  refine callsD_of_wpS hf hb (fun c0 cs hu => ?_)
  refine wpS_seq (wpS_region ?_)
  obtain ⟨c, cs', u', hrec, hrep, hcs, hset⟩ : ∃ (c : Value) (cs' : List Frame) (u' : FrameMode), (match recoverD (c0 :: cs) with | some (v, cs1) => c = v ∧ cs' = cs1 | none => c = .nilIface ∧ cs' = c0 :: cs) ∧ Rep I (recV x) c ∧ cs' = { c0 with mode := u' } :: cs ∧ settle u' = .returning := by
    cases x with
    | none =>
      have hx : u = .returning := hx
      rw [hx] at hu
      refine ⟨.nilIface, c0 :: cs, .returning, ?_, by simp only [recV, Rep], ?_, rfl⟩
      · simp only [recoverD, hu, and_self]
      · rw [← hu]
    | some v =>
      obtain ⟨c, hx, hc⟩ := hx
      rw [hx] at hu
      refine ⟨c, { c0 with mode := .panicking [{ v := c, recovered := true }] } :: cs, .panicking [{ v := c, recovered := true }], ?_, hc, rfl, rfl⟩
      simp only [recoverD, hu, and_self]
  have r0 := start_rel (fn := fn) gl hs hargs hle
  obtain ⟨env1, r1, k1⟩ := env_go_sound r0 (RepT.of hrep) (h _ rfl)
  obtain ⟨env2, r2, k2⟩ := env_go_sound r1 (RepT.of hrep) k1
  have hlt : t1 < (cargs.toArray ++ Array.replicate (fn.ntmps - cargs.toArray.size) undef).size := by
    have := (go_out (h _ rfl)).1 t1 rfl
    rw [r0.f.size]
    exact this
  show wpOpsS P #[ro, ao] _ [0, 1] _ _ _
  unfold wpOpsS
  simp only [List.getElem?_toArray, List.getElem?_cons_zero]
  rw [if_pos (by simp [Region.wanted, h3])]
  rw [show ∀ ρ, (execOp ρ ro).run P w = .ok .recover w from fun ρ => by simp only [execOp, h1]; rfl]
  dsimp only
  have next : ∀ (b : Act) (tail : Act → List Frame → World → Prop), tail (b.put (some t1) c) cs' w → (match recoverD (c0 :: cs) with | some (v, cs1) => tail (b.put ro.dst v) cs1 w | none => tail (b.put ro.dst .nilIface) (c0 :: cs) w) := fun b tail ht => by
    rw [h2]
    cases hr : recoverD (c0 :: cs) with
    | none =>
      rw [hr] at hrec
      obtain ⟨rfl, rfl⟩ := hrec
      exact ht
    | some p =>
      obtain ⟨v, cs1⟩ := p
      rw [hr] at hrec
      obtain ⟨rfl, rfl⟩ := hrec
      exact ht
  refine next _ (fun a cs w => wpOpsS P #[ro, ao] _ [1] a cs w) ?_
  unfold wpOpsS
  simp only [List.getElem?_toArray, List.getElem?_cons_succ, List.getElem?_cons_zero]
  rw [if_pos (by simp [Region.wanted, h6])]
  have hev : ∀ tm : Act, t1 < tm.tmps.size → (tm.put (some t1) c).eval (.tmp t1) = c := fun tm ht => by simp [Act.put, Act.eval, ht]
  rw [show ∀ ρ, (execOp ρ ao).run P w = .ok (.value (ρ (.tmp t1))) w from fun ρ => by simp only [execOp, h4]; rfl]
  dsimp only
  rw [Oper.upon_value, hev _ hlt, h5]
  unfold wpOpsS
  show rest.wpS P _ _ cs' w
  refine wpS_of_wp (wp_mono (k2 [] I st w I _ _ w r2) ?_)
  rintro e a5 w5 ⟨I5, β5, env5, st5, ae, r5, x5, k5⟩
  have last : retQ T fn (fun _ st => R st) env5 st5 → a5.defers = [] ∧ ∃ u', cs' = { c0 with mode := u' } :: cs ∧ ∃ v, (results fn a5.tmps).run P w5 = .ok v w5 ∧ ((∃ v', Ending.returned v = .returned v') ∧ settle u' = .returning ∧ ∃ I' st', Fr I st w I' st' w5 ∧ RelS I' st' w5 ∧ R st') := fun q => by
    obtain ⟨v, c, g1, g2, g3⟩ := results_sound (P := P) (R := fun _ st => R st) hP.t r5 (show forceRet T env5 st5 fn.results.toList _ from q)
    exact ⟨r5.f.defers, u', hcs, c, g1, ⟨_, rfl⟩, hset, I5, st5, r5.fr, r5.s, g3⟩
  cases ae with
  | normal =>
    cases e with
    | normal => exact last k5
    | _ => exact x5.elim
  | ret =>
    cases e with
    | ret => exact last k5
    | _ => exact x5.elim
  | pan v => exact k5.elim
  | exit _ => exact k5.elim
  | goto _ => exact k5.elim
end
end Go.Aw
