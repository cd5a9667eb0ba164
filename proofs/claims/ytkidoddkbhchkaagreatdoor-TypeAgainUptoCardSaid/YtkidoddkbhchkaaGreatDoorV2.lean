/-
  Parts of a proof: lemmas that the last text uses.
-/
import Derived.Test.YtkidoddkbhchkaaGreatDoorV1
import Derived.Recover
import Derived.IntWalk
import Derived.Shelf.Strings.Builder1
import Derived.Shelf.Strings.Builder2
import Derived.Shelf.Strings.OnBuilder
import Derived.Shelf.Strings.Trim
import Derived.Shelf.Small.Utf8
import Derived.Shelf.Small.Strs
import Derived.Shelf.Strings.BuilderF
import Derived.Shelf.Strings.Builder2Cap
import Derived.Shelf.Strings.Search1
import Derived.Shelf.Strings.Search2
import Derived.Shelf.Strings.Search3
import Derived.Shelf.LaysM
import Derived.Shelf.Strings.Shaped
import Derived.Shelf.GgClosure.StringsIndexFunc
import Derived.Ground.GgwProg
import Derived.Shelf.GgClosure.StringsIndexFuncTop
import Derived.Shelf.GgClosure.StringsRunes
import Derived.Shelf.Strings.Prefix
import Derived.Shelf.Strings.Fields
import Derived.Shelf.Strings.SplitShaped
import Derived.Shelf.Unicode.Latin
import Derived.Shelf.Unicode.Decode
import Derived.Shelf.Strings.Runes
import Derived.Shelf.Strings.AsciiSet
import Derived.Shelf.Unicode.DecodeSlow
import Derived.Shelf.Unicode.DecodeAny
import Derived.Shelf.Unicode.Is16White
import Derived.Shelf.Unicode.IsSpaceAny
import Derived.Shelf.Unicode.DecodeLast
import Derived.Shelf.Unicode.Is16Any
import Derived.Shelf.Unicode.Is32Any
import Derived.Shelf.Unicode.ExclAny
import Derived.Shelf.Strings.FuncGrows
import Derived.Shelf.Slices.Turned
import Derived.Ground.Names2Prog
import Derived.Shelf.Slices.Clone
import Derived.Ground.SlgnProg
import Derived.Shelf.SlicesE.Clone
import Derived.Test.YtkidoddkbhchkaaGreatDoorProg
import Derived.Below
set_option maxHeartbeats 16000000
set_option linter.unusedVariables false
set_option linter.unusedSimpArgs false
namespace Go.Aw
open Go
section
variable {D : List Deferred} {P : Program} {T : List (Nat × Ty)} {C : FuncId → List V → St → (Res → St → Prop) → Prop} {I0 I : Mem} {st0 st : St} {w0 w : World} {β : Nat → Option Nat} {env : Env} {a : Act}
def closedP (all : List Oper) (PL : List (List Bool × Nat)) : Bool :=
  ((List.range all.length).all fun j => !(readyL all (List.replicate all.length false) j) || PL.contains (List.replicate all.length false, j)) &&
  ((List.replicate all.length false == List.replicate all.length true) || (List.range all.length).any fun j => readyL all (List.replicate all.length false) j) &&
  PL.all fun p => (p.1.length == all.length) && ((List.range all.length).all fun j => !(readyL all (p.1.set p.2 true) j) || PL.contains (p.1.set p.2 true, j)) &&
    ((p.1.set p.2 true == List.replicate all.length true) || (List.range all.length).any fun j => readyL all (p.1.set p.2 true) j)
def stepP (T : List (Nat × Ty)) (C : FuncId → List V → St → (Res → St → Prop) → Prop) (all : List Oper) (Q : AExit → Env → St → Prop) (E : List Bool → Env) (S : List Bool → St) (p : List Bool × Nat) : Prop :=
  match all[p.2]? with
  | some o => guardWp all o (E p.1) (opWp T C o (E p.1) (S p.1) (fun v env st => env.go o.dst v fun env => (E (p.1.set p.2 true)).leC env ∧ St.le (S (p.1.set p.2 true)) st) Q)
      ((E p.1).go o.dst (.tup []) fun env => (E (p.1.set p.2 true)).leC env ∧ St.le (S (p.1.set p.2 true)) (S p.1))
  | none => True
theorem any_sound (hT : TOk P T) (hC : ∀ f args st R, C f args st R → ACalls P f args st R ∧ Plain P f) {all : List Oper} {Q : AExit → Env → St → Prop} {E : List Bool → Env} {S : List Bool → St} {PL : List (List Bool × Nat)}
    (hc : closedP all PL = true) (step : ∀ p ∈ PL, stepP T C all Q E S p) (fin : Q .normal (E (List.replicate all.length true)) (S (List.replicate all.length true))) :
    ∀ (fuel : Nat) (bs : List Bool) (listed : Array Bool) (I : Mem) (β : Nat → Option Nat) (a : Act) (w : World), bs.length = all.length → listed.toList = bs → bs.count false ≤ fuel →
      (∀ j, j < all.length → readyL all bs j = true → (bs, j) ∈ PL) → (bs = List.replicate all.length true ∨ ∃ j, j < all.length ∧ readyL all bs j = true) →
      Rel D I0 st0 w0 I β (E bs) (S bs) a w → wpAny P .any all.toArray (liftQ D I0 st0 w0 Q) fuel listed a w := by
  have full : ∀ {bs : List Bool}, bs.length = all.length → bs.count false = 0 → bs = List.replicate all.length true := fun {bs} hb h0 => by
    rw [List.eq_replicate_iff]
    refine ⟨hb, fun b hb => ?_⟩
    cases b with
    | true => rfl
    | false => have := List.count_pos_iff.2 hb; omega
  have noready : ∀ {j : Nat}, readyL all (List.replicate all.length true) j = true → j < all.length → False := fun {j} h hj => by
    unfold readyL at h
    simp only [Bool.and_eq_true, Bool.not_eq_true'] at h
    have := h.1
    rw [List.getD_eq_getElem?_getD, List.getElem?_replicate, if_pos hj] at this
    cases this
  simp only [closedP, Bool.and_eq_true, List.all_eq_true] at hc
  intro fuel
  induction fuel with
  | zero =>
    intro bs listed I β a w hb hl hf hp hr h
    have := full hb (by omega)
    subst this
    refine ⟨?_, ⟨I, β, _, _, .normal, h, trivial, fin⟩⟩
    rw [List.eq_nil_iff_forall_not_mem]
    intro j hj
    obtain ⟨h1, h2⟩ := (ready_iff hl hb).1 hj
    exact noready h2 h1
  | succ fuel ih =>
    intro bs listed I β a w hb hl hf hp hr h
    refine ⟨fun h0 => ?_, fun i hi => ?_⟩
    · rcases hr with rfl | ⟨j, h1, h2⟩
      · exact ⟨I, β, _, _, .normal, h, trivial, fin⟩
      · have := (ready_iff hl hb).2 ⟨h1, h2⟩
        rw [h0] at this; cases this
    · obtain ⟨h1, h2⟩ := (ready_iff hl hb).1 hi
      have hm := hp i h1 h2
      have hs := step _ hm
      unfold stepP at hs
      have ho : all[i]? = some all[i] := List.getElem?_eq_getElem h1
      simp only [ho] at hs
      obtain ⟨⟨c1, c2⟩, c3⟩ := hc.2 _ hm
      refine wpOp_sound hT hC (Q := Q) ho (fun {I β env st a w} h k => ?_) h hs (K := fun env st => (E (bs.set i true)).leC env ∧ St.le (S (bs.set i true)) st)
      · have hbi : i < bs.length := by omega
        refine ih (bs.set i true) _ I _ a w (by simpa using hb) (by simp [hl]) ?_ (fun j hj hr => ?_) ?_ ((h.stLe k.2).envLe (Env.le_of k.1))
        · have := List.count_set (a := true) (i := i) (l := bs) (b := false) hbi
          unfold readyL at h2
          simp only [Bool.and_eq_true, Bool.not_eq_true'] at h2
          have hbi' := h2.1
          rw [List.getD_eq_getElem?_getD, List.getElem?_eq_getElem hbi] at hbi'
          simp only [Option.getD_some] at hbi'
          rw [hbi'] at this
          have hpos : 0 < bs.count false := List.count_pos_iff.2 (by rw [← hbi']; exact List.getElem_mem hbi)
          simp only [beq_self_eq_true, if_true, show (true == false) = false from rfl, Bool.false_eq_true, if_false] at this
          omega
        · have := c2 j (List.mem_range.2 hj)
          rw [hr] at this
          simpa using this
        · simp only [Bool.or_eq_true, beq_iff_eq, List.any_eq_true] at c3
          rcases c3 with c3 | ⟨j, hj, hr⟩
          · exact .inl c3
          · exact .inr ⟨j, List.mem_range.1 hj, hr⟩
theorem aw_any (hP : POk P T) (hC : ∀ f args st R, C f args st R → ACalls P f args st R ∧ Plain P f) {id : Nat} {ops : Array Oper} {Q : AExit → Env → St → Prop} (E : List Bool → Env) (S : List Bool → St) (PL : List (List Bool × Nat))
    (hc : closedP ops.toList PL = true) (h0 : (E (List.replicate ops.toList.length false)).leC env) (s0 : St.le (S (List.replicate ops.toList.length false)) st) (step : ∀ p ∈ PL, stepP T C ops.toList Q E S p)
    (fin : Q .normal (E (List.replicate ops.toList.length true)) (S (List.replicate ops.toList.length true))) : AW P (.region id ops true) Q env st := fun D I0 st0 w0 I β a w h =>
  wp_region_any hP.m (by
    have hc' := hc
    simp only [closedP, Bool.and_eq_true, List.all_eq_true] at hc'
    have := any_sound (D := D) hP.t hC hc step fin ops.size (List.replicate ops.toList.length false) (Array.replicate ops.size false) I _ a _ (by simp) (by simp) (by simp) (fun j hj hr => ?_) ?_ (((h.grew (Grew.drew w)).stLe s0).envLe (Env.le_of h0))
    · simpa using this
    · have := hc'.1.1 j (List.mem_range.2 hj)
      rw [hr] at this
      simpa using this
    · have := hc'.1.2
      simp only [Bool.or_eq_true, beq_iff_eq, List.any_eq_true] at this
      rcases this with h | ⟨j, hj, hr⟩
      · exact .inl h
      · exact .inr ⟨j, List.mem_range.1 hj, hr⟩)
end
end Go.Aw
set_option maxHeartbeats 16000000
set_option linter.unusedVariables false
set_option linter.unusedSimpArgs false
namespace Go.Aw
open Go
def V.isPtr : V → Bool
  | .ptr _ _ => true
  | _ => false
theorem RepL.ptrs {I J : Mem} : ∀ {vs : List V} {cs : List Value}, RepL I vs cs → vs.all V.isPtr = true → RepL J vs cs
  | [], cs, h, _ => by simpa only [RepL] using h
  | v :: vs, cs, h, k => by
    simp only [RepL] at h ⊢
    obtain ⟨c, r, rfl, h1, h2⟩ := h
    simp only [List.all_cons, Bool.and_eq_true] at k
    refine ⟨c, r, rfl, ?_, RepL.ptrs h2 k.2⟩
    cases v <;> first | (simp only [Rep] at h1 ⊢; exact h1) | exact absurd k.1 (by simp [V.isPtr])
def DCalls (P : Program) (g : FuncId) (args : List V) (x : Option V) (st : St) (R : St → Prop) : Prop :=
  ∀ (I : Mem) (w : World) (cargs : List Value) (u : FrameMode), RelS I st w → RepL I args cargs →
    (match x with | none => u = .returning | some v => ∃ c, u = .panicking [{ v := c, recovered := false }] ∧ Rep I v c) →
    CallsD P g cargs.toArray u w fun e u' w' => (∃ v, e = .returned v) ∧ settle u' = .returning ∧ ∃ I' st', Fr I st w I' st' w' ∧ RelS I' st' w' ∧ R st'
section
variable {D : List Deferred} {P : Program} {T : List (Nat × Ty)} {I0 I : Mem} {st0 st : St} {w0 w : World} {β : Nat → Option Nat} {env : Env} {a : Act}
theorem Rel.defer (h : Rel D I0 st0 w0 I β env st a w) (d : Deferred) : Rel (d :: D) I0 st0 w0 I β env st { a with defers := d :: a.defers } w :=
  ⟨h.fr, h.s, ⟨h.f.size, h.f.tmps, h.f.box, h.f.nxt, h.f.inj, h.f.sep, by rw [← h.f.defers]⟩⟩
def retQ (T : List (Nat × Ty)) (fn : Func) (R : Res → St → Prop) (env : Env) (st : St) : Prop :=
  forceRet T env st fn.results.toList fun vs => match vs with | [v] => R (.ret v) st | vs => R (.ret (.tup vs)) st
def leaveQ (P : Program) (T : List (Nat × Ty)) (g : FuncId) (caps : List V) (fn : Func) (R : Res → St → Prop) : AExit → Env → St → Prop
  | .normal, env, st | .ret, env, st => DCalls P g caps none st fun st' => retQ T fn R env st'
  | .pan v, env, st => DCalls P g caps (some v) st fun st' => retQ T fn R env st'
  | _, _, _ => False
def noQ : AExit → Env → St → Prop := fun _ _ _ => False
theorem start_rel {fn : Func} {args : List V} {cargs : List Value} (gl : List Nat) (hs : RelS I st w) (hargs : RepL I args cargs) (hle : Nat.ble args.length fn.ntmps = true) :
    Rel [] I st w I (fun _ => none) { tmps := args0 0 args, boxes := [], nxt := 0, sz := fn.ntmps, gl } st
        { tmps := cargs.toArray ++ Array.replicate (fn.ntmps - cargs.toArray.size) undef, defers := [] } w := by
  have hle := Nat.le_of_ble_eq_true hle
  have hlen := RepL.length hargs
  refine noHw_rel hs (by simp; omega) (fun t v e => ?_) rfl rfl
  obtain ⟨_, e⟩ := args0_at e
  rw [Nat.sub_zero] at e
  obtain ⟨c', e1, e2⟩ := RepL.get hargs e
  have hlt : t < cargs.length := by
    rcases Nat.lt_or_ge t cargs.length with h | h
    · exact h
    · rw [List.getElem?_eq_none h] at e1; cases e1
  have : (cargs.toArray ++ Array.replicate (fn.ntmps - cargs.toArray.size) undef).getD t undef = c' := by
    rw [List.getElem?_eq_getElem hlt] at e1
    injection e1 with e1
    subst e1
    simp [Array.getD, Array.getElem_append, hlt]
    omega
  rw [this]
  exact e2
theorem pcalls_defer (hP : POk P T) {f : FuncId} {fn : Func} (gl : List Nat) {args : List V} {R : Res → St → Prop} (hf : P.funcs[f]? = some fn) {c0 c1 rest : Code} {rid : Nat} {mk df : Oper}
    (hb : fn.body = some (.seq c0 (.seq c1 (.seq (.region rid #[mk, df] false) rest)))) (hn : (fn.name == "runtime.NumGoroutine") = false) {g : FuncId} {cap : Array Operand} {tf : Nat}
    (h1 : mk.op = .makeFunc (.func g) #[] cap) (h2 : mk.dst = some tf) (h3 : mk.guard = none) (h4 : df.op = .defer { callee := .value (.tmp tf), args := #[], argTypes := #[] }) (h5 : df.guard = none) (h6 : df.dst = none)
    (hg : Plain P g) (hle : Nat.ble args.length fn.ntmps = true)
    (h : awp T (PCalls P) c0 (thenQ (awp T (PCalls P) c1 (thenQ (fun env st => evs env cap.toList fun vs => vs.all V.isPtr = true ∧ env.go (some tf) (.func g [] vs) fun env =>
      AW P rest (leaveQ P T g vs fn R) env st) noQ)) noQ) { tmps := args0 0 args, boxes := [], nxt := 0, sz := fn.ntmps, gl } st) : PCalls P f args st R := by
  refine ⟨?_, fn, hf, by rw [hb]; rfl, hn⟩
  intro I w cargs hs hargs
  refine calls_of_wp_defers hf hb ?_
  have hsd := fun c {Q env st} k => awp_sound (Q := Q) (env := env) (st := st) hP (pcalls_sound P) (fun _ _ _ _ _ h k => k.mono h) c k
  refine wp_seq (wp_mono (hsd c0 h [] I st w I _ _ w (start_rel gl hs hargs hle)) ?_)
  rintro e a w1 ⟨I1, β1, env1, st1, ae, r1, x1, k1⟩
  cases ae with
  | exit _ | goto _ | ret | pan _ => exact k1.elim
  | normal =>
  cases e with
  | exit _ | goto _ | ret | panic _ | outgrown => exact x1.elim
  | normal =>
  refine wp_seq (wp_mono (hsd c1 k1 [] I st w I1 _ _ w1 r1) ?_)
  rintro e a w2 ⟨I2, β2, env2, st2, ae, r2, x2, k2⟩
  cases ae with
  | exit _ | goto _ | ret | pan _ => exact k2.elim
  | normal =>
  cases e with
  | exit _ | goto _ | ret | panic _ | outgrown => exact x2.elim
  | normal =>
  refine wp_seq (wp_region_list ?_)
  show wpList P #[mk, df] _ [mk, df] a w2
  unfold wpList
  rw [if_pos (by simp [Region.wanted, h3])]
  left
  obtain ⟨vs, hv, kp, kg⟩ := evs_sound r2.f (show evs env2 cap.toList _ from k2)
  have hcv : Rep I2 (.func g [] vs) (.func (.func g) #[] (cap.map a.eval)) := by
    simp only [Rep]
    exact ⟨[], cap.toList.map a.eval, by congr 1; apply Array.ext'; simp, by simp only [RepL], hv⟩
  obtain ⟨env3, r3, k3⟩ := env_go_sound r2 (RepT.of hcv) kg
  have htf : tf < a.tmps.size := by
    rw [r2.f.size]
    exact (go_out kg).1 tf rfl
  unfold Oper.wp
  rw [show (execOp a.eval mk).run P w2 = .ok (.value (.func (.func g) #[] (cap.map a.eval))) w2 by simp only [execOp, h1, Array.map_empty]; rfl]
  show wpList P #[mk, df] _ [df] (a.put mk.dst _) w2
  rw [h2]
  unfold wpList
  rw [if_pos (by simp [Region.wanted, h5])]
  left
  have hev : (a.put (some tf) (.func (.func g) #[] (cap.map a.eval))).eval (.tmp tf) = .func (.func g) #[] (cap.map a.eval) := by
    simp [Act.put, Act.eval, htf]
  unfold Oper.wp
  rw [show (execOp (a.put (some tf) (.func (.func g) #[] (cap.map a.eval))).eval df).run P w2 = .ok (.defer { target := .fn (.func g) (cap.map a.eval), args := #[] }) w2 by
    simp only [execOp, h4, resolve, hev, Deferred.ofValue, Array.map_empty, Array.empty_append]; rfl]
  rw [Oper.upon_defer]
  rw [h6]
  unfold wpList
  show rest.wp P _ _ _
  have r4 := r3.defer { target := .fn (.func g) (cap.map a.eval), args := #[] }
  refine wp_mono (k3 _ I st w I2 _ _ w2 r4) ?_
  rintro e a5 w5 ⟨I5, β5, env5, st5, ae, r5, x5, k5⟩
  have hd := r5.f.defers
  obtain ⟨fn2, p1, p2, p3⟩ := hg
  have hinv : (invoke (.fn (.func g) (cap.map a.eval)) #[]).run P w5 = .ok (.enter g (cap.toList.map a.eval).toArray) w5 := by
    have hb : fn2.body.isNone = false := by cases hb : fn2.body <;> simp_all
    simp only [invoke, callFunc, Sem.run_bind, Sem.run_pure, Result.andThen_ok, run_program, p1]
    rw [p3]
    simp [hb]
    apply Array.ext'; simp
  have last : ∀ {u : FrameMode} {x : Option V}, u ≠ .run → (match x with | none => u = .returning | some v => ∃ c, u = .panicking [{ v := c, recovered := false }] ∧ Rep I5 v c) → DCalls P g vs x st5 (fun st' => retQ T fn R env5 st') →
      Leaves P fn a5.tmps (fun e w' => ∃ I' st' r, Fr I st w I' st' w' ∧ RelS I' st' w' ∧ resM I' e r ∧ R r st') a5.defers u w5 := by
    intro u x hu hx k
    rw [hd]
    refine leaves_cons hu hinv ((k I5 w5 _ u r5.s (RepL.ptrs hv kp) hx).mono ?_)
    rintro e u' w6 ⟨⟨v, rfl⟩, hset, I6, st6, q1, q2, q3⟩
    show Leaves P fn a5.tmps _ [] (settle u') w6
    rw [hset]
    have r6 := r5.called q1 q2
    obtain ⟨v, c, g1, g2, g3⟩ := results_sound (P := P) hP.t r6 q3
    exact ⟨c, g1, I6, st6, .ret v, r6.fr, r6.s, g2, g3⟩
  cases ae with
  | normal =>
    cases e with
    | normal => exact last (x := none) (by simp) rfl k5
    | _ => exact x5.elim
  | ret =>
    cases e with
    | ret => exact last (x := none) (by simp) rfl k5
    | _ => exact x5.elim
  | pan v =>
    cases e with
    | panic chain =>
      obtain ⟨c, rfl, hc⟩ := x5
      exact last (x := some v) (by simp) ⟨c, rfl, hc⟩ k5
    | _ => exact x5.elim
  | exit _ => exact k5.elim
  | goto _ => exact k5.elim
def recV : Option V → V
  | none => .nili
  | some v => v
def endQ (T : List (Nat × Ty)) (fn : Func) (R : St → Prop) : AExit → Env → St → Prop
  | .normal, env, st | .ret, env, st => retQ T fn (fun _ st => R st) env st
  | _, _, _ => False
theorem dcalls_of_body (hP : POk P T) {g : FuncId} {fn : Func} (gl : List Nat) {args : List V} {x : Option V} {st : St} {R : St → Prop} (hf : P.funcs[g]? = some fn) {rest : Code} {rid : Nat} {ro ao : Oper}
    (hb : fn.body = some (.seq (.region rid #[ro, ao] false) rest)) {t1 t2 : Nat} {tys : Array TypeId} (h1 : ro.op = .call { callee := .builtin .recover, args := #[], argTypes := tys }) (h2 : ro.dst = some t1) (h3 : ro.guard = none)
    (h4 : ao.op = .assign (.tmp t1)) (h5 : ao.dst = some t2) (h6 : ao.guard = none) (hle : Nat.ble args.length fn.ntmps = true)
    (h : ∀ env0 : Env, env0 = { tmps := args0 0 args, boxes := [], nxt := 0, sz := fn.ntmps, gl } → env0.go (some t1) (recV x) fun env => env.go (some t2) (recV x) fun env => AW P rest (endQ T fn R) env st) : DCalls P g args x st R := by
  intro I w cargs u hs hargs hx
  refine callsD_of_wpS hf hb (fun c0 cs hu => ?_)
  refine wpS_seq (wpS_region ?_)
  obtain ⟨c, cs', u', hrec, hrep, hcs, hset⟩ : ∃ (c : Value) (cs' : List Frame) (u' : FrameMode), (match recoverD (c0 :: cs) with | some (v, cs1) => c = v ∧ cs' = cs1 | none => c = .nilIface ∧ cs' = c0 :: cs) ∧ Rep I (recV x) c ∧ cs' = { c0 with mode := u' } :: cs ∧ settle u' = .returning := by
    cases x with
    | none =>
      have hx : u = .returning := hx
      rw [hx] at hu
      refine ⟨.nilIface, c0 :: cs, .returning, ?_, by simp only [recV, Rep], ?_, rfl⟩
      · simp only [recoverD, hu, and_self]
      · rw [← hu]
    | some v =>
      obtain ⟨c, hx, hc⟩ := hx
      rw [hx] at hu
      refine ⟨c, { c0 with mode := .panicking [{ v := c, recovered := true }] } :: cs, .panicking [{ v := c, recovered := true }], ?_, hc, rfl, rfl⟩
      simp only [recoverD, hu, and_self]
  have r0 := start_rel (fn := fn) gl hs hargs hle
  obtain ⟨env1, r1, k1⟩ := env_go_sound r0 (RepT.of hrep) (h _ rfl)
  obtain ⟨env2, r2, k2⟩ := env_go_sound r1 (RepT.of hrep) k1
  have hlt : t1 < (cargs.toArray ++ Array.replicate (fn.ntmps - cargs.toArray.size) undef).size := by
    have := (go_out (h _ rfl)).1 t1 rfl
    rw [r0.f.size]
    exact this
  show wpOpsS P #[ro, ao] _ [0, 1] _ _ _
  unfold wpOpsS
  simp only [List.getElem?_toArray, List.getElem?_cons_zero]
  rw [if_pos (by simp [Region.wanted, h3])]
  rw [show ∀ ρ, (execOp ρ ro).run P w = .ok .recover w from fun ρ => by simp only [execOp, h1]; rfl]
  dsimp only
  have next : ∀ (b : Act) (tail : Act → List Frame → World → Prop), tail (b.put (some t1) c) cs' w → (match recoverD (c0 :: cs) with | some (v, cs1) => tail (b.put ro.dst v) cs1 w | none => tail (b.put ro.dst .nilIface) (c0 :: cs) w) := fun b tail ht => by
    rw [h2]
    cases hr : recoverD (c0 :: cs) with
    | none =>
      rw [hr] at hrec
      obtain ⟨rfl, rfl⟩ := hrec
      exact ht
    | some p =>
      obtain ⟨v, cs1⟩ := p
      rw [hr] at hrec
      obtain ⟨rfl, rfl⟩ := hrec
      exact ht
  refine next _ (fun a cs w => wpOpsS P #[ro, ao] _ [1] a cs w) ?_
  unfold wpOpsS
  simp only [List.getElem?_toArray, List.getElem?_cons_succ, List.getElem?_cons_zero]
  rw [if_pos (by simp [Region.wanted, h6])]
  have hev : ∀ tm : Act, t1 < tm.tmps.size → (tm.put (some t1) c).eval (.tmp t1) = c := fun tm ht => by simp [Act.put, Act.eval, ht]
  rw [show ∀ ρ, (execOp ρ ao).run P w = .ok (.value (ρ (.tmp t1))) w from fun ρ => by simp only [execOp, h4]; rfl]
  dsimp only
  rw [Oper.upon_value, hev _ hlt, h5]
  unfold wpOpsS
  show rest.wpS P _ _ cs' w
  refine wpS_of_wp (wp_mono (k2 [] I st w I _ _ w r2) ?_)
  rintro e a5 w5 ⟨I5, β5, env5, st5, ae, r5, x5, k5⟩
  have last : retQ T fn (fun _ st => R st) env5 st5 → a5.defers = [] ∧ ∃ u', cs' = { c0 with mode := u' } :: cs ∧ ∃ v, (results fn a5.tmps).run P w5 = .ok v w5 ∧ ((∃ v', Ending.returned v = .returned v') ∧ settle u' = .returning ∧ ∃ I' st', Fr I st w I' st' w5 ∧ RelS I' st' w5 ∧ R st') := fun q => by
    obtain ⟨v, c, g1, g2, g3⟩ := results_sound (P := P) (R := fun _ st => R st) hP.t r5 (show forceRet T env5 st5 fn.results.toList _ from q)
    exact ⟨r5.f.defers, u', hcs, c, g1, ⟨_, rfl⟩, hset, I5, st5, r5.fr, r5.s, g3⟩
  cases ae with
  | normal =>
    cases e with
    | normal => exact last k5
    | _ => exact x5.elim
  | ret =>
    cases e with
    | ret => exact last k5
    | _ => exact x5.elim
  | pan v => exact k5.elim
  | exit _ => exact k5.elim
  | goto _ => exact k5.elim
end
end Go.Aw
set_option maxHeartbeats 16000000
set_option linter.unusedVariables false
set_option pp.maxSteps 400
namespace Go.Aw
theorem Wt {α : Type} [BEq α] [LawfulBEq α] {a b : α} {p q : Prop} (e : a = b) (h : p) : bcase (a == b) p q := Wg (fun _ => h) (fun n => absurd e n)
theorem Wu {α : Type} [BEq α] [LawfulBEq α] {a b : α} {p q : Prop} (e : ¬ a = b) (h : q) : bcase (a == b) p q := Wg (fun n => absurd n e) (fun _ => h)
theorem Wv {c : Prop} [Decidable c] {p q : Prop} (e : c) (h : p) : bcase (decide c) p q := Wh (fun _ => h) (fun n => absurd e n)
theorem Ww {c : Prop} [Decidable c] {p q : Prop} (e : ¬ c) (h : q) : bcase (decide c) p q := Wh (fun n => absurd n e) (fun _ => h)
end Go.Aw
namespace Go.Proofs.YtkidoddkbhchkaaGreatDoor
open Go Go.Aw
abbrev PC (f : FuncId) (args : List V) (st : St) (R : Res → St → Prop) : Prop := PCalls Tryz.prog f args st R
structure Tk where
  kind : Int
  text : List UInt8
  line : Int
  col : Int
structure Sta where
  toks : List Tk
  pos : Int
  opn : List Int
  wait : Int
def Tk.cells (t : Tk) : List V := [.int .i64 t.kind, .str t.text, .int .i64 t.line, .int .i64 t.col]
def encT (t : Tk) : V := .agg t.cells
def encTs (l : List Tk) : List (List V) := l.map Tk.cells
def Sta.cells (s : Sta) : List V := [.slice 4 (encTs s.toks) .any, .int .i64 s.pos, .slice 1 (ints s.opn) .any, .int .i64 s.wait]
def encS (s : Sta) : V := .agg s.cells
def tk0 : Tk := ⟨0, [], 0, 0⟩
def sta0 : Sta := ⟨[], 0, [], 0⟩
theorem toks_length (l : List Tk) : (encTs l).length = l.length := by simp [encTs]
theorem ints_lengthT (l : List Int) : (ints l).length = l.length := by simp [ints]
theorem Wz {l : List Tk} {K : Nat → Prop} (k : l.length < 4611686018427387904 → K l.length) : ∀ m, m = (encTs l).length → m < lim → K m := fun m hm h => by
  rw [toks_length] at hm; subst hm; exact k h
theorem WA {l : List Int} {K : Nat → Prop} (k : l.length < 4611686018427387904 → K l.length) : ∀ m, m = (ints l).length → m < lim → K m := fun m hm h => by
  rw [ints_lengthT] at hm; subst hm; exact k h
theorem WC {l : List Tk} {i : Int} {K : List V → Prop} (h0 : 0 ≤ i) (h1 : i < l.length) (k : ∀ x, l[i.toNat]? = some x → K x.cells) : 0 ≤ i ∧ ∃ e, (encTs l)[i.toNat]? = some e ∧ K e := by
  have hlt : i.toNat < l.length := by omega
  exact ⟨h0, l[i.toNat].cells, by simp [encTs, hlt], k _ (List.getElem?_eq_getElem hlt)⟩
theorem WB {l : List Tk} {i : Int} {x : Tk} {K : List V → Prop} (h : l[i.toNat]? = some x) (h0 : 0 ≤ i) (k : K x.cells) : 0 ≤ i ∧ ∃ e, (encTs l)[i.toNat]? = some e ∧ K e :=
  ⟨h0, x.cells, by simp [encTs, h], k⟩
theorem WD {l : List Int} {i : Int} {K : List V → Prop} (h0 : 0 ≤ i) (h1 : i < l.length) (k : ∀ x, l[i.toNat]? = some x → K [.int .i64 x]) : 0 ≤ i ∧ ∃ e, (ints l)[i.toNat]? = some e ∧ K e := by
  have hlt : i.toNat < l.length := by omega
  exact ⟨h0, [.int .i64 l[i.toNat]], by simp [ints, hlt], k _ (List.getElem?_eq_getElem hlt)⟩
theorem WE {l : List Int} {a b : Int} {K : List (List V) → Prop} (h0 : 0 ≤ a) (h1 : a ≤ b) (h2 : b ≤ l.length) (k : K (ints ((l.take b.toNat).drop a.toNat))) :
    (0 ≤ a ∧ a ≤ b ∧ b ≤ (ints l).length) ∧ ∀ es', es' = (((ints l).take b.toNat).drop a.toNat) → K es' := by
  refine ⟨⟨h0, h1, by rw [ints_lengthT]; exact h2⟩, fun es' e => ?_⟩
  have : ((ints l).take b.toNat).drop a.toNat = ints ((l.take b.toNat).drop a.toNat) := by simp [ints, List.map_drop, List.map_take]
  rw [this] at e; subst e; exact k
theorem Wx {es : List (List V)} {K : Bool → Prop} (h : es = [] → K true) (k : K false) : ∀ b, (b = true → es = []) → K b
  | true, e => h (e rfl)
  | false, _ => k
theorem Wy {es : List (List V)} {K : Bool → Prop} (h : es = [] → K false) (k : K true) : ∀ b, (b = false → es = []) → K b
  | false, e => h (e rfl)
  | true, _ => k
theorem app_ints {l new : List Int} {own : Own} {st : St} {K : V → St → Prop} (h : own.good st) (hb : l.length + new.length ≤ 1000000000)
    (k : ∀ own' : Own, own'.good st → K (.slice 1 (ints (l ++ new)) own') (own'.st st (l ++ new).length)) : appendTo 1 8 (ints l) own (ints new) (own.st st l.length) K := by
  have hw : (ints new).map (·.map V.wk0) = ints new := by
    simp only [ints, List.map_map]
    exact List.map_congr_left fun x _ => rfl
  have hsc : ((ints new).all fun v => v.all V.sc) = true := by
    simp only [ints, List.all_map, List.all_eq_true]
    exact fun x _ => rfl
  have := appendTo_own (sz := 1) (bytes := 8) (es := ints l) (new := ints new) (K := K) h (by rw [ints_lengthT, ints_lengthT]; omega) (by rw [ints_lengthT, ints_lengthT]; simp only [lim]; omega) hsc (fun own' ho => by
    have := k own' ho
    rw [ints_lengthT, ints_lengthT, hw, ← show ints (l ++ new) = ints l ++ ints new from by simp [ints], ← List.length_append, Nat.mul_one]
    exact this)
  rw [ints_lengthT, Nat.mul_one] at this
  exact this
section
variable {st : St} {R : Res → St → Prop}
theorem finl {r r' : Res} {st' : St} (hs : st.le st') (e : r = r'.wk) (h : R r st) : ∃ r2 st2, (r2 = r' ∨ r2 = r'.wk) ∧ St.le st2 st' ∧ R r2 st2 := ⟨r, st, .inr e, hs, h⟩
end
theorem Yb0 {P : Prop} (h : P := by with_reducible first | (show _ ∧ _; first | exact Wa) | (show bcase _ _ _; first | exact Wb | exact Wc) | fail) : P := h
theorem Yb1 {P A : Prop} (k : A) (h : A → P := by intro k; with_reducible first | (show _ ∧ _; first | exact Wd (by kernel_rfl) k | exact Wm (by assumption) (by omega) k | exact Wn (by omega) (by omega) k | exact Wo (by omega) (by omega) k | exact Wp (by omega) (by omega) (by omega) k | exact Wr (by decide) (by omega) (by omega) k | exact Ws (by decide) k | exact WB (by assumption) (by omega) k | exact WC (by omega) (by omega) k | exact WD (by omega) (by omega) k | exact WE (by omega) (by omega) (by omega) k) | (show bcase _ _ _; first | exact Wt (by first | assumption | omega) k | exact Wu (by first | assumption | omega) k | exact Wv (by omega) k | exact Ww (by omega) k | exact Wi k | exact Wj k) | (intro x y z; exact Wl k x y z) | (intro x y z; exact Wz k x y z) | (intro x y z; exact WA k x y z) | (show Exists _; first | exact Wq (by omega) (by omega) k) | fail) : P := h k
theorem Yb2 {P : Prop} {B C : V → Prop} (k : V) (l : B k) (m : C k) (h : ∀ k, B k → C k → P := by intro k l m; with_reducible first | (show Exists _; first | exact We k l m | exact W8 (by decide +kernel) k l m | exact W0 (by decide +kernel) k l m | exact W9 k l m) | fail) : P := h k l m
theorem Yb3 {P A B : Prop} (k : A) (l : B) (h : A → B → P := by intro k l; with_reducible first | (show bcase _ _ _; first | exact Wf (by decide) k l | exact Wg k l | exact Wh k l | exact Wk k l) | fail) : P := h k l
theorem Yb4 {P A B : Prop} (k : A) (l : B) (h : A → B → P := by intro k l; with_reducible first | (intro x y; exact Wx k l x y) | (intro x y; exact Wy k l x y) | fail) : P := h k l
end Go.Proofs.YtkidoddkbhchkaaGreatDoor
set_option maxHeartbeats 16000000
set_option linter.unusedVariables false
set_option linter.unusedSimpArgs false
set_option maxHeartbeats 16000000
set_option linter.unusedVariables false
namespace Go.Aw
open Go Go.ChangeShapes
theorem facts_of {P : Program} {f : FuncId} {fn : Func} {s : ChangeSpec} {c : OpenClaim}
    (a1 : (c.wf (OpenSpec.ofChange s) && laidOutB P && mapsRowed P && fn.params.all (P.readableRec ·) && namedTie P c.named s.vars && (c.stops == []) && (P.stops == []) && (c.knobs == []) && (P.stopKnobs == [])) = true)
    (a2 : (c.inPlace == P.inPlace f) = true) (a3 : (c.unfollowed == P.unfollowed f) = true) (a4 : (c.recurses == P.recurses f) = true) (a5 : (c.named == P.varsNamed f) = true)
    (a6 : ((c.maps == (fn.params.toList ++ s.plain.varTypes P).any (P.mapsRec ·)) && (c.ifaces == (fn.params.toList ++ s.plain.varTypes P).any (P.ifacesRec ·)) && (c.mapsOut == P.mapsAmong fn.resultTypes.toList) && (c.loops == (fn.params.toList ++ s.plain.varTypes P).any (P.loopsFrom ·)) && (c.wideKeys == (fn.params.toList ++ s.plain.varTypes P ++ fn.resultTypes.toList).any (P.wideKeysFrom ·)) && s.vars.all (P.varReadable ·) && fn.resultTypes.all (fun t => P.readableRec t && decide (t < P.types.size)) && (c.ifacesOut == fn.resultTypes.toList.any (P.ifacesRec ·)) && (c.loopsOut == fn.resultTypes.toList.any (P.loopsFrom ·)) && (c.plainKeys == P.plainKeys) && c.shortTexts.isNone) = true)
    (a7 : P.stopsHeard = true) (a8 : P.mayEnter = true) (a9 : (c.lifted == P.liftsFinal) = true) (a10 : (P.make == some c.make) = true)
    (a11 : ((c.kinds == (if c.domain.isEmpty then [] else fn.params.toList.map fun t => match P.underlying t with | some (.int k) => some k | _ => none)) && (c.pinned == c.pinnedBy) && (c.veiled == (fn.params.toList ++ s.plain.varTypes P ++ fn.resultTypes.toList).any (P.veiledRec ·)) && c.veiledFits P fn.params.toList (fn.params.toList ++ s.plain.varTypes P ++ fn.resultTypes.toList)) = true) :
    joinedFacts P f fn s c = true := by
  unfold joinedFacts
  simp only [Bool.and_eq_true] at a1 a6 a11 ⊢
  obtain ⟨⟨⟨⟨⟨⟨⟨⟨b1, b2⟩, b3⟩, b4⟩, b5⟩, b6⟩, b7⟩, b8⟩, b9⟩ := a1
  obtain ⟨⟨⟨⟨⟨⟨⟨⟨⟨⟨d1, d2⟩, d3⟩, d4⟩, d5⟩, d6⟩, d7⟩, d8⟩, d9⟩, d10⟩, d11⟩ := a6
  obtain ⟨⟨⟨g1, g2⟩, g3⟩, g4⟩ := a11
  exact ⟨⟨⟨⟨⟨⟨⟨⟨⟨⟨⟨⟨⟨⟨⟨⟨⟨⟨⟨⟨⟨⟨⟨⟨⟨⟨⟨⟨⟨⟨⟨b1, b2⟩, b3⟩, b4⟩, b5⟩, b6⟩, b7⟩, b8⟩, b9⟩, a2⟩, a3⟩, a4⟩, a5⟩, d1⟩, d2⟩, d3⟩, d4⟩, d5⟩, d6⟩, d7⟩, d8⟩, d9⟩, d10⟩, d11⟩, a7⟩, a8⟩, a9⟩, a10⟩, g1⟩, g2⟩, g3⟩, g4⟩
theorem goes_none {P : Program} {c : OpenClaim} (h : P.funcs.toList.all (fun f => !f.goes) = true) (hs : c.start = .entering) : false = c.goesBy P := by
  have hall : ∀ f ∈ P.funcs, Func.goes f = false := by
    intro f hf
    have := List.all_eq_true.1 h f (by simpa using hf)
    simpa using this
  have hp : ∀ g, P.goes g = false := by
    intro g
    unfold Program.goes
    have h1 : ((P.closure g).any fun g => (P.funcs[g]?).any Func.goes) = false := by
      rw [Bool.eq_false_iff]
      intro hc
      obtain ⟨x, -, hx⟩ := List.any_eq_true.1 hc
      cases hq : P.funcs[x]? with
      | none => rw [hq] at hx; simp at hx
      | some f => rw [hq] at hx; simp only [Option.any_some] at hx; rw [hall f (Array.mem_of_getElem? hq)] at hx; cases hx
    have h2 : P.funcs.any Func.goes = false := by
      rw [Bool.eq_false_iff]
      intro hc
      obtain ⟨i, hi, hx⟩ := Array.any_eq_true.1 hc
      rw [hall _ (Array.getElem_mem hi)] at hx; cases hx
    rw [h1, h2]; simp
  unfold OpenClaim.goesBy Program.goesAt Program.goesFrom
  rw [hs]
  cases hq : P.funcNamed c.func <;> simp [hp]
end Go.Aw
set_option maxHeartbeats 16000000
set_option linter.unusedVariables false
namespace Go.Proofs.YtkidoddkbhchkaaGreatDoor
open Go Go.Aw Go.ChangeShapes Go.WideShapes Go.ChangeAt Go.RowKit
set_option maxRecDepth 100000
theorem fct_heard : Tryz.prog.stopsHeard = true := by kernel_rfl
theorem fct_enter : Tryz.prog.mayEnter = true := by kernel_rfl
theorem fct_lifts : (false == Tryz.prog.liftsFinal) = true := by kernel_rfl
theorem fct_make : (Tryz.prog.make == some .cut) = true := by kernel_rfl
theorem fct_goes : Tryz.prog.funcs.toList.all (fun f => !f.goes) = true := by kernel_rfl
theorem fct_laid : laidOutB Tryz.prog = true := by kernel_rfl
theorem fct_maps : mapsRowed Tryz.prog = true := by kernel_rfl
theorem fct_full : ((List.range Tryz.prog.types.size).all fun t => match Tryz.prog.underlying t with | some (.slice e) => decide (0 < Tryz.prog.cellsOf e) | _ => true) = true := by kernel_rfl
end Go.Proofs.YtkidoddkbhchkaaGreatDoor
set_option maxHeartbeats 16000000
set_option linter.unusedVariables false
set_option pp.maxSteps 400
namespace Go.Proofs.YtkidoddkbhchkaaGreatDoor
open Go Go.Aw
def topF (s : Sta) : Int := (s.opn.getLast?).getD 0
theorem topF_nil {s : Sta} (h : ¬ (s.opn.length : Int) > 0) : topF s = 0 := by
  have : s.opn = [] := List.length_eq_zero_iff.1 (by omega)
  simp [topF, this]
theorem topF_last {s : Sta} {x : Int} (h : s.opn[((s.opn.length : Int) - 1).toNat]? = some x) : topF s = x := by
  have e : ((s.opn.length : Int) - 1).toNat = s.opn.length - 1 := by omega
  rw [e] at h
  simp [topF, List.getLast?_eq_getElem?, h]
section
variable {st : St} {R : Res → St → Prop}
theorem top_c {s : Sta} (h : R (.ret (.int .i64 (topF s))) st) : PC 289 [encS s] st R := by
  refine pB Tryz.func289 ?_
  repeat' ((conv => whnf); first | (refine Yb1 ?_; intros) | (refine Yb3 ?_ ?_ <;> intro _) | fail)
  · exact fin h (by rw [topF_last (by assumption)])
  · exact fin h (by rw [topF_nil (by omega)])
def unwF (k : Int) (t : Tk) : Tk := ⟨k, [], t.line, t.col⟩
theorem unwritten_c {k : Int} {t : Tk} (h : R (.ret (encT (unwF k t))) st) : PC 336 [.int .i64 k, encT t] st R := by
  refine pB Tryz.func336 ?_
  repeat' ((conv => whnf); first | (refine Yb1 ?_; intros) | (refine Yb3 ?_ ?_ <;> intro _) | fail)
  all_goals exact fin h rfl
attribute [local irreducible] Go.Aw.appendTo
theorem clone_c {l : List Int} {own : Own} (hb : l.length ≤ 1000000000) (h : ∀ own' : Own, own'.good st → R (.ret (.slice 1 (ints l) own')) (own'.st st l.length)) : PC 334 [.slice 1 (ints l) own] st R := by
  refine pB Tryz.func334 ?_
  repeat' ((conv => whnf); first | (refine Yb1 ?_; intros) | (refine Yb3 ?_ ?_ <;> intro _) | refine Yb4 (fun _ => ?_) ?_ | fail)
  · have : l = [] := by simpa [ints] using ‹ints l = []›
    subst this
    exact fin (h .full trivial) rfl
  · exact app_ints (l := []) (own := .full) trivial (by simp only [List.length_nil]; omega) fun own' ho => fin (h own' ho) rfl
theorem clone_e {l l' : List Int} {own : Own} (e : l' = l) (hb : l.length ≤ 1000000000) (h : ∀ own' : Own, own'.good st → R (.ret (.slice 1 (ints l) own')) (own'.st st l.length)) : PC 334 [.slice 1 (ints l') own] st R := e ▸ clone_c hb h
def openedF (s : Sta) (c : Int) : Sta := { s with opn := s.opn ++ [c] }
theorem opened_c {s : Sta} {c : Int} (hb : s.opn.length ≤ 500000000) (h : R (.ret (encS (openedF s c))) st) : PC 337 [encS s, .int .i64 c] st R := by
  refine pB Tryz.func337 ?_
  have hb2 : s.opn.length + [c].length ≤ 1000000000 := by simp only [List.length_singleton]; omega
  repeat' ((conv => whnf); first | (refine Yb1 ?_; intros) | (refine Yb3 ?_ ?_ <;> intro _) | refine clone_c (by omega) (fun own ho => ?_) | refine app_ints (new := [c]) ho hb2 (fun own' ho' => ?_))
  all_goals exact finl (Own.good_le ho') rfl h
def closedF (s : Sta) : Sta := { s with opn := s.opn.dropLast }
theorem closed_c {s : Sta} (h0 : s.opn ≠ []) (hb : s.opn.length ≤ 500000000) (h : R (.ret (encS (closedF s))) st) : PC 290 [encS s] st R := by
  refine pB Tryz.func290 ?_
  have hl : 0 < s.opn.length := List.length_pos_iff.2 h0
  have hd : (s.opn.take (((s.opn.length : Int) - 1).toNat)).drop (0 : Int).toNat = s.opn.dropLast := by
    rw [show (0 : Int).toNat = 0 from rfl, List.drop_zero, List.dropLast_eq_take]
    congr 1
    omega
  have hb2 : s.opn.dropLast.length ≤ 1000000000 := by rw [List.length_dropLast]; omega
  repeat' ((conv => whnf); first | (refine Yb1 ?_; intros) | (refine Yb3 ?_ ?_ <;> intro _) | refine clone_e hd hb2 (fun own ho => ?_))
  all_goals exact finl (Own.good_le ho) rfl h
end
end Go.Proofs.YtkidoddkbhchkaaGreatDoor
set_option maxHeartbeats 16000000
set_option linter.unusedVariables false
set_option pp.maxSteps 400
namespace Go.Proofs.YtkidoddkbhchkaaGreatDoor
open Go Go.Aw
theorem drop_atT {α : Type} {l : List α} {k : Nat} {x : α} (h : l[k]? = some x) : l.drop k = x :: l.drop (k + 1) := by
  obtain ⟨h1, h2⟩ := List.getElem?_eq_some_iff.1 h
  rw [← h2, List.drop_eq_getElem_cons h1]
section
variable {st : St} {R : Res → St → Prop}
attribute [local irreducible] Go.Aw.appendTo
def idxFT (p : Int → Bool) : List Int → Int → Int
  | [], _ => -1
  | y :: r, i => if p y then i else idxFT p r (i + 1)
theorem idxF_neg {p : Int → Bool} : ∀ {l : List Int} {i : Int}, 0 ≤ i → (0 ≤ idxFT p l i ↔ l.any p = true)
  | [], i, h => by simp [idxFT]
  | y :: r, i, h => by
    simp only [idxFT, List.any_cons]
    split
    · rename_i e; simp [h, e]
    · rename_i e
      rw [idxF_neg (by omega)]
      simp [e]
theorem indexFunc_c {l : List Int} {f : FuncId} {p : Int → Bool} {own : Own} (hf : ∀ x (st : St) (R : Res → St → Prop), R (.ret (.bool (p x))) st → PC f [.int .i64 x] st R) (h : R (.ret (.int .i64 (idxFT p l 0))) st) :
    PC 353 [.slice 1 (ints l) own, .func f [] []] st R := by
  refine pB Tryz.func353 ?_
  repeat' ((conv => whnf); first | (refine Yb1 ?_; intros) | (refine Yb3 ?_ ?_ <;> intro _) | fail)
  refine loop_n 8 [7, 0, 1] l.length (fun k => k ≤ l.length ∧ (idxFT p l 0 = idxFT p (l.drop k) k)) ⟨Nat.zero_le _, rfl⟩ Yl ?_
  rintro k ⟨hk, hi⟩
  repeat' ((conv => whnf); first | (refine Yb1 ?_; intros) | (refine Yb3 ?_ ?_ <;> intro _) | refine hf _ _ _ ?_)
  all_goals conv => whnf
  all_goals try (have e := drop_atT ‹l[Int.toNat k]? = some _›; rw [Int.toNat_natCast] at e; rw [e, idxFT] at hi; clear e)
  all_goals first
   | (refine ⟨k + 1, ⟨by omega, ?_⟩, by omega, Yl, St.le_refl _⟩; clear h; simp_all)
   | (refine fin h ?_; clear h; simp_all; done)
   | (refine fin h ?_; rw [hi, List.drop_eq_nil_of_le (by omega)]; rfl)
theorem containsFunc_c {l : List Int} {f : FuncId} {p : Int → Bool} {own : Own} (hf : ∀ x (st : St) (R : Res → St → Prop), R (.ret (.bool (p x))) st → PC f [.int .i64 x] st R) (h : R (.ret (.bool (l.any p))) st) :
    PC 332 [.slice 1 (ints l) own, .func f [] []] st R := by
  refine pB Tryz.func332 ?_
  refine indexFunc_c hf ?_
  have key := idxF_neg (p := p) (l := l) (i := 0) (by omega)
  refine Wh (fun h1 => ?_) (fun h1 => ?_)
  · exact fin_bool h (key.1 h1)
  · refine fin_bool h ?_
    cases hc : l.any p with
    | false => rfl
    | true => exact absurd (key.2 hc) h1
theorem may1_c (x : Int) (st : St) (R : Res → St → Prop) (h : R (.ret (.bool (decide (x < 0)))) st) : PC 333 [.int .i64 x] st R := by
  refine pB Tryz.func333 ?_
  repeat' ((conv => whnf); first | (refine Yb1 ?_; intros) | (refine Yb3 ?_ ?_ <;> intro _) | fail)
  all_goals exact fin_bool h (by simp_all)
def mayF (s : Sta) : Bool :=
  decide (0 ≤ s.pos) && decide (s.pos ≤ s.toks.length) && decide (0 ≤ s.wait) && decide (s.wait ≤ 2) &&
  (decide (s.wait ≤ 0) || (match s.toks[s.pos.toNat]? with | some t => t.kind == 16 | none => false)) && !(s.opn.any fun x => decide (x < 0))
theorem may_c {s : Sta} (h : R (.ret (.bool (mayF s))) st) : PC 288 [encS s] st R := by
  refine pB Tryz.func288 ?_
  repeat' ((conv => whnf); first | (refine Yb1 ?_; intros) | (refine Yb3 ?_ ?_ <;> intro _) | refine containsFunc_c (fun x st R h => may1_c x st R h) ?_)
  all_goals conv => whnf
  all_goals refine fin_bool h ?_
  all_goals clear h
  all_goals unfold mayF
  all_goals first
   | (rw [show decide (0 ≤ s.pos) = false from decide_eq_false (by omega)]; simp only [Bool.false_and]; done)
   | (rw [show decide (s.pos ≤ s.toks.length) = false from decide_eq_false (by omega)]; simp only [Bool.false_and, Bool.and_false]; done)
   | (rw [show decide (0 ≤ s.wait) = false from decide_eq_false (by omega)]; simp only [Bool.false_and, Bool.and_false]; done)
   | (rw [show decide (s.wait ≤ 2) = false from decide_eq_false (by omega)]; simp only [Bool.false_and, Bool.and_false]; done)
   | (have hn : s.toks[s.pos.toNat]? = none := List.getElem?_eq_none (by omega)
      rw [hn, show decide (s.wait ≤ 0) = false from decide_eq_false (by omega)]; simp only [Bool.false_and, Bool.and_false, Bool.or_false]; done)
   | (rw [show decide (0 ≤ s.pos) = true from decide_eq_true (by omega), show decide (s.pos ≤ s.toks.length) = true from decide_eq_true (by omega), show decide (0 ≤ s.wait) = true from decide_eq_true (by omega), show decide (s.wait ≤ 2) = true from decide_eq_true (by omega)]
      first
       | (rw [show decide (s.wait ≤ 0) = true from decide_eq_true (by omega)]; simp_all; done)
       | (rw [show decide (s.wait ≤ 0) = false from decide_eq_false (by omega)]; simp_all; done))
  all_goals trace_state
def beginF (t : Tk) (s : Sta) : Tk × Sta :=
  if s.wait = 1 then (unwF 20 t, { s with wait := 2 })
  else if topF s < t.col then (unwF 18 t, { openedF s t.col with pos := s.pos + 1 })
  else (unwF 18 t, { s with wait := 1 })
def encTS (p : Tk × Sta) : V := .tup [encT p.1, encS p.2]
theorem begin_c {t : Tk} {s : Sta} (hp : 0 ≤ s.pos ∧ s.pos ≤ 4611686018427387904) (hb : s.opn.length ≤ 500000000) (h : R (.ret (encTS (beginF t s))) st) : PC 295 [encT t, encS s] st R := by
  refine pB Tryz.func295 ?_
  repeat' ((conv => whnf); first | exact Yb0 | (refine Yb1 ?_; intros) | (refine Yb2 ?_ ?_ ?_; rotate_left) | (refine Yb3 ?_ ?_ <;> intro _) | refine unwritten_c (t := t) ?_ | refine top_c (s := s) ?_ | refine opened_c (s := s) hb ?_ | refine Wq (a := s.pos + 1) (by omega) (by omega) ?_ | with_reducible refine WF ?_)
  all_goals unfold beginF at h
  · rw [if_pos (by assumption)] at h; exact finw rfl h
  · rw [if_neg (by assumption), if_pos (by assumption)] at h; exact finw rfl h
  · rw [if_neg (by assumption), if_neg (by assumption)] at h; exact finw rfl h
def lineF (t : Tk) (s : Sta) : Tk × Sta :=
  if 0 < topF s ∧ t.col < topF s then (unwF 20 t, closedF s)
  else if 0 < topF s ∧ t.col = topF s then (unwF 19 t, { s with pos := s.pos + 1, wait := 0 })
  else (tk0, { s with pos := s.pos + 1, wait := 0 })
theorem topF_open {s : Sta} (h : 0 < topF s) : s.opn ≠ [] := fun e => by simp [topF, e] at h
theorem line_c {t : Tk} {s : Sta} (hp : 0 ≤ s.pos ∧ s.pos ≤ 4611686018427387904) (hb : s.opn.length ≤ 500000000) (h : R (.ret (encTS (lineF t s))) st) : PC 296 [encT t, encS s] st R := by
  refine pB Tryz.func296 ?_
  repeat' ((conv => whnf); first | exact Yb0 | (refine Yb1 ?_; intros) | (refine Yb2 ?_ ?_ ?_; rotate_left) | (refine Yb3 ?_ ?_ <;> intro _) | refine unwritten_c (t := t) ?_ | refine top_c (s := s) ?_ | refine closed_c (s := s) (topF_open (by omega)) hb ?_ | refine Wq (a := s.pos + 1) (by omega) (by omega) ?_ | with_reducible refine WF ?_)
  all_goals unfold lineF at h
  all_goals first
    | (rw [if_pos ⟨by omega, by omega⟩] at h; exact finw rfl h)
    | (rw [if_neg (by omega), if_pos ⟨by omega, by omega⟩] at h; exact finw rfl h)
    | (rw [if_neg (by omega), if_neg (by omega)] at h; exact finw rfl h)
  all_goals trace_state
def braceF (t : Tk) (s : Sta) : Tk × Sta × Int :=
  if t.kind = 15 ∧ t.text = [123] then (t, { openedF s 0 with pos := s.pos + 1 }, 0)
  else if t.kind = 15 ∧ t.text = [125] then
    if s.opn = [] ∨ topF s ≠ 0 then (tk0, s, 90) else (t, { closedF s with pos := s.pos + 1 }, 0)
  else (t, { s with pos := s.pos + 1 }, 0)
def encTSE (p : Tk × Sta × Int) : V := .tup [encT p.1, encS p.2.1, .int .i64 p.2.2]
theorem ne_of_len {l : List Int} (h : ¬ l.length = Int.toNat 0) : l ≠ [] := fun e => h (by rw [e]; rfl)
theorem of_len {l : List Int} (h : l.length = Int.toNat 0) : l = [] := List.length_eq_zero_iff.1 (by rw [h]; rfl)
theorem brace_c {t : Tk} {s : Sta} (hp : 0 ≤ s.pos ∧ s.pos ≤ 4611686018427387904) (hb : s.opn.length ≤ 500000000) (h : R (.ret (encTSE (braceF t s))) st) : PC 297 [encT t, encS s] st R := by
  refine pB Tryz.func297 ?_
  repeat' ((conv => whnf); first | exact Yb0 | (refine Yb1 ?_; intros) | (refine Yb2 ?_ ?_ ?_; rotate_left) | (refine Yb3 ?_ ?_ <;> intro _) | refine top_c (s := s) ?_ | refine opened_c (s := s) hb ?_ | refine closed_c (s := s) (ne_of_len (by assumption)) hb ?_ | refine Wq (a := s.pos + 1) (by omega) (by omega) ?_ | with_reducible refine WF ?_)
  all_goals unfold braceF at h
  all_goals first
    | (rw [if_pos ⟨by assumption, by assumption⟩] at h; exact finw rfl h)
    | (rw [if_neg (fun e => absurd e.2 (by assumption)), if_pos ⟨by assumption, by assumption⟩, if_pos (.inl (of_len (by assumption)))] at h; exact finw rfl h)
    | (rw [if_neg (fun e => absurd e.2 (by assumption)), if_pos ⟨by assumption, by assumption⟩, if_pos (.inr (by assumption))] at h; exact finw rfl h)
    | (rw [if_neg (fun e => absurd e.2 (by assumption)), if_pos ⟨by assumption, by assumption⟩, if_neg (fun e => e.elim (ne_of_len (by assumption)) (fun e => e (by assumption)))] at h; exact finw rfl h)
    | (rw [if_neg (fun e => absurd e.1 (by assumption)), if_neg (fun e => absurd e.1 (by assumption))] at h; exact finw rfl h)
    | (rw [if_neg (fun e => absurd e.2 (by assumption)), if_neg (fun e => absurd e.2 (by assumption))] at h; exact finw rfl h)
  all_goals trace_state
def endFT (s : Sta) : Tk × Sta × Int :=
  if s.opn = [] then (⟨21, [], 0, 0⟩, s, 0) else if 0 < topF s then (⟨20, [], 0, 0⟩, closedF s, 0) else (tk0, s, 90)
theorem end_cT {s : Sta} (hb : s.opn.length ≤ 500000000) (h : R (.ret (encTSE (endFT s))) st) : PC 298 [encS s] st R := by
  refine pB Tryz.func298 ?_
  repeat' ((conv => whnf); first | exact Yb0 | (refine Yb1 ?_; intros) | (refine Yb2 ?_ ?_ ?_; rotate_left) | (refine Yb3 ?_ ?_ <;> intro _) | refine top_c (s := s) ?_ | refine closed_c (s := s) (ne_of_len (by assumption)) hb ?_ | with_reducible refine WF ?_)
  all_goals unfold endFT at h
  all_goals first
    | (rw [if_pos (of_len (by assumption))] at h; exact finw rfl h)
    | (rw [if_neg (ne_of_len (by assumption)), if_pos (by assumption)] at h; exact finw rfl h)
    | (rw [if_neg (ne_of_len (by assumption)), if_neg (by assumption)] at h; exact finw rfl h)
  all_goals trace_state
end
end Go.Proofs.YtkidoddkbhchkaaGreatDoor
set_option maxHeartbeats 16000000
set_option linter.unusedVariables false
set_option pp.maxSteps 400
namespace Go.Aw
noncomputable def Env.ath (env : Env) (ch : List (Nat × V)) (keep : List Nat) (cb : List (Nat × List V)) (kb : List Nat) : Env := match env with
  | ⟨ts, bs, n, sz, gl⟩ => ⟨Env.ts ⟨ts, bs, n, sz, gl⟩ ch keep, cb ++ Env.bx ⟨ts, bs, n, sz, gl⟩ kb, n, sz, gl⟩
theorem loop_h {ih : (AExit → Env → St → Prop) → Env → St → Prop} {Q : AExit → Env → St → Prop} {env : Env} {st : St} {α : Type} (f : α → List (Nat × V)) (keep : List Nat) (g : α → List (Nat × List V)) (kb : List Nat) (S : α → St) (J : α → Prop) (μ : α → Nat) (x0 : α) (h0 : J x0)
    (he : (env.ath (f x0) keep (g x0) kb).leC env) (hs : St.le (S x0) st)
    (hb : ∀ x, J x → ih (thenQ (fun env' st' => ∃ y, J y ∧ μ y < μ x ∧ (env.ath (f y) keep (g y) kb).leC env' ∧ St.le (S y) st') Q) (env.ath (f x) keep (g x) kb) (S x)) :
    ∃ (α : Type) (E : α → Env) (S : α → St) (J : α → Prop) (μ : α → Nat) (x0 : α), J x0 ∧ (E x0).leC env ∧ St.le (S x0) st ∧
      ∀ x, J x → ih (thenQ (fun env' st' => ∃ y, J y ∧ μ y < μ x ∧ (E y).leC env' ∧ St.le (S y) st') Q) (E x) (S x) :=
  ⟨α, fun k => env.ath (f k) keep (g k) kb, S, J, μ, x0, h0, he, hs, hb⟩
theorem scope_noneT {T : List (Nat × Ty)} {C : FuncId → List V → St → (Res → St → Prop) → Prop} {w : CW} {lw : Nat → Option CW} {Q : AExit → Env → St → Prop} {env : Env} {st : St}
    (h : w (gotoQ (fun l env' st' => ∃ y : Nat, y = l ∧ False ∧ env.leC env' ∧ St.le st st') Q) env st) : scopeWp w lw Q env st :=
  ⟨Nat, fun y => y, fun _ => env, fun _ => st, fun _ => False, fun _ => 0, h, fun x e => e.elim⟩
end Go.Aw
namespace Go.Proofs.YtkidoddkbhchkaaGreatDoor
open Go Go.Aw
def nextG : Nat → Sta → Tk × Sta × Int
  | 0, s => endFT s
  | n + 1, s => match s.toks[s.pos.toNat]? with
    | none => endFT s
    | some t => if t.kind = 16 ∧ s.wait < 2 then ((beginF t s).1, (beginF t s).2, 0)
      else if t.kind = 16 ∨ t.kind = 17 then
        if (lineF t s).1.kind = 0 then nextG n (lineF t s).2 else ((lineF t s).1, (lineF t s).2, 0)
      else braceF t s
def nextFT (s : Sta) : Tk × Sta × Int := nextG (s.toks.length - s.pos.toNat) s
def nextM (s : Sta) : Tk × Sta × Int := if mayF s then nextFT s else (tk0, sta0, 1)
theorem lineF_zero {t : Tk} {s : Sta} (h : (lineF t s).1.kind = 0) : (lineF t s).2 = { s with pos := s.pos + 1, wait := 0 } := by
  unfold lineF at h ⊢
  split
  · rename_i e; rw [if_pos e] at h; exact absurd h (by simp [unwF])
  · rename_i e; rw [if_neg e] at h
    split <;> rfl
theorem nextF_end {s : Sta} (h : ¬ s.pos < s.toks.length) (h0 : 0 ≤ s.pos) : nextFT s = endFT s := by
  have : s.toks.length - s.pos.toNat = 0 := by omega
  rw [nextFT, this, nextG]
theorem nextF_at {s : Sta} {t : Tk} (h : s.toks[s.pos.toNat]? = some t) (h0 : 0 ≤ s.pos) : nextFT s = if t.kind = 16 ∧ s.wait < 2 then ((beginF t s).1, (beginF t s).2, 0)
      else if t.kind = 16 ∨ t.kind = 17 then
        if (lineF t s).1.kind = 0 then nextFT (lineF t s).2 else ((lineF t s).1, (lineF t s).2, 0)
      else braceF t s := by
  obtain ⟨hlt, _⟩ := List.getElem?_eq_some_iff.1 h
  obtain ⟨n, hn⟩ : ∃ n, s.toks.length - s.pos.toNat = n + 1 := ⟨s.toks.length - s.pos.toNat - 1, by omega⟩
  rw [nextFT, hn, nextG, h]
  dsimp only
  split
  · rfl
  · split
    · split
      · rename_i e
        rw [nextFT, lineF_zero e]
        congr 1
        show n = s.toks.length - (s.pos + 1).toNat
        omega
      · rfl
    · rfl
section
variable {st : St} {R : Res → St → Prop}
attribute [local irreducible] Go.Aw.appendTo
theorem next_cT {s : Sta} (hb : s.opn.length ≤ 500000000) (h : R (.ret (encTSE (nextM s))) st) : PC 247 [encS s] st R := by
  refine pB Tryz.func247 ?_
  conv => whnf
  refine scope_noneT (T := tys) (C := PCalls Tryz.prog) ?_
  unfold nextM at h
  repeat' ((conv => whnf); first | exact Yb0 | (refine Yb1 ?_; intros) | (refine Yb2 ?_ ?_ ?_; rotate_left) | (refine Yb3 ?_ ?_ <;> intro _) | refine may_c (s := s) ?_ | with_reducible refine WF ?_)
  · rename_i e
    rw [e] at h
    have hm := e
    unfold mayF at hm
    simp only [Bool.and_eq_true, decide_eq_true_eq] at hm
    refine loop_h (α := Sta) (fun x => []) [1, 2, 3, 4] (fun x => [(0, x.cells)]) [1, 2] (fun _ => st) (fun x => x.toks = s.toks ∧ x.opn = s.opn ∧ 0 ≤ x.pos ∧ x.pos ≤ x.toks.length ∧ nextFT x = nextFT s) (fun x => x.toks.length - x.pos.toNat) s ⟨rfl, rfl, by omega, by omega, rfl⟩ Yl (St.le_refl _) ?_
    rintro x ⟨x1, x2, x3, x4, x5⟩
    rw [← x5] at h
    have hb' : x.opn.length ≤ 500000000 := by rw [x2]; exact hb
    repeat' ((conv => whnf); first | exact Yb0 | (refine Yb1 ?_; intros) | (refine Yb2 ?_ ?_ ?_; rotate_left) | (refine Yb3 ?_ ?_ <;> intro _) | refine begin_c (s := x) ⟨by omega, by omega⟩ hb' ?_ | refine line_c (s := x) ⟨by omega, by omega⟩ hb' ?_ | refine brace_c (s := x) ⟨by omega, by omega⟩ hb' ?_ | refine end_cT (s := x) hb' ?_ | with_reducible refine WF ?_)
    all_goals rw [if_pos rfl] at h
    all_goals first
      | (rw [nextF_at (by assumption) x3, if_pos (by omega)] at h; exact finw rfl h)
      | (rw [nextF_at (by assumption) x3, if_neg (by omega), if_pos (by omega), if_neg (by omega)] at h; exact finw rfl h)
      | (rw [nextF_at (by assumption) x3, if_neg (by omega), if_neg (by omega)] at h; exact finw rfl h)
      | (rw [nextF_end (by omega) x3] at h; exact finw rfl h)
      | (have hz : (lineF ‹Tk› x).1.kind = 0 := by assumption
         refine ⟨(lineF ‹Tk› x).2, ?_, ?_, Yl, St.le_refl _⟩
         · rw [lineF_zero hz]
           refine ⟨x1, x2, by show 0 ≤ x.pos + 1; omega, by show x.pos + 1 ≤ x.toks.length; omega, ?_⟩
           rw [← x5, nextF_at (s := x) (by assumption) x3, if_neg (by omega), if_pos (by omega), if_pos hz, lineF_zero hz]
         · rw [lineF_zero hz]
           show x.toks.length - (x.pos + 1).toNat < _
           omega)
    all_goals trace_state
  · rename_i e
    rw [e] at h
    exact finw rfl h
end
end Go.Proofs.YtkidoddkbhchkaaGreatDoor
set_option maxHeartbeats 16000000
set_option linter.unusedVariables false
set_option pp.maxSteps 400
set_option maxHeartbeats 16000000
set_option linter.unusedVariables false
set_option pp.maxSteps 400
set_option maxHeartbeats 16000000
set_option linter.unusedVariables false
set_option pp.maxSteps 400
namespace Go.Aw
theorem St.box_same (st : St) (b : Nat) (cs : List V) : (st.setBox b cs).box b = some cs := by simp [St.setBox]
theorem St.set_set (st : St) (b : Nat) (cs cs' : List V) : (st.setBox b cs).setBox b cs' = st.setBox b cs' := by
  simp only [St.setBox, St.mk.injEq, and_true]
  funext x
  split <;> rfl
theorem St.set_self {st : St} {b : Nat} {cs : List V} (h : st.box b = some cs) : st.setBox b cs = st := by
  cases st with
  | mk box hw =>
    simp only [St.setBox, St.mk.injEq, and_true]
    funext x
    split
    · rename_i e; subst e; exact h.symm
    · rfl
theorem at_box {st : St} {b : Nat} {cs : List V} {K : List V → Prop} (h : st.box b = some cs) (k : K cs) : ∃ cs, st.box b = some cs ∧ K cs := ⟨cs, h, k⟩
end Go.Aw
namespace Go.Proofs.YtkidoddkbhchkaaGreatDoor
open Go Go.Aw
def lookC (s : Sta) : List V := [.slice 4 (encTs s.toks) .any, .int .i64 s.pos, .slice 1 (ints s.opn) .any, .int .i64 s.wait,
  .int .i64 (nextM s).1.kind, .str (nextM s).1.text, .int .i64 (nextM s).1.line, .int .i64 (nextM s).1.col,
  .slice 4 (encTs (nextM s).2.1.toks) .any, .int .i64 (nextM s).2.1.pos, .slice 1 (ints (nextM s).2.1.opn) .any, .int .i64 (nextM s).2.1.wait, .int .i64 (nextM s).2.2, .bool true]
def idleC (s : Sta) (t : Tk) (u : Sta) (o1 o2 : Own) (e : Int) : List V := [.slice 4 (encTs s.toks) .any, .int .i64 s.pos, .slice 1 (ints s.opn) .any, .int .i64 s.wait,
  .int .i64 t.kind, .str t.text, .int .i64 t.line, .int .i64 t.col, .slice 4 (encTs u.toks) o1, .int .i64 u.pos, .slice 1 (ints u.opn) o2, .int .i64 u.wait, .int .i64 e, .bool false]
def Has (st : St) (b : Nat) (s : Sta) : Prop := st.box b = some (lookC s) ∨ ∃ t u o1 o2 e, st.box b = some (idleC s t u o1 o2 e)
def Upd (st st' : St) (b : Nat) (s : Sta) : Prop := Has st' b s ∧ ∃ cs, st' = st.setBox b cs
theorem Upd.trans {st st1 st2 : St} {b : Nat} {s1 s2 : Sta} (h : Upd st st1 b s1) (k : Upd st1 st2 b s2) : Upd st st2 b s2 := by
  obtain ⟨_, c1, e1⟩ := h
  obtain ⟨h2, c2, e2⟩ := k
  subst e1
  rw [St.set_set] at e2
  exact ⟨h2, c2, e2⟩
theorem upd_look {st : St} {b : Nat} {s : Sta} : Upd st (st.setBox b (lookC s)) b s := ⟨.inl (St.box_same ..), _, rfl⟩
def fault (e : Int) : V := .iface 113 (.agg [.int .i64 e])
section
variable {st : St} {R : Res → St → Prop}
attribute [local irreducible] Go.Aw.appendTo
theorem finx {r r' : Res} {st' : St} (e : r = r'.wk) (es : st' = st) (h : R r st) : ∃ r2 st2, (r2 = r' ∨ r2 = r'.wk) ∧ St.le st2 st' ∧ R r2 st2 := by subst es; exact ⟨r, st', .inr e, St.le_refl _, h⟩
theorem look_c {b : Nat} {s : Sta} (hs : Has st b s) (hb : s.opn.length ≤ 500000000) (h : R (.ret (.tup [])) (st.setBox b (lookC s))) : PC 195 [.ptr b 0] st R := by
  refine pB Tryz.func195 ?_
  rcases hs with hs | ⟨t, u, o1, o2, e, hs⟩
  · rw [St.set_self hs] at h
    repeat' ((conv => whnf); first | (refine Yb1 ?_; intros) | (refine Yb3 ?_ ?_ <;> intro _) | refine at_box hs ?_)
    all_goals exact fin h rfl
  · skip
    repeat' ((conv => whnf); first | (refine Yb1 ?_; intros) | (refine Yb3 ?_ ?_ <;> intro _) | refine at_box hs ?_ | refine at_box (St.box_same ..) ?_ | refine next_cT (s := s) hb ?_)
    all_goals exact finx rfl (by simp only [St.set_set]; rfl) h
theorem peek_c {b : Nat} {s : Sta} (hs : Has st b s) (hb : s.opn.length ≤ 500000000) (h : R (.ret (encT (nextM s).1)) (st.setBox b (lookC s))) : PC 135 [.ptr b 0] st R := by
  refine pB Tryz.func135 ?_
  repeat' ((conv => whnf); first | (refine Yb1 ?_; intros) | (refine Yb3 ?_ ?_ <;> intro _) | refine at_box (St.box_same ..) ?_ | refine look_c hs hb ?_)
  all_goals exact finw rfl h
theorem fail_c {v : V} {e : Int} (h : R (.pan (fault e)) st) : PC 96 [v, .int .i64 e] st R := by
  refine pB Tryz.func96 ?_
  repeat' ((conv => whnf); first | (refine Yb1 ?_; intros) | (refine Yb3 ?_ ?_ <;> intro _) | fail)
  all_goals exact fin h rfl
def badE (s : Sta) : Int := if (nextM s).2.2 = 0 then 110 else (nextM s).2.2
theorem bad_c {b : Nat} {s : Sta} (hs : Has st b s) (hb : s.opn.length ≤ 500000000) (h : R (.pan (fault (badE s))) (st.setBox b (lookC s))) : PC 191 [.ptr b 0] st R := by
  refine pB Tryz.func191 ?_
  unfold badE at h
  repeat' ((conv => whnf); first | (refine Yb1 ?_; intros) | (refine Yb3 ?_ ?_ <;> intro _) | refine at_box (St.box_same ..) ?_ | refine look_c hs hb ?_ | refine fail_c ?_)
  all_goals first
    | (rw [if_pos (by assumption)] at h; exact fin h rfl)
    | (rw [if_neg (by assumption)] at h; exact fin h rfl)
theorem go_look {b : Nat} {s s' : Sta} (hs : st.box b = some (lookC s)) (h : ∀ st', Upd st st' b s' → R (.ret (.tup [])) st') : PC 234 [.ptr b 0, encS s'] st R := by
  refine pB Tryz.func234 ?_
  have h := h (st.setBox b (idleC s' (nextM s).1 (nextM s).2.1 .any .any (nextM s).2.2)) ⟨.inr ⟨_, _, _, _, _, St.box_same ..⟩, _, rfl⟩
  repeat' ((conv => whnf); first | (refine Yb1 ?_; intros) | (refine Yb3 ?_ ?_ <;> intro _) | refine at_box hs ?_ | refine at_box (St.box_same ..) ?_)
  all_goals exact finx rfl (by simp only [St.set_set]; rfl) h
theorem go_idle {b : Nat} {s s' : Sta} {t : Tk} {u : Sta} {o1 o2 : Own} {e : Int} (hs : st.box b = some (idleC s t u o1 o2 e)) (h : ∀ st', Upd st st' b s' → R (.ret (.tup [])) st') : PC 234 [.ptr b 0, encS s'] st R := by
  refine pB Tryz.func234 ?_
  have h := h (st.setBox b (idleC s' t u o1 o2 e)) ⟨.inr ⟨_, _, _, _, _, St.box_same ..⟩, _, rfl⟩
  repeat' ((conv => whnf); first | (refine Yb1 ?_; intros) | (refine Yb3 ?_ ?_ <;> intro _) | refine at_box hs ?_ | refine at_box (St.box_same ..) ?_)
  all_goals exact finx rfl (by simp only [St.set_set]; rfl) h
theorem go_c {b : Nat} {s s' : Sta} (hs : Has st b s) (h : ∀ st', Upd st st' b s' → R (.ret (.tup [])) st') : PC 234 [.ptr b 0, encS s'] st R := by
  rcases hs with hs | ⟨t, u, o1, o2, e, hs⟩
  · exact go_look hs h
  · exact go_idle hs h
theorem skip_c {b : Nat} {s : Sta} (hs : Has st b s) (hb : s.opn.length ≤ 500000000) (h : (nextM s).2.2 = 0 → ∀ st', Upd st st' b (nextM s).2.1 → R (.ret (encT (nextM s).1)) st')
    (k : ¬ (nextM s).2.2 = 0 → R (.pan (fault (nextM s).2.2)) (st.setBox b (lookC s))) : PC 161 [.ptr b 0] st R := by
  refine pB Tryz.func161 ?_
  repeat' ((conv => whnf); first | (refine Yb1 ?_; intros) | (refine Yb3 ?_ ?_ <;> intro _) | refine at_box (St.box_same ..) ?_ | refine peek_c hs hb ?_ | refine fail_c ?_ | refine go_c (s' := (nextM s).2.1) (.inl (St.box_same st b (lookC s))) (fun st' hu => ?_))
  · exact finw rfl (h (by assumption) st' (upd_look.trans hu))
  · exact fin (k (by assumption)) rfl
def leafT (t : Tk) : Nd := .mk 1 t.kind t.text t.line t.col []
theorem leaf_c {t : Tk} (h : R (.ret (enc (leafT t))) st) : PC 160 [encT t] st R := by
  refine pB Tryz.func160 ?_
  repeat' ((conv => whnf); first | (refine Yb1 ?_; intros) | (refine Yb3 ?_ ?_ <;> intro _) | fail)
  all_goals exact finw rfl h
def isF (s : Sta) (k : Int) (x : List UInt8) : Bool := (nextM s).1.kind == k && (nextM s).1.text == x
theorem is_c {b : Nat} {s : Sta} {k : Int} {x : List UInt8} (hs : Has st b s) (hb : s.opn.length ≤ 500000000) (h : R (.ret (.bool (isF s k x))) (st.setBox b (lookC s))) : PC 98 [.ptr b 0, .int .i64 k, .str x] st R := by
  refine pB Tryz.func98 ?_
  repeat' ((conv => whnf); first | (refine Yb1 ?_; intros) | (refine Yb3 ?_ ?_ <;> intro _) | refine peek_c hs hb ?_)
  all_goals (refine fin_bool h ?_; clear h; simp_all [isF])
theorem take_c {b : Nat} {s : Sta} (hs : Has st b s) (hb : s.opn.length ≤ 500000000) (h : (nextM s).2.2 = 0 → ∀ st', Upd st st' b (nextM s).2.1 → R (.ret (enc (leafT (nextM s).1))) st')
    (k : ¬ (nextM s).2.2 = 0 → R (.pan (fault (nextM s).2.2)) (st.setBox b (lookC s))) : PC 100 [.ptr b 0] st R := by
  refine pB Tryz.func100 ?_
  repeat' ((conv => whnf); first | (refine Yb1 ?_; intros) | (refine Yb3 ?_ ?_ <;> intro _) | refine skip_c hs hb (fun e st' hu => ?_) (fun e => ?_) | refine leaf_c (t := (nextM s).1) ?_)
  · exact finw rfl (h e st' hu)
  · exact fin (k e) rfl
theorem want_c {b : Nat} {s : Sta} {k : Int} {x : List UInt8} (hs : Has st b s) (hb : s.opn.length ≤ 500000000) (h : isF s k x = true → (nextM s).2.2 = 0 → ∀ st', Upd st st' b (nextM s).2.1 → R (.ret (enc (leafT (nextM s).1))) st')
    (k1 : isF s k x = true → ¬ (nextM s).2.2 = 0 → R (.pan (fault (nextM s).2.2)) (st.setBox b (lookC s))) (k2 : isF s k x = false → R (.pan (fault (badE s))) (st.setBox b (lookC s))) : PC 167 [.ptr b 0, .int .i64 k, .str x] st R := by
  refine pB Tryz.func167 ?_
  have hl : Has (st.setBox b (lookC s)) b s := .inl (St.box_same ..)
  repeat' ((conv => whnf); first | (refine Yb1 ?_; intros) | (refine Yb3 ?_ ?_ <;> intro _) | refine is_c hs hb ?_ | refine take_c hl hb (fun e st' hu => ?_) (fun e => ?_) | refine bad_c hl hb ?_)
  · exact finw rfl (h (by assumption) e st' (upd_look.trans hu))
  · exact finx rfl (by rw [St.set_set]) (k1 (by assumption) e)
  · exact finx rfl (by rw [St.set_set]) (k2 (by assumption))
def encR3 (n : Nd) (s : Sta) (e : Int) : V := .tup [enc n, encS s, .int .i64 e]
theorem into_c {f : FuncId} {b : Nat} {s s' : Sta} {n : Nd} {e d : Int} (hf : ∀ (st : St) (R : Res → St → Prop), R (.ret (encR3 n s' e)) st → PC f [encS s, .int .i64 d] st R) (hs : Has st b s)
    (h : e = 0 → ∀ st', Upd st st' b s' → R (.ret (enc n)) st') (k : ¬ e = 0 → ∀ st', Upd st st' b s' → R (.pan (fault e)) st') : PC 254 [.ptr b 0, .func f [] [], .int .i64 d] st R := by
  refine pB Tryz.func254 ?_
  rcases hs with hs | ⟨t, u, o1, o2, e', hs⟩
  · skip
    repeat' ((conv => whnf); first | (refine Yb1 ?_; intros) | (refine Yb3 ?_ ?_ <;> intro _) | refine at_box hs ?_ | refine hf _ _ ?_ | refine fail_c ?_ | refine go_c (s' := s') (.inl hs) (fun st' hu => ?_))
    · exact finw rfl (h (by assumption) st' hu)
    · exact fin (k (by assumption) st' hu) rfl
  · skip
    repeat' ((conv => whnf); first | (refine Yb1 ?_; intros) | (refine Yb3 ?_ ?_ <;> intro _) | refine at_box hs ?_ | refine hf _ _ ?_ | refine fail_c ?_ | refine go_c (s' := s') (.inr ⟨t, u, o1, o2, e', hs⟩) (fun st' hu => ?_))
    · exact finw rfl (h (by assumption) st' hu)
    · exact fin (k (by assumption) st' hu) rfl
end
end Go.Proofs.YtkidoddkbhchkaaGreatDoor
set_option maxHeartbeats 16000000
set_option linter.unusedVariables false
namespace Go.Aw
open Go
section
variable {P : Program}
theorem AW_seq2 {x y : Code} {Q : AExit → Env → St → Prop} {env : Env} {st : St} (h : AW P x (thenQ (fun env st => AW P y Q env st) Q) env st) : AW P (.seq x y) Q env st := fun D I0 st0 w0 I β a w hr => by
    refine wp_seq (wp_mono (h D I0 st0 w0 I β a w hr) ?_)
    rintro e a w ⟨I, β, env, st, ae, h1, h2, h3⟩
    cases ae with
    | normal => cases e <;> first | exact h3 D I0 st0 w0 I β a w h1 | exact h2.elim
    | exit i => cases e <;> first | exact ⟨I, β, env, st, .exit i, h1, h2, h3⟩ | exact h2.elim
    | goto i => cases e <;> first | exact ⟨I, β, env, st, .goto i, h1, h2, h3⟩ | exact h2.elim
    | ret => cases e <;> first | exact ⟨I, β, env, st, .ret, h1, h2, h3⟩ | exact h2.elim
    | pan v => cases e <;> first | exact ⟨I, β, env, st, .pan v, h1, h2, h3⟩ | exact h2.elim
theorem aw_of {T : List (Nat × Ty)} (hP : POk P T) {c : Code} {Q : AExit → Env → St → Prop} {env : Env} {st : St} (h : awp T (PCalls P) c Q env st) : AW P c Q env st :=
  awp_sound hP (pcalls_sound P) (fun _ _ _ _ _ h k => k.mono h) c h
def Ends (R : Res → St → Prop) (r : Res) (st : St) : Prop := ∃ r2 st2, (r2 = r ∨ r2 = r.wk) ∧ St.le st2 st ∧ R r2 st2
theorem PCalls.ends {f : FuncId} {args : List V} {st : St} {R : Res → St → Prop} (h : PCalls P f args st (Ends R)) : PCalls P f args st R := by
  refine ⟨fun I w cargs hs ha => (h.a I w cargs hs ha).mono ?_, h.b⟩
  rintro e w' ⟨I', st', r, k1, k2, k3, r2, st2, k4, k5, k6⟩
  have hr : Rel [] I st w I' (fun _ => none) { tmps := [], boxes := [], nxt := 0, sz := 0, gl := [] } st' { tmps := #[], defers := [] } w' :=
    ⟨k1, k2, ⟨rfl, fun t v e => (by cases e), fun id cs e => (by cases e), fun id b e => (by cases e), fun i j b e => (by cases e), fun id b e => (by cases e), rfl⟩⟩
  have hr' := hr.stLe k5
  refine ⟨I', st2, r2, hr'.fr, hr'.s, ?_, k6⟩
  rcases k4 with rfl | rfl
  · exact k3
  · cases e with
    | returned c =>
      cases r with
      | ret v => exact Rep.wk k3
      | pan v => exact k3.elim
    | panicked chain =>
      cases r with
      | ret v => exact k3.elim
      | pan v =>
        obtain ⟨c, h1, h2⟩ := k3
        exact ⟨c, h1, Rep.wk h2⟩
    | outgrown => cases r <;> exact k3.elim
end
end Go.Aw
set_option maxHeartbeats 16000000
set_option linter.unusedVariables false
set_option pp.maxSteps 400
namespace Go.Proofs.YtkidoddkbhchkaaGreatDoor
open Go Go.Aw
def catchPL : List (List Bool × Nat) := [([false, false, false, false, false, false, false, false], 0), ([false, false, false, false, false, false, false, false], 1), ([true, false, false, false, false, false, false, false], 1), ([true, false, false, false, false, false, false, false], 5), ([false, true, false, false, false, false, false, false], 0), ([false, true, false, false, false, false, false, false], 2), ([true, true, false, false, false, false, false, false], 2), ([true, true, false, false, false, false, false, false], 5), ([true, false, false, false, false, true, false, false], 1), ([false, true, true, false, false, false, false, false], 0), ([false, true, true, false, false, false, false, false], 3), ([true, true, true, false, false, false, false, false], 3), ([true, true, true, false, false, false, false, false], 5), ([true, true, false, false, false, true, false, false], 2), ([false, true, true, true, false, false, false, false], 0), ([false, true, true, true, false, false, false, false], 4), ([true, true, true, true, false, false, false, false], 4), ([true, true, true, true, false, false, false, false], 5), ([true, true, true, false, false, true, false, false], 3), ([false, true, true, true, true, false, false, false], 0), ([true, true, true, true, true, false, false, false], 5), ([true, true, true, true, false, true, false, false], 4), ([true, true, true, true, true, true, false, false], 6), ([true, true, true, true, true, true, true, false], 7)]
def closePL : List (List Bool × Nat) := [([false, false, false, false, false, false, false, false, false, false], 0), ([false, false, false, false, false, false, false, false, false, false], 1), ([false, false, false, false, false, false, false, false, false, false], 5), ([true, false, false, false, false, false, false, false, false, false], 1), ([true, false, false, false, false, false, false, false, false, false], 5), ([false, true, false, false, false, false, false, false, false, false], 0), ([false, true, false, false, false, false, false, false, false, false], 2), ([false, true, false, false, false, false, false, false, false, false], 5), ([false, false, false, false, false, true, false, false, false, false], 0), ([false, false, false, false, false, true, false, false, false, false], 1), ([false, false, false, false, false, true, false, false, false, false], 6), ([true, true, false, false, false, false, false, false, false, false], 2), ([true, true, false, false, false, false, false, false, false, false], 5), ([true, false, false, false, false, true, false, false, false, false], 1), ([true, false, false, false, false, true, false, false, false, false], 6), ([false, true, true, false, false, false, false, false, false, false], 0), ([false, true, true, false, false, false, false, false, false, false], 3), ([false, true, true, false, false, false, false, false, false, false], 5), ([false, true, false, false, false, true, false, false, false, false], 0), ([false, true, false, false, false, true, false, false, false, false], 2), ([false, true, false, false, false, true, false, false, false, false], 6), ([false, false, false, false, false, true, true, false, false, false], 0), ([false, false, false, false, false, true, true, false, false, false], 1), ([true, true, true, false, false, false, false, false, false, false], 3), ([true, true, true, false, false, false, false, false, false, false], 5), ([true, true, false, false, false, true, false, false, false, false], 2), ([true, true, false, false, false, true, false, false, false, false], 6), ([true, false, false, false, false, true, true, false, false, false], 1), ([false, true, true, true, false, false, false, false, false, false], 0), ([false, true, true, true, false, false, false, false, false, false], 4), ([false, true, true, true, false, false, false, false, false, false], 5), ([false, true, true, false, false, true, false, false, false, false], 0), ([false, true, true, false, false, true, false, false, false, false], 3), ([false, true, true, false, false, true, false, false, false, false], 6), ([false, true, false, false, false, true, true, false, false, false], 0), ([false, true, false, false, false, true, true, false, false, false], 2), ([true, true, true, true, false, false, false, false, false, false], 4), ([true, true, true, true, false, false, false, false, false, false], 5), ([true, true, true, false, false, true, false, false, false, false], 3), ([true, true, true, false, false, true, false, false, false, false], 6), ([true, true, false, false, false, true, true, false, false, false], 2), ([false, true, true, true, true, false, false, false, false, false], 0), ([false, true, true, true, true, false, false, false, false, false], 5), ([false, true, true, true, false, true, false, false, false, false], 0), ([false, true, true, true, false, true, false, false, false, false], 4), ([false, true, true, true, false, true, false, false, false, false], 6), ([false, true, true, false, false, true, true, false, false, false], 0), ([false, true, true, false, false, true, true, false, false, false], 3), ([true, true, true, true, true, false, false, false, false, false], 5), ([true, true, true, true, true, false, false, false, false, false], 7), ([true, true, true, true, false, true, false, false, false, false], 4), ([true, true, true, true, false, true, false, false, false, false], 6), ([true, true, true, false, false, true, true, false, false, false], 3), ([false, true, true, true, true, true, false, false, false, false], 0), ([false, true, true, true, true, true, false, false, false, false], 6), ([false, true, true, true, false, true, true, false, false, false], 0), ([false, true, true, true, false, true, true, false, false, false], 4), ([true, true, true, true, true, true, false, false, false, false], 6), ([true, true, true, true, true, true, false, false, false, false], 7), ([true, true, true, true, true, false, false, true, false, false], 5), ([true, true, true, true, true, false, false, true, false, false], 8), ([true, true, true, true, false, true, true, false, false, false], 4), ([false, true, true, true, true, true, true, false, false, false], 0), ([true, true, true, true, true, true, true, false, false, false], 7), ([true, true, true, true, true, true, false, true, false, false], 6), ([true, true, true, true, true, true, false, true, false, false], 8), ([true, true, true, true, true, false, false, true, true, false], 5), ([true, true, true, true, true, true, true, true, false, false], 8), ([true, true, true, true, true, true, false, true, true, false], 6), ([true, true, true, true, true, true, true, true, true, false], 9)]
section
variable {st : St} {R : Res → St → Prop}
attribute [local irreducible] Go.Aw.appendTo
def nd0 : Nd := .mk 0 0 [] 0 0 []
def zeroN : List V := [.int .i64 0, .int .i64 0, .str [], .int .i64 0, .int .i64 0, .slice 6 [] .full]
theorem close_none {bp bn ba be : Nat} {RS : St → Prop} (h : RS st) : DCalls Tryz.prog 95 [.ptr bp 0, .ptr bn 0, .ptr ba 0, .ptr be 0] none st RS := by
  refine dcalls_of_body tys_ok [] Tryz.func95 rfl rfl rfl rfl rfl rfl rfl rfl (fun env0 he => ?_)
  subst he
  conv => whnf
  refine AW_seq2 (aw_of tys_ok ?_)
  repeat' ((conv => whnf); first | exact Yb0 | (refine Yb1 ?_; intros) | (refine Yb2 ?_ ?_ ?_; rotate_left) | (refine Yb3 ?_ ?_ <;> intro _) | with_reducible refine WF ?_)
  all_goals exact h
theorem St.box_ne {st : St} {b c : Nat} {cs : List V} (h : b ≠ c) : (st.setBox b cs).box c = st.box c := by simp [St.setBox, Ne.symm h]
noncomputable def closeOps : List Oper := match Tryz.f95.body with | some (.seq _ (.seq _ (.seq _ (.seq _ (.region _ ops _))))) => ops.toList | _ => []
noncomputable def closeE (bs : List Bool) (bp bn ba be br : Nat) (sc : List V) (e : Int) : Env :=
  { tmps := putT [(6, .bool true), (14, .bool true), (13, .agg [.int .i64 e]), (5, .lptr 0 0), (4, fault e), (0, .ptr bp 0), (1, .ptr bn 0), (2, .ptr ba 0), (3, .ptr be 0)]
      closeOps
      [.agg zeroN, .ptr br 0, .ptr br 0, .ptr br 0, .agg sc, .lptr 0 0, .int .i64 e, .junk, .junk, .junk] bs, boxes := [(0, [.int .i64 e])], nxt := 1, sz := 25, gl := [] }
def closeS (st : St) (bn ba be : Nat) (sc : List V) (e : Int) (bs : List Bool) : St :=
  match bs[7]?, bs[8]?, bs[9]? with
  | _, _, some true => ((st.setBox bn zeroN).setBox ba sc).setBox be [.int .i64 e]
  | _, some true, _ => (st.setBox bn zeroN).setBox ba sc
  | some true, _, _ => st.setBox bn zeroN
  | _, _, _ => st
theorem close_some {bp bn ba be br : Nat} {s : Sta} {e : Int} {RS : St → Prop} (hp : st.box bp = some [.ptr br 0]) (hr : Has st br s) {n0 : Nd} {s0 : Sta} {o1 o2 o3 : Own} {e0 : Int}
    (hn : st.box bn = some [.int .i64 n0.kind, .int .i64 n0.form, .str n0.text, .int .i64 n0.line, .int .i64 n0.col, .slice 6 (encs n0.kids) o1])
    (ha : st.box ba = some [.slice 4 (encTs s0.toks) o2, .int .i64 s0.pos, .slice 1 (ints s0.opn) o3, .int .i64 s0.wait]) (he : st.box be = some [.int .i64 e0])
    (d1 : bn ≠ bp) (d2 : bn ≠ br) (d3 : bn ≠ ba) (d4 : bn ≠ be) (d5 : ba ≠ bp) (d6 : ba ≠ br) (d7 : ba ≠ be)
    (h : RS (((st.setBox bn zeroN).setBox ba s.cells).setBox be [.int .i64 e])) : DCalls Tryz.prog 95 [.ptr bp 0, .ptr bn 0, .ptr ba 0, .ptr be 0] (some (fault e)) st RS := by
  refine dcalls_of_body tys_ok [] Tryz.func95 rfl rfl rfl rfl rfl rfl rfl rfl (fun env0 he => ?_)
  subst he
  conv => whnf
  refine AW_seq2 (aw_of tys_ok ?_)
  repeat' ((conv => whnf); first | exact Yb0 | (refine Yb1 ?_; intros) | (refine Yb2 ?_ ?_ ?_; rotate_left) | (refine Yb3 ?_ ?_ <;> intro _) | with_reducible refine WF ?_)
  refine AW_seq2 (aw_of tys_ok ?_)
  repeat' ((conv => whnf); first | exact Yb0 | (refine Yb1 ?_; intros) | (refine Yb2 ?_ ?_ ?_; rotate_left) | (refine Yb3 ?_ ?_ <;> intro _) | with_reducible refine WF ?_)
  refine AW_seq2 (aw_of tys_ok ?_)
  repeat' ((conv => whnf); first | exact Yb0 | (refine Yb1 ?_; intros) | (refine Yb2 ?_ ?_ ?_; rotate_left) | (refine Yb3 ?_ ?_ <;> intro _) | with_reducible refine WF ?_)
  have ha' : (st.setBox bn zeroN).box ba = some [.slice 4 (encTs s0.toks) o2, .int .i64 s0.pos, .slice 1 (ints s0.opn) o3, .int .i64 s0.wait] := by rw [St.box_ne d3]; exact ha
  have he' : ((st.setBox bn zeroN).setBox ba s.cells).box be = some [.int .i64 e0] := by rw [St.box_ne d7, St.box_ne d4]; exact he
  refine aw_any tys_ok (pcalls_sound _) (fun bs => closeE bs bp bn ba be br s.cells e) (closeS st bn ba be s.cells e) closePL (by decide +kernel) Yl (St.le_refl _) ?_ h
  unfold closePL
  rcases hr with hr | ⟨t, u, q1, q2, q3, hr⟩
  all_goals repeat' (first | refine List.forall_mem_cons.2 ⟨?_, ?_⟩ | exact fun _ h => nomatch h)
  repeat' ((conv => whnf); first | exact Yb0 | (refine Yb1 ?_; intros) | (refine Yb2 ?_ ?_ ?_; rotate_left) | (refine Yb3 ?_ ?_ <;> intro _) | refine at_box hp ?_ | refine at_box hr ?_ | refine at_box hn ?_ | refine at_box ha' ?_ | refine at_box he' ?_ | with_reducible refine WF ?_)
  all_goals conv => whnf
  all_goals (refine ⟨Yl, ?_⟩)
  all_goals exact St.le_refl _
end
end Go.Proofs.YtkidoddkbhchkaaGreatDoor
set_option maxHeartbeats 16000000
set_option linter.unusedVariables false
set_option pp.maxSteps 400
namespace Go.Proofs.YtkidoddkbhchkaaGreatDoor
open Go Go.Aw
abbrev Rs := Sum (Int × Sta) (Nd × Sta)
def Tells (st : St) (b : Nat) (R : Res → St → Prop) : Rs → Prop
  | .inr (n, s') => ∀ st', Upd st st' b s' → R (.ret (enc n)) st'
  | .inl (e, s') => ∀ st', Upd st st' b s' → R (.pan (fault e)) st'
def Reads (f : FuncId) (s : Sta) (d : Int) (q : Rs) : Prop := ∀ (b : Nat) (st : St) (R : Res → St → Prop), Has st b s → Tells st b R q → PC f [.ptr b 0, .int .i64 d] st R
def catchR (s : Sta) (deep : Int) (q : Rs) : Nd × Sta × Int :=
  if deep < 1 then (nd0, s, 2) else match q with
    | .inr (n, s') => (n, s', 0)
    | .inl (e, s') => (nd0, s', e)
def encRT (p : Nd × Sta × Int) : V := encR3 p.1 p.2.1 p.2.2
section
variable {st : St} {R : Res → St → Prop}
attribute [local irreducible] Go.Aw.appendTo
theorem fresh_ne {st : St} {b c : Nat} {cs : List V} (h : (st.setBox b cs).fresh c) : b ≠ c ∧ st.fresh c := by
  by_cases e : b = c
  · subst e
    have := h.1
    rw [St.box_same] at this
    cases this
  · refine ⟨e, ?_, h.2⟩
    have := h.1
    rw [St.box_ne e] at this
    exact this
theorem new_box {st : St} {K : Nat → Prop} (h : ∀ b, st.fresh b → K b) : ∀ b, st.fresh b → K b := h
theorem le_self {st : St} {b : Nat} {cs : List V} (h : st.box b = some cs) : St.le st (st.setBox b cs) := by rw [St.set_self h]; exact St.le_refl _
noncomputable def catchOps : List Oper := match Tryz.f49.body with | some (.seq _ (.seq _ (.seq _ (.seq _ (.seq _ (.seq (.region _ ops _) _)))))) => ops.toList | _ => []
noncomputable def catchE (bs : List Bool) (b1 b2 b3 b4 b5 : Nat) (nc sc : List V) : Env :=
  { tmps := putT [(6, .ptr b1 0), (7, .ptr b2 0), (8, .ptr b3 0), (9, .ptr b5 0)] catchOps [.agg nc, .ptr b4 0, .ptr b4 0, .ptr b4 0, .agg sc, .junk, .junk, .junk] bs, boxes := [], nxt := 1, sz := 28, gl := [6, 7, 8, 9, 12] }
def catchS (st : St) (b2 b3 : Nat) (sc : List V) (bs : List Bool) : St :=
  match bs[6]?, bs[7]? with
  | _, some true => (st.setBox b2 sc).setBox b3 [.int .i64 0]
  | some true, _ => st.setBox b2 sc
  | _, _ => st
theorem catch_c {f : FuncId} {s : Sta} {deep : Int} {q : Rs} (hq : ¬ deep < 1 → Reads f s (if 100 < deep then 100 else deep) q) (h : R (.ret (encRT (catchR s deep q))) st) : PC 49 [encS s, .int .i64 deep, .func f [] []] st R := by
  refine PCalls.ends (pcalls_defer tys_ok [6, 7, 8, 9, 12] Tryz.func49 rfl (by decide) rfl rfl rfl rfl rfl rfl ⟨_, Tryz.func95, rfl, by decide⟩ rfl ?_)
  repeat' ((conv => whnf); first | exact Yb0 | (refine Yb1 ?_; intros) | (refine Yb2 ?_ ?_ ?_; rotate_left) | (refine Yb3 ?_ ?_ <;> intro _) | refine new_box (fun b5 f5 => ?_) | refine at_box (St.box_same ..) ?_ | with_reducible refine WF ?_)
  rename_i b1 f1 b2 f2 b3 f3 b4 f4
  obtain ⟨n12, f2a⟩ := fresh_ne f2
  obtain ⟨n23, f3a⟩ := fresh_ne f3
  obtain ⟨n13, f3b⟩ := fresh_ne f3a
  obtain ⟨n34, f4a⟩ := fresh_ne f4
  obtain ⟨n24, f4b⟩ := fresh_ne f4a
  obtain ⟨n14, f4c⟩ := fresh_ne f4b
  obtain ⟨n45, f5a⟩ := fresh_ne f5
  obtain ⟨n35, f5b⟩ := fresh_ne f5a
  obtain ⟨n25, f5c⟩ := fresh_ne f5b
  obtain ⟨n15, f5d⟩ := fresh_ne f5c
  conv => whnf
  refine ⟨rfl, chk_intro rfl ?_⟩
  generalize hst5 : St.setBox _ b5 [V.ptr b4 0] = st5
  have k1 : st5.box b1 = some zeroN := by subst hst5; rw [St.box_ne n15.symm, St.box_ne n15.symm, St.box_ne n14.symm, St.box_ne n13.symm, St.box_ne n12.symm, St.box_same]; rfl
  have k2 : st5.box b2 = some [.slice 4 (encTs sta0.toks) .full, .int .i64 sta0.pos, .slice 1 (ints sta0.opn) .full, .int .i64 sta0.wait] := by subst hst5; rw [St.box_ne n25.symm, St.box_ne n25.symm, St.box_ne n24.symm, St.box_ne n23.symm, St.box_same]; rfl
  have k3 : st5.box b3 = some [.int .i64 0] := by subst hst5; rw [St.box_ne n35.symm, St.box_ne n35.symm, St.box_ne n34.symm, St.box_same]
  have k4 : Has st5 b4 s := by subst hst5; refine .inr ⟨tk0, sta0, .full, .full, 0, ?_⟩; rw [St.box_ne n45.symm, St.box_ne n45.symm, St.box_same]; rfl
  have k5 : st5.box b5 = some [.ptr b4 0] := by subst hst5; rw [St.box_same]
  have kle : st.le st5 := by
    subst hst5
    exact St.le_setBox (St.le_setBox (St.le_setBox (St.le_setBox (St.le_setBox (St.le_setBox (St.le_refl _) f1.1 _) f2a.1 _) f3b.1 _) f4c.1 _) f5d.1 _) f5d.1 _
  have kpan : ∀ (st6 : St) (e : Int) (s' : Sta), Upd st5 st6 b4 s' → st6.box b5 = some [.ptr b4 0] ∧ st6.box b1 = some zeroN ∧ st6.box b2 = some [.slice 4 (encTs sta0.toks) .full, .int .i64 sta0.pos, .slice 1 (ints sta0.opn) .full, .int .i64 sta0.wait] ∧ st6.box b3 = some [.int .i64 0] ∧ st.le st6 := by
    rintro st6 e s' ⟨_, cs, rfl⟩
    exact ⟨by rw [St.box_ne n45]; exact k5, by rw [St.box_ne n14.symm]; exact k1, by rw [St.box_ne n24.symm]; exact k2, by rw [St.box_ne n34.symm]; exact k3, St.le_setBox kle f4c.1 _⟩
  clear hst5 f2 f3 f4 f5 f3a f4a f4b f5a f5b f5c
  refine AW_seq2 (aw_of tys_ok ?_)
  repeat' ((conv => whnf); first | exact Yb0 | (refine Yb1 ?_; intros) | (refine Yb2 ?_ ?_ ?_; rotate_left) | (refine Yb3 ?_ ?_ <;> intro _) | refine at_box k5 ?_ | refine fail_c ?_ | with_reducible refine WF ?_)
  · refine close_some (n0 := nd0) (s0 := sta0) k5 k4 k1 k2 k3 n15 n14 n12 n13 n25 n24 n23 ?_
    have g1 : (((st5.setBox b1 zeroN).setBox b2 s.cells).setBox b3 [.int .i64 2]).box b1 = some zeroN := by rw [St.box_ne n13.symm, St.box_ne n12.symm, St.box_same]
    have g2 : (((st5.setBox b1 zeroN).setBox b2 s.cells).setBox b3 [.int .i64 2]).box b2 = some s.cells := by rw [St.box_ne n23.symm, St.box_same]
    have gl : st.le (((st5.setBox b1 zeroN).setBox b2 s.cells).setBox b3 [.int .i64 2]) := St.le_setBox (St.le_setBox (St.le_setBox kle f1.1 _) f2a.1 _) f3b.1 _
    unfold catchR at h
    rw [if_pos (by assumption)] at h
    repeat' ((conv => whnf); first | exact Yb0 | (refine Yb1 ?_; intros) | (refine Yb2 ?_ ?_ ?_; rotate_left) | (refine Yb3 ?_ ?_ <;> intro _) | refine at_box g1 ?_ | refine at_box g2 ?_ | refine at_box (St.box_same ..) ?_ | with_reducible refine WF ?_)
    all_goals exact finl gl rfl h
  · rename_i hd
    unfold catchR at h
    rw [if_neg hd] at h
    have hq := hq hd b4
    refine AW_seq2 (aw_of tys_ok ?_)
    cases q with
    | inl q =>
      obtain ⟨e, s'⟩ := q
      repeat' ((conv => whnf); first | exact Yb0 | (refine Yb1 ?_; intros) | (refine Yb2 ?_ ?_ ?_; rotate_left) | (refine Yb3 ?_ ?_ <;> intro _) | refine at_box k5 ?_ | refine ⟨_, rfl, ?_⟩ | refine hq _ _ k4 (fun st6 hu => ?_) | with_reducible refine WF ?_)
      obtain ⟨j5, j1, j2, j3, jle⟩ := kpan st6 e s' hu
      refine close_some (n0 := nd0) (s0 := sta0) j5 hu.1 j1 j2 j3 n15 n14 n12 n13 n25 n24 n23 ?_
      have g1 : (((st6.setBox b1 zeroN).setBox b2 s'.cells).setBox b3 [.int .i64 e]).box b1 = some zeroN := by rw [St.box_ne n13.symm, St.box_ne n12.symm, St.box_same]
      have g2 : (((st6.setBox b1 zeroN).setBox b2 s'.cells).setBox b3 [.int .i64 e]).box b2 = some s'.cells := by rw [St.box_ne n23.symm, St.box_same]
      have gl : st.le (((st6.setBox b1 zeroN).setBox b2 s'.cells).setBox b3 [.int .i64 e]) := St.le_setBox (St.le_setBox (St.le_setBox jle f1.1 _) f2a.1 _) f3b.1 _
      repeat' ((conv => whnf); first | exact Yb0 | (refine Yb1 ?_; intros) | (refine Yb2 ?_ ?_ ?_; rotate_left) | (refine Yb3 ?_ ?_ <;> intro _) | refine at_box g1 ?_ | refine at_box g2 ?_ | refine at_box (St.box_same ..) ?_ | with_reducible refine WF ?_)
      all_goals exact finl gl rfl h
    | inr q =>
      obtain ⟨n, s'⟩ := q
      have kret := fun st6 hu => kpan st6 0 s' hu
      repeat' ((conv => whnf); first | exact Yb0 | (refine Yb1 ?_; intros) | (refine Yb2 ?_ ?_ ?_; rotate_left) | (refine Yb3 ?_ ?_ <;> intro _) | refine at_box k5 ?_ | refine ⟨_, rfl, ?_⟩ | refine hq _ _ k4 (fun st6 hu => ?_) | refine at_box (kret st6 hu).2.1 ?_ | with_reducible refine WF ?_)
      obtain ⟨j5, j1, j2, j3, jle⟩ := kret st6 hu
      generalize hst7 : st6.setBox b1 (encN n) = st7
      have i1 : st7.box b1 = some (encN n) := by subst hst7; rw [St.box_same]
      have i5 : st7.box b5 = some [.ptr b4 0] := by subst hst7; rw [St.box_ne n15]; exact j5
      have i2 : st7.box b2 = some [.slice 4 (encTs sta0.toks) .full, .int .i64 sta0.pos, .slice 1 (ints sta0.opn) .full, .int .i64 sta0.wait] := by subst hst7; rw [St.box_ne n12]; exact j2
      have i3 : (st7.setBox b2 s'.cells).box b3 = some [.int .i64 0] := by subst hst7; rw [St.box_ne n23, St.box_ne n13]; exact j3
      have i4 : Has st7 b4 s' := by
        subst hst7
        rcases hu.1 with e | ⟨t, u, o1, o2, e', e⟩
        · exact .inl (by rw [St.box_ne n14]; exact e)
        · exact .inr ⟨t, u, o1, o2, e', by rw [St.box_ne n14]; exact e⟩
      have ile : st.le st7 := by subst hst7; exact St.le_setBox jle f1.1 _
      refine AW_seq2 (aw_any tys_ok (pcalls_sound _) (fun bs => catchE bs b1 b2 b3 b4 b5 (encN n) s'.cells) (catchS st7 b2 b3 s'.cells) catchPL (by decide +kernel) Yl (by rw [← hst7]; exact St.le_refl _) ?_ ?_)
      · skip
        unfold catchPL
        rcases i4 with i4 | ⟨t, u, q1, q2, q3, i4⟩
        all_goals repeat' (first | refine List.forall_mem_cons.2 ⟨?_, ?_⟩ | exact fun _ h => nomatch h)
        repeat' ((conv => whnf); first | exact Yb0 | (refine Yb1 ?_; intros) | (refine Yb2 ?_ ?_ ?_; rotate_left) | (refine Yb3 ?_ ?_ <;> intro _) | refine at_box i5 ?_ | refine at_box i1 ?_ | refine at_box i4 ?_ | refine at_box i2 ?_ | refine at_box i3 ?_ | with_reducible refine WF ?_)
        all_goals conv => whnf
        all_goals (refine ⟨Yl, ?_⟩)
        all_goals first | exact St.le_refl _ | exact le_self i1
      · refine aw_of tys_ok (close_none (bp := b5) ?_)
        have g1 : ((st7.setBox b2 s'.cells).setBox b3 [.int .i64 0]).box b1 = some (encN n) := by rw [St.box_ne n13.symm, St.box_ne n12.symm]; exact i1
        have g2 : ((st7.setBox b2 s'.cells).setBox b3 [.int .i64 0]).box b2 = some s'.cells := by rw [St.box_ne n23.symm, St.box_same]
        have gl : st.le ((st7.setBox b2 s'.cells).setBox b3 [.int .i64 0]) := St.le_setBox (St.le_setBox ile f2a.1 _) f3b.1 _
        repeat' ((conv => whnf); first | exact Yb0 | (refine Yb1 ?_; intros) | (refine Yb2 ?_ ?_ ?_; rotate_left) | (refine Yb3 ?_ ?_ <;> intro _) | refine at_box g1 ?_ | refine at_box g2 ?_ | refine at_box (St.box_same ..) ?_ | with_reducible refine WF ?_)
        all_goals exact finl gl rfl h
end
end Go.Proofs.YtkidoddkbhchkaaGreatDoor
set_option maxHeartbeats 16000000
set_option linter.unusedVariables false
set_option pp.maxSteps 400
namespace Go.Proofs.YtkidoddkbhchkaaGreatDoor
open Go Go.Aw
def mu (s : Sta) : Nat := 4 * (s.toks.length - s.pos.toNat) + s.opn.length + (2 - s.wait.toNat)
theorem opn_mu (s : Sta) : s.opn.length ≤ mu s := by unfold mu; omega
theorem closed_len {s : Sta} (h : s.opn ≠ []) : (closedF s).opn.length + 1 = s.opn.length := by
  have : 0 < s.opn.length := List.length_pos_iff.2 h
  simp only [closedF, List.length_dropLast]
  omega
theorem at_ltT {s : Sta} {t : Tk} (h : s.toks[s.pos.toNat]? = some t) : s.pos.toNat < s.toks.length := (List.getElem?_eq_some_iff.1 h).1
theorem end_mu {s : Sta} (h : (endFT s).2.2 = 0) : mu (endFT s).2.1 ≤ mu s ∧ ((endFT s).1.kind ≠ 21 → mu (endFT s).2.1 < mu s) := by
  unfold endFT at h ⊢
  split
  · exact ⟨Nat.le_refl _, fun e => absurd rfl e⟩
  · split
    · rename_i e1 e2
      have := closed_len e1
      refine ⟨?_, fun _ => ?_⟩ <;> simp only [mu, closedF] at * <;> omega
    · rename_i e1 e2
      rw [if_neg e1, if_neg e2] at h
      cases h
theorem begin_mu {t : Tk} {s : Sta} (h0 : 0 ≤ s.pos) (h1 : 0 ≤ s.wait) (h2 : s.wait < 2) (ht : s.toks[s.pos.toNat]? = some t) : mu (beginF t s).2 < mu s := by
  have := at_ltT ht
  unfold beginF
  split
  · rename_i e; simp only [mu]; rw [e, show Int.toNat 2 = 2 from rfl, show Int.toNat 1 = 1 from rfl]; omega
  · split
    · simp only [mu, openedF, List.length_append, List.length_singleton]; omega
    · simp only [mu]; omega
theorem line_mu {t : Tk} {s : Sta} (h0 : 0 ≤ s.pos) (h2 : s.wait ≤ 2) (ht : s.toks[s.pos.toNat]? = some t) : mu (lineF t s).2 < mu s := by
  have := at_ltT ht
  unfold lineF
  split
  · rename_i e
    have := closed_len (topF_open e.1)
    simp only [mu, closedF] at *; omega
  · split <;> (simp only [mu]; omega)
theorem brace_mu {t : Tk} {s : Sta} (h0 : 0 ≤ s.pos) (ht : s.toks[s.pos.toNat]? = some t) (h : (braceF t s).2.2 = 0) : mu (braceF t s).2.1 < mu s := by
  have := at_ltT ht
  unfold braceF at h ⊢
  split
  · simp only [mu, openedF, List.length_append, List.length_singleton]; omega
  · rename_i e1
    rw [if_neg e1] at h
    split
    · rename_i e2
      rw [if_pos e2] at h
      split
      · rename_i e3; rw [if_pos e3] at h; cases h
      · rename_i e3
        have := closed_len (s := s) (fun e => e3 (.inl e))
        simp only [mu, closedF] at *; omega
    · simp only [mu]; omega
theorem nextG_mu : ∀ (n : Nat) (s : Sta), 0 ≤ s.pos → 0 ≤ s.wait → s.wait ≤ 2 → (nextG n s).2.2 = 0 → mu (nextG n s).2.1 ≤ mu s ∧ ((nextG n s).1.kind ≠ 21 → mu (nextG n s).2.1 < mu s)
  | 0, s, h0, h1, h2, h => end_mu h
  | n + 1, s, h0, h1, h2, h => by
    unfold nextG at h ⊢
    cases ht : s.toks[s.pos.toNat]? with
    | none => rw [ht] at h; exact end_mu h
    | some t =>
      rw [ht] at h
      dsimp only at h ⊢
      split
      · rename_i e
        have := begin_mu h0 h1 e.2 ht
        exact ⟨Nat.le_of_lt this, fun _ => this⟩
      · rename_i e1
        rw [if_neg e1] at h
        have hl := line_mu h0 h2 ht
        split
        · rename_i e2
          rw [if_pos e2] at h
          split
          · rename_i e3
            rw [if_pos e3] at h
            have hz := lineF_zero e3
            have := nextG_mu n (lineF t s).2 (by rw [hz]; show 0 ≤ s.pos + 1; omega) (by rw [hz]; exact Int.le_refl _) (by rw [hz]; show (0 : Int) ≤ 2; decide) h
            exact ⟨by omega, fun e => by omega⟩
          · exact ⟨Nat.le_of_lt hl, fun _ => hl⟩
        · rename_i e2
          rw [if_neg e2] at h
          have := brace_mu h0 ht h
          exact ⟨Nat.le_of_lt this, fun _ => this⟩
theorem next_mu {s : Sta} (h : (nextM s).2.2 = 0) : mu (nextM s).2.1 ≤ mu s ∧ ((nextM s).1.kind ≠ 21 → mu (nextM s).2.1 < mu s) := by
  unfold nextM at h ⊢
  cases hm : mayF s with
  | false => rw [hm] at h; cases h
  | true =>
    rw [hm, if_pos rfl] at h
    rw [if_pos rfl]
    unfold mayF at hm
    simp only [Bool.and_eq_true, decide_eq_true_eq] at hm
    exact nextG_mu _ s (by omega) (by omega) (by omega) h
theorem end_err {s : Sta} (h : ¬ (endFT s).2.2 = 0) : (endFT s).1 = tk0 := by
  unfold endFT at h ⊢
  split
  · rename_i e; rw [if_pos e] at h; exact absurd rfl h
  · rename_i e; rw [if_neg e] at h
    split
    · rename_i e; rw [if_pos e] at h; exact absurd rfl h
    · rfl
theorem brace_err {t : Tk} {s : Sta} (h : ¬ (braceF t s).2.2 = 0) : (braceF t s).1 = tk0 := by
  unfold braceF at h ⊢
  split
  · rename_i e; rw [if_pos e] at h; exact absurd rfl h
  · rename_i e; rw [if_neg e] at h
    split
    · rename_i e; rw [if_pos e] at h
      split
      · rfl
      · rename_i e; rw [if_neg e] at h; exact absurd rfl h
    · rename_i e; rw [if_neg e] at h; exact absurd rfl h
theorem nextG_err : ∀ (n : Nat) (s : Sta), ¬ (nextG n s).2.2 = 0 → (nextG n s).1 = tk0
  | 0, s, h => end_err h
  | n + 1, s, h => by
    unfold nextG at h ⊢
    cases ht : s.toks[s.pos.toNat]? with
    | none => rw [ht] at h; exact end_err h
    | some t =>
      rw [ht] at h
      dsimp only at h ⊢
      split
      · rename_i e; rw [if_pos e] at h; exact absurd rfl h
      · rename_i e; rw [if_neg e] at h
        split
        · rename_i e; rw [if_pos e] at h
          split
          · rename_i e; rw [if_pos e] at h; exact nextG_err n _ h
          · rename_i e; rw [if_neg e] at h; exact absurd rfl h
        · rename_i e; rw [if_neg e] at h; exact brace_err h
theorem next_err {s : Sta} (h : ¬ (nextM s).2.2 = 0) : (nextM s).1 = tk0 := by
  unfold nextM at h ⊢
  cases hm : mayF s with
  | false => rfl
  | true => rw [hm, if_pos rfl] at h; rw [if_pos rfl]; exact nextG_err _ _ h
theorem isF_ok {s : Sta} {k : Int} {x : List UInt8} (h : isF s k x = true) (hk : k ≠ 0) : (nextM s).2.2 = 0 := by
  apply Classical.byContradiction
  intro e
  unfold isF at h
  rw [next_err e] at h
  simp only [tk0, Bool.and_eq_true, beq_iff_eq] at h
  exact hk h.1.symm
theorem isF_mu {s : Sta} {k : Int} {x : List UInt8} (h : isF s k x = true) (hk : k ≠ 0) (hk2 : k ≠ 21) : mu (nextM s).2.1 < mu s := by
  refine (next_mu (isF_ok h hk)).2 fun e => ?_
  unfold isF at h
  simp only [Bool.and_eq_true, beq_iff_eq] at h
  exact hk2 (h.1.symm.trans e)
end Go.Proofs.YtkidoddkbhchkaaGreatDoor
set_option maxHeartbeats 16000000
set_option linter.unusedVariables false
set_option pp.maxSteps 400
namespace Go.Proofs.YtkidoddkbhchkaaGreatDoor
open Go Go.Aw
abbrev Ls := Sum (Int × Sta) (List Nd × Sta)
def takeP (s : Sta) : Rs := if (nextM s).2.2 = 0 then .inr (leafT (nextM s).1, (nextM s).2.1) else .inl ((nextM s).2.2, s)
def badP (s : Sta) : Rs := .inl (badE s, s)
def wantP (s : Sta) (k : Int) (x : List UInt8) : Rs := if isF s k x then takeP s else badP s
def startsF (t : Tk) : Bool := t.kind == 2 || t.kind == 4 || t.kind == 1 || (t.kind == 15 && (t.text == [40] || t.text == [91]))
def nodeK (k : Int) (l : List Nd) : Nd := .mk k 0 [] 0 0 l
def rowL (A : Sta → Rs) (l : List Nd) (s : Sta) : Ls :=
  if startsF (nextM s).1 then match A s with
    | .inl e => .inl e
    | .inr p => if mu p.2 < mu s then rowL A (l ++ [p.1]) p.2 else .inl (2, s)
  else .inr (l, s)
termination_by mu s
def rowP (A : Sta → Rs) (s : Sta) : Rs :=
  match A s with
  | .inl e => .inl e
  | .inr p => match rowL A [p.1] p.2 with
    | .inl e => .inl e
    | .inr q => if q.1.length = 1 then .inr (p.1, q.2) else .inr (nodeK 39 q.1, q.2)
def arrL (A : Sta → Rs) (l : List Nd) (s : Sta) : Ls :=
  if isF s 10 [45, 62] then match rowP A (nextM s).2.1 with
    | .inl e => .inl e
    | .inr p => if mu p.2 < mu s then arrL A (l ++ [leafT (nextM s).1, p.1]) p.2 else .inl (2, s)
  else .inr (l, s)
termination_by mu s
def arrowsP (A : Sta → Rs) (n : Nd) (s : Sta) : Rs :=
  match arrL A [n] s with
  | .inl e => .inl e
  | .inr q => if q.1.length = 1 then .inr (n, q.2) else .inr (nodeK 37 q.1, q.2)
def wholeP (A : Sta → Rs) (s : Sta) : Rs :=
  match rowP A s with
  | .inl e => .inl e
  | .inr p => arrowsP A p.1 p.2
def fullP (A : Sta → Rs) (s : Sta) : Rs :=
  match rowP A s with
  | .inl e => .inl e
  | .inr p => if isF p.2 10 [61, 62] then match wholeP A (nextM p.2).2.1 with
      | .inl e => .inl e
      | .inr q => .inr (nodeK 38 [p.1, leafT (nextM p.2).1, q.1], q.2)
    else arrowsP A p.1 p.2
def typesL (Y : Sta → Rs) (l : List Nd) (s : Sta) : Ls :=
  if isF s 15 [44] then match Y (nextM s).2.1 with
    | .inl e => .inl e
    | .inr p => if mu p.2 < mu s then typesL Y (l ++ [leafT (nextM s).1, p.1]) p.2 else .inl (2, s)
  else .inr (l, s)
termination_by mu s
def commaL (l : List Nd) (s : Sta) : List Nd × Sta :=
  if isF s 15 [44] then if mu (nextM s).2.1 < mu s then commaL (l ++ [leafT (nextM s).1]) (nextM s).2.1 else (l, s) else (l, s)
termination_by mu s
def finP (k : Int) (l : List Nd) (s : Sta) (x : List UInt8) : Rs := match wantP s 15 x with
  | .inl e => .inl e
  | .inr p => .inr (nodeK k (l ++ [p.1]), p.2)
def roundP (Y : Sta → Rs) (s : Sta) : Rs :=
  match takeP s with
  | .inl e => .inl e
  | .inr p =>
    if isF p.2 10 [45, 62] then finP 3 [p.1, leafT (nextM p.2).1] (nextM p.2).2.1 [41]
    else if isF p.2 15 [41] then finP 3 [p.1] p.2 [41]
    else if isF p.2 15 [44] then finP 3 (commaL [p.1] p.2).1 (commaL [p.1] p.2).2 [41]
    else match Y p.2 with
      | .inl e => .inl e
      | .inr q => match typesL Y [p.1, q.1] q.2 with
        | .inl e => .inl e
        | .inr r => finP (if 2 < r.1.length then 5 else 4) r.1 r.2 [41]
def squareP (Y : Sta → Rs) (s : Sta) : Rs :=
  match takeP s with
  | .inl e => .inl e
  | .inr p =>
    if isF p.2 15 [93] then .inr (nodeK 3 [p.1, leafT (nextM p.2).1], (nextM p.2).2.1)
    else match Y p.2 with
      | .inl e => .inl e
      | .inr q => finP 6 [p.1, q.1] q.2 [93]
def atomP (Y : Sta → Rs) (s : Sta) : Rs :=
  if startsF (nextM s).1 then if (nextM s).1.kind = 15 then if (nextM s).1.text = [40] then roundP Y s else squareP Y s else takeP s else badP s
def typeP : Nat → Sta → Rs
  | 0, s => .inl (2, s)
  | d + 1, s => wholeP (atomP (typeP d)) s
def Bads (A : Sta → Rs) : Prop := ∀ s e s', A s = .inl (e, s') → e ≠ 0
def Falls (A : Sta → Rs) : Prop := ∀ s n s', A s = .inr (n, s') → mu s' < mu s
theorem badE_ne (s : Sta) : badE s ≠ 0 := by
  unfold badE
  split
  · decide
  · rename_i e; exact e
theorem bads_take : Bads takeP := fun s e s' h => by
  unfold takeP at h
  split at h
  · cases h
  · rename_i hn; cases h; exact hn
theorem bads_bad : Bads badP := fun s e s' h => by unfold badP at h; cases h; exact badE_ne s
theorem bads_want {k : Int} {x : List UInt8} : Bads (fun s => wantP s k x) := fun s e s' h => by
  unfold wantP at h
  dsimp only at h
  split at h
  · exact bads_take _ _ _ h
  · exact bads_bad _ _ _ h
theorem bads_fin {k : Int} {l : List Nd} {x : List UInt8} : Bads (fun s => finP k l s x) := fun s e s' h => by
  unfold finP at h
  dsimp only at h
  split at h
  · rename_i e1 hw
    cases h
    exact bads_want _ _ _ hw
  · cases h
theorem rowL_bad {A : Sta → Rs} (hA : Bads A) (l : List Nd) (s : Sta) : ∀ e s', rowL A l s = .inl (e, s') → e ≠ 0 := by
  fun_induction rowL A l s with
  | case1 l s h1 e1 h2 => intro e s' h; cases h; exact hA _ _ _ h2
  | case2 l s h1 p h2 h3 ih => exact ih
  | case3 l s h1 p h2 h3 => intro e s' h; cases h; decide
  | case4 l s h1 => intro e s' h; cases h
theorem bads_row {A : Sta → Rs} (hA : Bads A) : Bads (rowP A) := fun s e s' h => by
  unfold rowP at h
  split at h
  · rename_i h1; cases h; exact hA _ _ _ h1
  · split at h
    · rename_i h1; cases h; exact rowL_bad hA _ _ _ _ h1
    · split at h <;> cases h
theorem arrL_bad {A : Sta → Rs} (hA : Bads A) (l : List Nd) (s : Sta) : ∀ e s', arrL A l s = .inl (e, s') → e ≠ 0 := by
  fun_induction arrL A l s with
  | case1 l s h1 e1 h2 => intro e s' h; cases h; exact bads_row hA _ _ _ h2
  | case2 l s h1 p h2 h3 ih => exact ih
  | case3 l s h1 p h2 h3 => intro e s' h; cases h; decide
  | case4 l s h1 => intro e s' h; cases h
theorem bads_arrows {A : Sta → Rs} (hA : Bads A) {n : Nd} : Bads (arrowsP A n) := fun s e s' h => by
  unfold arrowsP at h
  split at h
  · rename_i h1; cases h; exact arrL_bad hA _ _ _ _ h1
  · split at h <;> cases h
theorem bads_whole {A : Sta → Rs} (hA : Bads A) : Bads (wholeP A) := fun s e s' h => by
  unfold wholeP at h
  split at h
  · rename_i h1; cases h; exact bads_row hA _ _ _ h1
  · exact bads_arrows hA _ _ _ h
theorem bads_full {A : Sta → Rs} (hA : Bads A) : Bads (fullP A) := fun s e s' h => by
  unfold fullP at h
  split at h
  · rename_i h1; cases h; exact bads_row hA _ _ _ h1
  · split at h
    · split at h
      · rename_i h1; cases h; exact bads_whole hA _ _ _ h1
      · cases h
    · exact bads_arrows hA _ _ _ h
theorem typesL_bad {Y : Sta → Rs} (hY : Bads Y) (l : List Nd) (s : Sta) : ∀ e s', typesL Y l s = .inl (e, s') → e ≠ 0 := by
  fun_induction typesL Y l s with
  | case1 l s h1 e1 h2 => intro e s' h; cases h; exact hY _ _ _ h2
  | case2 l s h1 p h2 h3 ih => exact ih
  | case3 l s h1 p h2 h3 => intro e s' h; cases h; decide
  | case4 l s h1 => intro e s' h; cases h
theorem bads_round {Y : Sta → Rs} (hY : Bads Y) : Bads (roundP Y) := fun s e s' h => by
  unfold roundP at h
  split at h
  · rename_i h1; cases h; exact bads_take _ _ _ h1
  · split at h
    · exact bads_fin _ _ _ h
    · split at h
      · exact bads_fin _ _ _ h
      · split at h
        · exact bads_fin _ _ _ h
        · split at h
          · rename_i h1; cases h; exact hY _ _ _ h1
          · split at h
            · rename_i h1; cases h; exact typesL_bad hY _ _ _ _ h1
            · exact bads_fin _ _ _ h
theorem bads_square {Y : Sta → Rs} (hY : Bads Y) : Bads (squareP Y) := fun s e s' h => by
  unfold squareP at h
  split at h
  · rename_i h1; cases h; exact bads_take _ _ _ h1
  · split at h
    · cases h
    · split at h
      · rename_i h1; cases h; exact hY _ _ _ h1
      · exact bads_fin _ _ _ h
theorem bads_atom {Y : Sta → Rs} (hY : Bads Y) : Bads (atomP Y) := fun s e s' h => by
  unfold atomP at h
  split at h
  · split at h
    · split at h
      · exact bads_round hY _ _ _ h
      · exact bads_square hY _ _ _ h
    · exact bads_take _ _ _ h
  · exact bads_bad _ _ _ h
theorem bads_type : ∀ d, Bads (typeP d)
  | 0 => fun s e s' h => by cases h; decide
  | d + 1 => bads_whole (bads_atom (bads_type d))
theorem take_mu {s : Sta} {n : Nd} {s' : Sta} (h : takeP s = .inr (n, s')) : mu s' ≤ mu s ∧ ((nextM s).1.kind ≠ 21 → mu s' < mu s) := by
  unfold takeP at h
  split at h
  · rename_i e; cases h; exact next_mu e
  · cases h
theorem want_mu {s : Sta} {k : Int} {x : List UInt8} {n : Nd} {s' : Sta} (hk : k ≠ 0) (hk2 : k ≠ 21) (h : wantP s k x = .inr (n, s')) : mu s' < mu s := by
  unfold wantP at h
  split at h
  · rename_i e
    unfold takeP at h
    rw [if_pos (isF_ok e hk)] at h
    cases h
    exact isF_mu e hk hk2
  · cases h
theorem fin_mu {s : Sta} {k : Int} {l : List Nd} {x : List UInt8} {n : Nd} {s' : Sta} (h : finP k l s x = .inr (n, s')) : mu s' < mu s := by
  unfold finP at h
  split at h
  · cases h
  · rename_i h1; cases h; exact want_mu (by decide) (by decide) h1
theorem starts_mu {s : Sta} {n : Nd} {s' : Sta} (hs : startsF (nextM s).1 = true) (h : takeP s = .inr (n, s')) : mu s' < mu s := by
  refine (take_mu h).2 fun e => ?_
  unfold startsF at hs
  rw [e] at hs
  simp at hs
theorem rowL_mu {A : Sta → Rs} (l : List Nd) (s : Sta) : ∀ q s', rowL A l s = .inr (q, s') → mu s' ≤ mu s := by
  fun_induction rowL A l s with
  | case1 l s h1 e1 h2 => intro e s' h; cases h
  | case2 l s h1 p h2 h3 ih => intro e s' h; have := ih e s' h; omega
  | case3 l s h1 p h2 h3 => intro e s' h; cases h
  | case4 l s h1 => intro e s' h; cases h; exact Nat.le_refl _
theorem falls_row {A : Sta → Rs} (hA : Falls A) : Falls (rowP A) := fun s n s' h => by
  unfold rowP at h
  split at h
  · cases h
  · rename_i h1
    have := hA _ _ _ h1
    split at h
    · cases h
    · rename_i h2
      have := rowL_mu _ _ _ _ h2
      split at h <;> (cases h; omega)
theorem arrL_mu {A : Sta → Rs} (l : List Nd) (s : Sta) : ∀ q s', arrL A l s = .inr (q, s') → mu s' ≤ mu s := by
  fun_induction arrL A l s with
  | case1 l s h1 e1 h2 => intro e s' h; cases h
  | case2 l s h1 p h2 h3 ih => intro e s' h; have := ih e s' h; omega
  | case3 l s h1 p h2 h3 => intro e s' h; cases h
  | case4 l s h1 => intro e s' h; cases h; exact Nat.le_refl _
theorem arrows_mu {A : Sta → Rs} {n m : Nd} {s s' : Sta} (h : arrowsP A n s = .inr (m, s')) : mu s' ≤ mu s := by
  unfold arrowsP at h
  split at h
  · cases h
  · rename_i h1
    have := arrL_mu _ _ _ _ h1
    split at h <;> (cases h; exact this)
theorem falls_whole {A : Sta → Rs} (hA : Falls A) : Falls (wholeP A) := fun s n s' h => by
  unfold wholeP at h
  split at h
  · cases h
  · rename_i h1
    have := falls_row hA _ _ _ h1
    have := arrows_mu h
    omega
theorem typesL_mu {Y : Sta → Rs} (l : List Nd) (s : Sta) : ∀ q s', typesL Y l s = .inr (q, s') → mu s' ≤ mu s := by
  fun_induction typesL Y l s with
  | case1 l s h1 e1 h2 => intro e s' h; cases h
  | case2 l s h1 p h2 h3 ih => intro e s' h; have := ih e s' h; omega
  | case3 l s h1 p h2 h3 => intro e s' h; cases h
  | case4 l s h1 => intro e s' h; cases h; exact Nat.le_refl _
theorem commaL_mu (l : List Nd) (s : Sta) : mu (commaL l s).2 ≤ mu s := by
  fun_induction commaL l s with
  | case1 l s h1 h2 ih => omega
  | case2 l s h1 h2 => exact Nat.le_refl _
  | case3 l s h1 => exact Nat.le_refl _
theorem round_mu {Y : Sta → Rs} (hY : Falls Y) {s : Sta} {n : Nd} {s' : Sta} (hs : startsF (nextM s).1 = true) (h : roundP Y s = .inr (n, s')) : mu s' < mu s := by
  unfold roundP at h
  split at h
  · cases h
  · rename_i h1
    have := starts_mu hs h1
    split at h
    · rename_i h2
      have := isF_mu h2 (by decide) (by decide)
      have := fin_mu h
      omega
    · split at h
      · have := fin_mu h; omega
      · split at h
        · have := fin_mu h
          have := commaL_mu [‹Nd × Sta›.1] ‹Nd × Sta›.2
          omega
        · split at h
          · cases h
          · rename_i h2
            have := hY _ _ _ h2
            split at h
            · cases h
            · rename_i h3
              have := typesL_mu _ _ _ _ h3
              have := fin_mu h
              omega
theorem square_mu {Y : Sta → Rs} (hY : Falls Y) {s : Sta} {n : Nd} {s' : Sta} (hs : startsF (nextM s).1 = true) (h : squareP Y s = .inr (n, s')) : mu s' < mu s := by
  unfold squareP at h
  split at h
  · cases h
  · rename_i h1
    have := starts_mu hs h1
    split at h
    · rename_i h2
      have := isF_mu h2 (by decide) (by decide)
      cases h
      omega
    · split at h
      · cases h
      · rename_i h2
        have := hY _ _ _ h2
        have := fin_mu h
        omega
theorem falls_atom {Y : Sta → Rs} (hY : Falls Y) : Falls (atomP Y) := fun s n s' h => by
  unfold atomP at h
  split at h
  · rename_i hs
    split at h
    · split at h
      · exact round_mu hY hs h
      · exact square_mu hY hs h
    · exact starts_mu hs h
  · cases h
theorem falls_type : ∀ d, Falls (typeP d)
  | 0 => fun s n s' h => by cases h
  | d + 1 => falls_whole (falls_atom (falls_type d))
end Go.Proofs.YtkidoddkbhchkaaGreatDoor
set_option maxHeartbeats 16000000
set_option linter.unusedVariables false
set_option pp.maxSteps 400
namespace Go.Proofs.YtkidoddkbhchkaaGreatDoor
open Go Go.Aw
def encQ (n : Nd) (s : Sta) (e : Int) : V := .agg [.int .i64 n.kind, .int .i64 n.form, .str n.text, .int .i64 n.line, .int .i64 n.col, .slice 6 (encs n.kids) .any,
  .slice 4 (encTs s.toks) .any, .int .i64 s.pos, .slice 1 (ints s.opn) .any, .int .i64 s.wait, .int .i64 e]
section
variable {st : St} {R : Res → St → Prop}
attribute [local irreducible] Go.Aw.appendTo
def encRs : Rs → V
  | .inr (n, s) => encQ n s 0
  | .inl (e, s) => encQ nd0 s e
end
end Go.Proofs.YtkidoddkbhchkaaGreatDoor
set_option maxHeartbeats 16000000
set_option linter.unusedVariables false
set_option pp.maxSteps 400
namespace Go.Proofs.YtkidoddkbhchkaaGreatDoor
open Go Go.Aw
theorem tells_of {st : St} {b : Nat} {K : Res → St → Prop} {q : Rs} (h : ∀ n s', q = .inr (n, s') → ∀ st', Upd st st' b s' → K (.ret (enc n)) st') (k : ∀ e s', q = .inl (e, s') → ∀ st', Upd st st' b s' → K (.pan (fault e)) st') : Tells st b K q := by
  match q with
  | .inr (n, s') => exact h n s' rfl
  | .inl (e, s') => exact k e s' rfl
theorem Has.hw {st : St} {b : Nat} {s : Sta} (h : Has st b s) (own : Own) (n : Nat) : Has (own.st st n) b s := by
  cases own with
  | any => exact h
  | full => exact h
  | tok t => exact h
theorem upd_own {own : Own} {st st' : St} {n b : Nat} {s s' : Sta} (hg : own.good st) (hh : Has st b s) (hu : Upd (own.st st n) st' b s') : ∃ st2, st' = own.st st2 n ∧ Upd st st2 b s' ∧ own.good st2 := by
  obtain ⟨h1, cs, e⟩ := hu
  cases own with
  | any => exact hg.elim
  | full => exact ⟨st', rfl, ⟨h1, cs, e⟩, trivial⟩
  | tok t =>
    refine ⟨st.setBox b cs, e, ⟨?_, cs, rfl⟩, ?_, ?_⟩
    · rw [e] at h1; exact h1
    · have : b ≠ t := by
        rintro rfl
        have h2 : st.box b = none := hg.1
        rcases hh with k | ⟨_, _, _, _, _, k⟩ <;> (rw [h2] at k; cases k)
      rw [St.box_ne this]; exact hg.1
    · exact hg.2
def TellsO (own : Own) (n : Nat) (st : St) (b : Nat) (R : Res → St → Prop) : Rs → Prop
  | .inr (x, s') => ∀ st', Upd st st' b s' → own.good st' → R (.ret (enc x)) (own.st st' n)
  | .inl (e, s') => ∀ st', Upd st st' b s' → own.good st' → R (.pan (fault e)) (own.st st' n)
theorem tells_own {own : Own} {n : Nat} {st : St} {b : Nat} {s : Sta} {R : Res → St → Prop} {q : Rs} (hg : own.good st) (hh : Has st b s) (h : TellsO own n st b R q) : Tells (own.st st n) b R q := by
  refine tells_of (fun x s' e st' hu => ?_) (fun x s' e st' hu => ?_)
  · obtain ⟨st2, rfl, h2, h3⟩ := upd_own hg hh hu
    subst e
    exact h st2 h2 h3
  · obtain ⟨st2, rfl, h2, h3⟩ := upd_own hg hh hu
    subst e
    exact h st2 h2 h3
section
variable {st : St} {R : Res → St → Prop}
attribute [local irreducible] Go.Aw.appendTo
theorem starts_c {t : Tk} (h : R (.ret (.bool (startsF t))) st) : PC 159 [encT t] st R := by
  refine pB Tryz.func159 ?_
  repeat' ((conv => whnf); first | (refine Yb1 ?_; intros) | (refine Yb3 ?_ ?_ <;> intro _) | fail)
  all_goals conv => whnf
  all_goals (refine fin_bool h ?_; clear h; simp_all [startsF])
def Reads0 (f : FuncId) (d : Int) (A : Sta → Rs) : Prop := ∀ s, mu s ≤ 100000000 → Reads f s d (A s)
theorem opn_le {s : Sta} (h : mu s ≤ 100000000) : s.opn.length ≤ 500000000 := by have := opn_mu s; omega
theorem take_r {b : Nat} {s : Sta} (hs : Has st b s) (hb : s.opn.length ≤ 500000000) (h : Tells st b R (takeP s)) : PC 100 [.ptr b 0] st R := by
  unfold takeP at h
  refine take_c hs hb (fun e => ?_) (fun e => ?_)
  · rw [if_pos e] at h; exact h
  · rw [if_neg e] at h; exact h _ upd_look
theorem bad_d {b : Nat} {s : Sta} (hs : Has st b s) (hb : s.opn.length ≤ 500000000) (h : ∀ st', Upd st st' b s → R (.pan (fault (badE s))) st') : PC 191 [.ptr b 0] st R := bad_c hs hb (h _ upd_look)
theorem want_r {b : Nat} {s : Sta} {k : Int} {x : List UInt8} (hs : Has st b s) (hb : s.opn.length ≤ 500000000) (h : Tells st b R (wantP s k x)) : PC 167 [.ptr b 0, .int .i64 k, .str x] st R := by
  unfold wantP takeP at h
  refine want_c hs hb (fun e1 e2 => ?_) (fun e1 e2 => ?_) (fun e1 => ?_)
  · rw [if_pos e1, if_pos e2] at h; exact h
  · rw [if_pos e1, if_neg e2] at h; exact h _ upd_look
  · rw [if_neg (by rw [e1]; decide)] at h; exact h _ upd_look
theorem atom_c {d : Int} {Y : Sta → Rs} (hr : Reads0 232 d (roundP Y)) (hsq : Reads0 233 d (squareP Y)) : Reads0 158 d (atomP Y) := by
  intro s hm b st R hs h
  refine pB Tryz.func158 ?_
  have hb := opn_le hm
  have hl : Has (st.setBox b (lookC s)) b s := .inl (St.box_same ..)
  unfold atomP at h
  repeat' ((conv => whnf); first | (refine Yb1 ?_; intros) | (refine Yb3 ?_ ?_ <;> intro _) | refine peek_c hs hb ?_ | refine starts_c ?_ | refine take_r hl hb (tells_of (fun n s' hq st' hu => ?_) (fun e s' hq st' hu => ?_)) | refine bad_d hl hb (fun st' hu => ?_) | refine hr s hm b _ _ hl (tells_of (fun n s' hq st' hu => ?_) (fun e s' hq st' hu => ?_)) | refine hsq s hm b _ _ hl (tells_of (fun n s' hq st' hu => ?_) (fun e s' hq st' hu => ?_)))
  all_goals repeat (first | rw [if_pos (by assumption)] at h | rw [if_neg (by assumption)] at h | rw [if_neg (Bool.eq_false_iff.1 (by assumption))] at h)
  all_goals first
    | exact fin (h st' (upd_look.trans hu)) rfl
    | (rw [hq] at h; exact finw rfl (h st' (upd_look.trans hu)))
    | (rw [hq] at h; exact fin (h st' (upd_look.trans hu)) rfl)
  all_goals trace_state
end
end Go.Proofs.YtkidoddkbhchkaaGreatDoor
set_option maxHeartbeats 16000000
set_option linter.unusedVariables false
set_option pp.maxSteps 400
namespace Go.Proofs.YtkidoddkbhchkaaGreatDoor
open Go Go.Aw
theorem app_nodes {l new : List Nd} {own : Own} {st : St} {K : V → St → Prop} (h : own.good st) (hb : l.length + new.length ≤ 1000000000)
    (k : ∀ own' : Own, own'.good st → K (.slice 6 (encs (l ++ new)) own') (own'.st st ((l ++ new).length * 6))) : appendTo 6 72 (encs l) own (encs new) (own.st st (l.length * 6)) K := by
  have hw : (encs new).map (·.map V.wk0) = encs new := by
    rw [encs_map, List.map_map]
    refine List.map_congr_left fun x _ => ?_
    rfl
  have hsc : ((encs new).all fun v => v.all V.sc) = true := by
    rw [encs_map, List.all_map, List.all_eq_true]
    intro x _
    rfl
  have := appendTo_own (sz := 6) (bytes := 72) (es := encs l) (new := encs new) (K := K) h (by rw [encs_length, encs_length]; omega) (by rw [encs_length, encs_length]; simp only [lim]; omega) hsc (fun own' ho => by
    have := k own' ho
    rw [encs_length, encs_length, hw, ← encs_append, ← List.length_append]
    exact this)
  rw [encs_length] at this
  exact this
theorem app_node1 {l : List Nd} {x : Nd} {own : Own} {st : St} {K : V → St → Prop} (h : own.good st) (hb : l.length + 1 ≤ 1000000000)
    (k : ∀ own' : Own, own'.good st → K (.slice 6 (encs (l ++ [x])) own') (own'.st st ((l ++ [x]).length * 6))) : appendTo 6 72 (encs l) own [encN x] (own.st st (l.length * 6)) K := by
  have := app_nodes (l := l) (new := [x]) h hb k
  rw [encs_map [x]] at this
  exact this
theorem app_lit {l : List Nd} {x : Nd} {own : Own} {st : St} {K : V → St → Prop} (h : own.good st) (hb : l.length + 1 ≤ 1000000000)
    (k : ∀ own' : Own, own'.good st → K (.slice 6 (encs (l ++ [x])) own') (own'.st st ((l ++ [x]).length * 6))) : appendTo 6 72 (l.map encN) own [encN x] (own.st st (l.length * 6)) K := by
  rw [← encs_map]
  exact app_node1 h hb k
section
variable {st : St} {R : Res → St → Prop}
attribute [local irreducible] Go.Aw.appendTo
theorem tells_l {b : Nat} {K : Res → St → Prop} {q : Rs} {x : Int} {s' : Sta} (e : q = .inl (x, s')) (h : ∀ st', Upd st st' b s' → K (.pan (fault x)) st') : Tells st b K q := by subst e; exact h
theorem tellsO_of {own : Own} {m : Nat} {st : St} {b : Nat} {K : Res → St → Prop} {q : Rs} (h : ∀ n s', q = .inr (n, s') → ∀ st', Upd st st' b s' → own.good st' → K (.ret (enc n)) (own.st st' m)) (k : ∀ e s', q = .inl (e, s') → ∀ st', Upd st st' b s' → own.good st' → K (.pan (fault e)) (own.st st' m)) : TellsO own m st b K q := by
  match q with
  | .inr (n, s') => exact h n s' rfl
  | .inl (e, s') => exact k e s' rfl
theorem tells_r {b : Nat} {K : Res → St → Prop} {q : Rs} {x : Nd} {s' : Sta} (e : q = .inr (x, s')) (h : ∀ st', Upd st st' b s' → K (.ret (enc x)) st') : Tells st b K q := by subst e; exact h
def Calls3 (f : FuncId) (d : Int) (A : Sta → Rs) : Prop := ∀ s, mu s ≤ 100000000 → ∀ (st : St) (R : Res → St → Prop), R (.ret (encRT (catchR s d (A s)))) st → PC f [encS s, .int .i64 d] st R
theorem into_r {f : FuncId} {d : Nat} {A : Sta → Rs} (hf : Calls3 f d A) (h0 : d = 0 → ∀ s, A s = .inl (2, s)) (hA : Bads A) {b : Nat} {s : Sta} (hm : mu s ≤ 100000000) (hs : Has st b s) (h : Tells st b R (A s)) :
    PC 254 [.ptr b 0, .func f [] [], .int .i64 d] st R := by
  by_cases hd : (d : Int) < 1
  · have hz : d = 0 := by omega
    rw [h0 hz s] at h
    refine into_c (n := nd0) (s' := s) (e := 2) (fun st R k => hf s hm st R ?_) hs (fun e => by cases e) (fun _ => h)
    unfold catchR; rw [if_pos hd]; exact k
  · cases hq : A s with
    | inr p =>
      rw [hq] at h
      refine into_c (n := p.1) (s' := p.2) (e := 0) (fun st R k => hf s hm st R ?_) hs (fun _ => h) (fun e => absurd rfl e)
      unfold catchR; rw [if_neg hd, hq]; exact k
    | inl p =>
      rw [hq] at h
      have hne := hA s p.1 p.2 hq
      refine into_c (n := nd0) (s' := p.2) (e := p.1) (fun st R k => hf s hm st R ?_) hs (fun e => absurd e hne) (fun _ => h)
      unfold catchR; rw [if_neg hd, hq]; exact k
theorem into_e {f : FuncId} {d : Nat} {x : Int} {A : Sta → Rs} (hx : x = (d : Int)) (hf : Calls3 f d A) (h0 : d = 0 → ∀ s, A s = .inl (2, s)) (hA : Bads A) {b : Nat} {s : Sta} (hm : mu s ≤ 100000000) (hs : Has st b s) (h : Tells st b R (A s)) :
    PC 254 [.ptr b 0, .func f [] [], .int .i64 x] st R := by subst hx; exact into_r hf h0 hA hm hs h
theorem square_c {d : Nat} (hd : d ≤ 1000000) {Y : Sta → Rs} (hY : Calls3 287 d Y) (h0 : d = 0 → ∀ s, Y s = .inl (2, s)) (hB : Bads Y) (hF : Falls Y) : Reads0 233 ((d + 1 : Nat) : Int) (squareP Y) := by
  intro s hm b st R hs h
  refine pB Tryz.func233 ?_
  have hb := opn_le hm
  unfold squareP at h
  cases hq1 : takeP s with
  | inl q =>
    rw [hq1] at h
    obtain ⟨e, s'⟩ := q
    repeat' ((conv => whnf); first | (refine Yb1 ?_; intros) | (refine Yb3 ?_ ?_ <;> intro _) | refine take_r hs hb (tells_l hq1 (fun st1 h1 => ?_)))
    all_goals exact fin (h st1 h1) rfl
  | inr q =>
    obtain ⟨n1, s1⟩ := q
    rw [hq1] at h
    have hm1 : mu s1 ≤ 100000000 := by have := (take_mu hq1).1; omega
    have hb1 := opn_le hm1
    repeat' ((conv => whnf); first | (refine Yb1 ?_; intros) | (refine Yb3 ?_ ?_ <;> intro _) | refine take_r hs hb (tells_r hq1 (fun st1 h1 => ?_)) | refine is_c h1.1 hb1 ?_)
    · have hp : isF s1 15 [93] = true := by assumption
      have hl1 : Has (st1.setBox b (lookC s1)) b s1 := .inl (St.box_same ..)
      have hq2 : takeP s1 = .inr (leafT (nextM s1).1, (nextM s1).2.1) := by unfold takeP; rw [if_pos (isF_ok hp (by decide))]
      dsimp only at h
      rw [if_pos hp] at h
      have hn1 : [n1].length + 1 ≤ 1000000000 := by show 1 + 1 ≤ 1000000000; decide
      repeat' ((conv => whnf); first | (refine Yb1 ?_; intros) | (refine Yb3 ?_ ?_ <;> intro _) | refine take_r hl1 hb1 (tells_r hq2 (fun st2 h2 => ?_)) | refine app_lit (l := [n1]) (x := leafT (nextM s1).1) (own := .full) trivial hn1 (fun own1 ho1 => ?_))
      all_goals exact finl (Own.good_le ho1) rfl (h st2 (h1.trans (upd_look.trans h2)))
    · have hp : isF s1 15 [93] = false := by assumption
      have hl1 : Has (st1.setBox b (lookC s1)) b s1 := .inl (St.box_same ..)
      dsimp only at h
      rw [if_neg (by rw [hp]; decide)] at h
      have hn1 : [n1].length + 1 ≤ 1000000000 := by show 1 + 1 ≤ 1000000000; decide
      have hn2 : ∀ n2 : Nd, ([n1] ++ [n2]).length + 1 ≤ 1000000000 := fun _ => by simp only [List.length_append, List.length_singleton]; decide
      repeat' ((conv => whnf); first | (refine Yb1 ?_; intros) | (refine Yb3 ?_ ?_ <;> intro _) | refine into_e (by omega) hY h0 hB hm1 hl1 (tells_of (fun n2 s2 hq2 st2 h2 => ?_) (fun e2 s2 hq2 st2 h2 => ?_)) | refine app_lit (l := [n1]) (x := n2) (own := .full) trivial hn1 (fun own1 ho1 => ?_) | refine want_r (h2.1.hw own1 _) (opn_le (Nat.le_trans (Nat.le_of_lt (hF _ _ _ hq2)) hm1)) (tells_own ho1 h2.1 (tellsO_of (fun n3 s3 hq3 st3 h3 hg3 => ?_) (fun e3 s3 hq3 st3 h3 hg3 => ?_))) | refine app_node1 (l := [n1] ++ [n2]) (x := n3) hg3 (hn2 n2) (fun own2 ho2 => ?_))
      all_goals rw [hq2] at h
      · unfold finP at h
        dsimp only at h
        rw [hq3] at h
        exact finl (Own.good_le ho2) rfl (h st3 (((h1.trans upd_look).trans h2).trans h3))
      · unfold finP at h
        dsimp only at h
        rw [hq3] at h
        exact finl (Own.good_le hg3) rfl (h st3 (((h1.trans upd_look).trans h2).trans h3))
      · exact fin (h st2 ((h1.trans upd_look).trans h2)) rfl
end
end Go.Proofs.YtkidoddkbhchkaaGreatDoor
set_option maxHeartbeats 16000000
set_option linter.unusedVariables false
set_option pp.maxSteps 400
namespace Go.Proofs.YtkidoddkbhchkaaGreatDoor
open Go Go.Aw
theorem app_m {l : List Nd} {x : Nd} {own : Own} {st : St} {K : V → St → Prop} (h : own.good st) (hb : l.length + 1 ≤ 1000000000)
    (k : ∀ own' : Own, own'.good st → K (.slice 6 ((l ++ [x]).map encN) own') (own'.st st ((l ++ [x]).length * 6))) : appendTo 6 72 (l.map encN) own [encN x] (own.st st (l.length * 6)) K := by
  rw [← encs_map]
  exact app_node1 h hb (by simpa only [encs_map] using k)
theorem fin_node {k : Int} {l : List Nd} {own : Own} : Res.ret (enc (nodeK k l)) = (Res.ret (.agg [.int .i64 k, .int .i64 0, .str [], .int .i64 0, .int .i64 0, .slice 6 (l.map encN) own])).wk := by
  rw [← encs_map]; rfl
theorem rowL_at {A : Sta → Rs} {l : List Nd} {s : Sta} {n : Nd} {s' : Sta} (h : startsF (nextM s).1 = true) (hA : A s = .inr (n, s')) (hm : mu s' < mu s) : rowL A l s = rowL A (l ++ [n]) s' := by
  rw [rowL, if_pos h, hA]
  dsimp only
  rw [if_pos hm]
section
variable {st : St} {R : Res → St → Prop}
attribute [local irreducible] Go.Aw.appendTo
theorem len_m {l : List Nd} {K : Nat → Prop} (k : l.length < 4611686018427387904 → K l.length) : ∀ m, m = (l.map encN).length → m < lim → K m := fun m hm h => by
  rw [List.length_map] at hm; subst hm; exact k h
theorem own_set {own : Own} {st : St} {n b : Nat} {cs : List V} : (own.st st n).setBox b cs = own.st (st.setBox b cs) n := by cases own <;> rfl
theorem peek_o {own : Own} {n b : Nat} {s : Sta} (hg : own.good st) (hs : Has st b s) (hb : s.opn.length ≤ 500000000) (h : R (.ret (encT (nextM s).1)) (own.st (st.setBox b (lookC s)) n)) : PC 135 [.ptr b 0] (own.st st n) R :=
  peek_c (hs.hw own n) hb (by rw [own_set]; exact h)
theorem good_set {own : Own} {b : Nat} {s : Sta} {cs : List V} (hg : own.good st) (hs : Has st b s) : own.good (st.setBox b cs) := by
  cases own with
  | any => exact hg
  | full => trivial
  | tok t =>
    have : b ≠ t := by
      rintro rfl
      have h2 : st.box b = none := hg.1
      rcases hs with k | ⟨_, _, _, _, _, k⟩ <;> (rw [h2] at k; cases k)
    exact ⟨by rw [St.box_ne this]; exact hg.1, hg.2⟩
theorem one_at {l : List Nd} {n1 : Nd} {K : List V → Prop} (h : l.length = Int.toNat 1) (j : l.length = 1 → l = [n1]) (k : K (encN n1)) : (0 : Int) ≤ 0 ∧ ∃ e, (l.map encN)[Int.toNat 0]? = some e ∧ K e :=
  ⟨Int.le_refl _, encN n1, by rw [j h]; rfl, k⟩
theorem row_cT {d : Int} {A : Sta → Rs} (ha : Reads0 158 d A) (hF : Falls A) : Reads0 97 d (rowP A) := by
  intro s hm b st R hs h
  refine pB Tryz.func97 ?_
  unfold rowP at h
  cases hq1 : A s with
  | inl q =>
    obtain ⟨e, s1⟩ := q
    rw [hq1] at h
    repeat' ((conv => whnf); first | (refine Yb1 ?_; intros) | (refine Yb3 ?_ ?_ <;> intro _) | refine ha s hm b _ _ hs (tells_l hq1 (fun st1 h1 => ?_)))
    all_goals exact fin (h st1 h1) rfl
  | inr q =>
    obtain ⟨n1, s1⟩ := q
    rw [hq1] at h
    have hf1 := hF _ _ _ hq1
    dsimp only at h
    repeat' ((conv => whnf); first | (refine Yb1 ?_; intros) | (refine Yb3 ?_ ?_ <;> intro _) | refine ha s hm b _ _ hs (tells_r hq1 (fun st1 h1 => ?_)))
    refine loop_h (α := List Nd × Sta × St × Own) (fun x => [(5, .slice 6 (x.1.map encN) x.2.2.2)]) [0, 1, 4] (fun x => []) [0] (fun x => x.2.2.2.st x.2.2.1 (x.1.length * 6))
      (fun x => x.2.2.2.good x.2.2.1 ∧ Upd st x.2.2.1 b x.2.1 ∧ x.1 ≠ [] ∧ x.1.length + mu x.2.1 ≤ 200000000 ∧ mu x.2.1 ≤ mu s1 ∧ rowL A x.1 x.2.1 = rowL A [n1] s1 ∧ (x.1.length = 1 → x.1 = [n1])) (fun x => mu x.2.1) ([n1], s1, st1, .full)
      ⟨trivial, h1, by simp, by show 1 + mu s1 ≤ _; omega, Nat.le_refl _, rfl, fun _ => rfl⟩ Yl (St.le_refl _) ?_
    rintro ⟨l, s2, st2, own⟩ ⟨j1, j2, j3, j4, j5, j6, j7⟩
    dsimp only at j1 j2 j3 j4 j5 j6 j7
    have hm2 : mu s2 ≤ 100000000 := by omega
    have hb2 := opn_le hm2
    have hl3 : Has (st2.setBox b (lookC s2)) b s2 := .inl (St.box_same ..)
    have g3 : own.good (st2.setBox b (lookC s2)) := good_set j1 j2.1
    have u3 : Upd st (st2.setBox b (lookC s2)) b s2 := j2.trans upd_look
    have hn : l.length + 1 ≤ 1000000000 := by omega
    repeat' ((conv => whnf); first | (refine Yb1 ?_; intros) | (refine Yb3 ?_ ?_ <;> intro _) | refine peek_o j1 j2.1 hb2 ?_ | refine starts_c ?_ | refine ha s2 hm2 b _ _ (hl3.hw own _) (tells_own g3 hl3 (tellsO_of (fun n2 s4 hq2 st4 h4 g4 => ?_) (fun e2 s4 hq2 st4 h4 g4 => ?_))) | refine app_m (l := l) g4 hn (fun own' ho' => ?_) | refine len_m (fun _ => ?_) | refine one_at (by assumption) j7 ?_)
    · have hd := hF _ _ _ hq2
      refine ⟨(l ++ [n2], s4, st4, own'), ⟨ho', u3.trans h4, by simp, by show (l ++ [n2]).length + mu s4 ≤ _; rw [List.length_append, List.length_singleton]; omega, by show mu s4 ≤ _; omega, ?_, ?_⟩, hd, Yl, St.le_refl _⟩
      · show rowL A (l ++ [n2]) s4 = _
        rw [← j6, rowL_at (l := l) (by assumption) hq2 hd]
      · intro e
        have := List.length_pos_iff.2 j3
        have e : (l ++ [n2]).length = 1 := e
        rw [List.length_append, List.length_singleton] at e
        omega
    · have hr : rowL A l s2 = .inl (e2, s4) := by rw [rowL, if_pos (by assumption), hq2]
      rw [← j6, hr] at h
      exact finl (Own.good_le g4) rfl (h st4 (u3.trans h4))
    · have hr : rowL A l s2 = .inr (l, s2) := by rw [rowL, if_neg (Bool.eq_false_iff.1 (by assumption))]
      rw [← j6, hr] at h
      dsimp only at h
      rw [if_pos (by assumption)] at h
      exact finl (Own.good_le g3) rfl (h _ u3)
    · have hr : rowL A l s2 = .inr (l, s2) := by rw [rowL, if_neg (Bool.eq_false_iff.1 (by assumption))]
      rw [← j6, hr] at h
      dsimp only at h
      rw [if_neg (by assumption)] at h
      exact finl (Own.good_le g3) fin_node (h _ u3)
end
end Go.Proofs.YtkidoddkbhchkaaGreatDoor
set_option maxHeartbeats 16000000
set_option linter.unusedVariables false
set_option pp.maxSteps 400
namespace Go.Proofs.YtkidoddkbhchkaaGreatDoor
open Go Go.Aw
theorem app_m2 {l : List Nd} {x y : Nd} {own : Own} {st : St} {K : V → St → Prop} (h : own.good st) (hb : l.length + 2 ≤ 1000000000)
    (k : ∀ own' : Own, own'.good st → K (.slice 6 ((l ++ [x, y]).map encN) own') (own'.st st ((l ++ [x, y]).length * 6))) : appendTo 6 72 (l.map encN) own [encN x, encN y] (own.st st (l.length * 6)) K := by
  rw [← encs_map]
  have := app_nodes (l := l) (new := [x, y]) h hb (by simpa only [encs_map] using k)
  rw [encs_map [x, y]] at this
  exact this
theorem arrL_at {A : Sta → Rs} {l : List Nd} {s : Sta} {n : Nd} {s' : Sta} (h : isF s 10 [45, 62] = true) (hA : rowP A (nextM s).2.1 = .inr (n, s')) (hm : mu s' < mu s) : arrL A l s = arrL A (l ++ [leafT (nextM s).1, n]) s' := by
  rw [arrL, if_pos h, hA]
  dsimp only
  rw [if_pos hm]
theorem take_is {s : Sta} {k : Int} {x : List UInt8} (h : isF s k x = true) (hk : k ≠ 0) : takeP s = .inr (leafT (nextM s).1, (nextM s).2.1) := by unfold takeP; rw [if_pos (isF_ok h hk)]
section
variable {st : St} {R : Res → St → Prop}
attribute [local irreducible] Go.Aw.appendTo
theorem is_o {own : Own} {n b : Nat} {s : Sta} {k : Int} {x : List UInt8} (hs : Has st b s) (hb : s.opn.length ≤ 500000000) (h : R (.ret (.bool (isF s k x))) (own.st (st.setBox b (lookC s)) n)) : PC 98 [.ptr b 0, .int .i64 k, .str x] (own.st st n) R :=
  is_c (hs.hw own n) hb (by rw [own_set]; exact h)
theorem tells_ro {own : Own} {n : Nat} {st : St} {b : Nat} {s s' : Sta} {R : Res → St → Prop} {q : Rs} {x : Nd} (hg : own.good st) (hh : Has st b s) (e : q = .inr (x, s')) (h : ∀ st', Upd st st' b s' → own.good st' → R (.ret (enc x)) (own.st st' n)) : Tells (own.st st n) b R q :=
  tells_own hg hh (by subst e; exact h)
def ReadsN (f : FuncId) (d : Int) (A : Nd → Sta → Rs) : Prop := ∀ n s, mu s ≤ 100000000 → ∀ (b : Nat) (st : St) (R : Res → St → Prop), Has st b s → Tells st b R (A n s) → PC f [.ptr b 0, enc n, .int .i64 d] st R
theorem arrows_c {d : Int} {A : Sta → Rs} (hr : Reads0 97 d (rowP A)) (hF : Falls A) : ReadsN 99 d (arrowsP A) := by
  intro n1 s1 hm b st R hs h
  refine pB Tryz.func99 ?_
  unfold arrowsP at h
  repeat' ((conv => whnf); first | (refine Yb1 ?_; intros) | (refine Yb3 ?_ ?_ <;> intro _) | fail)
  refine loop_h (α := List Nd × Sta × St × Own) (fun x => [(7, .slice 6 (x.1.map encN) x.2.2.2)]) [0, 2, 4, 6] (fun x => []) [0, 1] (fun x => x.2.2.2.st x.2.2.1 (x.1.length * 6))
      (fun x => x.2.2.2.good x.2.2.1 ∧ Has x.2.2.1 b x.2.1 ∧ (∃ s0, Upd st x.2.2.1 b s0 ∨ x.2.2.1 = st) ∧ x.1 ≠ [] ∧ x.1.length + 2 * mu x.2.1 ≤ 400000000 ∧ mu x.2.1 ≤ mu s1 ∧ arrL A x.1 x.2.1 = arrL A [n1] s1) (fun x => mu x.2.1) ([n1], s1, st, .full)
      ⟨trivial, hs, ⟨s1, .inr rfl⟩, by simp, by show 1 + 2 * mu s1 ≤ _; omega, Nat.le_refl _, rfl⟩ Yl (St.le_refl _) ?_
  rintro ⟨l, s2, st2, own⟩ ⟨j1, j2, j3, j4, j5, j6, j7⟩
  dsimp only at j1 j2 j3 j4 j5 j6 j7
  have hm2 : mu s2 ≤ 100000000 := by omega
  have hb2 := opn_le hm2
  have hl3 : Has (st2.setBox b (lookC s2)) b s2 := .inl (St.box_same ..)
  have g3 : own.good (st2.setBox b (lookC s2)) := good_set j1 j2
  have up : ∀ {st4 s4}, Upd st2 st4 b s4 → Upd st st4 b s4 := fun {st4 s4} hu => by
    obtain ⟨s0, h3 | h3⟩ := j3
    · exact h3.trans hu
    · subst h3; exact hu
  have hn : l.length + 2 ≤ 1000000000 := by omega
  have hm4 : isF s2 10 [45, 62] = true → mu (nextM s2).2.1 ≤ 100000000 := fun e => by have := isF_mu e (by decide) (by decide); omega
  repeat' ((conv => whnf); first | (refine Yb1 ?_; intros) | (refine Yb3 ?_ ?_ <;> intro _) | refine is_o j2 hb2 ?_ | refine take_r (hl3.hw own _) hb2 (tells_ro g3 hl3 (take_is (by assumption) (by decide)) (fun st4 h4 g4 => ?_)) | refine hr _ (hm4 (by assumption)) b _ _ (h4.1.hw own _) (tells_own g4 h4.1 (tellsO_of (fun n2 s5 hq2 st5 h5 g5 => ?_) (fun e2 s5 hq2 st5 h5 g5 => ?_))) | refine app_m2 (l := l) (x := leafT (nextM s2).1) (y := n2) g5 hn (fun own' ho' => ?_) | refine len_m (fun _ => ?_))
  · have hp : isF s2 10 [45, 62] = true := by assumption
    have hd := falls_row hF _ _ _ hq2
    have hd2 := isF_mu hp (by decide) (by decide)
    have hd3 : mu s5 < mu s2 := by omega
    have hu := (upd_look (st := st2) (b := b) (s := s2)).trans (h4.trans h5)
    refine ⟨(l ++ [leafT (nextM s2).1, n2], s5, st5, own'), ⟨ho', h5.1, ⟨s5, .inl (up hu)⟩, by simp, ?_, by show mu s5 ≤ _; omega, ?_⟩, hd3, Yl, St.le_refl _⟩
    · show (l ++ [leafT (nextM s2).1, n2]).length + 2 * mu s5 ≤ _
      rw [List.length_append]
      show l.length + 2 + 2 * mu s5 ≤ _
      omega
    · show arrL A (l ++ [leafT (nextM s2).1, n2]) s5 = _
      rw [← j7, arrL_at (l := l) hp hq2 hd3]
  · have hp : isF s2 10 [45, 62] = true := by assumption
    have hu := (upd_look (st := st2) (b := b) (s := s2)).trans (h4.trans h5)
    have hr : arrL A l s2 = .inl (e2, s5) := by rw [arrL, if_pos hp, hq2]
    rw [← j7, hr] at h
    exact finl (Own.good_le g5) rfl (h st5 (up hu))
  · have hr : arrL A l s2 = .inr (l, s2) := by rw [arrL, if_neg (Bool.eq_false_iff.1 (by assumption))]
    rw [← j7, hr] at h
    dsimp only at h
    rw [if_pos (by assumption)] at h
    exact finl (Own.good_le g3) rfl (h _ (up upd_look))
  · have hr : arrL A l s2 = .inr (l, s2) := by rw [arrL, if_neg (Bool.eq_false_iff.1 (by assumption))]
    rw [← j7, hr] at h
    dsimp only at h
    rw [if_neg (by assumption)] at h
    exact finl (Own.good_le g3) fin_node (h _ (up upd_look))
theorem whole_c {d : Int} {A : Sta → Rs} (hr : Reads0 97 d (rowP A)) (ha : ReadsN 99 d (arrowsP A)) (hF : Falls A) : Reads0 101 d (wholeP A) := by
  intro s hm b st R hs h
  refine pB Tryz.func101 ?_
  unfold wholeP at h
  have hm1 : ∀ {n1 s1}, rowP A s = .inr (n1, s1) → mu s1 ≤ 100000000 := fun e => by have := falls_row hF _ _ _ e; omega
  repeat' ((conv => whnf); first | (refine Yb1 ?_; intros) | (refine Yb3 ?_ ?_ <;> intro _) | refine hr s hm b _ _ hs (tells_of (fun n1 s1 hq1 st1 h1 => ?_) (fun e1 s1 hq1 st1 h1 => ?_)) | refine ha n1 s1 (hm1 hq1) b _ _ h1.1 (tells_of (fun n2 s2 hq2 st2 h2 => ?_) (fun e2 s2 hq2 st2 h2 => ?_)))
  all_goals rw [hq1] at h
  all_goals dsimp only at h
  · rw [hq2] at h; exact finw rfl (h st2 (h1.trans h2))
  · rw [hq2] at h; exact fin (h st2 (h1.trans h2)) rfl
  · exact fin (h st1 h1) rfl
end
end Go.Proofs.YtkidoddkbhchkaaGreatDoor
set_option maxHeartbeats 16000000
set_option linter.unusedVariables false
set_option pp.maxSteps 400
set_option maxHeartbeats 16000000
set_option linter.unusedVariables false
set_option pp.maxSteps 400
namespace Go.Proofs.YtkidoddkbhchkaaGreatDoor
open Go Go.Aw
section
variable {st : St} {R : Res → St → Prop}
attribute [local irreducible] Go.Aw.appendTo
theorem type_c {deep : Int} {A : Sta → Rs} (h1 : ¬ deep < 1 → Reads0 101 (if 100 < deep then 100 else deep) A) : Calls3 287 deep A := by
  intro s hm st R h
  refine pB Tryz.func287 ?_
  repeat' ((conv => whnf); first | (refine Yb1 ?_; intros) | (refine Yb3 ?_ ?_ <;> intro _) | refine catch_c (s := s) (q := A s) (fun hd => h1 hd s hm) ?_)
  all_goals exact finw rfl h
theorem fullX_c {deep : Int} {A : Sta → Rs} (h1 : ¬ deep < 1 → Reads0 50 (if 100 < deep then 100 else deep) A) : Calls3 14 deep A := by
  intro s hm st R h
  refine pB Tryz.func14 ?_
  repeat' ((conv => whnf); first | (refine Yb1 ?_; intros) | (refine Yb3 ?_ ?_ <;> intro _) | refine catch_c (s := s) (q := A s) (fun hd => h1 hd s hm) ?_)
  all_goals exact finw rfl h
end
end Go.Proofs.YtkidoddkbhchkaaGreatDoor
set_option maxHeartbeats 16000000
set_option linter.unusedVariables false
set_option pp.maxSteps 400
namespace Go.Proofs.YtkidoddkbhchkaaGreatDoor
open Go Go.Aw
def typesP (Y : Sta → Rs) (n : Nd) (s : Sta) : Ls := match Y s with
  | .inl e => .inl e
  | .inr q => typesL Y [n, q.1] q.2
def TellsL (st : St) (b : Nat) (R : Res → St → Prop) : Ls → Prop
  | .inr (l, s') => ∀ st' own', Upd st st' b s' → own'.good st' → R (.ret (.slice 6 (l.map encN) own')) (own'.st st' (l.length * 6))
  | .inl (e, s') => ∀ st', Upd st st' b s' → R (.pan (fault e)) st'
theorem typesL_at {Y : Sta → Rs} {l : List Nd} {s : Sta} {n : Nd} {s' : Sta} (h : isF s 15 [44] = true) (hY : Y (nextM s).2.1 = .inr (n, s')) (hm : mu s' < mu s) : typesL Y l s = typesL Y (l ++ [leafT (nextM s).1, n]) s' := by
  rw [typesL, if_pos h, hY]
  dsimp only
  rw [if_pos hm]
section
variable {st : St} {R : Res → St → Prop}
attribute [local irreducible] Go.Aw.appendTo
theorem types_c {d : Nat} {Y : Sta → Rs} (hY : Calls3 287 d Y) (h0 : d = 0 → ∀ s, Y s = .inl (2, s)) (hB : Bads Y) (hF : Falls Y) {n1 : Nd} {s : Sta} {b : Nat} {x : Int} (hx : x = (d : Int)) (hm : mu s ≤ 100000000) (hs : Has st b s) (h : TellsL st b R (typesP Y n1 s)) :
    PC 286 [.ptr b 0, .slice 6 [encN n1] .full, .int .i64 x] st R := by
  refine pB Tryz.func286 ?_
  unfold typesP at h
  have hn1 : [n1].length + 1 ≤ 1000000000 := by show 1 + 1 ≤ 1000000000; decide
  repeat' ((conv => whnf); first | (refine Yb1 ?_; intros) | (refine Yb3 ?_ ?_ <;> intro _) | refine Yb4 (fun _ => ?_) ?_ | refine into_e hx hY h0 hB hm hs (tells_of (fun n2 s2 hq2 st2 h2 => ?_) (fun e2 s2 hq2 st2 h2 => ?_)) | refine app_m (l := [n1]) (x := n2) (own := .full) trivial hn1 (fun own1 ho1 => ?_))
  · rw [hq2] at h
    have hd2 := hF _ _ _ hq2
    dsimp only at h
    refine loop_h (α := List Nd × Sta × St × Own) (fun x => [(1, .slice 6 (x.1.map encN) x.2.2.2)]) [0, 2, 6] (fun x => []) [] (fun x => x.2.2.2.st x.2.2.1 (x.1.length * 6))
      (fun x => x.2.2.2.good x.2.2.1 ∧ Upd st x.2.2.1 b x.2.1 ∧ x.1.length + 2 * mu x.2.1 ≤ 400000000 ∧ mu x.2.1 ≤ mu s ∧ typesL Y x.1 x.2.1 = typesL Y [n1, n2] s2) (fun x => mu x.2.1) ([n1] ++ [n2], s2, st2, own1)
      ⟨ho1, h2, by show 2 + 2 * mu s2 ≤ _; omega, by show mu s2 ≤ _; omega, rfl⟩ Yl (St.le_refl _) ?_
    rintro ⟨l, s3, st3, own⟩ ⟨j1, j2, j5, j6, j7⟩
    dsimp only at j1 j2 j5 j6 j7
    have hm3 : mu s3 ≤ 100000000 := by omega
    have hb3 := opn_le hm3
    have hl3 : Has (st3.setBox b (lookC s3)) b s3 := .inl (St.box_same ..)
    have g3 : own.good (st3.setBox b (lookC s3)) := good_set j1 j2.1
    have hn : l.length + 2 ≤ 1000000000 := by omega
    have hm4 : isF s3 15 [44] = true → mu (nextM s3).2.1 ≤ 100000000 := fun e => by have := isF_mu e (by decide) (by decide); omega
    repeat' ((conv => whnf); first | (refine Yb1 ?_; intros) | (refine Yb3 ?_ ?_ <;> intro _) | refine Yb4 (fun _ => ?_) ?_ | refine is_o j2.1 hb3 ?_ | refine take_r (hl3.hw own _) hb3 (tells_ro g3 hl3 (take_is (by assumption) (by decide)) (fun st4 h4 g4 => ?_)) | refine into_e hx hY h0 hB (hm4 (by assumption)) (h4.1.hw own _) (tells_own g4 h4.1 (tellsO_of (fun n5 s5 hq5 st5 h5 g5 => ?_) (fun e5 s5 hq5 st5 h5 g5 => ?_))) | refine app_m2 (l := l) (x := leafT (nextM s3).1) (y := n5) g5 hn (fun own' ho' => ?_))
    all_goals conv => whnf
    · have hp : isF s3 15 [44] = true := by assumption
      have hd := hF _ _ _ hq5
      have hd3 := isF_mu hp (by decide) (by decide)
      have hd4 : mu s5 < mu s3 := by omega
      have hu := (upd_look (st := st3) (b := b) (s := s3)).trans (h4.trans h5)
      refine ⟨(l ++ [leafT (nextM s3).1, n5], s5, st5, own'), ⟨ho', j2.trans hu, ?_, by show mu s5 ≤ _; omega, ?_⟩, hd4, Yl, St.le_refl _⟩
      · show (l ++ [leafT (nextM s3).1, n5]).length + 2 * mu s5 ≤ _
        rw [List.length_append]
        show l.length + 2 + 2 * mu s5 ≤ _
        omega
      · show typesL Y (l ++ [leafT (nextM s3).1, n5]) s5 = _
        rw [← j7, typesL_at (l := l) hp hq5 hd4]
    · have hp : isF s3 15 [44] = true := by assumption
      have hu := (upd_look (st := st3) (b := b) (s := s3)).trans (h4.trans h5)
      have hr : typesL Y l s3 = .inl (e5, s5) := by rw [typesL, if_pos hp, hq5]
      rw [← j7, hr] at h
      exact finl (Own.good_le g5) rfl (h st5 (j2.trans hu))
    · have hr : typesL Y l s3 = .inr (l, s3) := by rw [typesL, if_neg (Bool.eq_false_iff.1 (by assumption))]
      rw [← j7, hr] at h
      exact fin (h _ own (j2.trans upd_look) g3) rfl
  · rw [hq2] at h
    exact fin (h st2 h2) rfl
end
end Go.Proofs.YtkidoddkbhchkaaGreatDoor
set_option maxHeartbeats 16000000
set_option linter.unusedVariables false
set_option pp.maxSteps 400
namespace Go.Proofs.YtkidoddkbhchkaaGreatDoor
open Go Go.Aw
section
variable {st : St} {R : Res → St → Prop}
attribute [local irreducible] Go.Aw.appendTo
theorem is_t {b : Nat} {s : Sta} {k : Int} {x : List UInt8} (e : isF s k x = true) (hs : Has st b s) (hb : s.opn.length ≤ 500000000) (h : R (.ret (.bool true)) (st.setBox b (lookC s))) : PC 98 [.ptr b 0, .int .i64 k, .str x] st R := is_c hs hb (by rw [e]; exact h)
theorem is_n {b : Nat} {s : Sta} {k : Int} {x : List UInt8} (e : isF s k x = false) (hs : Has st b s) (hb : s.opn.length ≤ 500000000) (h : R (.ret (.bool false)) (st.setBox b (lookC s))) : PC 98 [.ptr b 0, .int .i64 k, .str x] st R := is_c hs hb (by rw [e]; exact h)
theorem look_has {st : St} {b : Nat} {s : Sta} : Has (st.setBox b (lookC s)) b s := .inl (St.box_same ..)
theorem commaL_at {l : List Nd} {s : Sta} (h : isF s 15 [44] = true) : commaL l s = commaL (l ++ [leafT (nextM s).1]) (nextM s).2.1 := by
  rw [commaL, if_pos h, if_pos (isF_mu h (by decide) (by decide))]
theorem commaL_end {l : List Nd} {s : Sta} (h : isF s 15 [44] = false) : commaL l s = (l, s) := by
  rw [commaL, if_neg (by rw [h]; decide)]
theorem typesL_len {Y : Sta → Rs} (l : List Nd) (s : Sta) : ∀ q s', typesL Y l s = .inr (q, s') → q.length + 2 * mu s' ≤ l.length + 2 * mu s := by
  fun_induction typesL Y l s with
  | case1 l s h1 e1 h2 => intro e s' h; cases h
  | case2 l s h1 p h2 h3 ih =>
    intro e s' h
    have := ih e s' h
    rw [List.length_append] at this
    have e2 : [leafT (nextM s).1, p.1].length = 2 := rfl
    omega
  | case3 l s h1 p h2 h3 => intro e s' h; cases h
  | case4 l s h1 => intro e s' h; cases h; exact Nat.le_refl _
theorem typesP_mu {Y : Sta → Rs} (hF : Falls Y) {n : Nd} {s : Sta} {l : List Nd} {s' : Sta} (h : typesP Y n s = .inr (l, s')) : mu s' ≤ mu s ∧ l.length ≤ 2 + 2 * mu s := by
  unfold typesP at h
  split at h
  · cases h
  · rename_i h1
    have h2 := hF _ _ _ h1
    have h3 := typesL_mu _ _ _ _ h
    have h4 := typesL_len _ _ _ _ h
    have e2 : ∀ a b : Nd, [a, b].length = 2 := fun _ _ => rfl
    rw [e2] at h4
    omega
theorem tellsL_of {st : St} {b : Nat} {K : Res → St → Prop} {q : Ls} (h : ∀ l s', q = .inr (l, s') → ∀ st' own', Upd st st' b s' → own'.good st' → K (.ret (.slice 6 (l.map encN) own')) (own'.st st' (l.length * 6)))
    (k : ∀ e s', q = .inl (e, s') → ∀ st', Upd st st' b s' → K (.pan (fault e)) st') : TellsL st b K q := by
  match q with
  | .inr (l, s') => exact h l s' rfl
  | .inl (e, s') => exact k e s' rfl
theorem round_c {d : Nat} {x : Int} (hx : x = ((d + 1 : Nat) : Int)) (hd : d ≤ 1000000) {Y : Sta → Rs} (hY : Calls3 287 d Y) (h0 : d = 0 → ∀ s, Y s = .inl (2, s)) (hB : Bads Y) (hF : Falls Y) : Reads0 232 x (roundP Y) := by
  intro s hm b st R hs h
  refine pB Tryz.func232 ?_
  have hb := opn_le hm
  unfold roundP at h
  cases hq1 : takeP s with
  | inl q =>
    rw [hq1] at h
    obtain ⟨e, s'⟩ := q
    repeat' ((conv => whnf); first | (refine Yb1 ?_; intros) | (refine Yb3 ?_ ?_ <;> intro _) | refine take_r hs hb (tells_l hq1 (fun st1 h1 => ?_)))
    all_goals exact fin (h st1 h1) rfl
  | inr q =>
    obtain ⟨n1, s1⟩ := q
    rw [hq1] at h
    have hm1 : mu s1 ≤ 100000000 := by have := (take_mu hq1).1; omega
    have hb1 := opn_le hm1
    have hn1 : [n1].length + 1 ≤ 1000000000 := by show 1 + 1 ≤ 1000000000; decide
    dsimp only at h
    cases hA : isF s1 10 [45, 62] with
    | true =>
      rw [if_pos hA] at h
      have hb2 : (nextM s1).2.1.opn.length ≤ 500000000 := opn_le (by have := isF_mu hA (by decide) (by decide); omega)
      have hn2 : ∀ n2 : Nd, ([n1] ++ [n2]).length + 1 ≤ 1000000000 := fun _ => by show 2 + 1 ≤ 1000000000; decide
      repeat' ((conv => whnf); first | (refine Yb1 ?_; intros) | (refine Yb3 ?_ ?_ <;> intro _) | refine take_r hs hb (tells_r hq1 (fun st1 h1 => ?_)) | refine is_t hA h1.1 hb1 ?_ | refine take_r look_has hb1 (tells_r (take_is hA (by decide)) (fun st2 h2 => ?_)) | refine app_m (l := [n1]) (x := leafT (nextM s1).1) (own := .full) trivial hn1 (fun own1 ho1 => ?_) | refine want_r (h2.1.hw own1 _) hb2 (tells_own ho1 h2.1 (tellsO_of (fun n3 s3 hq3 st3 h3 hg3 => ?_) (fun e3 s3 hq3 st3 h3 hg3 => ?_))) | refine app_m (l := [n1] ++ [leafT (nextM s1).1]) (x := n3) hg3 (hn2 _) (fun own2 ho2 => ?_))
      all_goals unfold finP at h
      all_goals rw [hq3] at h
      · exact finl (Own.good_le ho2) fin_node (h st3 ((h1.trans upd_look).trans (h2.trans h3)))
      · exact finl (Own.good_le hg3) rfl (h st3 ((h1.trans upd_look).trans (h2.trans h3)))
    | false =>
    rw [if_neg (by rw [hA]; decide)] at h
    cases hC : isF s1 15 [41] with
    | true =>
      rw [if_pos hC] at h
      repeat' ((conv => whnf); first | (refine Yb1 ?_; intros) | (refine Yb3 ?_ ?_ <;> intro _) | refine take_r hs hb (tells_r hq1 (fun st1 h1 => ?_)) | refine is_n hA h1.1 hb1 ?_ | refine is_t hC look_has hb1 ?_ | refine want_r look_has hb1 (tells_of (fun n3 s3 hq3 st3 h3 => ?_) (fun e3 s3 hq3 st3 h3 => ?_)) | refine app_m (l := [n1]) (x := n3) (own := .full) trivial hn1 (fun own2 ho2 => ?_))
      all_goals unfold finP at h
      all_goals rw [hq3] at h
      · exact finl (Own.good_le ho2) fin_node (h st3 (((h1.trans upd_look).trans upd_look).trans h3))
      · exact fin (h st3 (((h1.trans upd_look).trans upd_look).trans h3)) rfl
    | false =>
    rw [if_neg (by rw [hC]; decide)] at h
    cases hE : isF s1 15 [44] with
    | true =>
      rw [if_pos hE] at h
      repeat' ((conv => whnf); first | (refine Yb1 ?_; intros) | (refine Yb3 ?_ ?_ <;> intro _) | refine take_r hs hb (tells_r hq1 (fun st1 h1 => ?_)) | refine is_n hA h1.1 hb1 ?_ | refine is_n hC look_has hb1 ?_ | refine is_t hE look_has hb1 ?_)
      refine loop_h (α := List Nd × Sta × St × Own) (fun x => [(5, .slice 6 (x.1.map encN) x.2.2.2)]) [0, 1, 4, 6] (fun x => []) [0] (fun x => x.2.2.2.st x.2.2.1 (x.1.length * 6))
        (fun x => x.2.2.2.good x.2.2.1 ∧ Upd st x.2.2.1 b x.2.1 ∧ x.1.length + mu x.2.1 ≤ 200000000 ∧ mu x.2.1 ≤ mu s1 ∧ commaL x.1 x.2.1 = commaL [n1] s1) (fun x => mu x.2.1) ([n1], s1, _, .full)
        ⟨trivial, ((h1.trans upd_look).trans upd_look).trans upd_look, by show 1 + mu s1 ≤ _; omega, Nat.le_refl _, rfl⟩ Yl (St.le_refl _) ?_
      rintro ⟨l, s3, st3, own⟩ ⟨j1, j2, j5, j6, j7⟩
      dsimp only at j1 j2 j5 j6 j7
      have hm3 : mu s3 ≤ 100000000 := by omega
      have hb3 := opn_le hm3
      have hl3 : Has (st3.setBox b (lookC s3)) b s3 := .inl (St.box_same ..)
      have g3 : own.good (st3.setBox b (lookC s3)) := good_set j1 j2.1
      have hn : l.length + 1 ≤ 1000000000 := by omega
      repeat' ((conv => whnf); first | (refine Yb1 ?_; intros) | (refine Yb3 ?_ ?_ <;> intro _) | refine is_o j2.1 hb3 ?_ | refine take_r (hl3.hw own _) hb3 (tells_ro g3 hl3 (take_is (by assumption) (by decide)) (fun st4 h4 g4 => ?_)) | refine app_m (l := l) (x := leafT (nextM s3).1) g4 hn (fun own' ho' => ?_) | refine want_r (hl3.hw own _) hb3 (tells_own g3 hl3 (tellsO_of (fun n5 s5 hq5 st5 h5 g5 => ?_) (fun e5 s5 hq5 st5 h5 g5 => ?_))) | refine app_m (l := l) (x := n5) g5 hn (fun own' ho' => ?_))
      all_goals conv => whnf
      · have hp : isF s3 15 [44] = true := by assumption
        have hd3 := isF_mu hp (by decide) (by decide)
        refine ⟨(l ++ [leafT (nextM s3).1], (nextM s3).2.1, st4, own'), ⟨ho', j2.trans (upd_look.trans h4), ?_, by show mu (nextM s3).2.1 ≤ _; omega, ?_⟩, hd3, Yl, St.le_refl _⟩
        · show (l ++ [leafT (nextM s3).1]).length + mu (nextM s3).2.1 ≤ _
          rw [List.length_append, List.length_singleton]
          omega
        · show commaL (l ++ [leafT (nextM s3).1]) (nextM s3).2.1 = _
          rw [← j7, commaL_at (l := l) hp]
      all_goals rw [← j7, commaL_end (by assumption)] at h
      all_goals unfold finP at h
      all_goals dsimp only at h
      all_goals rw [hq5] at h
      · exact finl (Own.good_le ho') fin_node (h st5 (j2.trans (upd_look.trans h5)))
      · exact finl (Own.good_le g5) rfl (h st5 (j2.trans (upd_look.trans h5)))
    | false =>
      rw [if_neg (by rw [hE]; decide)] at h
      replace h : Tells st b R (match typesP Y n1 s1 with
          | .inl e => (.inl e : Rs)
          | .inr r => finP (if 2 < r.1.length then 5 else 4) r.1 r.2 [41]) := by
        unfold typesP
        cases hy : Y s1 with
        | inl e => rw [hy] at h; exact h
        | inr q => rw [hy] at h; exact h
      have hbl : ∀ {l s2}, typesP Y n1 s1 = .inr (l, s2) → s2.opn.length ≤ 500000000 ∧ l.length + 1 ≤ 1000000000 := fun e => by
        have := typesP_mu hF e
        exact ⟨opn_le (by omega), by omega⟩
      repeat' ((conv => whnf); first | (refine Yb1 ?_; intros) | (refine Yb3 ?_ ?_ <;> intro _) | refine take_r hs hb (tells_r hq1 (fun st1 h1 => ?_)) | refine is_n hA h1.1 hb1 ?_ | refine is_n hC look_has hb1 ?_ | refine is_n hE look_has hb1 ?_ | refine types_c hY h0 hB hF (n1 := n1) (by omega) hm1 look_has (tellsL_of (fun l s2 hq2 st2 own1 h2 g2 => ?_) (fun e2 s2 hq2 st2 h2 => ?_)) | refine len_m (fun _ => ?_) | refine want_r (h2.1.hw own1 _) (hbl hq2).1 (tells_own g2 h2.1 (tellsO_of (fun n3 s3 hq3 st3 h3 hg3 => ?_) (fun e3 s3 hq3 st3 h3 hg3 => ?_))) | refine app_m (l := l) (x := n3) hg3 (hbl hq2).2 (fun own2 ho2 => ?_))
      all_goals rw [hq2] at h
      all_goals dsimp only at h
      all_goals try unfold finP at h
      all_goals try rw [hq3] at h
      all_goals have hu := (((h1.trans upd_look).trans upd_look).trans upd_look).trans h2
      · rw [if_pos (by omega)] at h
        exact finl (Own.good_le ho2) fin_node (h st3 (hu.trans h3))
      · exact finl (Own.good_le hg3) rfl (h st3 (hu.trans h3))
      · rw [if_neg (by omega)] at h
        exact finl (Own.good_le ho2) fin_node (h st3 (hu.trans h3))
      · exact finl (Own.good_le hg3) rfl (h st3 (hu.trans h3))
      · exact fin (h st2 hu) rfl
end
end Go.Proofs.YtkidoddkbhchkaaGreatDoor
set_option maxHeartbeats 16000000
set_option linter.unusedVariables false
set_option pp.maxSteps 400
set_option maxHeartbeats 16000000
set_option linter.unusedVariables false
namespace Go.Proofs.YtkidoddkbhchkaaGreatDoor
open Go Go.Aw
theorem type_zero {d : Nat} (h : d = 0) (s : Sta) : typeP d s = .inl (2, s) := by subst h; rfl
theorem atom_all {d : Nat} (hd : d + 1 ≤ 1000000) (h : Calls3 287 (d : Int) (typeP d)) : Reads0 158 ((d + 1 : Nat) : Int) (atomP (typeP d)) :=
  atom_c (round_c rfl (by omega) h (fun e s => type_zero e s) (bads_type d) (falls_type d)) (square_c (by omega) h (fun e s => type_zero e s) (bads_type d) (falls_type d))
theorem row_all {d : Nat} (hd : d + 1 ≤ 1000000) (h : Calls3 287 (d : Int) (typeP d)) : Reads0 97 ((d + 1 : Nat) : Int) (rowP (atomP (typeP d))) :=
  row_cT (atom_all hd h) (falls_atom (falls_type d))
theorem whole_all {d : Nat} (hd : d + 1 ≤ 1000000) (h : Calls3 287 (d : Int) (typeP d)) : Reads0 101 ((d + 1 : Nat) : Int) (wholeP (atomP (typeP d))) :=
  whole_c (row_all hd h) (arrows_c (row_all hd h) (falls_atom (falls_type d))) (falls_atom (falls_type d))
theorem type_all : ∀ d : Nat, d ≤ 100 → Calls3 287 (d : Int) (typeP d)
  | 0, _ => type_c fun h => absurd (by decide) h
  | d + 1, hd => type_c fun _ => by
    rw [if_neg (by omega)]
    exact whole_all (by omega) (type_all d (by omega))
def depF (deep : Int) : Nat := (if 100 < deep then 100 else deep).toNat
theorem dep_le (deep : Int) : depF deep ≤ 100 := by unfold depF; split <;> omega
theorem dep_eq {deep : Int} (h : ¬ deep < 1) : (if 100 < deep then 100 else deep) = ((depF deep - 1 + 1 : Nat) : Int) := by unfold depF; split <;> omega
end Go.Proofs.YtkidoddkbhchkaaGreatDoor
set_option maxHeartbeats 16000000
set_option linter.unusedVariables false
set_option pp.maxSteps 400
namespace Go.Proofs.YtkidoddkbhchkaaGreatDoor
open Go Go.Aw
def rn : Rs → Nd
  | .inr p => p.1
  | .inl _ => nd0
def rs : Rs → Sta
  | .inr p => p.2
  | .inl p => p.2
def re : Rs → Int
  | .inr _ => 0
  | .inl p => p.1
theorem encRs_eq (q : Rs) : encRs q = encQ (rn q) (rs q) (re q) := by cases q <;> rfl
theorem inr_of {A : Sta → Rs} (hB : Bads A) {s : Sta} (h : re (A s) = 0) : A s = .inr (rn (A s), rs (A s)) := by
  cases hq : A s with
  | inl p => obtain ⟨e, s'⟩ := p; rw [hq] at h; exact absurd h (hB _ _ _ hq)
  | inr p => rfl
def RCalls (f : FuncId) (d : Int) (A : Sta → Rs) : Prop := ∀ s, mu s ≤ 100000000 → ∀ (st : St) (R : Res → St → Prop), R (.ret (encRs (A s))) st → PC f [encS s, .int .i64 d] st R
theorem RCalls.e {f : FuncId} {d x : Int} {A : Sta → Rs} (h : RCalls f d A) (hx : x = d) {s : Sta} {q : Rs} (e : A s = q) (hm : mu s ≤ 100000000) {st : St} {R : Res → St → Prop} (k : R (.ret (encRs q)) st) : PC f [encS s, .int .i64 x] st R := by
  subst hx; subst e; exact h s hm st R k
theorem RCalls.q {f : FuncId} {d x : Int} {A : Sta → Rs} (h : RCalls f d A) (hx : x = d) {s : Sta} (hm : mu s ≤ 100000000) {st : St} {R : Res → St → Prop} (k : R (.ret (encQ (rn (A s)) (rs (A s)) (re (A s)))) st) : PC f [encS s, .int .i64 x] st R := by
  subst hx; exact h s hm st R (by rw [encRs_eq]; exact k)
end Go.Proofs.YtkidoddkbhchkaaGreatDoor
set_option maxHeartbeats 16000000
set_option linter.unusedVariables false
set_option pp.maxSteps 400
namespace Go.Proofs.YtkidoddkbhchkaaGreatDoor
open Go Go.Aw
section
variable {st : St} {R : Res → St → Prop}
attribute [local irreducible] Go.Aw.appendTo
theorem rowL_n {A : Sta → Rs} {l : List Nd} {s : Sta} (h : startsF (nextM s).1 = false) : rowL A l s = .inr (l, s) := by
  rw [rowL, if_neg (by rw [h]; decide)]
end
end Go.Proofs.YtkidoddkbhchkaaGreatDoor
set_option maxHeartbeats 16000000
set_option linter.unusedVariables false
set_option pp.maxSteps 400
namespace Go.Proofs.YtkidoddkbhchkaaGreatDoor
open Go Go.Aw
theorem arrL_n {A : Sta → Rs} {l : List Nd} {s : Sta} (h : isF s 10 [45, 62] = false) : arrL A l s = .inr (l, s) := by
  rw [arrL, if_neg (by rw [h]; decide)]
section
variable {st : St} {R : Res → St → Prop}
attribute [local irreducible] Go.Aw.appendTo
def docR (s : Sta) (deep : Int) (q : Rs) : Rs := if deep < 1 then .inl (2, s) else q
end
end Go.Proofs.YtkidoddkbhchkaaGreatDoor
set_option maxHeartbeats 16000000
set_option linter.unusedVariables false
set_option pp.maxSteps 400
set_option maxHeartbeats 16000000
set_option linter.unusedVariables false
set_option pp.maxSteps 400
namespace Go.Proofs.YtkidoddkbhchkaaGreatDoor
open Go Go.Aw
section
variable {st : St} {R : Res → St → Prop}
attribute [local irreducible] Go.Aw.appendTo
theorem full_c {d : Int} {A : Sta → Rs} (hr : Reads0 97 d (rowP A)) (ha : ReadsN 99 d (arrowsP A)) (hw : Reads0 101 d (wholeP A)) (hF : Falls A) : Reads0 50 d (fullP A) := by
  intro s hm b st R hs h
  refine pB Tryz.func50 ?_
  unfold fullP at h
  have hm1 : ∀ {n1 s1}, rowP A s = .inr (n1, s1) → mu s1 ≤ 100000000 := fun e => by have := falls_row hF _ _ _ e; omega
  have hm2 : ∀ {n1 s1}, rowP A s = .inr (n1, s1) → isF s1 10 [61, 62] = true → mu (nextM s1).2.1 ≤ 100000000 := fun e i => by have := hm1 e; have := isF_mu i (by decide) (by decide); omega
  repeat' ((conv => whnf); first | exact Yb0 | (refine Yb1 ?_; intros) | (refine Yb2 ?_ ?_ ?_; rotate_left) | (refine Yb3 ?_ ?_ <;> intro _) | refine hr s hm b _ _ hs (tells_of (fun n1 s1 hq1 st1 h1 => ?_) (fun e1 s1 hq1 st1 h1 => ?_)) | refine is_c h1.1 (opn_le (hm1 hq1)) ?_ | refine ha n1 s1 (hm1 hq1) b _ _ look_has (tells_of (fun n2 s2 hq2 st2 h2 => ?_) (fun e2 s2 hq2 st2 h2 => ?_)) | refine draw_mix [(0, true), (1, true), (3, true), (4, true), (2, false), (5, false), (6, true), (7, true), (8, false)] [0] (by kernel_rfl) ?_ | refine take_r look_has (opn_le (hm1 hq1)) (tells_r (take_is (by assumption) (by decide)) (fun st2 h2 => ?_)) | refine hw (nextM s1).2.1 (hm2 hq1 (by assumption)) b _ _ h2.1 (tells_of (fun n3 s3 hq3 st3 h3 => ?_) (fun e3 s3 hq3 st3 h3 => ?_)) | with_reducible refine WF ?_)
  all_goals rw [hq1] at h
  all_goals dsimp only at h
  · rw [if_pos (by assumption), hq3] at h
    exact finl (St.le_refl _) (fin_node (l := [n1, leafT (nextM s1).1, n3])) (h st3 ((h1.trans upd_look).trans (h2.trans h3)))
  · rw [if_pos (by assumption), hq3] at h
    intro e'
    exact fin (h st3 ((h1.trans upd_look).trans (h2.trans h3))) rfl
  · rw [if_neg (Bool.eq_false_iff.1 (by assumption)), hq2] at h
    exact finw rfl (h st2 ((h1.trans upd_look).trans h2))
  · rw [if_neg (Bool.eq_false_iff.1 (by assumption)), hq2] at h
    exact fin (h st2 ((h1.trans upd_look).trans h2)) rfl
  · exact fin (h st1 h1) rfl
theorem full_all {d : Nat} (hd : d + 1 ≤ 1000000) (h : Calls3 287 (d : Int) (typeP d)) : Reads0 50 ((d + 1 : Nat) : Int) (fullP (atomP (typeP d))) :=
  full_c (row_all hd h) (arrows_c (row_all hd h) (falls_atom (falls_type d))) (whole_all hd h) (falls_atom (falls_type d))
theorem fullX {deep : Int} : Calls3 14 deep (fullP (atomP (typeP (depF deep - 1)))) := fullX_c fun h => by
  rw [dep_eq h]
  have := dep_le deep
  exact full_all (by omega) (type_all _ (by omega))
end
end Go.Proofs.YtkidoddkbhchkaaGreatDoor
set_option maxHeartbeats 16000000
set_option linter.unusedVariables false
set_option pp.maxSteps 400
namespace Go.Aw
theorem bcase_t {b : Bool} {p q : Prop} (h : b = true) (k : p) : bcase b p q := Wk (fun _ => k) (fun e => by rw [h] at e; cases e)
theorem bcase_f {b : Bool} {p q : Prop} (h : b = false) (k : q) : bcase b p q := Wk (fun e => by rw [h] at e; cases e) (fun _ => k)
theorem WG {k l c : Int} {t : List UInt8} {p q : Prop} (h : p) : bcase (k == k && (t == t && (l == l && (c == c && true)))) p q := bcase_t (by simp) h
theorem WH {k l c : Int} {t : List UInt8} {p q : Prop} (h : q) : bcase (!(k == k && (t == t && (l == l && (c == c && true))))) p q := bcase_f (by simp) h
theorem WI {l : List Int} {i : Int} {x : Int} {K : List V → Prop} (h : l[i.toNat]? = some x) (h0 : 0 ≤ i) (k : K [.int .i64 x]) : 0 ≤ i ∧ ∃ e, (ints l)[i.toNat]? = some e ∧ K e := ⟨h0, _, by simp [ints, h], k⟩
end Go.Aw
namespace Go.Proofs.YtkidoddkbhchkaaGreatDoor
open Go Go.Aw
section
variable {st : St} {R : Res → St → Prop}
attribute [local irreducible] Go.Aw.appendTo
theorem word_c {k : Int} {x : List UInt8} (h : R (.ret (encT ⟨k, x, 0, 0⟩)) st) : PC 39 [.int .i64 k, .str x] st R := by
  refine pB Tryz.func39 ?_
  repeat' ((conv => whnf); first | (with_reducible first | refine Wt rfl ?_ | refine WG ?_ | refine WH ?_ | refine Wt (by first | assumption | omega) ?_ | refine Wu (by first | assumption | omega) ?_ | refine Wv (by omega) ?_ | refine Ww (by omega) ?_ | refine Wg (fun _ => ?_) (fun _ => ?_) | refine Wh (fun _ => ?_) (fun _ => ?_) | refine Wi ?_ | refine Wj ?_ | refine Wk (fun _ => ?_) (fun _ => ?_)))
  all_goals exact finw rfl h
end
theorem Ye1 {P A : Prop} (k : A) (h : A → P := by intro k; with_reducible first | (show bcase _ _ _; first | exact Wt rfl k | exact WG k | exact WH k | exact Wt (by first | assumption | omega) k | exact Wu (by first | assumption | omega) k | exact Wv (by omega) k | exact Ww (by omega) k | exact Wi k | exact Wj k) | (show _ ∧ _; first | exact WI (by assumption) (by omega) k | exact Wd (by kernel_rfl) k | exact Wm (by assumption) (by omega) k | exact Wn (by omega) (by omega) k | exact Wo (by omega) (by omega) k | exact Wp (by omega) (by omega) (by omega) k | exact Wr (by decide) (by omega) (by omega) k | exact Ws (by decide) k | exact WB (by assumption) (by omega) k | exact WC (by omega) (by omega) k | exact WD (by omega) (by omega) k | exact WE (by omega) (by omega) (by omega) k) | (intro x y z; exact Wl k x y z) | (intro x y z; exact Wz k x y z) | (intro x y z; exact WA k x y z) | (show Exists _; first | exact Wq (by omega) (by omega) k) | fail) : P := h k
theorem Ye3 {P A B : Prop} (k : A) (l : B) (h : A → B → P := by intro k l; with_reducible first | (show bcase _ _ _; first | exact Wf (by decide) k l | exact Wg k l | exact Wh k l | exact Wk k l) | fail) : P := h k l
end Go.Proofs.YtkidoddkbhchkaaGreatDoor
set_option maxHeartbeats 16000000
set_option linter.unusedVariables false
set_option pp.maxSteps 400
namespace Go.Aw
theorem el_lit {es : List (List V)} {i : Int} {e : List V} {K : List V → Prop} (h0 : 0 ≤ i) (h : es[i.toNat]? = some e) (k : K e) : 0 ≤ i ∧ ∃ e, es[i.toNat]? = some e ∧ K e := ⟨h0, e, h, k⟩
end Go.Aw
namespace Go.Proofs.YtkidoddkbhchkaaGreatDoor
open Go Go.Aw
def awl : List Tk := [⟨2, [69, 113], 0, 0⟩, ⟨1, [97], 0, 0⟩, ⟨10, [61, 62], 0, 0⟩, ⟨15, [91], 0, 0⟩, ⟨1, [97], 0, 0⟩, ⟨15, [93], 0, 0⟩, ⟨10, [45, 62], 0, 0⟩, ⟨1, [98], 0, 0⟩]
def aws (i : Int) : Sta := ⟨awl, i, [], 0⟩
def awt (i : Nat) : Nd := leafT (awl.getD i tk0)
theorem rowP_two {A : Sta → Rs} {s s1 s2 : Sta} {n1 n2 : Nd} (h1 : A s = .inr (n1, s1)) (h2 : startsF (nextM s1).1 = true) (h3 : A s1 = .inr (n2, s2)) (h4 : mu s2 < mu s1) (h5 : startsF (nextM s2).1 = false) : rowP A s = .inr (nodeK 39 [n1, n2], s2) := by
  unfold rowP
  rw [h1]
  dsimp only
  rw [rowL_at h2 h3 h4, rowL_n h5]
  rfl
theorem rowP_one {A : Sta → Rs} {s s1 : Sta} {n1 : Nd} (h1 : A s = .inr (n1, s1)) (h5 : startsF (nextM s1).1 = false) : rowP A s = .inr (n1, s1) := by
  unfold rowP
  rw [h1]
  dsimp only
  rw [rowL_n h5]
  rfl
theorem row0 (d : Nat) : rowP (atomP (typeP d)) (aws 0) = .inr (nodeK 39 [awt 0, awt 1], aws 2) := rowP_two (s1 := aws 1) rfl rfl rfl (by decide) rfl
theorem whole_one {A : Sta → Rs} {s s1 : Sta} {n : Nd} (h1 : rowP A s = .inr (n, s1)) (h2 : isF s1 10 [45, 62] = false) : wholeP A s = .inr (n, s1) := by
  unfold wholeP
  rw [h1]
  dsimp only
  unfold arrowsP
  rw [arrL_n h2]
  rfl
theorem type4 : typeP 1 (aws 4) = .inr (awt 4, aws 5) := by
  show wholeP (atomP (typeP 0)) (aws 4) = _
  exact whole_one (rowP_one rfl rfl) rfl
theorem sq3 : atomP (typeP 1) (aws 3) = .inr (nodeK 6 [awt 3, awt 4, awt 5], aws 6) := by
  have e : atomP (typeP 1) (aws 3) = match typeP 1 (aws 4) with
      | .inl e => .inl e
      | .inr q => finP 6 [awt 3, q.1] q.2 [93] := rfl
  rw [e, type4]
  rfl
theorem sq3b : atomP (typeP 0) (aws 3) = .inl (2, aws 4) := rfl
theorem whole3 : wholeP (atomP (typeP 1)) (aws 3) = .inr (nodeK 37 [nodeK 6 [awt 3, awt 4, awt 5], awt 6, awt 7], aws 8) := by
  unfold wholeP
  rw [rowP_one sq3 rfl]
  dsimp only
  unfold arrowsP
  rw [arrL_at (n := awt 7) (s' := aws 8) rfl (rowP_one (s1 := aws 8) rfl rfl) (by decide), arrL_n rfl]
  rfl
theorem whole3b : wholeP (atomP (typeP 0)) (aws 3) = .inl (2, aws 4) := by
  unfold wholeP rowP
  rw [sq3b]
def awn : Nd := nodeK 38 [nodeK 39 [awt 0, awt 1], awt 2, nodeK 37 [nodeK 6 [awt 3, awt 4, awt 5], awt 6, awt 7]]
theorem full2 : docR (aws 0) 2 (fullP (atomP (typeP (depF 2 - 1))) (aws 0)) = .inr (awn, aws 8) := by
  show docR (aws 0) 2 (fullP (atomP (typeP 1)) (aws 0)) = .inr (awn, aws 8)
  unfold docR fullP
  rw [row0, if_neg (by decide)]
  dsimp only
  rw [if_pos (show isF (aws 2) 10 [61, 62] = true from rfl), show (nextM (aws 2)).2.1 = aws 3 from rfl, whole3]
  rfl
theorem full1 : docR (aws 0) 1 (fullP (atomP (typeP (depF 1 - 1))) (aws 0)) = .inl (2, aws 4) := by
  show docR (aws 0) 1 (fullP (atomP (typeP 0)) (aws 0)) = .inl (2, aws 4)
  unfold docR fullP
  rw [row0, if_neg (by decide)]
  dsimp only
  rw [if_pos (show isF (aws 2) 10 [61, 62] = true from rfl), show (nextM (aws 2)).2.1 = aws 3 from rfl, whole3b]
theorem catchR_doc (s : Sta) (deep : Int) (q : Rs) : encRT (catchR s deep q) = .tup [enc (rn (docR s deep q)), encS (rs (docR s deep q)), .int .i64 (re (docR s deep q))] := by
  unfold catchR docR
  by_cases h : deep < 1
  · rw [if_pos h, if_pos h]; rfl
  · rw [if_neg h, if_neg h]
    cases q <;> rfl
section
variable {st : St} {R : Res → St → Prop}
attribute [local irreducible] Go.Aw.appendTo
theorem full_e {s : Sta} {deep : Int} {q : Rs} (hm : mu s ≤ 100000000) (hq : docR s deep (fullP (atomP (typeP (depF deep - 1))) s) = q) (h : R (.ret (.tup [enc (rn q), encS (rs q), .int .i64 (re q)])) st) : PC 14 [encS s, .int .i64 deep] st R :=
  fullX s hm st R (by rw [catchR_doc, hq]; exact h)
theorem awake_cT (h : R (.ret (.bool true)) st) : PC 12 [] st R := by
  refine pB Tryz.func12 ?_
  repeat' ((conv => whnf); first | refine el_lit (by decide) rfl ?_ | with_reducible refine Wt (by decide) ?_ | (refine Ye1 ?_; intros) | (refine Ye3 ?_ ?_ <;> intro _) | refine word_c ?_ | refine pcalls_wk (args' := [encS (aws 0), .int .i64 2]) (by rfl) (full_e (by decide) full2 ?_) | refine pcalls_wk (args' := [encS (aws 0), .int .i64 1]) (by rfl) (full_e (by decide) full1 ?_))
  all_goals exact fin h rfl
end
end Go.Proofs.YtkidoddkbhchkaaGreatDoor
set_option maxHeartbeats 16000000
set_option linter.unusedVariables false
set_option pp.maxSteps 400
set_option maxHeartbeats 16000000
set_option linter.unusedVariables false
set_option pp.maxSteps 400
namespace Go.Proofs.YtkidoddkbhchkaaGreatDoor
open Go Go.Aw
mutual
def leavesF : Nd → List Tk
  | .mk k f t l c ks => if k = 1 then [⟨f, t, l, c⟩] else leavesFs ks
def leavesFs : List Nd → List Tk
  | [] => []
  | n :: r => leavesF n ++ leavesFs r
end
theorem leavesFs_append : ∀ {a b : List Nd}, leavesFs (a ++ b) = leavesFs a ++ leavesFs b
  | [], b => rfl
  | n :: r, b => by rw [List.cons_append, leavesFs, leavesFs, leavesFs_append, List.append_assoc]
theorem leavesF_leaf (t : Tk) : leavesF (leafT t) = [t] := rfl
theorem leavesF_node {k : Int} {l : List Nd} (h : ¬ k = 1) : leavesF (nodeK k l) = leavesFs l := by unfold nodeK; rw [leavesF, if_neg h]
theorem leavesFs_one {n : Nd} : leavesFs [n] = leavesF n := by rw [leavesFs, leavesFs, List.append_nil]
theorem leavesFs_two {n m : Nd} : leavesFs [n, m] = leavesF n ++ leavesF m := by rw [leavesFs, leavesFs_one]
inductive Path : Sta → List Tk → Sta → Prop where
  | nil (s : Sta) : Path s [] s
  | cons {s : Sta} {l : List Tk} {t : Sta} : (nextM s).2.2 = 0 → mu (nextM s).2.1 < mu s → Path (nextM s).2.1 l t → Path s ((nextM s).1 :: l) t
theorem Path.trans {s t u : Sta} {l m : List Tk} (h : Path s l t) (k : Path t m u) : Path s (l ++ m) u := by
  induction h with
  | nil s => exact k
  | cons h1 h2 _ ih => exact .cons h1 h2 (ih k)
theorem Path.one {s : Sta} (h1 : (nextM s).2.2 = 0) (h2 : mu (nextM s).2.1 < mu s) : Path s [(nextM s).1] (nextM s).2.1 := .cons h1 h2 (.nil _)
theorem Path.is {s : Sta} {k : Int} {x : List UInt8} (h : isF s k x = true) (h0 : k ≠ 0) (h1 : k ≠ 21) : Path s [(nextM s).1] (nextM s).2.1 := .one (isF_ok h h0) (isF_mu h h0 h1)
def Passes (A : Sta → Rs) : Prop := ∀ s n s', A s = .inr (n, s') → Path s (leavesF n) s'
variable {A : Sta → Rs}
theorem passes_take {s : Sta} {n : Nd} {s' : Sta} (hs : startsF (nextM s).1 = true) (h : takeP s = .inr (n, s')) : Path s (leavesF n) s' := by
  have hm := starts_mu hs h
  unfold takeP at h
  split at h
  · rename_i e; cases h; rw [leavesF_leaf]; exact .one e hm
  · cases h
theorem passes_want {s : Sta} {k : Int} {x : List UInt8} {n : Nd} {s' : Sta} (h0 : k ≠ 0) (h1 : k ≠ 21) (h : wantP s k x = .inr (n, s')) : Path s (leavesF n) s' := by
  unfold wantP at h
  split at h
  · rename_i e
    rw [take_is e h0] at h
    cases h
    rw [leavesF_leaf]
    exact .is e h0 h1
  · cases h
theorem passes_fin {s : Sta} {k : Int} {l : List Nd} {x : List UInt8} {n : Nd} {s' : Sta} (hk : ¬ k = 1) (h : finP k l s x = .inr (n, s')) : ∃ m, Path s m s' ∧ leavesF n = leavesFs l ++ m := by
  unfold finP at h
  split at h
  · cases h
  · rename_i p hp
    cases h
    refine ⟨_, passes_want (by decide) (by decide) hp, ?_⟩
    rw [leavesF_node hk, leavesFs_append, leavesFs_one]
theorem passes_rowL (hA : Passes A) (l : List Nd) (s : Sta) : ∀ q s', rowL A l s = .inr (q, s') → ∃ m, Path s m s' ∧ leavesFs q = leavesFs l ++ m := by
  fun_induction rowL A l s with
  | case1 l s h1 e1 h2 => intro q s' h; cases h
  | case2 l s h1 p h2 h3 ih =>
    intro q s' h
    obtain ⟨m, k1, k2⟩ := ih q s' h
    refine ⟨_, (hA s p.1 p.2 h2).trans k1, ?_⟩
    rw [k2, leavesFs_append, leavesFs_one, List.append_assoc]
  | case3 l s h1 p h2 h3 => intro q s' h; cases h
  | case4 l s h1 => intro q s' h; cases h; exact ⟨[], .nil _, (List.append_nil _).symm⟩
theorem rowL_len (l : List Nd) (s : Sta) : ∀ q s', rowL A l s = .inr (q, s') → ∃ r, q = l ++ r := by
  fun_induction rowL A l s with
  | case1 l s h1 e1 h2 => intro q s' h; cases h
  | case2 l s h1 p h2 h3 ih => intro q s' h; obtain ⟨r, e⟩ := ih q s' h; exact ⟨[p.1] ++ r, by rw [e, List.append_assoc]⟩
  | case3 l s h1 p h2 h3 => intro q s' h; cases h
  | case4 l s h1 => intro q s' h; cases h; exact ⟨[], (List.append_nil _).symm⟩
theorem passes_row (hA : Passes A) : Passes (rowP A) := fun s n s' h => by
  unfold rowP at h
  split at h
  · cases h
  · rename_i p hp
    have h1 := hA s p.1 p.2 hp
    split at h
    · cases h
    · rename_i q hq
      obtain ⟨m, k1, k2⟩ := passes_rowL hA _ _ _ _ hq
      obtain ⟨r, hr⟩ := rowL_len _ _ _ _ hq
      rw [leavesFs_one] at k2
      split at h
      · rename_i hl
        cases h
        have : r = [] := by
          rw [hr, List.length_append, List.length_singleton] at hl
          exact List.eq_nil_iff_length_eq_zero.2 (by omega)
        rw [this, List.append_nil] at hr
        rw [hr, leavesFs_one] at k2
        have : m = [] := by simpa using k2
        subst this
        have := h1.trans k1
        rwa [List.append_nil] at this
      · cases h
        rw [leavesF_node (by decide), k2]
        exact h1.trans k1
theorem passes_arrL (hA : Passes A) (l : List Nd) (s : Sta) : ∀ q s', arrL A l s = .inr (q, s') → ∃ m, Path s m s' ∧ leavesFs q = leavesFs l ++ m ∧ ∃ r, q = l ++ r := by
  fun_induction arrL A l s with
  | case1 l s h1 e1 h2 => intro q s' h; cases h
  | case2 l s h1 p h2 h3 ih =>
    intro q s' h
    obtain ⟨m, k1, k2, r, k3⟩ := ih q s' h
    refine ⟨_, (Path.is h1 (by decide) (by decide)).trans ((passes_row hA _ p.1 p.2 h2).trans k1), ?_, _, by rw [k3, List.append_assoc]⟩
    rw [k2, leavesFs_append, leavesFs_two, leavesF_leaf]
    simp only [List.append_assoc]
  | case3 l s h1 p h2 h3 => intro q s' h; cases h
  | case4 l s h1 => intro q s' h; cases h; exact ⟨[], .nil _, (List.append_nil _).symm, [], (List.append_nil _).symm⟩
theorem passes_arrows (hA : Passes A) {n n' : Nd} {s s' : Sta} (h : arrowsP A n s = .inr (n', s')) : ∃ m, Path s m s' ∧ leavesF n' = leavesF n ++ m := by
  unfold arrowsP at h
  split at h
  · cases h
  · rename_i q hq
    obtain ⟨m, k1, k2, r, k3⟩ := passes_arrL hA _ _ _ _ hq
    rw [leavesFs_one] at k2
    split at h
    · rename_i hl
      cases h
      have : r = [] := by
        rw [k3, List.length_append, List.length_singleton] at hl
        exact List.eq_nil_iff_length_eq_zero.2 (by omega)
      rw [this, List.append_nil] at k3
      rw [k3, leavesFs_one] at k2
      have : m = [] := by simpa using k2
      subst this
      exact ⟨[], k1, (List.append_nil _).symm⟩
    · cases h
      rw [leavesF_node (by decide), k2]
      exact ⟨m, k1, rfl⟩
theorem passes_whole (hA : Passes A) : Passes (wholeP A) := fun s n s' h => by
  unfold wholeP at h
  split at h
  · cases h
  · rename_i p hp
    obtain ⟨m, k1, k2⟩ := passes_arrows hA h
    rw [k2]
    exact (passes_row hA _ p.1 p.2 hp).trans k1
theorem passes_full (hA : Passes A) : Passes (fullP A) := fun s n s' h => by
  unfold fullP at h
  split at h
  · cases h
  · rename_i p hp
    have h1 := passes_row hA _ p.1 p.2 hp
    split at h
    · rename_i hi
      split at h
      · cases h
      · rename_i q hq
        cases h
        rw [leavesF_node (by decide), leavesFs, leavesFs_two, leavesF_leaf]
        exact h1.trans ((Path.is hi (by decide) (by decide)).trans (passes_whole hA _ q.1 q.2 hq))
    · obtain ⟨m, k1, k2⟩ := passes_arrows hA h
      rw [k2]
      exact h1.trans k1
theorem passes_typesL (hA : Passes A) (l : List Nd) (s : Sta) : ∀ q s', typesL A l s = .inr (q, s') → ∃ m, Path s m s' ∧ leavesFs q = leavesFs l ++ m := by
  fun_induction typesL A l s with
  | case1 l s h1 e1 h2 => intro q s' h; cases h
  | case2 l s h1 p h2 h3 ih =>
    intro q s' h
    obtain ⟨m, k1, k2⟩ := ih q s' h
    refine ⟨_, (Path.is h1 (by decide) (by decide)).trans ((hA _ p.1 p.2 h2).trans k1), ?_⟩
    rw [k2, leavesFs_append, leavesFs_two, leavesF_leaf]
    simp only [List.append_assoc]
  | case3 l s h1 p h2 h3 => intro q s' h; cases h
  | case4 l s h1 => intro q s' h; cases h; exact ⟨[], .nil _, (List.append_nil _).symm⟩
theorem passes_comma (l : List Nd) (s : Sta) : ∃ m, Path s m (commaL l s).2 ∧ leavesFs (commaL l s).1 = leavesFs l ++ m := by
  fun_induction commaL l s with
  | case1 l s h1 h2 ih =>
    obtain ⟨m, k1, k2⟩ := ih
    refine ⟨_, (Path.is h1 (by decide) (by decide)).trans k1, ?_⟩
    rw [k2, leavesFs_append, leavesFs_one, leavesF_leaf, List.append_assoc]
  | case2 l s h1 h2 => exact ⟨[], .nil _, (List.append_nil _).symm⟩
  | case3 l s h1 => exact ⟨[], .nil _, (List.append_nil _).symm⟩
theorem passes_round (hA : Passes A) {s : Sta} {n : Nd} {s' : Sta} (hs : startsF (nextM s).1 = true) (h : roundP A s = .inr (n, s')) : Path s (leavesF n) s' := by
  unfold roundP at h
  split at h
  · cases h
  · rename_i p hp
    have h1 := passes_take hs (n := p.1) (s' := p.2) hp
    split at h
    · rename_i hi
      obtain ⟨m, k1, k2⟩ := passes_fin (by decide) h
      rw [k2, leavesFs_two, leavesF_leaf, List.append_assoc]
      exact h1.trans ((Path.is hi (by decide) (by decide)).trans k1)
    split at h
    · obtain ⟨m, k1, k2⟩ := passes_fin (by decide) h
      rw [k2, leavesFs_one]
      exact h1.trans k1
    split at h
    · obtain ⟨m, k1, k2⟩ := passes_fin (by decide) h
      obtain ⟨m2, k3, k4⟩ := passes_comma [p.1] p.2
      rw [k2, k4, leavesFs_one, List.append_assoc]
      exact h1.trans (k3.trans k1)
    split at h
    · cases h
    · rename_i q hq
      have h2 := hA _ q.1 q.2 hq
      split at h
      · cases h
      · rename_i r hr
        obtain ⟨m, k1, k2⟩ := passes_typesL hA _ _ _ _ hr
        obtain ⟨m2, k3, k4⟩ := passes_fin (by split <;> decide) h
        rw [k4, k2, leavesFs_two]
        simp only [List.append_assoc]
        exact h1.trans (h2.trans (k1.trans k3))
theorem passes_square (hA : Passes A) {s : Sta} {n : Nd} {s' : Sta} (hs : startsF (nextM s).1 = true) (h : squareP A s = .inr (n, s')) : Path s (leavesF n) s' := by
  unfold squareP at h
  split at h
  · cases h
  · rename_i p hp
    have h1 := passes_take hs (n := p.1) (s' := p.2) hp
    split at h
    · rename_i hi
      cases h
      rw [leavesF_node (by decide), leavesFs_two, leavesF_leaf]
      exact h1.trans (Path.is hi (by decide) (by decide))
    split at h
    · cases h
    · rename_i q hq
      have h2 := hA _ q.1 q.2 hq
      obtain ⟨m2, k3, k4⟩ := passes_fin (by decide) h
      rw [k4, leavesFs_two, List.append_assoc]
      exact h1.trans (h2.trans k3)
theorem passes_atom (hA : Passes A) : Passes (atomP A) := fun s n s' h => by
  unfold atomP at h
  split at h
  · rename_i hs
    split at h
    · split at h
      · exact passes_round hA hs h
      · exact passes_square hA hs h
    · exact passes_take hs h
  · cases h
theorem passes_type : ∀ d, Passes (typeP d)
  | 0 => fun s n s' h => by cases h
  | d + 1 => passes_whole (passes_atom (passes_type d))
end Go.Proofs.YtkidoddkbhchkaaGreatDoor
set_option maxHeartbeats 16000000
set_option linter.unusedVariables false
set_option pp.maxSteps 400
set_option maxHeartbeats 16000000
set_option linter.unusedVariables false
set_option pp.maxSteps 400
set_option linter.unusedSimpArgs false
set_option maxHeartbeats 16000000
set_option linter.unusedVariables false
set_option linter.unusedSimpArgs false
set_option pp.maxSteps 400
set_option maxHeartbeats 16000000
set_option linter.unusedVariables false
set_option linter.unusedSimpArgs false
set_option pp.maxSteps 400
set_option maxHeartbeats 16000000
set_option linter.unusedVariables false
set_option linter.unusedSimpArgs false
set_option pp.maxSteps 400
set_option maxHeartbeats 16000000
set_option linter.unusedVariables false
set_option linter.unusedSimpArgs false
set_option pp.maxSteps 400
set_option maxHeartbeats 16000000
set_option linter.unusedVariables false
set_option linter.unusedSimpArgs false
set_option pp.maxSteps 400
set_option maxHeartbeats 16000000
set_option linter.unusedVariables false
set_option linter.unusedSimpArgs false
set_option pp.maxSteps 400
set_option maxHeartbeats 16000000
set_option linter.unusedVariables false
set_option linter.unusedSimpArgs false
set_option pp.maxSteps 400
set_option maxHeartbeats 16000000
set_option linter.unusedVariables false
set_option linter.unusedSimpArgs false
set_option pp.maxSteps 400
set_option maxHeartbeats 16000000
set_option linter.unusedVariables false
set_option linter.unusedSimpArgs false
set_option pp.maxSteps 400
namespace Go.Proofs.YtkidoddkbhchkaaGreatDoor
open Go Go.Aw
section
variable {st : St} {R : Res → St → Prop}
attribute [local irreducible] Go.Aw.appendTo
theorem sizes_append {a b : List Nd} : sizes (a ++ b) = sizes a + sizes b := by
  induction a with
  | nil => simp [sizes]
  | cons x r ih => rw [List.cons_append, sizes, sizes, ih]; omega
end
end Go.Proofs.YtkidoddkbhchkaaGreatDoor
set_option maxHeartbeats 16000000
set_option linter.unusedVariables false
namespace Go.Proofs.YtkidoddkbhchkaaGreatDoor
open Go Go.Aw
abbrev Er := {e : Int // e ≠ 0}
abbrev Rv (α : Type) := Sum (Er × Sta) (α × Sta)
structure Rd (α : Type) where
  run : Sta → Rv α
  le : ∀ s v s', run s = .inr (v, s') → mu s' ≤ mu s
namespace Rd
variable {α β γ σ : Type}
theorem ext' {a b : Rd α} (h : ∀ s, a.run s = b.run s) : a = b := by
  obtain ⟨r1, l1⟩ := a
  obtain ⟨r2, l2⟩ := b
  obtain rfl : r1 = r2 := funext h
  rfl
def ret (v : α) : Rd α := ⟨fun s => .inr (v, s), fun s v' s' h => by cases h; exact Nat.le_refl _⟩
def seq (m : Rd α) (k : α → Rd β) : Rd β := ⟨fun s => match m.run s with
    | .inl e => .inl e
    | .inr p => (k p.1).run p.2, fun s v s' h => by
  cases hm : m.run s with
  | inl e => rw [hm] at h; cases h
  | inr p => rw [hm] at h; exact Nat.le_trans ((k p.1).le _ _ _ h) (m.le _ _ _ hm)⟩
def fail (e : Er) : Rd α := ⟨fun s => .inl (e, s), fun s v s' h => by cases h⟩
def failAt (t : Sta) (e : Er) : Rd α := ⟨fun _ => .inl (e, t), fun s v s' h => by cases h⟩
def look (f : Sta → Rd α) : Rd α := ⟨fun s => (f s).run s, fun s v s' h => (f s).le _ _ _ h⟩
def iter (body : σ → Rd (Sum σ β)) (x : σ) (s : Sta) : Rv β :=
  match (body x).run s with
  | .inl e => .inl e
  | .inr (.inr y, s') => .inr (y, s')
  | .inr (.inl x', s') => if mu s' < mu s then iter body x' s' else .inl (⟨2, by decide⟩, s)
termination_by mu s
theorem iter_le (body : σ → Rd (Sum σ β)) (x : σ) (s : Sta) : ∀ v s', iter body x s = .inr (v, s') → mu s' ≤ mu s := by
  fun_induction iter body x s with
  | case1 x s e h => intro v s' h; cases h
  | case2 x s y s1 h => intro v s' h'; cases h'; exact (body x).le _ _ _ h
  | case3 x s x' s1 h hlt ih => intro v s' h'; have := ih v s' h'; omega
  | case4 x s x' s1 h hlt => intro v s' h'; cases h'
def loop (body : σ → Rd (Sum σ β)) (x : σ) : Rd β := ⟨iter body x, iter_le body x⟩
def wp (m : Rd α) (s : Sta) (Q : α → Sta → Prop) (E : Er → Sta → Prop) : Prop := match m.run s with
  | .inl p => E p.1 p.2
  | .inr p => Q p.1 p.2
theorem wp_ret {v : α} {s : Sta} {Q : α → Sta → Prop} {E : Er → Sta → Prop} : wp (ret v) s Q E = Q v s := rfl
theorem wp_seq {m : Rd α} {k : α → Rd β} {s : Sta} {Q : β → Sta → Prop} {E : Er → Sta → Prop} : wp (seq m k) s Q E = wp m s (fun v s' => wp (k v) s' Q E) E := by
  unfold wp seq
  dsimp only
  cases m.run s <;> rfl
def again (body : σ → Rd (Sum σ β)) (s : Sta) (Q : β → Sta → Prop) (E : Er → Sta → Prop) : Sum σ β → Sta → Prop
  | .inr y, s' => Q y s'
  | .inl x, s' => if mu s' < mu s then wp (loop body x) s' Q E else E ⟨2, by decide⟩ s
theorem wp_mono {m : Rd α} {s : Sta} {Q Q' : α → Sta → Prop} {E E' : Er → Sta → Prop} (h : wp m s Q E) (hq : ∀ v s', m.run s = .inr (v, s') → Q v s' → Q' v s') (he : ∀ e s', m.run s = .inl (e, s') → E e s' → E' e s') : wp m s Q' E' := by
  unfold wp at h ⊢
  split at h
  · exact he _ _ ‹_› h
  · exact hq _ _ ‹_› h
theorem wp_of {m : Rd α} {s : Sta} {Q : α → Sta → Prop} {E : Er → Sta → Prop} (hq : ∀ v s', m.run s = .inr (v, s') → Q v s') (he : ∀ e s', m.run s = .inl (e, s') → E e s') : wp m s Q E := by
  unfold wp
  split
  · exact he _ _ ‹_›
  · exact hq _ _ ‹_›
def Falls (m : Rd α) : Prop := ∀ s v s', m.run s = .inr (v, s') → mu s' < mu s
theorem Falls.seq {m : Rd α} {k : α → Rd β} (h : Falls m) : Falls (seq m k) := fun s v s' e => by
  unfold Rd.seq at e
  dsimp only at e
  split at e
  · cases e
  · exact Nat.lt_of_le_of_lt ((k _).le _ _ _ e) (h _ _ _ ‹_›)
theorem Falls.at {m : Rd α} {k : α → Rd β} {s s' : Sta} {v : β} (h : ∀ v s', m.run s = .inr (v, s') → mu s' < mu s) (e : (Rd.seq m k).run s = .inr (v, s')) : mu s' < mu s := by
  unfold Rd.seq at e
  dsimp only at e
  split at e
  · cases e
  · exact Nat.lt_of_le_of_lt ((k _).le _ _ _ e) (h _ _ ‹_›)
theorem Falls.fail {e : Er} : Falls (fail e : Rd α) := fun s v s' h => by cases h
theorem Falls.failAt {t : Sta} {e : Er} : Falls (failAt t e : Rd α) := fun s v s' h => by cases h
theorem Falls.look {f : Sta → Rd α} (h : ∀ s v s', (f s).run s = .inr (v, s') → mu s' < mu s) : Falls (look f) := fun s v s' e => h s v s' e
theorem Falls.ite {c : Prop} [Decidable c] {a b : Rd α} (h1 : Falls a) (h2 : Falls b) : Falls (if c then a else b) := by split <;> assumption
end Rd
def ofRs (A : Sta → Rs) (hle : ∀ s v s', A s = .inr (v, s') → mu s' ≤ mu s) : Rd Nd := ⟨fun s => match A s with
    | .inl p => if h : p.1 = 0 then .inl (⟨2, by decide⟩, p.2) else .inl (⟨p.1, h⟩, p.2)
    | .inr p => .inr p, fun s v s' h => by
  cases hA : A s with
  | inl p => rw [hA] at h; dsimp only at h; split at h <;> cases h
  | inr p => rw [hA] at h; cases h; exact hle _ _ _ hA⟩
theorem ofRs_bad {A : Sta → Rs} {hle : ∀ s v s', A s = .inr (v, s') → mu s' ≤ mu s} (hB : Bads A) {s s' : Sta} {e : Int} (h : A s = .inl (e, s')) : (ofRs A hle).run s = .inl (⟨e, hB _ _ _ h⟩, s') := by
  unfold ofRs
  dsimp only
  rw [h]
  dsimp only
  rw [dif_neg (hB _ _ _ h)]
theorem ofRs_ok {A : Sta → Rs} {hle : ∀ s v s', A s = .inr (v, s') → mu s' ≤ mu s} {s : Sta} {p : Nd × Sta} (h : A s = .inr p) : (ofRs A hle).run s = .inr p := by
  unfold ofRs
  dsimp only
  rw [h]
def takeR : Rd Nd := ofRs takeP fun s v s' h => (take_mu h).1
theorem takeR_ok {s : Sta} (h : (nextM s).2.2 = 0) : takeR.run s = .inr (leafT (nextM s).1, (nextM s).2.1) := ofRs_ok (by unfold takeP; rw [if_pos h])
theorem takeR_no {s : Sta} (h : ¬ (nextM s).2.2 = 0) : takeR.run s = .inl (⟨(nextM s).2.2, h⟩, s) := by
  have e : takeP s = .inl ((nextM s).2.2, s) := by unfold takeP; rw [if_neg h]
  exact ofRs_bad bads_take e
theorem kind_no {s : Sta} (h : (nextM s).1.kind ≠ 0) : (nextM s).2.2 = 0 := by
  apply Classical.byContradiction
  intro e
  rw [next_err e] at h
  exact h rfl
end Go.Proofs.YtkidoddkbhchkaaGreatDoor
set_option maxHeartbeats 16000000
namespace Go.Proofs
open Go.Shelf
def Tryz.lays156_ren : Go.Shelf.Ren := ⟨fun | 156 => 51 | 165 => 102 | 166 => 103 | 169 => 104 | 240 => 162 | 241 => 163 | 276 => 235 | 277 => 236 | n => n, fun | 31 => 74 | 9 => 9 | 3 => 3 | 4 => 4 | 0 => 0 | 20 => 20 | 72 => 121 | 76 => 124 | 70 => 118 | 37 => 119 | 75 => 123 | 127 => 159 | 164 => 209 | 5 => 5 | 80 => 126 | n => n, fun | n => n⟩
theorem Tryz.lays156 : Go.Proofs.Lays.n156 Tryz.prog Tryz.lays156_ren := {
  mixed := by kernel_rfl
  f156 := Tryz.func51.trans (congrArg some (by kernel_rfl))
  f165 := Tryz.func102.trans (congrArg some (by kernel_rfl))
  f166 := Tryz.func103.trans (congrArg some (by kernel_rfl))
  f169 := Tryz.func104.trans (congrArg some (by kernel_rfl))
  f240 := Tryz.func162.trans (congrArg some (by kernel_rfl))
  f241 := Tryz.func163.trans (congrArg some (by kernel_rfl))
  f276 := Tryz.func235.trans (congrArg some (by kernel_rfl))
  f277 := Tryz.func236.trans (congrArg some (by kernel_rfl))
  t0 := Tryz.underlying0
  a0 := Tryz.isAgg0
  z0 := Tryz.sizeOf0
  v0 := Tryz.zeroValue0
  t3 := Tryz.underlying3
  a3 := Tryz.isAgg3
  z3 := Tryz.sizeOf3
  v3 := Tryz.zeroValue3
  t4 := Tryz.underlying4
  a4 := Tryz.isAgg4
  z4 := Tryz.sizeOf4
  v4 := Tryz.zeroValue4
  t9 := Tryz.underlying9
  a9 := Tryz.isAgg9
  z9 := Tryz.sizeOf9
  v9 := Tryz.zeroValue9
  t20 := Tryz.underlying20
  a20 := Tryz.isAgg20
  z20 := Tryz.sizeOf20
  v20 := Tryz.zeroValue20
  t31 := Tryz.underlying74
  a31 := Tryz.isAgg74
  z31 := Tryz.sizeOf74
  v31 := Tryz.zeroValue74
  t37 := Tryz.underlying119
  a37 := Tryz.isAgg119
  z37 := Tryz.sizeOf119
  v37 := Tryz.zeroValue119
  t70 := Tryz.underlying118
  a70 := Tryz.isAgg118
  z70 := Tryz.sizeOf118
  v70 := Tryz.zeroValue118
  t72 := Tryz.underlying121
  a72 := Tryz.isAgg121
  z72 := Tryz.sizeOf121
  v72 := Tryz.zeroValue121
  t75 := Tryz.underlying123
  a75 := Tryz.isAgg123
  z75 := Tryz.sizeOf123
  v75 := Tryz.zeroValue123
  t76 := Tryz.underlying124
  a76 := Tryz.isAgg124
  z76 := Tryz.sizeOf124
  v76 := Tryz.zeroValue124
  t127 := Tryz.underlying159
  a127 := Tryz.isAgg159
  z127 := Tryz.sizeOf159
  v127 := Tryz.zeroValue159
  t164 := Tryz.underlying209
  a164 := Tryz.isAgg209
  z164 := Tryz.sizeOf209
  v164 := Tryz.zeroValue209 }
theorem Tryz.Builder_Extra_156 : Builder.Extra Tryz.prog Tryz.lays156_ren := {
  sizeBuilder := by kernel_rfl
  liesBuilder := by kernel_rfl
  t5 := Tryz.underlying5
  a5 := Tryz.isAgg5
  z5 := Tryz.sizeOf5
  v5 := Tryz.zeroValue5
  infoByte := by kernel_rfl
  cellsByte := by kernel_rfl
  sizeByte := by kernel_rfl
  neB5 := by decide }
open Go.RowKit in
theorem Tryz.strings_Join_none (a : Option Addr) (c : Nat) (sep : ByteArray) (w : World) :
    Calls Tryz.prog 51 #[.slice a 0 c, .string sep] w fun e w' => e = .returned (.string ⟨#[]⟩) ∧ w' = w := Any.strings_Join_none Tryz.lays156 Tryz.Builder_Extra_156 a c sep w
open Go.RowKit in
theorem Tryz.strings_Join (bk o c : Nat) (xs : List ByteArray) (sep : ByteArray) (w : World) (hcells : ∀ (j : Nat) x, xs[j]? = some x → w.cell? ⟨bk, o + j, none⟩ = some (.string x)) (hbk : bk < w.heap.size) (hN : xs.length ≤ 140737488355328) (hcap : xs.length ≤ c) (hlen : (Lib.join (xs.map (·.data.toList)) sep.data.toList).length ≤ 140737488355328) :
    Calls Tryz.prog 51 #[.slice (some ⟨bk, o, none⟩) xs.length c, .string sep] w fun e w' => e = .returned (.string ⟨(Lib.join (xs.map (·.data.toList)) sep.data.toList).toArray⟩) ∧ Below w.heap.size w w' := Any.strings_Join Tryz.lays156 Tryz.Builder_Extra_156 bk o c xs sep w hcells hbk hN hcap hlen
def Tryz.lays160_ren : Go.Shelf.Ren := ⟨fun | 160 => 150 | 232 => 220 | 231 => 219 | 227 => 221 | 234 => 223 | 233 => 222 | 236 => 225 | 235 => 224 | 228 => 273 | 271 => 275 | 151 => 274 | 197 => 82 | 120 => 320 | 152 => 319 | 260 => 148 | 137 => 346 | 119 => 347 | 224 => 330 | 225 => 329 | 217 => 328 | 266 => 351 | n => n, fun | 9 => 9 | 4 => 4 | 3 => 3 | 5 => 5 | 117 => 190 | 116 => 189 | 0 => 0 | 124 => 193 | 21 => 21 | 105 => 100 | 46 => 183 | 119 => 182 | 139 => 186 | 138 => 185 | n => n, fun | 3 => 0 | 4 => 1 | n => n⟩
theorem Tryz.lays160 : Go.Proofs.Lays.n160 Tryz.prog Tryz.lays160_ren := {
  mixed := by kernel_rfl
  f119 := Tryz.func347.trans (congrArg some (by kernel_rfl))
  f120 := Tryz.func320.trans (congrArg some (by kernel_rfl))
  f137 := Tryz.func346.trans (congrArg some (by kernel_rfl))
  f151 := Tryz.func274.trans (congrArg some (by kernel_rfl))
  f152 := Tryz.func319.trans (congrArg some (by kernel_rfl))
  f160 := Tryz.func150.trans (congrArg some (by kernel_rfl))
  f197 := Tryz.func82.trans (congrArg some (by kernel_rfl))
  f217 := Tryz.func328.trans (congrArg some (by kernel_rfl))
  f224 := Tryz.func330.trans (congrArg some (by kernel_rfl))
  f225 := Tryz.func329.trans (congrArg some (by kernel_rfl))
  f227 := Tryz.func221.trans (congrArg some (by kernel_rfl))
  f228 := Tryz.func273.trans (congrArg some (by kernel_rfl))
  f231 := Tryz.func219.trans (congrArg some (by kernel_rfl))
  f232 := Tryz.func220.trans (congrArg some (by kernel_rfl))
  f233 := Tryz.func222.trans (congrArg some (by kernel_rfl))
  f234 := Tryz.func223.trans (congrArg some (by kernel_rfl))
  f235 := Tryz.func224.trans (congrArg some (by kernel_rfl))
  f236 := Tryz.func225.trans (congrArg some (by kernel_rfl))
  f260 := Tryz.func148.trans (congrArg some (by kernel_rfl))
  f266 := Tryz.func351.trans (congrArg some (by kernel_rfl))
  f271 := Tryz.func275.trans (congrArg some (by kernel_rfl))
  t0 := Tryz.underlying0
  a0 := Tryz.isAgg0
  z0 := Tryz.sizeOf0
  v0 := Tryz.zeroValue0
  t3 := Tryz.underlying3
  a3 := Tryz.isAgg3
  z3 := Tryz.sizeOf3
  v3 := Tryz.zeroValue3
  t4 := Tryz.underlying4
  a4 := Tryz.isAgg4
  z4 := Tryz.sizeOf4
  v4 := Tryz.zeroValue4
  t5 := Tryz.underlying5
  a5 := Tryz.isAgg5
  z5 := Tryz.sizeOf5
  v5 := Tryz.zeroValue5
  t9 := Tryz.underlying9
  a9 := Tryz.isAgg9
  z9 := Tryz.sizeOf9
  v9 := Tryz.zeroValue9
  t21 := Tryz.underlying21
  a21 := Tryz.isAgg21
  z21 := Tryz.sizeOf21
  v21 := Tryz.zeroValue21
  t46 := Tryz.underlying183
  a46 := Tryz.isAgg183
  z46 := Tryz.sizeOf183
  v46 := Tryz.zeroValue183
  t105 := Tryz.underlying100
  a105 := Tryz.isAgg100
  z105 := Tryz.sizeOf100
  v105 := Tryz.zeroValue100
  t116 := Tryz.underlying189
  a116 := Tryz.isAgg189
  z116 := Tryz.sizeOf189
  t117 := Tryz.underlying190
  a117 := Tryz.isAgg190
  z117 := Tryz.sizeOf190
  v117 := Tryz.zeroValue190
  t119 := Tryz.underlying182
  a119 := Tryz.isAgg182
  z119 := Tryz.sizeOf182
  t124 := Tryz.underlying193
  a124 := Tryz.isAgg193
  z124 := Tryz.sizeOf193
  v124 := Tryz.zeroValue193
  t138 := Tryz.underlying185
  a138 := Tryz.isAgg185
  z138 := Tryz.sizeOf185
  v138 := Tryz.zeroValue185
  t139 := Tryz.underlying186
  a139 := Tryz.isAgg186
  z139 := Tryz.sizeOf186
  v139 := Tryz.zeroValue186
  g3 := by kernel_rfl
  g4 := by kernel_rfl }
open Go.RowKit in
theorem Tryz.strings_Trim_one (s : ByteArray) (c : UInt8) (hc : c.toNat < 128) (w : World) (hs : s.size ≤ 9223372036854775807) :
    Calls Tryz.prog 150 #[.string s, .string ⟨#[c]⟩] w fun e w' => e = .returned (.string ⟨(Lib.trimB s.data.toList c).toArray⟩) ∧ (w' = w ∨ w' = w.drew) := Any.strings_Trim_one Tryz.lays160 s c hc w hs
def Tryz.lays137_ren : Go.Shelf.Ren := ⟨fun | 137 => 346 | 217 => 328 | 266 => 351 | n => n, fun | 9 => 9 | 5 => 5 | 3 => 3 | n => n, fun | n => n⟩
theorem Tryz.lays137 : Go.Proofs.Lays.n137 Tryz.prog Tryz.lays137_ren := {
  mixed := by kernel_rfl
  f137 := Tryz.func346.trans (congrArg some (by kernel_rfl))
  f217 := Tryz.func328.trans (congrArg some (by kernel_rfl))
  f266 := Tryz.func351.trans (congrArg some (by kernel_rfl))
  t3 := Tryz.underlying3
  a3 := Tryz.isAgg3
  z3 := Tryz.sizeOf3
  v3 := Tryz.zeroValue3
  t5 := Tryz.underlying5
  a5 := Tryz.isAgg5
  z5 := Tryz.sizeOf5
  v5 := Tryz.zeroValue5
  t9 := Tryz.underlying9
  a9 := Tryz.isAgg9
  z9 := Tryz.sizeOf9
  v9 := Tryz.zeroValue9 }
open Go.RowKit in
theorem Tryz.strings_IndexByte (s : ByteArray) (c : Int) (w : World) :
    Calls Tryz.prog 346 #[.string s, .int .u8 c] w fun e w' => e = .returned (.int .i64 (Lib.indexByte s.data.toList c.toNat.toUInt8)) ∧ w' = w := Any.strings_IndexByte Tryz.lays137 s c w
def Tryz.lays144_ren : Go.Shelf.Ren := ⟨fun | 144 => 157 | 143 => 231 | 219 => 285 | 217 => 328 | 225 => 329 | 224 => 330 | 267 => 331 | 266 => 351 | 314 => 352 | n => n, fun | 9 => 9 | 4 => 4 | 3 => 3 | 5 => 5 | 46 => 183 | 146 => 254 | 51 => 253 | n => n, fun | 1 => 2 | n => n⟩
theorem Tryz.lays144 : Go.Proofs.Lays.n144 Tryz.prog Tryz.lays144_ren := {
  mixed := by kernel_rfl
  f143 := Tryz.func231.trans (congrArg some (by kernel_rfl))
  f144 := Tryz.func157.trans (congrArg some (by kernel_rfl))
  f217 := Tryz.func328.trans (congrArg some (by kernel_rfl))
  f219 := Tryz.func285.trans (congrArg some (by kernel_rfl))
  f224 := Tryz.func330.trans (congrArg some (by kernel_rfl))
  f225 := Tryz.func329.trans (congrArg some (by kernel_rfl))
  f266 := Tryz.func351.trans (congrArg some (by kernel_rfl))
  f267 := Tryz.func331.trans (congrArg some (by kernel_rfl))
  f314 := Tryz.func352.trans (congrArg some (by kernel_rfl))
  t3 := Tryz.underlying3
  a3 := Tryz.isAgg3
  z3 := Tryz.sizeOf3
  v3 := Tryz.zeroValue3
  t4 := Tryz.underlying4
  a4 := Tryz.isAgg4
  z4 := Tryz.sizeOf4
  v4 := Tryz.zeroValue4
  t5 := Tryz.underlying5
  a5 := Tryz.isAgg5
  z5 := Tryz.sizeOf5
  v5 := Tryz.zeroValue5
  t9 := Tryz.underlying9
  a9 := Tryz.isAgg9
  z9 := Tryz.sizeOf9
  v9 := Tryz.zeroValue9
  t46 := Tryz.underlying183
  a46 := Tryz.isAgg183
  z46 := Tryz.sizeOf183
  v46 := Tryz.zeroValue183
  t51 := Tryz.underlying253
  a51 := Tryz.isAgg253
  z51 := Tryz.sizeOf253
  v51 := Tryz.zeroValue253
  t146 := Tryz.underlying254
  a146 := Tryz.isAgg254
  z146 := Tryz.sizeOf254
  v146 := Tryz.zeroValue254
  g1 := by kernel_rfl }
open Go.RowKit Go.Lib in
theorem Tryz.strings_Contains (s sub : ByteArray) (m : Int) (w : World) (hs : s.size < 4294967281) (hm : w.cell? ⟨2, 0, none⟩ = some (.int .i64 m)) :
    Calls Tryz.prog 157 #[.string s, .string sub] w fun e w' => e = .returned (.bool (Lib.contains s.data.toList sub.data.toList)) ∧ w' = w := Any.strings_Contains Tryz.lays144 s sub m w hs hm
def Tryz.laysGw15_ren : Go.Shelf.Ren := ⟨fun | 15 => 41 | 20 => 83 | n => n, fun | 9 => 9 | 23 => 58 | 3 => 3 | 4 => 4 | 0 => 0 | 21 => 21 | n => n, fun | n => n⟩
theorem Tryz.laysGw15 : Go.Proofs.LaysGw.n15 Tryz.prog Tryz.laysGw15_ren := {
  mixed := by kernel_rfl
  f15 := Tryz.func41.trans (congrArg some (by kernel_rfl))
  f20 := Tryz.func83.trans (congrArg some (by kernel_rfl))
  t0 := Tryz.underlying0
  a0 := Tryz.isAgg0
  z0 := Tryz.sizeOf0
  v0 := Tryz.zeroValue0
  i0 := by kernel_rfl
  t3 := Tryz.underlying3
  a3 := Tryz.isAgg3
  z3 := Tryz.sizeOf3
  v3 := Tryz.zeroValue3
  i3 := by kernel_rfl
  t4 := Tryz.underlying4
  a4 := Tryz.isAgg4
  z4 := Tryz.sizeOf4
  v4 := Tryz.zeroValue4
  i4 := by kernel_rfl
  t9 := Tryz.underlying9
  a9 := Tryz.isAgg9
  z9 := Tryz.sizeOf9
  v9 := Tryz.zeroValue9
  i9 := by kernel_rfl
  t21 := Tryz.underlying21
  a21 := Tryz.isAgg21
  z21 := Tryz.sizeOf21
  v21 := Tryz.zeroValue21
  i21 := by kernel_rfl
  t23 := Tryz.underlying58
  a23 := Tryz.isAgg58
  z23 := Tryz.sizeOf58
  v23 := Tryz.zeroValue58
  i23 := by kernel_rfl }
def Tryz.lays99_ren : Go.Shelf.Ren := ⟨fun | 99 => 87 | 206 => 149 | n => n, fun | 9 => 9 | 4 => 4 | 3 => 3 | n => n, fun | n => n⟩
theorem Tryz.lays99 : Go.Proofs.Lays.n99 Tryz.prog Tryz.lays99_ren := {
  mixed := by kernel_rfl
  f99 := Tryz.func87.trans (congrArg some (by kernel_rfl))
  f206 := Tryz.func149.trans (congrArg some (by kernel_rfl))
  t3 := Tryz.underlying3
  a3 := Tryz.isAgg3
  z3 := Tryz.sizeOf3
  v3 := Tryz.zeroValue3
  t4 := Tryz.underlying4
  a4 := Tryz.isAgg4
  z4 := Tryz.sizeOf4
  v4 := Tryz.zeroValue4
  t9 := Tryz.underlying9
  a9 := Tryz.isAgg9
  z9 := Tryz.sizeOf9
  v9 := Tryz.zeroValue9 }
open Go.RowKit Go.Lib in
theorem Tryz.strings_HasPrefix (s p : ByteArray) (w : World) :
    Calls Tryz.prog 87 #[.string s, .string p] w fun e w' => e = .returned (.bool (Lib.hasPrefix s.data.toList p.data.toList)) ∧ w' = w := Any.strings_HasPrefix Tryz.lays99 s p w
def Tryz.lays157_ren : Go.Shelf.Ren := ⟨fun | 157 => 358 | 229 => 359 | 199 => 360 | 261 => 361 | 311 => 362 | 312 => 363 | n => n, fun | 9 => 9 | 31 => 74 | 3 => 3 | 5 => 5 | 4 => 4 | 119 => 182 | 0 => 0 | 40 => 58 | 152 => 264 | 21 => 21 | 154 => 266 | 51 => 253 | 141 => 268 | 196 => 272 | 193 => 269 | 198 => 275 | 49 => 273 | 194 => 270 | 201 => 278 | 226 => 280 | 46 => 183 | 227 => 281 | n => n, fun | 0 => 3 | 6 => 4 | n => n⟩
theorem Tryz.lays157 : Go.Proofs.Lays.n157 Tryz.prog Tryz.lays157_ren := {
  mixed := by kernel_rfl
  f157 := Tryz.func358.trans (congrArg some (by kernel_rfl))
  f199 := Tryz.func360.trans (congrArg some (by kernel_rfl))
  f229 := Tryz.func359.trans (congrArg some (by kernel_rfl))
  f261 := Tryz.func361.trans (congrArg some (by kernel_rfl))
  f311 := Tryz.func362.trans (congrArg some (by kernel_rfl))
  f312 := Tryz.func363.trans (congrArg some (by kernel_rfl))
  t0 := Tryz.underlying0
  a0 := Tryz.isAgg0
  z0 := Tryz.sizeOf0
  v0 := Tryz.zeroValue0
  t3 := Tryz.underlying3
  a3 := Tryz.isAgg3
  z3 := Tryz.sizeOf3
  v3 := Tryz.zeroValue3
  t4 := Tryz.underlying4
  a4 := Tryz.isAgg4
  z4 := Tryz.sizeOf4
  v4 := Tryz.zeroValue4
  t5 := Tryz.underlying5
  a5 := Tryz.isAgg5
  z5 := Tryz.sizeOf5
  v5 := Tryz.zeroValue5
  t9 := Tryz.underlying9
  a9 := Tryz.isAgg9
  z9 := Tryz.sizeOf9
  v9 := Tryz.zeroValue9
  t21 := Tryz.underlying21
  a21 := Tryz.isAgg21
  z21 := Tryz.sizeOf21
  v21 := Tryz.zeroValue21
  t31 := Tryz.underlying74
  a31 := Tryz.isAgg74
  z31 := Tryz.sizeOf74
  v31 := Tryz.zeroValue74
  t40 := Tryz.underlying58
  a40 := Tryz.isAgg58
  z40 := Tryz.sizeOf58
  v40 := Tryz.zeroValue58
  t46 := Tryz.underlying183
  a46 := Tryz.isAgg183
  z46 := Tryz.sizeOf183
  v46 := Tryz.zeroValue183
  t49 := Tryz.underlying273
  a49 := Tryz.isAgg273
  z49 := Tryz.sizeOf273
  v49 := Tryz.zeroValue273
  t51 := Tryz.underlying253
  a51 := Tryz.isAgg253
  z51 := Tryz.sizeOf253
  v51 := Tryz.zeroValue253
  t119 := Tryz.underlying182
  a119 := Tryz.isAgg182
  z119 := Tryz.sizeOf182
  t141 := Tryz.underlying268
  a141 := Tryz.isAgg268
  z141 := Tryz.sizeOf268
  v141 := Tryz.zeroValue268
  t152 := Tryz.underlying264
  a152 := Tryz.isAgg264
  z152 := Tryz.sizeOf264
  v152 := Tryz.zeroValue264
  t154 := Tryz.underlying266
  a154 := Tryz.isAgg266
  z154 := Tryz.sizeOf266
  v154 := Tryz.zeroValue266
  t193 := Tryz.underlying269
  a193 := Tryz.isAgg269
  z193 := Tryz.sizeOf269
  v193 := Tryz.zeroValue269
  t194 := Tryz.underlying270
  a194 := Tryz.isAgg270
  z194 := Tryz.sizeOf270
  v194 := Tryz.zeroValue270
  t196 := Tryz.underlying272
  a196 := Tryz.isAgg272
  z196 := Tryz.sizeOf272
  v196 := Tryz.zeroValue272
  t198 := Tryz.underlying275
  a198 := Tryz.isAgg275
  z198 := Tryz.sizeOf275
  v198 := Tryz.zeroValue275
  t201 := Tryz.underlying278
  a201 := Tryz.isAgg278
  z201 := Tryz.sizeOf278
  v201 := Tryz.zeroValue278
  t226 := Tryz.underlying280
  a226 := Tryz.isAgg280
  z226 := Tryz.sizeOf280
  v226 := Tryz.zeroValue280
  t227 := Tryz.underlying281
  a227 := Tryz.isAgg281
  z227 := Tryz.sizeOf281
  v227 := Tryz.zeroValue281
  g0 := by kernel_rfl
  g6 := by kernel_rfl }
open Go.RowKit Go.Lib in
theorem Tryz.strings_Fields (s : ByteArray) (w : World) (hs : s.size < 4294967281) (hascii : ∀ (j : Nat) b, s.data.toList[j]? = some b → b.toNat < 128) (htab : Lib.TabIs Tryz.prog w "strings.asciiSpace" .u8 Lib.asciiSpaceTab) :
    Calls Tryz.prog 358 #[.string s] w fun e w' =>
      e = .returned (.slice (some ⟨w.heap.size, 0, none⟩) (Lib.fields s.data.toList).length (Lib.fields s.data.toList).length) ∧ w' = w.alloc (.cells ((Lib.fields s.data.toList).map fun l => Value.string ⟨l.toArray⟩).toArray 9) := Any.strings_Fields Tryz.lays157 (by kernel_rfl) (by kernel_rfl) s w hs hascii htab
def Tryz.lays197_ren : Go.Shelf.Ren := ⟨fun | 197 => 82 | 260 => 148 | n => n, fun | 9 => 9 | 21 => 21 | 3 => 3 | 4 => 4 | 5 => 5 | 105 => 100 | 119 => 182 | 0 => 0 | 46 => 183 | 139 => 186 | 138 => 185 | n => n, fun | 3 => 0 | 4 => 1 | n => n⟩
theorem Tryz.lays197 : Go.Proofs.Lays.n197 Tryz.prog Tryz.lays197_ren := {
  mixed := by kernel_rfl
  f197 := Tryz.func82.trans (congrArg some (by kernel_rfl))
  f260 := Tryz.func148.trans (congrArg some (by kernel_rfl))
  t0 := Tryz.underlying0
  a0 := Tryz.isAgg0
  z0 := Tryz.sizeOf0
  v0 := Tryz.zeroValue0
  t3 := Tryz.underlying3
  a3 := Tryz.isAgg3
  z3 := Tryz.sizeOf3
  v3 := Tryz.zeroValue3
  t4 := Tryz.underlying4
  a4 := Tryz.isAgg4
  z4 := Tryz.sizeOf4
  v4 := Tryz.zeroValue4
  t5 := Tryz.underlying5
  a5 := Tryz.isAgg5
  z5 := Tryz.sizeOf5
  v5 := Tryz.zeroValue5
  t9 := Tryz.underlying9
  a9 := Tryz.isAgg9
  z9 := Tryz.sizeOf9
  v9 := Tryz.zeroValue9
  t21 := Tryz.underlying21
  a21 := Tryz.isAgg21
  z21 := Tryz.sizeOf21
  v21 := Tryz.zeroValue21
  t46 := Tryz.underlying183
  a46 := Tryz.isAgg183
  z46 := Tryz.sizeOf183
  v46 := Tryz.zeroValue183
  t105 := Tryz.underlying100
  a105 := Tryz.isAgg100
  z105 := Tryz.sizeOf100
  v105 := Tryz.zeroValue100
  t119 := Tryz.underlying182
  a119 := Tryz.isAgg182
  z119 := Tryz.sizeOf182
  t138 := Tryz.underlying185
  a138 := Tryz.isAgg185
  z138 := Tryz.sizeOf185
  v138 := Tryz.zeroValue185
  t139 := Tryz.underlying186
  a139 := Tryz.isAgg186
  z139 := Tryz.sizeOf186
  v139 := Tryz.zeroValue186
  g3 := by kernel_rfl
  g4 := by kernel_rfl }
open Go.RowKit Go.Lib in
theorem Tryz.utf8_DecodeRuneInString (s : ByteArray) (w : World) (hT : Lib.Utf8Tabs 0 1 w) :
    Calls Tryz.prog 82 #[.string s] w fun e w' => e = .returned (.tuple #[.int .i32 (Lib.decodeGo s).1, .int .i64 (Lib.decodeGo s).2]) ∧ Below w.heap.size w w' := Any.utf8_DecodeRuneInString Tryz.lays197 s w hT
open Go.RowKit Go.Lib in
theorem Tryz.strings_IndexFunc_grows (g : Nat) (lb : Array Value) (eg : ∀ args w, (callFunc g args).run Tryz.prog w = .ok (.enter g args) w) (p : Nat → Bool) (s : ByteArray) (w : World) (hp : PredGrows Tryz.prog g lb p w) :
    Calls Tryz.prog 41 #[.string s, .func (.func g) #[] lb] w fun e w' => e = .returned (.int .i64 (Lib.idxFunc p true s)) ∧ Below w.heap.size w w' := Any.strings_IndexFunc_grows Tryz.laysGw15 g lb eg p s w hp
end Go.Proofs
set_option maxHeartbeats 16000000
set_option linter.unusedVariables false
namespace Go.Aw
open Go
theorem RelS.below {I : Mem} {st : St} {w w' : World} (h : RelS I st w) (b : RowKit.Below w.heap.size w w') : Fr I st w I st w' ∧ RelS I st w' := by
  refine ⟨⟨b.os, b.tape, b.output, b.size, fun x hx _ _ => b.block x hx, Mem.le_refl _, fun _ _ h k => absurd h k, fun _ h k => absurd h k, fun _ h => .inr h⟩, ?_, ?_, ?_, h.boxI, ?_, h.tab⟩
  · intro x o v e
    have e := h.cell x o v e
    rw [cell_eq (b.block x (lt_of_cell e))]; exact e
  · intro x n e
    obtain ⟨c, ty, h1, h2⟩ := h.shape x n e
    exact ⟨c, ty, by rw [b.block x (lt_of_heap h1)]; exact h1, h2⟩
  · intro x cs e
    obtain ⟨vs, ty, h1, h2⟩ := h.box x cs e
    exact ⟨vs, ty, by rw [b.block x (lt_of_heap h1)]; exact h1, h2⟩
  · intro x n e
    exact ⟨Nat.lt_of_lt_of_le (h.hw x n e).1 b.size, (h.hw x n e).2⟩
theorem pcalls_of_calls {P : Program} {f : FuncId} {args : List V} {st : St} {R : Res → St → Prop} (hf : Plain P f) (v : V)
    (h : ∀ (I : Mem) (w : World) (cargs : List Value), RelS I st w → RepL I args cargs → Calls P f cargs.toArray w fun e w' => (∃ c, e = .returned c ∧ Rep I v c) ∧ RowKit.Below w.heap.size w w')
    (k : R (.ret v) st) : PCalls P f args st R :=
  ⟨fun I w cargs hs ha => (h I w cargs hs ha).mono fun e w' ⟨⟨c, he, hc⟩, hb⟩ => ⟨I, st, .ret v, (hs.below hb).1, (hs.below hb).2, by subst he; exact hc, k⟩, hf⟩
theorem RelS.row {I : Mem} {st : St} {w : World} (h : RelS I st w) (vs : List Value) (ty : TypeId) :
    Fr I st w (I.add w.heap.size 0 vs vs.length) st (w.alloc (.cells vs.toArray ty)) ∧ RelS (I.add w.heap.size 0 vs vs.length) st (w.alloc (.cells vs.toArray ty)) ∧ I.le (I.add w.heap.size 0 vs vs.length) := by
  have hr : Rel [] I st w I (fun _ => none) { tmps := [], boxes := [], nxt := 0, sz := 0, gl := [] } st { tmps := #[], defers := [] } w :=
    noHw_rel h rfl (fun t v e => by cases e) rfl rfl
  have h1 := hr.newRow vs [] ty
  rw [List.append_nil, List.length_nil, Nat.add_zero] at h1
  have h2 := h1.stLe (St.le_setHw (St.le_refl st) (fresh_new h).2 vs.length)
  exact ⟨h2.fr, h2.s, h2.fr.le⟩
theorem rep_strs {I : Mem} {b n : Nat} (l : List (List UInt8)) (hl : ∀ x ∈ l, x.length < lim) (hn : l.length < lim)
    (hle : I.le (I.add b 0 (l.map fun x => Value.string ⟨x.toArray⟩) n)) :
    Rep (I.add b 0 (l.map fun x => Value.string ⟨x.toArray⟩) n) (.slice 1 (l.map fun x => [.str x]) .any) (.slice (some ⟨b, 0, none⟩) l.length l.length) := by
  simp only [Rep]
  refine ⟨some ⟨b, 0, none⟩, l.length, by simp, by simp, by simpa using hn, by decide, trivial, .inr rfl, ?_⟩
  refine RepE.add _ (l.map fun x => Value.string ⟨x.toArray⟩) 0 ?_ hle (fun j c hj => Mem.add_at hj)
  clear hle hn
  induction l with
  | nil => simp only [List.map_nil, RepR]
  | cons a r ih =>
    simp only [List.map_cons, RepR]
    refine ⟨[Value.string ⟨a.toArray⟩], r.map fun x => Value.string ⟨x.toArray⟩, rfl, rfl, ?_, ih fun x hx => hl x (List.mem_cons_of_mem _ hx)⟩
    simp only [RepL, Rep]
    exact ⟨_, _, rfl, ⟨rfl, hl a List.mem_cons_self⟩, rfl⟩
end Go.Aw
set_option maxHeartbeats 16000000
set_option linter.unusedVariables false
namespace Go.Proofs.YtkidoddkbhchkaaGreatDoor
open Go Go.Aw
def decF (s : List UInt8) : Int × Int := match s with
  | [] => (65533, 0)
  | a :: r => (((decR (a :: r)).1 : Nat), ((decR (a :: r)).2 : Nat))
theorem decodeGo_of (s : List UInt8) : (((Lib.decodeGo ⟨s.toArray⟩).1 : Nat) : Int) = (decF s).1 ∧ (((Lib.decodeGo ⟨s.toArray⟩).2 : Nat) : Int) = (decF s).2 := by
  cases s with
  | nil => exact ⟨rfl, rfl⟩
  | cons a r =>
    have hz : ¬ (⟨(a :: r).toArray⟩ : ByteArray).size = 0 := by show ¬ (a :: r).toArray.size = 0; simp
    unfold Lib.decodeGo
    rw [if_neg hz, decR_of (by simp), List.drop_zero]
    exact ⟨rfl, rfl⟩
section
variable {st : St} {R : Res → St → Prop}
theorem dec_c {s : List UInt8} (h : R (.ret (.tup [.int .i32 (decF s).1, .int .i64 (decF s).2])) st) : PC 82 [.str s] st R := by
  refine pcalls_of_calls ⟨_, Tryz.func82, by decide, by decide⟩ _ (fun I w cargs hs ha => ?_) h
  simp only [RepL, Rep] at ha
  obtain ⟨c, r, rfl, ⟨rfl, hl⟩, rfl⟩ := ha
  refine (Tryz.utf8_DecodeRuneInString ⟨s.toArray⟩ w ⟨fun i hi => hs.cell _ _ _ (hs.tab.first i hi), fun i hi => ⟨hs.cell _ _ _ (hs.tab.accept i hi).1, hs.cell _ _ _ (hs.tab.accept i hi).2⟩⟩).mono fun e w' ⟨he, hb⟩ => ⟨⟨_, he, ?_⟩, hb⟩
  rw [(decodeGo_of s).1, (decodeGo_of s).2]
  simp only [Rep, RepL]
  exact ⟨_, rfl, _, _, rfl, rfl, _, _, rfl, rfl, rfl⟩
theorem prefix_c {s p : List UInt8} (h : R (.ret (.bool (p.isPrefixOf s))) st) : PC 87 [.str s, .str p] st R := by
  refine pcalls_of_calls ⟨_, Tryz.func87, by decide, by decide⟩ _ (fun I w cargs hs ha => ?_) h
  simp only [RepL, Rep] at ha
  obtain ⟨c, r, rfl, ⟨rfl, hl⟩, c2, r2, rfl, ⟨rfl, hl2⟩, rfl⟩ := ha
  refine (Tryz.strings_HasPrefix ⟨s.toArray⟩ ⟨p.toArray⟩ w).mono fun e w' ⟨he, hw⟩ => ⟨⟨_, he, ?_⟩, hw ▸ RowKit.Below.refl _ _⟩
  simp only [Rep]
  rfl
theorem trim_c {s : List UInt8} {c : UInt8} (hc : c.toNat < 128) (h : R (.ret (.str (Lib.trimB s c))) st) : PC 150 [.str s, .str [c]] st R := by
  refine pcalls_of_calls ⟨_, Tryz.func150, by decide, by decide⟩ _ (fun I w cargs hs ha => ?_) h
  simp only [RepL, Rep] at ha
  obtain ⟨c1, r, rfl, ⟨rfl, hl⟩, c2, r2, rfl, ⟨rfl, hl2⟩, rfl⟩ := ha
  have hsz : (⟨s.toArray⟩ : ByteArray).size ≤ 9223372036854775807 := by show s.toArray.size ≤ _; unfold lim at hl; simp; omega
  refine (Tryz.strings_Trim_one ⟨s.toArray⟩ c hc w hsz).mono fun e w' ⟨he, hw⟩ => ⟨⟨_, he, ?_⟩, ?_⟩
  · simp only [Rep]
    refine ⟨trivial, ?_⟩
    have : (Lib.trimB s c).length ≤ s.length := by
      unfold Lib.trimB Lib.trimLeftB Lib.trimRightB
      refine Nat.le_trans (List.dropWhile_sublist _).length_le ?_
      rw [List.length_reverse]
      refine Nat.le_trans (List.dropWhile_sublist _).length_le ?_
      simp
    unfold lim at hl ⊢; omega
  · rcases hw with rfl | rfl
    · exact RowKit.Below.refl _ _
    · exact (RowKit.Below.refl _ _).drew
theorem byte_c {s : List UInt8} {c : UInt8} (h : R (.ret (.int .i64 (Lib.indexByte s c))) st) : PC 346 [.str s, .int .u8 c.toNat] st R := by
  refine pcalls_of_calls ⟨_, Tryz.func346, by decide, by decide⟩ _ (fun I w cargs hs ha => ?_) h
  simp only [RepL, Rep] at ha
  obtain ⟨c1, r, rfl, ⟨rfl, hl⟩, c2, r2, rfl, rfl, rfl⟩ := ha
  refine (Tryz.strings_IndexByte ⟨s.toArray⟩ c.toNat w).mono fun e w' ⟨he, hw⟩ => ⟨⟨_, he, ?_⟩, hw ▸ RowKit.Below.refl _ _⟩
  simp [Rep]
theorem contains_c {s t : List UInt8} (hz : s.length < 4294967281) (h : R (.ret (.bool (Lib.contains s t))) st) : PC 157 [.str s, .str t] st R := by
  refine pcalls_of_calls ⟨_, Tryz.func157, by decide, by decide⟩ _ (fun I w cargs hs ha => ?_) h
  simp only [RepL, Rep] at ha
  obtain ⟨c1, r, rfl, ⟨rfl, hl⟩, c2, r2, rfl, ⟨rfl, hl2⟩, rfl⟩ := ha
  obtain ⟨m, hm⟩ := hs.tab.maxLen
  refine (Tryz.strings_Contains ⟨s.toArray⟩ ⟨t.toArray⟩ m w (by show s.toArray.size < _; simpa using hz) (hs.cell _ _ _ hm)).mono fun e w' ⟨he, hw⟩ => ⟨⟨_, he, ?_⟩, hw ▸ RowKit.Below.refl _ _⟩
  simp [Rep]
end
end Go.Proofs.YtkidoddkbhchkaaGreatDoor
set_option maxHeartbeats 16000000
set_option linter.unusedVariables false
namespace Go.Aw
open Go
noncomputable def Env.atx (env : Env) (ch : List (Nat × V)) (bx : List (Nat × List V)) (keep kb : List Nat) : Env := match env with
  | ⟨ts, bs, n, sz, gl⟩ => ⟨Env.ts ⟨ts, bs, n, sz, gl⟩ ch keep, List.rec (motive := fun _ => List (Nat × List V)) (Env.bx ⟨ts, bs, n, sz, gl⟩ kb) (fun p _ ih => p :: ih) bx, n, sz, gl⟩
theorem loop_x {ih : (AExit → Env → St → Prop) → Env → St → Prop} {Q : AExit → Env → St → Prop} {env : Env} {st : St} {α : Type} (f : α → List (Nat × V)) (g : α → List (Nat × List V)) (keep kb : List Nat) (S : α → St) (J : α → Prop) (μ : α → Nat) (x0 : α) (h0 : J x0)
    (he : (env.atx (f x0) (g x0) keep kb).leC env) (hs : St.le (S x0) st)
    (hb : ∀ x, J x → ih (thenQ (fun env' st' => ∃ y, J y ∧ μ y < μ x ∧ (env.atx (f y) (g y) keep kb).leC env' ∧ St.le (S y) st') Q) (env.atx (f x) (g x) keep kb) (S x)) :
    ∃ (α : Type) (E : α → Env) (S : α → St) (J : α → Prop) (μ : α → Nat) (x0 : α), J x0 ∧ (E x0).leC env ∧ St.le (S x0) st ∧
      ∀ x, J x → ih (thenQ (fun env' st' => ∃ y, J y ∧ μ y < μ x ∧ (E y).leC env' ∧ St.le (S y) st') Q) (E x) (S x) :=
  ⟨α, fun k => env.atx (f k) (g k) keep kb, S, J, μ, x0, h0, he, hs, hb⟩
theorem loop_2 {ih : (AExit → Env → St → Prop) → Env → St → Prop} {Q : AExit → Env → St → Prop} {env : Env} {st : St} {α β : Type} (f : α → β → List (Nat × V)) (g : α → β → List (Nat × List V)) (keep kb : List Nat) (S : α → β → St) (J : α → β → Prop) (μ : α → β → Nat) (x0 : α) (y0 : β) (h0 : J x0 y0)
    (he : (env.atx (f x0 y0) (g x0 y0) keep kb).leC env) (hs : St.le (S x0 y0) st)
    (hb : ∀ x y, J x y → ih (thenQ (fun env' st' => ∃ p : α × β, J p.1 p.2 ∧ μ p.1 p.2 < μ x y ∧ (env.atx (f p.1 p.2) (g p.1 p.2) keep kb).leC env' ∧ St.le (S p.1 p.2) st') Q) (env.atx (f x y) (g x y) keep kb) (S x y)) :
    ∃ (α : Type) (E : α → Env) (S : α → St) (J : α → Prop) (μ : α → Nat) (x0 : α), J x0 ∧ (E x0).leC env ∧ St.le (S x0) st ∧
      ∀ x, J x → ih (thenQ (fun env' st' => ∃ y, J y ∧ μ y < μ x ∧ (E y).leC env' ∧ St.le (S y) st') Q) (E x) (S x) :=
  ⟨α × β, fun p => env.atx (f p.1 p.2) (g p.1 p.2) keep kb, fun p => S p.1 p.2, fun p => J p.1 p.2, fun p => μ p.1 p.2, (x0, y0), h0, he, hs, fun p h => hb p.1 p.2 h⟩
theorem loop_3 {ih : (AExit → Env → St → Prop) → Env → St → Prop} {Q : AExit → Env → St → Prop} {env : Env} {st : St} {α β γ : Type} (f : α → β → γ → List (Nat × V)) (g : α → β → γ → List (Nat × List V)) (keep kb : List Nat) (S : α → β → γ → St) (J : α → β → γ → Prop) (μ : α → β → γ → Nat) (x0 : α) (y0 : β) (z0 : γ) (h0 : J x0 y0 z0)
    (he : (env.atx (f x0 y0 z0) (g x0 y0 z0) keep kb).leC env) (hs : St.le (S x0 y0 z0) st)
    (hb : ∀ x y z, J x y z → ih (thenQ (fun env' st' => ∃ p : α × β × γ, J p.1 p.2.1 p.2.2 ∧ μ p.1 p.2.1 p.2.2 < μ x y z ∧ (env.atx (f p.1 p.2.1 p.2.2) (g p.1 p.2.1 p.2.2) keep kb).leC env' ∧ St.le (S p.1 p.2.1 p.2.2) st') Q) (env.atx (f x y z) (g x y z) keep kb) (S x y z)) :
    ∃ (α : Type) (E : α → Env) (S : α → St) (J : α → Prop) (μ : α → Nat) (x0 : α), J x0 ∧ (E x0).leC env ∧ St.le (S x0) st ∧
      ∀ x, J x → ih (thenQ (fun env' st' => ∃ y, J y ∧ μ y < μ x ∧ (E y).leC env' ∧ St.le (S y) st') Q) (E x) (S x) :=
  ⟨α × β × γ, fun p => env.atx (f p.1 p.2.1 p.2.2) (g p.1 p.2.1 p.2.2) keep kb, fun p => S p.1 p.2.1 p.2.2, fun p => J p.1 p.2.1 p.2.2, fun p => μ p.1 p.2.1 p.2.2, (x0, y0, z0), h0, he, hs, fun p h => hb p.1 p.2.1 p.2.2 h⟩
theorem int_ret {k : IntKind} {a b : Int} (e : a = b) : Res.ret (.int k a) = Res.ret (.int k b) := by rw [e]
theorem WJ {n : Nat} {p : Prop} (k : n < 4611686018427387904 → p) : n < lim → p := k
theorem WK {l : List UInt8} {K : Nat → Nat → Prop} (k : ∀ c m, (c, m) = decR l → K c m) : ∀ c m, (c, m) = decR l → K c m := k
theorem WN {s : List UInt8} {a : Int} {K : List UInt8 → Prop} (h0 : 0 ≤ a) (h1 : a ≤ s.length) (k : K (s.drop a.toNat)) :
    (0 ≤ a ∧ a ≤ (s.length : Int) ∧ (s.length : Int) ≤ s.length) ∧ ∀ s', s' = (s.take (s.length : Int).toNat).drop a.toNat → K s' :=
  ⟨⟨h0, h1, Int.le_refl _⟩, fun s' e => by
    rw [show (s.length : Int).toNat = s.length by omega, List.take_length] at e; subst e; exact k⟩
theorem WO {s : List UInt8} {b : Int} {K : List UInt8 → Prop} (h0 : 0 ≤ b) (h1 : b ≤ s.length) (k : K (s.take b.toNat)) :
    ((0 : Int) ≤ 0 ∧ 0 ≤ b ∧ b ≤ s.length) ∧ ∀ s', s' = (s.take b.toNat).drop (0 : Int).toNat → K s' :=
  ⟨⟨Int.le_refl _, h0, h1⟩, fun s' e => by
    rw [show (0 : Int).toNat = 0 from rfl, List.drop_zero] at e; subst e; exact k⟩
theorem WP {s : List UInt8} {a b : Int} {K : List UInt8 → Prop} (h0 : 0 ≤ a) (h1 : a ≤ b) (h2 : b ≤ s.length) (k : K ((s.take b.toNat).drop a.toNat)) :
    (0 ≤ a ∧ a ≤ b ∧ b ≤ s.length) ∧ ∀ s', s' = (s.take b.toNat).drop a.toNat → K s' := ⟨⟨h0, h1, h2⟩, fun s' e => e ▸ k⟩
theorem WM {s : List UInt8} {i : Int} {K : UInt8 → Prop} (h0 : 0 ≤ i) (h1 : i < s.length) (k : ∀ e, s[i.toNat]? = some e → K e) : 0 ≤ i ∧ ∃ e, s[i.toNat]? = some e ∧ K e := by
  have hlt : i.toNat < s.length := by omega
  exact ⟨h0, s[i.toNat], List.getElem?_eq_getElem hlt, k _ (List.getElem?_eq_getElem hlt)⟩
theorem WL {s : List UInt8} {i : Int} {e : UInt8} {K : UInt8 → Prop} (h : s[i.toNat]? = some e) (h0 : 0 ≤ i) (k : K e) : 0 ≤ i ∧ ∃ e, s[i.toNat]? = some e ∧ K e := ⟨h0, e, h, k⟩
theorem Yc0 {P : Prop} (h : P := by with_reducible first | (show _ ∧ _; first | exact Wa) | (show bcase _ _ _; first | exact Wb | exact Wc) | fail) : P := h
theorem Yc1 {P A : Prop} (k : A) (h : A → P := by intro k; with_reducible first | (show _ ∧ _; first | exact Wd (by kernel_rfl) k | exact Wm (by assumption) (by omega) k | exact Wn (by omega) (by omega) k | exact Wo (by omega) (by omega) k | exact Wp (by omega) (by omega) (by omega) k | exact Wr (by decide) (by omega) (by omega) k | exact Ws (by decide) k | exact WB (by assumption) (by omega) k | exact WC (by omega) (by omega) k | exact WD (by omega) (by omega) k | exact WE (by omega) (by omega) (by omega) k | exact WL (by assumption) (by omega) k | exact WM (by omega) (by omega) k | exact WN (by omega) (by omega) k | exact WO (by omega) (by omega) k | exact WP (by omega) (by omega) (by omega) k) | (show bcase _ _ _; first | exact Wt (by first | assumption | omega) k | exact Wu (by first | assumption | omega) k | exact Wv (by omega) k | exact Ww (by omega) k | exact Wi k | exact Wj k) | (intro x y z; exact Wl k x y z) | (intro x y z; exact Wz k x y z) | (intro x y z; exact WA k x y z) | (intro x; exact WJ k x) | (intro x y z; exact WK k x y z) | (show Exists _; first | exact Wq (by omega) (by omega) k) | fail) : P := h k
theorem Yc2 {P : Prop} {B C : V → Prop} (k : V) (l : B k) (m : C k) (h : ∀ k, B k → C k → P := by intro k l m; with_reducible first | (show Exists _; first | exact We k l m | exact W8 (by decide +kernel) k l m | exact W0 (by decide +kernel) k l m | exact W9 k l m) | fail) : P := h k l m
theorem Yc3 {P A B : Prop} (k : A) (l : B) (h : A → B → P := by intro k l; with_reducible first | (show bcase _ _ _; first | exact Wf (by decide) k l | exact Wg k l | exact Wh k l | exact Wk k l) | fail) : P := h k l
theorem Yc4 {P A B : Prop} (k : A) (l : B) (h : A → B → P := by intro k l; with_reducible first | (intro x y; exact Wx k l x y) | (intro x y; exact Wy k l x y) | fail) : P := h k l
end Go.Aw
set_option maxHeartbeats 16000000
set_option linter.unusedVariables false
namespace Go.Aw
open Go
def markF (c : Int) : Int :=
  if c = 40 ∨ c = 41 ∨ c = 44 ∨ c = 59 ∨ c = 91 ∨ c = 93 ∨ c = 96 ∨ c = 123 ∨ c = 125 then 6
  else if c = 34 ∨ c = 39 then 7
  else if 32 < c ∧ c < 127 then 5
  else 0
def beyondF (c : Int) : Int :=
  if c = 215 ∨ c = 247 then 5
  else if 223 ≤ c ∧ c ≤ 255 ∨ 945 ≤ c ∧ c ≤ 969 then 2
  else if 192 ≤ c ∧ c ≤ 222 ∨ 913 ≤ c ∧ c ≤ 937 ∧ c ≠ 930 then 3
  else if c < 160 ∨ c = 173 ∨ 55296 ≤ c ∧ c ≤ 57343 ∨ 1114111 < c then 0
  else if 160 < c ∧ c ≤ 191 ∨ 8592 ≤ c ∧ c ≤ 8959 then 5
  else 8
def classF (c : Int) : Int :=
  if c = 32 ∨ 9 ≤ c ∧ c ≤ 13 then 1
  else if 48 ≤ c ∧ c ≤ 57 then 4
  else if 97 ≤ c ∧ c ≤ 122 ∨ c = 95 then 2
  else if 65 ≤ c ∧ c ≤ 90 then 3
  else if c < 128 then markF c else beyondF c
def digitF (c base : Int) : Int :=
  let v := if 48 ≤ c ∧ c ≤ 57 then c - 48 else if 97 ≤ c ∧ c ≤ 102 then c - 87 else if 65 ≤ c ∧ c ≤ 70 then c - 55 else 16
  if base < 2 ∨ 16 < base ∨ base ≤ v then -1 else v
theorem decR_pos (l : List UInt8) : 1 ≤ (decR l).2 := by
  unfold decR
  split
  · decide
  · dsimp only
    repeat' split
    all_goals simp
theorem decR_le {l : List UInt8} (h : l ≠ []) : (decR l).2 ≤ l.length := by
  cases l with
  | nil => exact absurd rfl h
  | cons a l =>
    have hc : ∀ k : Nat, (match l[k]? with | some b => b.toNat / 64 == 2 | none => false) = true → k + 2 ≤ (a :: l).length := fun k e => by
      cases hk : l[k]? with
      | none => rw [hk] at e; cases e
      | some b => have := (List.getElem?_eq_some_iff.1 hk).1; rw [List.length_cons]; omega
    unfold decR
    dsimp only
    split
    · simp
    split
    · rename_i h2
      simp only [Bool.and_eq_true] at h2
      have := hc 0 h2.2
      split <;> simp only <;> omega
    split
    · rename_i h2
      simp only [Bool.and_eq_true] at h2
      have := hc 1 h2.2
      split <;> simp only <;> omega
    split
    · rename_i h2
      simp only [Bool.and_eq_true] at h2
      have := hc 2 h2.2
      split <;> simp only <;> omega
    · simp
def spanD (p : Nat × Nat → Bool) (l : List UInt8) : Nat :=
  match l with
  | [] => 0
  | a :: r => if p (decR (a :: r)) then (decR (a :: r)).2 + spanD p ((a :: r).drop (decR (a :: r)).2) else 0
termination_by l.length
decreasing_by
  have := decR_pos (a :: r)
  simp only [List.length_drop, List.length_cons]
  omega
theorem spanD_nil (p : Nat × Nat → Bool) : spanD p [] = 0 := by rw [spanD]
theorem spanD_yes {p : Nat × Nat → Bool} {l : List UInt8} (h : l ≠ []) (hp : p (decR l) = true) : spanD p l = (decR l).2 + spanD p (l.drop (decR l).2) := by
  cases l with
  | nil => exact absurd rfl h
  | cons a r => rw [spanD, if_pos hp]
theorem spanD_no {p : Nat × Nat → Bool} {l : List UInt8} (hp : p (decR l) = false) : spanD p l = 0 := by
  cases l with
  | nil => exact spanD_nil p
  | cons a r => rw [spanD, if_neg (by rw [hp]; decide)]
theorem spanD_le (p : Nat × Nat → Bool) (l : List UInt8) : spanD p l ≤ l.length := by
  fun_induction spanD p l with
  | case1 => exact Nat.le_refl _
  | case2 a r h ih =>
    have := decR_le (l := a :: r) (by simp)
    rw [List.length_drop] at ih
    omega
  | case3 a r h => exact Nat.zero_le _
theorem spanD_stop (p : Nat × Nat → Bool) (l : List UInt8) (h : spanD p l < l.length) : p (decR (l.drop (spanD p l))) = false := by
  fun_induction spanD p l with
  | case1 => simp at h
  | case2 a r hp ih =>
    rw [List.length_drop] at ih
    have := decR_le (l := a :: r) (by simp)
    rw [← List.drop_drop]
    exact ih (by omega)
  | case3 a r hp => simpa using hp
def spanR (p : Int → Bool) (l : List UInt8) : Nat := spanD (fun d => p (d.1 : Nat)) l
theorem spanR_nil (p : Int → Bool) : spanR p [] = 0 := spanD_nil _
theorem spanR_yes {p : Int → Bool} {l : List UInt8} (h : l ≠ []) (hp : p ((decR l).1 : Nat) = true) : spanR p l = (decR l).2 + spanR p (l.drop (decR l).2) := spanD_yes h hp
theorem spanR_no {p : Int → Bool} {l : List UInt8} (hp : p ((decR l).1 : Nat) = false) : spanR p l = 0 := spanD_no hp
theorem spanR_le (p : Int → Bool) (l : List UInt8) : spanR p l ≤ l.length := spanD_le _ l
theorem spanR_stop (p : Int → Bool) (l : List UInt8) (h : spanR p l < l.length) : p ((decR (l.drop (spanR p l))).1 : Nat) = false := spanD_stop _ l h
theorem rune_le {t : List UInt8} {pos c m : Nat} (h : pos < t.length) (hd : (c, m) = decR (t.drop pos)) : pos + m ≤ t.length ∧ 1 ≤ m := by
  have h1 := decR_pos (t.drop pos)
  have h2 := decR_le (l := t.drop pos) (fun e => by have := congrArg List.length e; rw [List.length_drop, List.length_nil] at this; omega)
  rw [List.length_drop, ← hd] at h2
  rw [← hd] at h1
  exact ⟨by omega, h1⟩
theorem span_go {p : Nat × Nat → Bool} {t : List UInt8} {pos c m n : Nat} (h : pos < t.length) (hd : (c, m) = decR (t.drop pos)) (hp : p (c, m) = true) (hi : n = pos + spanD p (t.drop pos)) : n = pos + m + spanD p (t.drop (pos + m)) := by
  rw [hi, spanD_yes (fun e => by have := congrArg List.length e; rw [List.length_drop, List.length_nil] at this; omega) (by rw [← hd]; exact hp), ← hd, List.drop_drop]
  exact (Nat.add_assoc _ _ _).symm
theorem span_no {p : Nat × Nat → Bool} {t : List UInt8} {pos c m n : Nat} (hd : (c, m) = decR (t.drop pos)) (hp : p (c, m) = false) (hi : n = pos + spanD p (t.drop pos)) : n = pos := by
  rw [hi, spanD_no (by rw [← hd]; exact hp)]; rfl
theorem span_end {p : Nat × Nat → Bool} {t : List UInt8} {pos n : Nat} (h : ¬ pos < t.length) (hi : n = pos + spanD p (t.drop pos)) : n = pos := by
  rw [hi, List.drop_eq_nil_iff.2 (by omega), spanD_nil]; rfl
def goodD (d : Nat × Nat) : Bool := !(d.1 == 65533 && d.2 == 1)
end Go.Aw
set_option maxHeartbeats 16000000
set_option linter.unusedVariables false
namespace Go.Proofs.YtkidoddkbhchkaaGreatDoor
open Go Go.Aw
def nextF (s : List UInt8) (i : Int) : Int × Int := if i < 0 ∨ s.length ≤ i then (0, 0) else decF (s.drop i.toNat)
def runF (s : List UInt8) (i class' : Int) : Int := if i < 0 ∨ s.length < i then 0 else i + spanR (fun c => classF c == class') (s.drop i.toNat)
def chkF (s : List UInt8) : Int × Int := if spanD goodD s < s.length then (spanD goodD s, 10) else (s.length, 0)
theorem nextF_out {s : List UInt8} {i : Int} (h : i < 0 ∨ s.length ≤ i) : nextF s i = (0, 0) := if_pos h
theorem nextF_in {s : List UInt8} {i : Int} (h : 0 ≤ i) (k : i < s.length) : nextF s i = decF (s.drop i.toNat) := if_neg (by omega)
theorem runF_out {s : List UInt8} {i k : Int} (h : i < 0 ∨ s.length < i) : runF s i k = 0 := if_pos h
theorem runF_in {s : List UInt8} {i k : Int} (h : 0 ≤ i) (h1 : i ≤ s.length) : runF s i k = i + spanR (fun c => classF c == k) (s.drop i.toNat) := if_neg (by omega)
theorem decF_of {s : List UInt8} (h : s ≠ []) : decF s = ((((decR s).1 : Nat) : Int), (((decR s).2 : Nat) : Int)) := by
  cases s with
  | nil => exact absurd rfl h
  | cons a r => rfl
theorem decF_hd {s : List UInt8} {pos c m : Nat} (h : pos < s.length) (hd : (c, m) = decR (s.drop pos)) : decF (s.drop (pos : Int).toNat) = ((c : Int), (m : Int)) := by
  rw [show (pos : Int).toNat = pos by omega, decF_of (fun e => by have := congrArg List.length e; rw [List.length_drop, List.length_nil] at this; omega), ← hd]
theorem chkF_bad {s : List UInt8} {pos : Nat} (h : pos < s.length) (k : spanD goodD s = pos) : chkF s = (((pos : Nat) : Int), 10) := by
  unfold chkF; rw [k, if_pos h]
theorem chkF_ok {s : List UInt8} {pos : Nat} (h : ¬ pos < s.length) (k : spanD goodD s = pos) : chkF s = ((s.length : Int), 0) := by
  unfold chkF; rw [k, if_neg h]
section
variable {st : St} {R : Res → St → Prop}
theorem mark_c {c : Int} (h : R (.ret (.int .i64 (markF c))) st) : PC 84 [.int .i32 c] st R := by
  refine pB Tryz.func84 ?_
  repeat' ((conv => whnf); first | (refine Yc1 ?_; intros) | (refine Yc3 ?_ ?_ <;> intro _) | fail)
  all_goals exact fin h (int_ret (by unfold markF; (repeat' split) <;> first | omega | rfl))
theorem beyond_c {c : Int} (h : R (.ret (.int .i64 (beyondF c))) st) : PC 85 [.int .i32 c] st R := by
  refine pB Tryz.func85 ?_
  repeat' ((conv => whnf); first | (refine Yc1 ?_; intros) | (refine Yc3 ?_ ?_ <;> intro _) | fail)
  all_goals exact fin h (int_ret (by unfold beyondF; (repeat' split) <;> first | omega | rfl))
theorem class_c {c : Int} (h : R (.ret (.int .i64 (classF c))) st) : PC 43 [.int .i32 c] st R := by
  refine pB Tryz.func43 ?_
  repeat' ((conv => whnf); first | (refine Yc1 ?_; intros) | (refine Yc3 ?_ ?_ <;> intro _) | refine mark_c ?_ | refine beyond_c ?_)
  all_goals exact fin h (int_ret (by unfold classF; (repeat' split) <;> first | omega | rfl))
theorem next_c {s : List UInt8} {i : Int} (hl : s.length < 4611686018427387904) (h : R (.ret (.tup [.int .i32 (nextF s i).1, .int .i64 (nextF s i).2])) st) : PC 276 [.str s, .int .i64 i] st R := by
  refine pB Tryz.func276 ?_
  repeat' ((conv => whnf); first | (refine Yc1 ?_; intros) | (refine Yc3 ?_ ?_ <;> intro _) | refine dec_c ?_)
  all_goals exact fin h (by first | rw [nextF_out (by omega)] | rw [nextF_in (by omega) (by omega)])
theorem run_c {s : List UInt8} {i k : Int} (hl : s.length < 4611686018427387904) (h : R (.ret (.int .i64 (runF s i k))) st) : PC 86 [.str s, .int .i64 i, .int .i64 k] st R := by
  refine pB Tryz.func86 ?_
  repeat' ((conv => whnf); first | (refine Yc1 ?_; intros) | (refine Yc3 ?_ ?_ <;> intro _) | refine class_c ?_)
  all_goals try exact fin h (int_ret (runF_out (by omega)))
  have hlen : (s.drop i.toNat).length = s.length - i.toNat := List.length_drop
  generalize ht : s.drop i.toNat = t at hlen
  refine loop_x (α := Nat) (fun _ => []) (fun pos => [(0, [.sit t pos])]) [0, 1, 2, 20] [] (fun _ => st) (fun pos => pos ≤ t.length ∧ spanR (fun c => classF c == k) t = pos + spanR (fun c => classF c == k) (t.drop pos)) (fun pos => t.length - pos) 0 ⟨Nat.zero_le _, by simp⟩ Yl (St.le_refl _) ?_
  rintro pos ⟨hp, hi⟩
  repeat' ((conv => whnf); first | (refine Yc1 ?_; intros) | (refine Yc3 ?_ ?_ <;> intro _) | refine class_c ?_)
  · rename_i hlt c m hd hk
    have hr := rune_le hlt hd
    conv => whnf
    exact ⟨pos + m, ⟨hr.1, span_go hlt hd (beq_iff_eq.2 hk) hi⟩, by omega, Yl, St.le_refl _⟩
  · rename_i hlt c m hd hk
    have := span_no (p := fun d => classF (d.1 : Nat) == k) hd (beq_eq_false_iff_ne.2 hk) hi
    exact fin h (int_ret (by rw [runF_in (by omega) (by omega), ht, this]))
  · rename_i hlt hls
    have := span_end hlt hi
    exact fin h (int_ret (by rw [runF_in (by omega) (by omega), ht, this]; omega))
theorem check_c {s : List UInt8} (h : R (.ret (.tup [.int .i64 (chkF s).1, .int .i64 (chkF s).2])) st) : PC 40 [.str s] st R := by
  refine pB Tryz.func40 ?_
  repeat' ((conv => whnf); first | (refine Yc1 ?_; intros) | (refine Yc3 ?_ ?_ <;> intro _) | fail)
  refine loop_x (α := Nat) (fun _ => []) (fun pos => [(0, [.sit s pos])]) [0, 9] [] (fun _ => st) (fun pos => pos ≤ s.length ∧ spanD goodD s = pos + spanD goodD (s.drop pos)) (fun pos => s.length - pos) 0 ⟨Nat.zero_le _, by simp⟩ Yl (St.le_refl _) ?_
  rintro pos ⟨hp, hi⟩
  repeat' ((conv => whnf); first | (refine Yc1 ?_; intros) | (refine Yc3 ?_ ?_ <;> intro _) | refine dec_c ?_)
  · rename_i hlt c m hd hc hm
    rw [decF_hd hlt hd] at hm
    have hk := span_no hd (by simp only [goodD]; have h1 : c = 65533 := hc; have h2 : m = 1 := Int.ofNat.inj hm; rw [h1, h2]; rfl) hi
    exact fin h (by rw [chkF_bad hlt hk])
  · rename_i hlt c m hd hc hm
    rw [decF_hd hlt hd] at hm
    have hr := rune_le hlt hd
    conv => whnf
    exact ⟨pos + m, ⟨hr.1, span_go hlt hd (by simp only [goodD]; have : ¬ m = 1 := fun e => hm (by subst e; rfl); simp [this]) hi⟩, by omega, Yl, St.le_refl _⟩
  · rename_i hlt c m hd hc
    have hr := rune_le hlt hd
    conv => whnf
    exact ⟨pos + m, ⟨hr.1, span_go hlt hd (by simp only [goodD]; have : ¬ c = 65533 := hc; simp [this]) hi⟩, by omega, Yl, St.le_refl _⟩
  · rename_i hlt hls
    exact fin h (by rw [chkF_ok hlt (span_end hlt hi)])
end
end Go.Proofs.YtkidoddkbhchkaaGreatDoor
set_option maxHeartbeats 16000000
set_option linter.unusedVariables false
set_option linter.unusedSimpArgs false
namespace Go.Aw
open Go
def hdF : List UInt8 → Int
  | [] => -1
  | a :: _ => (a.toNat : Nat)
theorem hdF_lt (l : List UInt8) : -1 ≤ hdF l ∧ hdF l ≤ 255 := by
  cases l with
  | nil => exact ⟨by decide, by decide⟩
  | cons a r => have := a.toNat_lt; simp only [hdF]; omega
end Go.Aw
set_option maxHeartbeats 16000000
set_option linter.unusedVariables false
set_option maxHeartbeats 16000000
set_option linter.unusedVariables false
set_option maxHeartbeats 16000000
set_option linter.unusedVariables false
namespace Go.Aw
open Go
def nlF (l : List UInt8) : Nat := if hdF l = 13 ∧ hdF (l.drop 1) = 10 then 2 else if hdF l = 13 ∨ hdF l = 10 ∨ hdF l = 12 then 1 else 0
def stopF (col : Int) : Int := (col - 1) / 8 * 8 + 9
def stepN (l : List UInt8) : Nat := if 0 < nlF l then nlF l else (decR l).2
def stepL (l : List UInt8) (line : Int) : Int := if 0 < nlF l then line + 1 else line
def stepC (l : List UInt8) (col : Int) : Int := if 0 < nlF l then 1 else if hdF l = 9 then stopF col else col + 1
theorem hdF_at {s : List UInt8} {i : Nat} {e : UInt8} (h : s[i]? = some e) : hdF (s.drop i) = (e.toNat : Nat) := by rw [drop_at h]; rfl
theorem hdF_none {s : List UInt8} {i : Nat} (h : s.length ≤ i) : hdF (s.drop i) = -1 := by rw [List.drop_eq_nil_iff.2 h]; rfl
theorem nlF_le (l : List UInt8) : nlF l ≤ l.length := by
  rcases l with _ | ⟨a, _ | ⟨b, r⟩⟩
  · decide
  · have e : ¬ (hdF [a] = 13 ∧ hdF ([a].drop 1) = 10) := fun h => absurd (show (-1 : Int) = 10 from h.2) (by decide)
    unfold nlF
    rw [if_neg e, List.length_singleton]
    by_cases h : hdF [a] = 13 ∨ hdF [a] = 10 ∨ hdF [a] = 12
    · rw [if_pos h]; omega
    · rw [if_neg h]; omega
  · unfold nlF
    simp only [List.length_cons]
    by_cases h1 : hdF (a :: b :: r) = 13 ∧ hdF ((a :: b :: r).drop 1) = 10
    · rw [if_pos h1]; omega
    · rw [if_neg h1]
      by_cases h : hdF (a :: b :: r) = 13 ∨ hdF (a :: b :: r) = 10 ∨ hdF (a :: b :: r) = 12
      · rw [if_pos h]; omega
      · rw [if_neg h]; omega
theorem stepN_le {l : List UInt8} (h : l ≠ []) : stepN l ≤ l.length ∧ 1 ≤ stepN l := by
  unfold stepN
  split
  · exact ⟨nlF_le l, by assumption⟩
  · exact ⟨decR_le h, decR_pos l⟩
theorem step_or (s : List UInt8) (pos : Nat) : ¬ pos < s.length ∨ (pos + stepN (s.drop pos) ≤ s.length ∧ 1 ≤ stepN (s.drop pos)) := by
  by_cases h : pos < s.length
  · have := stepN_le (l := s.drop pos) (fun e => by have := congrArg List.length e; rw [List.length_drop, List.length_nil] at this; omega)
    rw [List.length_drop] at this
    exact .inr ⟨by omega, this.2⟩
  · exact .inl h
end Go.Aw
namespace Go.Proofs.YtkidoddkbhchkaaGreatDoor
open Go Go.Aw
def spot (pos : Nat) (line col : Int) : V := .agg [.int .i64 pos, .int .i64 line, .int .i64 col]
theorem spot_ret {p : Nat} {p' l l' c c' : Int} (e1 : (p : Int) = p') (e2 : l = l') (e3 : c = c') : Res.ret (spot p l c) = Res.ret (.agg [.int .i64 p', .int .i64 l', .int .i64 c']) := by subst e1; subst e2; subst e3; rfl
section
variable {st : St} {R : Res → St → Prop}
theorem next_at {s : List UInt8} {i : Int} {c m : Nat} (hl : s.length < 4611686018427387904) (hx : nextF s i = ((c : Int), (m : Int))) (h : R (.ret (.tup [.int .i32 c, .int .i64 m])) st) : PC 276 [.str s, .int .i64 i] st R := next_c hl (by rw [hx]; exact h)
theorem newline_c {s : List UInt8} {pos : Nat} (hl : s.length < 4611686018427387904) (hp : pos < s.length) (h : R (.ret (.int .i64 (nlF (s.drop pos) : Nat))) st) : PC 226 [.str s, .int .i64 pos] st R := by
  obtain ⟨e, he⟩ : ∃ e, s[pos]? = some e := ⟨s[pos], List.getElem?_eq_getElem hp⟩
  have he' : s[(pos : Int).toNat]? = some e := he
  have h0 := hdF_at he
  have h1 : hdF ((s.drop pos).drop 1) = hdF (s.drop (pos + 1)) := by rw [List.drop_drop]
  refine pB Tryz.func226 ?_
  repeat' ((conv => whnf); first | (refine Yc1 ?_; intros) | (refine Yc3 ?_ ?_ <;> intro _) | fail)
  all_goals try have h2 := hdF_at (show s[pos + 1]? = some _ by assumption)
  all_goals try have h3 := hdF_none (s := s) (i := pos + 1) (by omega)
  all_goals exact fin h (int_ret (by unfold nlF; rw [h1]; (repeat' split) <;> omega))
theorem stop_c {col : Int} (h0 : 1 ≤ col) (h1 : col ≤ 4000000000000000000) (h : R (.ret (.int .i64 (stopF col))) st) : PC 277 [.int .i64 col] st R := by
  refine pB Tryz.func277 ?_
  repeat' ((conv => whnf); first | (refine Yc1 ?_; intros) | (refine Yc3 ?_ ?_ <;> intro _) | fail)
  exact fin h (int_ret (by unfold stopF; omega))
theorem pnext_c {s : List UInt8} {pos : Nat} {line col : Int} (hl : s.length < 4611686018427387904) (hp : pos < s.length) (h0 : 1 ≤ line) (h1 : line ≤ 4000000000000000000) (h2 : 1 ≤ col) (h3 : col ≤ 4000000000000000000)
    (h : R (.ret (spot (pos + stepN (s.drop pos)) (stepL (s.drop pos) line) (stepC (s.drop pos) col))) st) : PC 227 [.str s, spot pos line col] st R := by
  obtain ⟨e, he⟩ : ∃ e, s[pos]? = some e := ⟨s[pos], List.getElem?_eq_getElem hp⟩
  have he' : s[(pos : Int).toNat]? = some e := he
  have hh := hdF_at he
  have hn := nlF_le (s.drop pos)
  rw [List.length_drop] at hn
  rcases hd : decR (s.drop pos) with ⟨c, m⟩
  have hr := rune_le hp hd.symm
  have hx : nextF s pos = ((c : Int), (m : Int)) := by rw [nextF_in (by omega) (by omega), decF_hd hp hd.symm]
  refine pB Tryz.func227 ?_
  repeat' ((conv => whnf); first | (refine Yc1 ?_; intros) | (refine Yc3 ?_ ?_ <;> intro _) | refine newline_c hl hp ?_ | refine next_at hl hx ?_ | refine stop_c h2 h3 ?_)
  · have hz : 0 < nlF (s.drop pos) := by omega
    exact fin h (spot_ret (by unfold stepN; rw [if_pos hz]; omega) (by unfold stepL; rw [if_pos hz]) (by unfold stepC; rw [if_pos hz]))
  · have hz : ¬ 0 < nlF (s.drop pos) := by omega
    exact fin h (spot_ret (by unfold stepN; rw [if_neg hz, hd]; omega) (by unfold stepL; rw [if_neg hz]) (by unfold stepC; rw [if_neg hz, if_pos (by omega)]))
  · have hz : ¬ 0 < nlF (s.drop pos) := by omega
    exact fin h (spot_ret (by unfold stepN; rw [if_neg hz, hd]; omega) (by unfold stepL; rw [if_neg hz]) (by unfold stepC; rw [if_neg hz, if_neg (by omega)]))
end
end Go.Proofs.YtkidoddkbhchkaaGreatDoor
set_option maxHeartbeats 16000000
set_option linter.unusedVariables false
namespace Go.Aw
open Go
def walkP (l : List UInt8) (k : Nat) (p : Int × Int) : Int × Int :=
  match l with
  | [] => p
  | a :: r => if k < stepN (a :: r) then p else walkP ((a :: r).drop (stepN (a :: r))) (k - stepN (a :: r)) (stepL (a :: r) p.1, stepC (a :: r) p.2)
termination_by l.length
decreasing_by
  have := stepN_le (l := a :: r) (by simp)
  simp only [List.length_drop, List.length_cons]
  omega
theorem walkP_nil (k : Nat) (p : Int × Int) : walkP [] k p = p := by rw [walkP]
theorem walkP_stop {l : List UInt8} {k : Nat} {p : Int × Int} (h : k < stepN l) : walkP l k p = p := by
  cases l with
  | nil => exact walkP_nil k p
  | cons a r => rw [walkP, if_pos h]
theorem walkP_go {l : List UInt8} {k : Nat} {p : Int × Int} (h0 : l ≠ []) (h : ¬ k < stepN l) : walkP l k p = walkP (l.drop (stepN l)) (k - stepN l) (stepL l p.1, stepC l p.2) := by
  cases l with
  | nil => exact absurd rfl h0
  | cons a r => rw [walkP, if_neg h]
theorem walkP_zero {l : List UInt8} {p : Int × Int} : walkP l 0 p = p := by
  cases l with
  | nil => exact walkP_nil 0 p
  | cons a r => exact walkP_stop (stepN_le (by simp)).2
theorem drop_ne {s : List UInt8} {pos : Nat} (h : pos < s.length) : s.drop pos ≠ [] := fun e => by
  have := congrArg List.length e; rw [List.length_drop, List.length_nil] at this; omega
theorem walkP_step {s : List UInt8} {pos k : Nat} {line col : Int} (h : pos < s.length) (hk : ¬ pos + k < pos + stepN (s.drop pos)) :
    walkP (s.drop pos) k (line, col) = walkP (s.drop (pos + stepN (s.drop pos))) (k - stepN (s.drop pos)) (stepL (s.drop pos) line, stepC (s.drop pos) col) := by
  rw [walkP_go (drop_ne h) (by omega), List.drop_drop]
theorem stepL_b (l : List UInt8) (line : Int) : line ≤ stepL l line ∧ stepL l line ≤ line + 1 := by unfold stepL; split <;> omega
theorem stepC_b (l : List UInt8) {col : Int} (h : 1 ≤ col) : 1 ≤ stepC l col ∧ stepC l col ≤ col + 8 := by
  unfold stepC stopF
  by_cases h1 : 0 < nlF l
  · rw [if_pos h1]; omega
  · rw [if_neg h1]
    by_cases h2 : hdF l = 9
    · rw [if_pos h2]; omega
    · rw [if_neg h2]; omega
end Go.Aw
namespace Go.Proofs.YtkidoddkbhchkaaGreatDoor
open Go Go.Aw
section
variable {st : St} {R : Res → St → Prop}
theorem of_c {s : List UInt8} {k : Nat} (hl : s.length ≤ 100000000) (hk : k ≤ s.length) (h : R (.ret (.tup [.int .i64 (walkP s k (1, 1)).1, .int .i64 (walkP s k (1, 1)).2, .int .i64 0])) st) : PC 152 [.str s, .int .i64 k] st R := by
  refine pB Tryz.func152 ?_
  repeat' ((conv => whnf); first | exact Yc0 | (refine Yc1 ?_; intros) | (refine Yc2 ?_ ?_ ?_; rotate_left) | (refine Yc3 ?_ ?_ <;> intro _) | with_reducible refine WF ?_)
  refine loop_3 (α := Nat) (β := Int) (γ := Int) (fun _ _ _ => []) (fun pos line col => [(0, [.int .i64 (pos : Int), .int .i64 line, .int .i64 col])]) [0, 1, 7] [] (fun _ _ _ => st)
    (fun pos line col => pos ≤ k ∧ 1 ≤ line ∧ line ≤ 1 + (pos : Int) ∧ 1 ≤ col ∧ col ≤ 1 + 8 * (pos : Int) ∧ walkP s k (1, 1) = walkP (s.drop pos) (k - pos) (line, col)) (fun pos _ _ => k - pos) 0 1 1 ⟨by omega, by omega, by omega, by omega, by omega, rfl⟩ Yl (St.le_refl _) ?_
  rintro pos line col ⟨h1, h2, h3, h4, h5, h6⟩
  have hr := step_or s pos
  have hL := stepL_b (s.drop pos) line
  have hC := stepC_b (s.drop pos) h4
  repeat' ((conv => whnf); first | exact Yc0 | (refine Yc1 ?_; intros) | (refine Yc2 ?_ ?_ ?_; rotate_left) | (refine Yc3 ?_ ?_ <;> intro _) | refine pnext_c (by omega) (by omega) (by omega) (by omega) (by omega) (by omega) ?_ | with_reducible refine WF ?_)
  · exact fin h (by rw [h6, walkP_stop (by omega)])
  · conv => whnf
    exact ⟨(pos + stepN (s.drop pos), stepL (s.drop pos) line, stepC (s.drop pos) col), ⟨by dsimp only; omega, by dsimp only; omega, by dsimp only; omega, by dsimp only; omega, by dsimp only; omega, by dsimp only; rw [h6, walkP_step (by omega) (by omega), Nat.sub_sub]⟩, by dsimp only; omega, Yl, St.le_refl _⟩
  · have hz : k - pos = 0 := by omega
    exact fin h (by rw [h6, hz, walkP_zero])
theorem width_c {s : List UInt8} {c0 : Int} (hl : s.length ≤ 100000000) (h0 : 1 ≤ c0) (h1 : c0 ≤ 2147483648) (h : R (.ret (.tup [.int .i64 (walkP s s.length (1, c0)).2, .int .i64 0])) st) : PC 153 [.str s, .int .i64 c0] st R := by
  refine pB Tryz.func153 ?_
  repeat' ((conv => whnf); first | (refine Yc1 ?_; intros) | (refine Yc3 ?_ ?_ <;> intro _) | fail)
  refine loop_3 (α := Nat) (β := Int) (γ := Int) (fun _ _ _ => []) (fun pos line col => [(0, [.int .i64 (pos : Int), .int .i64 line, .int .i64 col])]) [0, 6] [] (fun _ _ _ => st)
    (fun pos line col => pos ≤ s.length ∧ 1 ≤ line ∧ line ≤ 1 + (pos : Int) ∧ 1 ≤ col ∧ col ≤ c0 + 8 * (pos : Int) ∧ walkP s s.length (1, c0) = walkP (s.drop pos) (s.length - pos) (line, col)) (fun pos _ _ => s.length - pos) 0 1 c0 ⟨by omega, by omega, by omega, by omega, by omega, rfl⟩ Yl (St.le_refl _) ?_
  rintro pos line col ⟨h1, h2, h3, h4, h5, h6⟩
  have hr := step_or s pos
  have hL := stepL_b (s.drop pos) line
  have hC := stepC_b (s.drop pos) h4
  repeat' ((conv => whnf); first | (refine Yc1 ?_; intros) | (refine Yc3 ?_ ?_ <;> intro _) | refine pnext_c (by omega) (by omega) (by omega) (by omega) (by omega) (by omega) ?_)
  · conv => whnf
    exact ⟨(pos + stepN (s.drop pos), stepL (s.drop pos) line, stepC (s.drop pos) col), ⟨by dsimp only; omega, by dsimp only; omega, by dsimp only; omega, by dsimp only; omega, by dsimp only; omega, by dsimp only; rw [h6, walkP_step (by omega) (by omega), Nat.sub_sub]⟩, by dsimp only; omega, Yl, St.le_refl _⟩
  · have hz : s.length - pos = 0 := by omega
    exact fin h (by rw [h6, hz, walkP_zero])
end
end Go.Proofs.YtkidoddkbhchkaaGreatDoor
set_option maxHeartbeats 16000000
set_option linter.unusedVariables false
set_option maxHeartbeats 16000000
set_option linter.unusedVariables false
namespace Go.Aw
open Go
theorem loop_4 {ih : (AExit → Env → St → Prop) → Env → St → Prop} {Q : AExit → Env → St → Prop} {env : Env} {st : St} {α β γ δ : Type} (f : α → β → γ → δ → List (Nat × V)) (g : α → β → γ → δ → List (Nat × List V)) (keep kb : List Nat) (S : α → β → γ → δ → St) (J : α → β → γ → δ → Prop) (μ : α → β → γ → δ → Nat) (x0 : α) (y0 : β) (z0 : γ) (u0 : δ) (h0 : J x0 y0 z0 u0)
    (he : (env.atx (f x0 y0 z0 u0) (g x0 y0 z0 u0) keep kb).leC env) (hs : St.le (S x0 y0 z0 u0) st)
    (hb : ∀ x y z u, J x y z u → ih (thenQ (fun env' st' => ∃ p : α × β × γ × δ, J p.1 p.2.1 p.2.2.1 p.2.2.2 ∧ μ p.1 p.2.1 p.2.2.1 p.2.2.2 < μ x y z u ∧ (env.atx (f p.1 p.2.1 p.2.2.1 p.2.2.2) (g p.1 p.2.1 p.2.2.1 p.2.2.2) keep kb).leC env' ∧ St.le (S p.1 p.2.1 p.2.2.1 p.2.2.2) st') Q) (env.atx (f x y z u) (g x y z u) keep kb) (S x y z u)) :
    ∃ (α : Type) (E : α → Env) (S : α → St) (J : α → Prop) (μ : α → Nat) (x0 : α), J x0 ∧ (E x0).leC env ∧ St.le (S x0) st ∧
      ∀ x, J x → ih (thenQ (fun env' st' => ∃ y, J y ∧ μ y < μ x ∧ (E y).leC env' ∧ St.le (S y) st') Q) (E x) (S x) :=
  ⟨α × β × γ × δ, fun p => env.atx (f p.1 p.2.1 p.2.2.1 p.2.2.2) (g p.1 p.2.1 p.2.2.1 p.2.2.2) keep kb, fun p => S p.1 p.2.1 p.2.2.1 p.2.2.2, fun p => J p.1 p.2.1 p.2.2.1 p.2.2.2, fun p => μ p.1 p.2.1 p.2.2.1 p.2.2.2, (x0, y0, z0, u0), h0, he, hs, fun p h => hb p.1 p.2.1 p.2.2.1 p.2.2.2 h⟩
def linesG (s : List UInt8) (frm pos : Nat) : List (List UInt8) :=
  if h : pos < s.length then
    if 0 < nlF (s.drop pos) then (s.take pos).drop frm :: linesG s (pos + nlF (s.drop pos)) (pos + nlF (s.drop pos)) else linesG s frm (pos + 1)
  else [s.drop frm]
termination_by s.length - pos
decreasing_by all_goals omega
theorem max_l {a b : Int} {K : Int → Prop} (h : ¬ a < b) (k : K a) : ∃ r, r = (if a < b then b else a) ∧ K r := ⟨a, (if_neg h).symm, k⟩
theorem max_r {a b : Int} {K : Int → Prop} (h : a < b) (k : K b) : ∃ r, r = (if a < b then b else a) ∧ K r := ⟨b, (if_pos h).symm, k⟩
theorem app_str1 {l : List (List UInt8)} {x : List UInt8} {own : Own} {st : St} {K : V → St → Prop} (h : own.good st) (hb : l.length ≤ 999999999)
    (k : ∀ own' : Own, own'.good st → K (.slice 1 (strs (l ++ [x])) own') (own'.st st (l ++ [x]).length)) : appendTo 1 16 (strs l) own [[.str x]] (own.st st l.length) K :=
  strs_append (new := [x]) h (by rw [List.length_singleton]; omega) k
theorem linesG_nl {s : List UInt8} {frm pos : Nat} (h : pos < s.length) (k : 0 < nlF (s.drop pos)) : linesG s frm pos = (s.take pos).drop frm :: linesG s (pos + nlF (s.drop pos)) (pos + nlF (s.drop pos)) := by
  rw [linesG, dif_pos h, if_pos k]
theorem linesG_go {s : List UInt8} {frm pos : Nat} (h : pos < s.length) (k : ¬ 0 < nlF (s.drop pos)) : linesG s frm pos = linesG s frm (pos + 1) := by
  rw [linesG, dif_pos h, if_neg k]
theorem linesG_end {s : List UInt8} {frm pos : Nat} (h : ¬ pos < s.length) : linesG s frm pos = [s.drop frm] := by
  rw [linesG, dif_neg h]
end Go.Aw
namespace Go.Proofs.YtkidoddkbhchkaaGreatDoor
open Go Go.Aw
section
variable {st : St} {R : Res → St → Prop}
attribute [local irreducible] Go.Aw.appendTo
theorem lines_c {s : List UInt8} (hl : s.length ≤ 100000000) (h : ∀ own : Own, own.good st → R (.ret (.slice 1 (strs (linesG s 0 0)) own)) (own.st st (linesG s 0 0).length)) : PC 151 [.str s] st R := by
  refine pB Tryz.func151 ?_
  repeat' ((conv => whnf); first | (refine Yc1 ?_; intros) | (refine Yc3 ?_ ?_ <;> intro _) | refine Yc4 (fun _ => ?_) ?_ | fail)
  refine loop_4 (α := Nat) (β := Nat) (γ := List (List UInt8)) (δ := Own) (fun pos frm l own => [(5, .int .i64 (pos : Int)), (4, .int .i64 (frm : Int)), (3, .slice 1 (strs l) own)]) (fun _ _ _ _ => []) [0] [] (fun _ _ l own => own.st st l.length)
    (fun pos frm l own => frm ≤ pos ∧ pos ≤ s.length ∧ l.length ≤ pos ∧ own.good st ∧ linesG s 0 0 = l ++ linesG s frm pos) (fun pos _ _ _ => s.length - pos) 0 0 [] .full ⟨by omega, by omega, by simp, trivial, rfl⟩ Yl (St.le_refl _) ?_
  rintro pos frm l own ⟨h1, h2, h3, h4, h5⟩
  have hn := nlF_le (s.drop pos)
  rw [List.length_drop] at hn
  repeat' ((conv => whnf); first | (refine Yc1 ?_; intros) | (refine Yc3 ?_ ?_ <;> intro _) | refine Yc4 (fun _ => ?_) ?_ | refine newline_c (by omega) (by omega) ?_ | refine max_l (by omega) ?_ | refine max_r (by omega) ?_ | refine app_str1 h4 (by omega) (fun own' ho => ?_))
  · conv => whnf
    exact ⟨(pos + nlF (s.drop pos), pos + nlF (s.drop pos), l ++ [(s.take pos).drop frm], own'), ⟨Nat.le_refl _, by dsimp only; omega, by dsimp only; rw [List.length_append, List.length_singleton]; omega, ho, by dsimp only; rw [h5, linesG_nl (by omega) (by omega), List.append_assoc]; rfl⟩, by dsimp only; omega, Yl, St.le_refl _⟩
  · conv => whnf
    exact ⟨(pos + 1, frm, l, own), ⟨by dsimp only; omega, by dsimp only; omega, by dsimp only; omega, h4, by dsimp only; rw [h5, linesG_go (by omega) (by omega)]⟩, by dsimp only; omega, Yl, St.le_refl _⟩
  · exact fin (by have := h own' ho; rw [h5, linesG_end (by omega)] at this; exact this) rfl
end
end Go.Proofs.YtkidoddkbhchkaaGreatDoor
set_option maxHeartbeats 16000000
set_option linter.unusedVariables false
namespace Go.Aw
open Go
def resW : List (List UInt8) := [[95], [99, 97, 115, 101], [99, 108, 97, 115, 115], [100, 97, 116, 97], [100, 101, 102, 97, 117, 108, 116], [100, 101, 114, 105, 118, 105, 110, 103], [100, 111], [101, 108, 115, 101], [102, 111, 114, 101, 105, 103, 110], [105, 102], [105, 109, 112, 111, 114, 116], [105, 110], [105, 110, 102, 105, 120], [105, 110, 102, 105, 120, 108], [105, 110, 102, 105, 120, 114], [105, 110, 115, 116, 97, 110, 99, 101], [108, 101, 116], [109, 111, 100, 117, 108, 101], [110, 101, 119, 116, 121, 112, 101], [111, 102], [116, 104, 101, 110], [116, 121, 112, 101], [119, 104, 101, 114, 101]]
def markW : List (List UInt8) := [[46, 46], [58], [58, 58], [61], [92], [124], [60, 45], [45, 62], [64], [126], [61, 62]]
def resF (w : List UInt8) : Bool := resW.contains w
def symF (w : List UInt8) : Int := if markW.contains w then 10 else if hdF w = 58 then 6 else 5
def inName (c : Int) : Bool := classF c == 2 || classF c == 3 || classF c == 4 || c == 39
def nameN (l : List UInt8) : Nat := spanR inName l
def firstF (l : List UInt8) : Int := match l with
  | [] => 0
  | a :: r => classF ((decR (a :: r)).1 : Nat)
def plainF (l : List UInt8) : Int × Nat :=
  if firstF l = 6 then (15, 1)
  else if firstF l = 5 then (symF (l.take (spanR (fun c => classF c == 5) l)), spanR (fun c => classF c == 5) l)
  else if firstF l = 3 then (2, nameN l)
  else if firstF l = 2 then (if resF (l.take (nameN l)) then 9 else 1, nameN l)
  else (0, 0)
def qualF (k : Int) : Int := if k = 1 then 3 else if k = 2 then 4 else if k = 5 then 7 else if k = 6 then 8 else 0
theorem pre1 (c : UInt8) (l : List UInt8) : [c].isPrefixOf l = decide (hdF l = (c.toNat : Nat)) := by
  cases l with
  | nil => exact (decide_eq_false (fun e => by have h : (-1 : Int) = (c.toNat : Nat) := e; omega)).symm
  | cons a r =>
    show (c == a && true) = decide (((a.toNat : Nat) : Int) = (c.toNat : Nat))
    rw [Bool.and_true, Bool.eq_iff_iff, beq_iff_eq, decide_eq_true_iff]
    exact ⟨fun e => by rw [e], fun e => UInt8.toNat_inj.1 (by omega)⟩
end Go.Aw
namespace Go.Proofs.YtkidoddkbhchkaaGreatDoor
open Go Go.Aw
section
variable {st : St} {R : Res → St → Prop}
theorem reserved_c {w : List UInt8} (h : R (.ret (.bool (resF w))) st) : PC 327 [.str w] st R := by
  refine pB Tryz.func327 ?_
  repeat' ((conv => whnf); first | (refine Yc1 ?_; intros) | (refine Yc3 ?_ ?_ <;> intro _) | fail)
  all_goals exact fin h (congrArg (fun b => Res.ret (V.bool b)) (by first | (subst_vars; decide) | (simp only [resF, resW]; simp_all)))
theorem symbols_c {w : List UInt8} (h : R (.ret (.int .i64 (symF w))) st) : PC 325 [.str w] st R := by
  refine pB Tryz.func325 ?_
  repeat' ((conv => whnf); first | (refine Yc1 ?_; intros) | (refine Yc3 ?_ ?_ <;> intro _) | refine prefix_c ?_)
  all_goals try rename_i hp
  all_goals try rw [pre1, decide_eq_true_eq] at hp
  all_goals try rw [pre1, decide_eq_false_iff_not] at hp
  all_goals exact fin h (int_ret (by first | (subst_vars; decide) | (have hp : hdF w = 58 := hp; simp only [symF, markW]; simp_all) | (have hp : ¬ hdF w = 58 := hp; simp only [symF, markW]; simp_all)))
theorem within_c {c : Int} (h : R (.ret (.bool (inName c))) st) : PC 350 [.int .i32 c] st R := by
  refine pB Tryz.func350 ?_
  repeat' ((conv => whnf); first | (refine Yc1 ?_; intros) | (refine Yc3 ?_ ?_ <;> intro _) | refine class_c ?_)
  all_goals exact fin h (congrArg (fun b => Res.ret (V.bool b)) (by simp only [inName]; simp_all))
theorem qualified_c {k : Int} (h : R (.ret (.int .i64 (qualF k))) st) : PC 284 [.int .i64 k] st R := by
  refine pB Tryz.func284 ?_
  repeat' ((conv => whnf); first | (refine Yc1 ?_; intros) | (refine Yc3 ?_ ?_ <;> intro _) | fail)
  all_goals exact fin h (int_ret (by unfold qualF; (repeat' split) <;> omega))
end
end Go.Proofs.YtkidoddkbhchkaaGreatDoor
set_option maxHeartbeats 16000000
set_option linter.unusedVariables false
namespace Go.Proofs.YtkidoddkbhchkaaGreatDoor
open Go Go.Aw
theorem firstF_next (s : List UInt8) : firstF s = if (nextF s 0).2 = 0 then 0 else classF (nextF s 0).1 := by
  cases s with
  | nil => rw [nextF_out (by simp)]; rfl
  | cons a r =>
    have h1 := decR_pos (a :: r)
    rw [nextF_in (by omega) (by simp), show (0 : Int).toNat = 0 from rfl, List.drop_zero, decF_of (by simp), if_neg (by dsimp only; omega)]
    rfl
section
variable {st : St} {R : Res → St → Prop}
theorem name_c {s : List UInt8} (hl : s.length < 4611686018427387904) (h : R (.ret (.str (s.take (nameN s)))) st) : PC 326 [.str s] st R := by
  refine pB Tryz.func326 ?_
  repeat' ((conv => whnf); first | (refine Yc1 ?_; intros) | (refine Yc3 ?_ ?_ <;> intro _) | fail)
  refine loop_x (α := Nat) (fun _ => []) (fun pos => [(0, [.sit s pos])]) [0, 6] [] (fun _ => st) (fun pos => pos ≤ s.length ∧ nameN s = pos + spanR inName (s.drop pos)) (fun pos => s.length - pos) 0 ⟨Nat.zero_le _, by simp [nameN]⟩ Yl (St.le_refl _) ?_
  rintro pos ⟨hp, hi⟩
  repeat' ((conv => whnf); first | (refine Yc1 ?_; intros) | (refine Yc3 ?_ ?_ <;> intro _) | refine within_c ?_)
  · rename_i hlt c m hd hk
    have hr := rune_le hlt hd
    conv => whnf
    exact ⟨pos + m, ⟨hr.1, span_go hlt hd hk hi⟩, by omega, Yl, St.le_refl _⟩
  · rename_i hlt c m hd hk
    have := span_no (p := fun d => inName (d.1 : Nat)) hd hk hi
    exact fin h (by rw [this]; rfl)
  · rename_i hlt
    have := span_end hlt hi
    exact fin h (by rw [this, List.take_of_length_le (by omega)])
theorem first_c {s : List UInt8} (hl : s.length < 4611686018427387904) (h : R (.ret (.int .i64 (firstF s))) st) : PC 324 [.str s] st R := by
  refine pB Tryz.func324 ?_
  repeat' ((conv => whnf); first | (refine Yc1 ?_; intros) | (refine Yc3 ?_ ?_ <;> intro _) | refine next_c hl ?_ | refine class_c ?_)
  · exact fin h (int_ret (by rw [firstF_next, if_pos (by assumption)]))
  · exact fin h (int_ret (by rw [firstF_next, if_neg (by assumption)]))
end
end Go.Proofs.YtkidoddkbhchkaaGreatDoor
set_option maxHeartbeats 16000000
set_option linter.unusedVariables false
namespace Go.Proofs.YtkidoddkbhchkaaGreatDoor
open Go Go.Aw
theorem run0 {s : List UInt8} {k : Int} : runF s 0 k = (spanR (fun c => classF c == k) s : Nat) := by
  rw [runF_in (by omega) (by omega)]; simp
theorem firstF_ne {s : List UInt8} (h : ¬ firstF s = 0) : 0 < s.length := by
  cases s with
  | nil => exact absurd rfl h
  | cons a r => simp
section
variable {st : St} {R : Res → St → Prop}
theorem run_k {s : List UInt8} {k : Int} (hl : s.length < 4611686018427387904) (h : R (.ret (.int .i64 (spanR (fun c => classF c == k) s : Nat))) st) : PC 86 [.str s, .int .i64 0, .int .i64 k] st R := run_c hl (by rw [run0]; exact h)
theorem plain_c {s : List UInt8} (hl : s.length < 4611686018427387904) (h : R (.ret (.tup [.int .i64 (plainF s).1, .str (s.take (plainF s).2)])) st) : PC 283 [.str s] st R := by
  have hr := spanR_le (fun c => classF c == 5) s
  have hne : firstF s = 0 ∨ 0 < s.length := by
    by_cases h0 : firstF s = 0
    · exact .inl h0
    · exact .inr (firstF_ne h0)
  refine pB Tryz.func283 ?_
  repeat' ((conv => whnf); first | exact Yc0 | (refine Yc1 ?_; intros) | (refine Yc2 ?_ ?_ ?_; rotate_left) | (refine Yc3 ?_ ?_ <;> intro _) | refine first_c hl ?_ | refine run_k hl ?_ | refine symbols_c ?_ | refine name_c hl ?_ | refine reserved_c ?_ | with_reducible refine WF ?_)
  · exact fin h (by unfold plainF; rw [if_pos (by assumption)]; rfl)
  · exact fin h (by unfold plainF; rw [if_neg (by omega), if_pos (by omega)]; rfl)
  · exact fin h (by unfold plainF; rw [if_neg (by omega), if_neg (by omega), if_pos (by omega)])
  · exact fin h (by unfold plainF; rw [if_neg (by omega), if_neg (by omega), if_neg (by omega), if_pos (by omega), if_pos (by assumption)])
  · exact fin h (by unfold plainF; rw [if_neg (by omega), if_neg (by omega), if_neg (by omega), if_pos (by omega), if_neg (by simp_all)])
  · exact fin h (by unfold plainF; rw [if_neg (by omega), if_neg (by omega), if_neg (by omega), if_neg (by omega)]; rfl)
end
end Go.Proofs.YtkidoddkbhchkaaGreatDoor
set_option maxHeartbeats 16000000
set_option linter.unusedVariables false
namespace Go.Aw
open Go
def scanG (s : List UInt8) (n : Nat) (k : Int) : Int × Nat :=
  if h : n < s.length then
    if (k = 2 ∨ k = 4) ∧ hdF (s.drop n) = 46 ∧ qualF (plainF (s.drop (n + 1))).1 ≠ 0 then scanG s (n + 1 + (plainF (s.drop (n + 1))).2) (qualF (plainF (s.drop (n + 1))).1) else (k, n)
  else (k, n)
termination_by s.length - n
decreasing_by omega
def wordF (s : List UInt8) : Int × Nat := scanG s (plainF s).2 (plainF s).1
theorem scanG_no {s : List UInt8} {n : Nat} {k : Int} (h : ¬ (n < s.length ∧ (k = 2 ∨ k = 4) ∧ hdF (s.drop n) = 46 ∧ qualF (plainF (s.drop (n + 1))).1 ≠ 0)) : scanG s n k = (k, n) := by
  rw [scanG]
  split
  · rw [if_neg (fun e => h ⟨by assumption, e⟩)]
  · rfl
theorem scanG_go {s : List UInt8} {n : Nat} {k : Int} (h : n < s.length) (e : (k = 2 ∨ k = 4) ∧ hdF (s.drop n) = 46 ∧ qualF (plainF (s.drop (n + 1))).1 ≠ 0) : scanG s n k = scanG s (n + 1 + (plainF (s.drop (n + 1))).2) (qualF (plainF (s.drop (n + 1))).1) := by
  rw [scanG, dif_pos h, if_pos e]
theorem plainF_le (s : List UInt8) : (plainF s).2 ≤ s.length := by
  have hf : firstF s = 0 ∨ 0 < s.length := by
    cases s with
    | nil => exact .inl rfl
    | cons a r => exact .inr (by simp)
  have h1 := spanR_le (fun c => classF c == 5) s
  have h2 : nameN s ≤ s.length := spanR_le _ s
  unfold plainF
  (repeat' split) <;> first | omega | (dsimp only; omega)
end Go.Aw
namespace Go.Proofs.YtkidoddkbhchkaaGreatDoor
open Go Go.Aw
section
variable {st : St} {R : Res → St → Prop}
theorem dot_c {s w : List UInt8} {n : Nat} (ht : w.length = n) (h : R (.ret (.bool (decide (hdF (s.drop n) = 46)))) st) : PC 87 [.str (s.drop ((w.length : Nat) : Int).toNat), .str [46]] st R := by
  refine prefix_c ?_
  rw [pre1, ht, show ((n : Nat) : Int).toNat = n by omega]
  exact h
theorem plain_at {s w : List UInt8} {n : Nat} (hl : s.length ≤ 100000000) (ht : w.length = n) (h : R (.ret (.tup [.int .i64 (plainF (s.drop (n + 1))).1, .str ((s.drop (n + 1)).take (plainF (s.drop (n + 1))).2)])) st) : PC 283 [.str (s.drop (((w.length : Nat) : Int) + 1).toNat)] st R := by
  rw [ht, show (((n : Nat) : Int) + 1).toNat = n + 1 by omega]
  exact plain_c (by rw [List.length_drop]; omega) h
theorem slice_w {s w v : List UInt8} {n m : Nat} {K : List UInt8 → Prop} (h1 : w.length = n) (h2 : v.length = m) (h : n + 1 + m ≤ s.length) (k : K (s.take (n + 1 + m))) :
    ((0 : Int) ≤ 0 ∧ 0 ≤ ((w.length : Nat) : Int) + 1 + ((v.length : Nat) : Int) ∧ ((w.length : Nat) : Int) + 1 + ((v.length : Nat) : Int) ≤ s.length) ∧ ∀ s', s' = (s.take (((w.length : Nat) : Int) + 1 + ((v.length : Nat) : Int)).toNat).drop (0 : Int).toNat → K s' := by
  subst h1; subst h2
  refine WO (by omega) (by omega) ?_
  rw [show (((w.length : Nat) : Int) + 1 + ((v.length : Nat) : Int)).toNat = w.length + 1 + v.length by omega]
  exact k
theorem dot_lt (s : List UInt8) (n : Nat) : ¬ hdF (s.drop n) = 46 ∨ n < s.length := by
  by_cases h : n < s.length
  · exact .inr h
  · rw [hdF_none (by omega)]; exact .inl (by decide)
theorem wscan_c {s : List UInt8} (hl : s.length ≤ 100000000) (h : ∀ ahead : Int, R (.ret (.tup [.int .i64 (wordF s).1, .str (s.take (wordF s).2), .int .i64 ahead])) st) : PC 230 [.str s] st R := by
  refine pB Tryz.func230 ?_
  repeat' ((conv => whnf); first | exact Yc0 | (refine Yc1 ?_; intros) | (refine Yc2 ?_ ?_ ?_; rotate_left) | (refine Yc3 ?_ ?_ <;> intro _) | refine plain_c (by omega) ?_ | with_reducible refine WF ?_)
  refine loop_3 (α := Nat) (β := Int) (γ := Int) (fun n k a => [(2, .int .i64 k), (3, .str (s.take n)), (4, .int .i64 a)]) (fun _ _ _ => []) [0] [] (fun _ _ _ => st) (fun n k _ => n ≤ s.length ∧ wordF s = scanG s n k) (fun n _ _ => s.length - n) (plainF s).2 (plainF s).1 0 ⟨plainF_le s, rfl⟩ Yl (St.le_refl _) ?_
  rintro n k a ⟨h1, h2⟩
  have ht : (s.take n).length = n := by rw [List.length_take]; omega
  have hp := plainF_le (s.drop (n + 1))
  rw [List.length_drop] at hp
  have hdl := dot_lt s n
  have ht2 : ((s.drop (n + 1)).take (plainF (s.drop (n + 1))).2).length = (plainF (s.drop (n + 1))).2 := by rw [List.length_take, List.length_drop]; omega
  repeat' ((conv => whnf); first | with_reducible refine slice_w ht ht2 (by omega) ?_ | exact Yc0 | (refine Yc1 ?_; intros) | (refine Yc2 ?_ ?_ ?_; rotate_left) | (refine Yc3 ?_ ?_ <;> intro _) | refine dot_c ht ?_ | refine plain_at hl ht ?_ | refine qualified_c ?_ | with_reducible refine WF ?_)
  all_goals first
    | exact fin (by have := h a; rw [h2, scanG_no (by omega)] at this; exact this) rfl
    | (conv => whnf
       exact ⟨(n + 1 + (plainF (s.drop (n + 1))).2, qualF (plainF (s.drop (n + 1))).1, (((s.take n).length : Nat) : Int) + 1), ⟨by dsimp only; omega, by dsimp only; rw [h2, scanG_go (by omega) ⟨by omega, by omega, by omega⟩]⟩, by dsimp only; omega, Yl, St.le_refl _⟩)
end
end Go.Proofs.YtkidoddkbhchkaaGreatDoor
set_option maxHeartbeats 16000000
set_option linter.unusedVariables false
namespace Go.Aw
open Go
def wscanF (s : List UInt8) (pos : Nat) : Int × Int := if (wordF (s.drop pos)).1 = 0 then (0, 0) else ((wordF (s.drop pos)).1, (pos + (wordF (s.drop pos)).2 : Nat))
theorem scanG_le {s : List UInt8} {n : Nat} {k : Int} (h : n ≤ s.length) : (scanG s n k).2 ≤ s.length := by
  fun_induction scanG s n k with
  | case1 n k hn hc ih =>
    have := plainF_le (s.drop (n + 1))
    rw [List.length_drop] at this
    exact ih (by omega)
  | case2 n k hn hc => exact h
  | case3 n k hn => exact h
theorem wordF_le (s : List UInt8) : (wordF s).2 ≤ s.length := scanG_le (plainF_le s)
end Go.Aw
namespace Go.Proofs.YtkidoddkbhchkaaGreatDoor
open Go Go.Aw
section
variable {st : St} {R : Res → St → Prop}
theorem wscanX_c {s : List UInt8} {pos : Nat} (hl : s.length ≤ 100000000) (hp : pos < s.length) (h : R (.ret (.tup [.int .i64 (wscanF s pos).1, .int .i64 (wscanF s pos).2])) st) : PC 156 [.str s, .int .i64 pos] st R := by
  have ht : ((s.drop pos).take (wordF (s.drop pos)).2).length = (wordF (s.drop pos)).2 := by rw [List.length_take]; have := wordF_le (s.drop pos); omega
  have hw := wordF_le (s.drop pos)
  rw [List.length_drop] at hw
  have hld : (s.drop pos).length ≤ 100000000 := by rw [List.length_drop]; omega
  refine pB Tryz.func156 ?_
  repeat' ((conv => whnf); first | (refine Yc1 ?_; intros) | (refine Yc3 ?_ ?_ <;> intro _) | refine wscan_c hld (fun _ => ?_))
  · exact fin h (by unfold wscanF; rw [if_pos (by assumption)]; simp_all)
  · exact fin h (by unfold wscanF; rw [if_neg (by assumption)]; simp only []; rw [show (pos : Int).toNat = pos by omega] at *; rw [ht]; rfl)
end
end Go.Proofs.YtkidoddkbhchkaaGreatDoor
set_option maxHeartbeats 16000000
set_option linter.unusedVariables false
namespace Go.Aw
open Go
def rowN (base : Int) : List UInt8 → Nat
  | [] => 0
  | a :: r => if digitF ((a.toNat : Nat) : Int) base < 0 then 0 else rowN base r + 1
def baseF (l : List UInt8) : Int := if hdF (l.drop 1) = 111 ∨ hdF (l.drop 1) = 79 then 8 else if hdF (l.drop 1) = 120 ∨ hdF (l.drop 1) = 88 then 16 else 10
def prefF (l : List UInt8) : Int × Nat := if hdF l = 48 ∧ baseF l ≠ 10 ∧ rowN (baseF l) (l.drop 2) ≠ 0 then (baseF l, 2) else (10, 0)
def signN (l : List UInt8) : Nat := if hdF l = 43 ∨ hdF l = 45 then 1 else 0
def expN (l : List UInt8) : Nat :=
  if (hdF l = 101 ∨ hdF l = 69) ∧ rowN 10 (l.drop (1 + signN (l.drop 1))) ≠ 0 then 1 + signN (l.drop 1) + rowN 10 (l.drop (1 + signN (l.drop 1))) else 0
def fracN (l : List UInt8) : Nat := if hdF l = 46 ∧ rowN 10 (l.drop 1) ≠ 0 then 1 + rowN 10 (l.drop 1) else 0
def numF (l : List UInt8) : Int × Nat :=
  if (prefF l).1 ≠ 10 then (11, 2 + rowN (prefF l).1 (l.drop 2))
  else if rowN 10 l = 0 then (0, 0)
  else
    (if 0 < fracN (l.drop (rowN 10 l)) ∨ 0 < expN (l.drop (rowN 10 l + fracN (l.drop (rowN 10 l)))) then 12 else 11,
      rowN 10 l + fracN (l.drop (rowN 10 l)) + expN (l.drop (rowN 10 l + fracN (l.drop (rowN 10 l)))))
theorem hdF_lt_len {l : List UInt8} {k : Nat} (h : 0 ≤ hdF (l.drop k)) : k < l.length := by
  by_cases hk : k < l.length
  · exact hk
  · rw [List.drop_eq_nil_iff.2 (by omega)] at h; exact absurd h (by decide)
theorem decR_lo {a : UInt8} {r : List UInt8} (h : a.toNat < 128) : decR (a :: r) = (a.toNat, 1) := by
  unfold decR; dsimp only; rw [if_pos (by simpa using h)]
theorem decR_hi {a : UInt8} {r : List UInt8} (h : ¬ a.toNat < 128) : 128 ≤ (decR (a :: r)).1 := by
  unfold decR; dsimp only; rw [if_neg (by simpa using h)]
  have ha := a.toNat_lt
  repeat' split
  all_goals simp_all
  all_goals omega
theorem digitF_hi {c base : Int} (h : 128 ≤ c) : digitF c base < 0 := by
  have hv : (if 48 ≤ c ∧ c ≤ 57 then c - 48 else if 97 ≤ c ∧ c ≤ 102 then c - 87 else if 65 ≤ c ∧ c ≤ 70 then c - 55 else 16) = 16 := by
    rw [if_neg (by omega), if_neg (by omega), if_neg (by omega)]
  unfold digitF; dsimp only
  rw [hv, if_pos (by omega)]; omega
theorem rowN_le (base : Int) (l : List UInt8) : rowN base l ≤ l.length := by
  induction l with
  | nil => exact Nat.le_refl _
  | cons a r ih => unfold rowN; split <;> simp only [List.length_cons] <;> omega
theorem rowN_go {base : Int} {s : List UInt8} {pos c m : Nat} (h : pos < s.length) (hd : (c, m) = decR (s.drop pos)) (k : ¬ digitF (c : Int) base < 0) : m = 1 ∧ rowN base (s.drop pos) = rowN base (s.drop (pos + 1)) + 1 := by
  rw [List.drop_eq_getElem_cons h] at hd ⊢
  by_cases hb : s[pos].toNat < 128
  · rw [decR_lo hb] at hd
    injection hd with h1 h2
    subst h1; subst h2
    exact ⟨rfl, by rw [rowN, if_neg k]⟩
  · have := decR_hi (r := s.drop (pos + 1)) hb
    rw [← hd] at this
    exact absurd (digitF_hi (c := (c : Int)) (base := base) (by dsimp only at this; omega)) k
theorem rowN_no {base : Int} {s : List UInt8} {pos c m : Nat} (h : pos < s.length) (hd : (c, m) = decR (s.drop pos)) (k : digitF (c : Int) base < 0) : rowN base (s.drop pos) = 0 := by
  rw [List.drop_eq_getElem_cons h] at hd ⊢
  by_cases hb : s[pos].toNat < 128
  · rw [decR_lo hb] at hd
    injection hd with h1 h2
    subst h1
    rw [rowN, if_pos k]
  · rw [rowN, if_pos (digitF_hi (by omega))]
theorem rowN_none {base : Int} {s : List UInt8} {pos : Nat} (h : s.length ≤ pos) : rowN base (s.drop pos) = 0 := by rw [List.drop_eq_nil_iff.2 h]; rfl
theorem fracN_le (l : List UInt8) : fracN l ≤ l.length := by
  have := rowN_le 10 (l.drop 1)
  rw [List.length_drop] at this
  unfold fracN; split <;> omega
theorem expN_le (l : List UInt8) : expN l ≤ l.length := by
  have := rowN_le 10 (l.drop (1 + signN (l.drop 1)))
  rw [List.length_drop] at this
  unfold expN; split <;> omega
theorem numF_le (l : List UInt8) : (numF l).2 ≤ l.length := by
  have h1 := rowN_le 10 l
  have h2 := rowN_le (prefF l).1 (l.drop 2)
  have h3 := fracN_le (l.drop (rowN 10 l))
  have h4 := expN_le (l.drop (rowN 10 l + fracN (l.drop (rowN 10 l))))
  rw [List.length_drop] at h2 h3 h4
  have h5 : (prefF l).1 ≠ 10 → 2 ≤ l.length := fun e => by
    unfold prefF at e
    split at e
    · rename_i hc
      have := rowN_le (baseF l) (l.drop 2)
      rw [List.length_drop] at this
      omega
    · exact absurd rfl e
  unfold numF
  split
  · have := h5 (by assumption); dsimp only; omega
  · split
    · exact Nat.zero_le _
    · dsimp only; omega
theorem ex_wrap32 {a : Int} {K : Int → Prop} (h1 : -2147483648 ≤ a) (h2 : a ≤ 2147483647) (k : K a) : ∃ r, r = IntKind.i32.wrap a ∧ K r := ⟨a, (IntWalk.i32_in _ ⟨h1, h2⟩).symm, k⟩
end Go.Aw
namespace Go.Proofs.YtkidoddkbhchkaaGreatDoor
open Go Go.Aw
section
variable {st : St} {R : Res → St → Prop}
theorem digit_c {c b : Int} (h : R (.ret (.int .i64 (digitF c b))) st) : PC 300 [.int .i32 c, .int .i64 b] st R := by
  refine pB Tryz.func300 ?_
  repeat' ((conv => whnf); first | (refine Yc1 ?_; intros) | (refine Yc3 ?_ ?_ <;> intro _) | refine ex_wrap32 (by omega) (by omega) ?_)
  all_goals exact fin h (int_ret (by unfold digitF; dsimp only; (repeat' split) <;> omega))
theorem row_c {s : List UInt8} {b : Int} (hl : s.length < 4611686018427387904) (h : R (.ret (.int .i64 (rowN b s : Nat))) st) : PC 279 [.str s, .int .i64 b] st R := by
  refine pB Tryz.func279 ?_
  repeat' ((conv => whnf); first | (refine Yc1 ?_; intros) | (refine Yc3 ?_ ?_ <;> intro _) | fail)
  refine loop_x (α := Nat) (fun _ => []) (fun pos => [(0, [.sit s pos])]) [0, 1, 8] [] (fun _ => st) (fun pos => pos ≤ s.length ∧ rowN b s = pos + rowN b (s.drop pos)) (fun pos => s.length - pos) 0 ⟨Nat.zero_le _, by simp⟩ Yl (St.le_refl _) ?_
  rintro pos ⟨hp, hi⟩
  repeat' ((conv => whnf); first | (refine Yc1 ?_; intros) | (refine Yc3 ?_ ?_ <;> intro _) | refine digit_c ?_)
  · rename_i hlt c m hd hk
    have := rowN_no hlt hd hk
    exact fin h (int_ret (by omega))
  · rename_i hlt c m hd hk
    obtain ⟨e1, e2⟩ := rowN_go hlt hd hk
    conv => whnf
    exact ⟨pos + m, ⟨by omega, by rw [e1]; omega⟩, by omega, Yl, St.le_refl _⟩
  · rename_i hlt hls
    have := rowN_none (base := b) (s := s) (pos := pos) (by omega)
    exact fin h (int_ret (by omega))
end
end Go.Proofs.YtkidoddkbhchkaaGreatDoor
