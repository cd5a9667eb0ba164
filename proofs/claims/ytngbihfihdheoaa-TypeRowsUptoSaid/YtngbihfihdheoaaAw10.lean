/-
  AW, PART 10. The body of a call.
-/
import Derived.Test.YtngbihfihdheoaaAw15
set_option linter.unusedVariables false
set_option linter.unusedSimpArgs false
namespace Go.Aw
open Go

/-- a call of plain data, of a function that has a body -/
structure PCalls (P : Program) (f : FuncId) (args : List V) (st : St) (R : Res → St → Prop) : Prop where
  a : ACalls P f args st R
  b : Plain P f
theorem PCalls.mono {P : Program} {f : FuncId} {args : List V} {st : St} {R R' : Res → St → Prop} (h : PCalls P f args st R) (k : ∀ r s, R r s → R' r s) : PCalls P f args st R' := ⟨h.a.mono k, h.b⟩
theorem pcalls_sound (P : Program) : ∀ f args st R, PCalls P f args st R → ACalls P f args st R ∧ Plain P f := fun _ _ _ _ h => ⟨h.a, h.b⟩

section
variable {D : List Deferred} {P : Program} {T : List (Nat × Ty)} {I : Mem} {st : St} {w : World}

theorem args0_at : ∀ {l : List V} {k t : Nat} {v : V}, assoc (args0 k l) t = some v → k ≤ t ∧ l[t - k]? = some v
  | [], k, t, v, h => by cases h
  | u :: r, k, t, v, h => by
    rw [args0_cons, assoc_cons] at h
    cases hb : Nat.beq k t with
    | true =>
      rw [hb] at h
      have := Nat.eq_of_beq_eq_true hb
      subst this
      simp only [cond_true, Option.some.injEq] at h
      subst h
      simp
    | false =>
      rw [hb] at h
      obtain ⟨h1, h2⟩ := args0_at h
      refine ⟨by omega, ?_⟩
      rw [show t - k = (t - (k + 1)) + 1 by omega]
      simpa using h2

/-- a result, as it is read -/
def resOf (tmps : Array Value) : ResultVar → Sem Value
  | .tmp t => pure (tmps.getD t undef)
  | .cell x t => do loadVar t (← asAddr (tmps.getD x undef))

theorem oneRet_sound (hT : TOk P T) {I0 : Mem} {st0 : St} {w0 : World} {β : Nat → Option Nat} {env : Env} {a : Act} (h : Rel D I0 st0 w0 I β env st a w) {x : ResultVar} {K : V → Prop} (k : oneRet T env st x K) :
    ∃ v c, (resOf a.tmps x).run P w = .ok c w ∧ Rep I v c ∧ K v := by
  cases x with
  | tmp t =>
    have k : (env.get t).force fun v => chk v.plain (K v) := k
    obtain ⟨hp, k⟩ := chk_iff.1 (V.force_iff.1 k)
    exact ⟨_, _, rfl, (h.f.get t).rep hp, k⟩
  | cell x t =>
    have hx := h.f.get x
    have fin : ∀ {ad : Addr} {c : Value} {v : V}, a.tmps.getD x undef = .pointer (some ad) → (loadVar t ad).run P w = .ok c w → Rep I v c → K v →
        ∃ v c, (resOf a.tmps (.cell x t)).run P w = .ok c w ∧ Rep I v c ∧ K v := by
      intro ad c v e1 e2 e3 k
      refine ⟨v, c, ?_, e3, k⟩
      simp only [resOf, e1, asAddr, Sem.run_bind, Sem.run_pure, Result.andThen_ok, e2]
    simp only [oneRet] at k
    split at k
    · rename_i id off he
      rw [he] at hx
      obtain ⟨b, hb, hx⟩ := rep_lptr hx
      split at k
      · rename_i cs hcs
        obtain ⟨b', vs, ty, h1, h2, h3⟩ := h.f.box id cs hcs
        rw [hb] at h1
        injection h1 with h1
        subst h1
        obtain ⟨v, c, g1, g2, g3⟩ := loadFrom_sound (b := b) (o := 0) hT h3 (fun j v e => by simpa using heap_cell h2 e) k
        rw [Nat.zero_add] at g1
        exact fin hx g1 g2 g3
      · exact k.elim
    · rename_i b off he
      rw [he] at hx
      have hx := rep_ptr hx
      obtain ⟨cs, hcs, k⟩ := k
      obtain ⟨vs, ty, h2, h3⟩ := h.s.box b cs hcs
      obtain ⟨v, c, g1, g2, g3⟩ := loadFrom_sound (b := b) (o := 0) hT h3 (fun j v e => by simpa using heap_cell h2 e) k
      rw [Nat.zero_add] at g1
      exact fin hx g1 g2 g3
    · exact k.elim
theorem forceRet_sound (hT : TOk P T) {I0 : Mem} {st0 : St} {w0 : World} {β : Nat → Option Nat} {env : Env} {a : Act} (h : Rel D I0 st0 w0 I β env st a w) : ∀ {rs : List ResultVar} {K : List V → Prop}, forceRet T env st rs K →
    ∃ vs cs, RepL I vs cs ∧ K vs ∧ (rs.mapM (resOf a.tmps)).run P w = .ok cs w
  | [], K, k => ⟨[], [], by simp only [RepL], k, rfl⟩
  | x :: r, K, k => by
    rw [forceRet_cons] at k
    obtain ⟨v, c, e1, e2, k⟩ := oneRet_sound (P := P) hT h k
    obtain ⟨vs, cs, h1, h2, h3⟩ := forceRet_sound hT h k
    refine ⟨v :: vs, c :: cs, by simp only [RepL]; exact ⟨_, _, rfl, e2, h1⟩, h2, ?_⟩
    simp only [List.mapM_cons, e1, Sem.run_bind, Sem.run_pure, Result.andThen_ok, h3]

theorem results_sound (hT : TOk P T) {I0 : Mem} {st0 : St} {w0 : World} {β : Nat → Option Nat} {env : Env} {a : Act} {fn : Func} {R : Res → St → Prop} (h : Rel D I0 st0 w0 I β env st a w)
    (k : forceRet T env st fn.results.toList fun vs => match vs with | [v] => R (.ret v) st | vs => R (.ret (.tup vs)) st) :
    ∃ v c, (results fn a.tmps).run P w = .ok c w ∧ Rep I v c ∧ R (.ret v) st := by
  obtain ⟨vs, cs, h1, h2, h3⟩ := forceRet_sound (P := P) hT h k
  have hr : (results fn a.tmps).run P w = .ok (if hh : cs.toArray.size = 1 then cs.toArray[0] else .tuple cs.toArray) w := by
    have e : results fn a.tmps = (do let vs ← fn.results.mapM (resOf a.tmps); pure (if h : vs.size = 1 then vs[0] else .tuple vs)) := by
      unfold results
      congr 1
    rw [e, Array.mapM_eq_mapM_toList]
    simp only [Sem.run_bind, Sem.run_map, h3, Result.andThen_ok, Sem.run_pure]
  have hl := RepL.length h1
  match vs, h1, h2, hl with
  | [v], h1, h2, hl =>
    simp only [RepL] at h1
    obtain ⟨c, s, rfl, hv, rfl⟩ := h1
    exact ⟨v, c, by rw [hr]; rfl, hv, h2⟩
  | [], h1, h2, hl =>
    have hs : ¬ (cs.toArray.size = 1) := by simp at hl ⊢; omega
    rw [dif_neg hs] at hr
    exact ⟨_, _, hr, by simp only [Rep]; exact ⟨cs, rfl, h1⟩, h2⟩
  | x :: y :: z, h1, h2, hl =>
    have hs : ¬ (cs.toArray.size = 1) := by simp at hl ⊢; omega
    rw [dif_neg hs] at hr
    exact ⟨_, _, hr, by simp only [Rep]; exact ⟨cs, rfl, h1⟩, h2⟩

theorem noHw_rel {env : Env} {a : Act} (hs : RelS I st w) (h1 : a.tmps.size = env.sz) (h2 : ∀ t v, assoc env.tmps t = some v → Rep I v (a.tmps.getD t undef)) (h3 : env.boxes = []) (h4 : a.defers = D) :
    Rel D I st w I (fun _ => none) env st a w :=
  ⟨Fr.refl, hs, ⟨h1, fun t v e => RepT.of (h2 t v e), fun id cs e => (by rw [h3] at e; cases e), fun id b e => (by cases e), fun i j b e => (by cases e), fun id b e => (by cases e), h4⟩⟩

/-- the body of a call -/
theorem acalls_of_body (hP : POk P T) {f : FuncId} {fn : Func} (gl : List Nat) {args : List V} {R : Res → St → Prop} (hf : P.funcs[f]? = some fn)
    (h : bodyWp T (PCalls P) fn gl args st fun r st' => ∃ r2 st2, (r2 = r ∨ r2 = r.wk) ∧ St.le st2 st' ∧ R r2 st2) : ACalls P f args st R := by
  intro I w cargs hs hargs
  unfold bodyWp at h
  cases hb : fn.body with
  | none => rw [hb] at h; exact h.elim
  | some c =>
    rw [hb] at h
    obtain ⟨hle, h⟩ := chk_iff.1 h
    have hle := Nat.le_of_ble_eq_true hle
    have hlen := RepL.length hargs
    refine calls_of_wp hf hb ?_
    have hrel : Rel [] I st w I (fun _ => none) { tmps := args0 0 args, boxes := [], nxt := 0, sz := fn.ntmps, gl } st
        { tmps := cargs.toArray ++ Array.replicate (fn.ntmps - cargs.toArray.size) undef, defers := [] } w := by
      refine noHw_rel hs (by simp; omega) (fun t v e => ?_) rfl rfl
      obtain ⟨_, e⟩ := args0_at e
      rw [Nat.sub_zero] at e
      obtain ⟨c', e1, e2⟩ := RepL.get hargs e
      have hlt : t < cargs.length := by
        rcases Nat.lt_or_ge t cargs.length with h | h
        · exact h
        · rw [List.getElem?_eq_none h] at e1; cases e1
      have : (cargs.toArray ++ Array.replicate (fn.ntmps - cargs.toArray.size) undef).getD t undef = c' := by
        rw [List.getElem?_eq_getElem hlt] at e1
        injection e1 with e1
        subst e1
        simp [Array.getD, Array.getElem_append, hlt]
        omega
      rw [this]
      exact e2
    refine wp_mono (awp_sound hP (pcalls_sound P) (fun _ _ _ _ _ h k => k.mono h) c h [] I st w I _ _ w hrel) ?_
    rintro e a w' ⟨I1, β1, env1, st1, ae, h1, h2, h3⟩
    have hret : (forceRet T env1 st1 fn.results.toList fun vs => match vs with
        | [v] => ∃ r2 st2, (r2 = .ret v ∨ r2 = (Res.ret v).wk) ∧ St.le st2 st1 ∧ R r2 st2
        | vs => ∃ r2 st2, (r2 = .ret (.tup vs) ∨ r2 = (Res.ret (.tup vs)).wk) ∧ St.le st2 st1 ∧ R r2 st2) →
        a.defers = [] ∧ ∃ v, (results fn a.tmps).run P w' = .ok v w' ∧ ∃ I' st' r, Fr I st w I' st' w' ∧ RelS I' st' w' ∧ resM I' (.returned v) r ∧ R r st' := by
      intro h3
      obtain ⟨v, c, g1, g2, r2, st2, g3, g4, g5⟩ := results_sound (P := P) (R := fun r s => ∃ r2 st2, (r2 = r ∨ r2 = r.wk) ∧ St.le st2 s ∧ R r2 st2) hP.t h1 h3
      have h1' := h1.stLe g4
      refine ⟨h1.f.defers, c, g1, I1, st2, r2, h1'.fr, h1'.s, ?_, g5⟩
      rcases g3 with rfl | rfl
      · exact g2
      · exact g2.wk
    cases ae with
    | normal => cases e <;> first | exact hret h3 | exact h2.elim
    | exit i => exact h3.elim
    | goto i => exact h3.elim
    | ret => cases e <;> first | exact hret h3 | exact h2.elim
    | pan v =>
      cases e <;> try exact h2.elim
      obtain ⟨r2, st2, g3, g4, g5⟩ := h3
      obtain ⟨c', rfl, h2⟩ := h2
      have h1' := h1.stLe g4
      refine ⟨h1.f.defers, I1, st2, r2, h1'.fr, h1'.s, ?_, g5⟩
      rcases g3 with rfl | rfl
      · exact ⟨c', rfl, h2⟩
      · exact ⟨c', rfl, h2.wk⟩
theorem pcalls_of_body (hP : POk P T) {f : FuncId} {fn : Func} (gl : List Nat) {args : List V} {R : Res → St → Prop} (hf : P.funcs[f]? = some fn) (hb : fn.body.isSome = true) (hn : (fn.name == "runtime.NumGoroutine") = false)
    (h : bodyWp T (PCalls P) fn gl args st fun r st' => ∃ r2 st2, (r2 = r ∨ r2 = r.wk) ∧ St.le st2 st' ∧ R r2 st2) : PCalls P f args st R := ⟨acalls_of_body hP gl hf h, fn, hf, hb, hn⟩
end
end Go.Aw
