/-
  AW, PART 9. All operations; regions; code; the body of a call.
-/
import Derived.Test.YtmhmkpiliejmdaaAw8
import Derived.ScopeJumps
set_option linter.unusedVariables false
set_option linter.unusedSimpArgs false
namespace Go.Aw
open Go

section
variable {P : Program} {T : List (Nat × Ty)} {C : FuncId → List V → St → (Res → St → Prop) → Prop} {I0 I : Mem} {st0 st : St} {w0 w : World} {β : Nat → Option Nat} {env : Env} {a : Act}
variable {o : Oper} {K : V → Env → St → Prop} {Q : AExit → Env → St → Prop} {next : Act → World → Prop} {Qc : Exit → Act → World → Prop}

theorem sound_len {c : Call} (hT : TOk P T) (hK : Takes I0 st0 w0 β env.nxt a o.dst next K) (h : Rel I0 st0 w0 I β env st a w) (ho : o.op = .call c) (hc : c.callee = .builtin .len)
    (k : match c.args.toList.map env.eval, c.argTypes.toList.map (assoc T) with
      | [.slice _ es _], [some (.slice _ _ _)] => ∀ m : Nat, m = es.length → m < lim → K (.int .i64 m) env st
      | [.str s], [some (.sc (.str _))] => s.length < lim → K (.int .i64 s.length) env st
      | _, _ => False) : o.wp P a w next Qc := by
  obtain ⟨callee, args, argTypes⟩ := c
  simp only at hc k
  subst hc
  split at k
  · rename_i sz es own el sz' by' hx ht
    obtain ⟨xl⟩ := args
    obtain ⟨tl⟩ := argTypes
    simp only at hx ht
    cases xl with
    | nil => cases hx
    | cons x xr =>
      cases xr with
      | cons _ _ => simp at hx
      | nil =>
        cases tl with
        | nil => cases ht
        | cons t tr =>
          cases tr with
          | cons _ _ => simp at ht
          | nil =>
            simp only [List.map_cons, List.map_nil, List.cons.injEq, and_true] at hx ht
            have hv := h.f.eval x
            rw [hx] at hv
            obtain ⟨ad, cap, e1, e2, e3, _⟩ := rep_slice hv
            obtain ⟨i0, j, c, g1, g2, _⟩ := hT t _ ht
            refine op_value hK (c := .int .i64 es.length) (w' := w) ?_ h (RepT.of (by simp only [Rep])) (k _ rfl e3)
            simp [execOp, ho, resolve, invoke, builtin, Builtin.len_, e1, run_underlying' g2, goInt]
  · rename_i s z hx ht
    obtain ⟨xl⟩ := args
    obtain ⟨tl⟩ := argTypes
    simp only at hx ht
    cases xl with
    | nil => cases hx
    | cons x xr =>
      cases xr with
      | cons _ _ => simp at hx
      | nil =>
        cases tl with
        | nil => cases ht
        | cons t tr =>
          cases tr with
          | cons _ _ => simp at ht
          | nil =>
            simp only [List.map_cons, List.map_nil, List.cons.injEq, and_true] at hx ht
            have hv := h.f.eval x
            rw [hx] at hv
            obtain ⟨e1, e3⟩ := rep_str hv
            obtain ⟨i0, d, c, g1, g2, g3, g4, g5, g6, g7, g8, g9, g10⟩ := hT t _ ht
            simp only at g10
            subst g10
            refine op_value hK (c := .int .i64 s.length) (w' := w) ?_ h (RepT.of (by simp only [Rep])) (k e3)
            have hs : (⟨s.toArray⟩ : ByteArray).size = s.length := by show s.toArray.size = _; simp
            simp [execOp, ho, resolve, invoke, builtin, Builtin.len_, e1, run_underlying' g2, goInt, hs]
  · exact k.elim

/-- a function of the program that has a body, and is no row of the model's own -/
def Plain (P : Program) (f : FuncId) : Prop := ∃ fn, P.funcs[f]? = some fn ∧ fn.body.isSome = true ∧ (fn.name == "runtime.NumGoroutine") = false

theorem sound_call {c : Call} {f : Operand} (hT : TOk P T) (hC : ∀ f args st R, C f args st R → ACalls P f args st R ∧ Plain P f) (hK : Takes I0 st0 w0 β env.nxt a o.dst next K) (h : Rel I0 st0 w0 I β env st a w) (ho : o.op = .call c) (hc : c.callee = .value f)
    (k : match env.eval f with
      | .func f a cap => evsT T env c.argTypes.toList c.args.toList fun vs => forceL (a ++ (vs ++ cap)) fun vs => C f vs st fun r st' => match r with
        | .ret v => v.back fun v => K v env st'
        | .pan v => Q (.pan v) env st'
      | _ => False) : o.wp P a w next (liftQ I0 st0 w0 Q) := by
  have hf := h.f.eval f
  split at k
  · rename_i fid fa cap he
    rw [he] at hf
    have hf' : Rep I (.func fid fa cap) (a.eval f) := hf
    simp only [Rep] at hf'
    obtain ⟨as, cs, e, h1, h2⟩ := hf'
    obtain ⟨vs, h3, k⟩ := evsT_sound hT h.f k
    have k := forceL_iff.1 k
    obtain ⟨hcall, fn, p1, p2, p3⟩ := hC _ _ _ _ k
    have hcall := hcall I w (as ++ (c.args.toList.map a.eval ++ cs)) h.s (RepL.append h1 (RepL.append h3 h2))
    have harr : (as ++ (c.args.toList.map a.eval ++ cs)).toArray = as.toArray ++ (c.args.map a.eval) ++ cs.toArray := by
      apply Array.ext'; simp
    rw [harr] at hcall
    have hrun : (execOp a.eval o).run P w = .ok (.enter fid (as.toArray ++ (c.args.map a.eval) ++ cs.toArray)) w := by
      have hb : fn.body.isNone = false := by cases hb : fn.body <;> simp_all
      simp only [execOp, ho, resolve, hc, e, Deferred.ofValue, Sem.run_bind, Sem.run_pure, Result.andThen_ok, invoke, callFunc, run_program, p1]
      rw [p3]
      simp [hb]
    unfold Oper.wp
    rw [hrun]
    refine hcall.mono fun e w' ⟨I1, st1, r, q1, q2, q3, q4⟩ => ?_
    have h' := h.called q1 q2
    cases e with
    | returned v =>
      cases r with
      | ret r => exact hK _ _ _ _ _ _ _ h' (RepT.of q3) (fun _ _ => rfl) (V.back_iff.1 q4)
      | pan r => exact q3.elim
    | panicked chain =>
      cases r with
      | ret r => exact q3.elim
      | pan r => exact ⟨I1, β, env, st1, .pan r, h', q3, q4⟩
    | outgrown => cases r <;> exact q3.elim
  · exact k.elim

/-- each operation does what is asked -/
theorem op_sound (hT : TOk P T) (hC : ∀ f args st R, C f args st R → ACalls P f args st R ∧ Plain P f) (hK : Takes I0 st0 w0 β env.nxt a o.dst next K) (h : Rel I0 st0 w0 I β env st a w)
    (k : opWp T C o env st K Q) : o.wp P a w next (liftQ I0 st0 w0 Q) := by
  cases ho : o.op <;> simp only [opWp, ho] at k <;> try exact k.elim
  case move x => exact sound_move hT hK h (.inl ho) k
  case assign x => exact sound_move hT hK h (.inr ho) k
  case pick c x y => exact sound_pick hT hK h ho k
  case alloc t => exact sound_alloc hT hK h ho k
  case box t x => exact sound_box hT hK h ho k
  case build t ps => exact sound_build hT hK h ho k
  case buildSlice t n ps => exact sound_buildSlice hT hK h ho k
  case load t x => exact sound_load hT hK h ho k
  case store t x y => exact sound_store hT hK h ho k
  case nilCheck x => exact sound_nilCheck hK h ho k
  case binOp op t x y u =>
    obtain ⟨v, c, h1, h2, h3⟩ := bin_sound (P := P) (w := w) (B := 0) (h.f.eval x) (h.f.eval y) t x y k
    refine op_value hK (c := c) (w' := w) ?_ h (RepT.of h2) h3
    simp only [execOp, ho, Sem.run_bind] at h1 ⊢
    rw [h1]; rfl
  case unOp op t x => exact sound_unOp hK h k ho
  case makeFunc fn first cap =>
    cases fn with
    | func f => exact sound_makeFunc hK h ho k
    | _ => exact k.elim
  case slice t x lo hi mx =>
    cases mx with
    | none => exact sound_slice hT hK h ho k
    | some _ => exact k.elim
  case fieldAddr t x f => exact sound_fieldAddr hT hK h ho k
  case indexAddr t x i => exact sound_indexAddr hT hK h ho k
  case index t x i => exact sound_index hT hK h ho k
  case extract x i => exact sound_extract hK h ho k
  case call c =>
    cases hc : c.callee with
    | value f => rw [hc] at k; exact sound_call hT hC hK h ho hc k
    | invoke r m => rw [hc] at k; exact k.elim
    | builtin b =>
      rw [hc] at k
      cases b
      case len => exact sound_len hT hK h ho hc k
      case append =>
        obtain ⟨callee, ⟨xl⟩, ⟨tl⟩⟩ := c
        simp only at hc k
        subst hc
        split at k
        · rename_i x y t u
          refine sound_append (ty := o.type) hT hK h (fun c w' e => ?_) k
          simp [execOp, ho, resolve, invoke, builtin, e]
        · exact k.elim
      all_goals exact k.elim

theorem env_go_sound {v : V} {c : Value} {K : Env → Prop} {d : Option Tmp} (h : Rel I0 st0 w0 I β env st a w) (hv : RepT I β v c) (k : env.go d v K) : ∃ env', Rel I0 st0 w0 I β env' st (a.put d c) w ∧ K env' := by
  unfold Env.go at k
  split at k
  · obtain ⟨h1, k⟩ := chk_iff.1 k
    exact ⟨_, h.put hv (by simpa [Nat.blt_eq] using h1), k⟩
  · exact ⟨_, h, k⟩

theorem yielded_eq {all : List Oper} {j : Nat} {b : Bool} (h : Rel I0 st0 w0 I β env st a w) (k : ((all[j]?).bind (·.dst)).map env.get = some (.bool b)) : yielded all.toArray a.tmps j = some b := by
  cases hd : (all[j]?).bind (·.dst) with
  | none => rw [hd] at k; cases k
  | some t =>
    rw [hd] at k
    simp only [Option.map_some, Option.some.injEq] at k
    have := h.f.get t
    rw [k] at this
    have := rep_bool this
    have hy : yielded all.toArray a.tmps j = match a.tmps[t]? with | some (.bool b) => some b | _ => none := by
      simp only [yielded, List.getElem?_toArray]
      rw [hd]; rfl
    rw [hy]
    have hs : t < a.tmps.size := by
      rcases Nat.lt_or_ge t a.tmps.size with hlt | hge
      · exact hlt
      · simp [Array.getD, Nat.not_lt.2 hge, undef] at this
    rw [Array.getElem?_eq_getElem hs]
    rw [Array.getD, dif_pos hs] at this
    show (match some (a.tmps[t]) with | some (.bool b) => some b | _ => none) = some b
    have h2 : a.tmps[t] = .bool b := this
    rw [h2]

theorem yielded_und {all : List Oper} {j : Nat} (h : Rel I0 st0 w0 I β env st a w) (k : ((all[j]?).bind (·.dst)).map env.get = some (.tup [])) : yielded all.toArray a.tmps j = none := by
  cases hd : (all[j]?).bind (·.dst) with
  | none => rw [hd] at k; cases k
  | some t =>
    rw [hd] at k
    simp only [Option.map_some, Option.some.injEq] at k
    have := h.f.get t
    rw [k] at this
    have h2 : Rep I (.tup []) (a.tmps.getD t undef) := this
    simp only [Rep, RepL] at h2
    obtain ⟨vs, h2, rfl⟩ := h2
    have hy : yielded all.toArray a.tmps j = match a.tmps[t]? with | some (.bool b) => some b | _ => none := by
      simp only [yielded, List.getElem?_toArray]
      rw [hd]; rfl
    rw [hy]
    cases hs : a.tmps[t]? with
    | none => rfl
    | some c =>
      have : a.tmps.getD t undef = c := by
        rw [Array.getD_eq_getD_getElem?, hs]; rfl
      rw [this] at h2
      subst h2
      rfl

theorem opsWp_sound (hT : TOk P T) (hC : ∀ f args st R, C f args st R → ACalls P f args st R ∧ Plain P f) {all : List Oper} : ∀ {r : List Oper} {I : Mem} {β : Nat → Option Nat} {env : Env} {st : St} {a : Act} {w : World}, Rel I0 st0 w0 I β env st a w →
    opsWp T C all Q r env st → wpList P all.toArray (liftQ I0 st0 w0 Q) r a w
  | [], I, β, env, st, a, w, h, k => ⟨I, β, env, st, .normal, h, trivial, k⟩
  | o :: r, I, β, env, st, a, w, h, k => by
    rw [opsWp_cons] at k
    have yes : ∀ env st, opWp T C o env st (fun v env st => env.go o.dst v fun env => opsWp T C all Q r env st) Q → ∀ {I β a w}, Rel I0 st0 w0 I β env st a w → o.wp P a w (wpList P all.toArray (liftQ I0 st0 w0 Q) r) (liftQ I0 st0 w0 Q) := by
      intro env st k I β a w h
      refine op_sound hT hC (fun I β env st v c w h hv _ k => ?_) h k
      obtain ⟨env', h1, h2⟩ := env_go_sound h hv k
      exact opsWp_sound hT hC h1 h2
    have no : (env.go o.dst (.tup []) fun env => opsWp T C all Q r env st) → wpList P all.toArray (liftQ I0 st0 w0 Q) r (a.put o.dst undef) w := by
      intro k
      obtain ⟨env', h1, h2⟩ := env_go_sound h (c := undef) (RepT.of (v := .tup []) (by simp only [Rep]; exact ⟨[], rfl, by simp only [RepL]⟩)) k
      exact opsWp_sound hT hC h1 h2
    unfold guardWp at k
    unfold wpList
    cases hg : o.guard with
    | none =>
      rw [hg] at k
      rw [if_pos (by simp [Region.wanted, hg])]
      exact .inl (yes env st k h)
    | some g =>
      obtain ⟨j, want⟩ := g
      rw [hg] at k
      simp only at k
      split at k
      · rename_i b hb
        have hy := yielded_eq h hb
        have hw : Region.wanted o (yielded all.toArray a.tmps) = (b == want) := by
          simp only [Region.wanted, hg, hy]
          cases b <;> cases want <;> rfl
        cases want <;> cases b <;> simp only [cond_true, cond_false, lit] at k
        · rw [if_pos (by rw [hw]; rfl)]; exact .inl (yes env st k h)
        · rw [if_neg (by rw [hw]; simp)]; exact no k
        · rw [if_neg (by rw [hw]; simp)]; exact no k
        · rw [if_pos (by rw [hw]; rfl)]; exact .inl (yes env st k h)
      · rename_i hb
        have hy := yielded_und h hb
        rw [if_neg (by simp only [Region.wanted, hg, hy]; cases want <;> simp)]
        exact no k
      · exact k.elim

theorem AW_mono {c : Code} {Q Q' : AExit → Env → St → Prop} {env : Env} {st : St} (h : AW P c Q env st) (k : ∀ e env st, Q e env st → Q' e env st) : AW P c Q' env st :=
  fun I0 st0 w0 I β a w hr => wp_mono (h I0 st0 w0 I β a w hr) fun e a w ⟨I, β, env, st, ae, h1, h2, h3⟩ => ⟨I, β, env, st, ae, h1, h2, k _ _ _ h3⟩

/-- a loop whose rounds are counted down by a number that stands in no slot -/
theorem wp_loop_idx {c : Code} {Q : Exit → Act → World → Prop} (R : Nat → Act → World → Prop) {n0 : Nat} (h0 : R n0 a w)
    (round : ∀ n a w, R n a w → c.wp P (Exit.then (fun a' w' => ∃ m, m < n ∧ R m a' w') Q) a w) : (Code.loop c).wp P Q a w := by
  intro b k cs
  have key : ∀ n a w, R n a w →
      ∃ e a' w', Q e a' w' ∧ Arrives P (lone (b.at a (.code c :: .inLoop c :: k)) cs w) b k cs e a' w' := by
    intro n
    induction n using Nat.strongRecOn with
    | _ n ih =>
      intro a w hR
      obtain ⟨e, a₁, w₁, hq, harr⟩ := round n a w hR b (.inLoop c :: k) cs
      cases e with
      | normal =>
        obtain ⟨m, hm, hR'⟩ := hq
        obtain ⟨e₂, a₂, w₂, hq₂, harr₂⟩ := ih m hm a₁ w₁ hR'
        exact ⟨e₂, a₂, w₂, hq₂, .of_steps (Steps.trans harr (.one step_inLoop)) harr₂⟩
      | exit id => exact ⟨_, a₁, w₁, hq, .pass (x := .inLoop c) rfl (fun _ _ => .inl (by simp)) harr⟩
      | goto l => exact ⟨_, a₁, w₁, hq, .pass (x := .inLoop c) rfl (fun _ _ => .inl (by simp)) harr⟩
      | ret => exact ⟨_, a₁, w₁, hq, .pass (x := .inLoop c) rfl (fun _ _ => .inl (by simp)) harr⟩
      | panic ch => exact ⟨_, a₁, w₁, hq, .pass (x := .inLoop c) rfl (fun _ _ => .inl (by simp)) harr⟩
      | outgrown => exact ⟨_, a₁, w₁, hq, .pass (x := .inLoop c) rfl (fun _ _ => .inl (by simp)) harr⟩
  obtain ⟨e, a', w', hq, harr⟩ := key n0 a w h0
  exact ⟨e, a', w', hq, .of_steps (.one step_loop) harr⟩

/-- a scope whose jumps are counted down by a number that stands in no slot -/
theorem wp_scope_idx {c : Code} {Q : Exit → Act → World → Prop} (R : Nat → Nat → Act → World → Prop)
    (first : c.wp P (fun e a w => match e with | .goto l => ∃ n, R l n a w | e => Q e a w) a w)
    (pass : ∀ l n a w, R l n a w → ∃ rest, findLabel c l = some rest ∧ rest.wp P (fun e a w => match e with | .goto l => ∃ m, m < n ∧ R l m a w | e => Q e a w) a w) : (Code.scope c).wp P Q a w := by
  intro b k cs
  have key : ∀ n l a w rest, R l n a w → findLabel c l = some rest → ∃ e a' w', Q e a' w' ∧ Arrives P (lone (b.at a (.code rest :: .inScope c :: k)) cs w) b k cs e a' w' := by
    intro n
    induction n using Nat.strongRecOn with
    | _ n ih =>
      intro l a w rest hR hf
      obtain ⟨rest', hf', hp⟩ := pass l n a w hR
      rw [hf] at hf'
      cases hf'
      obtain ⟨e, a₁, w₁, hq, harr⟩ := hp b (.inScope c :: k) cs
      cases e with
      | normal => exact ⟨.normal, a₁, w₁, hq, Steps.trans harr (.one step_inScope)⟩
      | exit id => exact ⟨.exit id, a₁, w₁, hq, fun k' hk => harr k' (by simp [exitTo, hk])⟩
      | goto l' =>
        obtain ⟨m, hm, hR'⟩ := hq
        obtain ⟨rest2, hf2, _⟩ := pass l' m a₁ w₁ hR'
        obtain ⟨e₂, a₂, w₂, hq₂, harr₂⟩ := ih m hm l' a₁ w₁ rest2 hR' hf2
        exact ⟨e₂, a₂, w₂, hq₂, .of_steps (harr _ (by simp [gotoIn, hf2])) harr₂⟩
      | ret => exact ⟨_, a₁, w₁, hq, harr⟩
      | panic ch => exact ⟨_, a₁, w₁, hq, harr⟩
      | outgrown => exact ⟨_, a₁, w₁, hq, harr⟩
  obtain ⟨e, a₁, w₁, hq, harr⟩ := first b (.inScope c :: k) cs
  cases e with
  | normal => exact ⟨.normal, a₁, w₁, hq, .head step_scope (Steps.trans harr (.one step_inScope))⟩
  | exit id => exact ⟨.exit id, a₁, w₁, hq, fun k' hk => .head step_scope (harr k' (by simp [exitTo, hk]))⟩
  | goto l' =>
    obtain ⟨n, hR⟩ := hq
    obtain ⟨rest, hf, _⟩ := pass l' n a₁ w₁ hR
    obtain ⟨e₂, a₂, w₂, hq₂, harr₂⟩ := key n l' a₁ w₁ rest hR hf
    exact ⟨e₂, a₂, w₂, hq₂, .of_steps (.head step_scope (harr _ (by simp [gotoIn, hf]))) harr₂⟩
  | ret => exact ⟨_, a₁, w₁, hq, .of_steps (.one step_scope) harr⟩
  | panic ch => exact ⟨_, a₁, w₁, hq, .of_steps (.one step_scope) harr⟩
  | outgrown => exact ⟨_, a₁, w₁, hq, .of_steps (.one step_scope) harr⟩

end
end Go.Aw
