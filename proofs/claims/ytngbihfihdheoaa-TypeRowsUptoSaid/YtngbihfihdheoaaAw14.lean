/-
  AW, PART 14. A region whose order is open.
-/
import Derived.Test.YtngbihfihdheoaaAw13
set_option linter.unusedVariables false
set_option linter.unusedSimpArgs false
namespace Go.Aw
open Go

section
variable {D : List Deferred} {P : Program} {T : List (Nat × Ty)} {C : FuncId → List V → St → (Res → St → Prop) → Prop} {I0 I : Mem} {st0 st : St} {w0 w : World} {β : Nat → Option Nat} {env : Env} {a : Act}

theorem go_out {env : Env} {d : Option Nat} {v : V} {K : Env → Prop} (h : env.go d v K) : (∀ t, d = some t → t < env.sz) ∧ K { env with tmps := wrT env.tmps d v } := by
  cases d with
  | none => exact ⟨fun t e => (by cases e), h⟩
  | some t =>
    obtain ⟨h1, h2⟩ := chk_iff.1 h
    exact ⟨fun s e => by cases e; simpa [Nat.blt_eq] using h1, h2⟩
theorem guard_split {all : List Oper} {o : Oper} {env : Env} {yes no : Prop} (h : guardWp all o env yes no) :
    (yes ∧ ∀ p q : Prop, p → guardWp all o env p q) ∨ (no ∧ ∀ p q : Prop, q → guardWp all o env p q) := by
  unfold guardWp at h
  cases hg : o.guard with
  | none =>
    rw [hg] at h
    exact .inl ⟨h, fun p q hp => by unfold guardWp; rw [hg]; exact hp⟩
  | some g =>
    obtain ⟨j, want⟩ := g
    rw [hg] at h
    simp only at h
    split at h
    · rename_i b hb
      cases want <;> cases b <;> simp only [cond_true, cond_false, lit] at h
      · exact .inl ⟨h, fun p q hp => by unfold guardWp; rw [hg]; simp only [hb, lit, cond_false]; exact hp⟩
      · exact .inr ⟨h, fun p q hp => by unfold guardWp; rw [hg]; simp only [hb, lit, cond_false]; exact hp⟩
      · exact .inr ⟨h, fun p q hp => by unfold guardWp; rw [hg]; simp only [hb, lit, cond_true]; exact hp⟩
      · exact .inl ⟨h, fun p q hp => by unfold guardWp; rw [hg]; simp only [hb, lit, cond_true]; exact hp⟩
    · rename_i hb
      exact .inr ⟨h, fun p q hp => by unfold guardWp; rw [hg]; simp only [hb]; exact hp⟩
    · exact h.elim

/-- what is known of an operation of such a region: its value, and the box that it makes or writes -/
def HY (T : List (Nat × Ty)) (C : FuncId → List V → St → (Res → St → Prop) → Prop) (all : List Oper) (b1 b0 : List (Nat × List V)) (st : St) (o : Oper) (E : Env) (n : Nat) (v : V) (x : Option (Nat × List V)) : Prop :=
  match o.op with
  | .alloc t => ∃ ty, assoc T t = some ty ∧ v = .lptr n 0 ∧ x = some (n, ty.zero.cells)
  | .box t y => (E.evalT T t y).known = true ∧ v = .lptr n 0 ∧ x = some (n, (E.evalT T t y).cells)
  | .store t p y => ∃ id off cs ty cs', E.eval p = .lptr id off ∧ assoc b1 id = some cs ∧ assoc T t = some ty ∧ (E.evalT T t y).known = true ∧ (E.evalT T t y).cells.length = ty.zero.cells.length ∧
      (off + (E.evalT T t y).cells.length ≤ cs.length ∧ (E.evalT T t y).cells.all V.sc = true ∧ cs' = cs.take off ++ (E.evalT T t y).cells ++ cs.drop (off + (E.evalT T t y).cells.length)) ∧ v = .junk ∧ x = some (id, cs')
  | _ => quietWp T C all o b0 E st v ∧ x = none
def HF (T : List (Nat × Ty)) (C : FuncId → List V → St → (Res → St → Prop) → Prop) (all : List Oper) (b1 b0 : List (Nat × List V)) (st : St) (o : Oper) (E : Env) (n : Nat) (v : V) (x : Option (Nat × List V)) : Prop :=
  guardWp all o E (HY T C all b1 b0 st o E n v x) (v = .tup [] ∧ x = none)

theorem newHead_iff {env : Env} {cs : List V} {K : V → Env → Prop} : env.newHead cs K ↔ K (.lptr env.nxt 0) { env with boxes := (env.nxt, cs) :: env.boxes } := by
  unfold Env.newHead
  rw [forceL_iff]
theorem storeTo_out {cs new : List V} {off : Nat} {K : List V → Prop} (h : storeTo cs off new K) : off + new.length ≤ cs.length ∧ new.all V.sc = true ∧ K (cs.take off ++ new ++ cs.drop (off + new.length)) := by
  unfold storeTo at h
  obtain ⟨h1, h⟩ := chk_iff.1 h
  obtain ⟨h2, h⟩ := chk_iff.1 h
  exact ⟨Nat.le_of_ble_eq_true h1, h2, forceL_iff.1 h⟩

theorem headOne_out {all : List Oper} {b1 b0 : List (Nat × List V)} {o : Oper} {K : V → Env → Prop} (h : headOne T C all o b1 b0 env st K) :
    ∃ v x, HY T C all b1 b0 st o env env.nxt v x ∧ K v { env with boxes := bxT env.boxes x } := by
  have quiet : (∃ v, quietWp T C all o b0 env st v ∧ v.part fun v => K v env) → ∃ v, ∃ x : Option (Nat × List V), (quietWp T C all o b0 env st v ∧ x = none) ∧ K v { env with boxes := bxT env.boxes x } := by
    rintro ⟨v, h1, h2⟩
    exact ⟨v, none, ⟨h1, rfl⟩, V.part_iff.1 h2⟩
  cases ho : o.op <;> simp only [headOne, HY, ho] at h ⊢ <;> try exact quiet h
  case alloc t =>
    split at h
    · rename_i ty ht
      obtain ⟨_, h⟩ := chk_iff.1 h
      exact ⟨_, some (env.nxt, ty.zero.cells), ⟨ty, ht, rfl, rfl⟩, newHead_iff.1 h⟩
    · exact h.elim
  case box t y =>
    obtain ⟨_, h⟩ := chk_iff.1 h
    obtain ⟨hk, h⟩ := chk_iff.1 (V.force_iff.1 h)
    exact ⟨_, some _, ⟨hk, rfl, rfl⟩, newHead_iff.1 h⟩
  case store t p y =>
    split at h
    · rename_i id off he
      split at h
      · rename_i cs ty hcs ht
        obtain ⟨hk, h⟩ := chk_iff.1 (V.force_iff.1 h)
        simp only [Bool.and_eq_true] at hk
        obtain ⟨g1, g2, g3⟩ := storeTo_out h
        exact ⟨.junk, some (id, _), ⟨id, off, cs, ty, _, he, hcs, ht, hk.1, Nat.eq_of_beq_eq_true hk.2, ⟨g1, g2, rfl⟩, rfl, rfl⟩, g3⟩
      · exact h.elim
    · exact h.elim

theorem head_out {all : List Oper} {Q : AExit → Env → St → Prop} {e0 : Env} {b1 b0 : List (Nat × List V)} : ∀ {l : List Oper} {env : Env}, headWp T C all Q e0 b1 b0 l env st → ∃ (vs : List V) (xs : List (Option (Nat × List V))), vs.length = headLen e0 all l ∧ xs.length = headLen e0 all l ∧
    (∀ (i : Nat) (o : Oper) (v : V) (x : Option (Nat × List V)), i < headLen e0 all l → l[i]? = some o → vs[i]? = some v → xs[i]? = some x → HF T C all b1 b0 st o (hEnv env (env.nxt + i) l vs xs (List.replicate i true)) (env.nxt + i) v x) ∧
    (∀ (i : Nat) (o : Oper) (t : Nat), i < headLen e0 all l → l[i]? = some o → o.dst = some t → t < env.sz) ∧
    opsWp T C all Q (l.drop (headLen e0 all l)) (hEnv env (env.nxt + headLen e0 all l) l vs xs (List.replicate (headLen e0 all l) true)) st
  | [], env, h => ⟨[], [], rfl, rfl, fun i o v x e => by simp [headLen] at e, fun i o t e => by simp [headLen] at e, h⟩
  | o :: r, env, h => by
    rw [headWp_cons] at h
    cases hk : headK e0 all o with
    | false =>
      rw [hk] at h
      have hl : headLen e0 all (o :: r) = 0 := by simp [headLen, hk]
      refine ⟨[], [], by rw [hl]; rfl, by rw [hl]; rfl, fun i o v x e => by omega, fun i o t e => by omega, ?_⟩
      rw [hl]
      exact h
    | true =>
      rw [hk] at h
      have h : guardWp all o env _ _ := h
      have hl : headLen e0 all (o :: r) = headLen e0 all r + 1 := by simp [headLen, hk]
      have step : ∀ (v : V) (x : Option (Nat × List V)), HF T C all b1 b0 st o env env.nxt v x →
          (Env.go { env with boxes := bxT env.boxes x } o.dst v fun env => env.up fun env => headWp T C all Q e0 b1 b0 r env st) → ∃ (vs : List V) (xs : List (Option (Nat × List V))), vs.length = headLen e0 all (o :: r) ∧ xs.length = headLen e0 all (o :: r) ∧
          (∀ (i : Nat) (o' : Oper) (v : V) (x : Option (Nat × List V)), i < headLen e0 all (o :: r) → (o :: r)[i]? = some o' → vs[i]? = some v → xs[i]? = some x → HF T C all b1 b0 st o' (hEnv env (env.nxt + i) (o :: r) vs xs (List.replicate i true)) (env.nxt + i) v x) ∧
          (∀ (i : Nat) (o' : Oper) (t : Nat), i < headLen e0 all (o :: r) → (o :: r)[i]? = some o' → o'.dst = some t → t < env.sz) ∧
          opsWp T C all Q ((o :: r).drop (headLen e0 all (o :: r))) (hEnv env (env.nxt + headLen e0 all (o :: r)) (o :: r) vs xs (List.replicate (headLen e0 all (o :: r)) true)) st := by
        intro v x hv hg
        obtain ⟨h1, h2⟩ := go_out hg
        have h2 : headWp T C all Q e0 b1 b0 r _ st := h2
        obtain ⟨vs, xs, k1, k2, k3, k4, k5⟩ := head_out h2
        rw [hl]
        refine ⟨v :: vs, x :: xs, by simp [k1], by simp [k2], ?_, ?_, ?_⟩
        · intro i o' v' x' hi e1 e2 e3
          cases i with
          | zero =>
            simp only [List.getElem?_cons_zero, Option.some.injEq] at e1 e2 e3
            subst e1; subst e2; subst e3
            exact hv
          | succ i =>
            have := k3 i o' v' x' (by omega) (by simpa using e1) (by simpa using e2) (by simpa using e3)
            have e : env.nxt + 1 + i = env.nxt + (i + 1) := by omega
            rw [← e]
            exact this
        · intro i o' t hi e1 e2
          cases i with
          | zero =>
            simp only [List.getElem?_cons_zero, Option.some.injEq] at e1
            subst e1
            exact h1 t e2
          | succ i => exact k4 i o' t (by omega) (by simpa using e1) e2
        · have e : env.nxt + 1 + headLen e0 all r = env.nxt + (headLen e0 all r + 1) := by omega
          rw [← e]
          exact k5
      rcases guard_split h with ⟨h1, h3⟩ | ⟨h1, h3⟩
      · obtain ⟨v, x, h4, h5⟩ := headOne_out h1
        exact step v x (h3 _ _ h4) h5
      · exact step (.tup []) none (h3 _ _ ⟨rfl, rfl⟩) h1

structure DrawOK (k : Nat) (all : List Oper) : Prop where
  le : k ≤ all.length
  back : ∀ (i : Nat) (o : Oper), all[i]? = some o → ∀ e ∈ o.after, Region.binds .any e = true → e.on < i
  dst : DstOne (all.take (k))
  lo : ∀ (i j : Nat) (o p : Oper) (t : Nat), i < k → j < k → all[i]? = some o → all[j]? = some p → p.dst = some t → t ∈ Oper.slots all o → j < i → reaches all all.length i j = true
  hi : ∀ (i j : Nat) (o p : Oper) (t : Nat), i < k → j < k → all[i]? = some o → all[j]? = some p → p.dst = some t → t ∈ Oper.slots all o → i < j → reaches all all.length j i = true
  tail : ∀ (i j : Nat), k ≤ i → i < all.length → j < i → reaches all all.length i j = true
theorem take_get {α : Type} {l : List α} {k i : Nat} {x : α} (h : (l.take k)[i]? = some x) : i < k ∧ l[i]? = some x := by
  rw [List.getElem?_take] at h
  split at h
  · rename_i hi; exact ⟨hi, h⟩
  · cases h
theorem DrawOK.of {k : Nat} {all : List Oper} (h : drawOK k all = true) : DrawOK k all := by
  simp only [drawOK, Bool.and_eq_true, List.all_eq_true, List.mem_range] at h
  obtain ⟨hk, h⟩ := h
  have lt : ∀ {i : Nat} {o : Oper}, all[i]? = some o → i < all.length := fun e => (List.getElem?_eq_some_iff.1 e).1
  have one : ∀ (i : Nat) (o : Oper), all[i]? = some o → (∀ e ∈ o.after.toList, (!(Region.binds .any e) || Nat.blt e.on i) = true) ∧
      (bif Nat.blt i (k) then (List.range (k)).all fun j => Nat.beq i j || match all[j]? with | none => true | some p => pairOK all i j o p
        else (List.range i).all fun j => reaches all all.length i j) = true := by
    intro i o e
    have := h i (lt e)
    simp only [e, Bool.and_eq_true] at this
    exact ⟨List.all_eq_true.1 this.1, this.2⟩
  have pair : ∀ (i j : Nat) (o p : Oper), i < k → j < k → all[i]? = some o → all[j]? = some p → i ≠ j → pairOK all i j o p = true := by
    intro i j o p hi hj e1 e2 hij
    have := (one i o e1).2
    have hb : Nat.blt i (k) = true := by rw [Nat.blt_eq]; exact hi
    rw [hb] at this
    simp only [cond_true, List.all_eq_true, List.mem_range] at this
    have := this j hj
    rw [e2] at this
    simp only [Bool.or_eq_true] at this
    rcases this with g | g
    · exact absurd (Nat.eq_of_beq_eq_true g) hij
    · exact g
  have edge : ∀ (i j : Nat) (o p : Oper) (t : Nat), i < k → j < k → all[i]? = some o → all[j]? = some p → i ≠ j → p.dst = some t → (o.dst ≠ some t) ∧ (t ∈ Oper.slots all o → (if Nat.blt j i then reaches all all.length i j else reaches all all.length j i) = true) := by
    intro i j o p t hi hj e1 e2 hij ht
    have := pair i j o p hi hj e1 e2 hij
    simp only [pairOK, ht, Bool.and_eq_true, Bool.or_eq_true, Bool.not_eq_true', beq_eq_false_iff_ne] at this
    refine ⟨this.1, fun hm => ?_⟩
    rcases this.2 with g | g
    · rw [List.contains_eq_mem, decide_eq_false_iff_not] at g
      exact absurd hm g
    · exact g
  refine ⟨Nat.le_of_ble_eq_true hk, fun i o e x hx hb => ?_, fun i j o p t e1 e2 hij ht => ?_, fun i j o p t hi hj e1 e2 ht hm hlt => ?_, fun i j o p t hi hj e1 e2 ht hm hlt => ?_, fun i j hi hl hlt => ?_⟩
  · have := (one i o e).1 x (by simpa using hx)
    simp only [hb, Bool.not_true, Bool.false_or, Nat.blt_eq] at this
    exact this
  · obtain ⟨hi, e1⟩ := take_get e1
    obtain ⟨hj, e2⟩ := take_get e2
    exact (edge i j o p t hi hj e1 e2 hij ht).1
  · have := (edge i j o p t hi hj e1 e2 (by omega) ht).2 hm
    rw [if_pos (by rw [Nat.blt_eq]; exact hlt)] at this
    exact this
  · have := (edge i j o p t hi hj e1 e2 (by omega) ht).2 hm
    rw [if_neg (by rw [Nat.blt_eq]; omega)] at this
    exact this
  · have := (one i all[i] (List.getElem?_eq_getElem hl)).2
    have hb : Nat.blt i (k) = false := by
      cases hb : Nat.blt i (k) with
      | false => rfl
      | true => rw [Nat.blt_eq] at hb; omega
    rw [hb] at this
    simp only [cond_false, List.all_eq_true, List.mem_range] at this
    exact this j hlt

/-- whoever is listed has those ahead that it is bound to come after -/
def Closed (all : List Oper) (listed : Array Bool) : Prop :=
  ∀ (i : Nat) (o : Oper), all[i]? = some o → listed.getD i false = true → ∀ e ∈ o.after, Region.binds .any e = true → listed.getD e.on false = true
theorem reaches_listed {all : List Oper} {listed : Array Bool} (hc : Closed all listed) : ∀ {n i j : Nat} {o : Oper}, reaches all n i j = true → all[i]? = some o → (∀ e ∈ o.after, Region.binds .any e = true → listed.getD e.on false = true) → listed.getD j false = true
  | 0, i, j, o, h, ho, he => by cases h
  | n + 1, i, j, o, h, ho, he => by
    rw [reaches, ho] at h
    simp only [Bool.or_eq_true, List.any_eq_true, Bool.and_eq_true] at h
    rcases h with ⟨e, h1, h2, h3⟩ | ⟨e, h1, ⟨h2, h3⟩, h4⟩
    · have := Nat.eq_of_beq_eq_true h3
      subst this
      exact he e (by simpa using h1) h2
    · have hl := he e (by simpa using h1) h2
      cases hp : all[e.on]? with
      | none =>
        cases n with
        | zero => cases h4
        | succ n => rw [reaches, hp] at h4; cases h4
      | some p => exact reaches_listed hc h4 hp (hc e.on p hp hl)

/-- two frames that tell the same -/
structure Env.eqv (e e' : Env) : Prop where
  tmps : ∀ t, assoc e.tmps t = assoc e'.tmps t
  boxes : ∀ t, assoc e.boxes t = assoc e'.boxes t
  nxt : e.nxt = e'.nxt
  sz : e.sz = e'.sz
theorem Rel.same {e e' : Env} (h : Rel D I0 st0 w0 I β e st a w) (k : e.eqv e') : Rel D I0 st0 w0 I β e' st a w :=
  ⟨h.fr, h.s, ⟨h.f.size.trans k.sz, fun t v x => h.f.tmps t v ((k.tmps t).trans x), fun id cs x => h.f.box id cs ((k.boxes id).trans x),
    fun id b x => by rw [← k.nxt]; exact h.f.nxt id b x, h.f.inj, h.f.sep, h.f.defers⟩⟩

theorem getD_list {l : Array Bool} {j : Nat} {d : Bool} : l.getD j d = (l.toList[j]?).getD d := by
  rw [Array.getD_eq_getD_getElem?]; simp

theorem only_eq {e e' : Env} {bs : List (Nat × List V)} {l : List Nat} (h1 : ∀ t ∈ l, assoc e.tmps t = assoc e'.tmps t) (hn : e.nxt = e'.nxt) (hs : e.sz = e'.sz) (hg : e.gl = e'.gl) : e.only bs l = e'.only bs l := by
  unfold Env.only
  have : l.map (fun t => (t, e.get t)) = l.map (fun t => (t, e'.get t)) := List.map_congr_left fun t ht => by unfold Env.get; rw [h1 t ht]
  rw [this, hn, hs, hg]
theorem assoc_only {e : Env} : ∀ {l : List Nat} {t : Nat}, t ∈ l → assoc (l.map fun t => (t, e.get t)) t = some (e.get t)
  | x :: r, t, h => by
    rw [List.map_cons, assoc_cons]
    cases hx : Nat.beq x t with
    | true => have := Nat.eq_of_beq_eq_true hx; subst this; rfl
    | false =>
      rcases List.mem_cons.1 h with rfl | h
      · rw [Nat.beq_refl] at hx; cases hx
      · exact assoc_only h
theorem slots_op {all : List Oper} {o : Oper} {t : Nat} (h : .tmp t ∈ o.op.operands.toList) : t ∈ Oper.slots all o := List.mem_append_left _ (List.mem_filterMap.2 ⟨.tmp t, h, rfl⟩)
theorem only_eval {all : List Oper} {o : Oper} {e e' : Env} {bs : List (Nat × List V)} (h : ∀ t ∈ Oper.slots all o, assoc e.tmps t = assoc e'.tmps t) : ∀ x ∈ o.op.operands.toList, (e.only bs (Oper.slots all o)).eval x = e'.eval x := by
  intro x hx
  cases x with
  | tmp t =>
    have ht : t ∈ Oper.slots all o := slots_op hx
    show Env.get _ t = e'.get t
    unfold Env.get Env.only
    simp only
    rw [assoc_only ht]
    unfold Env.get
    rw [h t ht]
  | _ => rfl
theorem eval_agree {all : List Oper} {o : Oper} {e e' : Env} (h : ∀ t ∈ Oper.slots all o, assoc e.tmps t = assoc e'.tmps t) : ∀ x ∈ o.op.operands.toList, e.eval x = e'.eval x := by
  intro x hx
  cases x with
  | tmp t => show Env.get _ t = Env.get _ t; unfold Env.get; rw [h t (slots_op hx)]
  | _ => rfl
theorem guardWp_congr {all : List Oper} {o : Oper} {e e' : Env} {p q : Prop} (h : ∀ t ∈ Oper.slots all o, assoc e.tmps t = assoc e'.tmps t) (k : guardWp all o e p q) : guardWp all o e' p q := by
  unfold guardWp at *
  cases hg : o.guard with
  | none => rw [hg] at k; exact k
  | some g =>
    obtain ⟨j, want⟩ := g
    rw [hg] at k
    simp only at k ⊢
    have : ((all[j]?).bind (·.dst)).map e.get = ((all[j]?).bind (·.dst)).map e'.get := by
      cases hd : (all[j]?).bind (·.dst) with
      | none => rfl
      | some t =>
        have := h t (List.mem_append_right _ (by rw [hg]; simp only [hd]; simp))
        simp only [Option.map_some, Env.get, this]
    rw [← this]
    exact k
theorem guardWp_mono {all : List Oper} {o : Oper} {e : Env} {p q p' q' : Prop} (h : p → p') (h' : q → q') (k : guardWp all o e p q) : guardWp all o e p' q' := by
  rcases guard_split k with ⟨k1, k2⟩ | ⟨k1, k2⟩
  · exact k2 _ _ (h k1)
  · exact k2 _ _ (h' k1)
theorem headK_quiet {e0 : Env} {all : List Oper} {o : Oper} (h : headK e0 all o = true) : quietKind o.op = true ∨ (∃ t, o.op = .alloc t) ∨ (∃ t x, o.op = .box t x) ∨ ∃ t x y, o.op = .store t x y := by
  cases ho : o.op <;> first
    | exact .inl rfl
    | exact .inr (.inl ⟨_, rfl⟩)
    | exact .inr (.inr (.inl ⟨_, _, rfl⟩))
    | exact .inr (.inr (.inr ⟨_, _, _, rfl⟩))

/-- one operation of such a region -/
theorem head_step (hT : TOk P T) (hC : ∀ f args st R, C f args st R → ACalls P f args st R ∧ Plain P f) (hM : ∀ f args st (R R' : Res → St → Prop), (∀ r s, R r s → R' r s) → C f args st R → C f args st R')
    {all : List Oper} {b1 b0 : List (Nat × List V)} {i : Nat} {o : Oper} {e0 eh : Env} {n : Nat} {v : V} {x : Option (Nat × List V)} (hi : all[i]? = some o) (hq : headK eh all o = true) (h : Rel D I0 st0 w0 I β env st a w)
    (hag : ∀ t ∈ Oper.slots all o, assoc e0.tmps t = assoc env.tmps t) (hb : ∀ id cs, assoc b0 id = some cs → assoc env.boxes id = some cs)
    (hb1 : ∀ id cs', x = some (id, cs') → id ≠ n → ∀ cs, assoc b1 id = some cs → assoc env.boxes id = some cs) (hb2 : ∀ id cs, assoc b1 id = some cs → id ≠ n)
    (hf : HF T C all b1 b0 st o e0 n v x) (hid : β n = none) (hn : n < env.nxt) {next : Act → World → Prop} (Q : AExit → Env → St → Prop)
    (k : ∀ I β' c a' w', a' = a.put o.dst c → Rel D I0 st0 w0 I β' { env with boxes := bxT env.boxes x } st a w' → RepT I β' v c → (∀ j, j < env.nxt → j ≠ n → β' j = β j) → next a' w') : wpOp P all.toArray (liftQ D I0 st0 w0 Q) i next a w := by
  unfold wpOp
  have hi' : all.toArray[i]? = some o := by simpa using hi
  simp only [hi']
  have yes : HY T C all b1 b0 st o e0 n v x → o.wp P a w next (liftQ D I0 st0 w0 Q) := by
    intro hy
    have quiet : quietKind o.op = true → quietWp T C all o b0 e0 st v ∧ x = none → o.wp P a w next (liftQ D I0 st0 w0 Q) := by
      rintro hqk ⟨hy2, rfl⟩
      have := opWp_congr (T := T) (C := C) (env := e0.only b0 (Oper.slots all o)) (env' := env) hM (K' := fun v' e s => v' = v ∧ e = env ∧ s = st) (Q' := Q) hqk (.inl rfl) (only_eval hag) hb
        (fun v' s s' g x => ⟨x.1, rfl, by rcases g with ⟨_, rfl⟩ | ⟨_, rfl⟩; exact x.2.2; rfl⟩) (fun _ _ x => x.elim) hy2
      refine op_sound hT hC (fun I β env' st' v' c w' hr hv hβ x => ?_) h this
      obtain ⟨rfl, rfl, rfl⟩ := x
      exact k _ _ _ _ _ rfl hr hv fun j hj _ => hβ j hj
    have fresh : ∀ {cs : List V} {vs : List Value} {t : TypeId}, v = .lptr n 0 → x = some (n, cs) → RepL I cs vs → (execOp a.eval o).run P w = .ok (.value (.pointer (some ⟨w.heap.size, 0, none⟩))) (w.alloc (.cells vs.toArray t)) → o.wp P a w next (liftQ D I0 st0 w0 Q) := by
      rintro cs vs t rfl rfl hr hrun
      unfold Oper.wp
      rw [hrun]
      refine k I _ _ _ _ rfl (h.localBoxAt hr t hid hn (Nat.le_refl _)) (show ∃ b, _ ∧ _ from ⟨w.heap.size, if_pos rfl, rfl⟩) fun j hj hne => if_neg hne
    rcases headK_quiet hq with hqk | ⟨t, ho⟩ | ⟨t, y, ho⟩ | ⟨t, p, y, ho⟩
    · refine quiet hqk ?_
      unfold HY at hy
      split at hy
      · rename_i ho; rw [ho] at hqk; cases hqk
      · rename_i ho; rw [ho] at hqk; cases hqk
      · rename_i ho; rw [ho] at hqk; cases hqk
      · exact hy
    · unfold HY at hy
      rw [ho] at hy
      obtain ⟨ty, h1, h2, h3⟩ := hy
      obtain ⟨vs, h4, h5⟩ := alloc_run (P := P) hT I w a h1 ho
      exact fresh h2 h3 h4 h5
    · unfold HY at hy
      rw [ho] at hy
      obtain ⟨h1, h2, h3⟩ := hy
      have he : e0.evalT T t y = env.evalT T t y := evalT_congr (eval_agree hag y (by rw [ho]; simp [Op.operands]))
      rw [he] at h1 h3
      exact fresh h2 h3 (rep_cells ((h.f.evalT hT t y).rep (known_plain h1)) h1) (box_run w a ho)
    · unfold HY at hy
      rw [ho] at hy
      obtain ⟨id, off, cs, ty, cs', h1, h2, h3, h4, h5, ⟨h6, h7, rfl⟩, rfl, rfl⟩ := hy
      have he : e0.evalT T t y = env.evalT T t y := evalT_congr (eval_agree hag y (by rw [ho]; simp [Op.operands]))
      have hp : e0.eval p = env.eval p := eval_agree hag p (by rw [ho]; simp [Op.operands])
      rw [he] at h4 h5 h6 h7 hb1 k
      have hcs := hb1 id _ rfl (hb2 id cs h2) cs h2
      have := sound_store (o := o) (t := t) (x := p) (y := y) (next := next) (Qc := liftQ D I0 st0 w0 Q) (K := fun v' e s => v' = .junk ∧ e = { env with boxes := (id, cs.take off ++ (env.evalT T t y).cells ++ cs.drop (off + (env.evalT T t y).cells.length)) :: env.boxes } ∧ s = st) hT (fun I β' env' st' v' c w' hr hv hβ x => by
        obtain ⟨rfl, rfl, rfl⟩ := x
        exact k _ _ _ _ _ rfl hr hv fun j hj _ => hβ j hj) h ho (by
        rw [← hp, h1]
        simp only [hcs, h3]
        refine V.force_iff.2 (chk_intro ?_ ?_)
        · simp only [Bool.and_eq_true]
          exact ⟨h4, by rw [h5]; exact Nat.beq_refl _⟩
        · unfold storeTo
          exact chk_intro (by rw [Nat.ble_eq]; exact h6) (chk_intro h7 (forceL_iff.2 (by simp)))  )
      exact this
  have no : v = .tup [] ∧ x = none → next (a.put o.dst undef) w := fun ⟨e, e'⟩ => by
    subst e; subst e'
    exact k _ _ _ _ _ rfl h (RepT.of (v := .tup []) (by simp only [Rep]; exact ⟨[], rfl, by simp only [RepL]⟩)) fun _ _ _ => rfl
  have hf := guardWp_congr hag hf
  unfold guardWp at hf
  cases hg : o.guard with
  | none =>
    rw [hg] at hf
    rw [if_pos (by simp [Region.wanted, hg])]
    exact .inl (yes hf)
  | some g =>
    obtain ⟨j, want⟩ := g
    rw [hg] at hf
    simp only at hf
    split at hf
    · rename_i b hb
      have hy := yielded_eq h hb
      have hw : Region.wanted o (yielded all.toArray a.tmps) = (b == want) := by
        simp only [Region.wanted, hg, hy]
        cases b <;> cases want <;> rfl
      cases want <;> cases b <;> simp only [cond_true, cond_false, lit] at hf
      · rw [if_pos (by rw [hw]; rfl)]; exact .inl (yes hf)
      · rw [if_neg (by rw [hw]; simp)]; exact no hf
      · rw [if_neg (by rw [hw]; simp)]; exact no hf
      · rw [if_pos (by rw [hw]; rfl)]; exact .inl (yes hf)
    · rename_i hb
      have hy := yielded_und h hb
      rw [if_neg (by simp only [Region.wanted, hg, hy]; cases want <;> simp)]
      exact no hf
    · exact hf.elim
end
end Go.Aw
