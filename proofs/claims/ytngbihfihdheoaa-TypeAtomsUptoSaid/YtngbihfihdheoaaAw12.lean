/-
  AW, PART 12. An operation that only looks: what it asks depends on what it looks at alone.
-/
import Derived.Test.YtngbihfihdheoaaAw1
set_option linter.unusedVariables false
set_option linter.unusedSimpArgs false
namespace Go.Aw
open Go

section
variable {T : List (Nat × Ty)} {C : FuncId → List V → St → (Res → St → Prop) → Prop} {env env' : Env}

theorem evalT_congr {x : Operand} {t : TypeId} (h : env.eval x = env'.eval x) : env.evalT T t x = env'.evalT T t x := by
  unfold Env.evalT
  cases isNilSlice x
  · exact h
  · rfl
theorem evs_congr : ∀ {l : List Operand} {K K' : List V → Prop}, (∀ x ∈ l, env.eval x = env'.eval x) → (∀ vs, K vs → K' vs) → evs env l K → evs env' l K'
  | [], K, K', h, k, e => k _ e
  | x :: r, K, K', h, k, e => by
    rw [evs_cons] at e ⊢
    rw [← h x List.mem_cons_self]
    rw [V.force_iff] at e ⊢
    obtain ⟨e1, e2⟩ := chk_iff.1 e
    exact chk_intro e1 (evs_congr (fun y hy => h y (List.mem_cons_of_mem _ hy)) (fun vs => k _) e2)
theorem evsT_congr : ∀ {l : List Operand} {ts : List TypeId} {K K' : List V → Prop}, (∀ x ∈ l, env.eval x = env'.eval x) → (∀ vs, K vs → K' vs) → evsT T env ts l K → evsT T env' ts l K'
  | [], ts, K, K', h, k, e => k _ e
  | x :: r, ts, K, K', h, k, e => by
    rw [evsT_cons] at e ⊢
    rw [← evalT_congr (h x List.mem_cons_self)]
    rw [V.force_iff] at e ⊢
    obtain ⟨e1, e2⟩ := chk_iff.1 e
    exact chk_intro e1 (evsT_congr (fun y hy => h y (List.mem_cons_of_mem _ hy)) (fun vs => k _) e2)
theorem evParts_congr : ∀ {l : List (Nat × Operand)} {K K' : List (Nat × V) → Prop}, (∀ x ∈ l.map (·.2), env.eval x = env'.eval x) → (∀ vs, K vs → K' vs) → evParts env l K → evParts env' l K'
  | [], K, K', h, k, e => k _ e
  | (i, x) :: r, K, K', h, k, e => by
    rw [evParts_cons] at e ⊢
    rw [← h x (by simp)]
    rw [V.force_iff] at e ⊢
    obtain ⟨e1, e2⟩ := chk_iff.1 e
    exact chk_intro e1 (evParts_congr (fun y hy => h y (List.mem_cons_of_mem _ hy)) (fun vs => k _) e2)

theorem bcase_mono {b : Bool} {p q p' q' : Prop} (h : p → p') (k : q → q') : bcase b p q → bcase b p' q' := fun ⟨x, y⟩ => ⟨fun e => h (x e), fun e => k (y e)⟩
theorem lit_mono {b : Bool} {p q p' q' : Prop} (h : p → p') (k : q → q') : lit b p q → lit b p' q' := by cases b; exact k; exact h
theorem loadFrom_mono {cs : List V} {off : Nat} {ty : Option Ty} {K K' : V → Prop} (h : ∀ v, K v → K' v) : loadFrom cs off ty K → loadFrom cs off ty K' := by
  unfold loadFrom
  split
  · split
    · exact h _
    · intro e
      obtain ⟨e1, e2⟩ := chk_iff.1 e
      exact chk_intro e1 (forceL_iff.2 (h _ (forceL_iff.1 e2)))
  · split
    · intro e; exact V.force_iff.2 (h _ (V.force_iff.1 e))
    · exact id
  · exact id
theorem fillV_mono {offs : List (Nat × Nat)} : ∀ {l : List (Nat × V)} {cs : List V} {K K' : List V → Prop}, (∀ v, K v → K' v) → fillV offs cs l K → fillV offs cs l K'
  | [], cs, K, K', h, e => forceL_iff.2 (h _ (forceL_iff.1 e))
  | (i, v) :: r, cs, K, K', h, e => by
    rw [fillV_cons] at e ⊢
    split
    · rename_i o s hx
      rw [hx] at e
      obtain ⟨e1, e⟩ := chk_iff.1 e
      obtain ⟨e2, e⟩ := chk_iff.1 e
      exact chk_intro e1 (chk_intro e2 (fillV_mono h e))
    · rename_i hx
      rw [hx] at e
      exact e
theorem bin_mono {op : BinOp} {x y : V} {K K' : V → Prop} (h : ∀ v, K v → K' v) : bin op x y K → bin op x y K' := by
  unfold bin
  split
  · intro e
    obtain ⟨e1, e⟩ := chk_iff.1 e
    refine chk_intro e1 ?_
    cases op <;> first
      | exact e.elim
      | exact bcase_mono (h _) (h _) e
      | (obtain ⟨r, h1, h2⟩ := e; exact ⟨r, h1, h _ h2⟩)
      | (obtain ⟨h0, r, h1, h2⟩ := e; exact ⟨h0, r, h1, h _ h2⟩)
      | (obtain ⟨h0, h1⟩ := e; exact ⟨h0, h _ h1⟩)
  · cases op <;> intro e <;> first
      | exact e.elim
      | exact bcase_mono (h _) (h _) e
      | (obtain ⟨h0, h1⟩ := e; exact ⟨h0, h _ h1⟩)
  · exact id


theorem nilCmp_mono {op : BinOp} {ty : Option Ty} {v : V} {K K' : V → Prop} (h : ∀ v, K v → K' v) : nilCmp op ty v K → nilCmp op ty v K' := by
  unfold nilCmp
  split
  · split <;> first | exact h _ | exact id
  · exact id
theorem nilSl_mono {op : BinOp} {ty : Option Ty} {v : V} {K K' : V → Prop} (h : ∀ v, K v → K' v) : nilSl op ty v K → nilSl op ty v K' := by
  unfold nilSl
  split
  · split <;> first | exact fun k b hb => h _ (k b hb) | exact id
  · exact id
theorem binT_mono {op : BinOp} {ty : Option Ty} {x y : V} {K K' : V → Prop} (h : ∀ v, K v → K' v) : binT op ty x y K → binT op ty x y K' := by
  unfold binT
  split
  · unfold aggCmp
    split
    · intro e
      obtain ⟨e1, e⟩ := chk_iff.1 e
      refine chk_intro e1 ?_
      split at e
      · rename_i b hb
        cases op <;> first | exact bcase_mono (h _) (h _) e | exact e.elim
      · exact e.elim
    · exact id
  · exact bin_mono h
theorem appendTo_mono {sz bytes : Nat} {es : List (List V)} {own : Own} {new : List (List V)} {st : St} {K K' : V → St → Prop} (h : ∀ v s, K v s → K' v s) :
    appendTo sz bytes es own new st K → appendTo sz bytes es own new st K' := by
  unfold appendTo
  rintro ⟨h1, h2, e⟩
  obtain ⟨h3, e⟩ := chk_iff.1 e
  refine ⟨h1, h2, chk_intro h3 ?_⟩
  cases own with
  | any => exact e
  | full => exact ⟨fun g => h _ _ (e.1 g), fun g b hb => h _ _ (e.2 g b hb)⟩
  | tok b => exact ⟨e.1, fun b' hb => h _ _ (e.2 b' hb)⟩

theorem opWp_congr (hC : ∀ f args st (R R' : Res → St → Prop), (∀ r s, R r s → R' r s) → C f args st R → C f args st R') {o : Oper} {st st' : St} {K K' : V → Env → St → Prop} {Q Q' : AExit → Env → St → Prop}
    (hq : quietKind o.op = true) (hs : st' = st ∨ (pureKind o.op = true ∧ ∀ b, st.box b = none)) (he : ∀ x ∈ o.op.operands.toList, env.eval x = env'.eval x) (hb : ∀ id cs, assoc env.boxes id = some cs → assoc env'.boxes id = some cs)
    (hK : ∀ v s s', ((st' = st ∧ s' = s) ∨ (s = st ∧ s' = st')) → K v env s → K' v env' s') (hQ : ∀ v s, Q (.pan v) env s → Q' (.pan v) env' s) : opWp T C o env st K Q → opWp T C o env' st' K' Q' := by
  have hk : ∀ v, K v env st → K' v env' st' := fun v => hK v st st' (.inr ⟨rfl, rfl⟩)
  cases ho : o.op <;> simp only [opWp, ho, quietKind, pureKind, Op.operands] at * <;> try exact id
  case move x =>
    rw [← evalT_congr (he x (by simp))]
    intro e; exact V.force_iff.2 (hk _ (V.force_iff.1 e))
  case assign x =>
    rw [← evalT_congr (he x (by simp))]
    intro e; exact V.force_iff.2 (hk _ (V.force_iff.1 e))
  case pick c a b =>
    rw [← he c (by simp), ← evalT_congr (he a (by simp)), ← evalT_congr (he b (by simp))]
    split
    · exact lit_mono (fun e => V.force_iff.2 (hk _ (V.force_iff.1 e))) (fun e => V.force_iff.2 (hk _ (V.force_iff.1 e)))
    · exact id
  case alloc t => cases hq
  case box t x => cases hq
  case store t x y => cases hq
  case load t x =>
    rw [← he x (by simp)]
    split
    · split
      · rename_i cs hcs
        rw [hb _ _ hcs]
        exact loadFrom_mono fun v => hk v
      · exact False.elim
    · rintro ⟨cs, h1, h2⟩
      rcases hs with rfl | ⟨_, h0⟩
      · exact ⟨cs, h1, loadFrom_mono (fun v => hk v) h2⟩
      · rw [h0] at h1; cases h1
    · exact loadFrom_mono fun v => hk v
    · exact id
  case nilCheck x =>
    rw [← he x (by simp)]
    split <;> first | exact hk _ | exact id
  case fieldAddr t x f =>
    rw [← he x (by simp)]
    split
    · split
      · intro e; obtain ⟨e1, e⟩ := chk_iff.1 e; exact chk_intro e1 (hk _ e)
      · exact id
    · split
      · intro e; obtain ⟨e1, e⟩ := chk_iff.1 e; exact chk_intro e1 (hk _ e)
      · exact id
    · split
      · intro e; obtain ⟨e1, e⟩ := chk_iff.1 e; exact chk_intro e1 (hk _ e)
      · exact id
    · exact id
  case binOp op t x y u =>
    rw [← he x (by simp), ← he y (by simp)]
    split
    · exact nilCmp_mono fun v => hk v
    split
    · exact nilSl_mono fun v => hk v
    · exact binT_mono fun v => hk v
  case makeInterface t x =>
    rw [← evalT_congr (he x (by simp))]
    split
    · exact id
    · intro e
      obtain ⟨e1, e⟩ := chk_iff.1 (V.force_iff.1 e)
      exact V.force_iff.2 (chk_intro e1 (hk _ e))
    · exact id
  case typeAssert x t' t ok =>
    rw [← he x (by simp)]
    split
    · exact id
    · split
      · rename_i u v _
        cases Nat.beq u t with
        | true =>
          intro e
          obtain ⟨e1, e⟩ := chk_iff.1 e
          refine chk_intro e1 ?_
          cases ok with
          | true => exact hk _ e
          | false =>
            have e : v.force fun v => K v env st := e
            show v.force fun v => K' v env' st'
            exact V.force_iff.2 (hk _ (V.force_iff.1 e))
        | false => intro e; obtain ⟨e1, e⟩ := chk_iff.1 e; exact chk_intro e1 (hk _ e)
      · intro e; obtain ⟨e1, e⟩ := chk_iff.1 e; exact chk_intro e1 (hk _ e)
      · exact id
    · exact id
  case panic x =>
    rw [← he x (by simp)]
    split
    · rcases hs with rfl | ⟨h0, _⟩
      · exact hQ _ _
      · cases h0
    · exact id
  case extract x i =>
    rw [← he x (by simp)]
    split
    · split
      · intro e; exact V.force_iff.2 (hk _ (V.force_iff.1 e))
      · exact id
    · exact id
  case unOp op t x =>
    rw [← he x (by simp)]
    split
    · exact lit_mono (hk _) (hk _)
    · rintro ⟨r, h1, h2⟩; exact ⟨r, h1, hk _ h2⟩
    · exact id
  case indexAddr t x i =>
    rw [← he x (by simp), ← he i (by simp)]
    split
    · intro e; obtain ⟨e1, h0, x, h1, h2⟩ := chk_iff.1 e; exact chk_intro e1 ⟨h0, x, h1, hk _ h2⟩
    · exact id
  case index t x i =>
    rw [← he x (by simp), ← he i (by simp)]
    split
    · rintro ⟨h0, x, h1, h2⟩; exact ⟨h0, x, h1, hk _ h2⟩
    · exact id
  case build t ps =>
    split
    · exact evParts_congr (fun x hx => he x (by simpa using hx)) fun vs => fillV_mono fun v => hk _
    · exact id
  case buildSlice t n ps =>
    split
    · intro e
      obtain ⟨e1, e⟩ := chk_iff.1 e
      obtain ⟨e2, e⟩ := chk_iff.1 e
      obtain ⟨e3, e⟩ := chk_iff.1 e
      refine chk_intro e1 (chk_intro e2 (chk_intro e3 (evs_congr (fun x hx => he x (by simpa using hx)) (fun vs e => ?_) e)))
      obtain ⟨e4, e⟩ := chk_iff.1 e
      exact chk_intro e4 (forceLL_iff.2 (hk _ (forceLL_iff.1 e)))
    · exact id
  case makeFunc fn first cap =>
    cases fn with
    | func f =>
      intro e
      refine evs_congr (fun x hx => he x (by simp only [Array.toList_append, List.mem_append]; exact .inl hx)) (fun a e => ?_) e
      exact evs_congr (fun x hx => he x (by simp only [Array.toList_append, List.mem_append]; exact .inr hx)) (fun c => hk _) e
    | _ => exact id
  case slice t x lo hi mx =>
    cases mx with
    | some mx =>
      cases hi with
      | none => exact id
      | some hi =>
        have h0 : env.eval x = env'.eval x := he x (by simp)
        have h1 : lo.map env.eval = lo.map env'.eval := by
          cases lo with
          | none => rfl
          | some y => exact congrArg some (he y (by simp))
        have h2 : env.eval hi = env'.eval hi := he hi (by simp)
        have h3 : env.eval mx = env'.eval mx := he mx (by simp)
        simp only [← h0, ← h1, ← h2, ← h3]
        split
        · split
          · intro e; obtain ⟨e1, e2, e3⟩ := chk_iff.1 e; exact chk_intro e1 ⟨e2, fun es h => hk _ (e3 es h)⟩
          · exact id
        · exact id
    | none =>
      have h0 : env.eval x = env'.eval x := he x (by simp)
      have h1 : lo.map env.eval = lo.map env'.eval := by
        cases lo with
        | none => rfl
        | some y => exact congrArg some (he y (by simp))
      have h2 : hi.map env.eval = hi.map env'.eval := by
        cases hi with
        | none => rfl
        | some y => exact congrArg some (he y (by simp))
      simp only [← h0, ← h1, ← h2]
      split
      · split
        · intro e; obtain ⟨e1, e2, e3⟩ := chk_iff.1 e; exact chk_intro e1 ⟨e2, fun es h => hk _ (e3 es h)⟩
        · exact id
      · split
        · rintro ⟨e2, e3⟩; exact ⟨e2, fun es h => hk _ (e3 es h)⟩
        · exact id
      · exact id
  case call c =>
    have ha : ∀ x ∈ c.args.toList, env.eval x = env'.eval x := fun x hx => he x (by
      simp only [Call.operands]
      cases c.callee <;> simp_all)
    have hm : c.args.toList.map env.eval = c.args.toList.map env'.eval := List.map_congr_left ha
    cases hc : c.callee with
    | invoke r m => simp only [hc]; exact id
    | value f =>
      have hf : env.eval f = env'.eval f := he f (by simp [Call.operands, hc])
      simp only [hc, ← hf]
      rcases hs with rfl | ⟨h0, _⟩
      · split
        · refine evsT_congr ha fun vs e => forceL_iff.2 (hC _ _ _ _ _ ?_ (forceL_iff.1 e))
          rintro (v | v) s e
          · exact V.back_iff.2 (hK _ _ _ (.inl ⟨rfl, rfl⟩) (V.back_iff.1 e))
          · exact hQ _ _ e
        · exact id
      · obtain ⟨callee, as, ts⟩ := c
        cases hc
        cases h0
    | builtin b =>
      cases b <;> simp only [hc] <;> try exact id
      case len =>
        rw [← hm]
        split
        · intro e m h1 h2; exact hk _ (e m h1 h2)
        · intro e h; exact hk _ (e h)
        · exact id
      case min =>
        rw [← hm]
        split
        · intro e; obtain ⟨e1, r, e2, e3⟩ := chk_iff.1 e; exact chk_intro e1 ⟨r, e2, hk _ e3⟩
        · exact id
      case max =>
        rw [← hm]
        split
        · intro e; obtain ⟨e1, r, e2, e3⟩ := chk_iff.1 e; exact chk_intro e1 ⟨r, e2, hk _ e3⟩
        · exact id
      case append =>
        obtain ⟨callee, as, ts⟩ := c
        cases hc
        rcases hs with rfl | ⟨h0, _⟩
        rotate_left
        · cases h0
        split
        · rename_i x y t u hx ht
          rw [← evalT_congr (T := T) (ha x (by rw [hx]; simp)), ← evalT_congr (T := T) (ha y (by rw [hx]; simp))]
          split
          · intro e; obtain ⟨e1, e⟩ := chk_iff.1 e; exact chk_intro e1 (appendTo_mono (fun v s => hK v s s (.inl ⟨rfl, rfl⟩)) e)
          · exact id
        · exact id

end
end Go.Aw
