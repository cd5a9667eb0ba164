/-
  AW, PART 21. A region whose order is open, told in one order: sound.
-/
import Derived.Test.YtngbihfihdheoaaAw20
set_option linter.unusedVariables false
set_option linter.unusedSimpArgs false
namespace Go.Aw
open Go

section
variable {D : List Deferred} {P : Program} {T : List (Nat × Ty)} {C : FuncId → List V → St → (Res → St → Prop) → Prop} {I0 I : Mem} {st0 st : St} {w0 w : World} {β : Nat → Option Nat} {env : Env} {a : Act}

theorem go_in {env : Env} {d : Option Nat} {v : V} {K : Env → Prop} (h : ∀ t, d = some t → t < env.sz) (k : K { env with tmps := wrT env.tmps d v }) : env.go d v K := by
  cases d with
  | none => exact k
  | some t => exact chk_intro (by rw [Nat.blt_eq]; exact h t rfl) k

/-- what is known of an operation that only looks -/
def HYm (T : List (Nat × Ty)) (C : FuncId → List V → St → (Res → St → Prop) → Prop) (all : List Oper) (b0 : List (Nat × List V)) (E0 : Env) (vs : Nat → V) (pre : List (Nat × Bool)) (j : Nat) (o : Oper) : Prop :=
  (∀ t, o.dst = some t → t < E0.sz) ∧ ∀ e : Env, (∀ t ∈ Oper.slots all o, assoc e.tmps t = slotV all E0.tmps vs (fun k => decide (k ∈ pre.map (·.1))) t) → e.nxt = E0.nxt → e.sz = E0.sz → e.gl = E0.gl →
    guardWp all o e (quietWp T C all o b0 e noSt0 (vs j)) (vs j = .tup [])

/-- how far a run has come -/
structure MF (T : List (Nat × Ty)) (C : FuncId → List V → St → (Res → St → Prop) → Prop) (all : List Oper) (sched : List (Nat × Bool)) (L : List Nat) (b0 : List (Nat × List V)) (Q : AExit → Env → St → Prop) (E0 : Env)
    (vs : Nat → V) (pre post : List (Nat × Bool)) (Ef : Env) (bs : List Bool) (e : Env) (st : St) : Prop where
  split : sched = pre ++ post
  sub : ∀ j, bs.getD j false = true → j ∈ pre.map (·.1)
  eff : ∀ j, (j, false) ∈ pre → bs.getD j false = true
  boxes : Ef.boxes = e.boxes
  n1 : Ef.nxt = E0.nxt
  n2 : e.nxt = E0.nxt
  s1 : Ef.sz = E0.sz
  s2 : e.sz = E0.sz
  g1 : Ef.gl = E0.gl
  g2 : e.gl = E0.gl
  tm : ∀ t, assoc e.tmps t = slotV all E0.tmps vs (fun j => bs.getD j false) t
  tf : ∀ t, assoc Ef.tmps t = slotV all E0.tmps vs (fun k => decide (k ∈ pre.map (·.1))) t
  bx : ∀ id cs, assoc b0 id = some cs → assoc e.boxes id = some cs
  go : mixWp T C all L b0 Q post Ef st
  hy : ∀ pre1 j r o, pre = pre1 ++ (j, true) :: r → all[j]? = some o → HYm T C all b0 E0 vs pre1 j o
  cl : ∀ i o, all[i]? = some o → bs.getD i false = true → ∀ x ∈ o.after, Region.binds .any x = true → bs.getD x.on false = true
def MInv (T : List (Nat × Ty)) (C : FuncId → List V → St → (Res → St → Prop) → Prop) (all : List Oper) (sched : List (Nat × Bool)) (L : List Nat) (b0 : List (Nat × List V)) (Q : AExit → Env → St → Prop) (E0 : Env) (bs : List Bool) (e : Env) (st : St) : Prop :=
  ∃ vs pre post Ef, MF T C all sched L b0 Q E0 vs pre post Ef bs e st ∧ ∀ p r, post = p :: r → p.2 = false

theorem HYm.upd {all : List Oper} {b0 : List (Nat × List V)} {E0 : Env} {vs : Nat → V} {pre : List (Nat × Bool)} {j : Nat} {o : Oper} {i : Nat} {v : V} (h : HYm T C all b0 E0 vs pre j o) (h1 : i ≠ j) (h2 : i ∉ pre.map (·.1)) : HYm T C all b0 E0 (upd vs i v) pre j o := by
  refine ⟨h.1, fun e he k1 k2 k3 => ?_⟩
  have hj : Go.Aw.upd vs i v j = vs j := if_neg (fun e => h1 e.symm)
  rw [hj]
  refine h.2 e (fun t ht => (he t ht).trans (slotV_congr fun k p _ _ => ⟨rfl, fun hk => ?_⟩)) k1 k2 k3
  have hk : k ∈ pre.map (·.1) := of_decide_eq_true hk
  exact if_neg fun (e : k = i) => h2 (e ▸ hk)

theorem snoc_split {α : Type} {pre pre1 r : List α} {x y : α} (h : pre ++ [x] = pre1 ++ y :: r) : (pre = pre1 ∧ x = y) ∨ ∃ r', pre = pre1 ++ y :: r' := by
  rcases List.eq_nil_or_concat r with rfl | ⟨r', z, rfl⟩
  · have := List.append_inj' h rfl
    simp only [List.cons.injEq, and_true] at this
    exact .inl this
  · rw [List.concat_eq_append, show pre1 ++ y :: (r' ++ [z]) = (pre1 ++ y :: r') ++ [z] by simp] at h
    have := List.append_inj' h rfl
    exact .inr ⟨r', this.1⟩

/-- those that only look, ahead of the next one that does more -/
theorem mix_norm {all : List Oper} {sched : List (Nat × Bool)} (M : MixOK all sched) {L : List Nat} {b0 : List (Nat × List V)} {Q : AExit → Env → St → Prop} {E0 : Env} {bs : List Bool} {e : Env} {st : St} :
    ∀ (post : List (Nat × Bool)) (vs : Nat → V) (pre : List (Nat × Bool)) (Ef : Env), MF T C all sched L b0 Q E0 vs pre post Ef bs e st → MInv T C all sched L b0 Q E0 bs e st
  | [], vs, pre, Ef, h => ⟨vs, pre, [], Ef, h, fun p r e => by cases e⟩
  | (i, false) :: r, vs, pre, Ef, h => ⟨vs, pre, _, Ef, h, fun p r e => by cases e; rfl⟩
  | (i, true) :: r, vs, pre, Ef, h => by
    obtain ⟨o, ho, _⟩ := M.kind pre i true r h.split
    have hni := M.nodup pre i true r h.split
    have hbi : bs.getD i false = false := by
      cases hb : bs.getD i false with
      | false => rfl
      | true => exact absurd (h.sub i hb) hni
    have hgo := h.go
    rw [mixWp_cons] at hgo
    simp only [ho] at hgo
    have key : ∃ v, Ef.go o.dst v (fun env => mixWp T C all L b0 Q r env st) ∧ guardWp all o Ef (quietWp T C all o b0 Ef noSt0 v) (v = .tup []) := by
      rcases guard_split hgo with ⟨⟨v, k1, k2⟩, k3⟩ | ⟨k1, k3⟩
      · exact ⟨v, V.part_iff.1 k2, k3 _ _ k1⟩
      · exact ⟨_, k1, k3 _ _ rfl⟩
    obtain ⟨v, k1, k2⟩ := key
    obtain ⟨hd, k1⟩ := go_out k1
    have hmem : ∀ k, k ≠ i → (k ∈ (pre ++ [(i, true)]).map (·.1) ↔ k ∈ pre.map (·.1)) := fun k hk => by
      simp [hk]
    refine mix_norm M r (upd vs i v) (pre ++ [(i, true)]) { Ef with tmps := wrT Ef.tmps o.dst v } ⟨by rw [h.split]; simp, fun j hj => ?_, fun j hj => ?_, h.boxes, h.n1, h.n2, h.s1, h.s2, h.g1, h.g2, fun t => ?_, fun t => ?_, h.bx, k1, fun pre1 j r' o' hs ho' => ?_, h.cl⟩
    · rw [List.map_append]; exact List.mem_append_left _ (h.sub j hj)
    · rcases List.mem_append.1 hj with g | g
      · exact h.eff j g
      · simp at g
    · rw [h.tm]
      refine slotV_congr fun k p hk _ => ⟨rfl, fun hb => ?_⟩
      have : k ≠ i := fun e => by subst e; rw [hbi] at hb; cases hb
      exact (if_neg this).symm
    · exact slotV_set (S' := fun k => decide (k ∈ (pre ++ [(i, true)]).map (·.1))) M.dst ho h.tf (fun j hj => by simp only [decide_eq_decide]; exact hmem j hj) (by simp) t
    · rcases snoc_split hs with ⟨rfl, e2⟩ | ⟨r2, e2⟩
      · cases e2
        rw [ho] at ho'
        cases ho'
        refine ⟨fun t ht => by rw [← h.s1]; exact hd t ht, fun e' he q1 q2 q3 => ?_⟩
        have hv : upd vs i v i = v := if_pos rfl
        rw [hv]
        have ag : ∀ t ∈ Oper.slots all o, assoc Ef.tmps t = assoc e'.tmps t := fun t ht => by
          rw [he t ht, h.tf t]
          refine slotV_congr fun k p _ _ => ⟨rfl, fun hk => ?_⟩
          have hk : k ∈ pre.map (·.1) := of_decide_eq_true hk
          exact (if_neg fun (e : k = i) => hni (e ▸ hk)).symm
        have := guardWp_congr ag k2
        refine guardWp_mono (fun x => ?_) (fun x => x) this
        unfold quietWp at x ⊢
        rw [← only_eq (e := Ef) (e' := e') ag (by rw [h.n1, q1]) (by rw [h.s1, q2]) (by rw [h.g1, q3])]
        exact x
      · have hj := h.hy pre1 j r2 o' e2 ho'
        refine hj.upd (fun e => ?_) (fun hm => hni ?_)
        · subst e; exact hni (by rw [e2]; simp)
        · rw [e2, List.map_append]; exact List.mem_append_left _ hm

theorem store_congr {o : Oper} {t : TypeId} {x y : Operand} (ho : o.op = .store t x y) {st : St} {e e' : Env} {L : List Nat} {K K' : V → Env → St → Prop} {Q Q' : AExit → Env → St → Prop} (hL : storesIn L e o = true)
    (he : ∀ x ∈ o.op.operands.toList, e.eval x = e'.eval x) (hb : e.boxes = e'.boxes) (hn : e.nxt = e'.nxt) (hs : e.sz = e'.sz) (hg : e.gl = e'.gl)
    (hK : ∀ s B, (∀ id cs, id ∉ L → assoc e.boxes id = some cs → assoc B id = some cs) → K .junk { e with boxes := B } s → K' .junk { e' with boxes := B } s) : opWp T C o e st K Q → opWp T C o e' st K' Q' := by
  have hx : e.eval x = e'.eval x := he x (by rw [ho]; simp [Op.operands])
  have hy : e.evalT T t y = e'.evalT T t y := evalT_congr (he y (by rw [ho]; simp [Op.operands]))
  unfold storesIn at hL
  rw [ho] at hL
  simp only at hL
  simp only [opWp, ho]
  rw [← hx]
  obtain ⟨ts, bs, n, sz, gl⟩ := e
  obtain ⟨ts', bs', n', sz', gl'⟩ := e'
  simp only at hb hn hs hg hL
  subst hb; subst hn; subst hs; subst hg
  split
  · rename_i id off hev
    rw [hev] at hL
    split
    · rename_i cs ty h1 h2
      have h1 : assoc bs id = some cs := h1
      simp only [h1, h2]
      rw [← hy]
      intro k
      have k := V.force_iff.1 k
      obtain ⟨k1, k⟩ := chk_iff.1 k
      obtain ⟨k2, k3, k⟩ := storeTo_out k
      refine V.force_iff.2 ?_
      refine chk_intro k1 ?_
      unfold storeTo
      refine chk_intro (by rw [Nat.ble_eq]; exact k2) (chk_intro k3 (forceL_iff.2 ?_))
      refine hK st _ (fun id' cs' h3 h4 => ?_) k
      rw [assoc_cons]
      have : Nat.beq id id' = false := beq_ne fun e => by subst e; exact h3 (by simpa using hL)
      rw [this]
      exact h4
    · exact False.elim
  · split
    · rename_i ty h2
      rw [← hy]
      rintro ⟨cs, h1, k⟩
      refine ⟨cs, h1, ?_⟩
      have k := V.force_iff.1 k
      obtain ⟨k1, k⟩ := chk_iff.1 k
      obtain ⟨k2, k3, k⟩ := storeTo_out k
      refine V.force_iff.2 ?_
      refine chk_intro k1 ?_
      unfold storeTo
      refine chk_intro (by rw [Nat.ble_eq]; exact k2) (chk_intro k3 (forceL_iff.2 ?_))
      exact hK _ bs (fun _ _ _ h4 => h4) k
    · exact False.elim
  · exact id

theorem getD_set {bs : List Bool} {i j : Nat} (hi : i < bs.length) : (bs.set i true).getD j false = if j = i then true else bs.getD j false := by
  rw [List.getD_eq_getElem?_getD, List.getD_eq_getElem?_getD]
  by_cases e : j = i
  · subst e; rw [List.getElem?_set_self hi]; simp
  · rw [List.getElem?_set_ne (fun x => e x.symm), if_neg e]

theorem mix_sound (hT : TOk P T) (hC : ∀ f args st R, C f args st R → ACalls P f args st R ∧ Plain P f) (hM : ∀ f args st (R R' : Res → St → Prop), (∀ r s, R r s → R' r s) → C f args st R → C f args st R')
    {all : List Oper} {Q : AExit → Env → St → Prop} {sched : List (Nat × Bool)} {L : List Nat} (hm : mixOK sched all = true)
    (h : mixWp T C all L (dropIds (L.map some) env.boxes) Q sched env st) (hr : Rel D I0 st0 w0 I β env st a w) :
    wpAny P .any all.toArray (liftQ D I0 st0 w0 Q) all.toArray.size (Array.replicate all.toArray.size false) a { w with drawn := w.drawn + 1 } := by
  have M := MixOK.of hm
  have hr := hr.grew (Grew.drew w)
  have hb0 : ∀ id cs, assoc (dropIds (L.map some) env.boxes) id = some cs → assoc env.boxes id = some cs ∧ id ∉ L := fun id cs e => by
    obtain ⟨h1, h2⟩ := dropIds_at e
    exact ⟨h1, fun hm => h2 (List.mem_map.2 ⟨id, hm, rfl⟩)⟩
  have hget : ∀ bs : List Bool, ∀ j, j < bs.length → bs.getD j true = bs.getD j false := fun bs j hj => by
    rw [List.getD_eq_getElem?_getD, List.getD_eq_getElem?_getD, List.getElem?_eq_getElem hj]; rfl
  have ready : ∀ {bs : List Bool} {i : Nat} {o : Oper}, all[i]? = some o → bs.length = all.length → readyL all bs i = true → bs.getD i false = false ∧ ∀ x ∈ o.after, Region.binds .any x = true → bs.getD x.on false = true := by
    intro bs i o ho hb hrd
    have hi : i < bs.length := by rw [hb]; exact (List.getElem?_eq_some_iff.1 ho).1
    unfold readyL at hrd
    rw [ho, hget bs i hi] at hrd
    simp only [Bool.and_eq_true, Bool.not_eq_true', List.all_eq_true] at hrd
    refine ⟨hrd.1, fun x hx hb => ?_⟩
    have := hrd.2 x (by simpa using hx)
    rw [hb] at this
    simpa using this
  -- what is bound to come ahead has run
  have listed : ∀ {bs : List Bool}, (∀ i o, all[i]? = some o → bs.getD i false = true → ∀ x ∈ o.after, Region.binds .any x = true → bs.getD x.on false = true) →
      ∀ (n : Nat) {i j : Nat} {o : Oper}, reaches all n i j = true → all[i]? = some o → (∀ x ∈ o.after, Region.binds .any x = true → bs.getD x.on false = true) → bs.getD j false = true := by
    intro bs cl n
    induction n with
    | zero => intro i j o h; cases h
    | succ n ih =>
      intro i j o h ho ha
      rw [reaches, ho] at h
      simp only [Bool.or_eq_true, List.any_eq_true, Bool.and_eq_true] at h
      rcases h with ⟨x, h1, h2, h3⟩ | ⟨x, h1, ⟨h2, h3⟩, h4⟩
      · have := Nat.eq_of_beq_eq_true h3
        subst this
        exact ha x (by simpa using h1) h2
      · have hx := ha x (by simpa using h1) h2
        cases hp : all[x.on]? with
        | none =>
          cases n with
          | zero => cases h4
          | succ n => rw [reaches, hp] at h4; cases h4
        | some p => exact ih h4 hp (cl x.on p hp hx)
  refine any_inv hT hC (Inv := MInv T C all sched L (dropIds (L.map some) env.boxes) Q env) ?_ ?_ ?_ _ (List.replicate all.length false) _ _ β env st _ _ (by simp) (by simp) (by simp) ?_ hr
  · intro bs e st i o hbl hinv ho hrd
    obtain ⟨vs, pre, post, Ef, F, hh⟩ := hinv
    obtain ⟨hbi, haft⟩ := ready ho hbl hrd
    have hil : i < bs.length := by rw [hbl]; exact (List.getElem?_eq_some_iff.1 ho).1
    -- the slots that it looks at
    have slots : ∀ {pre1 : List (Nat × Bool)} {q : Bool} {r : List (Nat × Bool)}, sched = pre1 ++ (i, q) :: r → ∀ t ∈ Oper.slots all o, assoc e.tmps t = slotV all env.tmps vs (fun k => decide (k ∈ pre1.map (·.1))) t := by
      intro pre1 q r hs t ht
      rw [F.tm]
      refine slotV_congr fun k p hk hd => ⟨?_, fun _ => rfl⟩
      rcases Nat.lt_trichotomy k i with hki | rfl | hki
      · have h1 := M.lo i k o p t ho hk hd ht hki
        have h2 := listed F.cl _ h1 ho haft
        have h3 := M.ahead _ h1 _ _ _ hs
        show bs.getD k false = decide (k ∈ pre1.map (·.1))
        rw [h2, decide_eq_true h3]
      · show bs.getD k false = decide (k ∈ pre1.map (·.1))
        rw [hbi, decide_eq_false (M.nodup _ _ _ _ hs)]
      · have h1 := M.hi i k o p t ho hk hd ht hki
        show bs.getD k false = decide (k ∈ pre1.map (·.1))
        have h2 : bs.getD k false = false := by
          cases hb : bs.getD k false with
          | false => rfl
          | true => have := listed F.cl _ h1 hk (F.cl k p hk hb); rw [hbi] at this; cases this
        have h3 : k ∉ pre1.map (·.1) := fun hm => by
          obtain ⟨x, hx, hxe⟩ := List.mem_map.1 hm
          obtain ⟨pa, ra, ea⟩ := List.append_of_mem hx
          have h4 := M.ahead _ h1 pa x.2 (ra ++ (i, q) :: r) (by rw [hs, ea, ← hxe]; simp)
          exact M.nodup _ _ _ _ hs (by rw [ea, List.map_append]; exact List.mem_append_left _ h4)
        rw [h2, decide_eq_false h3]
    have cl' : ∀ k p, all[k]? = some p → (bs.set i true).getD k false = true → ∀ x ∈ p.after, Region.binds .any x = true → (bs.set i true).getD x.on false = true := by
      intro k p hp hk x hx hb
      rw [getD_set hil] at hk ⊢
      split
      · rfl
      · split at hk
        · rename_i _ e; subst e; rw [ho] at hp; cases hp; exact haft x hx hb
        · exact F.cl k p hp hk x hx hb
    by_cases hmem : i ∈ pre.map (·.1)
    · -- it only looks
      obtain ⟨⟨i', q⟩, hx, rfl⟩ := List.mem_map.1 hmem
      obtain ⟨pre1, r, epre⟩ := List.append_of_mem hx
      cases q with
      | false => have := F.eff _ hx; rw [hbi] at this; cases this
      | true =>
        have hs : sched = pre1 ++ (i', true) :: (r ++ post) := by rw [F.split, epre]; simp
        obtain ⟨hd, hy⟩ := F.hy pre1 i' r o epre ho
        have hy := hy e (slots hs) F.n2 F.s2 F.g2
        obtain ⟨o', ho', hkind⟩ := M.kind _ _ _ _ hs
        have ho2 : all[i']? = some o := ho
        rw [ho2] at ho'
        cases ho'
        have hkind : pureKind o.op = true := hkind
        have hqk : quietKind o.op = true := by
          revert hkind
          cases o.op <;> simp [pureKind, quietKind]
        have step : e.go o.dst (vs i') (fun e' => MInv T C all sched L (dropIds (L.map some) env.boxes) Q env (bs.set i' true) e' st) := by
          refine go_in (fun t ht => by rw [F.s2]; exact hd t ht) ⟨vs, pre, post, Ef, ⟨F.split, fun j hj => ?_, fun j hj => ?_, F.boxes, F.n1, F.n2, F.s1, F.s2, F.g1, F.g2, fun t => ?_, F.tf, F.bx, F.go, F.hy, cl'⟩, hh⟩
          · rw [getD_set hil] at hj
            split at hj
            · rename_i e; subst e; exact hmem
            · exact F.sub j hj
          · rw [getD_set hil]
            split
            · rfl
            · exact F.eff j hj
          · have := slotV_set (S := fun j => bs.getD j false) (S' := fun j => (bs.set i' true).getD j false) (v := vs i') M.dst ho F.tm (fun j hj => by simp only [getD_set hil, if_neg hj]) (by simp only [getD_set hil, if_true]) t
            refine this.trans (slotV_congr fun k p _ _ => ⟨rfl, fun _ => ?_⟩)
            unfold upd
            split
            · rename_i e; rw [e]
            · rfl
        refine guardWp_mono (fun x => ?_) (fun x => ?_) hy
        · unfold quietWp at x
          refine opWp_congr (T := T) (C := C) (env := e.only (dropIds (L.map some) env.boxes) (Oper.slots all o)) (env' := e) (st := noSt0) (st' := st) hM hqk (.inr ⟨hkind, fun _ => rfl⟩) (only_eval fun t _ => rfl) F.bx (fun v s s' g k => ?_) (fun _ _ k => k.elim) x
          obtain ⟨k1, k2, k3⟩ := k
          subst k1
          rcases g with ⟨g1, rfl⟩ | ⟨_, rfl⟩
          · rw [k3, ← g1]; exact step
          · exact step
        · rw [x] at step; exact step
    · -- it is the next one of the chain
      obtain ⟨x, hx, rfl⟩ := List.mem_map.1 (M.cover i (List.getElem?_eq_some_iff.1 ho).1)
      rw [F.split] at hx
      have hxp : x ∈ post := by
        rcases List.mem_append.1 hx with g | g
        · exact absurd (List.mem_map.2 ⟨x, g, rfl⟩) hmem
        · exact g
      cases post with
      | nil => cases hxp
      | cons p r =>
        obtain ⟨k, q⟩ := p
        have hq : q = false := hh _ _ rfl
        subst hq
        have hxe : x = (k, false) := by
          rcases List.mem_cons.1 hxp with g | g
          · exact g
          · have h1 := M.chain pre k r F.split x g
            have h2 := listed F.cl _ h1 ho haft
            exact absurd (F.sub k h2) (M.nodup _ _ _ _ F.split)
        subst hxe
        have ho : all[k]? = some o := ho
        have hbi : bs.getD k false = false := hbi
        have hil : k < bs.length := hil
        have hmem : k ∉ pre.map (·.1) := hmem
        have hgo := F.go
        rw [mixWp_cons] at hgo
        simp only [ho] at hgo
        have ag : ∀ t ∈ Oper.slots all o, assoc Ef.tmps t = assoc e.tmps t := fun t ht => by rw [F.tf, slots F.split t ht]
        have hag := eval_agree (all := all) (o := o) ag
        -- on it goes
        have next : ∀ (v : V) (s : St) (B : List (Nat × List V)), (∀ id cs, assoc (dropIds (L.map some) env.boxes) id = some cs → assoc B id = some cs) →
            Env.go { Ef with boxes := B } o.dst v (fun env' => mixWp T C all L (dropIds (L.map some) env.boxes) Q r env' s) →
            Env.go { e with boxes := B } o.dst v (fun e' => MInv T C all sched L (dropIds (L.map some) env.boxes) Q env (bs.set k true) e' s) := by
          intro v s B hB hk
          obtain ⟨hd, hk⟩ := go_out hk
          have hd : ∀ t, o.dst = some t → t < Ef.sz := hd
          have hmp : ∀ j, j ≠ k → (j ∈ (pre ++ [(k, false)]).map (·.1) ↔ j ∈ pre.map (·.1)) := fun j hj => by simp [hj]
          refine go_in (fun t ht => by show t < e.sz; rw [F.s2, ← F.s1]; exact hd t ht) (mix_norm M r (upd vs k v) (pre ++ [(k, false)]) { Ef with boxes := B, tmps := wrT Ef.tmps o.dst v } ⟨by rw [F.split]; simp, fun j hj => ?_, fun j hj => ?_, rfl, F.n1, F.n2, F.s1, F.s2, F.g1, F.g2, fun t => ?_, fun t => ?_, hB, hk, fun pre1 j r' o' hs ho' => ?_, cl'⟩)
          · rw [getD_set hil] at hj
            rw [List.map_append]
            split at hj
            · rename_i e; subst e; exact List.mem_append_right _ (by simp)
            · exact List.mem_append_left _ (F.sub j hj)
          · rw [getD_set hil]
            split
            · rfl
            · rename_i hne
              rcases List.mem_append.1 hj with g | g
              · exact F.eff j g
              · simp at g; exact absurd g hne
          · exact slotV_set (S := fun j => bs.getD j false) (S' := fun j => (bs.set k true).getD j false) M.dst ho F.tm (fun j hj => by simp only [getD_set hil, if_neg hj]) (by simp only [getD_set hil, if_true]) t
          · exact slotV_set (S' := fun j => decide (j ∈ (pre ++ [(k, false)]).map (·.1))) M.dst ho F.tf (fun j hj => by simp only [decide_eq_decide]; exact hmp j hj) (by simp) t
          · rcases snoc_split hs with ⟨rfl, e2⟩ | ⟨r2, e2⟩
            · cases e2
            · have hj := F.hy pre1 j r2 o' e2 ho'
              refine hj.upd (fun e => ?_) (fun hm => hmem ?_)
              · subst e; exact hmem (by rw [e2]; simp)
              · rw [e2, List.map_append]; exact List.mem_append_left _ hm
        have heE : ∀ (E : Env), { E with boxes := E.boxes } = E := fun E => rfl
        refine guardWp_congr ag (guardWp_mono (fun x => ?_) (fun x => ?_) hgo)
        · obtain ⟨x1, x⟩ := chk_iff.1 x
          obtain ⟨o', ho', hkind⟩ := M.kind _ _ _ _ F.split
          rw [ho] at ho'
          cases ho'
          have hkind : (quietKind o.op || isStore o.op) = true := hkind
          cases hqk : quietKind o.op with
          | true =>
            refine opWp_congr (T := T) (C := C) (env := Ef) (env' := e) (st := st) (st' := st) hM hqk (.inl rfl) hag (fun id cs hb => by rw [← F.boxes]; exact hb) (fun v s s' g hk => ?_) (fun v s hk => hk _) x
            have : s' = s := by rcases g with ⟨_, g⟩ | ⟨g1, g2⟩; exact g; rw [g1, g2]
            subst this
            have := next v s' e.boxes F.bx (by rw [← F.boxes]; exact hk)
            exact this
          | false =>
            rw [hqk] at hkind
            have hst : isStore o.op = true := by simpa using hkind
            cases hop : o.op with
            | store t p y =>
              refine store_congr (T := T) (C := C) hop x1 hag F.boxes (by rw [F.n1, F.n2]) (by rw [F.s1, F.s2]) (by rw [F.g1, F.g2]) (fun s B hB hk => ?_) x
              refine next .junk s B (fun id cs hb => ?_) hk
              obtain ⟨_, h2⟩ := hb0 id cs hb
              exact hB id cs h2 (by rw [F.boxes]; exact F.bx id cs hb)
            | _ => rw [hop] at hst; cases hst
        · have := next (.tup []) st e.boxes F.bx (by rw [← F.boxes]; exact x)
          exact this
  · intro bs e st hbl hinv
    obtain ⟨vs, pre, post, Ef, F, hh⟩ := hinv
    by_cases hall : ∀ p ∈ sched, bs.getD p.1 false = true
    · left
      rw [List.eq_replicate_iff]
      refine ⟨hbl, fun b hb => ?_⟩
      obtain ⟨j, hj, rfl⟩ := List.mem_iff_getElem.1 hb
      obtain ⟨p, hp, e⟩ := List.mem_map.1 (M.cover j (by omega))
      have := hall p hp
      rw [e, List.getD_eq_getElem?_getD, List.getElem?_eq_getElem hj] at this
      exact this
    · right
      have hex : ∃ pr p po, sched = pr ++ p :: po ∧ bs.getD p.1 false = false ∧ ∀ x ∈ pr, bs.getD x.1 false = true := by
        clear F hh
        revert hall
        generalize sched = l
        intro hall
        induction l with
        | nil => exact absurd (fun p hp => by cases hp) hall
        | cons x l ih =>
          cases hb : bs.getD x.1 false with
          | false => exact ⟨[], x, l, rfl, hb, fun y hy => by cases hy⟩
          | true =>
            obtain ⟨pr, p, po, h1, h2, h3⟩ := ih fun h => hall fun p hp => by
              rcases List.mem_cons.1 hp with rfl | hp
              · exact hb
              · exact h p hp
            refine ⟨x :: pr, p, po, by rw [h1]; rfl, h2, fun y hy => ?_⟩
            rcases List.mem_cons.1 hy with rfl | hy
            · exact hb
            · exact h3 y hy
      obtain ⟨pr, ⟨k, q⟩, po, h1, h2, h3⟩ := hex
      obtain ⟨o, ho, _⟩ := M.kind _ _ _ _ h1
      have hk : k < all.length := (List.getElem?_eq_some_iff.1 ho).1
      refine ⟨k, hk, ?_⟩
      unfold readyL
      rw [ho, hget bs k (by omega), h2]
      simp only [Bool.not_false, Bool.true_and, List.all_eq_true]
      intro x hx
      cases hb : Region.binds .any x with
      | false => rfl
      | true =>
        obtain ⟨y, hy, e⟩ := List.mem_map.1 (M.back _ _ _ _ o h1 ho x (by simpa using hx) hb)
        have := h3 y hy
        rw [e] at this
        simpa using this
  · intro e st hinv
    obtain ⟨vs, pre, post, Ef, F, hh⟩ := hinv
    have hp : post = [] := by
      cases post with
      | nil => rfl
      | cons p r =>
        obtain ⟨o, ho, _⟩ := M.kind _ _ _ _ F.split
        have := F.sub p.1 (by rw [List.getD_eq_getElem?_getD, List.getElem?_replicate, if_pos (List.getElem?_eq_some_iff.1 ho).1]; rfl)
        exact absurd this (M.nodup _ _ _ _ F.split)
    subst hp
    refine ⟨Ef, ⟨fun t => ?_, fun t => by rw [F.boxes], by rw [F.n1, F.n2], by rw [F.s1, F.s2]⟩, F.go⟩
    rw [F.tm, F.tf]
    refine slotV_congr fun k p hk _ => ⟨?_, fun _ => rfl⟩
    have hlt := (List.getElem?_eq_some_iff.1 hk).1
    have h1 : (List.replicate all.length true).getD k false = true := by rw [List.getD_eq_getElem?_getD, List.getElem?_replicate, if_pos hlt]; rfl
    show (List.replicate all.length true).getD k false = decide (k ∈ pre.map (·.1))
    rw [h1, decide_eq_true (F.sub k h1)]
  · have hf : ∀ j, (List.replicate all.length false).getD j false = false := fun j => by
      rw [List.getD_eq_getElem?_getD, List.getElem?_replicate]; split <;> rfl
    have h0 : ∀ (vs : Nat → V) t, slotV all env.tmps vs (fun j => (List.replicate all.length false).getD j false) t = assoc env.tmps t := fun vs t => by
      unfold slotV; split
      · exact if_neg (by dsimp only; rw [hf]; decide)
      · rfl
    refine mix_norm M sched (fun _ => .junk) [] env ⟨rfl, fun j hj => (by rw [hf] at hj; cases hj), fun j hj => (by cases hj), rfl, rfl, rfl, rfl, rfl, rfl, rfl, fun t => (h0 _ t).symm, fun t => ?_, fun id cs hb => (hb0 id cs hb).1, h, fun pre1 j r o e => (by cases pre1 <;> cases e), fun i o ho hi => (by rw [hf] at hi; cases hi)⟩
    unfold slotV
    split <;> rfl
end
end Go.Aw
