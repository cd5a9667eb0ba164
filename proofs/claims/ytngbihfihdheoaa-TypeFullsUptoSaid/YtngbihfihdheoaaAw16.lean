/-
  AW, PART 16. A region whose order is open, whole.
-/
import Derived.Test.YtngbihfihdheoaaAw14
set_option linter.unusedVariables false
set_option linter.unusedSimpArgs false
namespace Go.Aw
open Go

section
variable {D : List Deferred} {P : Program} {T : List (Nat × Ty)} {C : FuncId → List V → St → (Res → St → Prop) → Prop} {I0 I : Mem} {st0 st : St} {w0 w : World} {β : Nat → Option Nat} {env : Env} {a : Act}

theorem flags_at {m n j : Nat} {d : Bool} {bs : List Bool} {listed : Array Bool} (h : listed.toList = bs ++ List.replicate n false) (hm : bs.length = m) : listed.getD j d = (if j < m then bs[j]?.getD d else if j < m + n then false else d) := by
  rw [getD_list, h]
  by_cases hj : j < m
  · rw [if_pos hj, List.getElem?_append_left (by omega)]
  · rw [if_neg hj, List.getElem?_append_right (by omega), List.getElem?_replicate, hm]
    by_cases h2 : j < m + n
    · rw [if_pos (by omega), if_pos h2]; rfl
    · rw [if_neg (by omega), if_neg h2]; rfl

theorem putT_take : ∀ {l : List Oper} {vs : List V} {bs : List Bool} {ts : List (Nat × V)}, putT ts l vs bs = putT ts (l.take vs.length) vs bs
  | [], vs, bs, ts => by cases vs <;> rfl
  | o :: r, [], bs, ts => rfl
  | o :: r, v :: vs, [], ts => rfl
  | o :: r, v :: vs, b :: bs, ts => by
    simp only [List.length_cons, List.take_succ_cons, putT]
    exact putT_take

/-- those that come in the order of the text -/
theorem tail_sound (hT : TOk P T) (hC : ∀ f args st R, C f args st R → ACalls P f args st R ∧ Plain P f) {k0 : Nat} {all : List Oper} (DO : DrawOK k0 all) {Q : AExit → Env → St → Prop} :
    ∀ (r : List Oper) (m : Nat) (listed : Array Bool) (I : Mem) (β : Nat → Option Nat) (env : Env) (st : St) (a : Act) (w : World), r = all.drop m → k0 ≤ m → m ≤ all.length →
      listed.toList = List.replicate m true ++ List.replicate (all.length - m) false → Rel D I0 st0 w0 I β env st a w → opsWp T C all Q r env st →
      ∀ fuel, all.length - m ≤ fuel → wpAny P .any all.toArray (liftQ D I0 st0 w0 Q) fuel listed a w
  | [], m, listed, I, β, env, st, a, w, hr, hk, hm, hl, h, k, fuel, hf => by
    have hm' : all.length ≤ m := by
      have := congrArg List.length hr
      simp at this
      omega
    have : Region.ready .any all.toArray listed = [] := by
      rw [List.eq_nil_iff_forall_not_mem]
      intro j hj
      obtain ⟨h1, o, h2, _⟩ := mem_ready.1 hj
      have hjl : j < all.length := by
        have := (Array.getElem?_eq_some_iff.1 h2).1
        simpa using this
      rw [flags_at hl (List.length_replicate ..), if_pos (by omega), List.getElem?_replicate, if_pos (by omega)] at h1
      cases h1
    exact wpAny_done this ⟨I, β, env, st, .normal, h, trivial, k⟩ fuel
  | o :: r, m, listed, I, β, env, st, a, w, hr, hk, hm, hl, h, k, fuel, hf => by
    have hmo : all[m]? = some o := by
      have := congrArg (·[0]?) hr
      simp at this
      exact this.symm
    have hml : m < all.length := (List.getElem?_eq_some_iff.1 hmo).1
    have hr' : r = all.drop (m + 1) := by
      have := congrArg (List.drop 1) hr
      simpa [Nat.add_comm] using this
    obtain ⟨fuel, rfl⟩ : ∃ n, fuel = n + 1 := ⟨fuel - 1, by omega⟩
    have hin : ∀ j, j < m → listed.getD j false = true := fun j hj => by
      rw [flags_at hl (List.length_replicate ..), if_pos hj, List.getElem?_replicate, if_pos hj]; rfl
    have hout : ∀ j, m ≤ j → listed.getD j false = false := fun j hj => by
      rw [flags_at hl (List.length_replicate ..), if_neg (by omega)]
      split <;> rfl
    have hmr : m ∈ Region.ready .any all.toArray listed := mem_ready.2 ⟨by rw [flags_at hl (List.length_replicate ..), if_neg (by omega), if_pos (by omega)], o, by simpa using hmo, fun e he hb => hin _ (DO.back m o hmo e he hb)⟩
    have hcl : Closed all listed := fun i p hp hi e he hb => by
      have hlt : i < m := by
        rcases Nat.lt_or_ge i m with h' | h'
        · exact h'
        · rw [hout i h'] at hi; cases hi
      have := DO.back i p hp e he hb
      exact hin _ (by omega)
    refine ⟨fun h0 => (by rw [h0] at hmr; cases hmr), fun i hi => ?_⟩
    have him : i = m := by
      obtain ⟨h1, p, h2, h3⟩ := mem_ready.1 hi
      have h2 : all[i]? = some p := by simpa using h2
      have hil := (List.getElem?_eq_some_iff.1 h2).1
      rcases Nat.lt_trichotomy i m with h' | h' | h'
      · rw [flags_at hl (List.length_replicate ..), if_pos h', List.getElem?_replicate, if_pos h'] at h1
        cases h1
      · exact h'
      · have := reaches_listed hcl (DO.tail i m (by omega) hil h') h2 h3
        rw [hout m (Nat.le_refl _)] at this
        cases this
    subst him
    have hl' : (listed.setIfInBounds i true).toList = List.replicate (i + 1) true ++ List.replicate (all.length - (i + 1)) false := by
      simp only [Array.toList_setIfInBounds, hl]
      rw [List.set_append_right _ _ (by simp)]
      have : all.length - i = (all.length - (i + 1)) + 1 := by omega
      rw [this, List.replicate_succ, List.length_replicate, Nat.sub_self, List.set_cons_zero, List.replicate_succ', List.append_assoc]
      rfl
    have next : ∀ {I β env st a w}, Rel D I0 st0 w0 I β env st a w → opsWp T C all Q r env st → wpAny P .any all.toArray (liftQ D I0 st0 w0 Q) fuel (listed.setIfInBounds i true) a w := fun h k =>
      tail_sound hT hC DO r (i + 1) _ _ _ _ _ _ _ hr' (by omega) hml hl' h k fuel (by omega)
    rw [opsWp_cons] at k
    have yes : opWp T C o env st (fun v env st => env.go o.dst v fun env => opsWp T C all Q r env st) Q → o.wp P a w (wpAny P .any all.toArray (liftQ D I0 st0 w0 Q) fuel (listed.setIfInBounds i true)) (liftQ D I0 st0 w0 Q) := by
      intro k
      refine op_sound hT hC (fun I β env st v c w h hv _ k => ?_) h k
      obtain ⟨env', h1, h2⟩ := env_go_sound h hv k
      exact next h1 h2
    have no : (env.go o.dst (.tup []) fun env => opsWp T C all Q r env st) → wpAny P .any all.toArray (liftQ D I0 st0 w0 Q) fuel (listed.setIfInBounds i true) (a.put o.dst undef) w := by
      intro k
      obtain ⟨env', h1, h2⟩ := env_go_sound h (c := undef) (RepT.of (v := .tup []) (by simp only [Rep]; exact ⟨[], rfl, by simp only [RepL]⟩)) k
      exact next h1 h2
    unfold wpOp
    have hi' : all.toArray[i]? = some o := by simpa using hmo
    simp only [hi']
    unfold guardWp at k
    cases hg : o.guard with
    | none =>
      rw [hg] at k
      rw [if_pos (by simp [Region.wanted, hg])]
      exact .inl (yes k)
    | some g =>
      obtain ⟨j, want⟩ := g
      rw [hg] at k
      simp only at k
      split at k
      · rename_i b hb
        have hy := yielded_eq h hb
        have hw : Region.wanted o (yielded all.toArray a.tmps) = (b == want) := by
          simp only [Region.wanted, hg, hy]
          cases b <;> cases want <;> rfl
        cases want <;> cases b <;> simp only [cond_true, cond_false, lit] at k
        · rw [if_pos (by rw [hw]; rfl)]; exact .inl (yes k)
        · rw [if_neg (by rw [hw]; simp)]; exact no k
        · rw [if_neg (by rw [hw]; simp)]; exact no k
        · rw [if_pos (by rw [hw]; rfl)]; exact .inl (yes k)
      · rename_i hb
        have hy := yielded_und h hb
        rw [if_neg (by simp only [Region.wanted, hg, hy]; cases want <;> simp)]
        exact no k
      · exact k.elim

theorem head_sound (hT : TOk P T) (hC : ∀ f args st R, C f args st R → ACalls P f args st R ∧ Plain P f) (hM : ∀ f args st (R R' : Res → St → Prop), (∀ r s, R r s → R' r s) → C f args st R → C f args st R')
    {k0 : Nat} {all : List Oper} (DO : DrawOK k0 all) {Q : AExit → Env → St → Prop} {eh : Env} {L : List (Option Nat)} {vs : List V} {xs : List (Option (Nat × List V))} (hv : vs.length = k0) (hx : xs.length = k0) (hkl : k0 ≤ all.length)
    (hid : ∀ (i : Nat) (p : Nat × List V), xs[i]? = some (some p) → p.1 = env.nxt + i ∨ (L[i]? = some (some p.1) ∧ p.1 < env.nxt)) (hU : BoxOne xs) (hbn : ∀ id cs, assoc env.boxes id = some cs → id < env.nxt) (hhk : ∀ (i : Nat) (o : Oper), i < k0 → all[i]? = some o → headK eh all o = true)
    (hf : ∀ (i : Nat) (o : Oper) (v : V) (x : Option (Nat × List V)), i < k0 → all[i]? = some o → vs[i]? = some v → xs[i]? = some x → HF T C all env.boxes (dropIds L env.boxes) st o (hEnv env (env.nxt + i) all vs xs (List.replicate i true)) (env.nxt + i) v x)
    (ht : ∀ (i : Nat) (o : Oper) (t : Nat), i < k0 → all[i]? = some o → o.dst = some t → t < env.sz)
    (hQ : opsWp T C all Q (all.drop (k0)) (hEnv env (env.nxt + k0) all vs xs (List.replicate (k0) true)) st) :
    ∀ (fuel : Nat) (bs : List Bool) (listed : Array Bool) (I : Mem) (β : Nat → Option Nat) (a : Act) (w : World), bs.length = k0 → listed.toList = bs ++ List.replicate (all.length - k0) false →
      bs.count false + (all.length - k0) ≤ fuel → Closed all listed → (∀ j : Nat, bs[j]? = some false → β (env.nxt + j) = none) →
      Rel D I0 st0 w0 I β (hEnv env (env.nxt + k0) all vs xs bs) st a w → wpAny P .any all.toArray (liftQ D I0 st0 w0 Q) fuel listed a w := by
  have hv' : vs.length = (all.take (k0)).length := by rw [List.length_take, hv]; omega
  have agreeT : ∀ {ts : List (Nat × V)} {bs bs' : List Bool} {t : Nat}, (∀ (j : Nat) (o : Oper), j < k0 → all[j]? = some o → o.dst = some t → (bs[j]? = some true ↔ bs'[j]? = some true)) →
      assoc (putT ts all vs bs) t = assoc (putT ts all vs bs') t := by
    intro ts bs bs' t hh
    rw [putT_take (l := all) (bs := bs), putT_take (l := all) (bs := bs'), hv]
    exact putT_agree DO.dst hv' fun j o hj => by obtain ⟨h1, h2⟩ := take_get hj; exact hh j o h1 h2
  intro fuel
  induction fuel with
  | zero =>
    intro bs listed I β a w hbl hl hfu hcl hβ hr
    have hbs : bs = List.replicate (k0) true := by
      rw [List.eq_replicate_iff]
      refine ⟨hbl, fun b hb => ?_⟩
      cases b with
      | true => rfl
      | false => have := List.count_pos_iff.2 hb; omega
    subst hbs
    exact tail_sound hT hC DO _ _ _ _ _ _ _ _ _ rfl (Nat.le_refl _) hkl hl hr hQ 0 (by omega)
  | succ fuel ih =>
    intro bs listed I β a w hbl hl hfu hcl hβ hr
    by_cases hc : bs.count false = 0
    · have hbs : bs = List.replicate (k0) true := by
        rw [List.eq_replicate_iff]
        refine ⟨hbl, fun b hb => ?_⟩
        cases b with
        | true => rfl
        | false => have := List.count_pos_iff.2 hb; omega
      subst hbs
      exact tail_sound hT hC DO _ _ _ _ _ _ _ _ _ rfl (Nat.le_refl _) hkl hl hr hQ _ (by omega)
    · have hin : ∀ j : Nat, listed.getD j false = true → j < k0 ∧ bs[j]? = some true := by
        intro j hj
        rw [flags_at hl hbl] at hj
        split at hj
        · rename_i hlt
          refine ⟨hlt, ?_⟩
          rw [List.getElem?_eq_getElem (by omega)] at hj ⊢
          exact congrArg some hj
        · split at hj <;> cases hj
      have hex : ∃ j : Nat, bs[j]? = some false := by
        have : false ∈ bs := List.count_pos_iff.1 (by omega)
        obtain ⟨j, hj, e⟩ := List.mem_iff_getElem.1 this
        exact ⟨j, by rw [List.getElem?_eq_getElem hj, e]⟩
      have hmin : ∃ j : Nat, bs[j]? = some false ∧ ∀ i : Nat, i < j → bs[i]? = some true := by
        obtain ⟨j, hj⟩ := hex
        induction j using Nat.strongRecOn with
        | _ j ih =>
          by_cases hall : ∀ i : Nat, i < j → bs[i]? = some true
          · exact ⟨j, hj, hall⟩
          · have : ∃ i : Nat, i < j ∧ bs[i]? ≠ some true := by
              apply Classical.byContradiction
              intro hne
              exact hall fun i hi => Classical.byContradiction fun h2 => hne ⟨i, hi, h2⟩
            obtain ⟨i, hi, hne⟩ := this
            have hjl : j < bs.length := (List.getElem?_eq_some_iff.1 hj).1
            refine ih i hi ?_
            rw [List.getElem?_eq_getElem (by omega)] at hne ⊢
            cases hbi : bs[i]
            · rfl
            · rw [hbi] at hne; exact absurd rfl hne
      obtain ⟨m, hm, hmb⟩ := hmin
      have hmk : m < k0 := by rw [← hbl]; exact (List.getElem?_eq_some_iff.1 hm).1
      have hready : Region.ready .any all.toArray listed ≠ [] := by
        intro h0
        have : m ∈ Region.ready .any all.toArray listed := mem_ready.2 ⟨by rw [flags_at hl hbl, if_pos hmk, hm]; rfl, all[m], by simp, fun e he hb => by
          have hlt := DO.back m all[m] (by simp) e he hb
          rw [flags_at hl hbl, if_pos (by omega), hmb _ hlt]; rfl⟩
        rw [h0] at this; cases this
      refine ⟨fun h0 => absurd h0 hready, fun i hi => ?_⟩
      obtain ⟨h1, o, h2, h3⟩ := mem_ready.1 hi
      have h2' : all[i]? = some o := by simpa using h2
      have hil : i < all.length := (List.getElem?_eq_some_iff.1 h2').1
      have hik : i < k0 := by
        rcases Nat.lt_or_ge i (k0) with h' | h'
        · exact h'
        · have := reaches_listed hcl (DO.tail i m h' hil (by omega)) h2' h3
          have := (hin m this).2
          rw [hm] at this; cases this
      have hbi : bs[i]? = some false := by
        rw [flags_at hl hbl, if_pos hik] at h1
        rw [List.getElem?_eq_getElem (by omega)] at h1 ⊢
        exact congrArg some h1
      obtain ⟨v, hvi⟩ : ∃ v, vs[i]? = some v := ⟨_, List.getElem?_eq_getElem (hv ▸ hik)⟩
      obtain ⟨x, hxi⟩ : ∃ x, xs[i]? = some x := ⟨_, List.getElem?_eq_getElem (hx ▸ hik)⟩
      have agree : ∀ t ∈ Oper.slots all o, assoc (putT env.tmps all vs (List.replicate i true)) t = assoc (putT env.tmps all vs bs) t := by
        intro t ht
        refine agreeT fun j p hjk hp hd => ?_
        rw [rep_true]
        rcases Nat.lt_trichotomy j i with hji | rfl | hij
        · have := reaches_listed hcl (DO.lo i j o p t hik hjk h2' hp hd ht hji) h2' h3
          exact ⟨fun _ => (hin j this).2, fun _ => hji⟩
        · rw [hbi]
          exact ⟨fun x => absurd x (Nat.lt_irrefl _), fun x => by cases x⟩
        · refine ⟨fun x => by omega, fun x => ?_⟩
          have hjl : listed.getD j false = true := by rw [flags_at hl hbl, if_pos hjk, x]; rfl
          have := reaches_listed hcl (DO.hi i j o p t hik hjk h2' hp hd ht hij) hp (hcl j p hp hjl)
          have := (hin i this).2
          rw [hbi] at this
          cases this
      refine head_step hT hC hM h2' (hhk i o hik h2') hr agree (fun id cs hd => ?_) (fun id cs' hxe hne cs hcs => ?_) (fun id cs hcs => ?_) (hf i o _ _ hik h2' hvi hxi) (hβ i hbi) (by show env.nxt + i < env.nxt + k0; omega) Q fun I' β' c a' w' ha hr' hrep hβ' => ?_
      · obtain ⟨d1, d2⟩ := dropIds_at hd
        have hlt := hbn id cs d1
        show assoc (putB xs bs env.boxes) id = some cs
        rw [putB_out fun j p hj _ e => ?_]
        · exact d1
        · rcases hid j p hj with g | ⟨g, _⟩
          · omega
          · rw [e] at g; exact d2 (List.mem_of_getElem? g)
      · show assoc (putB xs bs env.boxes) id = some cs
        subst hxe
        rw [putB_out fun j p hj hbj e => ?_]
        · exact hcs
        · by_cases hji : j = i
          · subst hji; rw [hbi] at hbj; cases hbj
          · exact hU j i p (id, cs') hj hxi hji e
      · have := hbn id cs hcs; omega
      · subst ha
        have hbil : i < bs.length := by omega
        have hput : Rel D I0 st0 w0 I' β' { hEnv env (env.nxt + k0) all vs xs bs with boxes := bxT (putB xs bs env.boxes) x, tmps := wrT (putT env.tmps all vs bs) o.dst v } st (a.put o.dst c) w' := by
          cases hd : o.dst with
          | none => exact hr'
          | some t => exact hr'.put hrep (ht i o t hik h2' hd)
        refine ih (bs.set i true) _ I' β' _ w' (by simpa using hbl) ?_ ?_ ?_ ?_ (hput.same ⟨fun t => ?_, fun id => ?_, rfl, rfl⟩)
        · simp only [Array.toList_setIfInBounds, hl]
          rw [List.set_append_left _ _ hbil]
        · have := List.count_set (a := true) (i := i) (l := bs) (b := false) hbil
          have hbi' := hbi
          rw [List.getElem?_eq_getElem hbil] at hbi'
          injection hbi' with hbi'
          rw [hbi'] at this
          simp only [beq_self_eq_true, if_true, show (true == false) = false from rfl, Bool.false_eq_true, if_false] at this
          omega
        · intro j p hp hj e he hb
          by_cases hij : i = j
          · subst hij
            rw [h2'] at hp
            cases hp
            exact getD_set_true (h3 e he hb)
          · refine getD_set_true (hcl j p hp ?_ e he hb)
            rwa [getD_set_ne false hij] at hj
        · intro j hj
          by_cases hij : i = j
          · subst hij
            rw [List.getElem?_set_self hbil] at hj
            cases hj
          · rw [List.getElem?_set_ne hij] at hj
            have hjl : j < bs.length := (List.getElem?_eq_some_iff.1 hj).1
            rw [hβ' (env.nxt + j) (by show env.nxt + j < env.nxt + k0; omega) (by omega)]
            exact hβ j hj
        · show assoc (wrT (putT env.tmps all vs bs) o.dst v) t = assoc (putT env.tmps all vs (bs.set i true)) t
          rw [assoc_wrT]
          split
          · rename_i hd
            rw [putT_take (l := all) (bs := bs.set i true), hv]
            refine (putT_in (j := i) (o := o) ?_ hvi (by rw [List.getElem?_set_self hbil]) hd fun k p hk hp => DO.dst k i p o t hp ?_ hk hd).symm
            · rw [List.getElem?_take, if_pos hik]; exact h2'
            · rw [List.getElem?_take, if_pos hik]; exact h2'
          · rename_i hd
            refine agreeT fun j p hjk hp hdp => ?_
            by_cases hij : i = j
            · subst hij
              rw [h2'] at hp
              cases hp
              exact absurd hdp hd
            · rw [List.getElem?_set_ne hij]
        · show assoc (bxT (putB xs bs env.boxes) x) id = assoc (putB xs (bs.set i true) env.boxes) id
          rw [assoc_bxT]
          have ag : ∀ id', (∀ p, x = some p → p.1 ≠ id') → assoc (putB xs bs env.boxes) id' = assoc (putB xs (bs.set i true) env.boxes) id' := fun id' hne => by
            refine putB_agree hU fun j p hj hp => ?_
            by_cases hij : i = j
            · subst hij
              rw [hxi] at hj
              cases hj
              exact absurd hp (hne p rfl)
            · rw [List.getElem?_set_ne hij]
          cases x with
          | none => exact ag id fun p e => by cases e
          | some p =>
            obtain ⟨i', cs⟩ := p
            show (if i' = id then some cs else assoc (putB xs bs env.boxes) id) = _
            by_cases he : i' = id
            · subst he
              rw [if_pos rfl, putB_in hxi (by rw [List.getElem?_set_self hbil]) fun k p hk hp => hU k i p (i', cs) hp hxi hk]
            · rw [if_neg he]
              exact ag id fun p e => by cases e; exact he

theorem headLen_le {e : Env} {all : List Oper} : ∀ {l : List Oper}, headLen e all l ≤ l.length
  | [] => Nat.le_refl _
  | o :: r => by
    rw [headLen]
    cases headK e all o with
    | true => simp only [cond_true, List.length_cons]; exact Nat.succ_le_succ headLen_le
    | false => simp
theorem headLen_kind {e : Env} {all : List Oper} : ∀ {l : List Oper} {i : Nat} {o : Oper}, i < headLen e all l → l[i]? = some o → headK e all o = true
  | [], i, o, h, q => by cases q
  | p :: r, i, o, h, q => by
    rw [headLen] at h
    cases hk : headK e all p with
    | false => rw [hk] at h; simp at h
    | true =>
      rw [hk] at h
      cases i with
      | zero => simp at q; subst q; exact hk
      | succ i => exact headLen_kind (by simpa using h) (by simpa using q)
/-- the box of an operation has its number from the text, or it is the one that the store names -/
theorem hf_id {all : List Oper} {b1 b0 : List (Nat × List V)} {o : Oper} {E : Env} {n : Nat} {v : V} {p : Nat × List V} (h : HF T C all b1 b0 st o E n v (some p)) :
    p.1 = n ∨ ∃ t q y off cs, o.op = .store t q y ∧ E.eval q = .lptr p.1 off ∧ assoc b1 p.1 = some cs := by
  rcases guard_split h with ⟨h, _⟩ | ⟨⟨_, h⟩, _⟩
  · unfold HY at h
    split at h
    · obtain ⟨_, _, _, e⟩ := h; cases e; exact .inl rfl
    · obtain ⟨_, _, e⟩ := h; cases e; exact .inl rfl
    · rename_i ho
      obtain ⟨id, off, cs, ty, cs', h1, h2, _, _, _, _, _, e⟩ := h
      cases e
      exact .inr ⟨_, _, _, off, cs, ho, h1, h2⟩
    · cases h.2
  · cases h

theorem draw_sound (hT : TOk P T) (hC : ∀ f args st R, C f args st R → ACalls P f args st R ∧ Plain P f) (hM : ∀ f args st (R R' : Res → St → Prop), (∀ r s, R r s → R' r s) → C f args st R → C f args st R')
    {all : List Oper} {Q : AExit → Env → St → Prop} (hd : (drawOK (headLen env all all) all && nodupO (headIds env all all)) = true)
    (h : headWp T C all Q env env.boxes (dropIds (headIds env all all) env.boxes) all env st) (hr : Rel D I0 st0 w0 I β env st a w) :
    wpAny P .any all.toArray (liftQ D I0 st0 w0 Q) all.toArray.size (Array.replicate all.toArray.size false) a { w with drawn := w.drawn + 1 } := by
  simp only [Bool.and_eq_true] at hd
  have DO := DrawOK.of hd.1
  obtain ⟨vs, xs, h1, h2, h3, h4, h5⟩ := head_out h
  have hr := hr.grew (Grew.drew w)
  have hfl : ∀ j, (Array.replicate all.toArray.size false).getD j false = false := fun j => by
    rw [getD_list]; simp only [Array.toList_replicate, List.getElem?_replicate]; split <;> rfl
  have hbn : ∀ id cs, assoc env.boxes id = some cs → id < env.nxt := fun id cs e => by
    obtain ⟨b, _, _, hb, _⟩ := hr.f.box id cs e
    exact hr.f.nxt id b hb
  have hid : ∀ (i : Nat) (p : Nat × List V), xs[i]? = some (some p) → p.1 = env.nxt + i ∨ ((headIds env all all)[i]? = some (some p.1) ∧ p.1 < env.nxt) := by
    intro i p hp
    have hi : i < headLen env all all := by rw [← h2]; exact (List.getElem?_eq_some_iff.1 hp).1
    have hia : i < all.length := Nat.lt_of_lt_of_le hi headLen_le
    have ho : all[i]? = some all[i] := List.getElem?_eq_getElem hia
    have hvi : vs[i]? = some (vs[i]'(by omega)) := List.getElem?_eq_getElem (by omega)
    rcases hf_id (h3 i _ _ _ hi ho hvi hp) with e | ⟨t, q, y, off, cs, e1, e2, e3⟩
    · exact .inl e
    · right
      refine ⟨?_, hbn _ _ e3⟩
      rw [headIds_at hi ho]
      have hk := headLen_kind hi ho
      unfold headK at hk
      rw [e1] at hk
      cases q with
      | tmp x =>
        simp only [Bool.and_eq_true, Bool.not_eq_true', List.any_eq_false, beq_iff_eq] at hk
        have hx : assoc (putT env.tmps all vs (List.replicate i true)) x = assoc env.tmps x := putT_out fun j o' hj _ e => hk.1 o' (List.mem_of_getElem? hj) e
        have e2 : env.eval (.tmp x) = .lptr p.1 off := by
          have e2' : Env.get (hEnv env (env.nxt + i) all vs xs (List.replicate i true)) x = .lptr p.1 off := e2
          unfold Env.get hEnv at e2'
          simp only [hx] at e2'
          exact e2'
        unfold sid
        rw [e1]
        simp only [e2]
      | _ => cases hk
  have hU : BoxOne xs := by
    intro i j p q hp hq hij e
    rcases hid i p hp with g1 | ⟨g1, l1⟩ <;> rcases hid j q hq with g2 | ⟨g2, l2⟩
    · omega
    · omega
    · omega
    · rw [← e] at g2; exact hij (nodupO_spec hd.2 g1 g2)
  refine head_sound (env := env) (eh := env) (L := headIds env all all) (bs := List.replicate (headLen env all all) false) hT hC hM DO h1 h2 headLen_le hid hU hbn (fun i o hi ho => headLen_kind hi ho) h3 h4 h5 _ _ _ β _ _ (by simp) ?_ (by have := headLen_le (e := env) (all := all) (l := all); simp; omega) (fun i o ho hi => ?_) (fun j hj => ?_)
    ((hr.nxtUp (n := env.nxt + headLen env all all) (Nat.le_add_right _ _)).same ⟨fun t => ?_, fun id => ?_, rfl, rfl⟩)
  · have := headLen_le (e := env) (all := all) (l := all)
    rw [List.replicate_append_replicate]
    simp
    congr 1
    omega
  · rw [hfl] at hi; cases hi
  · cases hb : β (env.nxt + j) with
    | none => rfl
    | some b => have := hr.f.nxt _ b hb; omega
  · refine (putT_out fun j o ho hb => ?_).symm
    rw [List.getElem?_replicate] at hb
    split at hb <;> cases hb
  · refine (putB_out fun j p hp hb => ?_).symm
    rw [List.getElem?_replicate] at hb
    split at hb <;> cases hb
end
end Go.Aw
