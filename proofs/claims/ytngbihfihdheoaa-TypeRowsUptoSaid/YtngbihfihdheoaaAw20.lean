/-
  AW, PART 20. A region whose order is open, told in one order: those operations that only look come as early as may be, the others in a chain.
-/
import Derived.Test.YtngbihfihdheoaaAw16
set_option linter.unusedVariables false
set_option linter.unusedSimpArgs false
namespace Go.Aw
open Go

section
variable {D : List Deferred} {P : Program} {T : List (Nat × Ty)} {C : FuncId → List V → St → (Res → St → Prop) → Prop} {I0 I : Mem} {st0 st : St} {w0 w : World} {β : Nat → Option Nat} {env : Env} {a : Act}

/-- one operation, whatever comes behind it -/
theorem wpOp_sound (hT : TOk P T) (hC : ∀ f args st R, C f args st R → ACalls P f args st R ∧ Plain P f) {all : List Oper} {i : Nat} {o : Oper} (hi : all[i]? = some o) {K : Env → St → Prop} {Q : AExit → Env → St → Prop} {next : Act → World → Prop}
    (hn : ∀ {I β env st a w}, Rel D I0 st0 w0 I β env st a w → K env st → next a w) (h : Rel D I0 st0 w0 I β env st a w)
    (k : guardWp all o env (opWp T C o env st (fun v env st => env.go o.dst v fun env => K env st) Q) (env.go o.dst (.tup []) fun env => K env st)) :
    wpOp P all.toArray (liftQ D I0 st0 w0 Q) i next a w := by
  have yes : opWp T C o env st (fun v env st => env.go o.dst v fun env => K env st) Q → o.wp P a w next (liftQ D I0 st0 w0 Q) := by
    intro k
    refine op_sound hT hC (fun I β env st v c w h hv _ k => ?_) h k
    obtain ⟨env', h1, h2⟩ := env_go_sound h hv k
    exact hn h1 h2
  have no : (env.go o.dst (.tup []) fun env => K env st) → next (a.put o.dst undef) w := by
    intro k
    obtain ⟨env', h1, h2⟩ := env_go_sound h (c := undef) (RepT.of (v := .tup []) (by simp only [Rep]; exact ⟨[], rfl, by simp only [RepL]⟩)) k
    exact hn h1 h2
  unfold wpOp
  have hi' : all.toArray[i]? = some o := by simpa using hi
  simp only [hi']
  unfold guardWp at k
  cases hg : o.guard with
  | none =>
    rw [hg] at k
    rw [if_pos (by simp [Region.wanted, hg])]
    exact .inl (yes k)
  | some g =>
    obtain ⟨j, want⟩ := g
    rw [hg] at k
    simp only at k
    split at k
    · rename_i b hb
      have hy := yielded_eq h hb
      have hw : Region.wanted o (yielded all.toArray a.tmps) = (b == want) := by
        simp only [Region.wanted, hg, hy]
        cases b <;> cases want <;> rfl
      cases want <;> cases b <;> simp only [cond_true, cond_false, lit] at k
      · rw [if_pos (by rw [hw]; rfl)]; exact .inl (yes k)
      · rw [if_neg (by rw [hw]; simp)]; exact no k
      · rw [if_neg (by rw [hw]; simp)]; exact no k
      · rw [if_pos (by rw [hw]; rfl)]; exact .inl (yes k)
    · rename_i hb
      have hy := yielded_und h hb
      rw [if_neg (by simp only [Region.wanted, hg, hy]; cases want <;> simp)]
      exact no k
    · exact k.elim

/-- may an operation come up now? -/
def readyL (all : List Oper) (bs : List Bool) (i : Nat) : Bool :=
  !(bs.getD i true) && (match all[i]? with | some o => o.after.toList.all (fun e => !(Region.binds .any e) || bs.getD e.on false) | none => false)
theorem ready_iff {all : List Oper} {bs : List Bool} {listed : Array Bool} (hl : listed.toList = bs) (hb : bs.length = all.length) {i : Nat} : i ∈ Region.ready .any all.toArray listed ↔ i < all.length ∧ readyL all bs i = true := by
  have hget : ∀ j d, listed.getD j d = bs.getD j d := fun j d => by rw [getD_list, hl, List.getD_eq_getElem?_getD]
  rw [mem_ready]
  unfold readyL
  simp only [hget, Bool.and_eq_true, Bool.not_eq_true']
  constructor
  · rintro ⟨h1, o, h2, h3⟩
    have h2 : all[i]? = some o := by simpa using h2
    refine ⟨(List.getElem?_eq_some_iff.1 h2).1, h1, ?_⟩
    rw [h2]
    simp only [List.all_eq_true]
    intro e he
    cases hb : Region.binds .any e with
    | false => rfl
    | true =>
      have := h3 e (by simpa using he) hb
      rw [this]; rfl
  · rintro ⟨h0, h1, h2⟩
    refine ⟨h1, ?_⟩
    cases ho : all[i]? with
    | none => rw [ho] at h2; cases h2
    | some o =>
      rw [ho] at h2
      refine ⟨o, by simpa using ho, fun e he hb => ?_⟩
      simp only [List.all_eq_true] at h2
      have := h2 e (by simpa using he)
      rw [hb] at this
      simpa using this


/-- the same of states that an invariant tells of -/
theorem any_inv (hT : TOk P T) (hC : ∀ f args st R, C f args st R → ACalls P f args st R ∧ Plain P f) {all : List Oper} {Q : AExit → Env → St → Prop} {Inv : List Bool → Env → St → Prop}
    (step : ∀ (bs : List Bool) (env : Env) (st : St) (i : Nat) (o : Oper), bs.length = all.length → Inv bs env st → all[i]? = some o → readyL all bs i = true →
      guardWp all o env (opWp T C o env st (fun v env' st' => env'.go o.dst v fun env'' => Inv (bs.set i true) env'' st') Q) (env.go o.dst (.tup []) fun env' => Inv (bs.set i true) env' st))
    (live : ∀ (bs : List Bool) (env : Env) (st : St), bs.length = all.length → Inv bs env st → bs = List.replicate all.length true ∨ ∃ j, j < all.length ∧ readyL all bs j = true)
    (fin : ∀ (env : Env) (st : St), Inv (List.replicate all.length true) env st → ∃ env', env.eqv env' ∧ Q .normal env' st) :
    ∀ (fuel : Nat) (bs : List Bool) (listed : Array Bool) (I : Mem) (β : Nat → Option Nat) (env : Env) (st : St) (a : Act) (w : World), bs.length = all.length → listed.toList = bs → bs.count false ≤ fuel →
      Inv bs env st → Rel D I0 st0 w0 I β env st a w → wpAny P .any all.toArray (liftQ D I0 st0 w0 Q) fuel listed a w := by
  have full : ∀ {bs : List Bool}, bs.length = all.length → bs.count false = 0 → bs = List.replicate all.length true := fun {bs} hb h0 => by
    rw [List.eq_replicate_iff]
    refine ⟨hb, fun b hb => ?_⟩
    cases b with
    | true => rfl
    | false => have := List.count_pos_iff.2 hb; omega
  have noready : ∀ {j : Nat}, readyL all (List.replicate all.length true) j = true → j < all.length → False := fun {j} h hj => by
    unfold readyL at h
    simp only [Bool.and_eq_true, Bool.not_eq_true'] at h
    have := h.1
    rw [List.getD_eq_getElem?_getD, List.getElem?_replicate, if_pos hj] at this
    cases this
  have done : ∀ {I β env st a w}, Inv (List.replicate all.length true) env st → Rel D I0 st0 w0 I β env st a w → liftQ D I0 st0 w0 Q .normal a w := fun hi h => by
    obtain ⟨env', h1, h2⟩ := fin _ _ hi
    exact ⟨_, _, env', _, .normal, h.same h1, trivial, h2⟩
  intro fuel
  induction fuel with
  | zero =>
    intro bs listed I β env st a w hb hl hf hi h
    have := full hb (by omega)
    subst this
    refine ⟨?_, done hi h⟩
    rw [List.eq_nil_iff_forall_not_mem]
    intro j hj
    obtain ⟨h1, h2⟩ := (ready_iff hl hb).1 hj
    exact noready h2 h1
  | succ fuel ih =>
    intro bs listed I β env st a w hb hl hf hinv h
    refine ⟨fun h0 => ?_, fun i hi => ?_⟩
    · rcases live bs env st hb hinv with rfl | ⟨j, h1, h2⟩
      · exact done hinv h
      · have := (ready_iff hl hb).2 ⟨h1, h2⟩
        rw [h0] at this; cases this
    · obtain ⟨h1, h2⟩ := (ready_iff hl hb).1 hi
      have ho : all[i]? = some all[i] := List.getElem?_eq_getElem h1
      refine wpOp_sound hT hC (Q := Q) ho (fun {I β env st a w} h k => ?_) h (step bs env st i _ hb hinv ho h2) (K := fun env st => Inv (bs.set i true) env st)
      have hbi : i < bs.length := by omega
      refine ih (bs.set i true) _ I β env st a w (by simpa using hb) (by simp [hl]) ?_ k h
      have := List.count_set (a := true) (i := i) (l := bs) (b := false) hbi
      unfold readyL at h2
      simp only [Bool.and_eq_true, Bool.not_eq_true'] at h2
      have hbi' := h2.1
      rw [List.getD_eq_getElem?_getD, List.getElem?_eq_getElem hbi] at hbi'
      simp only [Option.getD_some] at hbi'
      rw [hbi'] at this
      have hpos : 0 < bs.count false := List.count_pos_iff.2 (by rw [← hbi']; exact List.getElem_mem hbi)
      simp only [beq_self_eq_true, if_true, show (true == false) = false from rfl, Bool.false_eq_true, if_false] at this
      omega

/-- who writes a slot -/
def writer (all : List Oper) (t : Nat) : Option Nat := (List.range all.length).find? fun j => match all[j]? with | some o => o.dst == some t | none => false
theorem writer_some {all : List Oper} {t j : Nat} (h : writer all t = some j) : ∃ o, all[j]? = some o ∧ o.dst = some t := by
  have := List.find?_some h
  split at this
  · rename_i o ho; exact ⟨o, ho, by simpa using this⟩
  · cases this
theorem writer_none {all : List Oper} {t : Nat} (h : writer all t = none) (j : Nat) (o : Oper) (ho : all[j]? = some o) : o.dst ≠ some t := by
  have := List.find?_eq_none.1 h j (List.mem_range.2 (List.getElem?_eq_some_iff.1 ho).1)
  rw [ho] at this
  simpa using this
theorem writer_of {all : List Oper} (U : DstOne all) {t j : Nat} {o : Oper} (ho : all[j]? = some o) (hd : o.dst = some t) : writer all t = some j := by
  cases h : writer all t with
  | none => exact absurd hd (writer_none h j o ho)
  | some k =>
    obtain ⟨p, h1, h2⟩ := writer_some h
    by_cases e : j = k
    · rw [e]
    · exact absurd hd (U j k o p t ho h1 e h2)
/-- a slot's value when some have run -/
noncomputable def slotV (all : List Oper) (ts : List (Nat × V)) (vs : Nat → V) (S : Nat → Bool) (t : Nat) : Option V := match writer all t with
  | some j => if S j = true then some (vs j) else assoc ts t
  | none => assoc ts t
theorem slotV_congr {all : List Oper} {ts : List (Nat × V)} {vs vs' : Nat → V} {S S' : Nat → Bool} {t : Nat} (h : ∀ j o, all[j]? = some o → o.dst = some t → S j = S' j ∧ (S j = true → vs j = vs' j)) : slotV all ts vs S t = slotV all ts vs' S' t := by
  unfold slotV
  cases hw : writer all t with
  | none => rfl
  | some j =>
    obtain ⟨o, h1, h2⟩ := writer_some hw
    obtain ⟨h3, h4⟩ := h j o h1 h2
    dsimp only
    rw [← h3]
    split
    · rename_i e; rw [h4 e]
    · rfl
def upd (vs : Nat → V) (i : Nat) (v : V) : Nat → V := fun j => if j = i then v else vs j
/-- one more has run -/
theorem slotV_set {all : List Oper} (U : DstOne all) {ts : List (Nat × V)} {vs : Nat → V} {S S' : Nat → Bool} {i : Nat} {o : Oper} {v : V} {l : List (Nat × V)} (ho : all[i]? = some o) (hl : ∀ t, assoc l t = slotV all ts vs S t) (hS : ∀ j, j ≠ i → S' j = S j) (hi : S' i = true) (t : Nat) :
    assoc (wrT l o.dst v) t = slotV all ts (upd vs i v) S' t := by
  rw [assoc_wrT]
  split
  · rename_i hd
    unfold slotV
    rw [writer_of U ho hd]
    simp [hi, upd]
  · rename_i hd
    rw [hl]
    refine slotV_congr fun j p hp hpd => ?_
    have hne : j ≠ i := fun e => by subst e; rw [ho] at hp; cases hp; exact hd hpd
    exact ⟨(hS j hne).symm, fun _ => by simp [upd, hne]⟩

/-- what a schedule must meet -/
structure MixOK (all : List Oper) (sched : List (Nat × Bool)) : Prop where
  back : ∀ pre i q r o, sched = pre ++ (i, q) :: r → all[i]? = some o → ∀ e ∈ o.after, Region.binds .any e = true → e.on ∈ pre.map (·.1)
  kind : ∀ pre i q r, sched = pre ++ (i, q) :: r → ∃ o, all[i]? = some o ∧ (bif q then pureKind o.op else (quietKind o.op || isStore o.op)) = true
  nodup : ∀ pre i q r, sched = pre ++ (i, q) :: r → i ∉ pre.map (·.1)
  chain : ∀ pre i r, sched = pre ++ (i, false) :: r → ∀ x ∈ r, reaches all all.length x.1 i = true
  cover : ∀ i, i < all.length → i ∈ sched.map (·.1)
  dst : DstOne all
  lo : ∀ (i j : Nat) (o p : Oper) (t : Nat), all[i]? = some o → all[j]? = some p → p.dst = some t → t ∈ Oper.slots all o → j < i → reaches all all.length i j = true
  hi : ∀ (i j : Nat) (o p : Oper) (t : Nat), all[i]? = some o → all[j]? = some p → p.dst = some t → t ∈ Oper.slots all o → i < j → reaches all all.length j i = true
theorem mixGo_cons (all : List Oper) (p : Nat × Bool) (r : List (Nat × Bool)) (done : List Nat) : mixGo all (p :: r) done = ((match all[p.1]? with
    | some o => (o.after.toList.all fun e => !(Region.binds .any e) || done.contains e.on) && (bif p.2 then pureKind o.op else (quietKind o.op || isStore o.op))
    | none => false) && (!(done.contains p.1) && ((p.2 || r.all fun x => reaches all all.length x.1 p.1) && mixGo all r (p.1 :: done)))) := rfl
theorem mixGo_at {all : List Oper} : ∀ {l : List (Nat × Bool)} {done : List Nat}, mixGo all l done = true → ∀ pre i q r, l = pre ++ (i, q) :: r →
    ∃ o, all[i]? = some o ∧ (∀ e ∈ o.after, Region.binds .any e = true → e.on ∈ done ∨ e.on ∈ pre.map (·.1)) ∧ (bif q then pureKind o.op else (quietKind o.op || isStore o.op)) = true ∧ (i ∉ done ∧ i ∉ pre.map (·.1)) ∧ (q = true ∨ ∀ x ∈ r, reaches all all.length x.1 i = true)
  | [], _, _, pre, i, q, r, e => by cases pre <;> cases e
  | (k, b) :: l, done, h, pre, i, q, r, e => by
    rw [mixGo_cons] at h
    simp only [Bool.and_eq_true] at h
    obtain ⟨h1, h2, h3, h4⟩ := h
    cases pre with
    | nil =>
      simp only [List.nil_append, List.cons.injEq, Prod.mk.injEq] at e
      obtain ⟨⟨rfl, rfl⟩, rfl⟩ := e
      cases ho : all[k]? with
      | none => rw [ho] at h1; cases h1
      | some o =>
        rw [ho] at h1
        simp only [Bool.and_eq_true, List.all_eq_true] at h1
        refine ⟨o, rfl, fun x hx hb => .inl ?_, h1.2, ⟨by simpa using h2, by simp⟩, ?_⟩
        · have := h1.1 x (by simpa using hx)
          rw [hb] at this
          simpa using this
        · simp only [Bool.or_eq_true, List.all_eq_true] at h3
          exact h3
    | cons p pre =>
      simp only [List.cons_append, List.cons.injEq] at e
      obtain ⟨rfl, rfl⟩ := e
      obtain ⟨o, k1, k2, k3, ⟨k4, k5⟩, k6⟩ := mixGo_at h4 pre i q r rfl
      refine ⟨o, k1, fun x hx hb => ?_, k3, ⟨fun hm => k4 (List.mem_cons_of_mem _ hm), fun hm => ?_⟩, k6⟩
      · rcases k2 x hx hb with g | g
        · rcases List.mem_cons.1 g with g | g
          · exact .inr (by rw [g]; exact List.mem_cons_self)
          · exact .inl g
        · exact .inr (List.mem_cons_of_mem _ g)
      · rcases List.mem_cons.1 hm with g | g
        · exact k4 (by rw [g]; exact List.mem_cons_self)
        · exact k5 g
theorem MixOK.of {all : List Oper} {sched : List (Nat × Bool)} (h : mixOK sched all = true) : MixOK all sched := by
  unfold mixOK at h
  simp only [Bool.and_eq_true, List.all_eq_true, List.mem_range, List.any_eq_true] at h
  obtain ⟨h1, h2, h3⟩ := h
  have hat := mixGo_at h2
  have lt : ∀ {i : Nat} {o : Oper}, all[i]? = some o → i < all.length := fun e => (List.getElem?_eq_some_iff.1 e).1
  have pair : ∀ (i j : Nat) (o p : Oper), all[i]? = some o → all[j]? = some p → i ≠ j → pairOK all i j o p = true := by
    intro i j o p e1 e2 hij
    have := h3 i (lt e1) j (lt e2)
    rw [e1, e2] at this
    simp only [Bool.or_eq_true] at this
    rcases this with g | g
    · exact absurd (Nat.eq_of_beq_eq_true g) hij
    · exact g
  have edge : ∀ (i j : Nat) (o p : Oper) (t : Nat), all[i]? = some o → all[j]? = some p → i ≠ j → p.dst = some t → (o.dst ≠ some t) ∧ (t ∈ Oper.slots all o → (if Nat.blt j i then reaches all all.length i j else reaches all all.length j i) = true) := by
    intro i j o p t e1 e2 hij ht
    have := pair i j o p e1 e2 hij
    simp only [pairOK, ht, Bool.and_eq_true, Bool.or_eq_true, Bool.not_eq_true', beq_eq_false_iff_ne] at this
    refine ⟨this.1, fun hm => ?_⟩
    rcases this.2 with g | g
    · rw [List.contains_eq_mem, decide_eq_false_iff_not] at g
      exact absurd hm g
    · exact g
  have nod : ∀ pre i q r, sched = pre ++ (i, q) :: r → i ∉ pre.map (·.1) := fun pre i q r e => by
    obtain ⟨o, _, _, _, ⟨_, k5⟩, _⟩ := hat pre i q r e; exact k5
  refine ⟨fun pre i q r o e ho x hx hb => ?_, fun pre i q r e => ?_, nod, fun pre i r e x hx => ?_, fun i hi => ?_, fun i j o p t e1 e2 hij ht => (edge i j o p t e1 e2 hij ht).1, fun i j o p t e1 e2 ht hm hlt => ?_, fun i j o p t e1 e2 ht hm hlt => ?_⟩
  · obtain ⟨o', k1, k2, _⟩ := hat pre i q r e
    rw [ho] at k1
    cases k1
    rcases k2 x hx hb with g | g
    · cases g
    · exact g
  · obtain ⟨o, k1, _, k3, _⟩ := hat pre i q r e
    exact ⟨o, k1, k3⟩
  · obtain ⟨o, _, _, _, _, k6⟩ := hat pre i false r e
    rcases k6 with g | g
    · cases g
    · exact g x hx
  · obtain ⟨p, hp, hb⟩ := h1 i hi
    exact List.mem_map.2 ⟨p, hp, Nat.eq_of_beq_eq_true hb⟩
  · have := (edge i j o p t e1 e2 (by omega) ht).2 hm
    rw [if_pos (by rw [Nat.blt_eq]; exact hlt)] at this
    exact this
  · have := (edge i j o p t e1 e2 (by omega) ht).2 hm
    rw [if_neg (by rw [Nat.blt_eq]; omega)] at this
    exact this
/-- what is bound to come ahead stands ahead -/
theorem MixOK.ahead {all : List Oper} {sched : List (Nat × Bool)} (M : MixOK all sched) : ∀ (n : Nat) {i j : Nat}, reaches all n i j = true → ∀ pre q r, sched = pre ++ (i, q) :: r → j ∈ pre.map (·.1)
  | 0, i, j, h, pre, q, r, e => by cases h
  | n + 1, i, j, h, pre, q, r, e => by
    obtain ⟨o, ho, _⟩ := M.kind pre i q r e
    rw [reaches, ho] at h
    simp only [Bool.or_eq_true, List.any_eq_true, Bool.and_eq_true] at h
    rcases h with ⟨x, h1, h2, h3⟩ | ⟨x, h1, ⟨h2, h3⟩, h4⟩
    · have := Nat.eq_of_beq_eq_true h3
      subst this
      exact M.back pre i q r o e ho x (by simpa using h1) h2
    · have hm := M.back pre i q r o e ho x (by simpa using h1) h2
      obtain ⟨p, hp, hpe⟩ := List.mem_map.1 hm
      obtain ⟨pre1, r1, e1⟩ := List.append_of_mem hp
      have := M.ahead n h4 pre1 p.2 (r1 ++ (i, q) :: r) (by rw [e, e1, ← hpe]; simp)
      rw [e1, List.map_append]
      exact List.mem_append_left _ this
end
end Go.Aw
