/-
  AW, PART 17. A region whose order is open, all its states told one by one.
-/
import Derived.Test.YtngbihfihdheoaaAw11
set_option linter.unusedVariables false
set_option linter.unusedSimpArgs false
namespace Go.Aw
open Go

section
variable {D : List Deferred} {P : Program} {T : List (Nat × Ty)} {C : FuncId → List V → St → (Res → St → Prop) → Prop} {I0 I : Mem} {st0 st : St} {w0 w : World} {β : Nat → Option Nat} {env : Env} {a : Act}

/-- do the pairs of a state and an operation that may come up there tell all? -/
def closedP (all : List Oper) (PL : List (List Bool × Nat)) : Bool :=
  ((List.range all.length).all fun j => !(readyL all (List.replicate all.length false) j) || PL.contains (List.replicate all.length false, j)) &&
  ((List.replicate all.length false == List.replicate all.length true) || (List.range all.length).any fun j => readyL all (List.replicate all.length false) j) &&
  PL.all fun p => (p.1.length == all.length) && ((List.range all.length).all fun j => !(readyL all (p.1.set p.2 true) j) || PL.contains (p.1.set p.2 true, j)) &&
    ((p.1.set p.2 true == List.replicate all.length true) || (List.range all.length).any fun j => readyL all (p.1.set p.2 true) j)

def stepP (T : List (Nat × Ty)) (C : FuncId → List V → St → (Res → St → Prop) → Prop) (all : List Oper) (Q : AExit → Env → St → Prop) (E : List Bool → Env) (S : List Bool → St) (p : List Bool × Nat) : Prop :=
  match all[p.2]? with
  | some o => guardWp all o (E p.1) (opWp T C o (E p.1) (S p.1) (fun v env st => env.go o.dst v fun env => (E (p.1.set p.2 true)).leC env ∧ St.le (S (p.1.set p.2 true)) st) Q)
      ((E p.1).go o.dst (.tup []) fun env => (E (p.1.set p.2 true)).leC env ∧ St.le (S (p.1.set p.2 true)) (S p.1))
  | none => True

theorem any_sound (hT : TOk P T) (hC : ∀ f args st R, C f args st R → ACalls P f args st R ∧ Plain P f) {all : List Oper} {Q : AExit → Env → St → Prop} {E : List Bool → Env} {S : List Bool → St} {PL : List (List Bool × Nat)}
    (hc : closedP all PL = true) (step : ∀ p ∈ PL, stepP T C all Q E S p) (fin : Q .normal (E (List.replicate all.length true)) (S (List.replicate all.length true))) :
    ∀ (fuel : Nat) (bs : List Bool) (listed : Array Bool) (I : Mem) (β : Nat → Option Nat) (a : Act) (w : World), bs.length = all.length → listed.toList = bs → bs.count false ≤ fuel →
      (∀ j, j < all.length → readyL all bs j = true → (bs, j) ∈ PL) → (bs = List.replicate all.length true ∨ ∃ j, j < all.length ∧ readyL all bs j = true) →
      Rel D I0 st0 w0 I β (E bs) (S bs) a w → wpAny P .any all.toArray (liftQ D I0 st0 w0 Q) fuel listed a w := by
  have full : ∀ {bs : List Bool}, bs.length = all.length → bs.count false = 0 → bs = List.replicate all.length true := fun {bs} hb h0 => by
    rw [List.eq_replicate_iff]
    refine ⟨hb, fun b hb => ?_⟩
    cases b with
    | true => rfl
    | false => have := List.count_pos_iff.2 hb; omega
  have noready : ∀ {j : Nat}, readyL all (List.replicate all.length true) j = true → j < all.length → False := fun {j} h hj => by
    unfold readyL at h
    simp only [Bool.and_eq_true, Bool.not_eq_true'] at h
    have := h.1
    rw [List.getD_eq_getElem?_getD, List.getElem?_replicate, if_pos hj] at this
    cases this
  simp only [closedP, Bool.and_eq_true, List.all_eq_true] at hc
  intro fuel
  induction fuel with
  | zero =>
    intro bs listed I β a w hb hl hf hp hr h
    have := full hb (by omega)
    subst this
    refine ⟨?_, ⟨I, β, _, _, .normal, h, trivial, fin⟩⟩
    rw [List.eq_nil_iff_forall_not_mem]
    intro j hj
    obtain ⟨h1, h2⟩ := (ready_iff hl hb).1 hj
    exact noready h2 h1
  | succ fuel ih =>
    intro bs listed I β a w hb hl hf hp hr h
    refine ⟨fun h0 => ?_, fun i hi => ?_⟩
    · rcases hr with rfl | ⟨j, h1, h2⟩
      · exact ⟨I, β, _, _, .normal, h, trivial, fin⟩
      · have := (ready_iff hl hb).2 ⟨h1, h2⟩
        rw [h0] at this; cases this
    · obtain ⟨h1, h2⟩ := (ready_iff hl hb).1 hi
      have hm := hp i h1 h2
      have hs := step _ hm
      unfold stepP at hs
      have ho : all[i]? = some all[i] := List.getElem?_eq_getElem h1
      simp only [ho] at hs
      obtain ⟨⟨c1, c2⟩, c3⟩ := hc.2 _ hm
      refine wpOp_sound hT hC (Q := Q) ho (fun {I β env st a w} h k => ?_) h hs (K := fun env st => (E (bs.set i true)).leC env ∧ St.le (S (bs.set i true)) st)
      · have hbi : i < bs.length := by omega
        refine ih (bs.set i true) _ I _ a w (by simpa using hb) (by simp [hl]) ?_ (fun j hj hr => ?_) ?_ ((h.stLe k.2).envLe (Env.le_of k.1))
        · have := List.count_set (a := true) (i := i) (l := bs) (b := false) hbi
          unfold readyL at h2
          simp only [Bool.and_eq_true, Bool.not_eq_true'] at h2
          have hbi' := h2.1
          rw [List.getD_eq_getElem?_getD, List.getElem?_eq_getElem hbi] at hbi'
          simp only [Option.getD_some] at hbi'
          rw [hbi'] at this
          have hpos : 0 < bs.count false := List.count_pos_iff.2 (by rw [← hbi']; exact List.getElem_mem hbi)
          simp only [beq_self_eq_true, if_true, show (true == false) = false from rfl, Bool.false_eq_true, if_false] at this
          omega
        · have := c2 j (List.mem_range.2 hj)
          rw [hr] at this
          simpa using this
        · simp only [Bool.or_eq_true, beq_iff_eq, List.any_eq_true] at c3
          rcases c3 with c3 | ⟨j, hj, hr⟩
          · exact .inl c3
          · exact .inr ⟨j, List.mem_range.1 hj, hr⟩

/-- a region whose order is open -/
theorem aw_any (hP : POk P T) (hC : ∀ f args st R, C f args st R → ACalls P f args st R ∧ Plain P f) {id : Nat} {ops : Array Oper} {Q : AExit → Env → St → Prop} (E : List Bool → Env) (S : List Bool → St) (PL : List (List Bool × Nat))
    (hc : closedP ops.toList PL = true) (h0 : (E (List.replicate ops.toList.length false)).leC env) (s0 : St.le (S (List.replicate ops.toList.length false)) st) (step : ∀ p ∈ PL, stepP T C ops.toList Q E S p)
    (fin : Q .normal (E (List.replicate ops.toList.length true)) (S (List.replicate ops.toList.length true))) : AW P (.region id ops true) Q env st := fun D I0 st0 w0 I β a w h =>
  wp_region_any hP.m (by
    have hc' := hc
    simp only [closedP, Bool.and_eq_true, List.all_eq_true] at hc'
    have := any_sound (D := D) hP.t hC hc step fin ops.size (List.replicate ops.toList.length false) (Array.replicate ops.size false) I _ a _ (by simp) (by simp) (by simp) (fun j hj hr => ?_) ?_ (((h.grew (Grew.drew w)).stLe s0).envLe (Env.le_of h0))
    · simpa using this
    · have := hc'.1.1 j (List.mem_range.2 hj)
      rw [hr] at this
      simpa using this
    · have := hc'.1.2
      simp only [Bool.or_eq_true, beq_iff_eq, List.any_eq_true] at this
      rcases this with h | ⟨j, hj, hr⟩
      · exact .inl h
      · exact .inr ⟨j, List.mem_range.1 hj, hr⟩)
end
end Go.Aw
