/-
  PATTERNS, PART 6: the document's answer (ref12), its loops.
-/
import Derived.Test.YtmhmkpiliejmdaaPat5
set_option linter.unusedVariables false
set_option linter.unusedSimpArgs false
set_option pp.maxSteps 400
namespace Go.Proofs.Ytmhmkpiliejmdaa
open Go Go.Aw
section
variable {st : St} {R : Res → St → Prop}

def commaF (x : Nd) : Bool := saidF x 15 [44]
def midF (n : Nd) : List Nd := (n.kids.take (n.kids.length - 1)).drop 1
def firstF (n : Nd) (t : List UInt8) : Bool := n.kids[0]?.any (saidF · 15 t)
def lastF (n : Nd) (t : List UInt8) : Bool := n.kids[n.kids.length - 1]?.any (saidF · 15 t)
theorem framedF_eq {n : Nd} {o s : List UInt8} : framedF n o s = if 2 ≤ n.kids.length ∧ firstF n o = true ∧ lastF n s = true then some (midF n) else none := rfl
theorem midF_length {n : Nd} (h : 2 ≤ n.kids.length) : (midF n).length = n.kids.length - 2 := by
  simp [midF]; omega
theorem midF_get {n : Nd} {i : Nat} (h : i + 2 < n.kids.length) : (midF n)[i]? = n.kids[i + 1]? := by
  unfold midF
  rw [List.getElem?_drop, List.getElem?_take, if_pos (by omega), Nat.add_comm]
theorem first_ne {n : Nd} {o s : List UInt8} (h : firstF n o = true) (hne : o ≠ s) : firstF n s = false := by
  unfold firstF at *
  cases hx : n.kids[0]? with
  | none => rfl
  | some x =>
    rw [hx] at h
    simp only [Option.any_some, saidF_eq, Bool.and_eq_true, beq_iff_eq] at h ⊢
    rw [h.2]
    simp [hne]
theorem allB_any {q : Nd → Bool} : ∀ {l : List Nd}, l.any (fun x => !q x) = !allB q l
  | [] => rfl
  | x :: r => by rw [List.any_cons, allB, allB_any]; cases q x <;> rfl
theorem allB_at {q : Nd → Bool} {l : List Nd} {k : Nat} {x : Nd} (h : l[k]? = some x) : allB q (l.drop k) = (q x && allB q (l.drop (k + 1))) := by rw [drop_at h]; rfl
theorem allB_nil {q : Nd → Bool} {l : List Nd} {k : Nat} (h : l.length ≤ k) : allB q (l.drop k) = true := by rw [List.drop_eq_nil_of_le h]; rfl

def bareF (n : Nd) : Bool := match framedF n [91] [93] with | some l => l.isEmpty | none => match framedF n [40] [41] with | some l => !l.any fun x => !saidF x 15 [44] | none => false
theorem bareF_eq {n : Nd} : bareF n = (decide (2 ≤ n.kids.length) && ((firstF n [91] && lastF n [93] && n.kids.length == 2) || (allB commaF (midF n) && firstF n [40] && lastF n [41]))) := by
  unfold bareF
  rw [framedF_eq, framedF_eq]
  by_cases h2 : 2 ≤ n.kids.length
  · have hm := midF_length h2
    cases h91 : firstF n [91] with
    | true =>
      rw [first_ne h91 (by decide)]
      cases lastF n [93] with
      | false => simp [h2]
      | true =>
        simp only [h2, decide_true, true_and, and_self, if_true, Bool.true_and, Bool.and_true, Bool.and_false, Bool.false_and, Bool.or_false]
        rw [show (midF n).isEmpty = ((midF n).length == 0) by cases midF n <;> rfl, hm]
        by_cases h : n.kids.length = 2
        · simp [h]
        · have : ¬ n.kids.length - 2 = 0 := by omega
          rw [beq_eq_false_iff_ne.2 this, beq_eq_false_iff_ne.2 h]
    | false =>
      have e : (fun x => saidF x 15 [44]) = commaF := rfl
      cases h40 : firstF n [40] <;> cases h41 : lastF n [41] <;> simp [h2, allB_any, e]
  · simp only [h2, false_and, if_false, decide_false, Bool.false_and]

theorem rbare_c {n : Nd} (hk : n.kind = 3) (h : R (.ret (.bool (bareF n))) st) : PC 33 [enc n] st R := by
  refine pcalls_of_body tys_ok [] Try.func33 rfl (by decide) ?_
  repeat' (conv => whnf
           first
             | with_reducible exact quiet_same
             | with_reducible exact quiet_bool
             | with_reducible exact quiet_not
             | with_reducible refine draw_step (by kernel_rfl) ?_
             | with_reducible refine quiet_go ?_ ?_ ?_
             | with_reducible refine bcase_len (by decide) (fun _ => ?_) (fun _ => ?_)
             | with_reducible refine bcase_eq (fun _ => ?_) (fun _ => ?_)
             | with_reducible refine bcase_dec (fun _ => ?_) (fun _ => ?_)
             | with_reducible refine bcase_true ?_
             | with_reducible refine bcase_false ?_
             | with_reducible refine bcase_intro (fun _ => ?_) (fun _ => ?_)
             | with_reducible refine len_kids (fun _ => ?_)
             | with_reducible refine at_known (by assumption) (by omega) ?_
             | with_reducible refine at_kid (by omega) (by omega) (fun _ _ _ => ?_)
             | with_reducible refine tail_kids (by omega) (by omega) ?_
             | with_reducible refine slice_kids (by omega) (by omega) (by omega) ?_
             | with_reducible refine ex_wrap (by omega) (by omega) ?_
             | with_reducible refine quo_step (by decide) (by omega) (by omega) ?_
             | with_reducible refine rem_step (by decide) ?_
             | refine rpunct_c ?_)
  all_goals try (refine loop_s 4 1 [1, 3] [0] n.kids.length (fun k => 1 ≤ k ∧ k ≤ n.kids.length - 1 ∧ allB commaF (midF n) = allB commaF ((midF n).drop (k - 1))) ⟨by omega, by omega, rfl⟩ (by refine ⟨rfl, ?_, ?_, rfl⟩ <;> repeat' (first | exact trivial | exact rfl | refine And.intro ?_ ?_)) ?_; rintro k ⟨hk1, hk2, hi⟩)
  repeat' (conv => whnf
           first
             | with_reducible exact quiet_same
             | with_reducible exact quiet_bool
             | with_reducible exact quiet_not
             | with_reducible refine draw_step (by kernel_rfl) ?_
             | with_reducible refine quiet_go ?_ ?_ ?_
             | with_reducible refine bcase_len (by decide) (fun _ => ?_) (fun _ => ?_)
             | with_reducible refine bcase_eq (fun _ => ?_) (fun _ => ?_)
             | with_reducible refine bcase_dec (fun _ => ?_) (fun _ => ?_)
             | with_reducible refine bcase_true ?_
             | with_reducible refine bcase_false ?_
             | with_reducible refine bcase_intro (fun _ => ?_) (fun _ => ?_)
             | with_reducible refine len_kids (fun _ => ?_)
             | with_reducible refine at_known (by assumption) (by omega) ?_
             | with_reducible refine at_kid (by omega) (by omega) (fun _ _ _ => ?_)
             | with_reducible refine tail_kids (by omega) (by omega) ?_
             | with_reducible refine slice_kids (by omega) (by omega) (by omega) ?_
             | with_reducible refine ex_wrap (by omega) (by omega) ?_
             | with_reducible refine quo_step (by decide) (by omega) (by omega) ?_
             | with_reducible refine rem_step (by decide) ?_
             | refine rpunct_c ?_)
  all_goals try conv => whnf
  all_goals try simp only [Int.toNat_zero, Int.toNat_one, Int.reduceToNat, Int.toNat_natCast] at *
  all_goals try (have hm : (midF n)[k - 1]? = n.kids[k]? := (midF_get (by omega)).trans (by rw [Nat.sub_add_cancel hk1]))
  all_goals try (have ha := allB_at (q := commaF) (l := midF n) (k := k - 1) (hm.trans ‹n.kids[k]? = _›); rw [Nat.sub_add_cancel hk1] at ha; rw [ha] at hi; clear ha)
  all_goals first
    | (refine ⟨k + 1, ⟨by omega, by omega, ?_⟩, by omega, (by refine ⟨rfl, ?_, ?_, rfl⟩ <;> repeat' (first | exact trivial | exact rfl | refine And.intro ?_ ?_)), St.le_refl _⟩; clear h; simp_all [commaF]; done)
    | refine fin_bool h ?_
  all_goals clear h
  all_goals rw [bareF_eq]
  all_goals have hl : ((n.kids.length : Int) - 1).toNat = n.kids.length - 1 := by omega
  all_goals try simp only [hl] at *
  all_goals try (rw [allB_nil (l := midF n) (k := k - 1) (by rw [midF_length (by omega)]; omega)] at hi)
  all_goals first
    | (have h2 : ¬ 2 ≤ n.kids.length := by omega
       rw [decide_eq_false h2]; rfl)
    | (have h2 : 2 ≤ n.kids.length := by omega
       simp_all [firstF, lastF, commaF]; done)

theorem rall_c {p : Nd → Bool} {l : List Nd} (hp : ∀ x ∈ l, Tells 17 p x) (h : R (.ret (.bool (allB (besideG p) l))) st) : PC 36 [.slice 6 (encs l) .any] st R := by
  refine pcalls_of_body tys_ok [] Try.func36 rfl (by decide) ?_
  repeat' (conv => whnf
           first
             | with_reducible exact quiet_same
             | with_reducible exact quiet_bool
             | with_reducible exact quiet_not
             | with_reducible refine draw_step (by kernel_rfl) ?_
             | with_reducible refine quiet_go ?_ ?_ ?_
             | with_reducible refine bcase_len (by decide) (fun _ => ?_) (fun _ => ?_)
             | with_reducible refine bcase_eq (fun _ => ?_) (fun _ => ?_)
             | with_reducible refine bcase_dec (fun _ => ?_) (fun _ => ?_)
             | with_reducible refine bcase_true ?_
             | with_reducible refine bcase_false ?_
             | with_reducible refine bcase_intro (fun _ => ?_) (fun _ => ?_)
             | with_reducible refine len_kids (fun _ => ?_)
             | with_reducible refine at_known (by assumption) (by omega) ?_
             | with_reducible refine at_kid (by omega) (by omega) (fun _ _ _ => ?_)
             | with_reducible refine tail_kids (by omega) (by omega) ?_
             | with_reducible refine slice_kids (by omega) (by omega) (by omega) ?_
             | with_reducible refine ex_wrap (by omega) (by omega) ?_
             | with_reducible refine quo_step (by decide) (by omega) (by omega) ?_
             | with_reducible refine rem_step (by decide) ?_
             | refine rleaf_c ?_)
  refine loop_n 3 [0] l.length (fun k => k ≤ l.length ∧ allB (besideG p) l = allB (besideG p) (l.drop k)) ⟨Nat.zero_le _, rfl⟩ (by refine ⟨rfl, ?_, ?_, rfl⟩ <;> repeat' (first | exact trivial | exact rfl | refine And.intro ?_ ?_)) ?_
  rintro k ⟨hk, hi⟩
  repeat' (conv => whnf
           first
             | with_reducible exact quiet_same
             | with_reducible exact quiet_bool
             | with_reducible exact quiet_not
             | with_reducible refine draw_step (by kernel_rfl) ?_
             | with_reducible refine quiet_go ?_ ?_ ?_
             | with_reducible refine bcase_len (by decide) (fun _ => ?_) (fun _ => ?_)
             | with_reducible refine bcase_eq (fun _ => ?_) (fun _ => ?_)
             | with_reducible refine bcase_dec (fun _ => ?_) (fun _ => ?_)
             | with_reducible refine bcase_true ?_
             | with_reducible refine bcase_false ?_
             | with_reducible refine bcase_intro (fun _ => ?_) (fun _ => ?_)
             | with_reducible refine len_kids (fun _ => ?_)
             | with_reducible refine at_known (by assumption) (by omega) ?_
             | with_reducible refine at_kid (by omega) (by omega) (fun _ _ _ => ?_)
             | with_reducible refine tail_kids (by omega) (by omega) ?_
             | with_reducible refine slice_kids (by omega) (by omega) (by omega) ?_
             | with_reducible refine ex_wrap (by omega) (by omega) ?_
             | with_reducible refine quo_step (by decide) (by omega) (by omega) ?_
             | with_reducible refine rem_step (by decide) ?_
             | refine hp _ (by assumption) _ _ ?_)
  all_goals conv => whnf
  all_goals try (have e := drop_at ‹l[Int.toNat k]? = some _›; rw [Int.toNat_natCast] at e; rw [e, allB] at hi; clear e)
  all_goals first
   | (refine ⟨k + 1, ⟨by omega, ?_⟩, by omega, (by refine ⟨rfl, ?_, ?_, rfl⟩ <;> repeat' (first | exact trivial | exact rfl | refine And.intro ?_ ?_)), St.le_refl _⟩; clear h; simp_all [besideG]; done)
   | (refine fin_bool h ?_; clear h; simp_all [besideG]; done)
   | (refine fin_bool h ?_; clear h; rw [List.drop_eq_nil_of_le (by omega)] at hi; simp_all [allB]; done)

theorem roper_makes {n : Nd} (hk : n.kind = 18) : ((roperF n).1 = 1 ↔ makesF n = true) := by
  unfold roperF
  by_cases hm : makesF n = true
  · simp [hk, hm]
  · rw [if_neg (fun x => hm x.2)]
    cases boundF n <;> simp [hm]
theorem makes_kind {n : Nd} (h : makesF n = true) : n.kind = 18 := by
  by_cases hk : n.kind = 18
  · exact hk
  · have : operatorF n = (zeroN, false) := by simp [operatorF, hk]
    rw [makesF, this] at h
    exact absurd h (by decide)
theorem roper_makes' {n : Nd} : (roperF n).1 = 1 ↔ makesF n = true := by
  by_cases hk : n.kind = 18
  · exact roper_makes hk
  · constructor
    · intro h
      unfold roperF at h
      rw [if_neg (fun x => hk x.1)] at h
      cases hb : boundF n <;> rw [hb] at h <;> simp at h
    · intro h; exact absurd (makes_kind h) hk

theorem leaf_kind {x : Nd} {k : Int} (h : leafF x k = true) : x.kind = 1 := by
  simp only [leafF, Bool.and_eq_true, beq_iff_eq] at h; exact h.1
theorem rrow_c {p : Nd → Bool} {l : List Nd} (hp : ∀ x ∈ l, Tells 17 p x) (hn : ∀ x ∈ l, leafF x 11 = true ∨ leafF x 12 = true → p x = true) (h : R (.ret (.bool (rowS p 0 l))) st) : PC 37 [.slice 6 (encs l) .any] st R := by
  refine pcalls_of_body tys_ok [] Try.func37 rfl (by decide) ?_
  repeat' (conv => whnf
           first
             | with_reducible exact quiet_same
             | with_reducible exact quiet_bool
             | with_reducible exact quiet_not
             | with_reducible refine draw_step (by kernel_rfl) ?_
             | with_reducible refine quiet_go ?_ ?_ ?_
             | with_reducible refine bcase_len (by decide) (fun _ => ?_) (fun _ => ?_)
             | with_reducible refine bcase_eq (fun _ => ?_) (fun _ => ?_)
             | with_reducible refine bcase_dec (fun _ => ?_) (fun _ => ?_)
             | with_reducible refine bcase_true ?_
             | with_reducible refine bcase_false ?_
             | with_reducible refine bcase_intro (fun _ => ?_) (fun _ => ?_)
             | with_reducible refine len_kids (fun _ => ?_)
             | with_reducible refine at_known (by assumption) (by omega) ?_
             | with_reducible refine at_kid (by omega) (by omega) (fun _ _ _ => ?_)
             | with_reducible refine tail_kids (by omega) (by omega) ?_
             | with_reducible refine slice_kids (by omega) (by omega) (by omega) ?_
             | with_reducible refine ex_wrap (by omega) (by omega) ?_
             | with_reducible refine quo_step (by decide) (by omega) (by omega) ?_
             | with_reducible refine rem_step (by decide) ?_
             | refine rleaf_c ?_)
  refine loop_n 3 [0] l.length (fun k => k ≤ l.length ∧ rowS p 0 l = rowS p 0 (l.drop k)) ⟨Nat.zero_le _, rfl⟩ (by refine ⟨rfl, ?_, ?_, rfl⟩ <;> repeat' (first | exact trivial | exact rfl | refine And.intro ?_ ?_)) ?_
  rintro k ⟨hk, hi⟩
  repeat' (conv => whnf
           first
             | with_reducible exact quiet_same
             | with_reducible exact quiet_bool
             | with_reducible exact quiet_not
             | with_reducible refine draw_step (by kernel_rfl) ?_
             | with_reducible refine quiet_go ?_ ?_ ?_
             | with_reducible refine bcase_len (by decide) (fun _ => ?_) (fun _ => ?_)
             | with_reducible refine bcase_eq (fun _ => ?_) (fun _ => ?_)
             | with_reducible refine bcase_dec (fun _ => ?_) (fun _ => ?_)
             | with_reducible refine bcase_true ?_
             | with_reducible refine bcase_false ?_
             | with_reducible refine bcase_intro (fun _ => ?_) (fun _ => ?_)
             | with_reducible refine len_kids (fun _ => ?_)
             | with_reducible refine at_known (by assumption) (by omega) ?_
             | with_reducible refine at_kid (by omega) (by omega) (fun _ _ _ => ?_)
             | with_reducible refine tail_kids (by omega) (by omega) ?_
             | with_reducible refine slice_kids (by omega) (by omega) (by omega) ?_
             | with_reducible refine ex_wrap (by omega) (by omega) ?_
             | with_reducible refine quo_step (by decide) (by omega) (by omega) ?_
             | with_reducible refine rem_step (by decide) ?_
             | refine rleaf_c ?_
             | refine hp _ (by assumption) _ _ ?_
             | refine roperator_c ?_)
  all_goals conv => whnf
  all_goals try (exfalso; omega)
  all_goals try simp only [tn0, tn1, tn2, tn3, tn4, Int.toNat_natCast, Nat.zero_add, Nat.reduceAdd, roper_makes'] at *
  all_goals try (have e := rowS0 (p := p) ‹l[k]? = some _›; rw [e] at hi; clear e)
  all_goals (try have e1 := rowS1 (p := p) ‹l[k + 1]? = some _›)
  all_goals (try have e2 := rowS2 (p := p) ‹l[k + 1]? = some _›)
  all_goals (try have e3 := rowS2 (p := p) ‹l[k + 2]? = some _›)
  all_goals (try have f0 := rowSe (p := p) (s := 0) (l := l) (k := k) (by omega))
  all_goals (try have f1 := rowSe (p := p) (s := 1) (l := l) (k := k + 1) (by omega))
  all_goals (try have f2 := rowSe (p := p) (s := 2) (l := l) (k := k + 1) (by omega))
  all_goals (try have f3 := rowSe (p := p) (s := 2) (l := l) (k := k + 2) (by omega))
  all_goals (try have g1 := hn _ ‹_ ∈ l› (.inl ‹leafF _ 11 = true›))
  all_goals (try have g2 := hn _ ‹_ ∈ l› (.inr ‹leafF _ 12 = true›))
  all_goals (try have g3 := leaf_kind ‹leafF _ 11 = true›)
  all_goals (try have g4 := leaf_kind ‹leafF _ 12 = true›)
  all_goals try simp only [Nat.zero_add, Nat.reduceAdd] at *
  all_goals first
    | (refine fin_bool h ?_; clear h hp hn; simp_all [isF_two]; done)
    | (refine ⟨k + 3, ⟨by omega, ?_⟩, by omega, (by refine ⟨rfl, ?_, ?_, rfl⟩ <;> repeat' (first | exact trivial | exact rfl | refine And.intro ?_ ?_)), St.le_refl _⟩; clear h hp hn; simp_all [isF_two]; done)
    | (refine ⟨k + 2, ⟨by omega, ?_⟩, by omega, (by refine ⟨rfl, ?_, ?_, rfl⟩ <;> repeat' (first | exact trivial | exact rfl | refine And.intro ?_ ?_)), St.le_refl _⟩; clear h hp hn; simp_all [isF_two]; done)
end
end Go.Proofs.Ytmhmkpiliejmdaa
