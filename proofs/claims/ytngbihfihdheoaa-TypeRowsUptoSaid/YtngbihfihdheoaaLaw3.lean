/-
  LAWS OF THE TYPES: TypeAtoms, TypeRows, TypeTypes, TypeFulls.
-/
import Derived.Test.YtngbihfihdheoaaLaw2
set_option linter.unusedVariables false
set_option pp.maxSteps 400
namespace Go.Proofs.Ytngbihfihdheoaa
open Go Go.Aw
theorem small_mu {s : Sta} (h : s.toks.length ≤ 2000 ∧ s.opn.length ≤ 2000) : mu s ≤ 20000 := by unfold mu; omega
theorem encRs_doc {s : Sta} {deep : Int} {q q' : Rs} (h : docR s deep q = q') : encRs (docR s deep q) = encQ (rn q') (rs q') (re q') := by rw [h, encRs_eq]
/-- the document's Type, so deep -/
theorem rtype_all : ∀ d : Nat, d ≤ 100 → RCalls 13 (d : Int) (typeP d)
  | 0, _ => fun s hm st R h => rtype_c (A := atomP (typeP 0)) (fun e => absurd (by decide) e) (bads_atom (bads_type 0)) (falls_atom (falls_type 0)) hm (by
    unfold docR; rw [if_pos (by decide)]; exact h)
  | d + 1, hd => fun s hm st R h => rtype_c (A := atomP (typeP d)) (fun _ => by
      rw [if_neg (by omega)]
      exact rrow_c (ratom_c rfl (by omega) (rtype_all d (by omega)) (bads_type d) (falls_type d)) (bads_atom (bads_type d)) (falls_atom (falls_type d))) (bads_atom (bads_type d)) (falls_atom (falls_type d)) hm (by
    unfold docR; rw [if_neg (by omega)]; exact h)
theorem ratom_all {deep : Int} (h : ¬ deep < 1) : RCalls 38 (if 100 < deep then 100 else deep) (atomP (typeP (depF deep - 1))) := by
  have := dep_le deep
  exact ratom_c (dep_eq h) (by omega) (rtype_all _ (by omega)) (bads_type _) (falls_type _)
theorem rrow_all {deep : Int} (h : ¬ deep < 1) : RCalls 32 (if 100 < deep then 100 else deep) (rowP (atomP (typeP (depF deep - 1)))) :=
  rrow_c (ratom_all h) (bads_atom (bads_type _)) (falls_atom (falls_type _))
section
variable {st : St} {R : Res → St → Prop}
attribute [local irreducible] Go.Aw.appendTo
theorem rtype_e {s : Sta} {deep : Int} {q : Rs} (hm : mu s ≤ 100000000) (hq : docR s deep (wholeP (atomP (typeP (depF deep - 1))) s) = q) (h : R (.ret (encQ (rn q) (rs q) (re q))) st) : PC 13 [encS s, .int .i64 deep] st R :=
  rtype_c (A := atomP (typeP (depF deep - 1))) rrow_all (bads_atom (bads_type _)) (falls_atom (falls_type _)) hm (by rw [encRs_doc hq]; exact h)
theorem ratom_e {s : Sta} {deep : Int} {q : Rs} (hm : mu s ≤ 100000000) (hq : docR s deep (atomP (typeP (depF deep - 1)) s) = q) (h : R (.ret (encQ (rn q) (rs q) (re q))) st) : PC 19 [encS s, .int .i64 deep] st R :=
  ratomX_c (A := atomP (typeP (depF deep - 1))) ratom_all hm (by rw [encRs_doc hq]; exact h)
theorem rrow_e {s : Sta} {deep : Int} {q : Rs} (hm : mu s ≤ 100000000) (hq : docR s deep (rowP (atomP (typeP (depF deep - 1))) s) = q) (h : R (.ret (encQ (rn q) (rs q) (re q))) st) : PC 21 [encS s, .int .i64 deep] st R :=
  rrowX_c (A := rowP (atomP (typeP (depF deep - 1)))) rrow_all hm (by rw [encRs_doc hq]; exact h)
theorem rfull_e {s : Sta} {deep : Int} {q : Rs} (hm : mu s ≤ 100000000) (hq : docR s deep (fullP (atomP (typeP (depF deep - 1))) s) = q) (h : R (.ret (encQ (rn q) (rs q) (re q))) st) : PC 15 [encS s, .int .i64 deep] st R :=
  rfull_c (A := atomP (typeP (depF deep - 1))) rrow_all (bads_atom (bads_type _)) (falls_atom (falls_type _)) hm (by rw [encRs_doc hq]; exact h)
theorem same_c {n : Nd} {s : Sta} {e : Int} (h : R (.ret (.bool true)) st) : PC 12 [enc n, encS s, .int .i64 e, encQ n s e] st R := by
  refine pcalls_of_body tys_ok [] Try.func12 rfl (by decide) ?_
  repeat' (conv => whnf
           first
             | with_reducible refine bcase_yes rfl ?_
             | with_reducible refine bcase_tok ?_
             | with_reducible refine bcase_tokn ?_
             | with_reducible refine int_known (by assumption) (by omega) ?_
             | with_reducible exact quiet_same
             | with_reducible exact quiet_bool
             | with_reducible exact quiet_not
             | with_reducible refine draw_step (by kernel_rfl) ?_
             | with_reducible refine quiet_go ?_ ?_ ?_
             | with_reducible refine bcase_yes (by first | assumption | omega) ?_
             | with_reducible refine bcase_no (by first | assumption | omega) ?_
             | with_reducible refine bcase_dyes (by omega) ?_
             | with_reducible refine bcase_dno (by omega) ?_
             | with_reducible refine bcase_len (by decide) (fun _ => ?_) (fun _ => ?_)
             | with_reducible refine bcase_eq (fun _ => ?_) (fun _ => ?_)
             | with_reducible refine bcase_dec (fun _ => ?_) (fun _ => ?_)
             | with_reducible refine bcase_true ?_
             | with_reducible refine bcase_false ?_
             | with_reducible refine bcase_intro (fun _ => ?_) (fun _ => ?_)
             | with_reducible refine len_kids (fun _ => ?_)
             | with_reducible refine at_known (by assumption) (by omega) ?_
             | with_reducible refine at_kid (by omega) (by omega) (fun _ _ _ => ?_)
             | with_reducible refine tail_kids (by omega) (by omega) ?_
             | with_reducible refine slice_kids (by omega) (by omega) (by omega) ?_
             | with_reducible refine ex_wrap (by omega) (by omega) ?_
             | with_reducible refine quo_step (by decide) (by omega) (by omega) ?_
             | with_reducible refine rem_step (by decide) ?_
             | with_reducible refine nil_row (fun _ => ?_) ?_
             | with_reducible refine nil_row2 (fun _ => ?_) ?_
             | with_reducible refine len_toks (fun _ => ?_)
             | with_reducible refine len_ints (fun _ => ?_)
             | with_reducible refine tok_known (by assumption) (by omega) ?_
             | with_reducible refine at_tok (by omega) (by omega) (fun _ _ => ?_)
             | with_reducible refine at_int (by omega) (by omega) (fun _ _ => ?_)
             | with_reducible refine slice_ints (by omega) (by omega) (by omega) ?_
             | refine sameall_c _ (Nat.le_refl _) ?_
             | refine samestate_c ?_
             | with_reducible refine draw_head ?_)
  all_goals exact fin h rfl
theorem lawTypes_c {s : Sta} {deep : Int} (h : R (.ret (.bool true)) st) : PC 3 [encS s, .int .i64 deep] st R := by
  refine pcalls_of_body tys_ok [] Try.func3 rfl (by decide) ?_
  by_cases hs : s.toks.length ≤ 2000 ∧ s.opn.length ≤ 2000
  · have hm : mu s ≤ 100000000 := by have := small_mu hs; omega
    have hv : true = (decide (s.toks.length ≤ 2000) && decide (s.opn.length ≤ 2000)) := by simp [hs]
    repeat' (conv => whnf
             first
               | with_reducible refine bcase_yes rfl ?_
               | with_reducible refine bcase_tok ?_
               | with_reducible refine bcase_tokn ?_
               | with_reducible refine int_known (by assumption) (by omega) ?_
               | with_reducible exact quiet_same
               | with_reducible exact quiet_bool
               | with_reducible exact quiet_not
               | with_reducible refine draw_step (by kernel_rfl) ?_
               | with_reducible refine quiet_go ?_ ?_ ?_
               | with_reducible refine bcase_yes (by first | assumption | omega) ?_
               | with_reducible refine bcase_no (by first | assumption | omega) ?_
               | with_reducible refine bcase_dyes (by omega) ?_
               | with_reducible refine bcase_dno (by omega) ?_
               | with_reducible refine bcase_len (by decide) (fun _ => ?_) (fun _ => ?_)
               | with_reducible refine bcase_eq (fun _ => ?_) (fun _ => ?_)
               | with_reducible refine bcase_dec (fun _ => ?_) (fun _ => ?_)
               | with_reducible refine bcase_true ?_
               | with_reducible refine bcase_false ?_
               | with_reducible refine bcase_intro (fun _ => ?_) (fun _ => ?_)
               | with_reducible refine len_kids (fun _ => ?_)
               | with_reducible refine at_known (by assumption) (by omega) ?_
               | with_reducible refine at_kid (by omega) (by omega) (fun _ _ _ => ?_)
               | with_reducible refine tail_kids (by omega) (by omega) ?_
               | with_reducible refine slice_kids (by omega) (by omega) (by omega) ?_
               | with_reducible refine ex_wrap (by omega) (by omega) ?_
               | with_reducible refine quo_step (by decide) (by omega) (by omega) ?_
               | with_reducible refine rem_step (by decide) ?_
               | with_reducible refine nil_row (fun _ => ?_) ?_
               | with_reducible refine nil_row2 (fun _ => ?_) ?_
               | with_reducible refine len_toks (fun _ => ?_)
               | with_reducible refine len_ints (fun _ => ?_)
               | with_reducible refine tok_known (by assumption) (by omega) ?_
               | with_reducible refine at_tok (by omega) (by omega) (fun _ _ => ?_)
               | with_reducible refine at_int (by omega) (by omega) (fun _ _ => ?_)
               | with_reducible refine slice_ints (by omega) (by omega) (by omega) ?_
               | refine small_c hv ?_
               | refine awake_c ?_
               | refine type_e hm rfl ?_
               | refine rtype_e hm rfl ?_
               | refine same_c ?_
               | with_reducible refine draw_head ?_)
    all_goals exact fin h rfl
  · have hv : false = (decide (s.toks.length ≤ 2000) && decide (s.opn.length ≤ 2000)) := by
      symm; simp only [Bool.and_eq_false_iff, decide_eq_false_iff_not]; omega
    repeat' (conv => whnf
             first
               | with_reducible refine bcase_yes rfl ?_
               | with_reducible refine bcase_tok ?_
               | with_reducible refine bcase_tokn ?_
               | with_reducible refine int_known (by assumption) (by omega) ?_
               | with_reducible exact quiet_same
               | with_reducible exact quiet_bool
               | with_reducible exact quiet_not
               | with_reducible refine draw_step (by kernel_rfl) ?_
               | with_reducible refine quiet_go ?_ ?_ ?_
               | with_reducible refine bcase_yes (by first | assumption | omega) ?_
               | with_reducible refine bcase_no (by first | assumption | omega) ?_
               | with_reducible refine bcase_dyes (by omega) ?_
               | with_reducible refine bcase_dno (by omega) ?_
               | with_reducible refine bcase_len (by decide) (fun _ => ?_) (fun _ => ?_)
               | with_reducible refine bcase_eq (fun _ => ?_) (fun _ => ?_)
               | with_reducible refine bcase_dec (fun _ => ?_) (fun _ => ?_)
               | with_reducible refine bcase_true ?_
               | with_reducible refine bcase_false ?_
               | with_reducible refine bcase_intro (fun _ => ?_) (fun _ => ?_)
               | with_reducible refine len_kids (fun _ => ?_)
               | with_reducible refine at_known (by assumption) (by omega) ?_
               | with_reducible refine at_kid (by omega) (by omega) (fun _ _ _ => ?_)
               | with_reducible refine tail_kids (by omega) (by omega) ?_
               | with_reducible refine slice_kids (by omega) (by omega) (by omega) ?_
               | with_reducible refine ex_wrap (by omega) (by omega) ?_
               | with_reducible refine quo_step (by decide) (by omega) (by omega) ?_
               | with_reducible refine rem_step (by decide) ?_
               | with_reducible refine nil_row (fun _ => ?_) ?_
               | with_reducible refine nil_row2 (fun _ => ?_) ?_
               | with_reducible refine len_toks (fun _ => ?_)
               | with_reducible refine len_ints (fun _ => ?_)
               | with_reducible refine tok_known (by assumption) (by omega) ?_
               | with_reducible refine at_tok (by omega) (by omega) (fun _ _ => ?_)
               | with_reducible refine at_int (by omega) (by omega) (fun _ _ => ?_)
               | with_reducible refine slice_ints (by omega) (by omega) (by omega) ?_
               | refine small_c hv ?_
               | refine awake_c ?_
               | with_reducible refine draw_head ?_)
    all_goals exact fin h rfl
theorem lawFulls_c {s : Sta} {deep : Int} (h : R (.ret (.bool true)) st) : PC 4 [encS s, .int .i64 deep] st R := by
  refine pcalls_of_body tys_ok [] Try.func4 rfl (by decide) ?_
  by_cases hs : s.toks.length ≤ 2000 ∧ s.opn.length ≤ 2000
  · have hm : mu s ≤ 100000000 := by have := small_mu hs; omega
    have hv : true = (decide (s.toks.length ≤ 2000) && decide (s.opn.length ≤ 2000)) := by simp [hs]
    repeat' (conv => whnf
             first
               | with_reducible refine bcase_yes rfl ?_
               | with_reducible refine bcase_tok ?_
               | with_reducible refine bcase_tokn ?_
               | with_reducible refine int_known (by assumption) (by omega) ?_
               | with_reducible exact quiet_same
               | with_reducible exact quiet_bool
               | with_reducible exact quiet_not
               | with_reducible refine draw_step (by kernel_rfl) ?_
               | with_reducible refine quiet_go ?_ ?_ ?_
               | with_reducible refine bcase_yes (by first | assumption | omega) ?_
               | with_reducible refine bcase_no (by first | assumption | omega) ?_
               | with_reducible refine bcase_dyes (by omega) ?_
               | with_reducible refine bcase_dno (by omega) ?_
               | with_reducible refine bcase_len (by decide) (fun _ => ?_) (fun _ => ?_)
               | with_reducible refine bcase_eq (fun _ => ?_) (fun _ => ?_)
               | with_reducible refine bcase_dec (fun _ => ?_) (fun _ => ?_)
               | with_reducible refine bcase_true ?_
               | with_reducible refine bcase_false ?_
               | with_reducible refine bcase_intro (fun _ => ?_) (fun _ => ?_)
               | with_reducible refine len_kids (fun _ => ?_)
               | with_reducible refine at_known (by assumption) (by omega) ?_
               | with_reducible refine at_kid (by omega) (by omega) (fun _ _ _ => ?_)
               | with_reducible refine tail_kids (by omega) (by omega) ?_
               | with_reducible refine slice_kids (by omega) (by omega) (by omega) ?_
               | with_reducible refine ex_wrap (by omega) (by omega) ?_
               | with_reducible refine quo_step (by decide) (by omega) (by omega) ?_
               | with_reducible refine rem_step (by decide) ?_
               | with_reducible refine nil_row (fun _ => ?_) ?_
               | with_reducible refine nil_row2 (fun _ => ?_) ?_
               | with_reducible refine len_toks (fun _ => ?_)
               | with_reducible refine len_ints (fun _ => ?_)
               | with_reducible refine tok_known (by assumption) (by omega) ?_
               | with_reducible refine at_tok (by omega) (by omega) (fun _ _ => ?_)
               | with_reducible refine at_int (by omega) (by omega) (fun _ _ => ?_)
               | with_reducible refine slice_ints (by omega) (by omega) (by omega) ?_
               | refine small_c hv ?_
               | refine awake_c ?_
               | refine full_e hm rfl ?_
               | refine rfull_e hm rfl ?_
               | refine same_c ?_
               | with_reducible refine draw_head ?_)
    all_goals exact fin h rfl
  · have hv : false = (decide (s.toks.length ≤ 2000) && decide (s.opn.length ≤ 2000)) := by
      symm; simp only [Bool.and_eq_false_iff, decide_eq_false_iff_not]; omega
    repeat' (conv => whnf
             first
               | with_reducible refine bcase_yes rfl ?_
               | with_reducible refine bcase_tok ?_
               | with_reducible refine bcase_tokn ?_
               | with_reducible refine int_known (by assumption) (by omega) ?_
               | with_reducible exact quiet_same
               | with_reducible exact quiet_bool
               | with_reducible exact quiet_not
               | with_reducible refine draw_step (by kernel_rfl) ?_
               | with_reducible refine quiet_go ?_ ?_ ?_
               | with_reducible refine bcase_yes (by first | assumption | omega) ?_
               | with_reducible refine bcase_no (by first | assumption | omega) ?_
               | with_reducible refine bcase_dyes (by omega) ?_
               | with_reducible refine bcase_dno (by omega) ?_
               | with_reducible refine bcase_len (by decide) (fun _ => ?_) (fun _ => ?_)
               | with_reducible refine bcase_eq (fun _ => ?_) (fun _ => ?_)
               | with_reducible refine bcase_dec (fun _ => ?_) (fun _ => ?_)
               | with_reducible refine bcase_true ?_
               | with_reducible refine bcase_false ?_
               | with_reducible refine bcase_intro (fun _ => ?_) (fun _ => ?_)
               | with_reducible refine len_kids (fun _ => ?_)
               | with_reducible refine at_known (by assumption) (by omega) ?_
               | with_reducible refine at_kid (by omega) (by omega) (fun _ _ _ => ?_)
               | with_reducible refine tail_kids (by omega) (by omega) ?_
               | with_reducible refine slice_kids (by omega) (by omega) (by omega) ?_
               | with_reducible refine ex_wrap (by omega) (by omega) ?_
               | with_reducible refine quo_step (by decide) (by omega) (by omega) ?_
               | with_reducible refine rem_step (by decide) ?_
               | with_reducible refine nil_row (fun _ => ?_) ?_
               | with_reducible refine nil_row2 (fun _ => ?_) ?_
               | with_reducible refine len_toks (fun _ => ?_)
               | with_reducible refine len_ints (fun _ => ?_)
               | with_reducible refine tok_known (by assumption) (by omega) ?_
               | with_reducible refine at_tok (by omega) (by omega) (fun _ _ => ?_)
               | with_reducible refine at_int (by omega) (by omega) (fun _ _ => ?_)
               | with_reducible refine slice_ints (by omega) (by omega) (by omega) ?_
               | refine small_c hv ?_
               | refine awake_c ?_
               | with_reducible refine draw_head ?_)
    all_goals exact fin h rfl
theorem lawAtoms_c {s : Sta} {deep : Int} (h : R (.ret (.bool true)) st) : PC 6 [encS s, .int .i64 deep] st R := by
  refine pcalls_of_body tys_ok [] Try.func6 rfl (by decide) ?_
  by_cases hs : s.toks.length ≤ 2000 ∧ s.opn.length ≤ 2000
  · have hm : mu s ≤ 100000000 := by have := small_mu hs; omega
    have hv : true = (decide (s.toks.length ≤ 2000) && decide (s.opn.length ≤ 2000)) := by simp [hs]
    repeat' (conv => whnf
             first
               | with_reducible refine bcase_yes rfl ?_
               | with_reducible refine bcase_tok ?_
               | with_reducible refine bcase_tokn ?_
               | with_reducible refine int_known (by assumption) (by omega) ?_
               | with_reducible exact quiet_same
               | with_reducible exact quiet_bool
               | with_reducible exact quiet_not
               | with_reducible refine draw_step (by kernel_rfl) ?_
               | with_reducible refine quiet_go ?_ ?_ ?_
               | with_reducible refine bcase_yes (by first | assumption | omega) ?_
               | with_reducible refine bcase_no (by first | assumption | omega) ?_
               | with_reducible refine bcase_dyes (by omega) ?_
               | with_reducible refine bcase_dno (by omega) ?_
               | with_reducible refine bcase_len (by decide) (fun _ => ?_) (fun _ => ?_)
               | with_reducible refine bcase_eq (fun _ => ?_) (fun _ => ?_)
               | with_reducible refine bcase_dec (fun _ => ?_) (fun _ => ?_)
               | with_reducible refine bcase_true ?_
               | with_reducible refine bcase_false ?_
               | with_reducible refine bcase_intro (fun _ => ?_) (fun _ => ?_)
               | with_reducible refine len_kids (fun _ => ?_)
               | with_reducible refine at_known (by assumption) (by omega) ?_
               | with_reducible refine at_kid (by omega) (by omega) (fun _ _ _ => ?_)
               | with_reducible refine tail_kids (by omega) (by omega) ?_
               | with_reducible refine slice_kids (by omega) (by omega) (by omega) ?_
               | with_reducible refine ex_wrap (by omega) (by omega) ?_
               | with_reducible refine quo_step (by decide) (by omega) (by omega) ?_
               | with_reducible refine rem_step (by decide) ?_
               | with_reducible refine nil_row (fun _ => ?_) ?_
               | with_reducible refine nil_row2 (fun _ => ?_) ?_
               | with_reducible refine len_toks (fun _ => ?_)
               | with_reducible refine len_ints (fun _ => ?_)
               | with_reducible refine tok_known (by assumption) (by omega) ?_
               | with_reducible refine at_tok (by omega) (by omega) (fun _ _ => ?_)
               | with_reducible refine at_int (by omega) (by omega) (fun _ _ => ?_)
               | with_reducible refine slice_ints (by omega) (by omega) (by omega) ?_
               | refine small_c hv ?_
               | refine awake_c ?_
               | refine atom_e hm rfl ?_
               | refine ratom_e hm rfl ?_
               | refine same_c ?_
               | with_reducible refine draw_head ?_)
    all_goals exact fin h rfl
  · have hv : false = (decide (s.toks.length ≤ 2000) && decide (s.opn.length ≤ 2000)) := by
      symm; simp only [Bool.and_eq_false_iff, decide_eq_false_iff_not]; omega
    repeat' (conv => whnf
             first
               | with_reducible refine bcase_yes rfl ?_
               | with_reducible refine bcase_tok ?_
               | with_reducible refine bcase_tokn ?_
               | with_reducible refine int_known (by assumption) (by omega) ?_
               | with_reducible exact quiet_same
               | with_reducible exact quiet_bool
               | with_reducible exact quiet_not
               | with_reducible refine draw_step (by kernel_rfl) ?_
               | with_reducible refine quiet_go ?_ ?_ ?_
               | with_reducible refine bcase_yes (by first | assumption | omega) ?_
               | with_reducible refine bcase_no (by first | assumption | omega) ?_
               | with_reducible refine bcase_dyes (by omega) ?_
               | with_reducible refine bcase_dno (by omega) ?_
               | with_reducible refine bcase_len (by decide) (fun _ => ?_) (fun _ => ?_)
               | with_reducible refine bcase_eq (fun _ => ?_) (fun _ => ?_)
               | with_reducible refine bcase_dec (fun _ => ?_) (fun _ => ?_)
               | with_reducible refine bcase_true ?_
               | with_reducible refine bcase_false ?_
               | with_reducible refine bcase_intro (fun _ => ?_) (fun _ => ?_)
               | with_reducible refine len_kids (fun _ => ?_)
               | with_reducible refine at_known (by assumption) (by omega) ?_
               | with_reducible refine at_kid (by omega) (by omega) (fun _ _ _ => ?_)
               | with_reducible refine tail_kids (by omega) (by omega) ?_
               | with_reducible refine slice_kids (by omega) (by omega) (by omega) ?_
               | with_reducible refine ex_wrap (by omega) (by omega) ?_
               | with_reducible refine quo_step (by decide) (by omega) (by omega) ?_
               | with_reducible refine rem_step (by decide) ?_
               | with_reducible refine nil_row (fun _ => ?_) ?_
               | with_reducible refine nil_row2 (fun _ => ?_) ?_
               | with_reducible refine len_toks (fun _ => ?_)
               | with_reducible refine len_ints (fun _ => ?_)
               | with_reducible refine tok_known (by assumption) (by omega) ?_
               | with_reducible refine at_tok (by omega) (by omega) (fun _ _ => ?_)
               | with_reducible refine at_int (by omega) (by omega) (fun _ _ => ?_)
               | with_reducible refine slice_ints (by omega) (by omega) (by omega) ?_
               | refine small_c hv ?_
               | refine awake_c ?_
               | with_reducible refine draw_head ?_)
    all_goals exact fin h rfl
theorem lawRows_c {s : Sta} {deep : Int} (h : R (.ret (.bool true)) st) : PC 7 [encS s, .int .i64 deep] st R := by
  refine pcalls_of_body tys_ok [] Try.func7 rfl (by decide) ?_
  by_cases hs : s.toks.length ≤ 2000 ∧ s.opn.length ≤ 2000
  · have hm : mu s ≤ 100000000 := by have := small_mu hs; omega
    have hv : true = (decide (s.toks.length ≤ 2000) && decide (s.opn.length ≤ 2000)) := by simp [hs]
    repeat' (conv => whnf
             first
               | with_reducible refine bcase_yes rfl ?_
               | with_reducible refine bcase_tok ?_
               | with_reducible refine bcase_tokn ?_
               | with_reducible refine int_known (by assumption) (by omega) ?_
               | with_reducible exact quiet_same
               | with_reducible exact quiet_bool
               | with_reducible exact quiet_not
               | with_reducible refine draw_step (by kernel_rfl) ?_
               | with_reducible refine quiet_go ?_ ?_ ?_
               | with_reducible refine bcase_yes (by first | assumption | omega) ?_
               | with_reducible refine bcase_no (by first | assumption | omega) ?_
               | with_reducible refine bcase_dyes (by omega) ?_
               | with_reducible refine bcase_dno (by omega) ?_
               | with_reducible refine bcase_len (by decide) (fun _ => ?_) (fun _ => ?_)
               | with_reducible refine bcase_eq (fun _ => ?_) (fun _ => ?_)
               | with_reducible refine bcase_dec (fun _ => ?_) (fun _ => ?_)
               | with_reducible refine bcase_true ?_
               | with_reducible refine bcase_false ?_
               | with_reducible refine bcase_intro (fun _ => ?_) (fun _ => ?_)
               | with_reducible refine len_kids (fun _ => ?_)
               | with_reducible refine at_known (by assumption) (by omega) ?_
               | with_reducible refine at_kid (by omega) (by omega) (fun _ _ _ => ?_)
               | with_reducible refine tail_kids (by omega) (by omega) ?_
               | with_reducible refine slice_kids (by omega) (by omega) (by omega) ?_
               | with_reducible refine ex_wrap (by omega) (by omega) ?_
               | with_reducible refine quo_step (by decide) (by omega) (by omega) ?_
               | with_reducible refine rem_step (by decide) ?_
               | with_reducible refine nil_row (fun _ => ?_) ?_
               | with_reducible refine nil_row2 (fun _ => ?_) ?_
               | with_reducible refine len_toks (fun _ => ?_)
               | with_reducible refine len_ints (fun _ => ?_)
               | with_reducible refine tok_known (by assumption) (by omega) ?_
               | with_reducible refine at_tok (by omega) (by omega) (fun _ _ => ?_)
               | with_reducible refine at_int (by omega) (by omega) (fun _ _ => ?_)
               | with_reducible refine slice_ints (by omega) (by omega) (by omega) ?_
               | refine small_c hv ?_
               | refine awake_c ?_
               | refine row_e hm rfl ?_
               | refine rrow_e hm rfl ?_
               | refine same_c ?_
               | with_reducible refine draw_head ?_)
    all_goals exact fin h rfl
  · have hv : false = (decide (s.toks.length ≤ 2000) && decide (s.opn.length ≤ 2000)) := by
      symm; simp only [Bool.and_eq_false_iff, decide_eq_false_iff_not]; omega
    repeat' (conv => whnf
             first
               | with_reducible refine bcase_yes rfl ?_
               | with_reducible refine bcase_tok ?_
               | with_reducible refine bcase_tokn ?_
               | with_reducible refine int_known (by assumption) (by omega) ?_
               | with_reducible exact quiet_same
               | with_reducible exact quiet_bool
               | with_reducible exact quiet_not
               | with_reducible refine draw_step (by kernel_rfl) ?_
               | with_reducible refine quiet_go ?_ ?_ ?_
               | with_reducible refine bcase_yes (by first | assumption | omega) ?_
               | with_reducible refine bcase_no (by first | assumption | omega) ?_
               | with_reducible refine bcase_dyes (by omega) ?_
               | with_reducible refine bcase_dno (by omega) ?_
               | with_reducible refine bcase_len (by decide) (fun _ => ?_) (fun _ => ?_)
               | with_reducible refine bcase_eq (fun _ => ?_) (fun _ => ?_)
               | with_reducible refine bcase_dec (fun _ => ?_) (fun _ => ?_)
               | with_reducible refine bcase_true ?_
               | with_reducible refine bcase_false ?_
               | with_reducible refine bcase_intro (fun _ => ?_) (fun _ => ?_)
               | with_reducible refine len_kids (fun _ => ?_)
               | with_reducible refine at_known (by assumption) (by omega) ?_
               | with_reducible refine at_kid (by omega) (by omega) (fun _ _ _ => ?_)
               | with_reducible refine tail_kids (by omega) (by omega) ?_
               | with_reducible refine slice_kids (by omega) (by omega) (by omega) ?_
               | with_reducible refine ex_wrap (by omega) (by omega) ?_
               | with_reducible refine quo_step (by decide) (by omega) (by omega) ?_
               | with_reducible refine rem_step (by decide) ?_
               | with_reducible refine nil_row (fun _ => ?_) ?_
               | with_reducible refine nil_row2 (fun _ => ?_) ?_
               | with_reducible refine len_toks (fun _ => ?_)
               | with_reducible refine len_ints (fun _ => ?_)
               | with_reducible refine tok_known (by assumption) (by omega) ?_
               | with_reducible refine at_tok (by omega) (by omega) (fun _ _ => ?_)
               | with_reducible refine at_int (by omega) (by omega) (fun _ _ => ?_)
               | with_reducible refine slice_ints (by omega) (by omega) (by omega) ?_
               | refine small_c hv ?_
               | refine awake_c ?_
               | with_reducible refine draw_head ?_)
    all_goals exact fin h rfl
end
end Go.Proofs.Ytngbihfihdheoaa
