/-
  TYPES: the exported ones; types, round.
-/
import Derived.Test.YtngbihfihdheoaaTyp6
set_option linter.unusedVariables false
set_option pp.maxSteps 400
namespace Go.Proofs.Ytngbihfihdheoaa
open Go Go.Aw

section
variable {st : St} {R : Res → St → Prop}
attribute [local irreducible] Go.Aw.appendTo

theorem type_c {deep : Int} {A : Sta → Rs} (h1 : ¬ deep < 1 → Reads0 28 (if 100 < deep then 100 else deep) A) : Calls3 11 deep A := by
  intro s hm st R h
  refine pcalls_of_body tys_ok [] Try.func11 rfl (by decide) ?_
  repeat' (conv => whnf
           first
             | with_reducible exact quiet_same
             | with_reducible exact quiet_bool
             | with_reducible exact quiet_not
             | with_reducible refine draw_step (by kernel_rfl) ?_
             | with_reducible refine quiet_go ?_ ?_ ?_
             | with_reducible refine bcase_yes (by first | assumption | omega) ?_
             | with_reducible refine bcase_no (by first | assumption | omega) ?_
             | with_reducible refine bcase_dyes (by omega) ?_
             | with_reducible refine bcase_dno (by omega) ?_
             | with_reducible refine bcase_len (by decide) (fun _ => ?_) (fun _ => ?_)
             | with_reducible refine bcase_eq (fun _ => ?_) (fun _ => ?_)
             | with_reducible refine bcase_dec (fun _ => ?_) (fun _ => ?_)
             | with_reducible refine bcase_true ?_
             | with_reducible refine bcase_false ?_
             | with_reducible refine bcase_intro (fun _ => ?_) (fun _ => ?_)
             | with_reducible refine len_kids (fun _ => ?_)
             | with_reducible refine at_known (by assumption) (by omega) ?_
             | with_reducible refine at_kid (by omega) (by omega) (fun _ _ _ => ?_)
             | with_reducible refine tail_kids (by omega) (by omega) ?_
             | with_reducible refine slice_kids (by omega) (by omega) (by omega) ?_
             | with_reducible refine ex_wrap (by omega) (by omega) ?_
             | with_reducible refine quo_step (by decide) (by omega) (by omega) ?_
             | with_reducible refine rem_step (by decide) ?_
             | with_reducible refine nil_row (fun _ => ?_) ?_
             | with_reducible refine nil_row2 (fun _ => ?_) ?_
             | with_reducible refine len_toks (fun _ => ?_)
             | with_reducible refine len_ints (fun _ => ?_)
             | with_reducible refine tok_known (by assumption) (by omega) ?_
             | with_reducible refine at_tok (by omega) (by omega) (fun _ _ => ?_)
             | with_reducible refine at_int (by omega) (by omega) (fun _ _ => ?_)
             | with_reducible refine slice_ints (by omega) (by omega) (by omega) ?_
             | refine catch_c (s := s) (q := A s) (fun hd => h1 hd s hm) ?_
             | with_reducible refine draw_head ?_)
  all_goals exact finw rfl h
theorem atomX_c {deep : Int} {A : Sta → Rs} (h1 : ¬ deep < 1 → Reads0 37 (if 100 < deep then 100 else deep) A) : Calls3 18 deep A := by
  intro s hm st R h
  refine pcalls_of_body tys_ok [] Try.func18 rfl (by decide) ?_
  repeat' (conv => whnf
           first
             | with_reducible exact quiet_same
             | with_reducible exact quiet_bool
             | with_reducible exact quiet_not
             | with_reducible refine draw_step (by kernel_rfl) ?_
             | with_reducible refine quiet_go ?_ ?_ ?_
             | with_reducible refine bcase_yes (by first | assumption | omega) ?_
             | with_reducible refine bcase_no (by first | assumption | omega) ?_
             | with_reducible refine bcase_dyes (by omega) ?_
             | with_reducible refine bcase_dno (by omega) ?_
             | with_reducible refine bcase_len (by decide) (fun _ => ?_) (fun _ => ?_)
             | with_reducible refine bcase_eq (fun _ => ?_) (fun _ => ?_)
             | with_reducible refine bcase_dec (fun _ => ?_) (fun _ => ?_)
             | with_reducible refine bcase_true ?_
             | with_reducible refine bcase_false ?_
             | with_reducible refine bcase_intro (fun _ => ?_) (fun _ => ?_)
             | with_reducible refine len_kids (fun _ => ?_)
             | with_reducible refine at_known (by assumption) (by omega) ?_
             | with_reducible refine at_kid (by omega) (by omega) (fun _ _ _ => ?_)
             | with_reducible refine tail_kids (by omega) (by omega) ?_
             | with_reducible refine slice_kids (by omega) (by omega) (by omega) ?_
             | with_reducible refine ex_wrap (by omega) (by omega) ?_
             | with_reducible refine quo_step (by decide) (by omega) (by omega) ?_
             | with_reducible refine rem_step (by decide) ?_
             | with_reducible refine nil_row (fun _ => ?_) ?_
             | with_reducible refine nil_row2 (fun _ => ?_) ?_
             | with_reducible refine len_toks (fun _ => ?_)
             | with_reducible refine len_ints (fun _ => ?_)
             | with_reducible refine tok_known (by assumption) (by omega) ?_
             | with_reducible refine at_tok (by omega) (by omega) (fun _ _ => ?_)
             | with_reducible refine at_int (by omega) (by omega) (fun _ _ => ?_)
             | with_reducible refine slice_ints (by omega) (by omega) (by omega) ?_
             | refine catch_c (s := s) (q := A s) (fun hd => h1 hd s hm) ?_
             | with_reducible refine draw_head ?_)
  all_goals exact finw rfl h
theorem rowX_c {deep : Int} {A : Sta → Rs} (h1 : ¬ deep < 1 → Reads0 39 (if 100 < deep then 100 else deep) A) : Calls3 20 deep A := by
  intro s hm st R h
  refine pcalls_of_body tys_ok [] Try.func20 rfl (by decide) ?_
  repeat' (conv => whnf
           first
             | with_reducible exact quiet_same
             | with_reducible exact quiet_bool
             | with_reducible exact quiet_not
             | with_reducible refine draw_step (by kernel_rfl) ?_
             | with_reducible refine quiet_go ?_ ?_ ?_
             | with_reducible refine bcase_yes (by first | assumption | omega) ?_
             | with_reducible refine bcase_no (by first | assumption | omega) ?_
             | with_reducible refine bcase_dyes (by omega) ?_
             | with_reducible refine bcase_dno (by omega) ?_
             | with_reducible refine bcase_len (by decide) (fun _ => ?_) (fun _ => ?_)
             | with_reducible refine bcase_eq (fun _ => ?_) (fun _ => ?_)
             | with_reducible refine bcase_dec (fun _ => ?_) (fun _ => ?_)
             | with_reducible refine bcase_true ?_
             | with_reducible refine bcase_false ?_
             | with_reducible refine bcase_intro (fun _ => ?_) (fun _ => ?_)
             | with_reducible refine len_kids (fun _ => ?_)
             | with_reducible refine at_known (by assumption) (by omega) ?_
             | with_reducible refine at_kid (by omega) (by omega) (fun _ _ _ => ?_)
             | with_reducible refine tail_kids (by omega) (by omega) ?_
             | with_reducible refine slice_kids (by omega) (by omega) (by omega) ?_
             | with_reducible refine ex_wrap (by omega) (by omega) ?_
             | with_reducible refine quo_step (by decide) (by omega) (by omega) ?_
             | with_reducible refine rem_step (by decide) ?_
             | with_reducible refine nil_row (fun _ => ?_) ?_
             | with_reducible refine nil_row2 (fun _ => ?_) ?_
             | with_reducible refine len_toks (fun _ => ?_)
             | with_reducible refine len_ints (fun _ => ?_)
             | with_reducible refine tok_known (by assumption) (by omega) ?_
             | with_reducible refine at_tok (by omega) (by omega) (fun _ _ => ?_)
             | with_reducible refine at_int (by omega) (by omega) (fun _ _ => ?_)
             | with_reducible refine slice_ints (by omega) (by omega) (by omega) ?_
             | refine catch_c (s := s) (q := A s) (fun hd => h1 hd s hm) ?_
             | with_reducible refine draw_head ?_)
  all_goals exact finw rfl h
theorem fullX_c {deep : Int} {A : Sta → Rs} (h1 : ¬ deep < 1 → Reads0 34 (if 100 < deep then 100 else deep) A) : Calls3 14 deep A := by
  intro s hm st R h
  refine pcalls_of_body tys_ok [] Try.func14 rfl (by decide) ?_
  repeat' (conv => whnf
           first
             | with_reducible exact quiet_same
             | with_reducible exact quiet_bool
             | with_reducible exact quiet_not
             | with_reducible refine draw_step (by kernel_rfl) ?_
             | with_reducible refine quiet_go ?_ ?_ ?_
             | with_reducible refine bcase_yes (by first | assumption | omega) ?_
             | with_reducible refine bcase_no (by first | assumption | omega) ?_
             | with_reducible refine bcase_dyes (by omega) ?_
             | with_reducible refine bcase_dno (by omega) ?_
             | with_reducible refine bcase_len (by decide) (fun _ => ?_) (fun _ => ?_)
             | with_reducible refine bcase_eq (fun _ => ?_) (fun _ => ?_)
             | with_reducible refine bcase_dec (fun _ => ?_) (fun _ => ?_)
             | with_reducible refine bcase_true ?_
             | with_reducible refine bcase_false ?_
             | with_reducible refine bcase_intro (fun _ => ?_) (fun _ => ?_)
             | with_reducible refine len_kids (fun _ => ?_)
             | with_reducible refine at_known (by assumption) (by omega) ?_
             | with_reducible refine at_kid (by omega) (by omega) (fun _ _ _ => ?_)
             | with_reducible refine tail_kids (by omega) (by omega) ?_
             | with_reducible refine slice_kids (by omega) (by omega) (by omega) ?_
             | with_reducible refine ex_wrap (by omega) (by omega) ?_
             | with_reducible refine quo_step (by decide) (by omega) (by omega) ?_
             | with_reducible refine rem_step (by decide) ?_
             | with_reducible refine nil_row (fun _ => ?_) ?_
             | with_reducible refine nil_row2 (fun _ => ?_) ?_
             | with_reducible refine len_toks (fun _ => ?_)
             | with_reducible refine len_ints (fun _ => ?_)
             | with_reducible refine tok_known (by assumption) (by omega) ?_
             | with_reducible refine at_tok (by omega) (by omega) (fun _ _ => ?_)
             | with_reducible refine at_int (by omega) (by omega) (fun _ _ => ?_)
             | with_reducible refine slice_ints (by omega) (by omega) (by omega) ?_
             | refine catch_c (s := s) (q := A s) (fun hd => h1 hd s hm) ?_
             | with_reducible refine draw_head ?_)
  all_goals exact finw rfl h
end
end Go.Proofs.Ytngbihfihdheoaa
