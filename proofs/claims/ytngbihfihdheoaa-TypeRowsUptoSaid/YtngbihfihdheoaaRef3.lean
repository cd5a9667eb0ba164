/-
  TYPES: the document's Commas.
-/
import Derived.Test.YtngbihfihdheoaaRef2
import Derived.Test.YtngbihfihdheoaaTyp9
set_option linter.unusedVariables false
set_option pp.maxSteps 400
namespace Go.Proofs.Ytngbihfihdheoaa
open Go Go.Aw
section
variable {st : St} {R : Res → St → Prop}
attribute [local irreducible] Go.Aw.appendTo
theorem commas_c {n1 : Nd} {s : Sta} (hm : mu s ≤ 100000000) (h : R (.ret (encRs (finP 3 (commaL [n1] s).1 (commaL [n1] s).2 [41]))) st) :
    PC 75 [.slice 6 [encN n1] .full, encS s] st R := by
  refine pcalls_of_body tys_ok [] Try.func75 rfl (by decide) ?_
  repeat' (conv => whnf
           first
             | with_reducible exact quiet_same
             | with_reducible exact quiet_bool
             | with_reducible exact quiet_not
             | with_reducible refine draw_step (by kernel_rfl) ?_
             | with_reducible refine quiet_go ?_ ?_ ?_
             | with_reducible refine bcase_yes (by first | assumption | omega) ?_
             | with_reducible refine bcase_no (by first | assumption | omega) ?_
             | with_reducible refine bcase_dyes (by omega) ?_
             | with_reducible refine bcase_dno (by omega) ?_
             | with_reducible refine bcase_len (by decide) (fun _ => ?_) (fun _ => ?_)
             | with_reducible refine bcase_eq (fun _ => ?_) (fun _ => ?_)
             | with_reducible refine bcase_dec (fun _ => ?_) (fun _ => ?_)
             | with_reducible refine bcase_true ?_
             | with_reducible refine bcase_false ?_
             | with_reducible refine bcase_intro (fun _ => ?_) (fun _ => ?_)
             | with_reducible refine len_kids (fun _ => ?_)
             | with_reducible refine at_known (by assumption) (by omega) ?_
             | with_reducible refine at_kid (by omega) (by omega) (fun _ _ _ => ?_)
             | with_reducible refine tail_kids (by omega) (by omega) ?_
             | with_reducible refine slice_kids (by omega) (by omega) (by omega) ?_
             | with_reducible refine ex_wrap (by omega) (by omega) ?_
             | with_reducible refine quo_step (by decide) (by omega) (by omega) ?_
             | with_reducible refine rem_step (by decide) ?_
             | with_reducible refine nil_row (fun _ => ?_) ?_
             | with_reducible refine nil_row2 (fun _ => ?_) ?_
             | with_reducible refine len_toks (fun _ => ?_)
             | with_reducible refine len_ints (fun _ => ?_)
             | with_reducible refine tok_known (by assumption) (by omega) ?_
             | with_reducible refine at_tok (by omega) (by omega) (fun _ _ => ?_)
             | with_reducible refine at_int (by omega) (by omega) (fun _ _ => ?_)
             | with_reducible refine slice_ints (by omega) (by omega) (by omega) ?_
             | with_reducible refine draw_head ?_)
  refine loop_h (α := List Nd × Sta × Own) (fun x => [(0, .slice 6 (x.1.map encN) x.2.2)]) [3, 4] (fun x => [(0, x.2.1.cells)]) [1] (fun x => x.2.2.st st (x.1.length * 6))
    (fun x => x.2.2.good st ∧ x.1.length + mu x.2.1 ≤ 200000000 ∧ mu x.2.1 ≤ mu s ∧ commaL x.1 x.2.1 = commaL [n1] s) (fun x => mu x.2.1) ([n1], s, .full)
    ⟨trivial, by show 1 + mu s ≤ _; omega, Nat.le_refl _, rfl⟩ (by refine ⟨rfl, ?_, ?_, rfl⟩ <;> repeat' (first | exact trivial | exact rfl | refine And.intro ?_ ?_)) (St.le_refl _) ?_
  rintro ⟨l, s3, own⟩ ⟨j1, j5, j6, j7⟩
  dsimp only at j1 j5 j6 j7
  have hm3 : mu s3 ≤ 100000000 := by omega
  have hb3 := opn_le hm3
  have hn : l.length + 1 ≤ 1000000000 := by omega
  rw [← j7] at h
  cases hE : isF s3 15 [44] with
  | true =>
    repeat' (conv => whnf
             first
               | with_reducible exact quiet_same
               | with_reducible exact quiet_bool
               | with_reducible exact quiet_not
               | with_reducible refine draw_step (by kernel_rfl) ?_
               | with_reducible refine quiet_go ?_ ?_ ?_
               | with_reducible refine bcase_yes (by first | assumption | omega) ?_
               | with_reducible refine bcase_no (by first | assumption | omega) ?_
               | with_reducible refine bcase_dyes (by omega) ?_
               | with_reducible refine bcase_dno (by omega) ?_
               | with_reducible refine bcase_len (by decide) (fun _ => ?_) (fun _ => ?_)
               | with_reducible refine bcase_eq (fun _ => ?_) (fun _ => ?_)
               | with_reducible refine bcase_dec (fun _ => ?_) (fun _ => ?_)
               | with_reducible refine bcase_true ?_
               | with_reducible refine bcase_false ?_
               | with_reducible refine bcase_intro (fun _ => ?_) (fun _ => ?_)
               | with_reducible refine len_kids (fun _ => ?_)
               | with_reducible refine at_known (by assumption) (by omega) ?_
               | with_reducible refine at_kid (by omega) (by omega) (fun _ _ _ => ?_)
               | with_reducible refine tail_kids (by omega) (by omega) ?_
               | with_reducible refine slice_kids (by omega) (by omega) (by omega) ?_
               | with_reducible refine ex_wrap (by omega) (by omega) ?_
               | with_reducible refine quo_step (by decide) (by omega) (by omega) ?_
               | with_reducible refine rem_step (by decide) ?_
               | with_reducible refine nil_row (fun _ => ?_) ?_
               | with_reducible refine nil_row2 (fun _ => ?_) ?_
               | with_reducible refine len_toks (fun _ => ?_)
               | with_reducible refine len_ints (fun _ => ?_)
               | with_reducible refine tok_known (by assumption) (by omega) ?_
               | with_reducible refine at_tok (by omega) (by omega) (fun _ _ => ?_)
               | with_reducible refine at_int (by omega) (by omega) (fun _ _ => ?_)
               | with_reducible refine slice_ints (by omega) (by omega) (by omega) ?_
               | refine ris_e hE (by decide) hb3 ?_
               | refine rtake_e (take_is hE (by decide)) hb3 ?_
               | refine app_m (l := l) (x := leafT (nextM s3).1) j1 hn (fun own' ho' => ?_)
               | with_reducible refine draw_head ?_)
    all_goals conv => whnf
    have hd3 := isF_mu hE (by decide) (by decide)
    refine ⟨(l ++ [leafT (nextM s3).1], (nextM s3).2.1, own'), ⟨ho', ?_, by show mu (nextM s3).2.1 ≤ _; omega, ?_⟩, hd3, (by refine ⟨rfl, ?_, ?_, rfl⟩ <;> repeat' (first | exact trivial | exact rfl | refine And.intro ?_ ?_)), St.le_refl _⟩
    · show (l ++ [leafT (nextM s3).1]).length + mu (nextM s3).2.1 ≤ _
      rw [List.length_append, List.length_singleton]
      omega
    · show commaL (l ++ [leafT (nextM s3).1]) (nextM s3).2.1 = _
      rw [← j7, commaL_at (l := l) hE]
  | false =>
    rw [commaL_end hE] at h
    unfold finP at h
    cases hq : wantP s3 15 [41] with
    | inl p =>
      obtain ⟨e, s'⟩ := p
      rw [hq] at h
      have hne : ¬ e = 0 := bads_want _ _ _ hq
      repeat' (conv => whnf
               first
                 | with_reducible exact quiet_same
                 | with_reducible exact quiet_bool
                 | with_reducible exact quiet_not
                 | with_reducible refine draw_step (by kernel_rfl) ?_
                 | with_reducible refine quiet_go ?_ ?_ ?_
                 | with_reducible refine bcase_yes (by first | assumption | omega) ?_
                 | with_reducible refine bcase_no (by first | assumption | omega) ?_
                 | with_reducible refine bcase_dyes (by omega) ?_
                 | with_reducible refine bcase_dno (by omega) ?_
                 | with_reducible refine bcase_len (by decide) (fun _ => ?_) (fun _ => ?_)
                 | with_reducible refine bcase_eq (fun _ => ?_) (fun _ => ?_)
                 | with_reducible refine bcase_dec (fun _ => ?_) (fun _ => ?_)
                 | with_reducible refine bcase_true ?_
                 | with_reducible refine bcase_false ?_
                 | with_reducible refine bcase_intro (fun _ => ?_) (fun _ => ?_)
                 | with_reducible refine len_kids (fun _ => ?_)
                 | with_reducible refine at_known (by assumption) (by omega) ?_
                 | with_reducible refine at_kid (by omega) (by omega) (fun _ _ _ => ?_)
                 | with_reducible refine tail_kids (by omega) (by omega) ?_
                 | with_reducible refine slice_kids (by omega) (by omega) (by omega) ?_
                 | with_reducible refine ex_wrap (by omega) (by omega) ?_
                 | with_reducible refine quo_step (by decide) (by omega) (by omega) ?_
                 | with_reducible refine rem_step (by decide) ?_
                 | with_reducible refine nil_row (fun _ => ?_) ?_
                 | with_reducible refine nil_row2 (fun _ => ?_) ?_
                 | with_reducible refine len_toks (fun _ => ?_)
                 | with_reducible refine len_ints (fun _ => ?_)
                 | with_reducible refine tok_known (by assumption) (by omega) ?_
                 | with_reducible refine at_tok (by omega) (by omega) (fun _ _ => ?_)
                 | with_reducible refine at_int (by omega) (by omega) (fun _ _ => ?_)
                 | with_reducible refine slice_ints (by omega) (by omega) (by omega) ?_
                 | refine ris_e hE (by decide) hb3 ?_
                 | refine rwant_e hq (by decide) hb3 ?_
                 | with_reducible refine draw_head ?_)
      all_goals exact finl (Own.good_le j1) rfl h
    | inr p =>
      obtain ⟨n, s'⟩ := p
      rw [hq] at h
      repeat' (conv => whnf
               first
                 | with_reducible exact quiet_same
                 | with_reducible exact quiet_bool
                 | with_reducible exact quiet_not
                 | with_reducible refine draw_step (by kernel_rfl) ?_
                 | with_reducible refine quiet_go ?_ ?_ ?_
                 | with_reducible refine bcase_yes (by first | assumption | omega) ?_
                 | with_reducible refine bcase_no (by first | assumption | omega) ?_
                 | with_reducible refine bcase_dyes (by omega) ?_
                 | with_reducible refine bcase_dno (by omega) ?_
                 | with_reducible refine bcase_len (by decide) (fun _ => ?_) (fun _ => ?_)
                 | with_reducible refine bcase_eq (fun _ => ?_) (fun _ => ?_)
                 | with_reducible refine bcase_dec (fun _ => ?_) (fun _ => ?_)
                 | with_reducible refine bcase_true ?_
                 | with_reducible refine bcase_false ?_
                 | with_reducible refine bcase_intro (fun _ => ?_) (fun _ => ?_)
                 | with_reducible refine len_kids (fun _ => ?_)
                 | with_reducible refine at_known (by assumption) (by omega) ?_
                 | with_reducible refine at_kid (by omega) (by omega) (fun _ _ _ => ?_)
                 | with_reducible refine tail_kids (by omega) (by omega) ?_
                 | with_reducible refine slice_kids (by omega) (by omega) (by omega) ?_
                 | with_reducible refine ex_wrap (by omega) (by omega) ?_
                 | with_reducible refine quo_step (by decide) (by omega) (by omega) ?_
                 | with_reducible refine rem_step (by decide) ?_
                 | with_reducible refine nil_row (fun _ => ?_) ?_
                 | with_reducible refine nil_row2 (fun _ => ?_) ?_
                 | with_reducible refine len_toks (fun _ => ?_)
                 | with_reducible refine len_ints (fun _ => ?_)
                 | with_reducible refine tok_known (by assumption) (by omega) ?_
                 | with_reducible refine at_tok (by omega) (by omega) (fun _ _ => ?_)
                 | with_reducible refine at_int (by omega) (by omega) (fun _ _ => ?_)
                 | with_reducible refine slice_ints (by omega) (by omega) (by omega) ?_
                 | refine ris_e hE (by decide) hb3 ?_
                 | refine rwant_e hq (by decide) hb3 ?_
                 | refine app_m (l := l) (x := n) j1 hn (fun own' ho' => ?_)
                 | with_reducible refine draw_head ?_)
      all_goals exact finl (Own.good_le ho') fin_nodeQ h
end
end Go.Proofs.Ytngbihfihdheoaa
