/-
  TYPES: full.
-/
import Derived.Test.YtngbihfihdheoaaTyp10
set_option linter.unusedVariables false
set_option pp.maxSteps 400
namespace Go.Proofs.Ytngbihfihdheoaa
open Go Go.Aw
section
variable {st : St} {R : Res → St → Prop}
attribute [local irreducible] Go.Aw.appendTo
theorem full_c {d : Int} {A : Sta → Rs} (hr : Reads0 39 d (rowP A)) (ha : ReadsN 45 d (arrowsP A)) (hw : Reads0 28 d (wholeP A)) (hF : Falls A) : Reads0 34 d (fullP A) := by
  intro s hm b st R hs h
  refine pcalls_of_body tys_ok [] Try.func34 rfl (by decide) ?_
  unfold fullP at h
  have hm1 : ∀ {n1 s1}, rowP A s = .inr (n1, s1) → mu s1 ≤ 100000000 := fun e => by have := falls_row hF _ _ _ e; omega
  have hm2 : ∀ {n1 s1}, rowP A s = .inr (n1, s1) → isF s1 10 [61, 62] = true → mu (nextM s1).2.1 ≤ 100000000 := fun e i => by have := hm1 e; have := isF_mu i (by decide) (by decide); omega
  repeat' (conv => whnf
           first
             | with_reducible exact quiet_same
             | with_reducible exact quiet_bool
             | with_reducible exact quiet_not
             | with_reducible refine draw_step (by kernel_rfl) ?_
             | with_reducible refine quiet_go ?_ ?_ ?_
             | with_reducible refine bcase_yes (by first | assumption | omega) ?_
             | with_reducible refine bcase_no (by first | assumption | omega) ?_
             | with_reducible refine bcase_dyes (by omega) ?_
             | with_reducible refine bcase_dno (by omega) ?_
             | with_reducible refine bcase_len (by decide) (fun _ => ?_) (fun _ => ?_)
             | with_reducible refine bcase_eq (fun _ => ?_) (fun _ => ?_)
             | with_reducible refine bcase_dec (fun _ => ?_) (fun _ => ?_)
             | with_reducible refine bcase_true ?_
             | with_reducible refine bcase_false ?_
             | with_reducible refine bcase_intro (fun _ => ?_) (fun _ => ?_)
             | with_reducible refine len_kids (fun _ => ?_)
             | with_reducible refine at_known (by assumption) (by omega) ?_
             | with_reducible refine at_kid (by omega) (by omega) (fun _ _ _ => ?_)
             | with_reducible refine tail_kids (by omega) (by omega) ?_
             | with_reducible refine slice_kids (by omega) (by omega) (by omega) ?_
             | with_reducible refine ex_wrap (by omega) (by omega) ?_
             | with_reducible refine quo_step (by decide) (by omega) (by omega) ?_
             | with_reducible refine rem_step (by decide) ?_
             | with_reducible refine nil_row (fun _ => ?_) ?_
             | with_reducible refine nil_row2 (fun _ => ?_) ?_
             | with_reducible refine len_toks (fun _ => ?_)
             | with_reducible refine len_ints (fun _ => ?_)
             | with_reducible refine tok_known (by assumption) (by omega) ?_
             | with_reducible refine at_tok (by omega) (by omega) (fun _ _ => ?_)
             | with_reducible refine at_int (by omega) (by omega) (fun _ _ => ?_)
             | with_reducible refine slice_ints (by omega) (by omega) (by omega) ?_
             | refine hr s hm b _ _ hs (tells_of (fun n1 s1 hq1 st1 h1 => ?_) (fun e1 s1 hq1 st1 h1 => ?_))
             | refine is_c h1.1 (opn_le (hm1 hq1)) ?_
             | refine ha n1 s1 (hm1 hq1) b _ _ look_has (tells_of (fun n2 s2 hq2 st2 h2 => ?_) (fun e2 s2 hq2 st2 h2 => ?_))
             | refine draw_mix [(0, true), (1, true), (3, true), (4, true), (2, false), (5, false), (6, true), (7, true), (8, false)] [0] (by kernel_rfl) ?_
             | refine take_r look_has (opn_le (hm1 hq1)) (tells_r (take_is (by assumption) (by decide)) (fun st2 h2 => ?_))
             | refine hw (nextM s1).2.1 (hm2 hq1 (by assumption)) b _ _ h2.1 (tells_of (fun n3 s3 hq3 st3 h3 => ?_) (fun e3 s3 hq3 st3 h3 => ?_))
             | with_reducible refine draw_head ?_)
  all_goals rw [hq1] at h
  all_goals dsimp only at h
  · rw [if_pos (by assumption), hq3] at h
    exact finl (St.le_refl _) (fin_node (l := [n1, leafT (nextM s1).1, n3])) (h st3 ((h1.trans upd_look).trans (h2.trans h3)))
  · rw [if_pos (by assumption), hq3] at h
    intro e'
    exact fin (h st3 ((h1.trans upd_look).trans (h2.trans h3))) rfl
  · rw [if_neg (Bool.eq_false_iff.1 (by assumption)), hq2] at h
    exact finw rfl (h st2 ((h1.trans upd_look).trans h2))
  · rw [if_neg (Bool.eq_false_iff.1 (by assumption)), hq2] at h
    exact fin (h st2 ((h1.trans upd_look).trans h2)) rfl
  · exact fin (h st1 h1) rfl

theorem full_all {d : Nat} (hd : d + 1 ≤ 1000000) (h : Calls3 11 (d : Int) (typeP d)) : Reads0 34 ((d + 1 : Nat) : Int) (fullP (atomP (typeP d))) :=
  full_c (row_all hd h) (arrows_c (row_all hd h) (falls_atom (falls_type d))) (whole_all hd h) (falls_atom (falls_type d))
theorem fullX {deep : Int} : Calls3 14 deep (fullP (atomP (typeP (depF deep - 1)))) := fullX_c fun h => by
  rw [dep_eq h]
  have := dep_le deep
  exact full_all (by omega) (type_all _ (by omega))
end
end Go.Proofs.Ytngbihfihdheoaa
