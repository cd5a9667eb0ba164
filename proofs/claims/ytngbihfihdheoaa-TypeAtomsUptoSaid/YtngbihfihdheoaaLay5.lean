/-
  LAYOUT: the document's Next.
-/
import Derived.Test.YtngbihfihdheoaaLay4
set_option linter.unusedVariables false
set_option pp.maxSteps 400
namespace Go.Proofs.Ytngbihfihdheoaa
open Go Go.Aw

theorem topF_nonneg {s : Sta} (h : (s.opn.any fun x => decide (x < 0)) = false) : 0 ≤ topF s := by
  unfold topF
  cases hl : s.opn.getLast? with
  | none => exact Int.le_refl _
  | some x =>
    have hx := List.mem_of_getLast? hl
    simp only [List.any_eq_false, decide_eq_true_eq] at h
    have := h x hx
    show 0 ≤ x
    omega

section
variable {st : St} {R : Res → St → Prop}
attribute [local irreducible] Go.Aw.appendTo

set_option maxHeartbeats 4000000 in
theorem rnext_c {s : Sta} (hb : s.opn.length ≤ 500000000) (h : R (.ret (encTSE (nextM s))) st) : PC 50 [encS s] st R := by
  refine pcalls_of_body tys_ok [] Try.func50 rfl (by decide) ?_
  unfold nextM at h
  repeat' (conv => whnf
           first
             | with_reducible exact quiet_same
             | with_reducible exact quiet_bool
             | with_reducible exact quiet_not
             | with_reducible refine draw_step (by kernel_rfl) ?_
             | with_reducible refine quiet_go ?_ ?_ ?_
             | with_reducible refine bcase_yes (by first | assumption | omega) ?_
             | with_reducible refine bcase_no (by first | assumption | omega) ?_
             | with_reducible refine bcase_dyes (by omega) ?_
             | with_reducible refine bcase_dno (by omega) ?_
             | with_reducible refine bcase_len (by decide) (fun _ => ?_) (fun _ => ?_)
             | with_reducible refine bcase_eq (fun _ => ?_) (fun _ => ?_)
             | with_reducible refine bcase_dec (fun _ => ?_) (fun _ => ?_)
             | with_reducible refine bcase_true ?_
             | with_reducible refine bcase_false ?_
             | with_reducible refine bcase_intro (fun _ => ?_) (fun _ => ?_)
             | with_reducible refine len_kids (fun _ => ?_)
             | with_reducible refine at_known (by assumption) (by omega) ?_
             | with_reducible refine at_kid (by omega) (by omega) (fun _ _ _ => ?_)
             | with_reducible refine tail_kids (by omega) (by omega) ?_
             | with_reducible refine slice_kids (by omega) (by omega) (by omega) ?_
             | with_reducible refine ex_wrap (by omega) (by omega) ?_
             | with_reducible refine quo_step (by decide) (by omega) (by omega) ?_
             | with_reducible refine rem_step (by decide) ?_
             | with_reducible refine nil_row (fun _ => ?_) ?_
             | with_reducible refine nil_row2 (fun _ => ?_) ?_
             | with_reducible refine len_toks (fun _ => ?_)
             | with_reducible refine len_ints (fun _ => ?_)
             | with_reducible refine tok_known (by assumption) (by omega) ?_
             | with_reducible refine at_tok (by omega) (by omega) (fun _ _ => ?_)
             | with_reducible refine at_int (by omega) (by omega) (fun _ _ => ?_)
             | with_reducible refine slice_ints (by omega) (by omega) (by omega) ?_
             | refine right_c (s := s) ?_
             | with_reducible refine draw_head ?_)
  · rename_i e
    rw [e, if_pos rfl] at h
    have hm := e
    unfold mayF at hm
    simp only [Bool.and_eq_true, decide_eq_true_eq] at hm
    refine loop_h (α := Sta) (fun x => []) [1, 2, 3, 4] (fun x => [(0, x.cells)]) [1, 2] (fun _ => st) (fun x => x.toks = s.toks ∧ x.opn = s.opn ∧ 0 ≤ x.pos ∧ x.pos ≤ x.toks.length ∧ 0 ≤ x.wait ∧ x.wait ≤ 2 ∧ nextF x = nextF s) (fun x => x.toks.length - x.pos.toNat) s ⟨rfl, rfl, by omega, by omega, by omega, by omega, rfl⟩ (by refine ⟨rfl, ?_, ?_, rfl⟩ <;> repeat' (first | exact trivial | exact rfl | refine And.intro ?_ ?_)) (St.le_refl _) ?_
    rintro x ⟨x1, x2, x3, x4, x6, x7, x5⟩
    rw [← x5] at h
    have hb' : x.opn.length ≤ 500000000 := by rw [x2]; exact hb
    have ht : 0 ≤ topF x := topF_nonneg (by rw [x2]; simpa using hm.2)
    repeat' (conv => whnf
             first
               | with_reducible exact quiet_same
               | with_reducible exact quiet_bool
               | with_reducible exact quiet_not
               | with_reducible refine draw_step (by kernel_rfl) ?_
               | with_reducible refine quiet_go ?_ ?_ ?_
               | with_reducible refine bcase_yes (by first | assumption | omega) ?_
               | with_reducible refine bcase_no (by first | assumption | omega) ?_
               | with_reducible refine bcase_dyes (by omega) ?_
               | with_reducible refine bcase_dno (by omega) ?_
               | with_reducible refine bcase_len (by decide) (fun _ => ?_) (fun _ => ?_)
               | with_reducible refine bcase_eq (fun _ => ?_) (fun _ => ?_)
               | with_reducible refine bcase_dec (fun _ => ?_) (fun _ => ?_)
               | with_reducible refine bcase_true ?_
               | with_reducible refine bcase_false ?_
               | with_reducible refine bcase_intro (fun _ => ?_) (fun _ => ?_)
               | with_reducible refine len_kids (fun _ => ?_)
               | with_reducible refine at_known (by assumption) (by omega) ?_
               | with_reducible refine at_kid (by omega) (by omega) (fun _ _ _ => ?_)
               | with_reducible refine tail_kids (by omega) (by omega) ?_
               | with_reducible refine slice_kids (by omega) (by omega) (by omega) ?_
               | with_reducible refine ex_wrap (by omega) (by omega) ?_
               | with_reducible refine quo_step (by decide) (by omega) (by omega) ?_
               | with_reducible refine rem_step (by decide) ?_
               | with_reducible refine nil_row (fun _ => ?_) ?_
               | with_reducible refine nil_row2 (fun _ => ?_) ?_
               | with_reducible refine len_toks (fun _ => ?_)
               | with_reducible refine len_ints (fun _ => ?_)
               | with_reducible refine tok_known (by assumption) (by omega) ?_
               | with_reducible refine at_tok (by omega) (by omega) (fun _ _ => ?_)
               | with_reducible refine at_int (by omega) (by omega) (fun _ _ => ?_)
               | with_reducible refine slice_ints (by omega) (by omega) (by omega) ?_
               | refine at_c ?_
               | refine rtop_c (s := x) ?_
               | refine push_c (s := x) hb' ?_
               | refine pop_c (s := x) (ne_of_len (by assumption)) hb' ?_
               | refine pop_c (s := x) (topF_open (by omega)) hb' ?_
               | refine ex_wrap (a := x.pos + 1) (by omega) (by omega) ?_
               | with_reducible refine draw_head ?_)
    all_goals first
      | (rw [nextF_at (by assumption) x3, if_pos (by omega)] at h
         unfold beginF at h
         first
           | (rw [if_pos (by omega)] at h; exact finw rfl h)
           | (rw [if_neg (by omega), if_pos (by omega)] at h; exact finw rfl h)
           | (rw [if_neg (by omega), if_neg (by omega)] at h; exact finw rfl h))
      | (have hz : (lineF ‹Tk› x).1.kind = 0 := by
           unfold lineF
           rw [if_neg (by omega), if_neg (by omega)]; rfl
         refine ⟨{ x with pos := x.pos + 1, wait := 0 }, ?_, ?_, (by refine ⟨rfl, ?_, ?_, rfl⟩ <;> repeat' (first | exact trivial | exact rfl | refine And.intro ?_ ?_)), St.le_refl _⟩
         · refine ⟨x1, x2, by show 0 ≤ x.pos + 1; omega, by show x.pos + 1 ≤ x.toks.length; omega, Int.le_refl _, by show (0 : Int) ≤ 2; decide, ?_⟩
           rw [← x5, nextF_at (s := x) (by assumption) x3, if_neg (by omega), if_pos (by omega), if_pos hz, lineF_zero hz]
         · show x.toks.length - (x.pos + 1).toNat < _
           omega)
      | (rw [nextF_at (by assumption) x3, if_neg (by omega), if_pos (by omega)] at h
         first
           | (have key : lineF ‹Tk› x = (unwF 20 ‹Tk›, closedF x) := by unfold lineF; rw [if_pos (by omega)]
              rw [key, if_neg (by simp [unwF])] at h; exact finw rfl h)
           | (have key : lineF ‹Tk› x = (unwF 19 ‹Tk›, { x with pos := x.pos + 1, wait := 0 }) := by unfold lineF; rw [if_neg (by omega), if_pos (by omega)]
              rw [key, if_neg (by simp [unwF])] at h; exact finw rfl h))
      | (rw [nextF_at (by assumption) x3, if_neg (by omega), if_neg (by omega)] at h
         unfold braceF at h
         first
          | (rw [if_pos ⟨by assumption, by assumption⟩] at h; exact finw rfl h)
          | (rw [if_neg (fun e => absurd e.2 (by rw [‹Tk.text _ = [125]›]; decide)), if_pos ⟨by assumption, by assumption⟩, if_pos (.inl (of_len (by assumption)))] at h; exact finw rfl h)
          | (rw [if_neg (fun e => absurd e.2 (by rw [‹Tk.text _ = [125]›]; decide)), if_pos ⟨by assumption, by assumption⟩, if_pos (.inr (by omega))] at h; exact finw rfl h)
          | (rw [if_neg (fun e => absurd e.2 (by rw [‹Tk.text _ = [125]›]; decide)), if_pos ⟨by assumption, by assumption⟩, if_neg (fun e => e.elim (ne_of_len (by assumption)) (fun e => e (by omega)))] at h; exact finw rfl h)
          | (rw [if_neg (fun e => absurd e.1 (by assumption)), if_neg (fun e => absurd e.1 (by assumption))] at h; exact finw rfl h)
          | (rw [if_neg (fun e => absurd e.2 (by assumption)), if_neg (fun e => absurd e.2 (by assumption))] at h; exact finw rfl h))
      | (rw [nextF_end (by omega) x3] at h
         unfold endF at h
         first
          | (rw [if_pos (of_len (by assumption))] at h; exact finw rfl h)
          | (rw [if_neg (ne_of_len (by assumption)), if_pos (by assumption)] at h; exact finw rfl h)
          | (rw [if_neg (ne_of_len (by assumption)), if_neg (by assumption)] at h; exact finw rfl h))
    all_goals trace_state
  · rename_i e
    rw [e] at h
    exact finw rfl h
end
end Go.Proofs.Ytngbihfihdheoaa
