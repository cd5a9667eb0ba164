/-
  LAYOUT: the document's answer, and that it is the same.
-/
import Derived.Test.YtngbihfihdheoaaLay3
set_option linter.unusedVariables false
set_option pp.maxSteps 400
namespace Go.Proofs.Ytngbihfihdheoaa
open Go Go.Aw

section
variable {st : St} {R : Res → St → Prop}
attribute [local irreducible] Go.Aw.appendTo

theorem rtop_c {s : Sta} (h : R (.ret (.int .i64 (topF s))) st) : PC 67 [encS s] st R := by
  refine pcalls_of_body tys_ok [] Try.func67 rfl (by decide) ?_
  repeat' (conv => whnf
           first
             | with_reducible exact quiet_same
             | with_reducible exact quiet_bool
             | with_reducible exact quiet_not
             | with_reducible refine draw_step (by kernel_rfl) ?_
             | with_reducible refine quiet_go ?_ ?_ ?_
             | with_reducible refine bcase_yes (by first | assumption | omega) ?_
             | with_reducible refine bcase_no (by first | assumption | omega) ?_
             | with_reducible refine bcase_dyes (by omega) ?_
             | with_reducible refine bcase_dno (by omega) ?_
             | with_reducible refine bcase_len (by decide) (fun _ => ?_) (fun _ => ?_)
             | with_reducible refine bcase_eq (fun _ => ?_) (fun _ => ?_)
             | with_reducible refine bcase_dec (fun _ => ?_) (fun _ => ?_)
             | with_reducible refine bcase_true ?_
             | with_reducible refine bcase_false ?_
             | with_reducible refine bcase_intro (fun _ => ?_) (fun _ => ?_)
             | with_reducible refine len_kids (fun _ => ?_)
             | with_reducible refine at_known (by assumption) (by omega) ?_
             | with_reducible refine at_kid (by omega) (by omega) (fun _ _ _ => ?_)
             | with_reducible refine tail_kids (by omega) (by omega) ?_
             | with_reducible refine slice_kids (by omega) (by omega) (by omega) ?_
             | with_reducible refine ex_wrap (by omega) (by omega) ?_
             | with_reducible refine quo_step (by decide) (by omega) (by omega) ?_
             | with_reducible refine rem_step (by decide) ?_
             | with_reducible refine nil_row (fun _ => ?_) ?_
             | with_reducible refine nil_row2 (fun _ => ?_) ?_
             | with_reducible refine len_toks (fun _ => ?_)
             | with_reducible refine len_ints (fun _ => ?_)
             | with_reducible refine tok_known (by assumption) (by omega) ?_
             | with_reducible refine at_tok (by omega) (by omega) (fun _ _ => ?_)
             | with_reducible refine at_int (by omega) (by omega) (fun _ _ => ?_)
             | with_reducible refine slice_ints (by omega) (by omega) (by omega) ?_
             | with_reducible refine draw_head ?_)
  · rename_i e
    exact fin h (by rw [topF_nil (by omega)])
  · exact fin h (by rw [topF_last (by assumption)])
theorem at_c {k : Int} {t : Tk} (h : R (.ret (encT (unwF k t))) st) : PC 69 [.int .i64 k, encT t] st R := by
  refine pcalls_of_body tys_ok [] Try.func69 rfl (by decide) ?_
  repeat' (conv => whnf
           first
             | with_reducible exact quiet_same
             | with_reducible exact quiet_bool
             | with_reducible exact quiet_not
             | with_reducible refine draw_step (by kernel_rfl) ?_
             | with_reducible refine quiet_go ?_ ?_ ?_
             | with_reducible refine bcase_yes (by first | assumption | omega) ?_
             | with_reducible refine bcase_no (by first | assumption | omega) ?_
             | with_reducible refine bcase_dyes (by omega) ?_
             | with_reducible refine bcase_dno (by omega) ?_
             | with_reducible refine bcase_len (by decide) (fun _ => ?_) (fun _ => ?_)
             | with_reducible refine bcase_eq (fun _ => ?_) (fun _ => ?_)
             | with_reducible refine bcase_dec (fun _ => ?_) (fun _ => ?_)
             | with_reducible refine bcase_true ?_
             | with_reducible refine bcase_false ?_
             | with_reducible refine bcase_intro (fun _ => ?_) (fun _ => ?_)
             | with_reducible refine len_kids (fun _ => ?_)
             | with_reducible refine at_known (by assumption) (by omega) ?_
             | with_reducible refine at_kid (by omega) (by omega) (fun _ _ _ => ?_)
             | with_reducible refine tail_kids (by omega) (by omega) ?_
             | with_reducible refine slice_kids (by omega) (by omega) (by omega) ?_
             | with_reducible refine ex_wrap (by omega) (by omega) ?_
             | with_reducible refine quo_step (by decide) (by omega) (by omega) ?_
             | with_reducible refine rem_step (by decide) ?_
             | with_reducible refine nil_row (fun _ => ?_) ?_
             | with_reducible refine nil_row2 (fun _ => ?_) ?_
             | with_reducible refine len_toks (fun _ => ?_)
             | with_reducible refine len_ints (fun _ => ?_)
             | with_reducible refine tok_known (by assumption) (by omega) ?_
             | with_reducible refine at_tok (by omega) (by omega) (fun _ _ => ?_)
             | with_reducible refine at_int (by omega) (by omega) (fun _ _ => ?_)
             | with_reducible refine slice_ints (by omega) (by omega) (by omega) ?_
             | with_reducible refine draw_head ?_)
  all_goals exact fin h rfl
theorem push_c {s : Sta} {c : Int} (hb : s.opn.length ≤ 500000000) (h : R (.ret (encS (openedF s c))) st) : PC 68 [encS s, .int .i64 c] st R := by
  refine pcalls_of_body tys_ok [] Try.func68 rfl (by decide) ?_
  have hb1 : ([] : List Int).length + s.opn.length ≤ 1000000000 := by simp only [List.length_nil]; omega
  have hb2 : s.opn.length + [c].length ≤ 1000000000 := by simp only [List.length_singleton]; omega
  repeat' (conv => whnf
           first
             | with_reducible exact quiet_same
             | with_reducible exact quiet_bool
             | with_reducible exact quiet_not
             | with_reducible refine draw_step (by kernel_rfl) ?_
             | with_reducible refine quiet_go ?_ ?_ ?_
             | with_reducible refine bcase_yes (by first | assumption | omega) ?_
             | with_reducible refine bcase_no (by first | assumption | omega) ?_
             | with_reducible refine bcase_dyes (by omega) ?_
             | with_reducible refine bcase_dno (by omega) ?_
             | with_reducible refine bcase_len (by decide) (fun _ => ?_) (fun _ => ?_)
             | with_reducible refine bcase_eq (fun _ => ?_) (fun _ => ?_)
             | with_reducible refine bcase_dec (fun _ => ?_) (fun _ => ?_)
             | with_reducible refine bcase_true ?_
             | with_reducible refine bcase_false ?_
             | with_reducible refine bcase_intro (fun _ => ?_) (fun _ => ?_)
             | with_reducible refine len_kids (fun _ => ?_)
             | with_reducible refine at_known (by assumption) (by omega) ?_
             | with_reducible refine at_kid (by omega) (by omega) (fun _ _ _ => ?_)
             | with_reducible refine tail_kids (by omega) (by omega) ?_
             | with_reducible refine slice_kids (by omega) (by omega) (by omega) ?_
             | with_reducible refine ex_wrap (by omega) (by omega) ?_
             | with_reducible refine quo_step (by decide) (by omega) (by omega) ?_
             | with_reducible refine rem_step (by decide) ?_
             | with_reducible refine nil_row (fun _ => ?_) ?_
             | with_reducible refine nil_row2 (fun _ => ?_) ?_
             | with_reducible refine len_toks (fun _ => ?_)
             | with_reducible refine len_ints (fun _ => ?_)
             | with_reducible refine tok_known (by assumption) (by omega) ?_
             | with_reducible refine at_tok (by omega) (by omega) (fun _ _ => ?_)
             | with_reducible refine at_int (by omega) (by omega) (fun _ _ => ?_)
             | with_reducible refine slice_ints (by omega) (by omega) (by omega) ?_
             | refine app_ints (l := []) (own := .full) trivial hb1 (fun own ho => ?_)
             | refine app_ints (l := [] ++ s.opn) (new := [c]) ho hb2 (fun own' ho' => ?_)
             | with_reducible refine draw_head ?_)
  all_goals exact finl (Own.good_le ho') rfl h
theorem pop_c {s : Sta} (h0 : s.opn ≠ []) (hb : s.opn.length ≤ 500000000) (h : R (.ret (encS (closedF s))) st) : PC 70 [encS s] st R := by
  refine pcalls_of_body tys_ok [] Try.func70 rfl (by decide) ?_
  have hl : 0 < s.opn.length := List.length_pos_iff.2 h0
  have hd : (s.opn.take (((s.opn.length : Int) - 1).toNat)).drop (0 : Int).toNat = s.opn.dropLast := by
    rw [show (0 : Int).toNat = 0 from rfl, List.drop_zero, List.dropLast_eq_take]
    congr 1
    omega
  have hb1 : ([] : List Int).length + s.opn.dropLast.length ≤ 1000000000 := by rw [List.length_dropLast, List.length_nil]; omega
  repeat' (conv => whnf
           first
             | with_reducible exact quiet_same
             | with_reducible exact quiet_bool
             | with_reducible exact quiet_not
             | with_reducible refine draw_step (by kernel_rfl) ?_
             | with_reducible refine quiet_go ?_ ?_ ?_
             | with_reducible refine bcase_yes (by first | assumption | omega) ?_
             | with_reducible refine bcase_no (by first | assumption | omega) ?_
             | with_reducible refine bcase_dyes (by omega) ?_
             | with_reducible refine bcase_dno (by omega) ?_
             | with_reducible refine bcase_len (by decide) (fun _ => ?_) (fun _ => ?_)
             | with_reducible refine bcase_eq (fun _ => ?_) (fun _ => ?_)
             | with_reducible refine bcase_dec (fun _ => ?_) (fun _ => ?_)
             | with_reducible refine bcase_true ?_
             | with_reducible refine bcase_false ?_
             | with_reducible refine bcase_intro (fun _ => ?_) (fun _ => ?_)
             | with_reducible refine len_kids (fun _ => ?_)
             | with_reducible refine at_known (by assumption) (by omega) ?_
             | with_reducible refine at_kid (by omega) (by omega) (fun _ _ _ => ?_)
             | with_reducible refine tail_kids (by omega) (by omega) ?_
             | with_reducible refine slice_kids (by omega) (by omega) (by omega) ?_
             | with_reducible refine ex_wrap (by omega) (by omega) ?_
             | with_reducible refine quo_step (by decide) (by omega) (by omega) ?_
             | with_reducible refine rem_step (by decide) ?_
             | with_reducible refine nil_row (fun _ => ?_) ?_
             | with_reducible refine nil_row2 (fun _ => ?_) ?_
             | with_reducible refine len_toks (fun _ => ?_)
             | with_reducible refine len_ints (fun _ => ?_)
             | with_reducible refine tok_known (by assumption) (by omega) ?_
             | with_reducible refine at_tok (by omega) (by omega) (fun _ _ => ?_)
             | with_reducible refine at_int (by omega) (by omega) (fun _ _ => ?_)
             | with_reducible refine slice_ints (by omega) (by omega) (by omega) ?_
             | refine app_ints_e hd (l := []) (own := .full) trivial hb1 (fun own ho => ?_)
             | with_reducible refine draw_head ?_)
  all_goals exact finl (Own.good_le ho) rfl h

def negG (l : List Int) : Bool := l.any fun x => decide (x < 0)
theorem negG_cons {x : Int} {r : List Int} : negG (x :: r) = (decide (x < 0) || negG r) := rfl
theorem right_c {s : Sta} (h : R (.ret (.bool (mayF s))) st) : PC 66 [encS s] st R := by
  refine pcalls_of_body tys_ok [] Try.func66 rfl (by decide) ?_
  have bad : (s.pos < 0 ∨ (s.toks.length : Int) < s.pos ∨ s.wait < 0 ∨ 2 < s.wait ∨ 0 < s.wait ∧ (s.pos = s.toks.length ∨ ∃ t, s.toks[s.pos.toNat]? = some t ∧ ¬ t.kind = 16)) → mayF s = false := by
    intro e
    unfold mayF
    rcases e with e | e | e | e | ⟨e1, e | ⟨t, e2, e3⟩⟩
    · rw [show decide (0 ≤ s.pos) = false from decide_eq_false (by omega)]; simp only [Bool.false_and]
    · rw [show decide (s.pos ≤ s.toks.length) = false from decide_eq_false (by omega)]; simp only [Bool.false_and, Bool.and_false]
    · rw [show decide (0 ≤ s.wait) = false from decide_eq_false (by omega)]; simp only [Bool.false_and, Bool.and_false]
    · rw [show decide (s.wait ≤ 2) = false from decide_eq_false (by omega)]; simp only [Bool.false_and, Bool.and_false]
    · have hn : s.toks[s.pos.toNat]? = none := List.getElem?_eq_none (by omega)
      rw [hn, show decide (s.wait ≤ 0) = false from decide_eq_false (by omega)]; simp only [Bool.false_and, Bool.and_false, Bool.or_false]
    · rw [e2, show decide (s.wait ≤ 0) = false from decide_eq_false (by omega)]; simp [e3]
  have good : ¬ s.pos < 0 → ¬ (s.toks.length : Int) < s.pos → ¬ s.wait < 0 → ¬ 2 < s.wait → (¬ 0 < s.wait ∨ ∃ t, s.toks[s.pos.toNat]? = some t ∧ t.kind = 16) → mayF s = !negG s.opn := by
    intro a b c d e
    unfold mayF negG
    rw [show decide (0 ≤ s.pos) = true from decide_eq_true (by omega), show decide (s.pos ≤ s.toks.length) = true from decide_eq_true (by omega), show decide (0 ≤ s.wait) = true from decide_eq_true (by omega), show decide (s.wait ≤ 2) = true from decide_eq_true (by omega)]
    rcases e with e | ⟨t, e1, e2⟩
    · rw [show decide (s.wait ≤ 0) = true from decide_eq_true (by omega)]; simp only [Bool.true_and, Bool.true_or]
    · rw [e1]; simp [e2]
  repeat' (conv => whnf
           first
             | with_reducible exact quiet_same
             | with_reducible exact quiet_bool
             | with_reducible exact quiet_not
             | with_reducible refine draw_step (by kernel_rfl) ?_
             | with_reducible refine quiet_go ?_ ?_ ?_
             | with_reducible refine bcase_yes (by first | assumption | omega) ?_
             | with_reducible refine bcase_no (by first | assumption | omega) ?_
             | with_reducible refine bcase_dyes (by omega) ?_
             | with_reducible refine bcase_dno (by omega) ?_
             | with_reducible refine bcase_len (by decide) (fun _ => ?_) (fun _ => ?_)
             | with_reducible refine bcase_eq (fun _ => ?_) (fun _ => ?_)
             | with_reducible refine bcase_dec (fun _ => ?_) (fun _ => ?_)
             | with_reducible refine bcase_true ?_
             | with_reducible refine bcase_false ?_
             | with_reducible refine bcase_intro (fun _ => ?_) (fun _ => ?_)
             | with_reducible refine len_kids (fun _ => ?_)
             | with_reducible refine at_known (by assumption) (by omega) ?_
             | with_reducible refine at_kid (by omega) (by omega) (fun _ _ _ => ?_)
             | with_reducible refine tail_kids (by omega) (by omega) ?_
             | with_reducible refine slice_kids (by omega) (by omega) (by omega) ?_
             | with_reducible refine ex_wrap (by omega) (by omega) ?_
             | with_reducible refine quo_step (by decide) (by omega) (by omega) ?_
             | with_reducible refine rem_step (by decide) ?_
             | with_reducible refine nil_row (fun _ => ?_) ?_
             | with_reducible refine nil_row2 (fun _ => ?_) ?_
             | with_reducible refine len_toks (fun _ => ?_)
             | with_reducible refine len_ints (fun _ => ?_)
             | with_reducible refine tok_known (by assumption) (by omega) ?_
             | with_reducible refine at_tok (by omega) (by omega) (fun _ _ => ?_)
             | with_reducible refine at_int (by omega) (by omega) (fun _ _ => ?_)
             | with_reducible refine slice_ints (by omega) (by omega) (by omega) ?_
             | with_reducible refine draw_head ?_)
  all_goals conv => whnf
  all_goals try (refine fin_bool h (bad ?_))
  all_goals try omega
  all_goals try (exact .inr (.inr (.inr (.inr ⟨by assumption, .inr ⟨_, by assumption, by assumption⟩⟩))))
  all_goals try (refine loop_nb 3 [1] [0] s.opn.length (fun k => k ≤ s.opn.length ∧ negG s.opn = negG (s.opn.drop k)) ⟨Nat.zero_le _, rfl⟩ (by refine ⟨rfl, ?_, ?_, rfl⟩ <;> repeat' (first | exact trivial | exact rfl | refine And.intro ?_ ?_)) ?_; rintro k ⟨hk, hi⟩)
  all_goals have hm := good (by assumption) (by assumption) (by assumption) (by assumption) (by first | exact .inl (by assumption) | exact .inr ⟨_, by assumption, by assumption⟩)
  all_goals rw [hm] at h
  repeat' (conv => whnf
           first
             | with_reducible exact quiet_same
             | with_reducible exact quiet_bool
             | with_reducible exact quiet_not
             | with_reducible refine draw_step (by kernel_rfl) ?_
             | with_reducible refine quiet_go ?_ ?_ ?_
             | with_reducible refine bcase_yes (by first | assumption | omega) ?_
             | with_reducible refine bcase_no (by first | assumption | omega) ?_
             | with_reducible refine bcase_dyes (by omega) ?_
             | with_reducible refine bcase_dno (by omega) ?_
             | with_reducible refine bcase_len (by decide) (fun _ => ?_) (fun _ => ?_)
             | with_reducible refine bcase_eq (fun _ => ?_) (fun _ => ?_)
             | with_reducible refine bcase_dec (fun _ => ?_) (fun _ => ?_)
             | with_reducible refine bcase_true ?_
             | with_reducible refine bcase_false ?_
             | with_reducible refine bcase_intro (fun _ => ?_) (fun _ => ?_)
             | with_reducible refine len_kids (fun _ => ?_)
             | with_reducible refine at_known (by assumption) (by omega) ?_
             | with_reducible refine at_kid (by omega) (by omega) (fun _ _ _ => ?_)
             | with_reducible refine tail_kids (by omega) (by omega) ?_
             | with_reducible refine slice_kids (by omega) (by omega) (by omega) ?_
             | with_reducible refine ex_wrap (by omega) (by omega) ?_
             | with_reducible refine quo_step (by decide) (by omega) (by omega) ?_
             | with_reducible refine rem_step (by decide) ?_
             | with_reducible refine nil_row (fun _ => ?_) ?_
             | with_reducible refine nil_row2 (fun _ => ?_) ?_
             | with_reducible refine len_toks (fun _ => ?_)
             | with_reducible refine len_ints (fun _ => ?_)
             | with_reducible refine tok_known (by assumption) (by omega) ?_
             | with_reducible refine at_tok (by omega) (by omega) (fun _ _ => ?_)
             | with_reducible refine at_int (by omega) (by omega) (fun _ _ => ?_)
             | with_reducible refine slice_ints (by omega) (by omega) (by omega) ?_
             | with_reducible refine draw_head ?_)
  all_goals conv => whnf
  all_goals try (have e := drop_at ‹s.opn[Int.toNat k]? = some _›; rw [Int.toNat_natCast] at e; rw [e, negG_cons] at hi; clear e)
  all_goals first
   | (refine ⟨k + 1, ⟨by omega, ?_⟩, by omega, (by refine ⟨rfl, ?_, ?_, rfl⟩ <;> repeat' (first | exact trivial | exact rfl | refine And.intro ?_ ?_)), St.le_refl _⟩; clear h; simp_all; done)
   | (refine fin_bool h ?_; rw [hi]; clear h; simp_all; done)
   | (refine fin_bool h ?_; rw [hi, show decide (_ < 0) = true from decide_eq_true (by assumption)]; rfl)
   | (refine fin_bool h ?_; rw [hi, List.drop_eq_nil_of_le (by omega)]; rfl)
  all_goals trace_state
end
end Go.Proofs.Ytngbihfihdheoaa
