/-
  LAYOUT: the document's answer, and that it is the same.
-/
import Derived.Test.YtngbihfihdheoaaG1
set_option linter.unusedVariables false
set_option pp.maxSteps 400
namespace Go.Proofs.Ytngbihfihdheoaa
open Go Go.Aw

section
variable {st : St} {R : Res → St → Prop}
attribute [local irreducible] Go.Aw.appendTo

theorem rtop_c {s : Sta} (h : R (.ret (.int .i64 (topF s))) st) : PC 67 [encS s] st R := by
  refine pcalls_of_body tys_ok [] Try.func67 rfl (by decide) ?_
  repeat' (conv => whnf
           first
             | with_reducible exact quiet_same
             | with_reducible exact quiet_bool
             | with_reducible exact quiet_not
             | with_reducible refine draw_step (by kernel_rfl) ?_
             | with_reducible refine quiet_go ?_ ?_ ?_
             | with_reducible refine bcase_yes (by first | assumption | omega) ?_
             | with_reducible refine bcase_no (by first | assumption | omega) ?_
             | with_reducible refine bcase_dyes (by omega) ?_
             | with_reducible refine bcase_dno (by omega) ?_
             | with_reducible refine bcase_len (by decide) (fun _ => ?_) (fun _ => ?_)
             | with_reducible refine bcase_eq (fun _ => ?_) (fun _ => ?_)
             | with_reducible refine bcase_dec (fun _ => ?_) (fun _ => ?_)
             | with_reducible refine bcase_true ?_
             | with_reducible refine bcase_false ?_
             | with_reducible refine bcase_intro (fun _ => ?_) (fun _ => ?_)
             | with_reducible refine len_kids (fun _ => ?_)
             | with_reducible refine at_known (by assumption) (by omega) ?_
             | with_reducible refine at_kid (by omega) (by omega) (fun _ _ _ => ?_)
             | with_reducible refine tail_kids (by omega) (by omega) ?_
             | with_reducible refine slice_kids (by omega) (by omega) (by omega) ?_
             | with_reducible refine ex_wrap (by omega) (by omega) ?_
             | with_reducible refine quo_step (by decide) (by omega) (by omega) ?_
             | with_reducible refine rem_step (by decide) ?_
             | with_reducible refine nil_row (fun _ => ?_) ?_
             | with_reducible refine nil_row2 (fun _ => ?_) ?_
             | with_reducible refine len_toks (fun _ => ?_)
             | with_reducible refine len_ints (fun _ => ?_)
             | with_reducible refine tok_known (by assumption) (by omega) ?_
             | with_reducible refine at_tok (by omega) (by omega) (fun _ _ => ?_)
             | with_reducible refine at_int (by omega) (by omega) (fun _ _ => ?_)
             | with_reducible refine slice_ints (by omega) (by omega) (by omega) ?_
             | with_reducible refine draw_head ?_)
  · rename_i e
    exact fin h (by rw [topF_nil (by omega)])
  · exact fin h (by rw [topF_last (by assumption)])
theorem at_c {k : Int} {t : Tk} (h : R (.ret (encT (unwF k t))) st) : PC 69 [.int .i64 k, encT t] st R := by
  refine pcalls_of_body tys_ok [] Try.func69 rfl (by decide) ?_
  repeat' (conv => whnf
           first
             | with_reducible exact quiet_same
             | with_reducible exact quiet_bool
             | with_reducible exact quiet_not
             | with_reducible refine draw_step (by kernel_rfl) ?_
             | with_reducible refine quiet_go ?_ ?_ ?_
             | with_reducible refine bcase_yes (by first | assumption | omega) ?_
             | with_reducible refine bcase_no (by first | assumption | omega) ?_
             | with_reducible refine bcase_dyes (by omega) ?_
             | with_reducible refine bcase_dno (by omega) ?_
             | with_reducible refine bcase_len (by decide) (fun _ => ?_) (fun _ => ?_)
             | with_reducible refine bcase_eq (fun _ => ?_) (fun _ => ?_)
             | with_reducible refine bcase_dec (fun _ => ?_) (fun _ => ?_)
             | with_reducible refine bcase_true ?_
             | with_reducible refine bcase_false ?_
             | with_reducible refine bcase_intro (fun _ => ?_) (fun _ => ?_)
             | with_reducible refine len_kids (fun _ => ?_)
             | with_reducible refine at_known (by assumption) (by omega) ?_
             | with_reducible refine at_kid (by omega) (by omega) (fun _ _ _ => ?_)
             | with_reducible refine tail_kids (by omega) (by omega) ?_
             | with_reducible refine slice_kids (by omega) (by omega) (by omega) ?_
             | with_reducible refine ex_wrap (by omega) (by omega) ?_
             | with_reducible refine quo_step (by decide) (by omega) (by omega) ?_
             | with_reducible refine rem_step (by decide) ?_
             | with_reducible refine nil_row (fun _ => ?_) ?_
             | with_reducible refine nil_row2 (fun _ => ?_) ?_
             | with_reducible refine len_toks (fun _ => ?_)
             | with_reducible refine len_ints (fun _ => ?_)
             | with_reducible refine tok_known (by assumption) (by omega) ?_
             | with_reducible refine at_tok (by omega) (by omega) (fun _ _ => ?_)
             | with_reducible refine at_int (by omega) (by omega) (fun _ _ => ?_)
             | with_reducible refine slice_ints (by omega) (by omega) (by omega) ?_
             | with_reducible refine draw_head ?_)
  all_goals exact fin h rfl
theorem push_c {s : Sta} {c : Int} (hb : s.opn.length ≤ 500000000) (h : R (.ret (encS (openedF s c))) st) : PC 68 [encS s, .int .i64 c] st R := by
  refine pcalls_of_body tys_ok [] Try.func68 rfl (by decide) ?_
  have hb1 : ([] : List Int).length + s.opn.length ≤ 1000000000 := by simp only [List.length_nil]; omega
  have hb2 : s.opn.length + [c].length ≤ 1000000000 := by simp only [List.length_singleton]; omega
  repeat' (conv => whnf
           first
             | with_reducible exact quiet_same
             | with_reducible exact quiet_bool
             | with_reducible exact quiet_not
             | with_reducible refine draw_step (by kernel_rfl) ?_
             | with_reducible refine quiet_go ?_ ?_ ?_
             | with_reducible refine bcase_yes (by first | assumption | omega) ?_
             | with_reducible refine bcase_no (by first | assumption | omega) ?_
             | with_reducible refine bcase_dyes (by omega) ?_
             | with_reducible refine bcase_dno (by omega) ?_
             | with_reducible refine bcase_len (by decide) (fun _ => ?_) (fun _ => ?_)
             | with_reducible refine bcase_eq (fun _ => ?_) (fun _ => ?_)
             | with_reducible refine bcase_dec (fun _ => ?_) (fun _ => ?_)
             | with_reducible refine bcase_true ?_
             | with_reducible refine bcase_false ?_
             | with_reducible refine bcase_intro (fun _ => ?_) (fun _ => ?_)
             | with_reducible refine len_kids (fun _ => ?_)
             | with_reducible refine at_known (by assumption) (by omega) ?_
             | with_reducible refine at_kid (by omega) (by omega) (fun _ _ _ => ?_)
             | with_reducible refine tail_kids (by omega) (by omega) ?_
             | with_reducible refine slice_kids (by omega) (by omega) (by omega) ?_
             | with_reducible refine ex_wrap (by omega) (by omega) ?_
             | with_reducible refine quo_step (by decide) (by omega) (by omega) ?_
             | with_reducible refine rem_step (by decide) ?_
             | with_reducible refine nil_row (fun _ => ?_) ?_
             | with_reducible refine nil_row2 (fun _ => ?_) ?_
             | with_reducible refine len_toks (fun _ => ?_)
             | with_reducible refine len_ints (fun _ => ?_)
             | with_reducible refine tok_known (by assumption) (by omega) ?_
             | with_reducible refine at_tok (by omega) (by omega) (fun _ _ => ?_)
             | with_reducible refine at_int (by omega) (by omega) (fun _ _ => ?_)
             | with_reducible refine slice_ints (by omega) (by omega) (by omega) ?_
             | refine app_ints (l := []) (own := .full) trivial hb1 (fun own ho => ?_)
             | refine app_ints (l := [] ++ s.opn) (new := [c]) ho hb2 (fun own' ho' => ?_)
             | with_reducible refine draw_head ?_)
  all_goals exact finl (Own.good_le ho') rfl h
theorem pop_c {s : Sta} (h0 : s.opn ≠ []) (hb : s.opn.length ≤ 500000000) (h : R (.ret (encS (closedF s))) st) : PC 70 [encS s] st R := by
  refine pcalls_of_body tys_ok [] Try.func70 rfl (by decide) ?_
  have hl : 0 < s.opn.length := List.length_pos_iff.2 h0
  have hd : (s.opn.take (((s.opn.length : Int) - 1).toNat)).drop (0 : Int).toNat = s.opn.dropLast := by
    rw [show (0 : Int).toNat = 0 from rfl, List.drop_zero, List.dropLast_eq_take]
    congr 1
    omega
  have hb1 : ([] : List Int).length + s.opn.dropLast.length ≤ 1000000000 := by rw [List.length_dropLast, List.length_nil]; omega
  repeat' (conv => whnf
           first
             | with_reducible exact quiet_same
             | with_reducible exact quiet_bool
             | with_reducible exact quiet_not
             | with_reducible refine draw_step (by kernel_rfl) ?_
             | with_reducible refine quiet_go ?_ ?_ ?_
             | with_reducible refine bcase_yes (by first | assumption | omega) ?_
             | with_reducible refine bcase_no (by first | assumption | omega) ?_
             | with_reducible refine bcase_dyes (by omega) ?_
             | with_reducible refine bcase_dno (by omega) ?_
             | with_reducible refine bcase_len (by decide) (fun _ => ?_) (fun _ => ?_)
             | with_reducible refine bcase_eq (fun _ => ?_) (fun _ => ?_)
             | with_reducible refine bcase_dec (fun _ => ?_) (fun _ => ?_)
             | with_reducible refine bcase_true ?_
             | with_reducible refine bcase_false ?_
             | with_reducible refine bcase_intro (fun _ => ?_) (fun _ => ?_)
             | with_reducible refine len_kids (fun _ => ?_)
             | with_reducible refine at_known (by assumption) (by omega) ?_
             | with_reducible refine at_kid (by omega) (by omega) (fun _ _ _ => ?_)
             | with_reducible refine tail_kids (by omega) (by omega) ?_
             | with_reducible refine slice_kids (by omega) (by omega) (by omega) ?_
             | with_reducible refine ex_wrap (by omega) (by omega) ?_
             | with_reducible refine quo_step (by decide) (by omega) (by omega) ?_
             | with_reducible refine rem_step (by decide) ?_
             | with_reducible refine nil_row (fun _ => ?_) ?_
             | with_reducible refine nil_row2 (fun _ => ?_) ?_
             | with_reducible refine len_toks (fun _ => ?_)
             | with_reducible refine len_ints (fun _ => ?_)
             | with_reducible refine tok_known (by assumption) (by omega) ?_
             | with_reducible refine at_tok (by omega) (by omega) (fun _ _ => ?_)
             | with_reducible refine at_int (by omega) (by omega) (fun _ _ => ?_)
             | with_reducible refine slice_ints (by omega) (by omega) (by omega) ?_
             | refine app_ints_e hd (l := []) (own := .full) trivial hb1 (fun own ho => ?_)
             | with_reducible refine draw_head ?_)
  all_goals exact finl (Own.good_le ho) rfl h

def negG (l : List Int) : Bool := l.any fun x => decide (x < 0)
theorem negG_cons {x : Int} {r : List Int} : negG (x :: r) = (decide (x < 0) || negG r) := rfl
theorem right_c {s : Sta} (h : R (.ret (.bool (mayF s))) st) : PC 66 [encS s] st R := by
  refine pcalls_of_body tys_ok [] Try.func66 rfl (by decide) ?_
  have bad : (s.pos < 0 ∨ (s.toks.length : Int) < s.pos ∨ s.wait < 0 ∨ 2 < s.wait ∨ 0 < s.wait ∧ (s.pos = s.toks.length ∨ ∃ t, s.toks[s.pos.toNat]? = some t ∧ ¬ t.kind = 16)) → mayF s = false := by
    intro e
    unfold mayF
    rcases e with e | e | e | e | ⟨e1, e | ⟨t, e2, e3⟩⟩
    · rw [show decide (0 ≤ s.pos) = false from decide_eq_false (by omega)]; simp only [Bool.false_and]
    · rw [show decide (s.pos ≤ s.toks.length) = false from decide_eq_false (by omega)]; simp only [Bool.false_and, Bool.and_false]
    · rw [show decide (0 ≤ s.wait) = false from decide_eq_false (by omega)]; simp only [Bool.false_and, Bool.and_false]
    · rw [show decide (s.wait ≤ 2) = false from decide_eq_false (by omega)]; simp only [Bool.false_and, Bool.and_false]
    · have hn : s.toks[s.pos.toNat]? = none := List.getElem?_eq_none (by omega)
      rw [hn, show decide (s.wait ≤ 0) = false from decide_eq_false (by omega)]; simp only [Bool.false_and, Bool.and_false, Bool.or_false]
    · rw [e2, show decide (s.wait ≤ 0) = false from decide_eq_false (by omega)]; simp [e3]
  have good : ¬ s.pos < 0 → ¬ (s.toks.length : Int) < s.pos → ¬ s.wait < 0 → ¬ 2 < s.wait → (¬ 0 < s.wait ∨ ∃ t, s.toks[s.pos.toNat]? = some t ∧ t.kind = 16) → mayF s = !negG s.opn := by
    intro a b c d e
    unfold mayF negG
    rw [show decide (0 ≤ s.pos) = true from decide_eq_true (by omega), show decide (s.pos ≤ s.toks.length) = true from decide_eq_true (by omega), show decide (0 ≤ s.wait) = true from decide_eq_true (by omega), show decide (s.wait ≤ 2) = true from decide_eq_true (by omega)]
    rcases e with e | ⟨t, e1, e2⟩
    · rw [show decide (s.wait ≤ 0) = true from decide_eq_true (by omega)]; simp only [Bool.true_and, Bool.true_or]
    · rw [e1]; simp [e2]
  repeat' (conv => whnf
           first
             | with_reducible exact quiet_same
             | with_reducible exact quiet_bool
             | with_reducible exact quiet_not
             | with_reducible refine draw_step (by kernel_rfl) ?_
             | with_reducible refine quiet_go ?_ ?_ ?_
             | with_reducible refine bcase_yes (by first | assumption | omega) ?_
             | with_reducible refine bcase_no (by first | assumption | omega) ?_
             | with_reducible refine bcase_dyes (by omega) ?_
             | with_reducible refine bcase_dno (by omega) ?_
             | with_reducible refine bcase_len (by decide) (fun _ => ?_) (fun _ => ?_)
             | with_reducible refine bcase_eq (fun _ => ?_) (fun _ => ?_)
             | with_reducible refine bcase_dec (fun _ => ?_) (fun _ => ?_)
             | with_reducible refine bcase_true ?_
             | with_reducible refine bcase_false ?_
             | with_reducible refine bcase_intro (fun _ => ?_) (fun _ => ?_)
             | with_reducible refine len_kids (fun _ => ?_)
             | with_reducible refine at_known (by assumption) (by omega) ?_
             | with_reducible refine at_kid (by omega) (by omega) (fun _ _ _ => ?_)
             | with_reducible refine tail_kids (by omega) (by omega) ?_
             | with_reducible refine slice_kids (by omega) (by omega) (by omega) ?_
             | with_reducible refine ex_wrap (by omega) (by omega) ?_
             | with_reducible refine quo_step (by decide) (by omega) (by omega) ?_
             | with_reducible refine rem_step (by decide) ?_
             | with_reducible refine nil_row (fun _ => ?_) ?_
             | with_reducible refine nil_row2 (fun _ => ?_) ?_
             | with_reducible refine len_toks (fun _ => ?_)
             | with_reducible refine len_ints (fun _ => ?_)
             | with_reducible refine tok_known (by assumption) (by omega) ?_
             | with_reducible refine at_tok (by omega) (by omega) (fun _ _ => ?_)
             | with_reducible refine at_int (by omega) (by omega) (fun _ _ => ?_)
             | with_reducible refine slice_ints (by omega) (by omega) (by omega) ?_
             | with_reducible refine draw_head ?_)
  all_goals conv => whnf
  all_goals try (refine fin_bool h (bad ?_))
  all_goals try omega
  all_goals try (exact .inr (.inr (.inr (.inr ⟨by assumption, .inr ⟨_, by assumption, by assumption⟩⟩))))
  all_goals try (refine loop_nb 3 [1] [0] s.opn.length (fun k => k ≤ s.opn.length ∧ negG s.opn = negG (s.opn.drop k)) ⟨Nat.zero_le _, rfl⟩ (by refine ⟨rfl, ?_, ?_, rfl⟩ <;> repeat' (first | exact trivial | exact rfl | refine And.intro ?_ ?_)) ?_; rintro k ⟨hk, hi⟩)
  all_goals have hm := good (by assumption) (by assumption) (by assumption) (by assumption) (by first | exact .inl (by assumption) | exact .inr ⟨_, by assumption, by assumption⟩)
  all_goals rw [hm] at h
  repeat' (conv => whnf
           first
             | with_reducible exact quiet_same
             | with_reducible exact quiet_bool
             | with_reducible exact quiet_not
             | with_reducible refine draw_step (by kernel_rfl) ?_
             | with_reducible refine quiet_go ?_ ?_ ?_
             | with_reducible refine bcase_yes (by first | assumption | omega) ?_
             | with_reducible refine bcase_no (by first | assumption | omega) ?_
             | with_reducible refine bcase_dyes (by omega) ?_
             | with_reducible refine bcase_dno (by omega) ?_
             | with_reducible refine bcase_len (by decide) (fun _ => ?_) (fun _ => ?_)
             | with_reducible refine bcase_eq (fun _ => ?_) (fun _ => ?_)
             | with_reducible refine bcase_dec (fun _ => ?_) (fun _ => ?_)
             | with_reducible refine bcase_true ?_
             | with_reducible refine bcase_false ?_
             | with_reducible refine bcase_intro (fun _ => ?_) (fun _ => ?_)
             | with_reducible refine len_kids (fun _ => ?_)
             | with_reducible refine at_known (by assumption) (by omega) ?_
             | with_reducible refine at_kid (by omega) (by omega) (fun _ _ _ => ?_)
             | with_reducible refine tail_kids (by omega) (by omega) ?_
             | with_reducible refine slice_kids (by omega) (by omega) (by omega) ?_
             | with_reducible refine ex_wrap (by omega) (by omega) ?_
             | with_reducible refine quo_step (by decide) (by omega) (by omega) ?_
             | with_reducible refine rem_step (by decide) ?_
             | with_reducible refine nil_row (fun _ => ?_) ?_
             | with_reducible refine nil_row2 (fun _ => ?_) ?_
             | with_reducible refine len_toks (fun _ => ?_)
             | with_reducible refine len_ints (fun _ => ?_)
             | with_reducible refine tok_known (by assumption) (by omega) ?_
             | with_reducible refine at_tok (by omega) (by omega) (fun _ _ => ?_)
             | with_reducible refine at_int (by omega) (by omega) (fun _ _ => ?_)
             | with_reducible refine slice_ints (by omega) (by omega) (by omega) ?_
             | with_reducible refine draw_head ?_)
  all_goals conv => whnf
  all_goals try (have e := drop_at ‹s.opn[Int.toNat k]? = some _›; rw [Int.toNat_natCast] at e; rw [e, negG_cons] at hi; clear e)
  all_goals first
   | (refine ⟨k + 1, ⟨by omega, ?_⟩, by omega, (by refine ⟨rfl, ?_, ?_, rfl⟩ <;> repeat' (first | exact trivial | exact rfl | refine And.intro ?_ ?_)), St.le_refl _⟩; clear h; simp_all; done)
   | (refine fin_bool h ?_; rw [hi]; clear h; simp_all; done)
   | (refine fin_bool h ?_; rw [hi, show decide (_ < 0) = true from decide_eq_true (by assumption)]; rfl)
   | (refine fin_bool h ?_; rw [hi, List.drop_eq_nil_of_le (by omega)]; rfl)
  all_goals trace_state
end
end Go.Proofs.Ytngbihfihdheoaa

/-
  LAYOUT: the document's Next.
-/
set_option linter.unusedVariables false
set_option pp.maxSteps 400
namespace Go.Proofs.Ytngbihfihdheoaa
open Go Go.Aw

theorem topF_nonneg {s : Sta} (h : (s.opn.any fun x => decide (x < 0)) = false) : 0 ≤ topF s := by
  unfold topF
  cases hl : s.opn.getLast? with
  | none => exact Int.le_refl _
  | some x =>
    have hx := List.mem_of_getLast? hl
    simp only [List.any_eq_false, decide_eq_true_eq] at h
    have := h x hx
    show 0 ≤ x
    omega

section
variable {st : St} {R : Res → St → Prop}
attribute [local irreducible] Go.Aw.appendTo

set_option maxHeartbeats 4000000 in
theorem rnext_c {s : Sta} (hb : s.opn.length ≤ 500000000) (h : R (.ret (encTSE (nextM s))) st) : PC 50 [encS s] st R := by
  refine pcalls_of_body tys_ok [] Try.func50 rfl (by decide) ?_
  unfold nextM at h
  repeat' (conv => whnf
           first
             | with_reducible exact quiet_same
             | with_reducible exact quiet_bool
             | with_reducible exact quiet_not
             | with_reducible refine draw_step (by kernel_rfl) ?_
             | with_reducible refine quiet_go ?_ ?_ ?_
             | with_reducible refine bcase_yes (by first | assumption | omega) ?_
             | with_reducible refine bcase_no (by first | assumption | omega) ?_
             | with_reducible refine bcase_dyes (by omega) ?_
             | with_reducible refine bcase_dno (by omega) ?_
             | with_reducible refine bcase_len (by decide) (fun _ => ?_) (fun _ => ?_)
             | with_reducible refine bcase_eq (fun _ => ?_) (fun _ => ?_)
             | with_reducible refine bcase_dec (fun _ => ?_) (fun _ => ?_)
             | with_reducible refine bcase_true ?_
             | with_reducible refine bcase_false ?_
             | with_reducible refine bcase_intro (fun _ => ?_) (fun _ => ?_)
             | with_reducible refine len_kids (fun _ => ?_)
             | with_reducible refine at_known (by assumption) (by omega) ?_
             | with_reducible refine at_kid (by omega) (by omega) (fun _ _ _ => ?_)
             | with_reducible refine tail_kids (by omega) (by omega) ?_
             | with_reducible refine slice_kids (by omega) (by omega) (by omega) ?_
             | with_reducible refine ex_wrap (by omega) (by omega) ?_
             | with_reducible refine quo_step (by decide) (by omega) (by omega) ?_
             | with_reducible refine rem_step (by decide) ?_
             | with_reducible refine nil_row (fun _ => ?_) ?_
             | with_reducible refine nil_row2 (fun _ => ?_) ?_
             | with_reducible refine len_toks (fun _ => ?_)
             | with_reducible refine len_ints (fun _ => ?_)
             | with_reducible refine tok_known (by assumption) (by omega) ?_
             | with_reducible refine at_tok (by omega) (by omega) (fun _ _ => ?_)
             | with_reducible refine at_int (by omega) (by omega) (fun _ _ => ?_)
             | with_reducible refine slice_ints (by omega) (by omega) (by omega) ?_
             | refine right_c (s := s) ?_
             | with_reducible refine draw_head ?_)
  · rename_i e
    rw [e, if_pos rfl] at h
    have hm := e
    unfold mayF at hm
    simp only [Bool.and_eq_true, decide_eq_true_eq] at hm
    refine loop_h (α := Sta) (fun x => []) [1, 2, 3, 4] (fun x => [(0, x.cells)]) [1, 2] (fun _ => st) (fun x => x.toks = s.toks ∧ x.opn = s.opn ∧ 0 ≤ x.pos ∧ x.pos ≤ x.toks.length ∧ 0 ≤ x.wait ∧ x.wait ≤ 2 ∧ nextF x = nextF s) (fun x => x.toks.length - x.pos.toNat) s ⟨rfl, rfl, by omega, by omega, by omega, by omega, rfl⟩ (by refine ⟨rfl, ?_, ?_, rfl⟩ <;> repeat' (first | exact trivial | exact rfl | refine And.intro ?_ ?_)) (St.le_refl _) ?_
    rintro x ⟨x1, x2, x3, x4, x6, x7, x5⟩
    rw [← x5] at h
    have hb' : x.opn.length ≤ 500000000 := by rw [x2]; exact hb
    have ht : 0 ≤ topF x := topF_nonneg (by rw [x2]; simpa using hm.2)
    repeat' (conv => whnf
             first
               | with_reducible exact quiet_same
               | with_reducible exact quiet_bool
               | with_reducible exact quiet_not
               | with_reducible refine draw_step (by kernel_rfl) ?_
               | with_reducible refine quiet_go ?_ ?_ ?_
               | with_reducible refine bcase_yes (by first | assumption | omega) ?_
               | with_reducible refine bcase_no (by first | assumption | omega) ?_
               | with_reducible refine bcase_dyes (by omega) ?_
               | with_reducible refine bcase_dno (by omega) ?_
               | with_reducible refine bcase_len (by decide) (fun _ => ?_) (fun _ => ?_)
               | with_reducible refine bcase_eq (fun _ => ?_) (fun _ => ?_)
               | with_reducible refine bcase_dec (fun _ => ?_) (fun _ => ?_)
               | with_reducible refine bcase_true ?_
               | with_reducible refine bcase_false ?_
               | with_reducible refine bcase_intro (fun _ => ?_) (fun _ => ?_)
               | with_reducible refine len_kids (fun _ => ?_)
               | with_reducible refine at_known (by assumption) (by omega) ?_
               | with_reducible refine at_kid (by omega) (by omega) (fun _ _ _ => ?_)
               | with_reducible refine tail_kids (by omega) (by omega) ?_
               | with_reducible refine slice_kids (by omega) (by omega) (by omega) ?_
               | with_reducible refine ex_wrap (by omega) (by omega) ?_
               | with_reducible refine quo_step (by decide) (by omega) (by omega) ?_
               | with_reducible refine rem_step (by decide) ?_
               | with_reducible refine nil_row (fun _ => ?_) ?_
               | with_reducible refine nil_row2 (fun _ => ?_) ?_
               | with_reducible refine len_toks (fun _ => ?_)
               | with_reducible refine len_ints (fun _ => ?_)
               | with_reducible refine tok_known (by assumption) (by omega) ?_
               | with_reducible refine at_tok (by omega) (by omega) (fun _ _ => ?_)
               | with_reducible refine at_int (by omega) (by omega) (fun _ _ => ?_)
               | with_reducible refine slice_ints (by omega) (by omega) (by omega) ?_
               | refine at_c ?_
               | refine rtop_c (s := x) ?_
               | refine push_c (s := x) hb' ?_
               | refine pop_c (s := x) (ne_of_len (by assumption)) hb' ?_
               | refine pop_c (s := x) (topF_open (by omega)) hb' ?_
               | refine ex_wrap (a := x.pos + 1) (by omega) (by omega) ?_
               | with_reducible refine draw_head ?_)
    all_goals first
      | (rw [nextF_at (by assumption) x3, if_pos (by omega)] at h
         unfold beginF at h
         first
           | (rw [if_pos (by omega)] at h; exact finw rfl h)
           | (rw [if_neg (by omega), if_pos (by omega)] at h; exact finw rfl h)
           | (rw [if_neg (by omega), if_neg (by omega)] at h; exact finw rfl h))
      | (have hz : (lineF ‹Tk› x).1.kind = 0 := by
           unfold lineF
           rw [if_neg (by omega), if_neg (by omega)]; rfl
         refine ⟨{ x with pos := x.pos + 1, wait := 0 }, ?_, ?_, (by refine ⟨rfl, ?_, ?_, rfl⟩ <;> repeat' (first | exact trivial | exact rfl | refine And.intro ?_ ?_)), St.le_refl _⟩
         · refine ⟨x1, x2, by show 0 ≤ x.pos + 1; omega, by show x.pos + 1 ≤ x.toks.length; omega, Int.le_refl _, by show (0 : Int) ≤ 2; decide, ?_⟩
           rw [← x5, nextF_at (s := x) (by assumption) x3, if_neg (by omega), if_pos (by omega), if_pos hz, lineF_zero hz]
         · show x.toks.length - (x.pos + 1).toNat < _
           omega)
      | (rw [nextF_at (by assumption) x3, if_neg (by omega), if_pos (by omega)] at h
         first
           | (have key : lineF ‹Tk› x = (unwF 20 ‹Tk›, closedF x) := by unfold lineF; rw [if_pos (by omega)]
              rw [key, if_neg (by simp [unwF])] at h; exact finw rfl h)
           | (have key : lineF ‹Tk› x = (unwF 19 ‹Tk›, { x with pos := x.pos + 1, wait := 0 }) := by unfold lineF; rw [if_neg (by omega), if_pos (by omega)]
              rw [key, if_neg (by simp [unwF])] at h; exact finw rfl h))
      | (rw [nextF_at (by assumption) x3, if_neg (by omega), if_neg (by omega)] at h
         unfold braceF at h
         first
          | (rw [if_pos ⟨by assumption, by assumption⟩] at h; exact finw rfl h)
          | (rw [if_neg (fun e => absurd e.2 (by rw [‹Tk.text _ = [125]›]; decide)), if_pos ⟨by assumption, by assumption⟩, if_pos (.inl (of_len (by assumption)))] at h; exact finw rfl h)
          | (rw [if_neg (fun e => absurd e.2 (by rw [‹Tk.text _ = [125]›]; decide)), if_pos ⟨by assumption, by assumption⟩, if_pos (.inr (by omega))] at h; exact finw rfl h)
          | (rw [if_neg (fun e => absurd e.2 (by rw [‹Tk.text _ = [125]›]; decide)), if_pos ⟨by assumption, by assumption⟩, if_neg (fun e => e.elim (ne_of_len (by assumption)) (fun e => e (by omega)))] at h; exact finw rfl h)
          | (rw [if_neg (fun e => absurd e.1 (by assumption)), if_neg (fun e => absurd e.1 (by assumption))] at h; exact finw rfl h)
          | (rw [if_neg (fun e => absurd e.2 (by assumption)), if_neg (fun e => absurd e.2 (by assumption))] at h; exact finw rfl h))
      | (rw [nextF_end (by omega) x3] at h
         unfold endF at h
         first
          | (rw [if_pos (of_len (by assumption))] at h; exact finw rfl h)
          | (rw [if_neg (ne_of_len (by assumption)), if_pos (by assumption)] at h; exact finw rfl h)
          | (rw [if_neg (ne_of_len (by assumption)), if_neg (by assumption)] at h; exact finw rfl h))
    all_goals trace_state
  · rename_i e
    rw [e] at h
    exact finw rfl h
end
end Go.Proofs.Ytngbihfihdheoaa

/-
  READER: the state behind a pointer; what the reader's methods do with it.
-/
set_option linter.unusedVariables false
set_option pp.maxSteps 400
namespace Go.Aw
theorem St.box_same (st : St) (b : Nat) (cs : List V) : (st.setBox b cs).box b = some cs := by simp [St.setBox]
theorem St.set_set (st : St) (b : Nat) (cs cs' : List V) : (st.setBox b cs).setBox b cs' = st.setBox b cs' := by
  simp only [St.setBox, St.mk.injEq, and_true]
  funext x
  split <;> rfl
theorem St.set_self {st : St} {b : Nat} {cs : List V} (h : st.box b = some cs) : st.setBox b cs = st := by
  cases st with
  | mk box hw =>
    simp only [St.setBox, St.mk.injEq, and_true]
    funext x
    split
    · rename_i e; subst e; exact h.symm
    · rfl
theorem at_box {st : St} {b : Nat} {cs : List V} {K : List V → Prop} (h : st.box b = some cs) (k : K cs) : ∃ cs, st.box b = some cs ∧ K cs := ⟨cs, h, k⟩
end Go.Aw
namespace Go.Proofs.Ytngbihfihdheoaa
open Go Go.Aw

/-- a reader that has looked ahead; one that has not -/
def lookC (s : Sta) : List V := [.slice 4 (encTs s.toks) .any, .int .i64 s.pos, .slice 1 (ints s.opn) .any, .int .i64 s.wait,
  .int .i64 (nextM s).1.kind, .str (nextM s).1.text, .int .i64 (nextM s).1.line, .int .i64 (nextM s).1.col,
  .slice 4 (encTs (nextM s).2.1.toks) .any, .int .i64 (nextM s).2.1.pos, .slice 1 (ints (nextM s).2.1.opn) .any, .int .i64 (nextM s).2.1.wait, .int .i64 (nextM s).2.2, .bool true]
def idleC (s : Sta) (t : Tk) (u : Sta) (o1 o2 : Own) (e : Int) : List V := [.slice 4 (encTs s.toks) .any, .int .i64 s.pos, .slice 1 (ints s.opn) .any, .int .i64 s.wait,
  .int .i64 t.kind, .str t.text, .int .i64 t.line, .int .i64 t.col, .slice 4 (encTs u.toks) o1, .int .i64 u.pos, .slice 1 (ints u.opn) o2, .int .i64 u.wait, .int .i64 e, .bool false]
/-- a reader stands at a state -/
def Has (st : St) (b : Nat) (s : Sta) : Prop := st.box b = some (lookC s) ∨ ∃ t u o1 o2 e, st.box b = some (idleC s t u o1 o2 e)
/-- a reader has been set to a state, and nothing else was written -/
def Upd (st st' : St) (b : Nat) (s : Sta) : Prop := Has st' b s ∧ ∃ cs, st' = st.setBox b cs
theorem Upd.trans {st st1 st2 : St} {b : Nat} {s1 s2 : Sta} (h : Upd st st1 b s1) (k : Upd st1 st2 b s2) : Upd st st2 b s2 := by
  obtain ⟨_, c1, e1⟩ := h
  obtain ⟨h2, c2, e2⟩ := k
  subst e1
  rw [St.set_set] at e2
  exact ⟨h2, c2, e2⟩
theorem upd_look {st : St} {b : Nat} {s : Sta} : Upd st (st.setBox b (lookC s)) b s := ⟨.inl (St.box_same ..), _, rfl⟩
def fault (e : Int) : V := .iface 64 (.agg [.int .i64 e])

section
variable {st : St} {R : Res → St → Prop}
attribute [local irreducible] Go.Aw.appendTo

/-- the end of a walk, the memory being written otherwise -/
theorem finx {r r' : Res} {st' : St} (e : r = r'.wk) (es : st' = st) (h : R r st) : ∃ r2 st2, (r2 = r' ∨ r2 = r'.wk) ∧ St.le st2 st' ∧ R r2 st2 := by subst es; exact ⟨r, st', .inr e, St.le_refl _, h⟩
theorem look_c {b : Nat} {s : Sta} (hs : Has st b s) (hb : s.opn.length ≤ 500000000) (h : R (.ret (.tup [])) (st.setBox b (lookC s))) : PC 71 [.ptr b 0] st R := by
  refine pcalls_of_body tys_ok [] Try.func71 rfl (by decide) ?_
  rcases hs with hs | ⟨t, u, o1, o2, e, hs⟩
  · rw [St.set_self hs] at h
    repeat' (conv => whnf
             first
               | with_reducible exact quiet_same
               | with_reducible exact quiet_bool
               | with_reducible exact quiet_not
               | with_reducible refine draw_step (by kernel_rfl) ?_
               | with_reducible refine quiet_go ?_ ?_ ?_
               | with_reducible refine bcase_yes (by first | assumption | omega) ?_
               | with_reducible refine bcase_no (by first | assumption | omega) ?_
               | with_reducible refine bcase_dyes (by omega) ?_
               | with_reducible refine bcase_dno (by omega) ?_
               | with_reducible refine bcase_len (by decide) (fun _ => ?_) (fun _ => ?_)
               | with_reducible refine bcase_eq (fun _ => ?_) (fun _ => ?_)
               | with_reducible refine bcase_dec (fun _ => ?_) (fun _ => ?_)
               | with_reducible refine bcase_true ?_
               | with_reducible refine bcase_false ?_
               | with_reducible refine bcase_intro (fun _ => ?_) (fun _ => ?_)
               | with_reducible refine len_kids (fun _ => ?_)
               | with_reducible refine at_known (by assumption) (by omega) ?_
               | with_reducible refine at_kid (by omega) (by omega) (fun _ _ _ => ?_)
               | with_reducible refine tail_kids (by omega) (by omega) ?_
               | with_reducible refine slice_kids (by omega) (by omega) (by omega) ?_
               | with_reducible refine ex_wrap (by omega) (by omega) ?_
               | with_reducible refine quo_step (by decide) (by omega) (by omega) ?_
               | with_reducible refine rem_step (by decide) ?_
               | with_reducible refine nil_row (fun _ => ?_) ?_
               | with_reducible refine nil_row2 (fun _ => ?_) ?_
               | with_reducible refine len_toks (fun _ => ?_)
               | with_reducible refine len_ints (fun _ => ?_)
               | with_reducible refine tok_known (by assumption) (by omega) ?_
               | with_reducible refine at_tok (by omega) (by omega) (fun _ _ => ?_)
               | with_reducible refine at_int (by omega) (by omega) (fun _ _ => ?_)
               | with_reducible refine slice_ints (by omega) (by omega) (by omega) ?_
               | refine at_box hs ?_
               | with_reducible refine draw_head ?_)
    all_goals exact fin h rfl
  · skip
    repeat' (conv => whnf
             first
               | with_reducible exact quiet_same
               | with_reducible exact quiet_bool
               | with_reducible exact quiet_not
               | with_reducible refine draw_step (by kernel_rfl) ?_
               | with_reducible refine quiet_go ?_ ?_ ?_
               | with_reducible refine bcase_yes (by first | assumption | omega) ?_
               | with_reducible refine bcase_no (by first | assumption | omega) ?_
               | with_reducible refine bcase_dyes (by omega) ?_
               | with_reducible refine bcase_dno (by omega) ?_
               | with_reducible refine bcase_len (by decide) (fun _ => ?_) (fun _ => ?_)
               | with_reducible refine bcase_eq (fun _ => ?_) (fun _ => ?_)
               | with_reducible refine bcase_dec (fun _ => ?_) (fun _ => ?_)
               | with_reducible refine bcase_true ?_
               | with_reducible refine bcase_false ?_
               | with_reducible refine bcase_intro (fun _ => ?_) (fun _ => ?_)
               | with_reducible refine len_kids (fun _ => ?_)
               | with_reducible refine at_known (by assumption) (by omega) ?_
               | with_reducible refine at_kid (by omega) (by omega) (fun _ _ _ => ?_)
               | with_reducible refine tail_kids (by omega) (by omega) ?_
               | with_reducible refine slice_kids (by omega) (by omega) (by omega) ?_
               | with_reducible refine ex_wrap (by omega) (by omega) ?_
               | with_reducible refine quo_step (by decide) (by omega) (by omega) ?_
               | with_reducible refine rem_step (by decide) ?_
               | with_reducible refine nil_row (fun _ => ?_) ?_
               | with_reducible refine nil_row2 (fun _ => ?_) ?_
               | with_reducible refine len_toks (fun _ => ?_)
               | with_reducible refine len_ints (fun _ => ?_)
               | with_reducible refine tok_known (by assumption) (by omega) ?_
               | with_reducible refine at_tok (by omega) (by omega) (fun _ _ => ?_)
               | with_reducible refine at_int (by omega) (by omega) (fun _ _ => ?_)
               | with_reducible refine slice_ints (by omega) (by omega) (by omega) ?_
               | refine at_box hs ?_
               | refine at_box (St.box_same ..) ?_
               | refine next_c (s := s) hb ?_
               | with_reducible refine draw_head ?_)
    all_goals exact finx rfl (by simp only [St.set_set]; rfl) h

theorem peek_c {b : Nat} {s : Sta} (hs : Has st b s) (hb : s.opn.length ≤ 500000000) (h : R (.ret (encT (nextM s).1)) (st.setBox b (lookC s))) : PC 51 [.ptr b 0] st R := by
  refine pcalls_of_body tys_ok [] Try.func51 rfl (by decide) ?_
  repeat' (conv => whnf
           first
             | with_reducible exact quiet_same
             | with_reducible exact quiet_bool
             | with_reducible exact quiet_not
             | with_reducible refine draw_step (by kernel_rfl) ?_
             | with_reducible refine quiet_go ?_ ?_ ?_
             | with_reducible refine bcase_yes (by first | assumption | omega) ?_
             | with_reducible refine bcase_no (by first | assumption | omega) ?_
             | with_reducible refine bcase_dyes (by omega) ?_
             | with_reducible refine bcase_dno (by omega) ?_
             | with_reducible refine bcase_len (by decide) (fun _ => ?_) (fun _ => ?_)
             | with_reducible refine bcase_eq (fun _ => ?_) (fun _ => ?_)
             | with_reducible refine bcase_dec (fun _ => ?_) (fun _ => ?_)
             | with_reducible refine bcase_true ?_
             | with_reducible refine bcase_false ?_
             | with_reducible refine bcase_intro (fun _ => ?_) (fun _ => ?_)
             | with_reducible refine len_kids (fun _ => ?_)
             | with_reducible refine at_known (by assumption) (by omega) ?_
             | with_reducible refine at_kid (by omega) (by omega) (fun _ _ _ => ?_)
             | with_reducible refine tail_kids (by omega) (by omega) ?_
             | with_reducible refine slice_kids (by omega) (by omega) (by omega) ?_
             | with_reducible refine ex_wrap (by omega) (by omega) ?_
             | with_reducible refine quo_step (by decide) (by omega) (by omega) ?_
             | with_reducible refine rem_step (by decide) ?_
             | with_reducible refine nil_row (fun _ => ?_) ?_
             | with_reducible refine nil_row2 (fun _ => ?_) ?_
             | with_reducible refine len_toks (fun _ => ?_)
             | with_reducible refine len_ints (fun _ => ?_)
             | with_reducible refine tok_known (by assumption) (by omega) ?_
             | with_reducible refine at_tok (by omega) (by omega) (fun _ _ => ?_)
             | with_reducible refine at_int (by omega) (by omega) (fun _ _ => ?_)
             | with_reducible refine slice_ints (by omega) (by omega) (by omega) ?_
             | refine at_box (St.box_same ..) ?_
             | refine look_c hs hb ?_
             | with_reducible refine draw_head ?_)
  all_goals exact finw rfl h

theorem fail_c {v : V} {e : Int} (h : R (.pan (fault e)) st) : PC 44 [v, .int .i64 e] st R := by
  refine pcalls_of_body tys_ok [] Try.func44 rfl (by decide) ?_
  repeat' (conv => whnf
           first
             | with_reducible exact quiet_same
             | with_reducible exact quiet_bool
             | with_reducible exact quiet_not
             | with_reducible refine draw_step (by kernel_rfl) ?_
             | with_reducible refine quiet_go ?_ ?_ ?_
             | with_reducible refine bcase_yes (by first | assumption | omega) ?_
             | with_reducible refine bcase_no (by first | assumption | omega) ?_
             | with_reducible refine bcase_dyes (by omega) ?_
             | with_reducible refine bcase_dno (by omega) ?_
             | with_reducible refine bcase_len (by decide) (fun _ => ?_) (fun _ => ?_)
             | with_reducible refine bcase_eq (fun _ => ?_) (fun _ => ?_)
             | with_reducible refine bcase_dec (fun _ => ?_) (fun _ => ?_)
             | with_reducible refine bcase_true ?_
             | with_reducible refine bcase_false ?_
             | with_reducible refine bcase_intro (fun _ => ?_) (fun _ => ?_)
             | with_reducible refine len_kids (fun _ => ?_)
             | with_reducible refine at_known (by assumption) (by omega) ?_
             | with_reducible refine at_kid (by omega) (by omega) (fun _ _ _ => ?_)
             | with_reducible refine tail_kids (by omega) (by omega) ?_
             | with_reducible refine slice_kids (by omega) (by omega) (by omega) ?_
             | with_reducible refine ex_wrap (by omega) (by omega) ?_
             | with_reducible refine quo_step (by decide) (by omega) (by omega) ?_
             | with_reducible refine rem_step (by decide) ?_
             | with_reducible refine nil_row (fun _ => ?_) ?_
             | with_reducible refine nil_row2 (fun _ => ?_) ?_
             | with_reducible refine len_toks (fun _ => ?_)
             | with_reducible refine len_ints (fun _ => ?_)
             | with_reducible refine tok_known (by assumption) (by omega) ?_
             | with_reducible refine at_tok (by omega) (by omega) (fun _ _ => ?_)
             | with_reducible refine at_int (by omega) (by omega) (fun _ _ => ?_)
             | with_reducible refine slice_ints (by omega) (by omega) (by omega) ?_
             | with_reducible refine draw_head ?_)
  all_goals exact fin h rfl

/-- what is wrong with a token that may not stand there -/
def badE (s : Sta) : Int := if (nextM s).2.2 = 0 then 110 else (nextM s).2.2
theorem bad_c {b : Nat} {s : Sta} (hs : Has st b s) (hb : s.opn.length ≤ 500000000) (h : R (.pan (fault (badE s))) (st.setBox b (lookC s))) : PC 53 [.ptr b 0] st R := by
  refine pcalls_of_body tys_ok [] Try.func53 rfl (by decide) ?_
  unfold badE at h
  repeat' (conv => whnf
           first
             | with_reducible exact quiet_same
             | with_reducible exact quiet_bool
             | with_reducible exact quiet_not
             | with_reducible refine draw_step (by kernel_rfl) ?_
             | with_reducible refine quiet_go ?_ ?_ ?_
             | with_reducible refine bcase_yes (by first | assumption | omega) ?_
             | with_reducible refine bcase_no (by first | assumption | omega) ?_
             | with_reducible refine bcase_dyes (by omega) ?_
             | with_reducible refine bcase_dno (by omega) ?_
             | with_reducible refine bcase_len (by decide) (fun _ => ?_) (fun _ => ?_)
             | with_reducible refine bcase_eq (fun _ => ?_) (fun _ => ?_)
             | with_reducible refine bcase_dec (fun _ => ?_) (fun _ => ?_)
             | with_reducible refine bcase_true ?_
             | with_reducible refine bcase_false ?_
             | with_reducible refine bcase_intro (fun _ => ?_) (fun _ => ?_)
             | with_reducible refine len_kids (fun _ => ?_)
             | with_reducible refine at_known (by assumption) (by omega) ?_
             | with_reducible refine at_kid (by omega) (by omega) (fun _ _ _ => ?_)
             | with_reducible refine tail_kids (by omega) (by omega) ?_
             | with_reducible refine slice_kids (by omega) (by omega) (by omega) ?_
             | with_reducible refine ex_wrap (by omega) (by omega) ?_
             | with_reducible refine quo_step (by decide) (by omega) (by omega) ?_
             | with_reducible refine rem_step (by decide) ?_
             | with_reducible refine nil_row (fun _ => ?_) ?_
             | with_reducible refine nil_row2 (fun _ => ?_) ?_
             | with_reducible refine len_toks (fun _ => ?_)
             | with_reducible refine len_ints (fun _ => ?_)
             | with_reducible refine tok_known (by assumption) (by omega) ?_
             | with_reducible refine at_tok (by omega) (by omega) (fun _ _ => ?_)
             | with_reducible refine at_int (by omega) (by omega) (fun _ _ => ?_)
             | with_reducible refine slice_ints (by omega) (by omega) (by omega) ?_
             | refine at_box (St.box_same ..) ?_
             | refine look_c hs hb ?_
             | refine fail_c ?_
             | with_reducible refine draw_head ?_)
  all_goals first
    | (rw [if_pos (by assumption)] at h; exact fin h rfl)
    | (rw [if_neg (by assumption)] at h; exact fin h rfl)

theorem go_look {b : Nat} {s s' : Sta} (hs : st.box b = some (lookC s)) (h : ∀ st', Upd st st' b s' → R (.ret (.tup [])) st') : PC 83 [.ptr b 0, encS s'] st R := by
  refine pcalls_of_body tys_ok [] Try.func83 rfl (by decide) ?_
  have h := h (st.setBox b (idleC s' (nextM s).1 (nextM s).2.1 .any .any (nextM s).2.2)) ⟨.inr ⟨_, _, _, _, _, St.box_same ..⟩, _, rfl⟩
  repeat' (conv => whnf
           first
             | with_reducible exact quiet_same
             | with_reducible exact quiet_bool
             | with_reducible exact quiet_not
             | with_reducible refine draw_step (by kernel_rfl) ?_
             | with_reducible refine quiet_go ?_ ?_ ?_
             | with_reducible refine bcase_yes (by first | assumption | omega) ?_
             | with_reducible refine bcase_no (by first | assumption | omega) ?_
             | with_reducible refine bcase_dyes (by omega) ?_
             | with_reducible refine bcase_dno (by omega) ?_
             | with_reducible refine bcase_len (by decide) (fun _ => ?_) (fun _ => ?_)
             | with_reducible refine bcase_eq (fun _ => ?_) (fun _ => ?_)
             | with_reducible refine bcase_dec (fun _ => ?_) (fun _ => ?_)
             | with_reducible refine bcase_true ?_
             | with_reducible refine bcase_false ?_
             | with_reducible refine bcase_intro (fun _ => ?_) (fun _ => ?_)
             | with_reducible refine len_kids (fun _ => ?_)
             | with_reducible refine at_known (by assumption) (by omega) ?_
             | with_reducible refine at_kid (by omega) (by omega) (fun _ _ _ => ?_)
             | with_reducible refine tail_kids (by omega) (by omega) ?_
             | with_reducible refine slice_kids (by omega) (by omega) (by omega) ?_
             | with_reducible refine ex_wrap (by omega) (by omega) ?_
             | with_reducible refine quo_step (by decide) (by omega) (by omega) ?_
             | with_reducible refine rem_step (by decide) ?_
             | with_reducible refine nil_row (fun _ => ?_) ?_
             | with_reducible refine nil_row2 (fun _ => ?_) ?_
             | with_reducible refine len_toks (fun _ => ?_)
             | with_reducible refine len_ints (fun _ => ?_)
             | with_reducible refine tok_known (by assumption) (by omega) ?_
             | with_reducible refine at_tok (by omega) (by omega) (fun _ _ => ?_)
             | with_reducible refine at_int (by omega) (by omega) (fun _ _ => ?_)
             | with_reducible refine slice_ints (by omega) (by omega) (by omega) ?_
             | refine at_box hs ?_
             | refine at_box (St.box_same ..) ?_
             | with_reducible refine draw_head ?_)
  all_goals exact finx rfl (by simp only [St.set_set]; rfl) h
theorem go_idle {b : Nat} {s s' : Sta} {t : Tk} {u : Sta} {o1 o2 : Own} {e : Int} (hs : st.box b = some (idleC s t u o1 o2 e)) (h : ∀ st', Upd st st' b s' → R (.ret (.tup [])) st') : PC 83 [.ptr b 0, encS s'] st R := by
  refine pcalls_of_body tys_ok [] Try.func83 rfl (by decide) ?_
  have h := h (st.setBox b (idleC s' t u o1 o2 e)) ⟨.inr ⟨_, _, _, _, _, St.box_same ..⟩, _, rfl⟩
  repeat' (conv => whnf
           first
             | with_reducible exact quiet_same
             | with_reducible exact quiet_bool
             | with_reducible exact quiet_not
             | with_reducible refine draw_step (by kernel_rfl) ?_
             | with_reducible refine quiet_go ?_ ?_ ?_
             | with_reducible refine bcase_yes (by first | assumption | omega) ?_
             | with_reducible refine bcase_no (by first | assumption | omega) ?_
             | with_reducible refine bcase_dyes (by omega) ?_
             | with_reducible refine bcase_dno (by omega) ?_
             | with_reducible refine bcase_len (by decide) (fun _ => ?_) (fun _ => ?_)
             | with_reducible refine bcase_eq (fun _ => ?_) (fun _ => ?_)
             | with_reducible refine bcase_dec (fun _ => ?_) (fun _ => ?_)
             | with_reducible refine bcase_true ?_
             | with_reducible refine bcase_false ?_
             | with_reducible refine bcase_intro (fun _ => ?_) (fun _ => ?_)
             | with_reducible refine len_kids (fun _ => ?_)
             | with_reducible refine at_known (by assumption) (by omega) ?_
             | with_reducible refine at_kid (by omega) (by omega) (fun _ _ _ => ?_)
             | with_reducible refine tail_kids (by omega) (by omega) ?_
             | with_reducible refine slice_kids (by omega) (by omega) (by omega) ?_
             | with_reducible refine ex_wrap (by omega) (by omega) ?_
             | with_reducible refine quo_step (by decide) (by omega) (by omega) ?_
             | with_reducible refine rem_step (by decide) ?_
             | with_reducible refine nil_row (fun _ => ?_) ?_
             | with_reducible refine nil_row2 (fun _ => ?_) ?_
             | with_reducible refine len_toks (fun _ => ?_)
             | with_reducible refine len_ints (fun _ => ?_)
             | with_reducible refine tok_known (by assumption) (by omega) ?_
             | with_reducible refine at_tok (by omega) (by omega) (fun _ _ => ?_)
             | with_reducible refine at_int (by omega) (by omega) (fun _ _ => ?_)
             | with_reducible refine slice_ints (by omega) (by omega) (by omega) ?_
             | refine at_box hs ?_
             | refine at_box (St.box_same ..) ?_
             | with_reducible refine draw_head ?_)
  all_goals exact finx rfl (by simp only [St.set_set]; rfl) h
theorem go_c {b : Nat} {s s' : Sta} (hs : Has st b s) (h : ∀ st', Upd st st' b s' → R (.ret (.tup [])) st') : PC 83 [.ptr b 0, encS s'] st R := by
  rcases hs with hs | ⟨t, u, o1, o2, e, hs⟩
  · exact go_look hs h
  · exact go_idle hs h

/-- the next token passed over -/
theorem skip_c {b : Nat} {s : Sta} (hs : Has st b s) (hb : s.opn.length ≤ 500000000) (h : (nextM s).2.2 = 0 → ∀ st', Upd st st' b (nextM s).2.1 → R (.ret (encT (nextM s).1)) st')
    (k : ¬ (nextM s).2.2 = 0 → R (.pan (fault (nextM s).2.2)) (st.setBox b (lookC s))) : PC 65 [.ptr b 0] st R := by
  refine pcalls_of_body tys_ok [] Try.func65 rfl (by decide) ?_
  repeat' (conv => whnf
           first
             | with_reducible exact quiet_same
             | with_reducible exact quiet_bool
             | with_reducible exact quiet_not
             | with_reducible refine draw_step (by kernel_rfl) ?_
             | with_reducible refine quiet_go ?_ ?_ ?_
             | with_reducible refine bcase_yes (by first | assumption | omega) ?_
             | with_reducible refine bcase_no (by first | assumption | omega) ?_
             | with_reducible refine bcase_dyes (by omega) ?_
             | with_reducible refine bcase_dno (by omega) ?_
             | with_reducible refine bcase_len (by decide) (fun _ => ?_) (fun _ => ?_)
             | with_reducible refine bcase_eq (fun _ => ?_) (fun _ => ?_)
             | with_reducible refine bcase_dec (fun _ => ?_) (fun _ => ?_)
             | with_reducible refine bcase_true ?_
             | with_reducible refine bcase_false ?_
             | with_reducible refine bcase_intro (fun _ => ?_) (fun _ => ?_)
             | with_reducible refine len_kids (fun _ => ?_)
             | with_reducible refine at_known (by assumption) (by omega) ?_
             | with_reducible refine at_kid (by omega) (by omega) (fun _ _ _ => ?_)
             | with_reducible refine tail_kids (by omega) (by omega) ?_
             | with_reducible refine slice_kids (by omega) (by omega) (by omega) ?_
             | with_reducible refine ex_wrap (by omega) (by omega) ?_
             | with_reducible refine quo_step (by decide) (by omega) (by omega) ?_
             | with_reducible refine rem_step (by decide) ?_
             | with_reducible refine nil_row (fun _ => ?_) ?_
             | with_reducible refine nil_row2 (fun _ => ?_) ?_
             | with_reducible refine len_toks (fun _ => ?_)
             | with_reducible refine len_ints (fun _ => ?_)
             | with_reducible refine tok_known (by assumption) (by omega) ?_
             | with_reducible refine at_tok (by omega) (by omega) (fun _ _ => ?_)
             | with_reducible refine at_int (by omega) (by omega) (fun _ _ => ?_)
             | with_reducible refine slice_ints (by omega) (by omega) (by omega) ?_
             | refine at_box (St.box_same ..) ?_
             | refine peek_c hs hb ?_
             | refine fail_c ?_
             | refine go_c (s' := (nextM s).2.1) (.inl (St.box_same st b (lookC s))) (fun st' hu => ?_)
             | with_reducible refine draw_head ?_)
  · exact finw rfl (h (by assumption) st' (upd_look.trans hu))
  · exact fin (k (by assumption)) rfl

/-- a token as a tree -/
def leafT (t : Tk) : Nd := .mk 1 t.kind t.text t.line t.col []
theorem leaf_c {t : Tk} (h : R (.ret (enc (leafT t))) st) : PC 64 [encT t] st R := by
  refine pcalls_of_body tys_ok [] Try.func64 rfl (by decide) ?_
  repeat' (conv => whnf
           first
             | with_reducible exact quiet_same
             | with_reducible exact quiet_bool
             | with_reducible exact quiet_not
             | with_reducible refine draw_step (by kernel_rfl) ?_
             | with_reducible refine quiet_go ?_ ?_ ?_
             | with_reducible refine bcase_yes (by first | assumption | omega) ?_
             | with_reducible refine bcase_no (by first | assumption | omega) ?_
             | with_reducible refine bcase_dyes (by omega) ?_
             | with_reducible refine bcase_dno (by omega) ?_
             | with_reducible refine bcase_len (by decide) (fun _ => ?_) (fun _ => ?_)
             | with_reducible refine bcase_eq (fun _ => ?_) (fun _ => ?_)
             | with_reducible refine bcase_dec (fun _ => ?_) (fun _ => ?_)
             | with_reducible refine bcase_true ?_
             | with_reducible refine bcase_false ?_
             | with_reducible refine bcase_intro (fun _ => ?_) (fun _ => ?_)
             | with_reducible refine len_kids (fun _ => ?_)
             | with_reducible refine at_known (by assumption) (by omega) ?_
             | with_reducible refine at_kid (by omega) (by omega) (fun _ _ _ => ?_)
             | with_reducible refine tail_kids (by omega) (by omega) ?_
             | with_reducible refine slice_kids (by omega) (by omega) (by omega) ?_
             | with_reducible refine ex_wrap (by omega) (by omega) ?_
             | with_reducible refine quo_step (by decide) (by omega) (by omega) ?_
             | with_reducible refine rem_step (by decide) ?_
             | with_reducible refine nil_row (fun _ => ?_) ?_
             | with_reducible refine nil_row2 (fun _ => ?_) ?_
             | with_reducible refine len_toks (fun _ => ?_)
             | with_reducible refine len_ints (fun _ => ?_)
             | with_reducible refine tok_known (by assumption) (by omega) ?_
             | with_reducible refine at_tok (by omega) (by omega) (fun _ _ => ?_)
             | with_reducible refine at_int (by omega) (by omega) (fun _ _ => ?_)
             | with_reducible refine slice_ints (by omega) (by omega) (by omega) ?_
             | with_reducible refine draw_head ?_)
  all_goals exact finw rfl h

def isF (s : Sta) (k : Int) (x : List UInt8) : Bool := (nextM s).1.kind == k && (nextM s).1.text == x
theorem is_c {b : Nat} {s : Sta} {k : Int} {x : List UInt8} (hs : Has st b s) (hb : s.opn.length ≤ 500000000) (h : R (.ret (.bool (isF s k x))) (st.setBox b (lookC s))) : PC 48 [.ptr b 0, .int .i64 k, .str x] st R := by
  refine pcalls_of_body tys_ok [] Try.func48 rfl (by decide) ?_
  repeat' (conv => whnf
           first
             | with_reducible exact quiet_same
             | with_reducible exact quiet_bool
             | with_reducible exact quiet_not
             | with_reducible refine draw_step (by kernel_rfl) ?_
             | with_reducible refine quiet_go ?_ ?_ ?_
             | with_reducible refine bcase_yes (by first | assumption | omega) ?_
             | with_reducible refine bcase_no (by first | assumption | omega) ?_
             | with_reducible refine bcase_dyes (by omega) ?_
             | with_reducible refine bcase_dno (by omega) ?_
             | with_reducible refine bcase_len (by decide) (fun _ => ?_) (fun _ => ?_)
             | with_reducible refine bcase_eq (fun _ => ?_) (fun _ => ?_)
             | with_reducible refine bcase_dec (fun _ => ?_) (fun _ => ?_)
             | with_reducible refine bcase_true ?_
             | with_reducible refine bcase_false ?_
             | with_reducible refine bcase_intro (fun _ => ?_) (fun _ => ?_)
             | with_reducible refine len_kids (fun _ => ?_)
             | with_reducible refine at_known (by assumption) (by omega) ?_
             | with_reducible refine at_kid (by omega) (by omega) (fun _ _ _ => ?_)
             | with_reducible refine tail_kids (by omega) (by omega) ?_
             | with_reducible refine slice_kids (by omega) (by omega) (by omega) ?_
             | with_reducible refine ex_wrap (by omega) (by omega) ?_
             | with_reducible refine quo_step (by decide) (by omega) (by omega) ?_
             | with_reducible refine rem_step (by decide) ?_
             | with_reducible refine nil_row (fun _ => ?_) ?_
             | with_reducible refine nil_row2 (fun _ => ?_) ?_
             | with_reducible refine len_toks (fun _ => ?_)
             | with_reducible refine len_ints (fun _ => ?_)
             | with_reducible refine tok_known (by assumption) (by omega) ?_
             | with_reducible refine at_tok (by omega) (by omega) (fun _ _ => ?_)
             | with_reducible refine at_int (by omega) (by omega) (fun _ _ => ?_)
             | with_reducible refine slice_ints (by omega) (by omega) (by omega) ?_
             | refine peek_c hs hb ?_
             | with_reducible refine draw_head ?_)
  all_goals (refine fin_bool h ?_; clear h; simp_all [isF])

theorem take_c {b : Nat} {s : Sta} (hs : Has st b s) (hb : s.opn.length ≤ 500000000) (h : (nextM s).2.2 = 0 → ∀ st', Upd st st' b (nextM s).2.1 → R (.ret (enc (leafT (nextM s).1))) st')
    (k : ¬ (nextM s).2.2 = 0 → R (.pan (fault (nextM s).2.2)) (st.setBox b (lookC s))) : PC 49 [.ptr b 0] st R := by
  refine pcalls_of_body tys_ok [] Try.func49 rfl (by decide) ?_
  repeat' (conv => whnf
           first
             | with_reducible exact quiet_same
             | with_reducible exact quiet_bool
             | with_reducible exact quiet_not
             | with_reducible refine draw_step (by kernel_rfl) ?_
             | with_reducible refine quiet_go ?_ ?_ ?_
             | with_reducible refine bcase_yes (by first | assumption | omega) ?_
             | with_reducible refine bcase_no (by first | assumption | omega) ?_
             | with_reducible refine bcase_dyes (by omega) ?_
             | with_reducible refine bcase_dno (by omega) ?_
             | with_reducible refine bcase_len (by decide) (fun _ => ?_) (fun _ => ?_)
             | with_reducible refine bcase_eq (fun _ => ?_) (fun _ => ?_)
             | with_reducible refine bcase_dec (fun _ => ?_) (fun _ => ?_)
             | with_reducible refine bcase_true ?_
             | with_reducible refine bcase_false ?_
             | with_reducible refine bcase_intro (fun _ => ?_) (fun _ => ?_)
             | with_reducible refine len_kids (fun _ => ?_)
             | with_reducible refine at_known (by assumption) (by omega) ?_
             | with_reducible refine at_kid (by omega) (by omega) (fun _ _ _ => ?_)
             | with_reducible refine tail_kids (by omega) (by omega) ?_
             | with_reducible refine slice_kids (by omega) (by omega) (by omega) ?_
             | with_reducible refine ex_wrap (by omega) (by omega) ?_
             | with_reducible refine quo_step (by decide) (by omega) (by omega) ?_
             | with_reducible refine rem_step (by decide) ?_
             | with_reducible refine nil_row (fun _ => ?_) ?_
             | with_reducible refine nil_row2 (fun _ => ?_) ?_
             | with_reducible refine len_toks (fun _ => ?_)
             | with_reducible refine len_ints (fun _ => ?_)
             | with_reducible refine tok_known (by assumption) (by omega) ?_
             | with_reducible refine at_tok (by omega) (by omega) (fun _ _ => ?_)
             | with_reducible refine at_int (by omega) (by omega) (fun _ _ => ?_)
             | with_reducible refine slice_ints (by omega) (by omega) (by omega) ?_
             | refine skip_c hs hb (fun e st' hu => ?_) (fun e => ?_)
             | refine leaf_c (t := (nextM s).1) ?_
             | with_reducible refine draw_head ?_)
  · exact finw rfl (h e st' hu)
  · exact fin (k e) rfl

theorem want_c {b : Nat} {s : Sta} {k : Int} {x : List UInt8} (hs : Has st b s) (hb : s.opn.length ≤ 500000000) (h : isF s k x = true → (nextM s).2.2 = 0 → ∀ st', Upd st st' b (nextM s).2.1 → R (.ret (enc (leafT (nextM s).1))) st')
    (k1 : isF s k x = true → ¬ (nextM s).2.2 = 0 → R (.pan (fault (nextM s).2.2)) (st.setBox b (lookC s))) (k2 : isF s k x = false → R (.pan (fault (badE s))) (st.setBox b (lookC s))) : PC 73 [.ptr b 0, .int .i64 k, .str x] st R := by
  refine pcalls_of_body tys_ok [] Try.func73 rfl (by decide) ?_
  have hl : Has (st.setBox b (lookC s)) b s := .inl (St.box_same ..)
  repeat' (conv => whnf
           first
             | with_reducible exact quiet_same
             | with_reducible exact quiet_bool
             | with_reducible exact quiet_not
             | with_reducible refine draw_step (by kernel_rfl) ?_
             | with_reducible refine quiet_go ?_ ?_ ?_
             | with_reducible refine bcase_yes (by first | assumption | omega) ?_
             | with_reducible refine bcase_no (by first | assumption | omega) ?_
             | with_reducible refine bcase_dyes (by omega) ?_
             | with_reducible refine bcase_dno (by omega) ?_
             | with_reducible refine bcase_len (by decide) (fun _ => ?_) (fun _ => ?_)
             | with_reducible refine bcase_eq (fun _ => ?_) (fun _ => ?_)
             | with_reducible refine bcase_dec (fun _ => ?_) (fun _ => ?_)
             | with_reducible refine bcase_true ?_
             | with_reducible refine bcase_false ?_
             | with_reducible refine bcase_intro (fun _ => ?_) (fun _ => ?_)
             | with_reducible refine len_kids (fun _ => ?_)
             | with_reducible refine at_known (by assumption) (by omega) ?_
             | with_reducible refine at_kid (by omega) (by omega) (fun _ _ _ => ?_)
             | with_reducible refine tail_kids (by omega) (by omega) ?_
             | with_reducible refine slice_kids (by omega) (by omega) (by omega) ?_
             | with_reducible refine ex_wrap (by omega) (by omega) ?_
             | with_reducible refine quo_step (by decide) (by omega) (by omega) ?_
             | with_reducible refine rem_step (by decide) ?_
             | with_reducible refine nil_row (fun _ => ?_) ?_
             | with_reducible refine nil_row2 (fun _ => ?_) ?_
             | with_reducible refine len_toks (fun _ => ?_)
             | with_reducible refine len_ints (fun _ => ?_)
             | with_reducible refine tok_known (by assumption) (by omega) ?_
             | with_reducible refine at_tok (by omega) (by omega) (fun _ _ => ?_)
             | with_reducible refine at_int (by omega) (by omega) (fun _ _ => ?_)
             | with_reducible refine slice_ints (by omega) (by omega) (by omega) ?_
             | refine is_c hs hb ?_
             | refine take_c hl hb (fun e st' hu => ?_) (fun e => ?_)
             | refine bad_c hl hb ?_
             | with_reducible refine draw_head ?_)
  · exact finw rfl (h (by assumption) e st' (upd_look.trans hu))
  · exact finx rfl (by rw [St.set_set]) (k1 (by assumption) e)
  · exact finx rfl (by rw [St.set_set]) (k2 (by assumption))

/-- another layer's call from here on: what it answers -/
def encR3 (n : Nd) (s : Sta) (e : Int) : V := .tup [enc n, encS s, .int .i64 e]
theorem into_c {f : FuncId} {b : Nat} {s s' : Sta} {n : Nd} {e d : Int} (hf : ∀ (st : St) (R : Res → St → Prop), R (.ret (encR3 n s' e)) st → PC f [encS s, .int .i64 d] st R) (hs : Has st b s)
    (h : e = 0 → ∀ st', Upd st st' b s' → R (.ret (enc n)) st') (k : ¬ e = 0 → ∀ st', Upd st st' b s' → R (.pan (fault e)) st') : PC 74 [.ptr b 0, .func f [] [], .int .i64 d] st R := by
  refine pcalls_of_body tys_ok [] Try.func74 rfl (by decide) ?_
  rcases hs with hs | ⟨t, u, o1, o2, e', hs⟩
  · skip
    repeat' (conv => whnf
             first
               | with_reducible exact quiet_same
               | with_reducible exact quiet_bool
               | with_reducible exact quiet_not
               | with_reducible refine draw_step (by kernel_rfl) ?_
               | with_reducible refine quiet_go ?_ ?_ ?_
               | with_reducible refine bcase_yes (by first | assumption | omega) ?_
               | with_reducible refine bcase_no (by first | assumption | omega) ?_
               | with_reducible refine bcase_dyes (by omega) ?_
               | with_reducible refine bcase_dno (by omega) ?_
               | with_reducible refine bcase_len (by decide) (fun _ => ?_) (fun _ => ?_)
               | with_reducible refine bcase_eq (fun _ => ?_) (fun _ => ?_)
               | with_reducible refine bcase_dec (fun _ => ?_) (fun _ => ?_)
               | with_reducible refine bcase_true ?_
               | with_reducible refine bcase_false ?_
               | with_reducible refine bcase_intro (fun _ => ?_) (fun _ => ?_)
               | with_reducible refine len_kids (fun _ => ?_)
               | with_reducible refine at_known (by assumption) (by omega) ?_
               | with_reducible refine at_kid (by omega) (by omega) (fun _ _ _ => ?_)
               | with_reducible refine tail_kids (by omega) (by omega) ?_
               | with_reducible refine slice_kids (by omega) (by omega) (by omega) ?_
               | with_reducible refine ex_wrap (by omega) (by omega) ?_
               | with_reducible refine quo_step (by decide) (by omega) (by omega) ?_
               | with_reducible refine rem_step (by decide) ?_
               | with_reducible refine nil_row (fun _ => ?_) ?_
               | with_reducible refine nil_row2 (fun _ => ?_) ?_
               | with_reducible refine len_toks (fun _ => ?_)
               | with_reducible refine len_ints (fun _ => ?_)
               | with_reducible refine tok_known (by assumption) (by omega) ?_
               | with_reducible refine at_tok (by omega) (by omega) (fun _ _ => ?_)
               | with_reducible refine at_int (by omega) (by omega) (fun _ _ => ?_)
               | with_reducible refine slice_ints (by omega) (by omega) (by omega) ?_
               | refine at_box hs ?_
               | refine hf _ _ ?_
               | refine fail_c ?_
               | refine go_c (s' := s') (.inl hs) (fun st' hu => ?_)
               | with_reducible refine draw_head ?_)
    · exact finw rfl (h (by assumption) st' hu)
    · exact fin (k (by assumption) st' hu) rfl
  · skip
    repeat' (conv => whnf
             first
               | with_reducible exact quiet_same
               | with_reducible exact quiet_bool
               | with_reducible exact quiet_not
               | with_reducible refine draw_step (by kernel_rfl) ?_
               | with_reducible refine quiet_go ?_ ?_ ?_
               | with_reducible refine bcase_yes (by first | assumption | omega) ?_
               | with_reducible refine bcase_no (by first | assumption | omega) ?_
               | with_reducible refine bcase_dyes (by omega) ?_
               | with_reducible refine bcase_dno (by omega) ?_
               | with_reducible refine bcase_len (by decide) (fun _ => ?_) (fun _ => ?_)
               | with_reducible refine bcase_eq (fun _ => ?_) (fun _ => ?_)
               | with_reducible refine bcase_dec (fun _ => ?_) (fun _ => ?_)
               | with_reducible refine bcase_true ?_
               | with_reducible refine bcase_false ?_
               | with_reducible refine bcase_intro (fun _ => ?_) (fun _ => ?_)
               | with_reducible refine len_kids (fun _ => ?_)
               | with_reducible refine at_known (by assumption) (by omega) ?_
               | with_reducible refine at_kid (by omega) (by omega) (fun _ _ _ => ?_)
               | with_reducible refine tail_kids (by omega) (by omega) ?_
               | with_reducible refine slice_kids (by omega) (by omega) (by omega) ?_
               | with_reducible refine ex_wrap (by omega) (by omega) ?_
               | with_reducible refine quo_step (by decide) (by omega) (by omega) ?_
               | with_reducible refine rem_step (by decide) ?_
               | with_reducible refine nil_row (fun _ => ?_) ?_
               | with_reducible refine nil_row2 (fun _ => ?_) ?_
               | with_reducible refine len_toks (fun _ => ?_)
               | with_reducible refine len_ints (fun _ => ?_)
               | with_reducible refine tok_known (by assumption) (by omega) ?_
               | with_reducible refine at_tok (by omega) (by omega) (fun _ _ => ?_)
               | with_reducible refine at_int (by omega) (by omega) (fun _ _ => ?_)
               | with_reducible refine slice_ints (by omega) (by omega) (by omega) ?_
               | refine at_box hs ?_
               | refine hf _ _ ?_
               | refine fail_c ?_
               | refine go_c (s' := s') (.inr ⟨t, u, o1, o2, e', hs⟩) (fun st' hu => ?_)
               | with_reducible refine draw_head ?_)
    · exact finw rfl (h (by assumption) st' hu)
    · exact fin (k (by assumption) st' hu) rfl
end
end Go.Proofs.Ytngbihfihdheoaa

/-
  AW, PART 19. Parts of code one behind the other; a call's end with less told.
-/
set_option linter.unusedVariables false
namespace Go.Aw
open Go

section
variable {P : Program}
theorem AW_seq2 {x y : Code} {Q : AExit → Env → St → Prop} {env : Env} {st : St} (h : AW P x (thenQ (fun env st => AW P y Q env st) Q) env st) : AW P (.seq x y) Q env st := fun D I0 st0 w0 I β a w hr => by
    refine wp_seq (wp_mono (h D I0 st0 w0 I β a w hr) ?_)
    rintro e a w ⟨I, β, env, st, ae, h1, h2, h3⟩
    cases ae with
    | normal => cases e <;> first | exact h3 D I0 st0 w0 I β a w h1 | exact h2.elim
    | exit i => cases e <;> first | exact ⟨I, β, env, st, .exit i, h1, h2, h3⟩ | exact h2.elim
    | goto i => cases e <;> first | exact ⟨I, β, env, st, .goto i, h1, h2, h3⟩ | exact h2.elim
    | ret => cases e <;> first | exact ⟨I, β, env, st, .ret, h1, h2, h3⟩ | exact h2.elim
    | pan v => cases e <;> first | exact ⟨I, β, env, st, .pan v, h1, h2, h3⟩ | exact h2.elim
theorem aw_of {T : List (Nat × Ty)} (hP : POk P T) {c : Code} {Q : AExit → Env → St → Prop} {env : Env} {st : St} (h : awp T (PCalls P) c Q env st) : AW P c Q env st :=
  awp_sound hP (pcalls_sound P) (fun _ _ _ _ _ h k => k.mono h) c h

/-- what a walk's end leaves -/
def Ends (R : Res → St → Prop) (r : Res) (st : St) : Prop := ∃ r2 st2, (r2 = r ∨ r2 = r.wk) ∧ St.le st2 st ∧ R r2 st2
theorem PCalls.ends {f : FuncId} {args : List V} {st : St} {R : Res → St → Prop} (h : PCalls P f args st (Ends R)) : PCalls P f args st R := by
  refine ⟨fun I w cargs hs ha => (h.a I w cargs hs ha).mono ?_, h.b⟩
  rintro e w' ⟨I', st', r, k1, k2, k3, r2, st2, k4, k5, k6⟩
  have hr : Rel [] I st w I' (fun _ => none) { tmps := [], boxes := [], nxt := 0, sz := 0, gl := [] } st' { tmps := #[], defers := [] } w' :=
    ⟨k1, k2, ⟨rfl, fun t v e => (by cases e), fun id cs e => (by cases e), fun id b e => (by cases e), fun i j b e => (by cases e), fun id b e => (by cases e), rfl⟩⟩
  have hr' := hr.stLe k5
  refine ⟨I', st2, r2, hr'.fr, hr'.s, ?_, k6⟩
  rcases k4 with rfl | rfl
  · exact k3
  · cases e with
    | returned c =>
      cases r with
      | ret v => exact Rep.wk k3
      | pan v => exact k3.elim
    | panicked chain =>
      cases r with
      | ret v => exact k3.elim
      | pan v =>
        obtain ⟨c, h1, h2⟩ := k3
        exact ⟨c, h1, Rep.wk h2⟩
    | outgrown => cases r <;> exact k3.elim
end
end Go.Aw

/-
  READER: Catch, and the closure that recovers.
-/
set_option linter.unusedVariables false
set_option pp.maxSteps 400
namespace Go.Proofs.Ytngbihfihdheoaa
open Go Go.Aw

def catchPL : List (List Bool × Nat) := [([false, false, false, false, false, false, false, false], 0), ([false, false, false, false, false, false, false, false], 1), ([true, false, false, false, false, false, false, false], 1), ([true, false, false, false, false, false, false, false], 5), ([false, true, false, false, false, false, false, false], 0), ([false, true, false, false, false, false, false, false], 2), ([true, true, false, false, false, false, false, false], 2), ([true, true, false, false, false, false, false, false], 5), ([true, false, false, false, false, true, false, false], 1), ([false, true, true, false, false, false, false, false], 0), ([false, true, true, false, false, false, false, false], 3), ([true, true, true, false, false, false, false, false], 3), ([true, true, true, false, false, false, false, false], 5), ([true, true, false, false, false, true, false, false], 2), ([false, true, true, true, false, false, false, false], 0), ([false, true, true, true, false, false, false, false], 4), ([true, true, true, true, false, false, false, false], 4), ([true, true, true, true, false, false, false, false], 5), ([true, true, true, false, false, true, false, false], 3), ([false, true, true, true, true, false, false, false], 0), ([true, true, true, true, true, false, false, false], 5), ([true, true, true, true, false, true, false, false], 4), ([true, true, true, true, true, true, false, false], 6), ([true, true, true, true, true, true, true, false], 7)]
def closePL : List (List Bool × Nat) := [([false, false, false, false, false, false, false, false, false, false], 0), ([false, false, false, false, false, false, false, false, false, false], 1), ([false, false, false, false, false, false, false, false, false, false], 5), ([true, false, false, false, false, false, false, false, false, false], 1), ([true, false, false, false, false, false, false, false, false, false], 5), ([false, true, false, false, false, false, false, false, false, false], 0), ([false, true, false, false, false, false, false, false, false, false], 2), ([false, true, false, false, false, false, false, false, false, false], 5), ([false, false, false, false, false, true, false, false, false, false], 0), ([false, false, false, false, false, true, false, false, false, false], 1), ([false, false, false, false, false, true, false, false, false, false], 6), ([true, true, false, false, false, false, false, false, false, false], 2), ([true, true, false, false, false, false, false, false, false, false], 5), ([true, false, false, false, false, true, false, false, false, false], 1), ([true, false, false, false, false, true, false, false, false, false], 6), ([false, true, true, false, false, false, false, false, false, false], 0), ([false, true, true, false, false, false, false, false, false, false], 3), ([false, true, true, false, false, false, false, false, false, false], 5), ([false, true, false, false, false, true, false, false, false, false], 0), ([false, true, false, false, false, true, false, false, false, false], 2), ([false, true, false, false, false, true, false, false, false, false], 6), ([false, false, false, false, false, true, true, false, false, false], 0), ([false, false, false, false, false, true, true, false, false, false], 1), ([true, true, true, false, false, false, false, false, false, false], 3), ([true, true, true, false, false, false, false, false, false, false], 5), ([true, true, false, false, false, true, false, false, false, false], 2), ([true, true, false, false, false, true, false, false, false, false], 6), ([true, false, false, false, false, true, true, false, false, false], 1), ([false, true, true, true, false, false, false, false, false, false], 0), ([false, true, true, true, false, false, false, false, false, false], 4), ([false, true, true, true, false, false, false, false, false, false], 5), ([false, true, true, false, false, true, false, false, false, false], 0), ([false, true, true, false, false, true, false, false, false, false], 3), ([false, true, true, false, false, true, false, false, false, false], 6), ([false, true, false, false, false, true, true, false, false, false], 0), ([false, true, false, false, false, true, true, false, false, false], 2), ([true, true, true, true, false, false, false, false, false, false], 4), ([true, true, true, true, false, false, false, false, false, false], 5), ([true, true, true, false, false, true, false, false, false, false], 3), ([true, true, true, false, false, true, false, false, false, false], 6), ([true, true, false, false, false, true, true, false, false, false], 2), ([false, true, true, true, true, false, false, false, false, false], 0), ([false, true, true, true, true, false, false, false, false, false], 5), ([false, true, true, true, false, true, false, false, false, false], 0), ([false, true, true, true, false, true, false, false, false, false], 4), ([false, true, true, true, false, true, false, false, false, false], 6), ([false, true, true, false, false, true, true, false, false, false], 0), ([false, true, true, false, false, true, true, false, false, false], 3), ([true, true, true, true, true, false, false, false, false, false], 5), ([true, true, true, true, true, false, false, false, false, false], 7), ([true, true, true, true, false, true, false, false, false, false], 4), ([true, true, true, true, false, true, false, false, false, false], 6), ([true, true, true, false, false, true, true, false, false, false], 3), ([false, true, true, true, true, true, false, false, false, false], 0), ([false, true, true, true, true, true, false, false, false, false], 6), ([false, true, true, true, false, true, true, false, false, false], 0), ([false, true, true, true, false, true, true, false, false, false], 4), ([true, true, true, true, true, true, false, false, false, false], 6), ([true, true, true, true, true, true, false, false, false, false], 7), ([true, true, true, true, true, false, false, true, false, false], 5), ([true, true, true, true, true, false, false, true, false, false], 8), ([true, true, true, true, false, true, true, false, false, false], 4), ([false, true, true, true, true, true, true, false, false, false], 0), ([true, true, true, true, true, true, true, false, false, false], 7), ([true, true, true, true, true, true, false, true, false, false], 6), ([true, true, true, true, true, true, false, true, false, false], 8), ([true, true, true, true, true, false, false, true, true, false], 5), ([true, true, true, true, true, true, true, true, false, false], 8), ([true, true, true, true, true, true, false, true, true, false], 6), ([true, true, true, true, true, true, true, true, true, false], 9)]

section
variable {st : St} {R : Res → St → Prop}
attribute [local irreducible] Go.Aw.appendTo

/-- a tree of nothing -/
def nd0 : Nd := .mk 0 0 [] 0 0 []
def zeroN : List V := [.int .i64 0, .int .i64 0, .str [], .int .i64 0, .int .i64 0, .slice 6 [] .full]

theorem close_none {bp bn ba be : Nat} {RS : St → Prop} (h : RS st) : DCalls Try.prog 43 [.ptr bp 0, .ptr bn 0, .ptr ba 0, .ptr be 0] none st RS := by
  refine dcalls_of_body tys_ok [] Try.func43 rfl rfl rfl rfl rfl rfl rfl rfl (fun env0 he => ?_)
  subst he
  conv => whnf
  refine AW_seq2 (aw_of tys_ok ?_)
  repeat' (conv => whnf
           first
             | with_reducible exact quiet_same
             | with_reducible exact quiet_bool
             | with_reducible exact quiet_not
             | with_reducible refine draw_step (by kernel_rfl) ?_
             | with_reducible refine quiet_go ?_ ?_ ?_
             | with_reducible refine bcase_yes (by first | assumption | omega) ?_
             | with_reducible refine bcase_no (by first | assumption | omega) ?_
             | with_reducible refine bcase_dyes (by omega) ?_
             | with_reducible refine bcase_dno (by omega) ?_
             | with_reducible refine bcase_len (by decide) (fun _ => ?_) (fun _ => ?_)
             | with_reducible refine bcase_eq (fun _ => ?_) (fun _ => ?_)
             | with_reducible refine bcase_dec (fun _ => ?_) (fun _ => ?_)
             | with_reducible refine bcase_true ?_
             | with_reducible refine bcase_false ?_
             | with_reducible refine bcase_intro (fun _ => ?_) (fun _ => ?_)
             | with_reducible refine len_kids (fun _ => ?_)
             | with_reducible refine at_known (by assumption) (by omega) ?_
             | with_reducible refine at_kid (by omega) (by omega) (fun _ _ _ => ?_)
             | with_reducible refine tail_kids (by omega) (by omega) ?_
             | with_reducible refine slice_kids (by omega) (by omega) (by omega) ?_
             | with_reducible refine ex_wrap (by omega) (by omega) ?_
             | with_reducible refine quo_step (by decide) (by omega) (by omega) ?_
             | with_reducible refine rem_step (by decide) ?_
             | with_reducible refine nil_row (fun _ => ?_) ?_
             | with_reducible refine nil_row2 (fun _ => ?_) ?_
             | with_reducible refine len_toks (fun _ => ?_)
             | with_reducible refine len_ints (fun _ => ?_)
             | with_reducible refine tok_known (by assumption) (by omega) ?_
             | with_reducible refine at_tok (by omega) (by omega) (fun _ _ => ?_)
             | with_reducible refine at_int (by omega) (by omega) (fun _ _ => ?_)
             | with_reducible refine slice_ints (by omega) (by omega) (by omega) ?_
             | with_reducible refine draw_head ?_)
  all_goals exact h

theorem St.box_ne {st : St} {b c : Nat} {cs : List V} (h : b ≠ c) : (st.setBox b cs).box c = st.box c := by simp [St.setBox, Ne.symm h]
noncomputable def closeOps : List Oper := match Try.f43.body with | some (.seq _ (.seq _ (.seq _ (.seq _ (.region _ ops _))))) => ops.toList | _ => []
noncomputable def closeE (bs : List Bool) (bp bn ba be br : Nat) (sc : List V) (e : Int) : Env :=
  { tmps := putT [(6, .bool true), (14, .bool true), (13, .agg [.int .i64 e]), (5, .lptr 0 0), (4, fault e), (0, .ptr bp 0), (1, .ptr bn 0), (2, .ptr ba 0), (3, .ptr be 0)]
      closeOps
      [.agg zeroN, .ptr br 0, .ptr br 0, .ptr br 0, .agg sc, .lptr 0 0, .int .i64 e, .junk, .junk, .junk] bs, boxes := [(0, [.int .i64 e])], nxt := 1, sz := 25, gl := [] }
def closeS (st : St) (bn ba be : Nat) (sc : List V) (e : Int) (bs : List Bool) : St :=
  match bs[7]?, bs[8]?, bs[9]? with
  | _, _, some true => ((st.setBox bn zeroN).setBox ba sc).setBox be [.int .i64 e]
  | _, some true, _ => (st.setBox bn zeroN).setBox ba sc
  | some true, _, _ => st.setBox bn zeroN
  | _, _, _ => st
set_option maxHeartbeats 8000000 in
theorem close_some {bp bn ba be br : Nat} {s : Sta} {e : Int} {RS : St → Prop} (hp : st.box bp = some [.ptr br 0]) (hr : Has st br s) {n0 : Nd} {s0 : Sta} {o1 o2 o3 : Own} {e0 : Int}
    (hn : st.box bn = some [.int .i64 n0.kind, .int .i64 n0.form, .str n0.text, .int .i64 n0.line, .int .i64 n0.col, .slice 6 (encs n0.kids) o1])
    (ha : st.box ba = some [.slice 4 (encTs s0.toks) o2, .int .i64 s0.pos, .slice 1 (ints s0.opn) o3, .int .i64 s0.wait]) (he : st.box be = some [.int .i64 e0])
    (d1 : bn ≠ bp) (d2 : bn ≠ br) (d3 : bn ≠ ba) (d4 : bn ≠ be) (d5 : ba ≠ bp) (d6 : ba ≠ br) (d7 : ba ≠ be)
    (h : RS (((st.setBox bn zeroN).setBox ba s.cells).setBox be [.int .i64 e])) : DCalls Try.prog 43 [.ptr bp 0, .ptr bn 0, .ptr ba 0, .ptr be 0] (some (fault e)) st RS := by
  refine dcalls_of_body tys_ok [] Try.func43 rfl rfl rfl rfl rfl rfl rfl rfl (fun env0 he => ?_)
  subst he
  conv => whnf
  refine AW_seq2 (aw_of tys_ok ?_)
  repeat' (conv => whnf
           first
             | with_reducible exact quiet_same
             | with_reducible exact quiet_bool
             | with_reducible exact quiet_not
             | with_reducible refine draw_step (by kernel_rfl) ?_
             | with_reducible refine quiet_go ?_ ?_ ?_
             | with_reducible refine bcase_yes (by first | assumption | omega) ?_
             | with_reducible refine bcase_no (by first | assumption | omega) ?_
             | with_reducible refine bcase_dyes (by omega) ?_
             | with_reducible refine bcase_dno (by omega) ?_
             | with_reducible refine bcase_len (by decide) (fun _ => ?_) (fun _ => ?_)
             | with_reducible refine bcase_eq (fun _ => ?_) (fun _ => ?_)
             | with_reducible refine bcase_dec (fun _ => ?_) (fun _ => ?_)
             | with_reducible refine bcase_true ?_
             | with_reducible refine bcase_false ?_
             | with_reducible refine bcase_intro (fun _ => ?_) (fun _ => ?_)
             | with_reducible refine len_kids (fun _ => ?_)
             | with_reducible refine at_known (by assumption) (by omega) ?_
             | with_reducible refine at_kid (by omega) (by omega) (fun _ _ _ => ?_)
             | with_reducible refine tail_kids (by omega) (by omega) ?_
             | with_reducible refine slice_kids (by omega) (by omega) (by omega) ?_
             | with_reducible refine ex_wrap (by omega) (by omega) ?_
             | with_reducible refine quo_step (by decide) (by omega) (by omega) ?_
             | with_reducible refine rem_step (by decide) ?_
             | with_reducible refine nil_row (fun _ => ?_) ?_
             | with_reducible refine nil_row2 (fun _ => ?_) ?_
             | with_reducible refine len_toks (fun _ => ?_)
             | with_reducible refine len_ints (fun _ => ?_)
             | with_reducible refine tok_known (by assumption) (by omega) ?_
             | with_reducible refine at_tok (by omega) (by omega) (fun _ _ => ?_)
             | with_reducible refine at_int (by omega) (by omega) (fun _ _ => ?_)
             | with_reducible refine slice_ints (by omega) (by omega) (by omega) ?_
             | with_reducible refine draw_head ?_)
  refine AW_seq2 (aw_of tys_ok ?_)
  repeat' (conv => whnf
           first
             | with_reducible exact quiet_same
             | with_reducible exact quiet_bool
             | with_reducible exact quiet_not
             | with_reducible refine draw_step (by kernel_rfl) ?_
             | with_reducible refine quiet_go ?_ ?_ ?_
             | with_reducible refine bcase_yes (by first | assumption | omega) ?_
             | with_reducible refine bcase_no (by first | assumption | omega) ?_
             | with_reducible refine bcase_dyes (by omega) ?_
             | with_reducible refine bcase_dno (by omega) ?_
             | with_reducible refine bcase_len (by decide) (fun _ => ?_) (fun _ => ?_)
             | with_reducible refine bcase_eq (fun _ => ?_) (fun _ => ?_)
             | with_reducible refine bcase_dec (fun _ => ?_) (fun _ => ?_)
             | with_reducible refine bcase_true ?_
             | with_reducible refine bcase_false ?_
             | with_reducible refine bcase_intro (fun _ => ?_) (fun _ => ?_)
             | with_reducible refine len_kids (fun _ => ?_)
             | with_reducible refine at_known (by assumption) (by omega) ?_
             | with_reducible refine at_kid (by omega) (by omega) (fun _ _ _ => ?_)
             | with_reducible refine tail_kids (by omega) (by omega) ?_
             | with_reducible refine slice_kids (by omega) (by omega) (by omega) ?_
             | with_reducible refine ex_wrap (by omega) (by omega) ?_
             | with_reducible refine quo_step (by decide) (by omega) (by omega) ?_
             | with_reducible refine rem_step (by decide) ?_
             | with_reducible refine nil_row (fun _ => ?_) ?_
             | with_reducible refine nil_row2 (fun _ => ?_) ?_
             | with_reducible refine len_toks (fun _ => ?_)
             | with_reducible refine len_ints (fun _ => ?_)
             | with_reducible refine tok_known (by assumption) (by omega) ?_
             | with_reducible refine at_tok (by omega) (by omega) (fun _ _ => ?_)
             | with_reducible refine at_int (by omega) (by omega) (fun _ _ => ?_)
             | with_reducible refine slice_ints (by omega) (by omega) (by omega) ?_
             | with_reducible refine draw_head ?_)
  refine AW_seq2 (aw_of tys_ok ?_)
  repeat' (conv => whnf
           first
             | with_reducible exact quiet_same
             | with_reducible exact quiet_bool
             | with_reducible exact quiet_not
             | with_reducible refine draw_step (by kernel_rfl) ?_
             | with_reducible refine quiet_go ?_ ?_ ?_
             | with_reducible refine bcase_yes (by first | assumption | omega) ?_
             | with_reducible refine bcase_no (by first | assumption | omega) ?_
             | with_reducible refine bcase_dyes (by omega) ?_
             | with_reducible refine bcase_dno (by omega) ?_
             | with_reducible refine bcase_len (by decide) (fun _ => ?_) (fun _ => ?_)
             | with_reducible refine bcase_eq (fun _ => ?_) (fun _ => ?_)
             | with_reducible refine bcase_dec (fun _ => ?_) (fun _ => ?_)
             | with_reducible refine bcase_true ?_
             | with_reducible refine bcase_false ?_
             | with_reducible refine bcase_intro (fun _ => ?_) (fun _ => ?_)
             | with_reducible refine len_kids (fun _ => ?_)
             | with_reducible refine at_known (by assumption) (by omega) ?_
             | with_reducible refine at_kid (by omega) (by omega) (fun _ _ _ => ?_)
             | with_reducible refine tail_kids (by omega) (by omega) ?_
             | with_reducible refine slice_kids (by omega) (by omega) (by omega) ?_
             | with_reducible refine ex_wrap (by omega) (by omega) ?_
             | with_reducible refine quo_step (by decide) (by omega) (by omega) ?_
             | with_reducible refine rem_step (by decide) ?_
             | with_reducible refine nil_row (fun _ => ?_) ?_
             | with_reducible refine nil_row2 (fun _ => ?_) ?_
             | with_reducible refine len_toks (fun _ => ?_)
             | with_reducible refine len_ints (fun _ => ?_)
             | with_reducible refine tok_known (by assumption) (by omega) ?_
             | with_reducible refine at_tok (by omega) (by omega) (fun _ _ => ?_)
             | with_reducible refine at_int (by omega) (by omega) (fun _ _ => ?_)
             | with_reducible refine slice_ints (by omega) (by omega) (by omega) ?_
             | with_reducible refine draw_head ?_)
  have ha' : (st.setBox bn zeroN).box ba = some [.slice 4 (encTs s0.toks) o2, .int .i64 s0.pos, .slice 1 (ints s0.opn) o3, .int .i64 s0.wait] := by rw [St.box_ne d3]; exact ha
  have he' : ((st.setBox bn zeroN).setBox ba s.cells).box be = some [.int .i64 e0] := by rw [St.box_ne d7, St.box_ne d4]; exact he
  refine aw_any tys_ok (pcalls_sound _) (fun bs => closeE bs bp bn ba be br s.cells e) (closeS st bn ba be s.cells e) closePL (by decide +kernel) (by refine ⟨rfl, ?_, ?_, rfl⟩ <;> repeat' (first | exact trivial | exact rfl | refine And.intro ?_ ?_)) (St.le_refl _) ?_ h
  unfold closePL
  rcases hr with hr | ⟨t, u, q1, q2, q3, hr⟩
  all_goals repeat' (first | refine List.forall_mem_cons.2 ⟨?_, ?_⟩ | exact fun _ h => nomatch h)
  repeat' (conv => whnf
           first
             | with_reducible exact quiet_same
             | with_reducible exact quiet_bool
             | with_reducible exact quiet_not
             | with_reducible refine draw_step (by kernel_rfl) ?_
             | with_reducible refine quiet_go ?_ ?_ ?_
             | with_reducible refine bcase_yes (by first | assumption | omega) ?_
             | with_reducible refine bcase_no (by first | assumption | omega) ?_
             | with_reducible refine bcase_dyes (by omega) ?_
             | with_reducible refine bcase_dno (by omega) ?_
             | with_reducible refine bcase_len (by decide) (fun _ => ?_) (fun _ => ?_)
             | with_reducible refine bcase_eq (fun _ => ?_) (fun _ => ?_)
             | with_reducible refine bcase_dec (fun _ => ?_) (fun _ => ?_)
             | with_reducible refine bcase_true ?_
             | with_reducible refine bcase_false ?_
             | with_reducible refine bcase_intro (fun _ => ?_) (fun _ => ?_)
             | with_reducible refine len_kids (fun _ => ?_)
             | with_reducible refine at_known (by assumption) (by omega) ?_
             | with_reducible refine at_kid (by omega) (by omega) (fun _ _ _ => ?_)
             | with_reducible refine tail_kids (by omega) (by omega) ?_
             | with_reducible refine slice_kids (by omega) (by omega) (by omega) ?_
             | with_reducible refine ex_wrap (by omega) (by omega) ?_
             | with_reducible refine quo_step (by decide) (by omega) (by omega) ?_
             | with_reducible refine rem_step (by decide) ?_
             | with_reducible refine nil_row (fun _ => ?_) ?_
             | with_reducible refine nil_row2 (fun _ => ?_) ?_
             | with_reducible refine len_toks (fun _ => ?_)
             | with_reducible refine len_ints (fun _ => ?_)
             | with_reducible refine tok_known (by assumption) (by omega) ?_
             | with_reducible refine at_tok (by omega) (by omega) (fun _ _ => ?_)
             | with_reducible refine at_int (by omega) (by omega) (fun _ _ => ?_)
             | with_reducible refine slice_ints (by omega) (by omega) (by omega) ?_
             | refine at_box hp ?_
             | refine at_box hr ?_
             | refine at_box hn ?_
             | refine at_box ha' ?_
             | refine at_box he' ?_
             | with_reducible refine draw_head ?_)
  all_goals conv => whnf
  all_goals (refine ⟨(by refine ⟨rfl, ?_, ?_, rfl⟩ <;> repeat' (first | exact trivial | exact rfl | refine And.intro ?_ ?_)), ?_⟩)
  all_goals exact St.le_refl _
end
end Go.Proofs.Ytngbihfihdheoaa

/-
  READER: Catch.
-/
set_option linter.unusedVariables false
set_option pp.maxSteps 400
namespace Go.Proofs.Ytngbihfihdheoaa
open Go Go.Aw

abbrev Rs := Sum (Int × Sta) (Nd × Sta)
/-- what a reading answers -/
def Tells (st : St) (b : Nat) (R : Res → St → Prop) : Rs → Prop
  | .inr (n, s') => ∀ st', Upd st st' b s' → R (.ret (enc n)) st'
  | .inl (e, s') => ∀ st', Upd st st' b s' → R (.pan (fault e)) st'
def Reads (f : FuncId) (s : Sta) (d : Int) (q : Rs) : Prop := ∀ (b : Nat) (st : St) (R : Res → St → Prop), Has st b s → Tells st b R q → PC f [.ptr b 0, .int .i64 d] st R
def catchR (s : Sta) (deep : Int) (q : Rs) : Nd × Sta × Int :=
  if deep < 1 then (nd0, s, 2) else match q with
    | .inr (n, s') => (n, s', 0)
    | .inl (e, s') => (nd0, s', e)
def encR (p : Nd × Sta × Int) : V := encR3 p.1 p.2.1 p.2.2

section
variable {st : St} {R : Res → St → Prop}
attribute [local irreducible] Go.Aw.appendTo

theorem fresh_ne {st : St} {b c : Nat} {cs : List V} (h : (st.setBox b cs).fresh c) : b ≠ c ∧ st.fresh c := by
  by_cases e : b = c
  · subst e
    have := h.1
    rw [St.box_same] at this
    cases this
  · refine ⟨e, ?_, h.2⟩
    have := h.1
    rw [St.box_ne e] at this
    exact this
theorem new_box {st : St} {K : Nat → Prop} (h : ∀ b, st.fresh b → K b) : ∀ b, st.fresh b → K b := h
theorem le_self {st : St} {b : Nat} {cs : List V} (h : st.box b = some cs) : St.le st (st.setBox b cs) := by rw [St.set_self h]; exact St.le_refl _
noncomputable def catchOps : List Oper := match Try.f27.body with | some (.seq _ (.seq _ (.seq _ (.seq _ (.seq _ (.seq (.region _ ops _) _)))))) => ops.toList | _ => []
noncomputable def catchE (bs : List Bool) (b1 b2 b3 b4 b5 : Nat) (nc sc : List V) : Env :=
  { tmps := putT [(6, .ptr b1 0), (7, .ptr b2 0), (8, .ptr b3 0), (9, .ptr b5 0)] catchOps [.agg nc, .ptr b4 0, .ptr b4 0, .ptr b4 0, .agg sc, .junk, .junk, .junk] bs, boxes := [], nxt := 1, sz := 28, gl := [6, 7, 8, 9, 12] }
def catchS (st : St) (b2 b3 : Nat) (sc : List V) (bs : List Bool) : St :=
  match bs[6]?, bs[7]? with
  | _, some true => (st.setBox b2 sc).setBox b3 [.int .i64 0]
  | some true, _ => st.setBox b2 sc
  | _, _ => st
set_option maxHeartbeats 8000000 in
theorem catch_c {f : FuncId} {s : Sta} {deep : Int} {q : Rs} (hq : ¬ deep < 1 → Reads f s (if 100 < deep then 100 else deep) q) (h : R (.ret (encR (catchR s deep q))) st) : PC 27 [encS s, .int .i64 deep, .func f [] []] st R := by
  refine PCalls.ends (pcalls_defer tys_ok [6, 7, 8, 9, 12] Try.func27 rfl (by decide) rfl rfl rfl rfl rfl rfl ⟨_, Try.func43, rfl, by decide⟩ rfl ?_)
  repeat' (conv => whnf
           first
             | with_reducible exact quiet_same
             | with_reducible exact quiet_bool
             | with_reducible exact quiet_not
             | with_reducible refine draw_step (by kernel_rfl) ?_
             | with_reducible refine quiet_go ?_ ?_ ?_
             | with_reducible refine bcase_yes (by first | assumption | omega) ?_
             | with_reducible refine bcase_no (by first | assumption | omega) ?_
             | with_reducible refine bcase_dyes (by omega) ?_
             | with_reducible refine bcase_dno (by omega) ?_
             | with_reducible refine bcase_len (by decide) (fun _ => ?_) (fun _ => ?_)
             | with_reducible refine bcase_eq (fun _ => ?_) (fun _ => ?_)
             | with_reducible refine bcase_dec (fun _ => ?_) (fun _ => ?_)
             | with_reducible refine bcase_true ?_
             | with_reducible refine bcase_false ?_
             | with_reducible refine bcase_intro (fun _ => ?_) (fun _ => ?_)
             | with_reducible refine len_kids (fun _ => ?_)
             | with_reducible refine at_known (by assumption) (by omega) ?_
             | with_reducible refine at_kid (by omega) (by omega) (fun _ _ _ => ?_)
             | with_reducible refine tail_kids (by omega) (by omega) ?_
             | with_reducible refine slice_kids (by omega) (by omega) (by omega) ?_
             | with_reducible refine ex_wrap (by omega) (by omega) ?_
             | with_reducible refine quo_step (by decide) (by omega) (by omega) ?_
             | with_reducible refine rem_step (by decide) ?_
             | with_reducible refine nil_row (fun _ => ?_) ?_
             | with_reducible refine nil_row2 (fun _ => ?_) ?_
             | with_reducible refine len_toks (fun _ => ?_)
             | with_reducible refine len_ints (fun _ => ?_)
             | with_reducible refine tok_known (by assumption) (by omega) ?_
             | with_reducible refine at_tok (by omega) (by omega) (fun _ _ => ?_)
             | with_reducible refine at_int (by omega) (by omega) (fun _ _ => ?_)
             | with_reducible refine slice_ints (by omega) (by omega) (by omega) ?_
             | refine new_box (fun b5 f5 => ?_)
             | refine at_box (St.box_same ..) ?_
             | with_reducible refine draw_head ?_)
  rename_i b1 f1 b2 f2 b3 f3 b4 f4
  obtain ⟨n12, f2a⟩ := fresh_ne f2
  obtain ⟨n23, f3a⟩ := fresh_ne f3
  obtain ⟨n13, f3b⟩ := fresh_ne f3a
  obtain ⟨n34, f4a⟩ := fresh_ne f4
  obtain ⟨n24, f4b⟩ := fresh_ne f4a
  obtain ⟨n14, f4c⟩ := fresh_ne f4b
  obtain ⟨n45, f5a⟩ := fresh_ne f5
  obtain ⟨n35, f5b⟩ := fresh_ne f5a
  obtain ⟨n25, f5c⟩ := fresh_ne f5b
  obtain ⟨n15, f5d⟩ := fresh_ne f5c
  conv => whnf
  refine ⟨rfl, chk_intro rfl ?_⟩
  generalize hst5 : St.setBox _ b5 [V.ptr b4 0] = st5
  have k1 : st5.box b1 = some zeroN := by subst hst5; rw [St.box_ne n15.symm, St.box_ne n15.symm, St.box_ne n14.symm, St.box_ne n13.symm, St.box_ne n12.symm, St.box_same]; rfl
  have k2 : st5.box b2 = some [.slice 4 (encTs sta0.toks) .full, .int .i64 sta0.pos, .slice 1 (ints sta0.opn) .full, .int .i64 sta0.wait] := by subst hst5; rw [St.box_ne n25.symm, St.box_ne n25.symm, St.box_ne n24.symm, St.box_ne n23.symm, St.box_same]; rfl
  have k3 : st5.box b3 = some [.int .i64 0] := by subst hst5; rw [St.box_ne n35.symm, St.box_ne n35.symm, St.box_ne n34.symm, St.box_same]
  have k4 : Has st5 b4 s := by subst hst5; refine .inr ⟨tk0, sta0, .full, .full, 0, ?_⟩; rw [St.box_ne n45.symm, St.box_ne n45.symm, St.box_same]; rfl
  have k5 : st5.box b5 = some [.ptr b4 0] := by subst hst5; rw [St.box_same]
  have kle : st.le st5 := by
    subst hst5
    exact St.le_setBox (St.le_setBox (St.le_setBox (St.le_setBox (St.le_setBox (St.le_setBox (St.le_refl _) f1.1 _) f2a.1 _) f3b.1 _) f4c.1 _) f5d.1 _) f5d.1 _
  have kpan : ∀ (st6 : St) (e : Int) (s' : Sta), Upd st5 st6 b4 s' → st6.box b5 = some [.ptr b4 0] ∧ st6.box b1 = some zeroN ∧ st6.box b2 = some [.slice 4 (encTs sta0.toks) .full, .int .i64 sta0.pos, .slice 1 (ints sta0.opn) .full, .int .i64 sta0.wait] ∧ st6.box b3 = some [.int .i64 0] ∧ st.le st6 := by
    rintro st6 e s' ⟨_, cs, rfl⟩
    exact ⟨by rw [St.box_ne n45]; exact k5, by rw [St.box_ne n14.symm]; exact k1, by rw [St.box_ne n24.symm]; exact k2, by rw [St.box_ne n34.symm]; exact k3, St.le_setBox kle f4c.1 _⟩
  clear hst5 f2 f3 f4 f5 f3a f4a f4b f5a f5b f5c
  refine AW_seq2 (aw_of tys_ok ?_)
  repeat' (conv => whnf
           first
             | with_reducible exact quiet_same
             | with_reducible exact quiet_bool
             | with_reducible exact quiet_not
             | with_reducible refine draw_step (by kernel_rfl) ?_
             | with_reducible refine quiet_go ?_ ?_ ?_
             | with_reducible refine bcase_yes (by first | assumption | omega) ?_
             | with_reducible refine bcase_no (by first | assumption | omega) ?_
             | with_reducible refine bcase_dyes (by omega) ?_
             | with_reducible refine bcase_dno (by omega) ?_
             | with_reducible refine bcase_len (by decide) (fun _ => ?_) (fun _ => ?_)
             | with_reducible refine bcase_eq (fun _ => ?_) (fun _ => ?_)
             | with_reducible refine bcase_dec (fun _ => ?_) (fun _ => ?_)
             | with_reducible refine bcase_true ?_
             | with_reducible refine bcase_false ?_
             | with_reducible refine bcase_intro (fun _ => ?_) (fun _ => ?_)
             | with_reducible refine len_kids (fun _ => ?_)
             | with_reducible refine at_known (by assumption) (by omega) ?_
             | with_reducible refine at_kid (by omega) (by omega) (fun _ _ _ => ?_)
             | with_reducible refine tail_kids (by omega) (by omega) ?_
             | with_reducible refine slice_kids (by omega) (by omega) (by omega) ?_
             | with_reducible refine ex_wrap (by omega) (by omega) ?_
             | with_reducible refine quo_step (by decide) (by omega) (by omega) ?_
             | with_reducible refine rem_step (by decide) ?_
             | with_reducible refine nil_row (fun _ => ?_) ?_
             | with_reducible refine nil_row2 (fun _ => ?_) ?_
             | with_reducible refine len_toks (fun _ => ?_)
             | with_reducible refine len_ints (fun _ => ?_)
             | with_reducible refine tok_known (by assumption) (by omega) ?_
             | with_reducible refine at_tok (by omega) (by omega) (fun _ _ => ?_)
             | with_reducible refine at_int (by omega) (by omega) (fun _ _ => ?_)
             | with_reducible refine slice_ints (by omega) (by omega) (by omega) ?_
             | refine at_box k5 ?_
             | refine fail_c ?_
             | with_reducible refine draw_head ?_)
  · refine close_some (n0 := nd0) (s0 := sta0) k5 k4 k1 k2 k3 n15 n14 n12 n13 n25 n24 n23 ?_
    have g1 : (((st5.setBox b1 zeroN).setBox b2 s.cells).setBox b3 [.int .i64 2]).box b1 = some zeroN := by rw [St.box_ne n13.symm, St.box_ne n12.symm, St.box_same]
    have g2 : (((st5.setBox b1 zeroN).setBox b2 s.cells).setBox b3 [.int .i64 2]).box b2 = some s.cells := by rw [St.box_ne n23.symm, St.box_same]
    have gl : st.le (((st5.setBox b1 zeroN).setBox b2 s.cells).setBox b3 [.int .i64 2]) := St.le_setBox (St.le_setBox (St.le_setBox kle f1.1 _) f2a.1 _) f3b.1 _
    unfold catchR at h
    rw [if_pos (by assumption)] at h
    repeat' (conv => whnf
             first
               | with_reducible exact quiet_same
               | with_reducible exact quiet_bool
               | with_reducible exact quiet_not
               | with_reducible refine draw_step (by kernel_rfl) ?_
               | with_reducible refine quiet_go ?_ ?_ ?_
               | with_reducible refine bcase_yes (by first | assumption | omega) ?_
               | with_reducible refine bcase_no (by first | assumption | omega) ?_
               | with_reducible refine bcase_dyes (by omega) ?_
               | with_reducible refine bcase_dno (by omega) ?_
               | with_reducible refine bcase_len (by decide) (fun _ => ?_) (fun _ => ?_)
               | with_reducible refine bcase_eq (fun _ => ?_) (fun _ => ?_)
               | with_reducible refine bcase_dec (fun _ => ?_) (fun _ => ?_)
               | with_reducible refine bcase_true ?_
               | with_reducible refine bcase_false ?_
               | with_reducible refine bcase_intro (fun _ => ?_) (fun _ => ?_)
               | with_reducible refine len_kids (fun _ => ?_)
               | with_reducible refine at_known (by assumption) (by omega) ?_
               | with_reducible refine at_kid (by omega) (by omega) (fun _ _ _ => ?_)
               | with_reducible refine tail_kids (by omega) (by omega) ?_
               | with_reducible refine slice_kids (by omega) (by omega) (by omega) ?_
               | with_reducible refine ex_wrap (by omega) (by omega) ?_
               | with_reducible refine quo_step (by decide) (by omega) (by omega) ?_
               | with_reducible refine rem_step (by decide) ?_
               | with_reducible refine nil_row (fun _ => ?_) ?_
               | with_reducible refine nil_row2 (fun _ => ?_) ?_
               | with_reducible refine len_toks (fun _ => ?_)
               | with_reducible refine len_ints (fun _ => ?_)
               | with_reducible refine tok_known (by assumption) (by omega) ?_
               | with_reducible refine at_tok (by omega) (by omega) (fun _ _ => ?_)
               | with_reducible refine at_int (by omega) (by omega) (fun _ _ => ?_)
               | with_reducible refine slice_ints (by omega) (by omega) (by omega) ?_
               | refine at_box g1 ?_
               | refine at_box g2 ?_
               | refine at_box (St.box_same ..) ?_
               | with_reducible refine draw_head ?_)
    all_goals exact finl gl rfl h
  · rename_i hd
    unfold catchR at h
    rw [if_neg hd] at h
    have hq := hq hd b4
    refine AW_seq2 (aw_of tys_ok ?_)
    cases q with
    | inl q =>
      obtain ⟨e, s'⟩ := q
      repeat' (conv => whnf
               first
                 | with_reducible exact quiet_same
                 | with_reducible exact quiet_bool
                 | with_reducible exact quiet_not
                 | with_reducible refine draw_step (by kernel_rfl) ?_
                 | with_reducible refine quiet_go ?_ ?_ ?_
                 | with_reducible refine bcase_yes (by first | assumption | omega) ?_
                 | with_reducible refine bcase_no (by first | assumption | omega) ?_
                 | with_reducible refine bcase_dyes (by omega) ?_
                 | with_reducible refine bcase_dno (by omega) ?_
                 | with_reducible refine bcase_len (by decide) (fun _ => ?_) (fun _ => ?_)
                 | with_reducible refine bcase_eq (fun _ => ?_) (fun _ => ?_)
                 | with_reducible refine bcase_dec (fun _ => ?_) (fun _ => ?_)
                 | with_reducible refine bcase_true ?_
                 | with_reducible refine bcase_false ?_
                 | with_reducible refine bcase_intro (fun _ => ?_) (fun _ => ?_)
                 | with_reducible refine len_kids (fun _ => ?_)
                 | with_reducible refine at_known (by assumption) (by omega) ?_
                 | with_reducible refine at_kid (by omega) (by omega) (fun _ _ _ => ?_)
                 | with_reducible refine tail_kids (by omega) (by omega) ?_
                 | with_reducible refine slice_kids (by omega) (by omega) (by omega) ?_
                 | with_reducible refine ex_wrap (by omega) (by omega) ?_
                 | with_reducible refine quo_step (by decide) (by omega) (by omega) ?_
                 | with_reducible refine rem_step (by decide) ?_
                 | with_reducible refine nil_row (fun _ => ?_) ?_
                 | with_reducible refine nil_row2 (fun _ => ?_) ?_
                 | with_reducible refine len_toks (fun _ => ?_)
                 | with_reducible refine len_ints (fun _ => ?_)
                 | with_reducible refine tok_known (by assumption) (by omega) ?_
                 | with_reducible refine at_tok (by omega) (by omega) (fun _ _ => ?_)
                 | with_reducible refine at_int (by omega) (by omega) (fun _ _ => ?_)
                 | with_reducible refine slice_ints (by omega) (by omega) (by omega) ?_
                 | refine at_box k5 ?_
                 | refine ⟨_, rfl, ?_⟩
                 | refine hq _ _ k4 (fun st6 hu => ?_)
                 | with_reducible refine draw_head ?_)
      obtain ⟨j5, j1, j2, j3, jle⟩ := kpan st6 e s' hu
      refine close_some (n0 := nd0) (s0 := sta0) j5 hu.1 j1 j2 j3 n15 n14 n12 n13 n25 n24 n23 ?_
      have g1 : (((st6.setBox b1 zeroN).setBox b2 s'.cells).setBox b3 [.int .i64 e]).box b1 = some zeroN := by rw [St.box_ne n13.symm, St.box_ne n12.symm, St.box_same]
      have g2 : (((st6.setBox b1 zeroN).setBox b2 s'.cells).setBox b3 [.int .i64 e]).box b2 = some s'.cells := by rw [St.box_ne n23.symm, St.box_same]
      have gl : st.le (((st6.setBox b1 zeroN).setBox b2 s'.cells).setBox b3 [.int .i64 e]) := St.le_setBox (St.le_setBox (St.le_setBox jle f1.1 _) f2a.1 _) f3b.1 _
      repeat' (conv => whnf
               first
                 | with_reducible exact quiet_same
                 | with_reducible exact quiet_bool
                 | with_reducible exact quiet_not
                 | with_reducible refine draw_step (by kernel_rfl) ?_
                 | with_reducible refine quiet_go ?_ ?_ ?_
                 | with_reducible refine bcase_yes (by first | assumption | omega) ?_
                 | with_reducible refine bcase_no (by first | assumption | omega) ?_
                 | with_reducible refine bcase_dyes (by omega) ?_
                 | with_reducible refine bcase_dno (by omega) ?_
                 | with_reducible refine bcase_len (by decide) (fun _ => ?_) (fun _ => ?_)
                 | with_reducible refine bcase_eq (fun _ => ?_) (fun _ => ?_)
                 | with_reducible refine bcase_dec (fun _ => ?_) (fun _ => ?_)
                 | with_reducible refine bcase_true ?_
                 | with_reducible refine bcase_false ?_
                 | with_reducible refine bcase_intro (fun _ => ?_) (fun _ => ?_)
                 | with_reducible refine len_kids (fun _ => ?_)
                 | with_reducible refine at_known (by assumption) (by omega) ?_
                 | with_reducible refine at_kid (by omega) (by omega) (fun _ _ _ => ?_)
                 | with_reducible refine tail_kids (by omega) (by omega) ?_
                 | with_reducible refine slice_kids (by omega) (by omega) (by omega) ?_
                 | with_reducible refine ex_wrap (by omega) (by omega) ?_
                 | with_reducible refine quo_step (by decide) (by omega) (by omega) ?_
                 | with_reducible refine rem_step (by decide) ?_
                 | with_reducible refine nil_row (fun _ => ?_) ?_
                 | with_reducible refine nil_row2 (fun _ => ?_) ?_
                 | with_reducible refine len_toks (fun _ => ?_)
                 | with_reducible refine len_ints (fun _ => ?_)
                 | with_reducible refine tok_known (by assumption) (by omega) ?_
                 | with_reducible refine at_tok (by omega) (by omega) (fun _ _ => ?_)
                 | with_reducible refine at_int (by omega) (by omega) (fun _ _ => ?_)
                 | with_reducible refine slice_ints (by omega) (by omega) (by omega) ?_
                 | refine at_box g1 ?_
                 | refine at_box g2 ?_
                 | refine at_box (St.box_same ..) ?_
                 | with_reducible refine draw_head ?_)
      all_goals exact finl gl rfl h
    | inr q =>
      obtain ⟨n, s'⟩ := q
      have kret := fun st6 hu => kpan st6 0 s' hu
      repeat' (conv => whnf
               first
                 | with_reducible exact quiet_same
                 | with_reducible exact quiet_bool
                 | with_reducible exact quiet_not
                 | with_reducible refine draw_step (by kernel_rfl) ?_
                 | with_reducible refine quiet_go ?_ ?_ ?_
                 | with_reducible refine bcase_yes (by first | assumption | omega) ?_
                 | with_reducible refine bcase_no (by first | assumption | omega) ?_
                 | with_reducible refine bcase_dyes (by omega) ?_
                 | with_reducible refine bcase_dno (by omega) ?_
                 | with_reducible refine bcase_len (by decide) (fun _ => ?_) (fun _ => ?_)
                 | with_reducible refine bcase_eq (fun _ => ?_) (fun _ => ?_)
                 | with_reducible refine bcase_dec (fun _ => ?_) (fun _ => ?_)
                 | with_reducible refine bcase_true ?_
                 | with_reducible refine bcase_false ?_
                 | with_reducible refine bcase_intro (fun _ => ?_) (fun _ => ?_)
                 | with_reducible refine len_kids (fun _ => ?_)
                 | with_reducible refine at_known (by assumption) (by omega) ?_
                 | with_reducible refine at_kid (by omega) (by omega) (fun _ _ _ => ?_)
                 | with_reducible refine tail_kids (by omega) (by omega) ?_
                 | with_reducible refine slice_kids (by omega) (by omega) (by omega) ?_
                 | with_reducible refine ex_wrap (by omega) (by omega) ?_
                 | with_reducible refine quo_step (by decide) (by omega) (by omega) ?_
                 | with_reducible refine rem_step (by decide) ?_
                 | with_reducible refine nil_row (fun _ => ?_) ?_
                 | with_reducible refine nil_row2 (fun _ => ?_) ?_
                 | with_reducible refine len_toks (fun _ => ?_)
                 | with_reducible refine len_ints (fun _ => ?_)
                 | with_reducible refine tok_known (by assumption) (by omega) ?_
                 | with_reducible refine at_tok (by omega) (by omega) (fun _ _ => ?_)
                 | with_reducible refine at_int (by omega) (by omega) (fun _ _ => ?_)
                 | with_reducible refine slice_ints (by omega) (by omega) (by omega) ?_
                 | refine at_box k5 ?_
                 | refine ⟨_, rfl, ?_⟩
                 | refine hq _ _ k4 (fun st6 hu => ?_)
                 | refine at_box (kret st6 hu).2.1 ?_
                 | with_reducible refine draw_head ?_)
      obtain ⟨j5, j1, j2, j3, jle⟩ := kret st6 hu
      generalize hst7 : st6.setBox b1 (encN n) = st7
      have i1 : st7.box b1 = some (encN n) := by subst hst7; rw [St.box_same]
      have i5 : st7.box b5 = some [.ptr b4 0] := by subst hst7; rw [St.box_ne n15]; exact j5
      have i2 : st7.box b2 = some [.slice 4 (encTs sta0.toks) .full, .int .i64 sta0.pos, .slice 1 (ints sta0.opn) .full, .int .i64 sta0.wait] := by subst hst7; rw [St.box_ne n12]; exact j2
      have i3 : (st7.setBox b2 s'.cells).box b3 = some [.int .i64 0] := by subst hst7; rw [St.box_ne n23, St.box_ne n13]; exact j3
      have i4 : Has st7 b4 s' := by
        subst hst7
        rcases hu.1 with e | ⟨t, u, o1, o2, e', e⟩
        · exact .inl (by rw [St.box_ne n14]; exact e)
        · exact .inr ⟨t, u, o1, o2, e', by rw [St.box_ne n14]; exact e⟩
      have ile : st.le st7 := by subst hst7; exact St.le_setBox jle f1.1 _
      refine AW_seq2 (aw_any tys_ok (pcalls_sound _) (fun bs => catchE bs b1 b2 b3 b4 b5 (encN n) s'.cells) (catchS st7 b2 b3 s'.cells) catchPL (by decide +kernel) (by refine ⟨rfl, ?_, ?_, rfl⟩ <;> repeat' (first | exact trivial | exact rfl | refine And.intro ?_ ?_)) (by rw [← hst7]; exact St.le_refl _) ?_ ?_)
      · skip
        unfold catchPL
        rcases i4 with i4 | ⟨t, u, q1, q2, q3, i4⟩
        all_goals repeat' (first | refine List.forall_mem_cons.2 ⟨?_, ?_⟩ | exact fun _ h => nomatch h)
        repeat' (conv => whnf
                 first
                   | with_reducible exact quiet_same
                   | with_reducible exact quiet_bool
                   | with_reducible exact quiet_not
                   | with_reducible refine draw_step (by kernel_rfl) ?_
                   | with_reducible refine quiet_go ?_ ?_ ?_
                   | with_reducible refine bcase_yes (by first | assumption | omega) ?_
                   | with_reducible refine bcase_no (by first | assumption | omega) ?_
                   | with_reducible refine bcase_dyes (by omega) ?_
                   | with_reducible refine bcase_dno (by omega) ?_
                   | with_reducible refine bcase_len (by decide) (fun _ => ?_) (fun _ => ?_)
                   | with_reducible refine bcase_eq (fun _ => ?_) (fun _ => ?_)
                   | with_reducible refine bcase_dec (fun _ => ?_) (fun _ => ?_)
                   | with_reducible refine bcase_true ?_
                   | with_reducible refine bcase_false ?_
                   | with_reducible refine bcase_intro (fun _ => ?_) (fun _ => ?_)
                   | with_reducible refine len_kids (fun _ => ?_)
                   | with_reducible refine at_known (by assumption) (by omega) ?_
                   | with_reducible refine at_kid (by omega) (by omega) (fun _ _ _ => ?_)
                   | with_reducible refine tail_kids (by omega) (by omega) ?_
                   | with_reducible refine slice_kids (by omega) (by omega) (by omega) ?_
                   | with_reducible refine ex_wrap (by omega) (by omega) ?_
                   | with_reducible refine quo_step (by decide) (by omega) (by omega) ?_
                   | with_reducible refine rem_step (by decide) ?_
                   | with_reducible refine nil_row (fun _ => ?_) ?_
                   | with_reducible refine nil_row2 (fun _ => ?_) ?_
                   | with_reducible refine len_toks (fun _ => ?_)
                   | with_reducible refine len_ints (fun _ => ?_)
                   | with_reducible refine tok_known (by assumption) (by omega) ?_
                   | with_reducible refine at_tok (by omega) (by omega) (fun _ _ => ?_)
                   | with_reducible refine at_int (by omega) (by omega) (fun _ _ => ?_)
                   | with_reducible refine slice_ints (by omega) (by omega) (by omega) ?_
                   | refine at_box i5 ?_
                   | refine at_box i1 ?_
                   | refine at_box i4 ?_
                   | refine at_box i2 ?_
                   | refine at_box i3 ?_
                   | with_reducible refine draw_head ?_)
        all_goals conv => whnf
        all_goals (refine ⟨(by refine ⟨rfl, ?_, ?_, rfl⟩ <;> repeat' (first | exact trivial | exact rfl | refine And.intro ?_ ?_)), ?_⟩)
        all_goals first | exact St.le_refl _ | exact le_self i1
      · refine aw_of tys_ok (close_none (bp := b5) ?_)
        have g1 : ((st7.setBox b2 s'.cells).setBox b3 [.int .i64 0]).box b1 = some (encN n) := by rw [St.box_ne n13.symm, St.box_ne n12.symm]; exact i1
        have g2 : ((st7.setBox b2 s'.cells).setBox b3 [.int .i64 0]).box b2 = some s'.cells := by rw [St.box_ne n23.symm, St.box_same]
        have gl : st.le ((st7.setBox b2 s'.cells).setBox b3 [.int .i64 0]) := St.le_setBox (St.le_setBox ile f2a.1 _) f3b.1 _
        repeat' (conv => whnf
                 first
                   | with_reducible exact quiet_same
                   | with_reducible exact quiet_bool
                   | with_reducible exact quiet_not
                   | with_reducible refine draw_step (by kernel_rfl) ?_
                   | with_reducible refine quiet_go ?_ ?_ ?_
                   | with_reducible refine bcase_yes (by first | assumption | omega) ?_
                   | with_reducible refine bcase_no (by first | assumption | omega) ?_
                   | with_reducible refine bcase_dyes (by omega) ?_
                   | with_reducible refine bcase_dno (by omega) ?_
                   | with_reducible refine bcase_len (by decide) (fun _ => ?_) (fun _ => ?_)
                   | with_reducible refine bcase_eq (fun _ => ?_) (fun _ => ?_)
                   | with_reducible refine bcase_dec (fun _ => ?_) (fun _ => ?_)
                   | with_reducible refine bcase_true ?_
                   | with_reducible refine bcase_false ?_
                   | with_reducible refine bcase_intro (fun _ => ?_) (fun _ => ?_)
                   | with_reducible refine len_kids (fun _ => ?_)
                   | with_reducible refine at_known (by assumption) (by omega) ?_
                   | with_reducible refine at_kid (by omega) (by omega) (fun _ _ _ => ?_)
                   | with_reducible refine tail_kids (by omega) (by omega) ?_
                   | with_reducible refine slice_kids (by omega) (by omega) (by omega) ?_
                   | with_reducible refine ex_wrap (by omega) (by omega) ?_
                   | with_reducible refine quo_step (by decide) (by omega) (by omega) ?_
                   | with_reducible refine rem_step (by decide) ?_
                   | with_reducible refine nil_row (fun _ => ?_) ?_
                   | with_reducible refine nil_row2 (fun _ => ?_) ?_
                   | with_reducible refine len_toks (fun _ => ?_)
                   | with_reducible refine len_ints (fun _ => ?_)
                   | with_reducible refine tok_known (by assumption) (by omega) ?_
                   | with_reducible refine at_tok (by omega) (by omega) (fun _ _ => ?_)
                   | with_reducible refine at_int (by omega) (by omega) (fun _ _ => ?_)
                   | with_reducible refine slice_ints (by omega) (by omega) (by omega) ?_
                   | refine at_box g1 ?_
                   | refine at_box g2 ?_
                   | refine at_box (St.box_same ..) ?_
                   | with_reducible refine draw_head ?_)
        all_goals exact finl gl rfl h
end
end Go.Proofs.Ytngbihfihdheoaa

/-
  TYPES: what the readings come to, as plain functions; the measure that falls.
-/
set_option linter.unusedVariables false
set_option pp.maxSteps 400
namespace Go.Proofs.Ytngbihfihdheoaa
open Go Go.Aw

/-- what falls with each token -/
def mu (s : Sta) : Nat := 4 * (s.toks.length - s.pos.toNat) + s.opn.length + (2 - s.wait.toNat)
theorem opn_mu (s : Sta) : s.opn.length ≤ mu s := by unfold mu; omega

theorem closed_len {s : Sta} (h : s.opn ≠ []) : (closedF s).opn.length + 1 = s.opn.length := by
  have : 0 < s.opn.length := List.length_pos_iff.2 h
  simp only [closedF, List.length_dropLast]
  omega
theorem at_lt {s : Sta} {t : Tk} (h : s.toks[s.pos.toNat]? = some t) : s.pos.toNat < s.toks.length := (List.getElem?_eq_some_iff.1 h).1

theorem end_mu {s : Sta} (h : (endF s).2.2 = 0) : mu (endF s).2.1 ≤ mu s ∧ ((endF s).1.kind ≠ 21 → mu (endF s).2.1 < mu s) := by
  unfold endF at h ⊢
  split
  · exact ⟨Nat.le_refl _, fun e => absurd rfl e⟩
  · split
    · rename_i e1 e2
      have := closed_len e1
      refine ⟨?_, fun _ => ?_⟩ <;> simp only [mu, closedF] at * <;> omega
    · rename_i e1 e2
      rw [if_neg e1, if_neg e2] at h
      cases h
theorem begin_mu {t : Tk} {s : Sta} (h0 : 0 ≤ s.pos) (h1 : 0 ≤ s.wait) (h2 : s.wait < 2) (ht : s.toks[s.pos.toNat]? = some t) : mu (beginF t s).2 < mu s := by
  have := at_lt ht
  unfold beginF
  split
  · rename_i e; simp only [mu]; rw [e, show Int.toNat 2 = 2 from rfl, show Int.toNat 1 = 1 from rfl]; omega
  · split
    · simp only [mu, openedF, List.length_append, List.length_singleton]; omega
    · simp only [mu]; omega
theorem line_mu {t : Tk} {s : Sta} (h0 : 0 ≤ s.pos) (h2 : s.wait ≤ 2) (ht : s.toks[s.pos.toNat]? = some t) : mu (lineF t s).2 < mu s := by
  have := at_lt ht
  unfold lineF
  split
  · rename_i e
    have := closed_len (topF_open e.1)
    simp only [mu, closedF] at *; omega
  · split <;> (simp only [mu]; omega)
theorem brace_mu {t : Tk} {s : Sta} (h0 : 0 ≤ s.pos) (ht : s.toks[s.pos.toNat]? = some t) (h : (braceF t s).2.2 = 0) : mu (braceF t s).2.1 < mu s := by
  have := at_lt ht
  unfold braceF at h ⊢
  split
  · simp only [mu, openedF, List.length_append, List.length_singleton]; omega
  · rename_i e1
    rw [if_neg e1] at h
    split
    · rename_i e2
      rw [if_pos e2] at h
      split
      · rename_i e3; rw [if_pos e3] at h; cases h
      · rename_i e3
        have := closed_len (s := s) (fun e => e3 (.inl e))
        simp only [mu, closedF] at *; omega
    · simp only [mu]; omega
theorem nextG_mu : ∀ (n : Nat) (s : Sta), 0 ≤ s.pos → 0 ≤ s.wait → s.wait ≤ 2 → (nextG n s).2.2 = 0 → mu (nextG n s).2.1 ≤ mu s ∧ ((nextG n s).1.kind ≠ 21 → mu (nextG n s).2.1 < mu s)
  | 0, s, h0, h1, h2, h => end_mu h
  | n + 1, s, h0, h1, h2, h => by
    unfold nextG at h ⊢
    cases ht : s.toks[s.pos.toNat]? with
    | none => rw [ht] at h; exact end_mu h
    | some t =>
      rw [ht] at h
      dsimp only at h ⊢
      split
      · rename_i e
        have := begin_mu h0 h1 e.2 ht
        exact ⟨Nat.le_of_lt this, fun _ => this⟩
      · rename_i e1
        rw [if_neg e1] at h
        have hl := line_mu h0 h2 ht
        split
        · rename_i e2
          rw [if_pos e2] at h
          split
          · rename_i e3
            rw [if_pos e3] at h
            have hz := lineF_zero e3
            have := nextG_mu n (lineF t s).2 (by rw [hz]; show 0 ≤ s.pos + 1; omega) (by rw [hz]; exact Int.le_refl _) (by rw [hz]; show (0 : Int) ≤ 2; decide) h
            exact ⟨by omega, fun e => by omega⟩
          · exact ⟨Nat.le_of_lt hl, fun _ => hl⟩
        · rename_i e2
          rw [if_neg e2] at h
          have := brace_mu h0 ht h
          exact ⟨Nat.le_of_lt this, fun _ => this⟩
theorem next_mu {s : Sta} (h : (nextM s).2.2 = 0) : mu (nextM s).2.1 ≤ mu s ∧ ((nextM s).1.kind ≠ 21 → mu (nextM s).2.1 < mu s) := by
  unfold nextM at h ⊢
  cases hm : mayF s with
  | false => rw [hm] at h; cases h
  | true =>
    rw [hm, if_pos rfl] at h
    rw [if_pos rfl]
    unfold mayF at hm
    simp only [Bool.and_eq_true, decide_eq_true_eq] at hm
    exact nextG_mu _ s (by omega) (by omega) (by omega) h

theorem end_err {s : Sta} (h : ¬ (endF s).2.2 = 0) : (endF s).1 = tk0 := by
  unfold endF at h ⊢
  split
  · rename_i e; rw [if_pos e] at h; exact absurd rfl h
  · rename_i e; rw [if_neg e] at h
    split
    · rename_i e; rw [if_pos e] at h; exact absurd rfl h
    · rfl
theorem brace_err {t : Tk} {s : Sta} (h : ¬ (braceF t s).2.2 = 0) : (braceF t s).1 = tk0 := by
  unfold braceF at h ⊢
  split
  · rename_i e; rw [if_pos e] at h; exact absurd rfl h
  · rename_i e; rw [if_neg e] at h
    split
    · rename_i e; rw [if_pos e] at h
      split
      · rfl
      · rename_i e; rw [if_neg e] at h; exact absurd rfl h
    · rename_i e; rw [if_neg e] at h; exact absurd rfl h
theorem nextG_err : ∀ (n : Nat) (s : Sta), ¬ (nextG n s).2.2 = 0 → (nextG n s).1 = tk0
  | 0, s, h => end_err h
  | n + 1, s, h => by
    unfold nextG at h ⊢
    cases ht : s.toks[s.pos.toNat]? with
    | none => rw [ht] at h; exact end_err h
    | some t =>
      rw [ht] at h
      dsimp only at h ⊢
      split
      · rename_i e; rw [if_pos e] at h; exact absurd rfl h
      · rename_i e; rw [if_neg e] at h
        split
        · rename_i e; rw [if_pos e] at h
          split
          · rename_i e; rw [if_pos e] at h; exact nextG_err n _ h
          · rename_i e; rw [if_neg e] at h; exact absurd rfl h
        · rename_i e; rw [if_neg e] at h; exact brace_err h
theorem next_err {s : Sta} (h : ¬ (nextM s).2.2 = 0) : (nextM s).1 = tk0 := by
  unfold nextM at h ⊢
  cases hm : mayF s with
  | false => rfl
  | true => rw [hm, if_pos rfl] at h; rw [if_pos rfl]; exact nextG_err _ _ h
theorem isF_ok {s : Sta} {k : Int} {x : List UInt8} (h : isF s k x = true) (hk : k ≠ 0) : (nextM s).2.2 = 0 := by
  apply Classical.byContradiction
  intro e
  unfold isF at h
  rw [next_err e] at h
  simp only [tk0, Bool.and_eq_true, beq_iff_eq] at h
  exact hk h.1.symm
theorem isF_mu {s : Sta} {k : Int} {x : List UInt8} (h : isF s k x = true) (hk : k ≠ 0) (hk2 : k ≠ 21) : mu (nextM s).2.1 < mu s := by
  refine (next_mu (isF_ok h hk)).2 fun e => ?_
  unfold isF at h
  simp only [Bool.and_eq_true, beq_iff_eq] at h
  exact hk2 (h.1.symm.trans e)
end Go.Proofs.Ytngbihfihdheoaa

/-
  TYPES: the readings, as plain functions.
-/
set_option linter.unusedVariables false
set_option pp.maxSteps 400
namespace Go.Proofs.Ytngbihfihdheoaa
open Go Go.Aw

abbrev Ls := Sum (Int × Sta) (List Nd × Sta)
def takeP (s : Sta) : Rs := if (nextM s).2.2 = 0 then .inr (leafT (nextM s).1, (nextM s).2.1) else .inl ((nextM s).2.2, s)
def badP (s : Sta) : Rs := .inl (badE s, s)
def wantP (s : Sta) (k : Int) (x : List UInt8) : Rs := if isF s k x then takeP s else badP s
/-- may a type begin with it? -/
def startsF (t : Tk) : Bool := t.kind == 2 || t.kind == 4 || t.kind == 1 || (t.kind == 15 && (t.text == [40] || t.text == [91]))
/-- a tree without a text -/
def nodeK (k : Int) (l : List Nd) : Nd := .mk k 0 [] 0 0 l

def rowL (A : Sta → Rs) (l : List Nd) (s : Sta) : Ls :=
  if startsF (nextM s).1 then match A s with
    | .inl e => .inl e
    | .inr p => if mu p.2 < mu s then rowL A (l ++ [p.1]) p.2 else .inl (2, s)
  else .inr (l, s)
termination_by mu s
def rowP (A : Sta → Rs) (s : Sta) : Rs :=
  match A s with
  | .inl e => .inl e
  | .inr p => match rowL A [p.1] p.2 with
    | .inl e => .inl e
    | .inr q => if q.1.length = 1 then .inr (p.1, q.2) else .inr (nodeK 39 q.1, q.2)
def arrL (A : Sta → Rs) (l : List Nd) (s : Sta) : Ls :=
  if isF s 10 [45, 62] then match rowP A (nextM s).2.1 with
    | .inl e => .inl e
    | .inr p => if mu p.2 < mu s then arrL A (l ++ [leafT (nextM s).1, p.1]) p.2 else .inl (2, s)
  else .inr (l, s)
termination_by mu s
def arrowsP (A : Sta → Rs) (n : Nd) (s : Sta) : Rs :=
  match arrL A [n] s with
  | .inl e => .inl e
  | .inr q => if q.1.length = 1 then .inr (n, q.2) else .inr (nodeK 37 q.1, q.2)
def wholeP (A : Sta → Rs) (s : Sta) : Rs :=
  match rowP A s with
  | .inl e => .inl e
  | .inr p => arrowsP A p.1 p.2
def fullP (A : Sta → Rs) (s : Sta) : Rs :=
  match rowP A s with
  | .inl e => .inl e
  | .inr p => if isF p.2 10 [61, 62] then match wholeP A (nextM p.2).2.1 with
      | .inl e => .inl e
      | .inr q => .inr (nodeK 38 [p.1, leafT (nextM p.2).1, q.1], q.2)
    else arrowsP A p.1 p.2
def typesL (Y : Sta → Rs) (l : List Nd) (s : Sta) : Ls :=
  if isF s 15 [44] then match Y (nextM s).2.1 with
    | .inl e => .inl e
    | .inr p => if mu p.2 < mu s then typesL Y (l ++ [leafT (nextM s).1, p.1]) p.2 else .inl (2, s)
  else .inr (l, s)
termination_by mu s
def commaL (l : List Nd) (s : Sta) : List Nd × Sta :=
  if isF s 15 [44] then if mu (nextM s).2.1 < mu s then commaL (l ++ [leafT (nextM s).1]) (nextM s).2.1 else (l, s) else (l, s)
termination_by mu s
/-- the end of what stands in brackets -/
def finP (k : Int) (l : List Nd) (s : Sta) (x : List UInt8) : Rs := match wantP s 15 x with
  | .inl e => .inl e
  | .inr p => .inr (nodeK k (l ++ [p.1]), p.2)
def roundP (Y : Sta → Rs) (s : Sta) : Rs :=
  match takeP s with
  | .inl e => .inl e
  | .inr p =>
    if isF p.2 10 [45, 62] then finP 3 [p.1, leafT (nextM p.2).1] (nextM p.2).2.1 [41]
    else if isF p.2 15 [41] then finP 3 [p.1] p.2 [41]
    else if isF p.2 15 [44] then finP 3 (commaL [p.1] p.2).1 (commaL [p.1] p.2).2 [41]
    else match Y p.2 with
      | .inl e => .inl e
      | .inr q => match typesL Y [p.1, q.1] q.2 with
        | .inl e => .inl e
        | .inr r => finP (if 2 < r.1.length then 5 else 4) r.1 r.2 [41]
def squareP (Y : Sta → Rs) (s : Sta) : Rs :=
  match takeP s with
  | .inl e => .inl e
  | .inr p =>
    if isF p.2 15 [93] then .inr (nodeK 3 [p.1, leafT (nextM p.2).1], (nextM p.2).2.1)
    else match Y p.2 with
      | .inl e => .inl e
      | .inr q => finP 6 [p.1, q.1] q.2 [93]
def atomP (Y : Sta → Rs) (s : Sta) : Rs :=
  if startsF (nextM s).1 then if (nextM s).1.kind = 15 then if (nextM s).1.text = [40] then roundP Y s else squareP Y s else takeP s else badP s
/-- types, so and so deep -/
def typeP : Nat → Sta → Rs
  | 0, s => .inl (2, s)
  | d + 1, s => wholeP (atomP (typeP d)) s

/-- errors are errors -/
def Bads (A : Sta → Rs) : Prop := ∀ s e s', A s = .inl (e, s') → e ≠ 0
/-- what is read is shorter -/
def Falls (A : Sta → Rs) : Prop := ∀ s n s', A s = .inr (n, s') → mu s' < mu s

theorem badE_ne (s : Sta) : badE s ≠ 0 := by
  unfold badE
  split
  · decide
  · rename_i e; exact e
theorem bads_take : Bads takeP := fun s e s' h => by
  unfold takeP at h
  split at h
  · cases h
  · rename_i hn; cases h; exact hn
theorem bads_bad : Bads badP := fun s e s' h => by unfold badP at h; cases h; exact badE_ne s
theorem bads_want {k : Int} {x : List UInt8} : Bads (fun s => wantP s k x) := fun s e s' h => by
  unfold wantP at h
  dsimp only at h
  split at h
  · exact bads_take _ _ _ h
  · exact bads_bad _ _ _ h
theorem bads_fin {k : Int} {l : List Nd} {x : List UInt8} : Bads (fun s => finP k l s x) := fun s e s' h => by
  unfold finP at h
  dsimp only at h
  split at h
  · rename_i e1 hw
    cases h
    exact bads_want _ _ _ hw
  · cases h
theorem rowL_bad {A : Sta → Rs} (hA : Bads A) (l : List Nd) (s : Sta) : ∀ e s', rowL A l s = .inl (e, s') → e ≠ 0 := by
  fun_induction rowL A l s with
  | case1 l s h1 e1 h2 => intro e s' h; cases h; exact hA _ _ _ h2
  | case2 l s h1 p h2 h3 ih => exact ih
  | case3 l s h1 p h2 h3 => intro e s' h; cases h; decide
  | case4 l s h1 => intro e s' h; cases h
theorem bads_row {A : Sta → Rs} (hA : Bads A) : Bads (rowP A) := fun s e s' h => by
  unfold rowP at h
  split at h
  · rename_i h1; cases h; exact hA _ _ _ h1
  · split at h
    · rename_i h1; cases h; exact rowL_bad hA _ _ _ _ h1
    · split at h <;> cases h
theorem arrL_bad {A : Sta → Rs} (hA : Bads A) (l : List Nd) (s : Sta) : ∀ e s', arrL A l s = .inl (e, s') → e ≠ 0 := by
  fun_induction arrL A l s with
  | case1 l s h1 e1 h2 => intro e s' h; cases h; exact bads_row hA _ _ _ h2
  | case2 l s h1 p h2 h3 ih => exact ih
  | case3 l s h1 p h2 h3 => intro e s' h; cases h; decide
  | case4 l s h1 => intro e s' h; cases h
theorem bads_arrows {A : Sta → Rs} (hA : Bads A) {n : Nd} : Bads (arrowsP A n) := fun s e s' h => by
  unfold arrowsP at h
  split at h
  · rename_i h1; cases h; exact arrL_bad hA _ _ _ _ h1
  · split at h <;> cases h
theorem bads_whole {A : Sta → Rs} (hA : Bads A) : Bads (wholeP A) := fun s e s' h => by
  unfold wholeP at h
  split at h
  · rename_i h1; cases h; exact bads_row hA _ _ _ h1
  · exact bads_arrows hA _ _ _ h
theorem bads_full {A : Sta → Rs} (hA : Bads A) : Bads (fullP A) := fun s e s' h => by
  unfold fullP at h
  split at h
  · rename_i h1; cases h; exact bads_row hA _ _ _ h1
  · split at h
    · split at h
      · rename_i h1; cases h; exact bads_whole hA _ _ _ h1
      · cases h
    · exact bads_arrows hA _ _ _ h
theorem typesL_bad {Y : Sta → Rs} (hY : Bads Y) (l : List Nd) (s : Sta) : ∀ e s', typesL Y l s = .inl (e, s') → e ≠ 0 := by
  fun_induction typesL Y l s with
  | case1 l s h1 e1 h2 => intro e s' h; cases h; exact hY _ _ _ h2
  | case2 l s h1 p h2 h3 ih => exact ih
  | case3 l s h1 p h2 h3 => intro e s' h; cases h; decide
  | case4 l s h1 => intro e s' h; cases h
theorem bads_round {Y : Sta → Rs} (hY : Bads Y) : Bads (roundP Y) := fun s e s' h => by
  unfold roundP at h
  split at h
  · rename_i h1; cases h; exact bads_take _ _ _ h1
  · split at h
    · exact bads_fin _ _ _ h
    · split at h
      · exact bads_fin _ _ _ h
      · split at h
        · exact bads_fin _ _ _ h
        · split at h
          · rename_i h1; cases h; exact hY _ _ _ h1
          · split at h
            · rename_i h1; cases h; exact typesL_bad hY _ _ _ _ h1
            · exact bads_fin _ _ _ h
theorem bads_square {Y : Sta → Rs} (hY : Bads Y) : Bads (squareP Y) := fun s e s' h => by
  unfold squareP at h
  split at h
  · rename_i h1; cases h; exact bads_take _ _ _ h1
  · split at h
    · cases h
    · split at h
      · rename_i h1; cases h; exact hY _ _ _ h1
      · exact bads_fin _ _ _ h
theorem bads_atom {Y : Sta → Rs} (hY : Bads Y) : Bads (atomP Y) := fun s e s' h => by
  unfold atomP at h
  split at h
  · split at h
    · split at h
      · exact bads_round hY _ _ _ h
      · exact bads_square hY _ _ _ h
    · exact bads_take _ _ _ h
  · exact bads_bad _ _ _ h
theorem bads_type : ∀ d, Bads (typeP d)
  | 0 => fun s e s' h => by cases h; decide
  | d + 1 => bads_whole (bads_atom (bads_type d))

theorem take_mu {s : Sta} {n : Nd} {s' : Sta} (h : takeP s = .inr (n, s')) : mu s' ≤ mu s ∧ ((nextM s).1.kind ≠ 21 → mu s' < mu s) := by
  unfold takeP at h
  split at h
  · rename_i e; cases h; exact next_mu e
  · cases h
theorem want_mu {s : Sta} {k : Int} {x : List UInt8} {n : Nd} {s' : Sta} (hk : k ≠ 0) (hk2 : k ≠ 21) (h : wantP s k x = .inr (n, s')) : mu s' < mu s := by
  unfold wantP at h
  split at h
  · rename_i e
    unfold takeP at h
    rw [if_pos (isF_ok e hk)] at h
    cases h
    exact isF_mu e hk hk2
  · cases h
theorem fin_mu {s : Sta} {k : Int} {l : List Nd} {x : List UInt8} {n : Nd} {s' : Sta} (h : finP k l s x = .inr (n, s')) : mu s' < mu s := by
  unfold finP at h
  split at h
  · cases h
  · rename_i h1; cases h; exact want_mu (by decide) (by decide) h1
theorem starts_mu {s : Sta} {n : Nd} {s' : Sta} (hs : startsF (nextM s).1 = true) (h : takeP s = .inr (n, s')) : mu s' < mu s := by
  refine (take_mu h).2 fun e => ?_
  unfold startsF at hs
  rw [e] at hs
  simp at hs
theorem rowL_mu {A : Sta → Rs} (l : List Nd) (s : Sta) : ∀ q s', rowL A l s = .inr (q, s') → mu s' ≤ mu s := by
  fun_induction rowL A l s with
  | case1 l s h1 e1 h2 => intro e s' h; cases h
  | case2 l s h1 p h2 h3 ih => intro e s' h; have := ih e s' h; omega
  | case3 l s h1 p h2 h3 => intro e s' h; cases h
  | case4 l s h1 => intro e s' h; cases h; exact Nat.le_refl _
theorem falls_row {A : Sta → Rs} (hA : Falls A) : Falls (rowP A) := fun s n s' h => by
  unfold rowP at h
  split at h
  · cases h
  · rename_i h1
    have := hA _ _ _ h1
    split at h
    · cases h
    · rename_i h2
      have := rowL_mu _ _ _ _ h2
      split at h <;> (cases h; omega)
theorem arrL_mu {A : Sta → Rs} (l : List Nd) (s : Sta) : ∀ q s', arrL A l s = .inr (q, s') → mu s' ≤ mu s := by
  fun_induction arrL A l s with
  | case1 l s h1 e1 h2 => intro e s' h; cases h
  | case2 l s h1 p h2 h3 ih => intro e s' h; have := ih e s' h; omega
  | case3 l s h1 p h2 h3 => intro e s' h; cases h
  | case4 l s h1 => intro e s' h; cases h; exact Nat.le_refl _
theorem arrows_mu {A : Sta → Rs} {n m : Nd} {s s' : Sta} (h : arrowsP A n s = .inr (m, s')) : mu s' ≤ mu s := by
  unfold arrowsP at h
  split at h
  · cases h
  · rename_i h1
    have := arrL_mu _ _ _ _ h1
    split at h <;> (cases h; exact this)
theorem falls_whole {A : Sta → Rs} (hA : Falls A) : Falls (wholeP A) := fun s n s' h => by
  unfold wholeP at h
  split at h
  · cases h
  · rename_i h1
    have := falls_row hA _ _ _ h1
    have := arrows_mu h
    omega
theorem typesL_mu {Y : Sta → Rs} (l : List Nd) (s : Sta) : ∀ q s', typesL Y l s = .inr (q, s') → mu s' ≤ mu s := by
  fun_induction typesL Y l s with
  | case1 l s h1 e1 h2 => intro e s' h; cases h
  | case2 l s h1 p h2 h3 ih => intro e s' h; have := ih e s' h; omega
  | case3 l s h1 p h2 h3 => intro e s' h; cases h
  | case4 l s h1 => intro e s' h; cases h; exact Nat.le_refl _
theorem commaL_mu (l : List Nd) (s : Sta) : mu (commaL l s).2 ≤ mu s := by
  fun_induction commaL l s with
  | case1 l s h1 h2 ih => omega
  | case2 l s h1 h2 => exact Nat.le_refl _
  | case3 l s h1 => exact Nat.le_refl _
theorem round_mu {Y : Sta → Rs} (hY : Falls Y) {s : Sta} {n : Nd} {s' : Sta} (hs : startsF (nextM s).1 = true) (h : roundP Y s = .inr (n, s')) : mu s' < mu s := by
  unfold roundP at h
  split at h
  · cases h
  · rename_i h1
    have := starts_mu hs h1
    split at h
    · rename_i h2
      have := isF_mu h2 (by decide) (by decide)
      have := fin_mu h
      omega
    · split at h
      · have := fin_mu h; omega
      · split at h
        · have := fin_mu h
          have := commaL_mu [‹Nd × Sta›.1] ‹Nd × Sta›.2
          omega
        · split at h
          · cases h
          · rename_i h2
            have := hY _ _ _ h2
            split at h
            · cases h
            · rename_i h3
              have := typesL_mu _ _ _ _ h3
              have := fin_mu h
              omega
theorem square_mu {Y : Sta → Rs} (hY : Falls Y) {s : Sta} {n : Nd} {s' : Sta} (hs : startsF (nextM s).1 = true) (h : squareP Y s = .inr (n, s')) : mu s' < mu s := by
  unfold squareP at h
  split at h
  · cases h
  · rename_i h1
    have := starts_mu hs h1
    split at h
    · rename_i h2
      have := isF_mu h2 (by decide) (by decide)
      cases h
      omega
    · split at h
      · cases h
      · rename_i h2
        have := hY _ _ _ h2
        have := fin_mu h
        omega
theorem falls_atom {Y : Sta → Rs} (hY : Falls Y) : Falls (atomP Y) := fun s n s' h => by
  unfold atomP at h
  split at h
  · rename_i hs
    split at h
    · split at h
      · exact round_mu hY hs h
      · exact square_mu hY hs h
    · exact starts_mu hs h
  · cases h
theorem falls_type : ∀ d, Falls (typeP d)
  | 0 => fun s n s' h => by cases h
  | d + 1 => falls_whole (falls_atom (falls_type d))
end Go.Proofs.Ytngbihfihdheoaa

/-
  TYPES: the document's answer, small functions.
-/
set_option linter.unusedVariables false
set_option pp.maxSteps 400
namespace Go.Proofs.Ytngbihfihdheoaa
open Go Go.Aw

/-- a Read: tree, state, errno -/
def encQ (n : Nd) (s : Sta) (e : Int) : V := .agg [.int .i64 n.kind, .int .i64 n.form, .str n.text, .int .i64 n.line, .int .i64 n.col, .slice 6 (encs n.kids) .any,
  .slice 4 (encTs s.toks) .any, .int .i64 s.pos, .slice 1 (ints s.opn) .any, .int .i64 s.wait, .int .i64 e]
section
variable {st : St} {R : Res → St → Prop}
attribute [local irreducible] Go.Aw.appendTo

theorem rpeek_c {s : Sta} (hb : s.opn.length ≤ 500000000) (h : R (.ret (encT (nextM s).1)) st) : PC 47 [encS s] st R := by
  refine pcalls_of_body tys_ok [] Try.func47 rfl (by decide) ?_
  repeat' (conv => whnf
           first
             | with_reducible exact quiet_same
             | with_reducible exact quiet_bool
             | with_reducible exact quiet_not
             | with_reducible refine draw_step (by kernel_rfl) ?_
             | with_reducible refine quiet_go ?_ ?_ ?_
             | with_reducible refine bcase_yes (by first | assumption | omega) ?_
             | with_reducible refine bcase_no (by first | assumption | omega) ?_
             | with_reducible refine bcase_dyes (by omega) ?_
             | with_reducible refine bcase_dno (by omega) ?_
             | with_reducible refine bcase_len (by decide) (fun _ => ?_) (fun _ => ?_)
             | with_reducible refine bcase_eq (fun _ => ?_) (fun _ => ?_)
             | with_reducible refine bcase_dec (fun _ => ?_) (fun _ => ?_)
             | with_reducible refine bcase_true ?_
             | with_reducible refine bcase_false ?_
             | with_reducible refine bcase_intro (fun _ => ?_) (fun _ => ?_)
             | with_reducible refine len_kids (fun _ => ?_)
             | with_reducible refine at_known (by assumption) (by omega) ?_
             | with_reducible refine at_kid (by omega) (by omega) (fun _ _ _ => ?_)
             | with_reducible refine tail_kids (by omega) (by omega) ?_
             | with_reducible refine slice_kids (by omega) (by omega) (by omega) ?_
             | with_reducible refine ex_wrap (by omega) (by omega) ?_
             | with_reducible refine quo_step (by decide) (by omega) (by omega) ?_
             | with_reducible refine rem_step (by decide) ?_
             | with_reducible refine nil_row (fun _ => ?_) ?_
             | with_reducible refine nil_row2 (fun _ => ?_) ?_
             | with_reducible refine len_toks (fun _ => ?_)
             | with_reducible refine len_ints (fun _ => ?_)
             | with_reducible refine tok_known (by assumption) (by omega) ?_
             | with_reducible refine at_tok (by omega) (by omega) (fun _ _ => ?_)
             | with_reducible refine at_int (by omega) (by omega) (fun _ _ => ?_)
             | with_reducible refine slice_ints (by omega) (by omega) (by omega) ?_
             | refine rnext_c (s := s) hb ?_
             | with_reducible refine draw_head ?_)
  all_goals exact finw rfl h
theorem rstarts_c {t : Tk} (h : R (.ret (.bool (startsF t))) st) : PC 46 [encT t] st R := by
  refine pcalls_of_body tys_ok [] Try.func46 rfl (by decide) ?_
  repeat' (conv => whnf
           first
             | with_reducible exact quiet_same
             | with_reducible exact quiet_bool
             | with_reducible exact quiet_not
             | with_reducible refine draw_step (by kernel_rfl) ?_
             | with_reducible refine quiet_go ?_ ?_ ?_
             | with_reducible refine bcase_yes (by first | assumption | omega) ?_
             | with_reducible refine bcase_no (by first | assumption | omega) ?_
             | with_reducible refine bcase_dyes (by omega) ?_
             | with_reducible refine bcase_dno (by omega) ?_
             | with_reducible refine bcase_len (by decide) (fun _ => ?_) (fun _ => ?_)
             | with_reducible refine bcase_eq (fun _ => ?_) (fun _ => ?_)
             | with_reducible refine bcase_dec (fun _ => ?_) (fun _ => ?_)
             | with_reducible refine bcase_true ?_
             | with_reducible refine bcase_false ?_
             | with_reducible refine bcase_intro (fun _ => ?_) (fun _ => ?_)
             | with_reducible refine len_kids (fun _ => ?_)
             | with_reducible refine at_known (by assumption) (by omega) ?_
             | with_reducible refine at_kid (by omega) (by omega) (fun _ _ _ => ?_)
             | with_reducible refine tail_kids (by omega) (by omega) ?_
             | with_reducible refine slice_kids (by omega) (by omega) (by omega) ?_
             | with_reducible refine ex_wrap (by omega) (by omega) ?_
             | with_reducible refine quo_step (by decide) (by omega) (by omega) ?_
             | with_reducible refine rem_step (by decide) ?_
             | with_reducible refine nil_row (fun _ => ?_) ?_
             | with_reducible refine nil_row2 (fun _ => ?_) ?_
             | with_reducible refine len_toks (fun _ => ?_)
             | with_reducible refine len_ints (fun _ => ?_)
             | with_reducible refine tok_known (by assumption) (by omega) ?_
             | with_reducible refine at_tok (by omega) (by omega) (fun _ _ => ?_)
             | with_reducible refine at_int (by omega) (by omega) (fun _ _ => ?_)
             | with_reducible refine slice_ints (by omega) (by omega) (by omega) ?_
             | with_reducible refine draw_head ?_)
  all_goals conv => whnf
  all_goals (refine fin_bool h ?_; clear h; simp_all [startsF])
theorem rdeep_c {s : Sta} (h : R (.ret (encQ nd0 s 2)) st) : PC 29 [encS s] st R := by
  refine pcalls_of_body tys_ok [] Try.func29 rfl (by decide) ?_
  repeat' (conv => whnf
           first
             | with_reducible exact quiet_same
             | with_reducible exact quiet_bool
             | with_reducible exact quiet_not
             | with_reducible refine draw_step (by kernel_rfl) ?_
             | with_reducible refine quiet_go ?_ ?_ ?_
             | with_reducible refine bcase_yes (by first | assumption | omega) ?_
             | with_reducible refine bcase_no (by first | assumption | omega) ?_
             | with_reducible refine bcase_dyes (by omega) ?_
             | with_reducible refine bcase_dno (by omega) ?_
             | with_reducible refine bcase_len (by decide) (fun _ => ?_) (fun _ => ?_)
             | with_reducible refine bcase_eq (fun _ => ?_) (fun _ => ?_)
             | with_reducible refine bcase_dec (fun _ => ?_) (fun _ => ?_)
             | with_reducible refine bcase_true ?_
             | with_reducible refine bcase_false ?_
             | with_reducible refine bcase_intro (fun _ => ?_) (fun _ => ?_)
             | with_reducible refine len_kids (fun _ => ?_)
             | with_reducible refine at_known (by assumption) (by omega) ?_
             | with_reducible refine at_kid (by omega) (by omega) (fun _ _ _ => ?_)
             | with_reducible refine tail_kids (by omega) (by omega) ?_
             | with_reducible refine slice_kids (by omega) (by omega) (by omega) ?_
             | with_reducible refine ex_wrap (by omega) (by omega) ?_
             | with_reducible refine quo_step (by decide) (by omega) (by omega) ?_
             | with_reducible refine rem_step (by decide) ?_
             | with_reducible refine nil_row (fun _ => ?_) ?_
             | with_reducible refine nil_row2 (fun _ => ?_) ?_
             | with_reducible refine len_toks (fun _ => ?_)
             | with_reducible refine len_ints (fun _ => ?_)
             | with_reducible refine tok_known (by assumption) (by omega) ?_
             | with_reducible refine at_tok (by omega) (by omega) (fun _ _ => ?_)
             | with_reducible refine at_int (by omega) (by omega) (fun _ _ => ?_)
             | with_reducible refine slice_ints (by omega) (by omega) (by omega) ?_
             | with_reducible refine draw_head ?_)
  all_goals exact finw rfl h
theorem rtake_c {s : Sta} (hb : s.opn.length ≤ 500000000) (h : R (.ret (if (nextM s).2.2 = 0 then encQ (leafT (nextM s).1) (nextM s).2.1 0 else encQ nd0 s (nextM s).2.2)) st) : PC 36 [encS s] st R := by
  refine pcalls_of_body tys_ok [] Try.func36 rfl (by decide) ?_
  repeat' (conv => whnf
           first
             | with_reducible exact quiet_same
             | with_reducible exact quiet_bool
             | with_reducible exact quiet_not
             | with_reducible refine draw_step (by kernel_rfl) ?_
             | with_reducible refine quiet_go ?_ ?_ ?_
             | with_reducible refine bcase_yes (by first | assumption | omega) ?_
             | with_reducible refine bcase_no (by first | assumption | omega) ?_
             | with_reducible refine bcase_dyes (by omega) ?_
             | with_reducible refine bcase_dno (by omega) ?_
             | with_reducible refine bcase_len (by decide) (fun _ => ?_) (fun _ => ?_)
             | with_reducible refine bcase_eq (fun _ => ?_) (fun _ => ?_)
             | with_reducible refine bcase_dec (fun _ => ?_) (fun _ => ?_)
             | with_reducible refine bcase_true ?_
             | with_reducible refine bcase_false ?_
             | with_reducible refine bcase_intro (fun _ => ?_) (fun _ => ?_)
             | with_reducible refine len_kids (fun _ => ?_)
             | with_reducible refine at_known (by assumption) (by omega) ?_
             | with_reducible refine at_kid (by omega) (by omega) (fun _ _ _ => ?_)
             | with_reducible refine tail_kids (by omega) (by omega) ?_
             | with_reducible refine slice_kids (by omega) (by omega) (by omega) ?_
             | with_reducible refine ex_wrap (by omega) (by omega) ?_
             | with_reducible refine quo_step (by decide) (by omega) (by omega) ?_
             | with_reducible refine rem_step (by decide) ?_
             | with_reducible refine nil_row (fun _ => ?_) ?_
             | with_reducible refine nil_row2 (fun _ => ?_) ?_
             | with_reducible refine len_toks (fun _ => ?_)
             | with_reducible refine len_ints (fun _ => ?_)
             | with_reducible refine tok_known (by assumption) (by omega) ?_
             | with_reducible refine at_tok (by omega) (by omega) (fun _ _ => ?_)
             | with_reducible refine at_int (by omega) (by omega) (fun _ _ => ?_)
             | with_reducible refine slice_ints (by omega) (by omega) (by omega) ?_
             | refine rnext_c (s := s) hb ?_
             | with_reducible refine draw_head ?_)
  all_goals first
    | (rw [if_pos (by assumption)] at h; exact finw rfl h)
    | (rw [if_neg (by assumption)] at h; exact finw rfl h)
theorem ris_c {s : Sta} {k : Int} {x : List UInt8} (hk : k ≠ 0) (hb : s.opn.length ≤ 500000000) (h : R (.ret (.bool (isF s k x))) st) : PC 35 [encS s, .int .i64 k, .str x] st R := by
  refine pcalls_of_body tys_ok [] Try.func35 rfl (by decide) ?_
  have key : isF s k x = ((nextM s).2.2 == 0 && isF s k x) := by
    cases hi : isF s k x with
    | false => simp
    | true => simp [isF_ok hi hk]
  rw [key] at h
  clear key
  repeat' (conv => whnf
           first
             | with_reducible exact quiet_same
             | with_reducible exact quiet_bool
             | with_reducible exact quiet_not
             | with_reducible refine draw_step (by kernel_rfl) ?_
             | with_reducible refine quiet_go ?_ ?_ ?_
             | with_reducible refine bcase_yes (by first | assumption | omega) ?_
             | with_reducible refine bcase_no (by first | assumption | omega) ?_
             | with_reducible refine bcase_dyes (by omega) ?_
             | with_reducible refine bcase_dno (by omega) ?_
             | with_reducible refine bcase_len (by decide) (fun _ => ?_) (fun _ => ?_)
             | with_reducible refine bcase_eq (fun _ => ?_) (fun _ => ?_)
             | with_reducible refine bcase_dec (fun _ => ?_) (fun _ => ?_)
             | with_reducible refine bcase_true ?_
             | with_reducible refine bcase_false ?_
             | with_reducible refine bcase_intro (fun _ => ?_) (fun _ => ?_)
             | with_reducible refine len_kids (fun _ => ?_)
             | with_reducible refine at_known (by assumption) (by omega) ?_
             | with_reducible refine at_kid (by omega) (by omega) (fun _ _ _ => ?_)
             | with_reducible refine tail_kids (by omega) (by omega) ?_
             | with_reducible refine slice_kids (by omega) (by omega) (by omega) ?_
             | with_reducible refine ex_wrap (by omega) (by omega) ?_
             | with_reducible refine quo_step (by decide) (by omega) (by omega) ?_
             | with_reducible refine rem_step (by decide) ?_
             | with_reducible refine nil_row (fun _ => ?_) ?_
             | with_reducible refine nil_row2 (fun _ => ?_) ?_
             | with_reducible refine len_toks (fun _ => ?_)
             | with_reducible refine len_ints (fun _ => ?_)
             | with_reducible refine tok_known (by assumption) (by omega) ?_
             | with_reducible refine at_tok (by omega) (by omega) (fun _ _ => ?_)
             | with_reducible refine at_int (by omega) (by omega) (fun _ _ => ?_)
             | with_reducible refine slice_ints (by omega) (by omega) (by omega) ?_
             | refine rnext_c (s := s) hb ?_
             | with_reducible refine draw_head ?_)
  all_goals conv => whnf
  all_goals (refine fin_bool h ?_; clear h; simp_all [isF])

/-- a Read of a reading; beside an error there may stand a tree that nobody looks at -/
def encRs : Rs → V
  | .inr (n, s) => encQ n s 0
  | .inl (e, s) => encQ nd0 s e
theorem rtakeP_c {s : Sta} (hb : s.opn.length ≤ 500000000) (h : R (.ret (encRs (takeP s))) st) : PC 36 [encS s] st R := rtake_c hb (by
  unfold takeP at h
  split at h <;> rename_i e
  · rw [if_pos e]; exact h
  · rw [if_neg e]; exact h)
theorem rbad_c {s : Sta} (hb : s.opn.length ≤ 500000000) (h : R (.ret (encRs (badP s))) st) : PC 56 [encS s] st R := by
  refine pcalls_of_body tys_ok [] Try.func56 rfl (by decide) ?_
  unfold badP badE at h
  repeat' (conv => whnf
           first
             | with_reducible exact quiet_same
             | with_reducible exact quiet_bool
             | with_reducible exact quiet_not
             | with_reducible refine draw_step (by kernel_rfl) ?_
             | with_reducible refine quiet_go ?_ ?_ ?_
             | with_reducible refine bcase_yes (by first | assumption | omega) ?_
             | with_reducible refine bcase_no (by first | assumption | omega) ?_
             | with_reducible refine bcase_dyes (by omega) ?_
             | with_reducible refine bcase_dno (by omega) ?_
             | with_reducible refine bcase_len (by decide) (fun _ => ?_) (fun _ => ?_)
             | with_reducible refine bcase_eq (fun _ => ?_) (fun _ => ?_)
             | with_reducible refine bcase_dec (fun _ => ?_) (fun _ => ?_)
             | with_reducible refine bcase_true ?_
             | with_reducible refine bcase_false ?_
             | with_reducible refine bcase_intro (fun _ => ?_) (fun _ => ?_)
             | with_reducible refine len_kids (fun _ => ?_)
             | with_reducible refine at_known (by assumption) (by omega) ?_
             | with_reducible refine at_kid (by omega) (by omega) (fun _ _ _ => ?_)
             | with_reducible refine tail_kids (by omega) (by omega) ?_
             | with_reducible refine slice_kids (by omega) (by omega) (by omega) ?_
             | with_reducible refine ex_wrap (by omega) (by omega) ?_
             | with_reducible refine quo_step (by decide) (by omega) (by omega) ?_
             | with_reducible refine rem_step (by decide) ?_
             | with_reducible refine nil_row (fun _ => ?_) ?_
             | with_reducible refine nil_row2 (fun _ => ?_) ?_
             | with_reducible refine len_toks (fun _ => ?_)
             | with_reducible refine len_ints (fun _ => ?_)
             | with_reducible refine tok_known (by assumption) (by omega) ?_
             | with_reducible refine at_tok (by omega) (by omega) (fun _ _ => ?_)
             | with_reducible refine at_int (by omega) (by omega) (fun _ _ => ?_)
             | with_reducible refine slice_ints (by omega) (by omega) (by omega) ?_
             | refine rnext_c (s := s) hb ?_
             | with_reducible refine draw_head ?_)
  all_goals first
    | (rw [if_pos (by assumption)] at h; exact finw rfl h)
    | (rw [if_neg (by assumption)] at h; exact finw rfl h)
theorem ris_e {s : Sta} {k : Int} {x : List UInt8} {v : Bool} (e : isF s k x = v) (hk : k ≠ 0) (hb : s.opn.length ≤ 500000000) (h : R (.ret (.bool v)) st) : PC 35 [encS s, .int .i64 k, .str x] st R := ris_c hk hb (by rw [e]; exact h)
theorem rtake_e {s : Sta} {q : Rs} (e : takeP s = q) (hb : s.opn.length ≤ 500000000) (h : R (.ret (encRs q)) st) : PC 36 [encS s] st R := rtakeP_c hb (by rw [e]; exact h)
theorem rwant_c {s : Sta} {k : Int} {x : List UInt8} (hk : k ≠ 0) (hb : s.opn.length ≤ 500000000) (h : R (.ret (encRs (wantP s k x))) st) : PC 58 [encS s, .int .i64 k, .str x] st R := by
  refine pcalls_of_body tys_ok [] Try.func58 rfl (by decide) ?_
  unfold wantP at h
  cases hi : isF s k x with
  | true =>
    rw [if_pos hi] at h
    cases hq : takeP s with
    | inl p =>
      rw [hq] at h
      repeat' (conv => whnf
               first
                 | with_reducible exact quiet_same
                 | with_reducible exact quiet_bool
                 | with_reducible exact quiet_not
                 | with_reducible refine draw_step (by kernel_rfl) ?_
                 | with_reducible refine quiet_go ?_ ?_ ?_
                 | with_reducible refine bcase_yes (by first | assumption | omega) ?_
                 | with_reducible refine bcase_no (by first | assumption | omega) ?_
                 | with_reducible refine bcase_dyes (by omega) ?_
                 | with_reducible refine bcase_dno (by omega) ?_
                 | with_reducible refine bcase_len (by decide) (fun _ => ?_) (fun _ => ?_)
                 | with_reducible refine bcase_eq (fun _ => ?_) (fun _ => ?_)
                 | with_reducible refine bcase_dec (fun _ => ?_) (fun _ => ?_)
                 | with_reducible refine bcase_true ?_
                 | with_reducible refine bcase_false ?_
                 | with_reducible refine bcase_intro (fun _ => ?_) (fun _ => ?_)
                 | with_reducible refine len_kids (fun _ => ?_)
                 | with_reducible refine at_known (by assumption) (by omega) ?_
                 | with_reducible refine at_kid (by omega) (by omega) (fun _ _ _ => ?_)
                 | with_reducible refine tail_kids (by omega) (by omega) ?_
                 | with_reducible refine slice_kids (by omega) (by omega) (by omega) ?_
                 | with_reducible refine ex_wrap (by omega) (by omega) ?_
                 | with_reducible refine quo_step (by decide) (by omega) (by omega) ?_
                 | with_reducible refine rem_step (by decide) ?_
                 | with_reducible refine nil_row (fun _ => ?_) ?_
                 | with_reducible refine nil_row2 (fun _ => ?_) ?_
                 | with_reducible refine len_toks (fun _ => ?_)
                 | with_reducible refine len_ints (fun _ => ?_)
                 | with_reducible refine tok_known (by assumption) (by omega) ?_
                 | with_reducible refine at_tok (by omega) (by omega) (fun _ _ => ?_)
                 | with_reducible refine at_int (by omega) (by omega) (fun _ _ => ?_)
                 | with_reducible refine slice_ints (by omega) (by omega) (by omega) ?_
                 | refine ris_e hi hk hb ?_
                 | refine rtake_e hq hb ?_
                 | with_reducible refine draw_head ?_)
      all_goals exact finw rfl h
    | inr p =>
      rw [hq] at h
      repeat' (conv => whnf
               first
                 | with_reducible exact quiet_same
                 | with_reducible exact quiet_bool
                 | with_reducible exact quiet_not
                 | with_reducible refine draw_step (by kernel_rfl) ?_
                 | with_reducible refine quiet_go ?_ ?_ ?_
                 | with_reducible refine bcase_yes (by first | assumption | omega) ?_
                 | with_reducible refine bcase_no (by first | assumption | omega) ?_
                 | with_reducible refine bcase_dyes (by omega) ?_
                 | with_reducible refine bcase_dno (by omega) ?_
                 | with_reducible refine bcase_len (by decide) (fun _ => ?_) (fun _ => ?_)
                 | with_reducible refine bcase_eq (fun _ => ?_) (fun _ => ?_)
                 | with_reducible refine bcase_dec (fun _ => ?_) (fun _ => ?_)
                 | with_reducible refine bcase_true ?_
                 | with_reducible refine bcase_false ?_
                 | with_reducible refine bcase_intro (fun _ => ?_) (fun _ => ?_)
                 | with_reducible refine len_kids (fun _ => ?_)
                 | with_reducible refine at_known (by assumption) (by omega) ?_
                 | with_reducible refine at_kid (by omega) (by omega) (fun _ _ _ => ?_)
                 | with_reducible refine tail_kids (by omega) (by omega) ?_
                 | with_reducible refine slice_kids (by omega) (by omega) (by omega) ?_
                 | with_reducible refine ex_wrap (by omega) (by omega) ?_
                 | with_reducible refine quo_step (by decide) (by omega) (by omega) ?_
                 | with_reducible refine rem_step (by decide) ?_
                 | with_reducible refine nil_row (fun _ => ?_) ?_
                 | with_reducible refine nil_row2 (fun _ => ?_) ?_
                 | with_reducible refine len_toks (fun _ => ?_)
                 | with_reducible refine len_ints (fun _ => ?_)
                 | with_reducible refine tok_known (by assumption) (by omega) ?_
                 | with_reducible refine at_tok (by omega) (by omega) (fun _ _ => ?_)
                 | with_reducible refine at_int (by omega) (by omega) (fun _ _ => ?_)
                 | with_reducible refine slice_ints (by omega) (by omega) (by omega) ?_
                 | refine ris_e hi hk hb ?_
                 | refine rtake_e hq hb ?_
                 | with_reducible refine draw_head ?_)
      all_goals exact finw rfl h
  | false =>
    rw [if_neg (by rw [hi]; decide)] at h
    repeat' (conv => whnf
             first
               | with_reducible exact quiet_same
               | with_reducible exact quiet_bool
               | with_reducible exact quiet_not
               | with_reducible refine draw_step (by kernel_rfl) ?_
               | with_reducible refine quiet_go ?_ ?_ ?_
               | with_reducible refine bcase_yes (by first | assumption | omega) ?_
               | with_reducible refine bcase_no (by first | assumption | omega) ?_
               | with_reducible refine bcase_dyes (by omega) ?_
               | with_reducible refine bcase_dno (by omega) ?_
               | with_reducible refine bcase_len (by decide) (fun _ => ?_) (fun _ => ?_)
               | with_reducible refine bcase_eq (fun _ => ?_) (fun _ => ?_)
               | with_reducible refine bcase_dec (fun _ => ?_) (fun _ => ?_)
               | with_reducible refine bcase_true ?_
               | with_reducible refine bcase_false ?_
               | with_reducible refine bcase_intro (fun _ => ?_) (fun _ => ?_)
               | with_reducible refine len_kids (fun _ => ?_)
               | with_reducible refine at_known (by assumption) (by omega) ?_
               | with_reducible refine at_kid (by omega) (by omega) (fun _ _ _ => ?_)
               | with_reducible refine tail_kids (by omega) (by omega) ?_
               | with_reducible refine slice_kids (by omega) (by omega) (by omega) ?_
               | with_reducible refine ex_wrap (by omega) (by omega) ?_
               | with_reducible refine quo_step (by decide) (by omega) (by omega) ?_
               | with_reducible refine rem_step (by decide) ?_
               | with_reducible refine nil_row (fun _ => ?_) ?_
               | with_reducible refine nil_row2 (fun _ => ?_) ?_
               | with_reducible refine len_toks (fun _ => ?_)
               | with_reducible refine len_ints (fun _ => ?_)
               | with_reducible refine tok_known (by assumption) (by omega) ?_
               | with_reducible refine at_tok (by omega) (by omega) (fun _ _ => ?_)
               | with_reducible refine at_int (by omega) (by omega) (fun _ _ => ?_)
               | with_reducible refine slice_ints (by omega) (by omega) (by omega) ?_
               | refine ris_e hi hk hb ?_
               | refine rbad_c hb ?_
               | with_reducible refine draw_head ?_)
    all_goals exact finw rfl h
end
end Go.Proofs.Ytngbihfihdheoaa

/-
  TYPES: typing.* answer what the plain functions answer.
-/
set_option linter.unusedVariables false
set_option pp.maxSteps 400
namespace Go.Proofs.Ytngbihfihdheoaa
open Go Go.Aw

theorem tells_of {st : St} {b : Nat} {K : Res → St → Prop} {q : Rs} (h : ∀ n s', q = .inr (n, s') → ∀ st', Upd st st' b s' → K (.ret (enc n)) st') (k : ∀ e s', q = .inl (e, s') → ∀ st', Upd st st' b s' → K (.pan (fault e)) st') : Tells st b K q := by
  match q with
  | .inr (n, s') => exact h n s' rfl
  | .inl (e, s') => exact k e s' rfl
theorem Has.hw {st : St} {b : Nat} {s : Sta} (h : Has st b s) (own : Own) (n : Nat) : Has (own.st st n) b s := by
  cases own with
  | any => exact h
  | full => exact h
  | tok t => exact h
/-- a reader's step beside a row that is one's own -/
theorem upd_own {own : Own} {st st' : St} {n b : Nat} {s s' : Sta} (hg : own.good st) (hh : Has st b s) (hu : Upd (own.st st n) st' b s') : ∃ st2, st' = own.st st2 n ∧ Upd st st2 b s' ∧ own.good st2 := by
  obtain ⟨h1, cs, e⟩ := hu
  cases own with
  | any => exact hg.elim
  | full => exact ⟨st', rfl, ⟨h1, cs, e⟩, trivial⟩
  | tok t =>
    refine ⟨st.setBox b cs, e, ⟨?_, cs, rfl⟩, ?_, ?_⟩
    · rw [e] at h1; exact h1
    · have : b ≠ t := by
        rintro rfl
        have h2 : st.box b = none := hg.1
        rcases hh with k | ⟨_, _, _, _, _, k⟩ <;> (rw [h2] at k; cases k)
      rw [St.box_ne this]; exact hg.1
    · exact hg.2
def TellsO (own : Own) (n : Nat) (st : St) (b : Nat) (R : Res → St → Prop) : Rs → Prop
  | .inr (x, s') => ∀ st', Upd st st' b s' → own.good st' → R (.ret (enc x)) (own.st st' n)
  | .inl (e, s') => ∀ st', Upd st st' b s' → own.good st' → R (.pan (fault e)) (own.st st' n)
theorem tells_own {own : Own} {n : Nat} {st : St} {b : Nat} {s : Sta} {R : Res → St → Prop} {q : Rs} (hg : own.good st) (hh : Has st b s) (h : TellsO own n st b R q) : Tells (own.st st n) b R q := by
  refine tells_of (fun x s' e st' hu => ?_) (fun x s' e st' hu => ?_)
  · obtain ⟨st2, rfl, h2, h3⟩ := upd_own hg hh hu
    subst e
    exact h st2 h2 h3
  · obtain ⟨st2, rfl, h2, h3⟩ := upd_own hg hh hu
    subst e
    exact h st2 h2 h3

section
variable {st : St} {R : Res → St → Prop}
attribute [local irreducible] Go.Aw.appendTo

theorem starts_c {t : Tk} (h : R (.ret (.bool (startsF t))) st) : PC 52 [encT t] st R := by
  refine pcalls_of_body tys_ok [] Try.func52 rfl (by decide) ?_
  repeat' (conv => whnf
           first
             | with_reducible exact quiet_same
             | with_reducible exact quiet_bool
             | with_reducible exact quiet_not
             | with_reducible refine draw_step (by kernel_rfl) ?_
             | with_reducible refine quiet_go ?_ ?_ ?_
             | with_reducible refine bcase_yes (by first | assumption | omega) ?_
             | with_reducible refine bcase_no (by first | assumption | omega) ?_
             | with_reducible refine bcase_dyes (by omega) ?_
             | with_reducible refine bcase_dno (by omega) ?_
             | with_reducible refine bcase_len (by decide) (fun _ => ?_) (fun _ => ?_)
             | with_reducible refine bcase_eq (fun _ => ?_) (fun _ => ?_)
             | with_reducible refine bcase_dec (fun _ => ?_) (fun _ => ?_)
             | with_reducible refine bcase_true ?_
             | with_reducible refine bcase_false ?_
             | with_reducible refine bcase_intro (fun _ => ?_) (fun _ => ?_)
             | with_reducible refine len_kids (fun _ => ?_)
             | with_reducible refine at_known (by assumption) (by omega) ?_
             | with_reducible refine at_kid (by omega) (by omega) (fun _ _ _ => ?_)
             | with_reducible refine tail_kids (by omega) (by omega) ?_
             | with_reducible refine slice_kids (by omega) (by omega) (by omega) ?_
             | with_reducible refine ex_wrap (by omega) (by omega) ?_
             | with_reducible refine quo_step (by decide) (by omega) (by omega) ?_
             | with_reducible refine rem_step (by decide) ?_
             | with_reducible refine nil_row (fun _ => ?_) ?_
             | with_reducible refine nil_row2 (fun _ => ?_) ?_
             | with_reducible refine len_toks (fun _ => ?_)
             | with_reducible refine len_ints (fun _ => ?_)
             | with_reducible refine tok_known (by assumption) (by omega) ?_
             | with_reducible refine at_tok (by omega) (by omega) (fun _ _ => ?_)
             | with_reducible refine at_int (by omega) (by omega) (fun _ _ => ?_)
             | with_reducible refine slice_ints (by omega) (by omega) (by omega) ?_
             | with_reducible refine draw_head ?_)
  all_goals conv => whnf
  all_goals (refine fin_bool h ?_; clear h; simp_all [startsF])

def Reads0 (f : FuncId) (d : Int) (A : Sta → Rs) : Prop := ∀ s, mu s ≤ 100000000 → Reads f s d (A s)
theorem opn_le {s : Sta} (h : mu s ≤ 100000000) : s.opn.length ≤ 500000000 := by have := opn_mu s; omega

theorem take_r {b : Nat} {s : Sta} (hs : Has st b s) (hb : s.opn.length ≤ 500000000) (h : Tells st b R (takeP s)) : PC 49 [.ptr b 0] st R := by
  unfold takeP at h
  refine take_c hs hb (fun e => ?_) (fun e => ?_)
  · rw [if_pos e] at h; exact h
  · rw [if_neg e] at h; exact h _ upd_look
theorem bad_r {b : Nat} {s : Sta} (hs : Has st b s) (hb : s.opn.length ≤ 500000000) (h : Tells st b R (badP s)) : PC 53 [.ptr b 0] st R := bad_c hs hb (h _ upd_look)
theorem bad_d {b : Nat} {s : Sta} (hs : Has st b s) (hb : s.opn.length ≤ 500000000) (h : ∀ st', Upd st st' b s → R (.pan (fault (badE s))) st') : PC 53 [.ptr b 0] st R := bad_c hs hb (h _ upd_look)
theorem want_r {b : Nat} {s : Sta} {k : Int} {x : List UInt8} (hs : Has st b s) (hb : s.opn.length ≤ 500000000) (h : Tells st b R (wantP s k x)) : PC 73 [.ptr b 0, .int .i64 k, .str x] st R := by
  unfold wantP takeP at h
  refine want_c hs hb (fun e1 e2 => ?_) (fun e1 e2 => ?_) (fun e1 => ?_)
  · rw [if_pos e1, if_pos e2] at h; exact h
  · rw [if_pos e1, if_neg e2] at h; exact h _ upd_look
  · rw [if_neg (by rw [e1]; decide)] at h; exact h _ upd_look

theorem atom_c {d : Int} {Y : Sta → Rs} (hr : Reads0 54 d (roundP Y)) (hsq : Reads0 55 d (squareP Y)) : Reads0 37 d (atomP Y) := by
  intro s hm b st R hs h
  refine pcalls_of_body tys_ok [] Try.func37 rfl (by decide) ?_
  have hb := opn_le hm
  have hl : Has (st.setBox b (lookC s)) b s := .inl (St.box_same ..)
  unfold atomP at h
  repeat' (conv => whnf
           first
             | with_reducible exact quiet_same
             | with_reducible exact quiet_bool
             | with_reducible exact quiet_not
             | with_reducible refine draw_step (by kernel_rfl) ?_
             | with_reducible refine quiet_go ?_ ?_ ?_
             | with_reducible refine bcase_yes (by first | assumption | omega) ?_
             | with_reducible refine bcase_no (by first | assumption | omega) ?_
             | with_reducible refine bcase_dyes (by omega) ?_
             | with_reducible refine bcase_dno (by omega) ?_
             | with_reducible refine bcase_len (by decide) (fun _ => ?_) (fun _ => ?_)
             | with_reducible refine bcase_eq (fun _ => ?_) (fun _ => ?_)
             | with_reducible refine bcase_dec (fun _ => ?_) (fun _ => ?_)
             | with_reducible refine bcase_true ?_
             | with_reducible refine bcase_false ?_
             | with_reducible refine bcase_intro (fun _ => ?_) (fun _ => ?_)
             | with_reducible refine len_kids (fun _ => ?_)
             | with_reducible refine at_known (by assumption) (by omega) ?_
             | with_reducible refine at_kid (by omega) (by omega) (fun _ _ _ => ?_)
             | with_reducible refine tail_kids (by omega) (by omega) ?_
             | with_reducible refine slice_kids (by omega) (by omega) (by omega) ?_
             | with_reducible refine ex_wrap (by omega) (by omega) ?_
             | with_reducible refine quo_step (by decide) (by omega) (by omega) ?_
             | with_reducible refine rem_step (by decide) ?_
             | with_reducible refine nil_row (fun _ => ?_) ?_
             | with_reducible refine nil_row2 (fun _ => ?_) ?_
             | with_reducible refine len_toks (fun _ => ?_)
             | with_reducible refine len_ints (fun _ => ?_)
             | with_reducible refine tok_known (by assumption) (by omega) ?_
             | with_reducible refine at_tok (by omega) (by omega) (fun _ _ => ?_)
             | with_reducible refine at_int (by omega) (by omega) (fun _ _ => ?_)
             | with_reducible refine slice_ints (by omega) (by omega) (by omega) ?_
             | refine peek_c hs hb ?_
             | refine starts_c ?_
             | refine take_r hl hb (tells_of (fun n s' hq st' hu => ?_) (fun e s' hq st' hu => ?_))
             | refine bad_d hl hb (fun st' hu => ?_)
             | refine hr s hm b _ _ hl (tells_of (fun n s' hq st' hu => ?_) (fun e s' hq st' hu => ?_))
             | refine hsq s hm b _ _ hl (tells_of (fun n s' hq st' hu => ?_) (fun e s' hq st' hu => ?_))
             | with_reducible refine draw_head ?_)
  all_goals repeat (first | rw [if_pos (by assumption)] at h | rw [if_neg (by assumption)] at h | rw [if_neg (Bool.eq_false_iff.1 (by assumption))] at h)
  all_goals first
    | exact fin (h st' (upd_look.trans hu)) rfl
    | (rw [hq] at h; exact finw rfl (h st' (upd_look.trans hu)))
    | (rw [hq] at h; exact fin (h st' (upd_look.trans hu)) rfl)
  all_goals trace_state
end
end Go.Proofs.Ytngbihfihdheoaa

/-
  TYPES: square, round.
-/
set_option linter.unusedVariables false
set_option pp.maxSteps 400
namespace Go.Proofs.Ytngbihfihdheoaa
open Go Go.Aw

theorem app_nodes {l new : List Nd} {own : Own} {st : St} {K : V → St → Prop} (h : own.good st) (hb : l.length + new.length ≤ 1000000000)
    (k : ∀ own' : Own, own'.good st → K (.slice 6 (encs (l ++ new)) own') (own'.st st ((l ++ new).length * 6))) : appendTo 6 72 (encs l) own (encs new) (own.st st (l.length * 6)) K := by
  have hw : (encs new).map (·.map V.wk0) = encs new := by
    rw [encs_map, List.map_map]
    refine List.map_congr_left fun x _ => ?_
    rfl
  have hsc : ((encs new).all fun v => v.all V.sc) = true := by
    rw [encs_map, List.all_map, List.all_eq_true]
    intro x _
    rfl
  have := appendTo_own (sz := 6) (bytes := 72) (es := encs l) (new := encs new) (K := K) h (by rw [encs_length, encs_length]; omega) (by rw [encs_length, encs_length]; simp only [lim]; omega) hsc (fun own' ho => by
    have := k own' ho
    rw [encs_length, encs_length, hw, ← encs_append, ← List.length_append]
    exact this)
  rw [encs_length] at this
  exact this
theorem app_node1 {l : List Nd} {x : Nd} {own : Own} {st : St} {K : V → St → Prop} (h : own.good st) (hb : l.length + 1 ≤ 1000000000)
    (k : ∀ own' : Own, own'.good st → K (.slice 6 (encs (l ++ [x])) own') (own'.st st ((l ++ [x]).length * 6))) : appendTo 6 72 (encs l) own [encN x] (own.st st (l.length * 6)) K := by
  have := app_nodes (l := l) (new := [x]) h hb k
  rw [encs_map [x]] at this
  exact this
theorem app_lit {l : List Nd} {x : Nd} {own : Own} {st : St} {K : V → St → Prop} (h : own.good st) (hb : l.length + 1 ≤ 1000000000)
    (k : ∀ own' : Own, own'.good st → K (.slice 6 (encs (l ++ [x])) own') (own'.st st ((l ++ [x]).length * 6))) : appendTo 6 72 (l.map encN) own [encN x] (own.st st (l.length * 6)) K := by
  rw [← encs_map]
  exact app_node1 h hb k
theorem ex_to {a c : Int} {K : Int → Prop} (e : a = c) (h1 : -9223372036854775808 ≤ c) (h2 : c ≤ 9223372036854775807) (k : K c) : ∃ r, r = IntKind.i64.wrap a ∧ K r := by subst e; exact ⟨a, (wrap_id h1 h2).symm, k⟩
theorem pred_step {d : Nat} {K : Int → Prop} (h : d ≤ 1000000) (k : K (d : Int)) : ∃ r, r = IntKind.i64.wrap (((d + 1 : Nat) : Int) - 1) ∧ K r := by
  refine ⟨d, ?_, k⟩
  rw [show ((d + 1 : Nat) : Int) - 1 = (d : Int) by omega, wrap_id (by omega) (by omega)]

section
variable {st : St} {R : Res → St → Prop}
attribute [local irreducible] Go.Aw.appendTo

theorem tells_l {b : Nat} {K : Res → St → Prop} {q : Rs} {x : Int} {s' : Sta} (e : q = .inl (x, s')) (h : ∀ st', Upd st st' b s' → K (.pan (fault x)) st') : Tells st b K q := by subst e; exact h
theorem tellsO_of {own : Own} {m : Nat} {st : St} {b : Nat} {K : Res → St → Prop} {q : Rs} (h : ∀ n s', q = .inr (n, s') → ∀ st', Upd st st' b s' → own.good st' → K (.ret (enc n)) (own.st st' m)) (k : ∀ e s', q = .inl (e, s') → ∀ st', Upd st st' b s' → own.good st' → K (.pan (fault e)) (own.st st' m)) : TellsO own m st b K q := by
  match q with
  | .inr (n, s') => exact h n s' rfl
  | .inl (e, s') => exact k e s' rfl
theorem tells_r {b : Nat} {K : Res → St → Prop} {q : Rs} {x : Nd} {s' : Sta} (e : q = .inr (x, s')) (h : ∀ st', Upd st st' b s' → K (.ret (enc x)) st') : Tells st b K q := by subst e; exact h
/-- another layer's call, by its readings -/
def Calls3 (f : FuncId) (d : Int) (A : Sta → Rs) : Prop := ∀ s, mu s ≤ 100000000 → ∀ (st : St) (R : Res → St → Prop), R (.ret (encR (catchR s d (A s)))) st → PC f [encS s, .int .i64 d] st R
theorem into_r {f : FuncId} {d : Nat} {A : Sta → Rs} (hf : Calls3 f d A) (h0 : d = 0 → ∀ s, A s = .inl (2, s)) (hA : Bads A) {b : Nat} {s : Sta} (hm : mu s ≤ 100000000) (hs : Has st b s) (h : Tells st b R (A s)) :
    PC 74 [.ptr b 0, .func f [] [], .int .i64 d] st R := by
  by_cases hd : (d : Int) < 1
  · have hz : d = 0 := by omega
    rw [h0 hz s] at h
    refine into_c (n := nd0) (s' := s) (e := 2) (fun st R k => hf s hm st R ?_) hs (fun e => by cases e) (fun _ => h)
    unfold catchR; rw [if_pos hd]; exact k
  · cases hq : A s with
    | inr p =>
      rw [hq] at h
      refine into_c (n := p.1) (s' := p.2) (e := 0) (fun st R k => hf s hm st R ?_) hs (fun _ => h) (fun e => absurd rfl e)
      unfold catchR; rw [if_neg hd, hq]; exact k
    | inl p =>
      rw [hq] at h
      have hne := hA s p.1 p.2 hq
      refine into_c (n := nd0) (s' := p.2) (e := p.1) (fun st R k => hf s hm st R ?_) hs (fun e => absurd e hne) (fun _ => h)
      unfold catchR; rw [if_neg hd, hq]; exact k

theorem into_e {f : FuncId} {d : Nat} {x : Int} {A : Sta → Rs} (hx : x = (d : Int)) (hf : Calls3 f d A) (h0 : d = 0 → ∀ s, A s = .inl (2, s)) (hA : Bads A) {b : Nat} {s : Sta} (hm : mu s ≤ 100000000) (hs : Has st b s) (h : Tells st b R (A s)) :
    PC 74 [.ptr b 0, .func f [] [], .int .i64 x] st R := by subst hx; exact into_r hf h0 hA hm hs h

theorem square_c {d : Nat} (hd : d ≤ 1000000) {Y : Sta → Rs} (hY : Calls3 11 d Y) (h0 : d = 0 → ∀ s, Y s = .inl (2, s)) (hB : Bads Y) (hF : Falls Y) : Reads0 55 ((d + 1 : Nat) : Int) (squareP Y) := by
  intro s hm b st R hs h
  refine pcalls_of_body tys_ok [] Try.func55 rfl (by decide) ?_
  have hb := opn_le hm
  unfold squareP at h
  cases hq1 : takeP s with
  | inl q =>
    rw [hq1] at h
    obtain ⟨e, s'⟩ := q
    repeat' (conv => whnf
             first
               | with_reducible exact quiet_same
               | with_reducible exact quiet_bool
               | with_reducible exact quiet_not
               | with_reducible refine draw_step (by kernel_rfl) ?_
               | with_reducible refine quiet_go ?_ ?_ ?_
               | with_reducible refine bcase_yes (by first | assumption | omega) ?_
               | with_reducible refine bcase_no (by first | assumption | omega) ?_
               | with_reducible refine bcase_dyes (by omega) ?_
               | with_reducible refine bcase_dno (by omega) ?_
               | with_reducible refine bcase_len (by decide) (fun _ => ?_) (fun _ => ?_)
               | with_reducible refine bcase_eq (fun _ => ?_) (fun _ => ?_)
               | with_reducible refine bcase_dec (fun _ => ?_) (fun _ => ?_)
               | with_reducible refine bcase_true ?_
               | with_reducible refine bcase_false ?_
               | with_reducible refine bcase_intro (fun _ => ?_) (fun _ => ?_)
               | with_reducible refine len_kids (fun _ => ?_)
               | with_reducible refine at_known (by assumption) (by omega) ?_
               | with_reducible refine at_kid (by omega) (by omega) (fun _ _ _ => ?_)
               | with_reducible refine tail_kids (by omega) (by omega) ?_
               | with_reducible refine slice_kids (by omega) (by omega) (by omega) ?_
               | with_reducible refine ex_wrap (by omega) (by omega) ?_
               | with_reducible refine quo_step (by decide) (by omega) (by omega) ?_
               | with_reducible refine rem_step (by decide) ?_
               | with_reducible refine nil_row (fun _ => ?_) ?_
               | with_reducible refine nil_row2 (fun _ => ?_) ?_
               | with_reducible refine len_toks (fun _ => ?_)
               | with_reducible refine len_ints (fun _ => ?_)
               | with_reducible refine tok_known (by assumption) (by omega) ?_
               | with_reducible refine at_tok (by omega) (by omega) (fun _ _ => ?_)
               | with_reducible refine at_int (by omega) (by omega) (fun _ _ => ?_)
               | with_reducible refine slice_ints (by omega) (by omega) (by omega) ?_
               | refine take_r hs hb (tells_l hq1 (fun st1 h1 => ?_))
               | with_reducible refine draw_head ?_)
    all_goals exact fin (h st1 h1) rfl
  | inr q =>
    obtain ⟨n1, s1⟩ := q
    rw [hq1] at h
    have hm1 : mu s1 ≤ 100000000 := by have := (take_mu hq1).1; omega
    have hb1 := opn_le hm1
    repeat' (conv => whnf
             first
               | with_reducible exact quiet_same
               | with_reducible exact quiet_bool
               | with_reducible exact quiet_not
               | with_reducible refine draw_step (by kernel_rfl) ?_
               | with_reducible refine quiet_go ?_ ?_ ?_
               | with_reducible refine bcase_yes (by first | assumption | omega) ?_
               | with_reducible refine bcase_no (by first | assumption | omega) ?_
               | with_reducible refine bcase_dyes (by omega) ?_
               | with_reducible refine bcase_dno (by omega) ?_
               | with_reducible refine bcase_len (by decide) (fun _ => ?_) (fun _ => ?_)
               | with_reducible refine bcase_eq (fun _ => ?_) (fun _ => ?_)
               | with_reducible refine bcase_dec (fun _ => ?_) (fun _ => ?_)
               | with_reducible refine bcase_true ?_
               | with_reducible refine bcase_false ?_
               | with_reducible refine bcase_intro (fun _ => ?_) (fun _ => ?_)
               | with_reducible refine len_kids (fun _ => ?_)
               | with_reducible refine at_known (by assumption) (by omega) ?_
               | with_reducible refine at_kid (by omega) (by omega) (fun _ _ _ => ?_)
               | with_reducible refine tail_kids (by omega) (by omega) ?_
               | with_reducible refine slice_kids (by omega) (by omega) (by omega) ?_
               | with_reducible refine ex_wrap (by omega) (by omega) ?_
               | with_reducible refine quo_step (by decide) (by omega) (by omega) ?_
               | with_reducible refine rem_step (by decide) ?_
               | with_reducible refine nil_row (fun _ => ?_) ?_
               | with_reducible refine nil_row2 (fun _ => ?_) ?_
               | with_reducible refine len_toks (fun _ => ?_)
               | with_reducible refine len_ints (fun _ => ?_)
               | with_reducible refine tok_known (by assumption) (by omega) ?_
               | with_reducible refine at_tok (by omega) (by omega) (fun _ _ => ?_)
               | with_reducible refine at_int (by omega) (by omega) (fun _ _ => ?_)
               | with_reducible refine slice_ints (by omega) (by omega) (by omega) ?_
               | refine take_r hs hb (tells_r hq1 (fun st1 h1 => ?_))
               | refine is_c h1.1 hb1 ?_
               | with_reducible refine draw_head ?_)
    · have hp : isF s1 15 [93] = true := by assumption
      have hl1 : Has (st1.setBox b (lookC s1)) b s1 := .inl (St.box_same ..)
      have hq2 : takeP s1 = .inr (leafT (nextM s1).1, (nextM s1).2.1) := by unfold takeP; rw [if_pos (isF_ok hp (by decide))]
      dsimp only at h
      rw [if_pos hp] at h
      have hn1 : [n1].length + 1 ≤ 1000000000 := by show 1 + 1 ≤ 1000000000; decide
      repeat' (conv => whnf
               first
                 | with_reducible exact quiet_same
                 | with_reducible exact quiet_bool
                 | with_reducible exact quiet_not
                 | with_reducible refine draw_step (by kernel_rfl) ?_
                 | with_reducible refine quiet_go ?_ ?_ ?_
                 | with_reducible refine bcase_yes (by first | assumption | omega) ?_
                 | with_reducible refine bcase_no (by first | assumption | omega) ?_
                 | with_reducible refine bcase_dyes (by omega) ?_
                 | with_reducible refine bcase_dno (by omega) ?_
                 | with_reducible refine bcase_len (by decide) (fun _ => ?_) (fun _ => ?_)
                 | with_reducible refine bcase_eq (fun _ => ?_) (fun _ => ?_)
                 | with_reducible refine bcase_dec (fun _ => ?_) (fun _ => ?_)
                 | with_reducible refine bcase_true ?_
                 | with_reducible refine bcase_false ?_
                 | with_reducible refine bcase_intro (fun _ => ?_) (fun _ => ?_)
                 | with_reducible refine len_kids (fun _ => ?_)
                 | with_reducible refine at_known (by assumption) (by omega) ?_
                 | with_reducible refine at_kid (by omega) (by omega) (fun _ _ _ => ?_)
                 | with_reducible refine tail_kids (by omega) (by omega) ?_
                 | with_reducible refine slice_kids (by omega) (by omega) (by omega) ?_
                 | with_reducible refine ex_wrap (by omega) (by omega) ?_
                 | with_reducible refine quo_step (by decide) (by omega) (by omega) ?_
                 | with_reducible refine rem_step (by decide) ?_
                 | with_reducible refine nil_row (fun _ => ?_) ?_
                 | with_reducible refine nil_row2 (fun _ => ?_) ?_
                 | with_reducible refine len_toks (fun _ => ?_)
                 | with_reducible refine len_ints (fun _ => ?_)
                 | with_reducible refine tok_known (by assumption) (by omega) ?_
                 | with_reducible refine at_tok (by omega) (by omega) (fun _ _ => ?_)
                 | with_reducible refine at_int (by omega) (by omega) (fun _ _ => ?_)
                 | with_reducible refine slice_ints (by omega) (by omega) (by omega) ?_
                 | refine take_r hl1 hb1 (tells_r hq2 (fun st2 h2 => ?_))
                 | refine app_lit (l := [n1]) (x := leafT (nextM s1).1) (own := .full) trivial hn1 (fun own1 ho1 => ?_)
                 | with_reducible refine draw_head ?_)
      all_goals exact finl (Own.good_le ho1) rfl (h st2 (h1.trans (upd_look.trans h2)))
    · have hp : isF s1 15 [93] = false := by assumption
      have hl1 : Has (st1.setBox b (lookC s1)) b s1 := .inl (St.box_same ..)
      dsimp only at h
      rw [if_neg (by rw [hp]; decide)] at h
      have hn1 : [n1].length + 1 ≤ 1000000000 := by show 1 + 1 ≤ 1000000000; decide
      have hn2 : ∀ n2 : Nd, ([n1] ++ [n2]).length + 1 ≤ 1000000000 := fun _ => by simp only [List.length_append, List.length_singleton]; decide
      repeat' (conv => whnf
               first
                 | with_reducible exact quiet_same
                 | with_reducible exact quiet_bool
                 | with_reducible exact quiet_not
                 | with_reducible refine draw_step (by kernel_rfl) ?_
                 | with_reducible refine quiet_go ?_ ?_ ?_
                 | with_reducible refine bcase_yes (by first | assumption | omega) ?_
                 | with_reducible refine bcase_no (by first | assumption | omega) ?_
                 | with_reducible refine bcase_dyes (by omega) ?_
                 | with_reducible refine bcase_dno (by omega) ?_
                 | with_reducible refine bcase_len (by decide) (fun _ => ?_) (fun _ => ?_)
                 | with_reducible refine bcase_eq (fun _ => ?_) (fun _ => ?_)
                 | with_reducible refine bcase_dec (fun _ => ?_) (fun _ => ?_)
                 | with_reducible refine bcase_true ?_
                 | with_reducible refine bcase_false ?_
                 | with_reducible refine bcase_intro (fun _ => ?_) (fun _ => ?_)
                 | with_reducible refine len_kids (fun _ => ?_)
                 | with_reducible refine at_known (by assumption) (by omega) ?_
                 | with_reducible refine at_kid (by omega) (by omega) (fun _ _ _ => ?_)
                 | with_reducible refine tail_kids (by omega) (by omega) ?_
                 | with_reducible refine slice_kids (by omega) (by omega) (by omega) ?_
                 | with_reducible refine ex_wrap (by omega) (by omega) ?_
                 | with_reducible refine quo_step (by decide) (by omega) (by omega) ?_
                 | with_reducible refine rem_step (by decide) ?_
                 | with_reducible refine nil_row (fun _ => ?_) ?_
                 | with_reducible refine nil_row2 (fun _ => ?_) ?_
                 | with_reducible refine len_toks (fun _ => ?_)
                 | with_reducible refine len_ints (fun _ => ?_)
                 | with_reducible refine tok_known (by assumption) (by omega) ?_
                 | with_reducible refine at_tok (by omega) (by omega) (fun _ _ => ?_)
                 | with_reducible refine at_int (by omega) (by omega) (fun _ _ => ?_)
                 | with_reducible refine slice_ints (by omega) (by omega) (by omega) ?_
                 | refine into_e (by omega) hY h0 hB hm1 hl1 (tells_of (fun n2 s2 hq2 st2 h2 => ?_) (fun e2 s2 hq2 st2 h2 => ?_))
                 | refine app_lit (l := [n1]) (x := n2) (own := .full) trivial hn1 (fun own1 ho1 => ?_)
                 | refine want_r (h2.1.hw own1 _) (opn_le (Nat.le_trans (Nat.le_of_lt (hF _ _ _ hq2)) hm1)) (tells_own ho1 h2.1 (tellsO_of (fun n3 s3 hq3 st3 h3 hg3 => ?_) (fun e3 s3 hq3 st3 h3 hg3 => ?_)))
                 | refine app_node1 (l := [n1] ++ [n2]) (x := n3) hg3 (hn2 n2) (fun own2 ho2 => ?_)
                 | with_reducible refine draw_head ?_)
      all_goals rw [hq2] at h
      · unfold finP at h
        dsimp only at h
        rw [hq3] at h
        exact finl (Own.good_le ho2) rfl (h st3 (((h1.trans upd_look).trans h2).trans h3))
      · unfold finP at h
        dsimp only at h
        rw [hq3] at h
        exact finl (Own.good_le hg3) rfl (h st3 (((h1.trans upd_look).trans h2).trans h3))
      · exact fin (h st2 ((h1.trans upd_look).trans h2)) rfl
end
end Go.Proofs.Ytngbihfihdheoaa

/-
  TYPES: row, arrows, whole.
-/
set_option linter.unusedVariables false
set_option pp.maxSteps 400
namespace Go.Proofs.Ytngbihfihdheoaa
open Go Go.Aw

theorem app_m {l : List Nd} {x : Nd} {own : Own} {st : St} {K : V → St → Prop} (h : own.good st) (hb : l.length + 1 ≤ 1000000000)
    (k : ∀ own' : Own, own'.good st → K (.slice 6 ((l ++ [x]).map encN) own') (own'.st st ((l ++ [x]).length * 6))) : appendTo 6 72 (l.map encN) own [encN x] (own.st st (l.length * 6)) K := by
  rw [← encs_map]
  exact app_node1 h hb (by simpa only [encs_map] using k)
theorem fin_node {k : Int} {l : List Nd} {own : Own} : Res.ret (enc (nodeK k l)) = (Res.ret (.agg [.int .i64 k, .int .i64 0, .str [], .int .i64 0, .int .i64 0, .slice 6 (l.map encN) own])).wk := by
  rw [← encs_map]; rfl
theorem rowL_at {A : Sta → Rs} {l : List Nd} {s : Sta} {n : Nd} {s' : Sta} (h : startsF (nextM s).1 = true) (hA : A s = .inr (n, s')) (hm : mu s' < mu s) : rowL A l s = rowL A (l ++ [n]) s' := by
  rw [rowL, if_pos h, hA]
  dsimp only
  rw [if_pos hm]

section
variable {st : St} {R : Res → St → Prop}
attribute [local irreducible] Go.Aw.appendTo

theorem len_m {l : List Nd} {K : Nat → Prop} (k : l.length < 4611686018427387904 → K l.length) : ∀ m, m = (l.map encN).length → m < lim → K m := fun m hm h => by
  rw [List.length_map] at hm; subst hm; exact k h

theorem own_set {own : Own} {st : St} {n b : Nat} {cs : List V} : (own.st st n).setBox b cs = own.st (st.setBox b cs) n := by cases own <;> rfl
theorem peek_o {own : Own} {n b : Nat} {s : Sta} (hg : own.good st) (hs : Has st b s) (hb : s.opn.length ≤ 500000000) (h : R (.ret (encT (nextM s).1)) (own.st (st.setBox b (lookC s)) n)) : PC 51 [.ptr b 0] (own.st st n) R :=
  peek_c (hs.hw own n) hb (by rw [own_set]; exact h)
theorem good_set {own : Own} {b : Nat} {s : Sta} {cs : List V} (hg : own.good st) (hs : Has st b s) : own.good (st.setBox b cs) := by
  cases own with
  | any => exact hg
  | full => trivial
  | tok t =>
    have : b ≠ t := by
      rintro rfl
      have h2 : st.box b = none := hg.1
      rcases hs with k | ⟨_, _, _, _, _, k⟩ <;> (rw [h2] at k; cases k)
    exact ⟨by rw [St.box_ne this]; exact hg.1, hg.2⟩
theorem one_at {l : List Nd} {n1 : Nd} {K : List V → Prop} (h : l.length = Int.toNat 1) (j : l.length = 1 → l = [n1]) (k : K (encN n1)) : (0 : Int) ≤ 0 ∧ ∃ e, (l.map encN)[Int.toNat 0]? = some e ∧ K e :=
  ⟨Int.le_refl _, encN n1, by rw [j h]; rfl, k⟩

theorem row_c {d : Int} {A : Sta → Rs} (ha : Reads0 37 d A) (hF : Falls A) : Reads0 39 d (rowP A) := by
  intro s hm b st R hs h
  refine pcalls_of_body tys_ok [] Try.func39 rfl (by decide) ?_
  unfold rowP at h
  cases hq1 : A s with
  | inl q =>
    obtain ⟨e, s1⟩ := q
    rw [hq1] at h
    repeat' (conv => whnf
             first
               | with_reducible exact quiet_same
               | with_reducible exact quiet_bool
               | with_reducible exact quiet_not
               | with_reducible refine draw_step (by kernel_rfl) ?_
               | with_reducible refine quiet_go ?_ ?_ ?_
               | with_reducible refine bcase_yes (by first | assumption | omega) ?_
               | with_reducible refine bcase_no (by first | assumption | omega) ?_
               | with_reducible refine bcase_dyes (by omega) ?_
               | with_reducible refine bcase_dno (by omega) ?_
               | with_reducible refine bcase_len (by decide) (fun _ => ?_) (fun _ => ?_)
               | with_reducible refine bcase_eq (fun _ => ?_) (fun _ => ?_)
               | with_reducible refine bcase_dec (fun _ => ?_) (fun _ => ?_)
               | with_reducible refine bcase_true ?_
               | with_reducible refine bcase_false ?_
               | with_reducible refine bcase_intro (fun _ => ?_) (fun _ => ?_)
               | with_reducible refine len_kids (fun _ => ?_)
               | with_reducible refine at_known (by assumption) (by omega) ?_
               | with_reducible refine at_kid (by omega) (by omega) (fun _ _ _ => ?_)
               | with_reducible refine tail_kids (by omega) (by omega) ?_
               | with_reducible refine slice_kids (by omega) (by omega) (by omega) ?_
               | with_reducible refine ex_wrap (by omega) (by omega) ?_
               | with_reducible refine quo_step (by decide) (by omega) (by omega) ?_
               | with_reducible refine rem_step (by decide) ?_
               | with_reducible refine nil_row (fun _ => ?_) ?_
               | with_reducible refine nil_row2 (fun _ => ?_) ?_
               | with_reducible refine len_toks (fun _ => ?_)
               | with_reducible refine len_ints (fun _ => ?_)
               | with_reducible refine tok_known (by assumption) (by omega) ?_
               | with_reducible refine at_tok (by omega) (by omega) (fun _ _ => ?_)
               | with_reducible refine at_int (by omega) (by omega) (fun _ _ => ?_)
               | with_reducible refine slice_ints (by omega) (by omega) (by omega) ?_
               | refine ha s hm b _ _ hs (tells_l hq1 (fun st1 h1 => ?_))
               | with_reducible refine draw_head ?_)
    all_goals exact fin (h st1 h1) rfl
  | inr q =>
    obtain ⟨n1, s1⟩ := q
    rw [hq1] at h
    have hf1 := hF _ _ _ hq1
    dsimp only at h
    repeat' (conv => whnf
             first
               | with_reducible exact quiet_same
               | with_reducible exact quiet_bool
               | with_reducible exact quiet_not
               | with_reducible refine draw_step (by kernel_rfl) ?_
               | with_reducible refine quiet_go ?_ ?_ ?_
               | with_reducible refine bcase_yes (by first | assumption | omega) ?_
               | with_reducible refine bcase_no (by first | assumption | omega) ?_
               | with_reducible refine bcase_dyes (by omega) ?_
               | with_reducible refine bcase_dno (by omega) ?_
               | with_reducible refine bcase_len (by decide) (fun _ => ?_) (fun _ => ?_)
               | with_reducible refine bcase_eq (fun _ => ?_) (fun _ => ?_)
               | with_reducible refine bcase_dec (fun _ => ?_) (fun _ => ?_)
               | with_reducible refine bcase_true ?_
               | with_reducible refine bcase_false ?_
               | with_reducible refine bcase_intro (fun _ => ?_) (fun _ => ?_)
               | with_reducible refine len_kids (fun _ => ?_)
               | with_reducible refine at_known (by assumption) (by omega) ?_
               | with_reducible refine at_kid (by omega) (by omega) (fun _ _ _ => ?_)
               | with_reducible refine tail_kids (by omega) (by omega) ?_
               | with_reducible refine slice_kids (by omega) (by omega) (by omega) ?_
               | with_reducible refine ex_wrap (by omega) (by omega) ?_
               | with_reducible refine quo_step (by decide) (by omega) (by omega) ?_
               | with_reducible refine rem_step (by decide) ?_
               | with_reducible refine nil_row (fun _ => ?_) ?_
               | with_reducible refine nil_row2 (fun _ => ?_) ?_
               | with_reducible refine len_toks (fun _ => ?_)
               | with_reducible refine len_ints (fun _ => ?_)
               | with_reducible refine tok_known (by assumption) (by omega) ?_
               | with_reducible refine at_tok (by omega) (by omega) (fun _ _ => ?_)
               | with_reducible refine at_int (by omega) (by omega) (fun _ _ => ?_)
               | with_reducible refine slice_ints (by omega) (by omega) (by omega) ?_
               | refine ha s hm b _ _ hs (tells_r hq1 (fun st1 h1 => ?_))
               | with_reducible refine draw_head ?_)
    refine loop_h (α := List Nd × Sta × St × Own) (fun x => [(5, .slice 6 (x.1.map encN) x.2.2.2)]) [0, 1, 4] (fun x => []) [0] (fun x => x.2.2.2.st x.2.2.1 (x.1.length * 6))
      (fun x => x.2.2.2.good x.2.2.1 ∧ Upd st x.2.2.1 b x.2.1 ∧ x.1 ≠ [] ∧ x.1.length + mu x.2.1 ≤ 200000000 ∧ mu x.2.1 ≤ mu s1 ∧ rowL A x.1 x.2.1 = rowL A [n1] s1 ∧ (x.1.length = 1 → x.1 = [n1])) (fun x => mu x.2.1) ([n1], s1, st1, .full)
      ⟨trivial, h1, by simp, by show 1 + mu s1 ≤ _; omega, Nat.le_refl _, rfl, fun _ => rfl⟩ (by refine ⟨rfl, ?_, ?_, rfl⟩ <;> repeat' (first | exact trivial | exact rfl | refine And.intro ?_ ?_)) (St.le_refl _) ?_
    rintro ⟨l, s2, st2, own⟩ ⟨j1, j2, j3, j4, j5, j6, j7⟩
    dsimp only at j1 j2 j3 j4 j5 j6 j7
    have hm2 : mu s2 ≤ 100000000 := by omega
    have hb2 := opn_le hm2
    have hl3 : Has (st2.setBox b (lookC s2)) b s2 := .inl (St.box_same ..)
    have g3 : own.good (st2.setBox b (lookC s2)) := good_set j1 j2.1
    have u3 : Upd st (st2.setBox b (lookC s2)) b s2 := j2.trans upd_look
    have hn : l.length + 1 ≤ 1000000000 := by omega
    repeat' (conv => whnf
             first
               | with_reducible exact quiet_same
               | with_reducible exact quiet_bool
               | with_reducible exact quiet_not
               | with_reducible refine draw_step (by kernel_rfl) ?_
               | with_reducible refine quiet_go ?_ ?_ ?_
               | with_reducible refine bcase_yes (by first | assumption | omega) ?_
               | with_reducible refine bcase_no (by first | assumption | omega) ?_
               | with_reducible refine bcase_dyes (by omega) ?_
               | with_reducible refine bcase_dno (by omega) ?_
               | with_reducible refine bcase_len (by decide) (fun _ => ?_) (fun _ => ?_)
               | with_reducible refine bcase_eq (fun _ => ?_) (fun _ => ?_)
               | with_reducible refine bcase_dec (fun _ => ?_) (fun _ => ?_)
               | with_reducible refine bcase_true ?_
               | with_reducible refine bcase_false ?_
               | with_reducible refine bcase_intro (fun _ => ?_) (fun _ => ?_)
               | with_reducible refine len_kids (fun _ => ?_)
               | with_reducible refine at_known (by assumption) (by omega) ?_
               | with_reducible refine at_kid (by omega) (by omega) (fun _ _ _ => ?_)
               | with_reducible refine tail_kids (by omega) (by omega) ?_
               | with_reducible refine slice_kids (by omega) (by omega) (by omega) ?_
               | with_reducible refine ex_wrap (by omega) (by omega) ?_
               | with_reducible refine quo_step (by decide) (by omega) (by omega) ?_
               | with_reducible refine rem_step (by decide) ?_
               | with_reducible refine nil_row (fun _ => ?_) ?_
               | with_reducible refine nil_row2 (fun _ => ?_) ?_
               | with_reducible refine len_toks (fun _ => ?_)
               | with_reducible refine len_ints (fun _ => ?_)
               | with_reducible refine tok_known (by assumption) (by omega) ?_
               | with_reducible refine at_tok (by omega) (by omega) (fun _ _ => ?_)
               | with_reducible refine at_int (by omega) (by omega) (fun _ _ => ?_)
               | with_reducible refine slice_ints (by omega) (by omega) (by omega) ?_
               | refine peek_o j1 j2.1 hb2 ?_
               | refine starts_c ?_
               | refine ha s2 hm2 b _ _ (hl3.hw own _) (tells_own g3 hl3 (tellsO_of (fun n2 s4 hq2 st4 h4 g4 => ?_) (fun e2 s4 hq2 st4 h4 g4 => ?_)))
               | refine app_m (l := l) g4 hn (fun own' ho' => ?_)
               | refine len_m (fun _ => ?_)
               | refine one_at (by assumption) j7 ?_
               | with_reducible refine draw_head ?_)
    · have hd := hF _ _ _ hq2
      refine ⟨(l ++ [n2], s4, st4, own'), ⟨ho', u3.trans h4, by simp, by show (l ++ [n2]).length + mu s4 ≤ _; rw [List.length_append, List.length_singleton]; omega, by show mu s4 ≤ _; omega, ?_, ?_⟩, hd, (by refine ⟨rfl, ?_, ?_, rfl⟩ <;> repeat' (first | exact trivial | exact rfl | refine And.intro ?_ ?_)), St.le_refl _⟩
      · show rowL A (l ++ [n2]) s4 = _
        rw [← j6, rowL_at (l := l) (by assumption) hq2 hd]
      · intro e
        have := List.length_pos_iff.2 j3
        have e : (l ++ [n2]).length = 1 := e
        rw [List.length_append, List.length_singleton] at e
        omega
    · have hr : rowL A l s2 = .inl (e2, s4) := by rw [rowL, if_pos (by assumption), hq2]
      rw [← j6, hr] at h
      exact finl (Own.good_le g4) rfl (h st4 (u3.trans h4))
    · have hr : rowL A l s2 = .inr (l, s2) := by rw [rowL, if_neg (Bool.eq_false_iff.1 (by assumption))]
      rw [← j6, hr] at h
      dsimp only at h
      rw [if_pos (by assumption)] at h
      exact finl (Own.good_le g3) rfl (h _ u3)
    · have hr : rowL A l s2 = .inr (l, s2) := by rw [rowL, if_neg (Bool.eq_false_iff.1 (by assumption))]
      rw [← j6, hr] at h
      dsimp only at h
      rw [if_neg (by assumption)] at h
      exact finl (Own.good_le g3) fin_node (h _ u3)
end
end Go.Proofs.Ytngbihfihdheoaa

/-
  TYPES: arrows, whole.
-/
set_option linter.unusedVariables false
set_option pp.maxSteps 400
namespace Go.Proofs.Ytngbihfihdheoaa
open Go Go.Aw

theorem app_m2 {l : List Nd} {x y : Nd} {own : Own} {st : St} {K : V → St → Prop} (h : own.good st) (hb : l.length + 2 ≤ 1000000000)
    (k : ∀ own' : Own, own'.good st → K (.slice 6 ((l ++ [x, y]).map encN) own') (own'.st st ((l ++ [x, y]).length * 6))) : appendTo 6 72 (l.map encN) own [encN x, encN y] (own.st st (l.length * 6)) K := by
  rw [← encs_map]
  have := app_nodes (l := l) (new := [x, y]) h hb (by simpa only [encs_map] using k)
  rw [encs_map [x, y]] at this
  exact this
theorem arrL_at {A : Sta → Rs} {l : List Nd} {s : Sta} {n : Nd} {s' : Sta} (h : isF s 10 [45, 62] = true) (hA : rowP A (nextM s).2.1 = .inr (n, s')) (hm : mu s' < mu s) : arrL A l s = arrL A (l ++ [leafT (nextM s).1, n]) s' := by
  rw [arrL, if_pos h, hA]
  dsimp only
  rw [if_pos hm]
theorem take_is {s : Sta} {k : Int} {x : List UInt8} (h : isF s k x = true) (hk : k ≠ 0) : takeP s = .inr (leafT (nextM s).1, (nextM s).2.1) := by unfold takeP; rw [if_pos (isF_ok h hk)]

section
variable {st : St} {R : Res → St → Prop}
attribute [local irreducible] Go.Aw.appendTo
theorem is_o {own : Own} {n b : Nat} {s : Sta} {k : Int} {x : List UInt8} (hs : Has st b s) (hb : s.opn.length ≤ 500000000) (h : R (.ret (.bool (isF s k x))) (own.st (st.setBox b (lookC s)) n)) : PC 48 [.ptr b 0, .int .i64 k, .str x] (own.st st n) R :=
  is_c (hs.hw own n) hb (by rw [own_set]; exact h)
theorem tells_ro {own : Own} {n : Nat} {st : St} {b : Nat} {s s' : Sta} {R : Res → St → Prop} {q : Rs} {x : Nd} (hg : own.good st) (hh : Has st b s) (e : q = .inr (x, s')) (h : ∀ st', Upd st st' b s' → own.good st' → R (.ret (enc x)) (own.st st' n)) : Tells (own.st st n) b R q :=
  tells_own hg hh (by subst e; exact h)

def ReadsN (f : FuncId) (d : Int) (A : Nd → Sta → Rs) : Prop := ∀ n s, mu s ≤ 100000000 → ∀ (b : Nat) (st : St) (R : Res → St → Prop), Has st b s → Tells st b R (A n s) → PC f [.ptr b 0, enc n, .int .i64 d] st R
theorem arrows_c {d : Int} {A : Sta → Rs} (hr : Reads0 39 d (rowP A)) (hF : Falls A) : ReadsN 45 d (arrowsP A) := by
  intro n1 s1 hm b st R hs h
  refine pcalls_of_body tys_ok [] Try.func45 rfl (by decide) ?_
  unfold arrowsP at h
  repeat' (conv => whnf
           first
             | with_reducible exact quiet_same
             | with_reducible exact quiet_bool
             | with_reducible exact quiet_not
             | with_reducible refine draw_step (by kernel_rfl) ?_
             | with_reducible refine quiet_go ?_ ?_ ?_
             | with_reducible refine bcase_yes (by first | assumption | omega) ?_
             | with_reducible refine bcase_no (by first | assumption | omega) ?_
             | with_reducible refine bcase_dyes (by omega) ?_
             | with_reducible refine bcase_dno (by omega) ?_
             | with_reducible refine bcase_len (by decide) (fun _ => ?_) (fun _ => ?_)
             | with_reducible refine bcase_eq (fun _ => ?_) (fun _ => ?_)
             | with_reducible refine bcase_dec (fun _ => ?_) (fun _ => ?_)
             | with_reducible refine bcase_true ?_
             | with_reducible refine bcase_false ?_
             | with_reducible refine bcase_intro (fun _ => ?_) (fun _ => ?_)
             | with_reducible refine len_kids (fun _ => ?_)
             | with_reducible refine at_known (by assumption) (by omega) ?_
             | with_reducible refine at_kid (by omega) (by omega) (fun _ _ _ => ?_)
             | with_reducible refine tail_kids (by omega) (by omega) ?_
             | with_reducible refine slice_kids (by omega) (by omega) (by omega) ?_
             | with_reducible refine ex_wrap (by omega) (by omega) ?_
             | with_reducible refine quo_step (by decide) (by omega) (by omega) ?_
             | with_reducible refine rem_step (by decide) ?_
             | with_reducible refine nil_row (fun _ => ?_) ?_
             | with_reducible refine nil_row2 (fun _ => ?_) ?_
             | with_reducible refine len_toks (fun _ => ?_)
             | with_reducible refine len_ints (fun _ => ?_)
             | with_reducible refine tok_known (by assumption) (by omega) ?_
             | with_reducible refine at_tok (by omega) (by omega) (fun _ _ => ?_)
             | with_reducible refine at_int (by omega) (by omega) (fun _ _ => ?_)
             | with_reducible refine slice_ints (by omega) (by omega) (by omega) ?_
             | with_reducible refine draw_head ?_)
  refine loop_h (α := List Nd × Sta × St × Own) (fun x => [(7, .slice 6 (x.1.map encN) x.2.2.2)]) [0, 2, 4, 6] (fun x => []) [0, 1] (fun x => x.2.2.2.st x.2.2.1 (x.1.length * 6))
      (fun x => x.2.2.2.good x.2.2.1 ∧ Has x.2.2.1 b x.2.1 ∧ (∃ s0, Upd st x.2.2.1 b s0 ∨ x.2.2.1 = st) ∧ x.1 ≠ [] ∧ x.1.length + 2 * mu x.2.1 ≤ 400000000 ∧ mu x.2.1 ≤ mu s1 ∧ arrL A x.1 x.2.1 = arrL A [n1] s1) (fun x => mu x.2.1) ([n1], s1, st, .full)
      ⟨trivial, hs, ⟨s1, .inr rfl⟩, by simp, by show 1 + 2 * mu s1 ≤ _; omega, Nat.le_refl _, rfl⟩ (by refine ⟨rfl, ?_, ?_, rfl⟩ <;> repeat' (first | exact trivial | exact rfl | refine And.intro ?_ ?_)) (St.le_refl _) ?_
  rintro ⟨l, s2, st2, own⟩ ⟨j1, j2, j3, j4, j5, j6, j7⟩
  dsimp only at j1 j2 j3 j4 j5 j6 j7
  have hm2 : mu s2 ≤ 100000000 := by omega
  have hb2 := opn_le hm2
  have hl3 : Has (st2.setBox b (lookC s2)) b s2 := .inl (St.box_same ..)
  have g3 : own.good (st2.setBox b (lookC s2)) := good_set j1 j2
  have up : ∀ {st4 s4}, Upd st2 st4 b s4 → Upd st st4 b s4 := fun {st4 s4} hu => by
    obtain ⟨s0, h3 | h3⟩ := j3
    · exact h3.trans hu
    · subst h3; exact hu
  have hn : l.length + 2 ≤ 1000000000 := by omega
  have hm4 : isF s2 10 [45, 62] = true → mu (nextM s2).2.1 ≤ 100000000 := fun e => by have := isF_mu e (by decide) (by decide); omega
  repeat' (conv => whnf
           first
             | with_reducible exact quiet_same
             | with_reducible exact quiet_bool
             | with_reducible exact quiet_not
             | with_reducible refine draw_step (by kernel_rfl) ?_
             | with_reducible refine quiet_go ?_ ?_ ?_
             | with_reducible refine bcase_yes (by first | assumption | omega) ?_
             | with_reducible refine bcase_no (by first | assumption | omega) ?_
             | with_reducible refine bcase_dyes (by omega) ?_
             | with_reducible refine bcase_dno (by omega) ?_
             | with_reducible refine bcase_len (by decide) (fun _ => ?_) (fun _ => ?_)
             | with_reducible refine bcase_eq (fun _ => ?_) (fun _ => ?_)
             | with_reducible refine bcase_dec (fun _ => ?_) (fun _ => ?_)
             | with_reducible refine bcase_true ?_
             | with_reducible refine bcase_false ?_
             | with_reducible refine bcase_intro (fun _ => ?_) (fun _ => ?_)
             | with_reducible refine len_kids (fun _ => ?_)
             | with_reducible refine at_known (by assumption) (by omega) ?_
             | with_reducible refine at_kid (by omega) (by omega) (fun _ _ _ => ?_)
             | with_reducible refine tail_kids (by omega) (by omega) ?_
             | with_reducible refine slice_kids (by omega) (by omega) (by omega) ?_
             | with_reducible refine ex_wrap (by omega) (by omega) ?_
             | with_reducible refine quo_step (by decide) (by omega) (by omega) ?_
             | with_reducible refine rem_step (by decide) ?_
             | with_reducible refine nil_row (fun _ => ?_) ?_
             | with_reducible refine nil_row2 (fun _ => ?_) ?_
             | with_reducible refine len_toks (fun _ => ?_)
             | with_reducible refine len_ints (fun _ => ?_)
             | with_reducible refine tok_known (by assumption) (by omega) ?_
             | with_reducible refine at_tok (by omega) (by omega) (fun _ _ => ?_)
             | with_reducible refine at_int (by omega) (by omega) (fun _ _ => ?_)
             | with_reducible refine slice_ints (by omega) (by omega) (by omega) ?_
             | refine is_o j2 hb2 ?_
             | refine take_r (hl3.hw own _) hb2 (tells_ro g3 hl3 (take_is (by assumption) (by decide)) (fun st4 h4 g4 => ?_))
             | refine hr _ (hm4 (by assumption)) b _ _ (h4.1.hw own _) (tells_own g4 h4.1 (tellsO_of (fun n2 s5 hq2 st5 h5 g5 => ?_) (fun e2 s5 hq2 st5 h5 g5 => ?_)))
             | refine app_m2 (l := l) (x := leafT (nextM s2).1) (y := n2) g5 hn (fun own' ho' => ?_)
             | refine len_m (fun _ => ?_)
             | with_reducible refine draw_head ?_)
  · have hp : isF s2 10 [45, 62] = true := by assumption
    have hd := falls_row hF _ _ _ hq2
    have hd2 := isF_mu hp (by decide) (by decide)
    have hd3 : mu s5 < mu s2 := by omega
    have hu := (upd_look (st := st2) (b := b) (s := s2)).trans (h4.trans h5)
    refine ⟨(l ++ [leafT (nextM s2).1, n2], s5, st5, own'), ⟨ho', h5.1, ⟨s5, .inl (up hu)⟩, by simp, ?_, by show mu s5 ≤ _; omega, ?_⟩, hd3, (by refine ⟨rfl, ?_, ?_, rfl⟩ <;> repeat' (first | exact trivial | exact rfl | refine And.intro ?_ ?_)), St.le_refl _⟩
    · show (l ++ [leafT (nextM s2).1, n2]).length + 2 * mu s5 ≤ _
      rw [List.length_append]
      show l.length + 2 + 2 * mu s5 ≤ _
      omega
    · show arrL A (l ++ [leafT (nextM s2).1, n2]) s5 = _
      rw [← j7, arrL_at (l := l) hp hq2 hd3]
  · have hp : isF s2 10 [45, 62] = true := by assumption
    have hu := (upd_look (st := st2) (b := b) (s := s2)).trans (h4.trans h5)
    have hr : arrL A l s2 = .inl (e2, s5) := by rw [arrL, if_pos hp, hq2]
    rw [← j7, hr] at h
    exact finl (Own.good_le g5) rfl (h st5 (up hu))
  · have hr : arrL A l s2 = .inr (l, s2) := by rw [arrL, if_neg (Bool.eq_false_iff.1 (by assumption))]
    rw [← j7, hr] at h
    dsimp only at h
    rw [if_pos (by assumption)] at h
    exact finl (Own.good_le g3) rfl (h _ (up upd_look))
  · have hr : arrL A l s2 = .inr (l, s2) := by rw [arrL, if_neg (Bool.eq_false_iff.1 (by assumption))]
    rw [← j7, hr] at h
    dsimp only at h
    rw [if_neg (by assumption)] at h
    exact finl (Own.good_le g3) fin_node (h _ (up upd_look))

theorem whole_c {d : Int} {A : Sta → Rs} (hr : Reads0 39 d (rowP A)) (ha : ReadsN 45 d (arrowsP A)) (hF : Falls A) : Reads0 28 d (wholeP A) := by
  intro s hm b st R hs h
  refine pcalls_of_body tys_ok [] Try.func28 rfl (by decide) ?_
  unfold wholeP at h
  have hm1 : ∀ {n1 s1}, rowP A s = .inr (n1, s1) → mu s1 ≤ 100000000 := fun e => by have := falls_row hF _ _ _ e; omega
  repeat' (conv => whnf
           first
             | with_reducible exact quiet_same
             | with_reducible exact quiet_bool
             | with_reducible exact quiet_not
             | with_reducible refine draw_step (by kernel_rfl) ?_
             | with_reducible refine quiet_go ?_ ?_ ?_
             | with_reducible refine bcase_yes (by first | assumption | omega) ?_
             | with_reducible refine bcase_no (by first | assumption | omega) ?_
             | with_reducible refine bcase_dyes (by omega) ?_
             | with_reducible refine bcase_dno (by omega) ?_
             | with_reducible refine bcase_len (by decide) (fun _ => ?_) (fun _ => ?_)
             | with_reducible refine bcase_eq (fun _ => ?_) (fun _ => ?_)
             | with_reducible refine bcase_dec (fun _ => ?_) (fun _ => ?_)
             | with_reducible refine bcase_true ?_
             | with_reducible refine bcase_false ?_
             | with_reducible refine bcase_intro (fun _ => ?_) (fun _ => ?_)
             | with_reducible refine len_kids (fun _ => ?_)
             | with_reducible refine at_known (by assumption) (by omega) ?_
             | with_reducible refine at_kid (by omega) (by omega) (fun _ _ _ => ?_)
             | with_reducible refine tail_kids (by omega) (by omega) ?_
             | with_reducible refine slice_kids (by omega) (by omega) (by omega) ?_
             | with_reducible refine ex_wrap (by omega) (by omega) ?_
             | with_reducible refine quo_step (by decide) (by omega) (by omega) ?_
             | with_reducible refine rem_step (by decide) ?_
             | with_reducible refine nil_row (fun _ => ?_) ?_
             | with_reducible refine nil_row2 (fun _ => ?_) ?_
             | with_reducible refine len_toks (fun _ => ?_)
             | with_reducible refine len_ints (fun _ => ?_)
             | with_reducible refine tok_known (by assumption) (by omega) ?_
             | with_reducible refine at_tok (by omega) (by omega) (fun _ _ => ?_)
             | with_reducible refine at_int (by omega) (by omega) (fun _ _ => ?_)
             | with_reducible refine slice_ints (by omega) (by omega) (by omega) ?_
             | refine hr s hm b _ _ hs (tells_of (fun n1 s1 hq1 st1 h1 => ?_) (fun e1 s1 hq1 st1 h1 => ?_))
             | refine ha n1 s1 (hm1 hq1) b _ _ h1.1 (tells_of (fun n2 s2 hq2 st2 h2 => ?_) (fun e2 s2 hq2 st2 h2 => ?_))
             | with_reducible refine draw_head ?_)
  all_goals rw [hq1] at h
  all_goals dsimp only at h
  · rw [hq2] at h; exact finw rfl (h st2 (h1.trans h2))
  · rw [hq2] at h; exact fin (h st2 (h1.trans h2)) rfl
  · exact fin (h st1 h1) rfl
end
end Go.Proofs.Ytngbihfihdheoaa

/-
  TYPES: the document's Commas0, clean, Limit.
-/
set_option linter.unusedVariables false
set_option pp.maxSteps 400
namespace Go.Proofs.Ytngbihfihdheoaa
open Go Go.Aw
theorem fin_nodeQ {k : Int} {l : List Nd} {own : Own} {s : Sta} {e : Int} : Res.ret (encQ (nodeK k l) s e) = (Res.ret (.agg [.int .i64 k, .int .i64 0, .str [], .int .i64 0, .int .i64 0, .slice 6 (l.map encN) own,
    .slice 4 (encTs s.toks) .any, .int .i64 s.pos, .slice 1 (ints s.opn) .any, .int .i64 s.wait, .int .i64 e])).wk := by rw [← encs_map]; rfl
section
variable {st : St} {R : Res → St → Prop}
attribute [local irreducible] Go.Aw.appendTo
theorem rwant_e {s : Sta} {k : Int} {x : List UInt8} {q : Rs} (e : wantP s k x = q) (hk : k ≠ 0) (hb : s.opn.length ≤ 500000000) (h : R (.ret (encRs q)) st) : PC 58 [encS s, .int .i64 k, .str x] st R := rwant_c hk hb (by rw [e]; exact h)
theorem commas0_c {l : List Nd} {own : Own} {s : Sta} (ho : own.good st) (hn : l.length + 1 ≤ 1000000000) (hb : s.opn.length ≤ 500000000) (h : R (.ret (encRs (finP 3 l s [41]))) st) :
    PC 76 [.slice 6 (l.map encN) own, encS s] (own.st st (l.length * 6)) R := by
  refine pcalls_of_body tys_ok [] Try.func76 rfl (by decide) ?_
  unfold finP at h
  cases hq : wantP s 15 [41] with
  | inl p =>
    obtain ⟨e, s'⟩ := p
    rw [hq] at h
    have hne : ¬ e = 0 := bads_want _ _ _ hq
    repeat' (conv => whnf
             first
               | with_reducible exact quiet_same
               | with_reducible exact quiet_bool
               | with_reducible exact quiet_not
               | with_reducible refine draw_step (by kernel_rfl) ?_
               | with_reducible refine quiet_go ?_ ?_ ?_
               | with_reducible refine bcase_yes (by first | assumption | omega) ?_
               | with_reducible refine bcase_no (by first | assumption | omega) ?_
               | with_reducible refine bcase_dyes (by omega) ?_
               | with_reducible refine bcase_dno (by omega) ?_
               | with_reducible refine bcase_len (by decide) (fun _ => ?_) (fun _ => ?_)
               | with_reducible refine bcase_eq (fun _ => ?_) (fun _ => ?_)
               | with_reducible refine bcase_dec (fun _ => ?_) (fun _ => ?_)
               | with_reducible refine bcase_true ?_
               | with_reducible refine bcase_false ?_
               | with_reducible refine bcase_intro (fun _ => ?_) (fun _ => ?_)
               | with_reducible refine len_kids (fun _ => ?_)
               | with_reducible refine at_known (by assumption) (by omega) ?_
               | with_reducible refine at_kid (by omega) (by omega) (fun _ _ _ => ?_)
               | with_reducible refine tail_kids (by omega) (by omega) ?_
               | with_reducible refine slice_kids (by omega) (by omega) (by omega) ?_
               | with_reducible refine ex_wrap (by omega) (by omega) ?_
               | with_reducible refine quo_step (by decide) (by omega) (by omega) ?_
               | with_reducible refine rem_step (by decide) ?_
               | with_reducible refine nil_row (fun _ => ?_) ?_
               | with_reducible refine nil_row2 (fun _ => ?_) ?_
               | with_reducible refine len_toks (fun _ => ?_)
               | with_reducible refine len_ints (fun _ => ?_)
               | with_reducible refine tok_known (by assumption) (by omega) ?_
               | with_reducible refine at_tok (by omega) (by omega) (fun _ _ => ?_)
               | with_reducible refine at_int (by omega) (by omega) (fun _ _ => ?_)
               | with_reducible refine slice_ints (by omega) (by omega) (by omega) ?_
               | refine rwant_e hq (by decide) hb ?_
               | with_reducible refine draw_head ?_)
    all_goals exact finl (Own.good_le ho) rfl h
  | inr p =>
    obtain ⟨n, s'⟩ := p
    rw [hq] at h
    repeat' (conv => whnf
             first
               | with_reducible exact quiet_same
               | with_reducible exact quiet_bool
               | with_reducible exact quiet_not
               | with_reducible refine draw_step (by kernel_rfl) ?_
               | with_reducible refine quiet_go ?_ ?_ ?_
               | with_reducible refine bcase_yes (by first | assumption | omega) ?_
               | with_reducible refine bcase_no (by first | assumption | omega) ?_
               | with_reducible refine bcase_dyes (by omega) ?_
               | with_reducible refine bcase_dno (by omega) ?_
               | with_reducible refine bcase_len (by decide) (fun _ => ?_) (fun _ => ?_)
               | with_reducible refine bcase_eq (fun _ => ?_) (fun _ => ?_)
               | with_reducible refine bcase_dec (fun _ => ?_) (fun _ => ?_)
               | with_reducible refine bcase_true ?_
               | with_reducible refine bcase_false ?_
               | with_reducible refine bcase_intro (fun _ => ?_) (fun _ => ?_)
               | with_reducible refine len_kids (fun _ => ?_)
               | with_reducible refine at_known (by assumption) (by omega) ?_
               | with_reducible refine at_kid (by omega) (by omega) (fun _ _ _ => ?_)
               | with_reducible refine tail_kids (by omega) (by omega) ?_
               | with_reducible refine slice_kids (by omega) (by omega) (by omega) ?_
               | with_reducible refine ex_wrap (by omega) (by omega) ?_
               | with_reducible refine quo_step (by decide) (by omega) (by omega) ?_
               | with_reducible refine rem_step (by decide) ?_
               | with_reducible refine nil_row (fun _ => ?_) ?_
               | with_reducible refine nil_row2 (fun _ => ?_) ?_
               | with_reducible refine len_toks (fun _ => ?_)
               | with_reducible refine len_ints (fun _ => ?_)
               | with_reducible refine tok_known (by assumption) (by omega) ?_
               | with_reducible refine at_tok (by omega) (by omega) (fun _ _ => ?_)
               | with_reducible refine at_int (by omega) (by omega) (fun _ _ => ?_)
               | with_reducible refine slice_ints (by omega) (by omega) (by omega) ?_
               | refine rwant_e hq (by decide) hb ?_
               | refine app_m (l := l) (x := n) ho hn (fun own' ho' => ?_)
               | with_reducible refine draw_head ?_)
    all_goals exact finl (Own.good_le ho') fin_nodeQ h

theorem clean_ok {n : Nd} {s : Sta} (h : R (.ret (encQ n s 0)) st) : PC 30 [encQ n s 0] st R := by
  refine pcalls_of_body tys_ok [] Try.func30 rfl (by decide) ?_
  repeat' (conv => whnf
           first
             | with_reducible exact quiet_same
             | with_reducible exact quiet_bool
             | with_reducible exact quiet_not
             | with_reducible refine draw_step (by kernel_rfl) ?_
             | with_reducible refine quiet_go ?_ ?_ ?_
             | with_reducible refine bcase_yes (by first | assumption | omega) ?_
             | with_reducible refine bcase_no (by first | assumption | omega) ?_
             | with_reducible refine bcase_dyes (by omega) ?_
             | with_reducible refine bcase_dno (by omega) ?_
             | with_reducible refine bcase_len (by decide) (fun _ => ?_) (fun _ => ?_)
             | with_reducible refine bcase_eq (fun _ => ?_) (fun _ => ?_)
             | with_reducible refine bcase_dec (fun _ => ?_) (fun _ => ?_)
             | with_reducible refine bcase_true ?_
             | with_reducible refine bcase_false ?_
             | with_reducible refine bcase_intro (fun _ => ?_) (fun _ => ?_)
             | with_reducible refine len_kids (fun _ => ?_)
             | with_reducible refine at_known (by assumption) (by omega) ?_
             | with_reducible refine at_kid (by omega) (by omega) (fun _ _ _ => ?_)
             | with_reducible refine tail_kids (by omega) (by omega) ?_
             | with_reducible refine slice_kids (by omega) (by omega) (by omega) ?_
             | with_reducible refine ex_wrap (by omega) (by omega) ?_
             | with_reducible refine quo_step (by decide) (by omega) (by omega) ?_
             | with_reducible refine rem_step (by decide) ?_
             | with_reducible refine nil_row (fun _ => ?_) ?_
             | with_reducible refine nil_row2 (fun _ => ?_) ?_
             | with_reducible refine len_toks (fun _ => ?_)
             | with_reducible refine len_ints (fun _ => ?_)
             | with_reducible refine tok_known (by assumption) (by omega) ?_
             | with_reducible refine at_tok (by omega) (by omega) (fun _ _ => ?_)
             | with_reducible refine at_int (by omega) (by omega) (fun _ _ => ?_)
             | with_reducible refine slice_ints (by omega) (by omega) (by omega) ?_
             | with_reducible refine draw_head ?_)
  all_goals exact finw rfl h
theorem clean_bad {n : Nd} {s : Sta} {e : Int} (he : ¬ e = 0) (h : R (.ret (encQ nd0 s e)) st) : PC 30 [encQ n s e] st R := by
  refine pcalls_of_body tys_ok [] Try.func30 rfl (by decide) ?_
  repeat' (conv => whnf
           first
             | with_reducible exact quiet_same
             | with_reducible exact quiet_bool
             | with_reducible exact quiet_not
             | with_reducible refine draw_step (by kernel_rfl) ?_
             | with_reducible refine quiet_go ?_ ?_ ?_
             | with_reducible refine bcase_yes (by first | assumption | omega) ?_
             | with_reducible refine bcase_no (by first | assumption | omega) ?_
             | with_reducible refine bcase_dyes (by omega) ?_
             | with_reducible refine bcase_dno (by omega) ?_
             | with_reducible refine bcase_len (by decide) (fun _ => ?_) (fun _ => ?_)
             | with_reducible refine bcase_eq (fun _ => ?_) (fun _ => ?_)
             | with_reducible refine bcase_dec (fun _ => ?_) (fun _ => ?_)
             | with_reducible refine bcase_true ?_
             | with_reducible refine bcase_false ?_
             | with_reducible refine bcase_intro (fun _ => ?_) (fun _ => ?_)
             | with_reducible refine len_kids (fun _ => ?_)
             | with_reducible refine at_known (by assumption) (by omega) ?_
             | with_reducible refine at_kid (by omega) (by omega) (fun _ _ _ => ?_)
             | with_reducible refine tail_kids (by omega) (by omega) ?_
             | with_reducible refine slice_kids (by omega) (by omega) (by omega) ?_
             | with_reducible refine ex_wrap (by omega) (by omega) ?_
             | with_reducible refine quo_step (by decide) (by omega) (by omega) ?_
             | with_reducible refine rem_step (by decide) ?_
             | with_reducible refine nil_row (fun _ => ?_) ?_
             | with_reducible refine nil_row2 (fun _ => ?_) ?_
             | with_reducible refine len_toks (fun _ => ?_)
             | with_reducible refine len_ints (fun _ => ?_)
             | with_reducible refine tok_known (by assumption) (by omega) ?_
             | with_reducible refine at_tok (by omega) (by omega) (fun _ _ => ?_)
             | with_reducible refine at_int (by omega) (by omega) (fun _ _ => ?_)
             | with_reducible refine slice_ints (by omega) (by omega) (by omega) ?_
             | with_reducible refine draw_head ?_)
  all_goals exact finw rfl h
theorem limit_c {d : Int} (h0 : ¬ d < 1) (h : R (.ret (.int .i64 (if 100 < d then 100 else d))) st) : PC 33 [.int .i64 d] st R := by
  refine pcalls_of_body tys_ok [] Try.func33 rfl (by decide) ?_
  have e : (if (0 : Int) < (if 100 < d then 100 else d) then (if 100 < d then 100 else d) else 0) = (if 100 < d then 100 else d) := by split <;> split <;> omega
  rw [← e] at h
  clear e
  repeat' (conv => whnf
           first
             | with_reducible exact quiet_same
             | with_reducible exact quiet_bool
             | with_reducible exact quiet_not
             | with_reducible refine draw_step (by kernel_rfl) ?_
             | with_reducible refine quiet_go ?_ ?_ ?_
             | with_reducible refine bcase_yes (by first | assumption | omega) ?_
             | with_reducible refine bcase_no (by first | assumption | omega) ?_
             | with_reducible refine bcase_dyes (by omega) ?_
             | with_reducible refine bcase_dno (by omega) ?_
             | with_reducible refine bcase_len (by decide) (fun _ => ?_) (fun _ => ?_)
             | with_reducible refine bcase_eq (fun _ => ?_) (fun _ => ?_)
             | with_reducible refine bcase_dec (fun _ => ?_) (fun _ => ?_)
             | with_reducible refine bcase_true ?_
             | with_reducible refine bcase_false ?_
             | with_reducible refine bcase_intro (fun _ => ?_) (fun _ => ?_)
             | with_reducible refine len_kids (fun _ => ?_)
             | with_reducible refine at_known (by assumption) (by omega) ?_
             | with_reducible refine at_kid (by omega) (by omega) (fun _ _ _ => ?_)
             | with_reducible refine tail_kids (by omega) (by omega) ?_
             | with_reducible refine slice_kids (by omega) (by omega) (by omega) ?_
             | with_reducible refine ex_wrap (by omega) (by omega) ?_
             | with_reducible refine quo_step (by decide) (by omega) (by omega) ?_
             | with_reducible refine rem_step (by decide) ?_
             | with_reducible refine nil_row (fun _ => ?_) ?_
             | with_reducible refine nil_row2 (fun _ => ?_) ?_
             | with_reducible refine len_toks (fun _ => ?_)
             | with_reducible refine len_ints (fun _ => ?_)
             | with_reducible refine tok_known (by assumption) (by omega) ?_
             | with_reducible refine at_tok (by omega) (by omega) (fun _ _ => ?_)
             | with_reducible refine at_int (by omega) (by omega) (fun _ _ => ?_)
             | with_reducible refine slice_ints (by omega) (by omega) (by omega) ?_
             | refine ⟨_, rfl, ?_⟩
             | with_reducible refine draw_head ?_)
  all_goals exact fin h rfl
end
end Go.Proofs.Ytngbihfihdheoaa

/-
  TYPES: the exported ones; types, round.
-/
set_option linter.unusedVariables false
set_option pp.maxSteps 400
namespace Go.Proofs.Ytngbihfihdheoaa
open Go Go.Aw

section
variable {st : St} {R : Res → St → Prop}
attribute [local irreducible] Go.Aw.appendTo

theorem type_c {deep : Int} {A : Sta → Rs} (h1 : ¬ deep < 1 → Reads0 28 (if 100 < deep then 100 else deep) A) : Calls3 11 deep A := by
  intro s hm st R h
  refine pcalls_of_body tys_ok [] Try.func11 rfl (by decide) ?_
  repeat' (conv => whnf
           first
             | with_reducible exact quiet_same
             | with_reducible exact quiet_bool
             | with_reducible exact quiet_not
             | with_reducible refine draw_step (by kernel_rfl) ?_
             | with_reducible refine quiet_go ?_ ?_ ?_
             | with_reducible refine bcase_yes (by first | assumption | omega) ?_
             | with_reducible refine bcase_no (by first | assumption | omega) ?_
             | with_reducible refine bcase_dyes (by omega) ?_
             | with_reducible refine bcase_dno (by omega) ?_
             | with_reducible refine bcase_len (by decide) (fun _ => ?_) (fun _ => ?_)
             | with_reducible refine bcase_eq (fun _ => ?_) (fun _ => ?_)
             | with_reducible refine bcase_dec (fun _ => ?_) (fun _ => ?_)
             | with_reducible refine bcase_true ?_
             | with_reducible refine bcase_false ?_
             | with_reducible refine bcase_intro (fun _ => ?_) (fun _ => ?_)
             | with_reducible refine len_kids (fun _ => ?_)
             | with_reducible refine at_known (by assumption) (by omega) ?_
             | with_reducible refine at_kid (by omega) (by omega) (fun _ _ _ => ?_)
             | with_reducible refine tail_kids (by omega) (by omega) ?_
             | with_reducible refine slice_kids (by omega) (by omega) (by omega) ?_
             | with_reducible refine ex_wrap (by omega) (by omega) ?_
             | with_reducible refine quo_step (by decide) (by omega) (by omega) ?_
             | with_reducible refine rem_step (by decide) ?_
             | with_reducible refine nil_row (fun _ => ?_) ?_
             | with_reducible refine nil_row2 (fun _ => ?_) ?_
             | with_reducible refine len_toks (fun _ => ?_)
             | with_reducible refine len_ints (fun _ => ?_)
             | with_reducible refine tok_known (by assumption) (by omega) ?_
             | with_reducible refine at_tok (by omega) (by omega) (fun _ _ => ?_)
             | with_reducible refine at_int (by omega) (by omega) (fun _ _ => ?_)
             | with_reducible refine slice_ints (by omega) (by omega) (by omega) ?_
             | refine catch_c (s := s) (q := A s) (fun hd => h1 hd s hm) ?_
             | with_reducible refine draw_head ?_)
  all_goals exact finw rfl h
theorem atomX_c {deep : Int} {A : Sta → Rs} (h1 : ¬ deep < 1 → Reads0 37 (if 100 < deep then 100 else deep) A) : Calls3 18 deep A := by
  intro s hm st R h
  refine pcalls_of_body tys_ok [] Try.func18 rfl (by decide) ?_
  repeat' (conv => whnf
           first
             | with_reducible exact quiet_same
             | with_reducible exact quiet_bool
             | with_reducible exact quiet_not
             | with_reducible refine draw_step (by kernel_rfl) ?_
             | with_reducible refine quiet_go ?_ ?_ ?_
             | with_reducible refine bcase_yes (by first | assumption | omega) ?_
             | with_reducible refine bcase_no (by first | assumption | omega) ?_
             | with_reducible refine bcase_dyes (by omega) ?_
             | with_reducible refine bcase_dno (by omega) ?_
             | with_reducible refine bcase_len (by decide) (fun _ => ?_) (fun _ => ?_)
             | with_reducible refine bcase_eq (fun _ => ?_) (fun _ => ?_)
             | with_reducible refine bcase_dec (fun _ => ?_) (fun _ => ?_)
             | with_reducible refine bcase_true ?_
             | with_reducible refine bcase_false ?_
             | with_reducible refine bcase_intro (fun _ => ?_) (fun _ => ?_)
             | with_reducible refine len_kids (fun _ => ?_)
             | with_reducible refine at_known (by assumption) (by omega) ?_
             | with_reducible refine at_kid (by omega) (by omega) (fun _ _ _ => ?_)
             | with_reducible refine tail_kids (by omega) (by omega) ?_
             | with_reducible refine slice_kids (by omega) (by omega) (by omega) ?_
             | with_reducible refine ex_wrap (by omega) (by omega) ?_
             | with_reducible refine quo_step (by decide) (by omega) (by omega) ?_
             | with_reducible refine rem_step (by decide) ?_
             | with_reducible refine nil_row (fun _ => ?_) ?_
             | with_reducible refine nil_row2 (fun _ => ?_) ?_
             | with_reducible refine len_toks (fun _ => ?_)
             | with_reducible refine len_ints (fun _ => ?_)
             | with_reducible refine tok_known (by assumption) (by omega) ?_
             | with_reducible refine at_tok (by omega) (by omega) (fun _ _ => ?_)
             | with_reducible refine at_int (by omega) (by omega) (fun _ _ => ?_)
             | with_reducible refine slice_ints (by omega) (by omega) (by omega) ?_
             | refine catch_c (s := s) (q := A s) (fun hd => h1 hd s hm) ?_
             | with_reducible refine draw_head ?_)
  all_goals exact finw rfl h
theorem rowX_c {deep : Int} {A : Sta → Rs} (h1 : ¬ deep < 1 → Reads0 39 (if 100 < deep then 100 else deep) A) : Calls3 20 deep A := by
  intro s hm st R h
  refine pcalls_of_body tys_ok [] Try.func20 rfl (by decide) ?_
  repeat' (conv => whnf
           first
             | with_reducible exact quiet_same
             | with_reducible exact quiet_bool
             | with_reducible exact quiet_not
             | with_reducible refine draw_step (by kernel_rfl) ?_
             | with_reducible refine quiet_go ?_ ?_ ?_
             | with_reducible refine bcase_yes (by first | assumption | omega) ?_
             | with_reducible refine bcase_no (by first | assumption | omega) ?_
             | with_reducible refine bcase_dyes (by omega) ?_
             | with_reducible refine bcase_dno (by omega) ?_
             | with_reducible refine bcase_len (by decide) (fun _ => ?_) (fun _ => ?_)
             | with_reducible refine bcase_eq (fun _ => ?_) (fun _ => ?_)
             | with_reducible refine bcase_dec (fun _ => ?_) (fun _ => ?_)
             | with_reducible refine bcase_true ?_
             | with_reducible refine bcase_false ?_
             | with_reducible refine bcase_intro (fun _ => ?_) (fun _ => ?_)
             | with_reducible refine len_kids (fun _ => ?_)
             | with_reducible refine at_known (by assumption) (by omega) ?_
             | with_reducible refine at_kid (by omega) (by omega) (fun _ _ _ => ?_)
             | with_reducible refine tail_kids (by omega) (by omega) ?_
             | with_reducible refine slice_kids (by omega) (by omega) (by omega) ?_
             | with_reducible refine ex_wrap (by omega) (by omega) ?_
             | with_reducible refine quo_step (by decide) (by omega) (by omega) ?_
             | with_reducible refine rem_step (by decide) ?_
             | with_reducible refine nil_row (fun _ => ?_) ?_
             | with_reducible refine nil_row2 (fun _ => ?_) ?_
             | with_reducible refine len_toks (fun _ => ?_)
             | with_reducible refine len_ints (fun _ => ?_)
             | with_reducible refine tok_known (by assumption) (by omega) ?_
             | with_reducible refine at_tok (by omega) (by omega) (fun _ _ => ?_)
             | with_reducible refine at_int (by omega) (by omega) (fun _ _ => ?_)
             | with_reducible refine slice_ints (by omega) (by omega) (by omega) ?_
             | refine catch_c (s := s) (q := A s) (fun hd => h1 hd s hm) ?_
             | with_reducible refine draw_head ?_)
  all_goals exact finw rfl h
theorem fullX_c {deep : Int} {A : Sta → Rs} (h1 : ¬ deep < 1 → Reads0 34 (if 100 < deep then 100 else deep) A) : Calls3 14 deep A := by
  intro s hm st R h
  refine pcalls_of_body tys_ok [] Try.func14 rfl (by decide) ?_
  repeat' (conv => whnf
           first
             | with_reducible exact quiet_same
             | with_reducible exact quiet_bool
             | with_reducible exact quiet_not
             | with_reducible refine draw_step (by kernel_rfl) ?_
             | with_reducible refine quiet_go ?_ ?_ ?_
             | with_reducible refine bcase_yes (by first | assumption | omega) ?_
             | with_reducible refine bcase_no (by first | assumption | omega) ?_
             | with_reducible refine bcase_dyes (by omega) ?_
             | with_reducible refine bcase_dno (by omega) ?_
             | with_reducible refine bcase_len (by decide) (fun _ => ?_) (fun _ => ?_)
             | with_reducible refine bcase_eq (fun _ => ?_) (fun _ => ?_)
             | with_reducible refine bcase_dec (fun _ => ?_) (fun _ => ?_)
             | with_reducible refine bcase_true ?_
             | with_reducible refine bcase_false ?_
             | with_reducible refine bcase_intro (fun _ => ?_) (fun _ => ?_)
             | with_reducible refine len_kids (fun _ => ?_)
             | with_reducible refine at_known (by assumption) (by omega) ?_
             | with_reducible refine at_kid (by omega) (by omega) (fun _ _ _ => ?_)
             | with_reducible refine tail_kids (by omega) (by omega) ?_
             | with_reducible refine slice_kids (by omega) (by omega) (by omega) ?_
             | with_reducible refine ex_wrap (by omega) (by omega) ?_
             | with_reducible refine quo_step (by decide) (by omega) (by omega) ?_
             | with_reducible refine rem_step (by decide) ?_
             | with_reducible refine nil_row (fun _ => ?_) ?_
             | with_reducible refine nil_row2 (fun _ => ?_) ?_
             | with_reducible refine len_toks (fun _ => ?_)
             | with_reducible refine len_ints (fun _ => ?_)
             | with_reducible refine tok_known (by assumption) (by omega) ?_
             | with_reducible refine at_tok (by omega) (by omega) (fun _ _ => ?_)
             | with_reducible refine at_int (by omega) (by omega) (fun _ _ => ?_)
             | with_reducible refine slice_ints (by omega) (by omega) (by omega) ?_
             | refine catch_c (s := s) (q := A s) (fun hd => h1 hd s hm) ?_
             | with_reducible refine draw_head ?_)
  all_goals exact finw rfl h
end
end Go.Proofs.Ytngbihfihdheoaa

/-
  TYPES: types.
-/
set_option linter.unusedVariables false
set_option pp.maxSteps 400
namespace Go.Proofs.Ytngbihfihdheoaa
open Go Go.Aw

def typesP (Y : Sta → Rs) (n : Nd) (s : Sta) : Ls := match Y s with
  | .inl e => .inl e
  | .inr q => typesL Y [n, q.1] q.2
def TellsL (st : St) (b : Nat) (R : Res → St → Prop) : Ls → Prop
  | .inr (l, s') => ∀ st' own', Upd st st' b s' → own'.good st' → R (.ret (.slice 6 (l.map encN) own')) (own'.st st' (l.length * 6))
  | .inl (e, s') => ∀ st', Upd st st' b s' → R (.pan (fault e)) st'
theorem typesL_at {Y : Sta → Rs} {l : List Nd} {s : Sta} {n : Nd} {s' : Sta} (h : isF s 15 [44] = true) (hY : Y (nextM s).2.1 = .inr (n, s')) (hm : mu s' < mu s) : typesL Y l s = typesL Y (l ++ [leafT (nextM s).1, n]) s' := by
  rw [typesL, if_pos h, hY]
  dsimp only
  rw [if_pos hm]

section
variable {st : St} {R : Res → St → Prop}
attribute [local irreducible] Go.Aw.appendTo
theorem types_c {d : Nat} {Y : Sta → Rs} (hY : Calls3 11 d Y) (h0 : d = 0 → ∀ s, Y s = .inl (2, s)) (hB : Bads Y) (hF : Falls Y) {n1 : Nd} {s : Sta} {b : Nat} {x : Int} (hx : x = (d : Int)) (hm : mu s ≤ 100000000) (hs : Has st b s) (h : TellsL st b R (typesP Y n1 s)) :
    PC 72 [.ptr b 0, .slice 6 [encN n1] .full, .int .i64 x] st R := by
  refine pcalls_of_body tys_ok [] Try.func72 rfl (by decide) ?_
  unfold typesP at h
  have hn1 : [n1].length + 1 ≤ 1000000000 := by show 1 + 1 ≤ 1000000000; decide
  repeat' (conv => whnf
           first
             | with_reducible exact quiet_same
             | with_reducible exact quiet_bool
             | with_reducible exact quiet_not
             | with_reducible refine draw_step (by kernel_rfl) ?_
             | with_reducible refine quiet_go ?_ ?_ ?_
             | with_reducible refine bcase_yes (by first | assumption | omega) ?_
             | with_reducible refine bcase_no (by first | assumption | omega) ?_
             | with_reducible refine bcase_dyes (by omega) ?_
             | with_reducible refine bcase_dno (by omega) ?_
             | with_reducible refine bcase_len (by decide) (fun _ => ?_) (fun _ => ?_)
             | with_reducible refine bcase_eq (fun _ => ?_) (fun _ => ?_)
             | with_reducible refine bcase_dec (fun _ => ?_) (fun _ => ?_)
             | with_reducible refine bcase_true ?_
             | with_reducible refine bcase_false ?_
             | with_reducible refine bcase_intro (fun _ => ?_) (fun _ => ?_)
             | with_reducible refine len_kids (fun _ => ?_)
             | with_reducible refine at_known (by assumption) (by omega) ?_
             | with_reducible refine at_kid (by omega) (by omega) (fun _ _ _ => ?_)
             | with_reducible refine tail_kids (by omega) (by omega) ?_
             | with_reducible refine slice_kids (by omega) (by omega) (by omega) ?_
             | with_reducible refine ex_wrap (by omega) (by omega) ?_
             | with_reducible refine quo_step (by decide) (by omega) (by omega) ?_
             | with_reducible refine rem_step (by decide) ?_
             | with_reducible refine nil_row (fun _ => ?_) ?_
             | with_reducible refine nil_row2 (fun _ => ?_) ?_
             | with_reducible refine len_toks (fun _ => ?_)
             | with_reducible refine len_ints (fun _ => ?_)
             | with_reducible refine tok_known (by assumption) (by omega) ?_
             | with_reducible refine at_tok (by omega) (by omega) (fun _ _ => ?_)
             | with_reducible refine at_int (by omega) (by omega) (fun _ _ => ?_)
             | with_reducible refine slice_ints (by omega) (by omega) (by omega) ?_
             | refine into_e hx hY h0 hB hm hs (tells_of (fun n2 s2 hq2 st2 h2 => ?_) (fun e2 s2 hq2 st2 h2 => ?_))
             | refine app_m (l := [n1]) (x := n2) (own := .full) trivial hn1 (fun own1 ho1 => ?_)
             | with_reducible refine draw_head ?_)
  · rw [hq2] at h
    have hd2 := hF _ _ _ hq2
    dsimp only at h
    refine loop_h (α := List Nd × Sta × St × Own) (fun x => [(1, .slice 6 (x.1.map encN) x.2.2.2)]) [0, 2, 6] (fun x => []) [] (fun x => x.2.2.2.st x.2.2.1 (x.1.length * 6))
      (fun x => x.2.2.2.good x.2.2.1 ∧ Upd st x.2.2.1 b x.2.1 ∧ x.1.length + 2 * mu x.2.1 ≤ 400000000 ∧ mu x.2.1 ≤ mu s ∧ typesL Y x.1 x.2.1 = typesL Y [n1, n2] s2) (fun x => mu x.2.1) ([n1] ++ [n2], s2, st2, own1)
      ⟨ho1, h2, by show 2 + 2 * mu s2 ≤ _; omega, by show mu s2 ≤ _; omega, rfl⟩ (by refine ⟨rfl, ?_, ?_, rfl⟩ <;> repeat' (first | exact trivial | exact rfl | refine And.intro ?_ ?_)) (St.le_refl _) ?_
    rintro ⟨l, s3, st3, own⟩ ⟨j1, j2, j5, j6, j7⟩
    dsimp only at j1 j2 j5 j6 j7
    have hm3 : mu s3 ≤ 100000000 := by omega
    have hb3 := opn_le hm3
    have hl3 : Has (st3.setBox b (lookC s3)) b s3 := .inl (St.box_same ..)
    have g3 : own.good (st3.setBox b (lookC s3)) := good_set j1 j2.1
    have hn : l.length + 2 ≤ 1000000000 := by omega
    have hm4 : isF s3 15 [44] = true → mu (nextM s3).2.1 ≤ 100000000 := fun e => by have := isF_mu e (by decide) (by decide); omega
    repeat' (conv => whnf
             first
               | with_reducible exact quiet_same
               | with_reducible exact quiet_bool
               | with_reducible exact quiet_not
               | with_reducible refine draw_step (by kernel_rfl) ?_
               | with_reducible refine quiet_go ?_ ?_ ?_
               | with_reducible refine bcase_yes (by first | assumption | omega) ?_
               | with_reducible refine bcase_no (by first | assumption | omega) ?_
               | with_reducible refine bcase_dyes (by omega) ?_
               | with_reducible refine bcase_dno (by omega) ?_
               | with_reducible refine bcase_len (by decide) (fun _ => ?_) (fun _ => ?_)
               | with_reducible refine bcase_eq (fun _ => ?_) (fun _ => ?_)
               | with_reducible refine bcase_dec (fun _ => ?_) (fun _ => ?_)
               | with_reducible refine bcase_true ?_
               | with_reducible refine bcase_false ?_
               | with_reducible refine bcase_intro (fun _ => ?_) (fun _ => ?_)
               | with_reducible refine len_kids (fun _ => ?_)
               | with_reducible refine at_known (by assumption) (by omega) ?_
               | with_reducible refine at_kid (by omega) (by omega) (fun _ _ _ => ?_)
               | with_reducible refine tail_kids (by omega) (by omega) ?_
               | with_reducible refine slice_kids (by omega) (by omega) (by omega) ?_
               | with_reducible refine ex_wrap (by omega) (by omega) ?_
               | with_reducible refine quo_step (by decide) (by omega) (by omega) ?_
               | with_reducible refine rem_step (by decide) ?_
               | with_reducible refine nil_row (fun _ => ?_) ?_
               | with_reducible refine nil_row2 (fun _ => ?_) ?_
               | with_reducible refine len_toks (fun _ => ?_)
               | with_reducible refine len_ints (fun _ => ?_)
               | with_reducible refine tok_known (by assumption) (by omega) ?_
               | with_reducible refine at_tok (by omega) (by omega) (fun _ _ => ?_)
               | with_reducible refine at_int (by omega) (by omega) (fun _ _ => ?_)
               | with_reducible refine slice_ints (by omega) (by omega) (by omega) ?_
               | refine is_o j2.1 hb3 ?_
               | refine take_r (hl3.hw own _) hb3 (tells_ro g3 hl3 (take_is (by assumption) (by decide)) (fun st4 h4 g4 => ?_))
               | refine into_e hx hY h0 hB (hm4 (by assumption)) (h4.1.hw own _) (tells_own g4 h4.1 (tellsO_of (fun n5 s5 hq5 st5 h5 g5 => ?_) (fun e5 s5 hq5 st5 h5 g5 => ?_)))
               | refine app_m2 (l := l) (x := leafT (nextM s3).1) (y := n5) g5 hn (fun own' ho' => ?_)
               | with_reducible refine draw_head ?_)
    all_goals conv => whnf
    · have hp : isF s3 15 [44] = true := by assumption
      have hd := hF _ _ _ hq5
      have hd3 := isF_mu hp (by decide) (by decide)
      have hd4 : mu s5 < mu s3 := by omega
      have hu := (upd_look (st := st3) (b := b) (s := s3)).trans (h4.trans h5)
      refine ⟨(l ++ [leafT (nextM s3).1, n5], s5, st5, own'), ⟨ho', j2.trans hu, ?_, by show mu s5 ≤ _; omega, ?_⟩, hd4, (by refine ⟨rfl, ?_, ?_, rfl⟩ <;> repeat' (first | exact trivial | exact rfl | refine And.intro ?_ ?_)), St.le_refl _⟩
      · show (l ++ [leafT (nextM s3).1, n5]).length + 2 * mu s5 ≤ _
        rw [List.length_append]
        show l.length + 2 + 2 * mu s5 ≤ _
        omega
      · show typesL Y (l ++ [leafT (nextM s3).1, n5]) s5 = _
        rw [← j7, typesL_at (l := l) hp hq5 hd4]
    · have hp : isF s3 15 [44] = true := by assumption
      have hu := (upd_look (st := st3) (b := b) (s := s3)).trans (h4.trans h5)
      have hr : typesL Y l s3 = .inl (e5, s5) := by rw [typesL, if_pos hp, hq5]
      rw [← j7, hr] at h
      exact finl (Own.good_le g5) rfl (h st5 (j2.trans hu))
    · have hr : typesL Y l s3 = .inr (l, s3) := by rw [typesL, if_neg (Bool.eq_false_iff.1 (by assumption))]
      rw [← j7, hr] at h
      exact fin (h _ own (j2.trans upd_look) g3) rfl
  · rw [hq2] at h
    exact fin (h st2 h2) rfl
end
end Go.Proofs.Ytngbihfihdheoaa
