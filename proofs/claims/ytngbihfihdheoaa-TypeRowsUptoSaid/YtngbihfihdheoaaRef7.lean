/-
  TYPES: the document's Full, and all at any depth.
-/
import Derived.Test.YtngbihfihdheoaaRef6
set_option linter.unusedVariables false
set_option pp.maxSteps 400
namespace Go.Proofs.Ytngbihfihdheoaa
open Go Go.Aw
theorem full_q {A : Sta → Rs} {s : Sta} (hB : Bads A) (hz : re (rowP A s) = 0) (hi : isF (rs (rowP A s)) 10 [61, 62] = true) : fullP A s = match wholeP A (nextM (rs (rowP A s))).2.1 with
      | .inl e => .inl e
      | .inr q => .inr (nodeK 38 [rn (rowP A s), leafT (nextM (rs (rowP A s))).1, q.1], q.2) := by
  unfold fullP
  have e := inr_of (bads_row hB) hz
  generalize rn (rowP A s) = n at *
  generalize rs (rowP A s) = s1 at *
  rw [e]
  dsimp only
  rw [if_pos hi]
  cases wholeP A (nextM s1).2.1 <;> rfl
theorem full_n {A : Sta → Rs} {s : Sta} (hB : Bads A) (hz : re (rowP A s) = 0) (hi : isF (rs (rowP A s)) 10 [61, 62] = false) : fullP A s = arrowsP A (rn (rowP A s)) (rs (rowP A s)) := by
  unfold fullP
  have e := inr_of (bads_row hB) hz
  generalize rn (rowP A s) = n at *
  generalize rs (rowP A s) = s1 at *
  rw [e]
  dsimp only
  rw [if_neg (by rw [hi]; decide)]
theorem full_bad {A : Sta → Rs} {s : Sta} (hz : ¬ re (rowP A s) = 0) : fullP A s = rowP A s := by
  unfold fullP
  rw [inl_of hz]
section
variable {st : St} {R : Res → St → Prop}
attribute [local irreducible] Go.Aw.appendTo
theorem rclean_bad {n : Nd} {s : Sta} {e : Int} (he : ¬ e = 0) (h : R (.ret (encQ nd0 s e)) st) : PC 30 [encQ n s e] st R := clean_bad he h
theorem rclean_node {k : Int} {l : List Nd} {own : Own} {s : Sta} {e : Int} (he : e = 0) (hg : own.good st) (h : R (.ret (encQ (nodeK k l) s e)) (own.st st (l.length * 6))) : PC 30 [.agg [.int .i64 k, .int .i64 0, .str [], .int .i64 0, .int .i64 0, .slice 6 (l.map encN) own,
    .slice 4 (encTs s.toks) .any, .int .i64 s.pos, .slice 1 (ints s.opn) .any, .int .i64 s.wait, .int .i64 e]] (own.st st (l.length * 6)) R := by
  have := clean_ok (n := nodeK k l) (s := s) (st := own.st st (l.length * 6)) (R := R) (by rw [← he]; exact h)
  rw [← he] at this
  exact pcalls_wk (args' := [encQ (nodeK k l) s e]) (by rw [← encs_map]; rfl) this
theorem rclean_nodeb {k : Int} {l : List Nd} {own : Own} {s : Sta} {e : Int} (he : ¬ e = 0) (hg : own.good st) (h : R (.ret (encQ nd0 s e)) (own.st st (l.length * 6))) : PC 30 [.agg [.int .i64 k, .int .i64 0, .str [], .int .i64 0, .int .i64 0, .slice 6 (l.map encN) own,
    .slice 4 (encTs s.toks) .any, .int .i64 s.pos, .slice 1 (ints s.opn) .any, .int .i64 s.wait, .int .i64 e]] (own.st st (l.length * 6)) R :=
  pcalls_wk (args' := [encQ (nodeK k l) s e]) (by rw [← encs_map]; rfl) (clean_bad (n := nodeK k l) he h)
theorem rarrows_e {d : Int} {A : Sta → Rs} (hr : RCalls 32 d (rowP A)) (hB : Bads A) (hF : Falls A) {n : Nd} {s : Sta} {e0 : Int} {w : Rs} (hw : arrowsP A n s = w) (he : e0 = 0) (hm : mu s ≤ 100000000) (h : R (.ret (encQ (rn w) (rs w) (re w))) st) :
    PC 31 [encQ n s e0, .int .i64 d] st R := rarrows_c hr hB hF he hm (by rw [hw, encRs_eq]; exact h)
theorem rfull_c {deep : Int} {A : Sta → Rs} (hr : ¬ deep < 1 → RCalls 32 (if 100 < deep then 100 else deep) (rowP A)) (hB : Bads A) (hF : Falls A) {s : Sta} (hm : mu s ≤ 100000000) (h : R (.ret (encRs (docR s deep (fullP A s)))) st) :
    PC 15 [encS s, .int .i64 deep] st R := by
  refine pcalls_of_body tys_ok [] Try.func15 rfl (by decide) ?_
  unfold docR at h
  by_cases hd : deep < 1
  · rw [if_pos hd] at h
    repeat' (conv => whnf
             first
               | with_reducible exact quiet_same
               | with_reducible exact quiet_bool
               | with_reducible exact quiet_not
               | with_reducible refine draw_step (by kernel_rfl) ?_
               | with_reducible refine quiet_go ?_ ?_ ?_
               | with_reducible refine bcase_yes (by first | assumption | omega) ?_
               | with_reducible refine bcase_no (by first | assumption | omega) ?_
               | with_reducible refine bcase_dyes (by omega) ?_
               | with_reducible refine bcase_dno (by omega) ?_
               | with_reducible refine bcase_len (by decide) (fun _ => ?_) (fun _ => ?_)
               | with_reducible refine bcase_eq (fun _ => ?_) (fun _ => ?_)
               | with_reducible refine bcase_dec (fun _ => ?_) (fun _ => ?_)
               | with_reducible refine bcase_true ?_
               | with_reducible refine bcase_false ?_
               | with_reducible refine bcase_intro (fun _ => ?_) (fun _ => ?_)
               | with_reducible refine len_kids (fun _ => ?_)
               | with_reducible refine at_known (by assumption) (by omega) ?_
               | with_reducible refine at_kid (by omega) (by omega) (fun _ _ _ => ?_)
               | with_reducible refine tail_kids (by omega) (by omega) ?_
               | with_reducible refine slice_kids (by omega) (by omega) (by omega) ?_
               | with_reducible refine ex_wrap (by omega) (by omega) ?_
               | with_reducible refine quo_step (by decide) (by omega) (by omega) ?_
               | with_reducible refine rem_step (by decide) ?_
               | with_reducible refine nil_row (fun _ => ?_) ?_
               | with_reducible refine nil_row2 (fun _ => ?_) ?_
               | with_reducible refine len_toks (fun _ => ?_)
               | with_reducible refine len_ints (fun _ => ?_)
               | with_reducible refine tok_known (by assumption) (by omega) ?_
               | with_reducible refine at_tok (by omega) (by omega) (fun _ _ => ?_)
               | with_reducible refine at_int (by omega) (by omega) (fun _ _ => ?_)
               | with_reducible refine slice_ints (by omega) (by omega) (by omega) ?_
               | refine rdeep_c ?_
               | with_reducible refine draw_head ?_)
    all_goals exact finw rfl h
  · rw [if_neg hd, encRs_eq] at h
    by_cases hz : re (rowP A s) = 0
    · have hm1 : mu (rs (rowP A s)) ≤ 100000000 := by have := mu_ok (bads_row hB) (falls_row hF) hz; omega
      have hb1 := opn_le hm1
      cases hi : isF (rs (rowP A s)) 10 [61, 62] with
      | false =>
        rw [full_n hB hz hi] at h
        repeat' (conv => whnf
                 first
                   | with_reducible exact quiet_same
                   | with_reducible exact quiet_bool
                   | with_reducible exact quiet_not
                   | with_reducible refine draw_step (by kernel_rfl) ?_
                   | with_reducible refine quiet_go ?_ ?_ ?_
                   | with_reducible refine bcase_yes (by first | assumption | omega) ?_
                   | with_reducible refine bcase_no (by first | assumption | omega) ?_
                   | with_reducible refine bcase_dyes (by omega) ?_
                   | with_reducible refine bcase_dno (by omega) ?_
                   | with_reducible refine bcase_len (by decide) (fun _ => ?_) (fun _ => ?_)
                   | with_reducible refine bcase_eq (fun _ => ?_) (fun _ => ?_)
                   | with_reducible refine bcase_dec (fun _ => ?_) (fun _ => ?_)
                   | with_reducible refine bcase_true ?_
                   | with_reducible refine bcase_false ?_
                   | with_reducible refine bcase_intro (fun _ => ?_) (fun _ => ?_)
                   | with_reducible refine len_kids (fun _ => ?_)
                   | with_reducible refine at_known (by assumption) (by omega) ?_
                   | with_reducible refine at_kid (by omega) (by omega) (fun _ _ _ => ?_)
                   | with_reducible refine tail_kids (by omega) (by omega) ?_
                   | with_reducible refine slice_kids (by omega) (by omega) (by omega) ?_
                   | with_reducible refine ex_wrap (by omega) (by omega) ?_
                   | with_reducible refine quo_step (by decide) (by omega) (by omega) ?_
                   | with_reducible refine rem_step (by decide) ?_
                   | with_reducible refine nil_row (fun _ => ?_) ?_
                   | with_reducible refine nil_row2 (fun _ => ?_) ?_
                   | with_reducible refine len_toks (fun _ => ?_)
                   | with_reducible refine len_ints (fun _ => ?_)
                   | with_reducible refine tok_known (by assumption) (by omega) ?_
                   | with_reducible refine at_tok (by omega) (by omega) (fun _ _ => ?_)
                   | with_reducible refine at_int (by omega) (by omega) (fun _ _ => ?_)
                   | with_reducible refine slice_ints (by omega) (by omega) (by omega) ?_
                   | refine limit_c hd ?_
                   | refine (hr hd).q rfl hm ?_
                   | refine ris_e hi (by decide) hb1 ?_
                   | refine rarrows_q (hr hd) hB hF hz hm1 ?_
                   | refine rclean_q (q := arrowsP A (rn (rowP A s)) (rs (rowP A s))) ?_
                   | with_reducible refine draw_head ?_)
        all_goals exact finw rfl h
      | true =>
        have hm2 : mu (nextM (rs (rowP A s))).2.1 ≤ 100000000 := by have := isF_mu hi (by decide) (by decide); omega
        have hn1 : [rn (rowP A s)].length + 1 ≤ 1000000000 := by show 1 + 1 ≤ 1000000000; decide
        have hn2 : ∀ y : Nd, ([rn (rowP A s)] ++ [y]).length + 1 ≤ 1000000000 := fun y => by show 2 + 1 ≤ 1000000000; decide
        rw [full_q hB hz hi] at h
        by_cases hz2 : re (rowP A (nextM (rs (rowP A s))).2.1) = 0
        · have hm3 : mu (rs (rowP A (nextM (rs (rowP A s))).2.1)) ≤ 100000000 := by have := mu_ok (bads_row hB) (falls_row hF) hz2; omega
          have hq : wholeP A (nextM (rs (rowP A s))).2.1 = arrowsP A (rn (rowP A (nextM (rs (rowP A s))).2.1)) (rs (rowP A (nextM (rs (rowP A s))).2.1)) := whole_q hB hz2
          rw [hq] at h
          generalize hw : arrowsP A (rn (rowP A (nextM (rs (rowP A s))).2.1)) (rs (rowP A (nextM (rs (rowP A s))).2.1)) = w at h
          by_cases hz3 : re w = 0
          · have hin : w = .inr (rn w, rs w) := by
              rw [← hw]
              exact inr_of (bads_arrows hB) (by rw [hw]; exact hz3)
            rw [hin] at h
            repeat' (conv => whnf
                     first
                       | with_reducible exact quiet_same
                       | with_reducible exact quiet_bool
                       | with_reducible exact quiet_not
                       | with_reducible refine draw_step (by kernel_rfl) ?_
                       | with_reducible refine quiet_go ?_ ?_ ?_
                       | with_reducible refine bcase_yes (by first | assumption | omega) ?_
                       | with_reducible refine bcase_no (by first | assumption | omega) ?_
                       | with_reducible refine bcase_dyes (by omega) ?_
                       | with_reducible refine bcase_dno (by omega) ?_
                       | with_reducible refine bcase_len (by decide) (fun _ => ?_) (fun _ => ?_)
                       | with_reducible refine bcase_eq (fun _ => ?_) (fun _ => ?_)
                       | with_reducible refine bcase_dec (fun _ => ?_) (fun _ => ?_)
                       | with_reducible refine bcase_true ?_
                       | with_reducible refine bcase_false ?_
                       | with_reducible refine bcase_intro (fun _ => ?_) (fun _ => ?_)
                       | with_reducible refine len_kids (fun _ => ?_)
                       | with_reducible refine at_known (by assumption) (by omega) ?_
                       | with_reducible refine at_kid (by omega) (by omega) (fun _ _ _ => ?_)
                       | with_reducible refine tail_kids (by omega) (by omega) ?_
                       | with_reducible refine slice_kids (by omega) (by omega) (by omega) ?_
                       | with_reducible refine ex_wrap (by omega) (by omega) ?_
                       | with_reducible refine quo_step (by decide) (by omega) (by omega) ?_
                       | with_reducible refine rem_step (by decide) ?_
                       | with_reducible refine nil_row (fun _ => ?_) ?_
                       | with_reducible refine nil_row2 (fun _ => ?_) ?_
                       | with_reducible refine len_toks (fun _ => ?_)
                       | with_reducible refine len_ints (fun _ => ?_)
                       | with_reducible refine tok_known (by assumption) (by omega) ?_
                       | with_reducible refine at_tok (by omega) (by omega) (fun _ _ => ?_)
                       | with_reducible refine at_int (by omega) (by omega) (fun _ _ => ?_)
                       | with_reducible refine slice_ints (by omega) (by omega) (by omega) ?_
                       | refine limit_c hd ?_
                       | refine (hr hd).q rfl hm ?_
                       | refine ris_e hi (by decide) hb1 ?_
                       | refine rtake_e (take_is hi (by decide)) hb1 ?_
                       | refine app_m (l := [rn (rowP A s)]) (x := leafT (nextM (rs (rowP A s))).1) (own := .full) trivial hn1 (fun own1 ho1 => ?_)
                       | refine (hr hd).q (s := (nextM (rs (rowP A s))).2.1) rfl hm2 ?_
                       | refine rarrows_e (hr hd) hB hF hw hz2 hm3 ?_
                       | refine app_m (l := [rn (rowP A s)] ++ [leafT (nextM (rs (rowP A s))).1]) (x := rn w) ho1 (hn2 _) (fun own2 ho2 => ?_)
                       | refine rclean_node hz3 ho2 ?_
                       | with_reducible refine draw_head ?_)
            have h : R (.ret (encQ (nodeK 38 ([rn (rowP A s)] ++ [leafT (nextM (rs (rowP A s))).1] ++ [rn w])) (rs w) (re w))) st := by rw [hz3]; exact h
            all_goals exact finl (Own.good_le ho2) rfl h
          · rw [inl_of hz3] at h
            have h : R (.ret (encQ nd0 (rs w) (re w))) st := h
            repeat' (conv => whnf
                     first
                       | with_reducible exact quiet_same
                       | with_reducible exact quiet_bool
                       | with_reducible exact quiet_not
                       | with_reducible refine draw_step (by kernel_rfl) ?_
                       | with_reducible refine quiet_go ?_ ?_ ?_
                       | with_reducible refine bcase_yes (by first | assumption | omega) ?_
                       | with_reducible refine bcase_no (by first | assumption | omega) ?_
                       | with_reducible refine bcase_dyes (by omega) ?_
                       | with_reducible refine bcase_dno (by omega) ?_
                       | with_reducible refine bcase_len (by decide) (fun _ => ?_) (fun _ => ?_)
                       | with_reducible refine bcase_eq (fun _ => ?_) (fun _ => ?_)
                       | with_reducible refine bcase_dec (fun _ => ?_) (fun _ => ?_)
                       | with_reducible refine bcase_true ?_
                       | with_reducible refine bcase_false ?_
                       | with_reducible refine bcase_intro (fun _ => ?_) (fun _ => ?_)
                       | with_reducible refine len_kids (fun _ => ?_)
                       | with_reducible refine at_known (by assumption) (by omega) ?_
                       | with_reducible refine at_kid (by omega) (by omega) (fun _ _ _ => ?_)
                       | with_reducible refine tail_kids (by omega) (by omega) ?_
                       | with_reducible refine slice_kids (by omega) (by omega) (by omega) ?_
                       | with_reducible refine ex_wrap (by omega) (by omega) ?_
                       | with_reducible refine quo_step (by decide) (by omega) (by omega) ?_
                       | with_reducible refine rem_step (by decide) ?_
                       | with_reducible refine nil_row (fun _ => ?_) ?_
                       | with_reducible refine nil_row2 (fun _ => ?_) ?_
                       | with_reducible refine len_toks (fun _ => ?_)
                       | with_reducible refine len_ints (fun _ => ?_)
                       | with_reducible refine tok_known (by assumption) (by omega) ?_
                       | with_reducible refine at_tok (by omega) (by omega) (fun _ _ => ?_)
                       | with_reducible refine at_int (by omega) (by omega) (fun _ _ => ?_)
                       | with_reducible refine slice_ints (by omega) (by omega) (by omega) ?_
                       | refine limit_c hd ?_
                       | refine (hr hd).q rfl hm ?_
                       | refine ris_e hi (by decide) hb1 ?_
                       | refine rtake_e (take_is hi (by decide)) hb1 ?_
                       | refine app_m (l := [rn (rowP A s)]) (x := leafT (nextM (rs (rowP A s))).1) (own := .full) trivial hn1 (fun own1 ho1 => ?_)
                       | refine (hr hd).q (s := (nextM (rs (rowP A s))).2.1) rfl hm2 ?_
                       | refine rarrows_e (hr hd) hB hF hw hz2 hm3 ?_
                       | refine app_m (l := [rn (rowP A s)] ++ [leafT (nextM (rs (rowP A s))).1]) (x := rn w) ho1 (hn2 _) (fun own2 ho2 => ?_)
                       | refine rclean_nodeb hz3 ho2 ?_
                       | with_reducible refine draw_head ?_)
            all_goals exact finl (Own.good_le ho2) rfl h
        · rw [whole_bad hz2] at h
          have h : R (.ret (encQ nd0 (rs (rowP A (nextM (rs (rowP A s))).2.1)) (re (rowP A (nextM (rs (rowP A s))).2.1)))) st := h
          repeat' (conv => whnf
                   first
                     | with_reducible exact quiet_same
                     | with_reducible exact quiet_bool
                     | with_reducible exact quiet_not
                     | with_reducible refine draw_step (by kernel_rfl) ?_
                     | with_reducible refine quiet_go ?_ ?_ ?_
                     | with_reducible refine bcase_yes (by first | assumption | omega) ?_
                     | with_reducible refine bcase_no (by first | assumption | omega) ?_
                     | with_reducible refine bcase_dyes (by omega) ?_
                     | with_reducible refine bcase_dno (by omega) ?_
                     | with_reducible refine bcase_len (by decide) (fun _ => ?_) (fun _ => ?_)
                     | with_reducible refine bcase_eq (fun _ => ?_) (fun _ => ?_)
                     | with_reducible refine bcase_dec (fun _ => ?_) (fun _ => ?_)
                     | with_reducible refine bcase_true ?_
                     | with_reducible refine bcase_false ?_
                     | with_reducible refine bcase_intro (fun _ => ?_) (fun _ => ?_)
                     | with_reducible refine len_kids (fun _ => ?_)
                     | with_reducible refine at_known (by assumption) (by omega) ?_
                     | with_reducible refine at_kid (by omega) (by omega) (fun _ _ _ => ?_)
                     | with_reducible refine tail_kids (by omega) (by omega) ?_
                     | with_reducible refine slice_kids (by omega) (by omega) (by omega) ?_
                     | with_reducible refine ex_wrap (by omega) (by omega) ?_
                     | with_reducible refine quo_step (by decide) (by omega) (by omega) ?_
                     | with_reducible refine rem_step (by decide) ?_
                     | with_reducible refine nil_row (fun _ => ?_) ?_
                     | with_reducible refine nil_row2 (fun _ => ?_) ?_
                     | with_reducible refine len_toks (fun _ => ?_)
                     | with_reducible refine len_ints (fun _ => ?_)
                     | with_reducible refine tok_known (by assumption) (by omega) ?_
                     | with_reducible refine at_tok (by omega) (by omega) (fun _ _ => ?_)
                     | with_reducible refine at_int (by omega) (by omega) (fun _ _ => ?_)
                     | with_reducible refine slice_ints (by omega) (by omega) (by omega) ?_
                     | refine limit_c hd ?_
                     | refine (hr hd).q rfl hm ?_
                     | refine ris_e hi (by decide) hb1 ?_
                     | refine rtake_e (take_is hi (by decide)) hb1 ?_
                     | refine app_m (l := [rn (rowP A s)]) (x := leafT (nextM (rs (rowP A s))).1) (own := .full) trivial hn1 (fun own1 ho1 => ?_)
                     | refine (hr hd).q (s := (nextM (rs (rowP A s))).2.1) rfl hm2 ?_
                     | refine rarrows_bad (n := rn (rowP A (nextM (rs (rowP A s))).2.1)) (s := rs (rowP A (nextM (rs (rowP A s))).2.1)) hz2 ?_
                     | refine app_m (l := [rn (rowP A s)] ++ [leafT (nextM (rs (rowP A s))).1]) (x := rn (rowP A (nextM (rs (rowP A s))).2.1)) ho1 (hn2 _) (fun own2 ho2 => ?_)
                     | refine rclean_nodeb hz2 ho2 ?_
                     | with_reducible refine draw_head ?_)
          all_goals exact finl (Own.good_le ho2) rfl h
    · rw [full_bad hz] at h
      repeat' (conv => whnf
               first
                 | with_reducible exact quiet_same
                 | with_reducible exact quiet_bool
                 | with_reducible exact quiet_not
                 | with_reducible refine draw_step (by kernel_rfl) ?_
                 | with_reducible refine quiet_go ?_ ?_ ?_
                 | with_reducible refine bcase_yes (by first | assumption | omega) ?_
                 | with_reducible refine bcase_no (by first | assumption | omega) ?_
                 | with_reducible refine bcase_dyes (by omega) ?_
                 | with_reducible refine bcase_dno (by omega) ?_
                 | with_reducible refine bcase_len (by decide) (fun _ => ?_) (fun _ => ?_)
                 | with_reducible refine bcase_eq (fun _ => ?_) (fun _ => ?_)
                 | with_reducible refine bcase_dec (fun _ => ?_) (fun _ => ?_)
                 | with_reducible refine bcase_true ?_
                 | with_reducible refine bcase_false ?_
                 | with_reducible refine bcase_intro (fun _ => ?_) (fun _ => ?_)
                 | with_reducible refine len_kids (fun _ => ?_)
                 | with_reducible refine at_known (by assumption) (by omega) ?_
                 | with_reducible refine at_kid (by omega) (by omega) (fun _ _ _ => ?_)
                 | with_reducible refine tail_kids (by omega) (by omega) ?_
                 | with_reducible refine slice_kids (by omega) (by omega) (by omega) ?_
                 | with_reducible refine ex_wrap (by omega) (by omega) ?_
                 | with_reducible refine quo_step (by decide) (by omega) (by omega) ?_
                 | with_reducible refine rem_step (by decide) ?_
                 | with_reducible refine nil_row (fun _ => ?_) ?_
                 | with_reducible refine nil_row2 (fun _ => ?_) ?_
                 | with_reducible refine len_toks (fun _ => ?_)
                 | with_reducible refine len_ints (fun _ => ?_)
                 | with_reducible refine tok_known (by assumption) (by omega) ?_
                 | with_reducible refine at_tok (by omega) (by omega) (fun _ _ => ?_)
                 | with_reducible refine at_int (by omega) (by omega) (fun _ _ => ?_)
                 | with_reducible refine slice_ints (by omega) (by omega) (by omega) ?_
                 | refine limit_c hd ?_
                 | refine (hr hd).q rfl hm ?_
                 | refine rarrows_bad (n := rn (rowP A s)) (s := rs (rowP A s)) hz ?_
                 | refine rclean_q (q := rowP A s) ?_
                 | with_reducible refine draw_head ?_)
      all_goals exact finw rfl h
end
end Go.Proofs.Ytngbihfihdheoaa
