/-
  TYPES: the document's arrows, Type, Atom, Row, Full.
-/
import Derived.Test.YtngbihfihdheoaaRef5
set_option linter.unusedVariables false
set_option pp.maxSteps 400
namespace Go.Proofs.Ytngbihfihdheoaa
open Go Go.Aw
/-- a Read's cells -/
def cellsQ (n : Nd) (s : Sta) (e : Int) : List V := [.int .i64 n.kind, .int .i64 n.form, .str n.text, .int .i64 n.line, .int .i64 n.col, .slice 6 (encs n.kids) .any,
  .slice 4 (encTs s.toks) .any, .int .i64 s.pos, .slice 1 (ints s.opn) .any, .int .i64 s.wait, .int .i64 e]
theorem arrL_n {A : Sta → Rs} {l : List Nd} {s : Sta} (h : isF s 10 [45, 62] = false) : arrL A l s = .inr (l, s) := by
  rw [arrL, if_neg (by rw [h]; decide)]
theorem arrL_ok {A : Sta → Rs} (hB : Bads A) (hF : Falls A) {l : List Nd} {s : Sta} (h : isF s 10 [45, 62] = true) (hz : re (rowP A (nextM s).2.1) = 0) :
    arrL A l s = arrL A (l ++ [leafT (nextM s).1] ++ [rn (rowP A (nextM s).2.1)]) (rs (rowP A (nextM s).2.1)) := by
  rw [arrL, if_pos h, inr_of (bads_row hB) hz]
  dsimp only
  have h1 := mu_ok (bads_row hB) (falls_row hF) hz
  have h2 := isF_mu h (by decide) (by decide)
  rw [if_pos (by omega), List.append_assoc]
  rfl
theorem arrL_bad2 {A : Sta → Rs} {l : List Nd} {s : Sta} (h : isF s 10 [45, 62] = true) (hz : ¬ re (rowP A (nextM s).2.1) = 0) : arrL A l s = .inl (re (rowP A (nextM s).2.1), rs (rowP A (nextM s).2.1)) := by
  rw [arrL, if_pos h, inl_of hz]
  rfl
theorem whole_q {A : Sta → Rs} {s : Sta} (hB : Bads A) (hz : re (rowP A s) = 0) : wholeP A s = arrowsP A (rn (rowP A s)) (rs (rowP A s)) := by
  unfold wholeP
  rw [inr_of (bads_row hB) hz]
  rfl
theorem whole_bad {A : Sta → Rs} {s : Sta} (hz : ¬ re (rowP A s) = 0) : wholeP A s = .inl (re (rowP A s), rs (rowP A s)) := by
  unfold wholeP
  rw [inl_of hz]
  rfl
section
variable {st : St} {R : Res → St → Prop}
attribute [local irreducible] Go.Aw.appendTo
theorem rarrows_bad {n : Nd} {s : Sta} {e d : Int} (he : ¬ e = 0) (h : R (.ret (encQ n s e)) st) : PC 31 [encQ n s e, .int .i64 d] st R := by
  refine pcalls_of_body tys_ok [] Try.func31 rfl (by decide) ?_
  repeat' (conv => whnf
           first
             | with_reducible exact quiet_same
             | with_reducible exact quiet_bool
             | with_reducible exact quiet_not
             | with_reducible refine draw_step (by kernel_rfl) ?_
             | with_reducible refine quiet_go ?_ ?_ ?_
             | with_reducible refine bcase_yes (by first | assumption | omega) ?_
             | with_reducible refine bcase_no (by first | assumption | omega) ?_
             | with_reducible refine bcase_dyes (by omega) ?_
             | with_reducible refine bcase_dno (by omega) ?_
             | with_reducible refine bcase_len (by decide) (fun _ => ?_) (fun _ => ?_)
             | with_reducible refine bcase_eq (fun _ => ?_) (fun _ => ?_)
             | with_reducible refine bcase_dec (fun _ => ?_) (fun _ => ?_)
             | with_reducible refine bcase_true ?_
             | with_reducible refine bcase_false ?_
             | with_reducible refine bcase_intro (fun _ => ?_) (fun _ => ?_)
             | with_reducible refine len_kids (fun _ => ?_)
             | with_reducible refine at_known (by assumption) (by omega) ?_
             | with_reducible refine at_kid (by omega) (by omega) (fun _ _ _ => ?_)
             | with_reducible refine tail_kids (by omega) (by omega) ?_
             | with_reducible refine slice_kids (by omega) (by omega) (by omega) ?_
             | with_reducible refine ex_wrap (by omega) (by omega) ?_
             | with_reducible refine quo_step (by decide) (by omega) (by omega) ?_
             | with_reducible refine rem_step (by decide) ?_
             | with_reducible refine nil_row (fun _ => ?_) ?_
             | with_reducible refine nil_row2 (fun _ => ?_) ?_
             | with_reducible refine len_toks (fun _ => ?_)
             | with_reducible refine len_ints (fun _ => ?_)
             | with_reducible refine tok_known (by assumption) (by omega) ?_
             | with_reducible refine at_tok (by omega) (by omega) (fun _ _ => ?_)
             | with_reducible refine at_int (by omega) (by omega) (fun _ _ => ?_)
             | with_reducible refine slice_ints (by omega) (by omega) (by omega) ?_
             | with_reducible refine draw_head ?_)
  all_goals exact finw rfl h
theorem rarrows_c {d : Int} {A : Sta → Rs} (hr : RCalls 32 d (rowP A)) (hB : Bads A) (hF : Falls A) {n : Nd} {s : Sta} {e0 : Int} (he : e0 = 0) (hm : mu s ≤ 100000000) (h : R (.ret (encRs (arrowsP A n s))) st) : PC 31 [encQ n s e0, .int .i64 d] st R := by
  refine pcalls_of_body tys_ok [] Try.func31 rfl (by decide) ?_
  have hb := opn_le hm
  unfold arrowsP at h
  cases hA : isF s 10 [45, 62] with
  | false =>
    rw [arrL_n hA] at h
    dsimp only at h
    rw [if_pos (show [n].length = 1 from rfl)] at h
    have h : R (.ret (encQ n s e0)) st := by rw [he]; exact h
    repeat' (conv => whnf
             first
               | with_reducible exact quiet_same
               | with_reducible exact quiet_bool
               | with_reducible exact quiet_not
               | with_reducible refine draw_step (by kernel_rfl) ?_
               | with_reducible refine quiet_go ?_ ?_ ?_
               | with_reducible refine bcase_yes (by first | assumption | omega) ?_
               | with_reducible refine bcase_no (by first | assumption | omega) ?_
               | with_reducible refine bcase_dyes (by omega) ?_
               | with_reducible refine bcase_dno (by omega) ?_
               | with_reducible refine bcase_len (by decide) (fun _ => ?_) (fun _ => ?_)
               | with_reducible refine bcase_eq (fun _ => ?_) (fun _ => ?_)
               | with_reducible refine bcase_dec (fun _ => ?_) (fun _ => ?_)
               | with_reducible refine bcase_true ?_
               | with_reducible refine bcase_false ?_
               | with_reducible refine bcase_intro (fun _ => ?_) (fun _ => ?_)
               | with_reducible refine len_kids (fun _ => ?_)
               | with_reducible refine at_known (by assumption) (by omega) ?_
               | with_reducible refine at_kid (by omega) (by omega) (fun _ _ _ => ?_)
               | with_reducible refine tail_kids (by omega) (by omega) ?_
               | with_reducible refine slice_kids (by omega) (by omega) (by omega) ?_
               | with_reducible refine ex_wrap (by omega) (by omega) ?_
               | with_reducible refine quo_step (by decide) (by omega) (by omega) ?_
               | with_reducible refine rem_step (by decide) ?_
               | with_reducible refine nil_row (fun _ => ?_) ?_
               | with_reducible refine nil_row2 (fun _ => ?_) ?_
               | with_reducible refine len_toks (fun _ => ?_)
               | with_reducible refine len_ints (fun _ => ?_)
               | with_reducible refine tok_known (by assumption) (by omega) ?_
               | with_reducible refine at_tok (by omega) (by omega) (fun _ _ => ?_)
               | with_reducible refine at_int (by omega) (by omega) (fun _ _ => ?_)
               | with_reducible refine slice_ints (by omega) (by omega) (by omega) ?_
               | refine ris_e hA (by decide) hb ?_
               | with_reducible refine draw_head ?_)
    all_goals exact finw rfl h
  | true =>
    repeat' (conv => whnf
             first
               | with_reducible exact quiet_same
               | with_reducible exact quiet_bool
               | with_reducible exact quiet_not
               | with_reducible refine draw_step (by kernel_rfl) ?_
               | with_reducible refine quiet_go ?_ ?_ ?_
               | with_reducible refine bcase_yes (by first | assumption | omega) ?_
               | with_reducible refine bcase_no (by first | assumption | omega) ?_
               | with_reducible refine bcase_dyes (by omega) ?_
               | with_reducible refine bcase_dno (by omega) ?_
               | with_reducible refine bcase_len (by decide) (fun _ => ?_) (fun _ => ?_)
               | with_reducible refine bcase_eq (fun _ => ?_) (fun _ => ?_)
               | with_reducible refine bcase_dec (fun _ => ?_) (fun _ => ?_)
               | with_reducible refine bcase_true ?_
               | with_reducible refine bcase_false ?_
               | with_reducible refine bcase_intro (fun _ => ?_) (fun _ => ?_)
               | with_reducible refine len_kids (fun _ => ?_)
               | with_reducible refine at_known (by assumption) (by omega) ?_
               | with_reducible refine at_kid (by omega) (by omega) (fun _ _ _ => ?_)
               | with_reducible refine tail_kids (by omega) (by omega) ?_
               | with_reducible refine slice_kids (by omega) (by omega) (by omega) ?_
               | with_reducible refine ex_wrap (by omega) (by omega) ?_
               | with_reducible refine quo_step (by decide) (by omega) (by omega) ?_
               | with_reducible refine rem_step (by decide) ?_
               | with_reducible refine nil_row (fun _ => ?_) ?_
               | with_reducible refine nil_row2 (fun _ => ?_) ?_
               | with_reducible refine len_toks (fun _ => ?_)
               | with_reducible refine len_ints (fun _ => ?_)
               | with_reducible refine tok_known (by assumption) (by omega) ?_
               | with_reducible refine at_tok (by omega) (by omega) (fun _ _ => ?_)
               | with_reducible refine at_int (by omega) (by omega) (fun _ _ => ?_)
               | with_reducible refine slice_ints (by omega) (by omega) (by omega) ?_
               | refine ris_e hA (by decide) hb ?_
               | with_reducible refine draw_head ?_)
    refine loop_h (α := List Nd × (Nd × Sta × Int) × Own) (fun x => [(5, .slice 6 (x.1.map encN) x.2.2)]) [1, 2, 4] (fun x => [(0, cellsQ x.2.1.1 x.2.1.2.1 x.2.1.2.2)]) [1] (fun x => x.2.2.st st (x.1.length * 6))
      (fun x => x.2.2.good st ∧ x.2.1.2.2 = 0 ∧ mu x.2.1.2.1 ≤ mu s ∧ x.1.length + 2 * mu x.2.1.2.1 ≤ 400000000 ∧ (x.1.length = 1 → isF x.2.1.2.1 10 [45, 62] = true) ∧ arrL A x.1 x.2.1.2.1 = arrL A [n] s) (fun x => mu x.2.1.2.1) ([n], (n, s, e0), .full)
      ⟨trivial, he, Nat.le_refl _, by show 1 + 2 * mu s ≤ _; omega, fun _ => hA, rfl⟩ (by refine ⟨rfl, ?_, ?_, rfl⟩ <;> repeat' (first | exact trivial | exact rfl | refine And.intro ?_ ?_)) (St.le_refl _) ?_
    rintro ⟨l, ⟨n3, s3, e3⟩, own⟩ ⟨j1, j2, j3, j4, j5, j6⟩
    dsimp only at j1 j2 j3 j4 j5 j6
    have hm3 : mu s3 ≤ 100000000 := by omega
    have hb3 := opn_le hm3
    have hn : l.length + 1 ≤ 1000000000 := by omega
    have hn2 : ∀ y : Nd, (l ++ [y]).length + 1 ≤ 1000000000 := fun y => by rw [List.length_append, List.length_singleton]; omega
    have hm4 : isF s3 10 [45, 62] = true → mu (nextM s3).2.1 ≤ 100000000 := fun e => by have := isF_mu e (by decide) (by decide); omega
    rw [← j6] at h
    repeat' (conv => whnf
             first
               | with_reducible exact quiet_same
               | with_reducible exact quiet_bool
               | with_reducible exact quiet_not
               | with_reducible refine draw_step (by kernel_rfl) ?_
               | with_reducible refine quiet_go ?_ ?_ ?_
               | with_reducible refine bcase_yes (by first | assumption | omega) ?_
               | with_reducible refine bcase_no (by first | assumption | omega) ?_
               | with_reducible refine bcase_dyes (by omega) ?_
               | with_reducible refine bcase_dno (by omega) ?_
               | with_reducible refine bcase_len (by decide) (fun _ => ?_) (fun _ => ?_)
               | with_reducible refine bcase_eq (fun _ => ?_) (fun _ => ?_)
               | with_reducible refine bcase_dec (fun _ => ?_) (fun _ => ?_)
               | with_reducible refine bcase_true ?_
               | with_reducible refine bcase_false ?_
               | with_reducible refine bcase_intro (fun _ => ?_) (fun _ => ?_)
               | with_reducible refine len_kids (fun _ => ?_)
               | with_reducible refine at_known (by assumption) (by omega) ?_
               | with_reducible refine at_kid (by omega) (by omega) (fun _ _ _ => ?_)
               | with_reducible refine tail_kids (by omega) (by omega) ?_
               | with_reducible refine slice_kids (by omega) (by omega) (by omega) ?_
               | with_reducible refine ex_wrap (by omega) (by omega) ?_
               | with_reducible refine quo_step (by decide) (by omega) (by omega) ?_
               | with_reducible refine rem_step (by decide) ?_
               | with_reducible refine nil_row (fun _ => ?_) ?_
               | with_reducible refine nil_row2 (fun _ => ?_) ?_
               | with_reducible refine len_toks (fun _ => ?_)
               | with_reducible refine len_ints (fun _ => ?_)
               | with_reducible refine tok_known (by assumption) (by omega) ?_
               | with_reducible refine at_tok (by omega) (by omega) (fun _ _ => ?_)
               | with_reducible refine at_int (by omega) (by omega) (fun _ _ => ?_)
               | with_reducible refine slice_ints (by omega) (by omega) (by omega) ?_
               | refine ris_c (s := s3) (by decide) hb3 ?_
               | refine rtake_e (take_is (by assumption) (by decide)) hb3 ?_
               | refine app_m (l := l) (x := leafT (nextM s3).1) j1 hn (fun own1 ho1 => ?_)
               | refine hr.q (s := (nextM s3).2.1) rfl (hm4 (by assumption)) ?_
               | refine app_m (l := l ++ [leafT (nextM s3).1]) (x := rn (rowP A (nextM s3).2.1)) ho1 (hn2 _) (fun own2 ho2 => ?_)
               | with_reducible refine draw_head ?_)
    all_goals conv => whnf
    · have hp : isF s3 10 [45, 62] = true := by assumption
      have hz : re (rowP A (nextM s3).2.1) = 0 := by assumption
      have k1 := mu_ok (bads_row hB) (falls_row hF) hz
      have k2 := isF_mu hp (by decide) (by decide)
      refine ⟨(l ++ [leafT (nextM s3).1] ++ [rn (rowP A (nextM s3).2.1)], (rn (rowP A (nextM s3).2.1), rs (rowP A (nextM s3).2.1), re (rowP A (nextM s3).2.1)), own2), ⟨ho2, hz, by show mu (rs (rowP A (nextM s3).2.1)) ≤ _; omega, ?_, ?_, ?_⟩, by show mu (rs (rowP A (nextM s3).2.1)) < mu s3; omega, (by refine ⟨rfl, ?_, ?_, rfl⟩ <;> repeat' (first | exact trivial | exact rfl | refine And.intro ?_ ?_)), St.le_refl _⟩
      · show (l ++ [leafT (nextM s3).1] ++ [rn (rowP A (nextM s3).2.1)]).length + 2 * mu (rs (rowP A (nextM s3).2.1)) ≤ _
        simp only [List.length_append, List.length_singleton]
        omega
      · intro e
        have e : (l ++ [leafT (nextM s3).1] ++ [rn (rowP A (nextM s3).2.1)]).length = 1 := e
        simp only [List.length_append, List.length_singleton] at e
        omega
      · show arrL A (l ++ [leafT (nextM s3).1] ++ [rn (rowP A (nextM s3).2.1)]) (rs (rowP A (nextM s3).2.1)) = _
        rw [← j6, ← arrL_ok hB hF hp hz]
    · have hp : isF s3 10 [45, 62] = true := by assumption
      have hz : ¬ re (rowP A (nextM s3).2.1) = 0 := by assumption
      rw [arrL_bad2 hp hz] at h
      have h : R (.ret (encQ nd0 (rs (rowP A (nextM s3).2.1)) (re (rowP A (nextM s3).2.1)))) st := h
      rw [← rn_bad hz] at h
      exact finl (Own.good_le ho1) rfl h
    · have hp : isF s3 10 [45, 62] = false := by assumption
      have hl : ¬ l.length = 1 := fun e => by rw [j5 e] at hp; cases hp
      rw [arrL_n hp] at h
      dsimp only at h
      rw [if_neg hl] at h
      have h : R (.ret (encQ (nodeK 37 l) s3 e3)) st := by rw [j2]; exact h
      exact finl (Own.good_le j1) fin_nodeQ h
theorem rarrows_q {d : Int} {A : Sta → Rs} (hr : RCalls 32 d (rowP A)) (hB : Bads A) (hF : Falls A) {n : Nd} {s : Sta} {e0 : Int} (he : e0 = 0) (hm : mu s ≤ 100000000) (h : R (.ret (encQ (rn (arrowsP A n s)) (rs (arrowsP A n s)) (re (arrowsP A n s)))) st) :
    PC 31 [encQ n s e0, .int .i64 d] st R := rarrows_c hr hB hF he hm (by rw [encRs_eq]; exact h)

theorem rclean_q {q : Rs} (h : R (.ret (encQ (rn q) (rs q) (re q))) st) : PC 30 [encQ (rn q) (rs q) (re q)] st R := by
  by_cases hz : re q = 0
  · rw [hz] at h ⊢; exact clean_ok h
  · rw [rn_bad hz] at h ⊢; exact clean_bad hz h

/-- an exported reading of the document -/
def docR (s : Sta) (deep : Int) (q : Rs) : Rs := if deep < 1 then .inl (2, s) else q
theorem rtype_c {deep : Int} {A : Sta → Rs} (hr : ¬ deep < 1 → RCalls 32 (if 100 < deep then 100 else deep) (rowP A)) (hB : Bads A) (hF : Falls A) {s : Sta} (hm : mu s ≤ 100000000) (h : R (.ret (encRs (docR s deep (wholeP A s)))) st) :
    PC 13 [encS s, .int .i64 deep] st R := by
  refine pcalls_of_body tys_ok [] Try.func13 rfl (by decide) ?_
  unfold docR at h
  by_cases hd : deep < 1
  · rw [if_pos hd] at h
    repeat' (conv => whnf
             first
               | with_reducible exact quiet_same
               | with_reducible exact quiet_bool
               | with_reducible exact quiet_not
               | with_reducible refine draw_step (by kernel_rfl) ?_
               | with_reducible refine quiet_go ?_ ?_ ?_
               | with_reducible refine bcase_yes (by first | assumption | omega) ?_
               | with_reducible refine bcase_no (by first | assumption | omega) ?_
               | with_reducible refine bcase_dyes (by omega) ?_
               | with_reducible refine bcase_dno (by omega) ?_
               | with_reducible refine bcase_len (by decide) (fun _ => ?_) (fun _ => ?_)
               | with_reducible refine bcase_eq (fun _ => ?_) (fun _ => ?_)
               | with_reducible refine bcase_dec (fun _ => ?_) (fun _ => ?_)
               | with_reducible refine bcase_true ?_
               | with_reducible refine bcase_false ?_
               | with_reducible refine bcase_intro (fun _ => ?_) (fun _ => ?_)
               | with_reducible refine len_kids (fun _ => ?_)
               | with_reducible refine at_known (by assumption) (by omega) ?_
               | with_reducible refine at_kid (by omega) (by omega) (fun _ _ _ => ?_)
               | with_reducible refine tail_kids (by omega) (by omega) ?_
               | with_reducible refine slice_kids (by omega) (by omega) (by omega) ?_
               | with_reducible refine ex_wrap (by omega) (by omega) ?_
               | with_reducible refine quo_step (by decide) (by omega) (by omega) ?_
               | with_reducible refine rem_step (by decide) ?_
               | with_reducible refine nil_row (fun _ => ?_) ?_
               | with_reducible refine nil_row2 (fun _ => ?_) ?_
               | with_reducible refine len_toks (fun _ => ?_)
               | with_reducible refine len_ints (fun _ => ?_)
               | with_reducible refine tok_known (by assumption) (by omega) ?_
               | with_reducible refine at_tok (by omega) (by omega) (fun _ _ => ?_)
               | with_reducible refine at_int (by omega) (by omega) (fun _ _ => ?_)
               | with_reducible refine slice_ints (by omega) (by omega) (by omega) ?_
               | refine rdeep_c ?_
               | with_reducible refine draw_head ?_)
    all_goals exact finw rfl h
  · rw [if_neg hd, encRs_eq] at h
    by_cases hz : re (rowP A s) = 0
    · have hm1 : mu (rs (rowP A s)) ≤ 100000000 := by have := mu_ok (bads_row hB) (falls_row hF) hz; omega
      rw [whole_q hB hz] at h
      repeat' (conv => whnf
               first
                 | with_reducible exact quiet_same
                 | with_reducible exact quiet_bool
                 | with_reducible exact quiet_not
                 | with_reducible refine draw_step (by kernel_rfl) ?_
                 | with_reducible refine quiet_go ?_ ?_ ?_
                 | with_reducible refine bcase_yes (by first | assumption | omega) ?_
                 | with_reducible refine bcase_no (by first | assumption | omega) ?_
                 | with_reducible refine bcase_dyes (by omega) ?_
                 | with_reducible refine bcase_dno (by omega) ?_
                 | with_reducible refine bcase_len (by decide) (fun _ => ?_) (fun _ => ?_)
                 | with_reducible refine bcase_eq (fun _ => ?_) (fun _ => ?_)
                 | with_reducible refine bcase_dec (fun _ => ?_) (fun _ => ?_)
                 | with_reducible refine bcase_true ?_
                 | with_reducible refine bcase_false ?_
                 | with_reducible refine bcase_intro (fun _ => ?_) (fun _ => ?_)
                 | with_reducible refine len_kids (fun _ => ?_)
                 | with_reducible refine at_known (by assumption) (by omega) ?_
                 | with_reducible refine at_kid (by omega) (by omega) (fun _ _ _ => ?_)
                 | with_reducible refine tail_kids (by omega) (by omega) ?_
                 | with_reducible refine slice_kids (by omega) (by omega) (by omega) ?_
                 | with_reducible refine ex_wrap (by omega) (by omega) ?_
                 | with_reducible refine quo_step (by decide) (by omega) (by omega) ?_
                 | with_reducible refine rem_step (by decide) ?_
                 | with_reducible refine nil_row (fun _ => ?_) ?_
                 | with_reducible refine nil_row2 (fun _ => ?_) ?_
                 | with_reducible refine len_toks (fun _ => ?_)
                 | with_reducible refine len_ints (fun _ => ?_)
                 | with_reducible refine tok_known (by assumption) (by omega) ?_
                 | with_reducible refine at_tok (by omega) (by omega) (fun _ _ => ?_)
                 | with_reducible refine at_int (by omega) (by omega) (fun _ _ => ?_)
                 | with_reducible refine slice_ints (by omega) (by omega) (by omega) ?_
                 | refine limit_c hd ?_
                 | refine (hr hd).q rfl hm ?_
                 | refine rarrows_q (hr hd) hB hF hz hm1 ?_
                 | refine rclean_q (q := arrowsP A (rn (rowP A s)) (rs (rowP A s))) ?_
                 | with_reducible refine draw_head ?_)
      all_goals exact finw rfl h
    · have e : wholeP A s = rowP A s := by rw [whole_bad hz]; exact (inl_of hz).symm
      rw [e] at h
      repeat' (conv => whnf
               first
                 | with_reducible exact quiet_same
                 | with_reducible exact quiet_bool
                 | with_reducible exact quiet_not
                 | with_reducible refine draw_step (by kernel_rfl) ?_
                 | with_reducible refine quiet_go ?_ ?_ ?_
                 | with_reducible refine bcase_yes (by first | assumption | omega) ?_
                 | with_reducible refine bcase_no (by first | assumption | omega) ?_
                 | with_reducible refine bcase_dyes (by omega) ?_
                 | with_reducible refine bcase_dno (by omega) ?_
                 | with_reducible refine bcase_len (by decide) (fun _ => ?_) (fun _ => ?_)
                 | with_reducible refine bcase_eq (fun _ => ?_) (fun _ => ?_)
                 | with_reducible refine bcase_dec (fun _ => ?_) (fun _ => ?_)
                 | with_reducible refine bcase_true ?_
                 | with_reducible refine bcase_false ?_
                 | with_reducible refine bcase_intro (fun _ => ?_) (fun _ => ?_)
                 | with_reducible refine len_kids (fun _ => ?_)
                 | with_reducible refine at_known (by assumption) (by omega) ?_
                 | with_reducible refine at_kid (by omega) (by omega) (fun _ _ _ => ?_)
                 | with_reducible refine tail_kids (by omega) (by omega) ?_
                 | with_reducible refine slice_kids (by omega) (by omega) (by omega) ?_
                 | with_reducible refine ex_wrap (by omega) (by omega) ?_
                 | with_reducible refine quo_step (by decide) (by omega) (by omega) ?_
                 | with_reducible refine rem_step (by decide) ?_
                 | with_reducible refine nil_row (fun _ => ?_) ?_
                 | with_reducible refine nil_row2 (fun _ => ?_) ?_
                 | with_reducible refine len_toks (fun _ => ?_)
                 | with_reducible refine len_ints (fun _ => ?_)
                 | with_reducible refine tok_known (by assumption) (by omega) ?_
                 | with_reducible refine at_tok (by omega) (by omega) (fun _ _ => ?_)
                 | with_reducible refine at_int (by omega) (by omega) (fun _ _ => ?_)
                 | with_reducible refine slice_ints (by omega) (by omega) (by omega) ?_
                 | refine limit_c hd ?_
                 | refine (hr hd).q rfl hm ?_
                 | refine rarrows_bad (n := rn (rowP A s)) (s := rs (rowP A s)) hz ?_
                 | refine rclean_q (q := rowP A s) ?_
                 | with_reducible refine draw_head ?_)
      all_goals exact finw rfl h
theorem ratomX_c {deep : Int} {A : Sta → Rs} (hr : ¬ deep < 1 → RCalls 38 (if 100 < deep then 100 else deep) A) {s : Sta} (hm : mu s ≤ 100000000) (h : R (.ret (encRs (docR s deep (A s)))) st) :
    PC 19 [encS s, .int .i64 deep] st R := by
  refine pcalls_of_body tys_ok [] Try.func19 rfl (by decide) ?_
  unfold docR at h
  by_cases hd : deep < 1
  · rw [if_pos hd] at h
    repeat' (conv => whnf
             first
               | with_reducible exact quiet_same
               | with_reducible exact quiet_bool
               | with_reducible exact quiet_not
               | with_reducible refine draw_step (by kernel_rfl) ?_
               | with_reducible refine quiet_go ?_ ?_ ?_
               | with_reducible refine bcase_yes (by first | assumption | omega) ?_
               | with_reducible refine bcase_no (by first | assumption | omega) ?_
               | with_reducible refine bcase_dyes (by omega) ?_
               | with_reducible refine bcase_dno (by omega) ?_
               | with_reducible refine bcase_len (by decide) (fun _ => ?_) (fun _ => ?_)
               | with_reducible refine bcase_eq (fun _ => ?_) (fun _ => ?_)
               | with_reducible refine bcase_dec (fun _ => ?_) (fun _ => ?_)
               | with_reducible refine bcase_true ?_
               | with_reducible refine bcase_false ?_
               | with_reducible refine bcase_intro (fun _ => ?_) (fun _ => ?_)
               | with_reducible refine len_kids (fun _ => ?_)
               | with_reducible refine at_known (by assumption) (by omega) ?_
               | with_reducible refine at_kid (by omega) (by omega) (fun _ _ _ => ?_)
               | with_reducible refine tail_kids (by omega) (by omega) ?_
               | with_reducible refine slice_kids (by omega) (by omega) (by omega) ?_
               | with_reducible refine ex_wrap (by omega) (by omega) ?_
               | with_reducible refine quo_step (by decide) (by omega) (by omega) ?_
               | with_reducible refine rem_step (by decide) ?_
               | with_reducible refine nil_row (fun _ => ?_) ?_
               | with_reducible refine nil_row2 (fun _ => ?_) ?_
               | with_reducible refine len_toks (fun _ => ?_)
               | with_reducible refine len_ints (fun _ => ?_)
               | with_reducible refine tok_known (by assumption) (by omega) ?_
               | with_reducible refine at_tok (by omega) (by omega) (fun _ _ => ?_)
               | with_reducible refine at_int (by omega) (by omega) (fun _ _ => ?_)
               | with_reducible refine slice_ints (by omega) (by omega) (by omega) ?_
               | refine rdeep_c ?_
               | with_reducible refine draw_head ?_)
    all_goals exact finw rfl h
  · rw [if_neg hd, encRs_eq] at h
    repeat' (conv => whnf
             first
               | with_reducible exact quiet_same
               | with_reducible exact quiet_bool
               | with_reducible exact quiet_not
               | with_reducible refine draw_step (by kernel_rfl) ?_
               | with_reducible refine quiet_go ?_ ?_ ?_
               | with_reducible refine bcase_yes (by first | assumption | omega) ?_
               | with_reducible refine bcase_no (by first | assumption | omega) ?_
               | with_reducible refine bcase_dyes (by omega) ?_
               | with_reducible refine bcase_dno (by omega) ?_
               | with_reducible refine bcase_len (by decide) (fun _ => ?_) (fun _ => ?_)
               | with_reducible refine bcase_eq (fun _ => ?_) (fun _ => ?_)
               | with_reducible refine bcase_dec (fun _ => ?_) (fun _ => ?_)
               | with_reducible refine bcase_true ?_
               | with_reducible refine bcase_false ?_
               | with_reducible refine bcase_intro (fun _ => ?_) (fun _ => ?_)
               | with_reducible refine len_kids (fun _ => ?_)
               | with_reducible refine at_known (by assumption) (by omega) ?_
               | with_reducible refine at_kid (by omega) (by omega) (fun _ _ _ => ?_)
               | with_reducible refine tail_kids (by omega) (by omega) ?_
               | with_reducible refine slice_kids (by omega) (by omega) (by omega) ?_
               | with_reducible refine ex_wrap (by omega) (by omega) ?_
               | with_reducible refine quo_step (by decide) (by omega) (by omega) ?_
               | with_reducible refine rem_step (by decide) ?_
               | with_reducible refine nil_row (fun _ => ?_) ?_
               | with_reducible refine nil_row2 (fun _ => ?_) ?_
               | with_reducible refine len_toks (fun _ => ?_)
               | with_reducible refine len_ints (fun _ => ?_)
               | with_reducible refine tok_known (by assumption) (by omega) ?_
               | with_reducible refine at_tok (by omega) (by omega) (fun _ _ => ?_)
               | with_reducible refine at_int (by omega) (by omega) (fun _ _ => ?_)
               | with_reducible refine slice_ints (by omega) (by omega) (by omega) ?_
               | refine limit_c hd ?_
               | refine (hr hd).q rfl hm ?_
               | refine rclean_q (q := A s) ?_
               | with_reducible refine draw_head ?_)
    all_goals exact finw rfl h
theorem rrowX_c {deep : Int} {A : Sta → Rs} (hr : ¬ deep < 1 → RCalls 32 (if 100 < deep then 100 else deep) A) {s : Sta} (hm : mu s ≤ 100000000) (h : R (.ret (encRs (docR s deep (A s)))) st) :
    PC 21 [encS s, .int .i64 deep] st R := by
  refine pcalls_of_body tys_ok [] Try.func21 rfl (by decide) ?_
  unfold docR at h
  by_cases hd : deep < 1
  · rw [if_pos hd] at h
    repeat' (conv => whnf
             first
               | with_reducible exact quiet_same
               | with_reducible exact quiet_bool
               | with_reducible exact quiet_not
               | with_reducible refine draw_step (by kernel_rfl) ?_
               | with_reducible refine quiet_go ?_ ?_ ?_
               | with_reducible refine bcase_yes (by first | assumption | omega) ?_
               | with_reducible refine bcase_no (by first | assumption | omega) ?_
               | with_reducible refine bcase_dyes (by omega) ?_
               | with_reducible refine bcase_dno (by omega) ?_
               | with_reducible refine bcase_len (by decide) (fun _ => ?_) (fun _ => ?_)
               | with_reducible refine bcase_eq (fun _ => ?_) (fun _ => ?_)
               | with_reducible refine bcase_dec (fun _ => ?_) (fun _ => ?_)
               | with_reducible refine bcase_true ?_
               | with_reducible refine bcase_false ?_
               | with_reducible refine bcase_intro (fun _ => ?_) (fun _ => ?_)
               | with_reducible refine len_kids (fun _ => ?_)
               | with_reducible refine at_known (by assumption) (by omega) ?_
               | with_reducible refine at_kid (by omega) (by omega) (fun _ _ _ => ?_)
               | with_reducible refine tail_kids (by omega) (by omega) ?_
               | with_reducible refine slice_kids (by omega) (by omega) (by omega) ?_
               | with_reducible refine ex_wrap (by omega) (by omega) ?_
               | with_reducible refine quo_step (by decide) (by omega) (by omega) ?_
               | with_reducible refine rem_step (by decide) ?_
               | with_reducible refine nil_row (fun _ => ?_) ?_
               | with_reducible refine nil_row2 (fun _ => ?_) ?_
               | with_reducible refine len_toks (fun _ => ?_)
               | with_reducible refine len_ints (fun _ => ?_)
               | with_reducible refine tok_known (by assumption) (by omega) ?_
               | with_reducible refine at_tok (by omega) (by omega) (fun _ _ => ?_)
               | with_reducible refine at_int (by omega) (by omega) (fun _ _ => ?_)
               | with_reducible refine slice_ints (by omega) (by omega) (by omega) ?_
               | refine rdeep_c ?_
               | with_reducible refine draw_head ?_)
    all_goals exact finw rfl h
  · rw [if_neg hd, encRs_eq] at h
    repeat' (conv => whnf
             first
               | with_reducible exact quiet_same
               | with_reducible exact quiet_bool
               | with_reducible exact quiet_not
               | with_reducible refine draw_step (by kernel_rfl) ?_
               | with_reducible refine quiet_go ?_ ?_ ?_
               | with_reducible refine bcase_yes (by first | assumption | omega) ?_
               | with_reducible refine bcase_no (by first | assumption | omega) ?_
               | with_reducible refine bcase_dyes (by omega) ?_
               | with_reducible refine bcase_dno (by omega) ?_
               | with_reducible refine bcase_len (by decide) (fun _ => ?_) (fun _ => ?_)
               | with_reducible refine bcase_eq (fun _ => ?_) (fun _ => ?_)
               | with_reducible refine bcase_dec (fun _ => ?_) (fun _ => ?_)
               | with_reducible refine bcase_true ?_
               | with_reducible refine bcase_false ?_
               | with_reducible refine bcase_intro (fun _ => ?_) (fun _ => ?_)
               | with_reducible refine len_kids (fun _ => ?_)
               | with_reducible refine at_known (by assumption) (by omega) ?_
               | with_reducible refine at_kid (by omega) (by omega) (fun _ _ _ => ?_)
               | with_reducible refine tail_kids (by omega) (by omega) ?_
               | with_reducible refine slice_kids (by omega) (by omega) (by omega) ?_
               | with_reducible refine ex_wrap (by omega) (by omega) ?_
               | with_reducible refine quo_step (by decide) (by omega) (by omega) ?_
               | with_reducible refine rem_step (by decide) ?_
               | with_reducible refine nil_row (fun _ => ?_) ?_
               | with_reducible refine nil_row2 (fun _ => ?_) ?_
               | with_reducible refine len_toks (fun _ => ?_)
               | with_reducible refine len_ints (fun _ => ?_)
               | with_reducible refine tok_known (by assumption) (by omega) ?_
               | with_reducible refine at_tok (by omega) (by omega) (fun _ _ => ?_)
               | with_reducible refine at_int (by omega) (by omega) (fun _ _ => ?_)
               | with_reducible refine slice_ints (by omega) (by omega) (by omega) ?_
               | refine limit_c hd ?_
               | refine (hr hd).q rfl hm ?_
               | refine rclean_q (q := A s) ?_
               | with_reducible refine draw_head ?_)
    all_goals exact finw rfl h
end
end Go.Proofs.Ytngbihfihdheoaa
