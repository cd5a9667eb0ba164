/-
  TYPES: the document's atom, row, arrows.
-/
import Derived.Test.YtngbihfihdheoaaRef4
set_option linter.unusedVariables false
set_option pp.maxSteps 400
namespace Go.Proofs.Ytngbihfihdheoaa
open Go Go.Aw
section
variable {st : St} {R : Res → St → Prop}
attribute [local irreducible] Go.Aw.appendTo
theorem rstarts_e {t : Tk} {v : Bool} (e : startsF t = v) (h : R (.ret (.bool v)) st) : PC 46 [encT t] st R := rstarts_c (by rw [e]; exact h)
theorem rbad_q {s : Sta} (hb : s.opn.length ≤ 500000000) (h : R (.ret (encQ (rn (badP s)) (rs (badP s)) (re (badP s)))) st) : PC 56 [encS s] st R := rbad_c hb (by rw [encRs_eq]; exact h)
theorem rround_q {d : Nat} {x : Int} (hx : x = ((d + 1 : Nat) : Int)) (hd : d ≤ 1000000) {Y : Sta → Rs} (hY : RCalls 13 d Y) (hB : Bads Y) (hF : Falls Y) {n1 : Nd} {s : Sta} (hm : mu s ≤ 100000000) (h : R (.ret (encQ (rn (roundQ Y n1 s)) (rs (roundQ Y n1 s)) (re (roundQ Y n1 s)))) st) :
    PC 57 [.slice 6 [encN n1] .full, encS s, .int .i64 x] st R := rround_c hx hd hY hB hF hm (by rw [encRs_eq]; exact h)
theorem take_ok {s : Sta} (h : (nextM s).2.2 = 0) : takeP s = .inr (leafT (nextM s).1, (nextM s).2.1) := by unfold takeP; rw [if_pos h]
theorem take_no {s : Sta} (h : ¬ (nextM s).2.2 = 0) : takeP s = .inl ((nextM s).2.2, s) := by unfold takeP; rw [if_neg h]
theorem atomP_no {Y : Sta → Rs} {s : Sta} (h : ¬ (nextM s).2.2 = 0) : atomP Y s = takeP s := by
  unfold atomP
  rw [next_err h, if_neg (by decide), take_no h]
  unfold badP badE
  rw [if_neg h]
theorem ratom_c {d : Nat} {x : Int} (hx : x = ((d + 1 : Nat) : Int)) (hd : d ≤ 1000000) {Y : Sta → Rs} (hY : RCalls 13 d Y) (hB : Bads Y) (hF : Falls Y) : RCalls 38 x (atomP Y) := by
  intro s hm st R h
  refine pcalls_of_body tys_ok [] Try.func38 rfl (by decide) ?_
  have hb := opn_le hm
  rw [encRs_eq] at h
  by_cases ht : (nextM s).2.2 = 0
  · have hq := take_ok ht
    have hm1 : mu (nextM s).2.1 ≤ 100000000 := by have := (next_mu ht).1; omega
    have hb1 := opn_le hm1
    cases hS : startsF (nextM s).1 with
    | false =>
      have e : atomP Y s = badP s := by unfold atomP; rw [if_neg (by rw [hS]; decide)]
      rw [e] at h
      repeat' (conv => whnf
               first
                 | with_reducible exact quiet_same
                 | with_reducible exact quiet_bool
                 | with_reducible exact quiet_not
                 | with_reducible refine draw_step (by kernel_rfl) ?_
                 | with_reducible refine quiet_go ?_ ?_ ?_
                 | with_reducible refine bcase_yes (by first | assumption | omega) ?_
                 | with_reducible refine bcase_no (by first | assumption | omega) ?_
                 | with_reducible refine bcase_dyes (by omega) ?_
                 | with_reducible refine bcase_dno (by omega) ?_
                 | with_reducible refine bcase_len (by decide) (fun _ => ?_) (fun _ => ?_)
                 | with_reducible refine bcase_eq (fun _ => ?_) (fun _ => ?_)
                 | with_reducible refine bcase_dec (fun _ => ?_) (fun _ => ?_)
                 | with_reducible refine bcase_true ?_
                 | with_reducible refine bcase_false ?_
                 | with_reducible refine bcase_intro (fun _ => ?_) (fun _ => ?_)
                 | with_reducible refine len_kids (fun _ => ?_)
                 | with_reducible refine at_known (by assumption) (by omega) ?_
                 | with_reducible refine at_kid (by omega) (by omega) (fun _ _ _ => ?_)
                 | with_reducible refine tail_kids (by omega) (by omega) ?_
                 | with_reducible refine slice_kids (by omega) (by omega) (by omega) ?_
                 | with_reducible refine ex_wrap (by omega) (by omega) ?_
                 | with_reducible refine quo_step (by decide) (by omega) (by omega) ?_
                 | with_reducible refine rem_step (by decide) ?_
                 | with_reducible refine nil_row (fun _ => ?_) ?_
                 | with_reducible refine nil_row2 (fun _ => ?_) ?_
                 | with_reducible refine len_toks (fun _ => ?_)
                 | with_reducible refine len_ints (fun _ => ?_)
                 | with_reducible refine tok_known (by assumption) (by omega) ?_
                 | with_reducible refine at_tok (by omega) (by omega) (fun _ _ => ?_)
                 | with_reducible refine at_int (by omega) (by omega) (fun _ _ => ?_)
                 | with_reducible refine slice_ints (by omega) (by omega) (by omega) ?_
                 | refine rtake_e hq hb ?_
                 | refine rpeek_c hb ?_
                 | refine rstarts_e hS ?_
                 | refine rbad_q hb ?_
                 | with_reducible refine draw_head ?_)
      all_goals exact finw rfl h
    | true =>
      by_cases hk : (nextM s).1.kind = 15
      · have hk1 : (leafT (nextM s).1).form = 15 := hk
        by_cases ho : (nextM s).1.text = [40]
        · have ho1 : (leafT (nextM s).1).text = [40] := ho
          have e : atomP Y s = roundQ Y (leafT (nextM s).1) (nextM s).2.1 := by
            unfold atomP; rw [if_pos hS, if_pos hk, if_pos ho, roundP_q, hq]
          rw [e] at h
          repeat' (conv => whnf
                   first
                     | with_reducible exact quiet_same
                     | with_reducible exact quiet_bool
                     | with_reducible exact quiet_not
                     | with_reducible refine draw_step (by kernel_rfl) ?_
                     | with_reducible refine quiet_go ?_ ?_ ?_
                     | with_reducible refine bcase_yes (by first | assumption | omega) ?_
                     | with_reducible refine bcase_no (by first | assumption | omega) ?_
                     | with_reducible refine bcase_dyes (by omega) ?_
                     | with_reducible refine bcase_dno (by omega) ?_
                     | with_reducible refine bcase_len (by decide) (fun _ => ?_) (fun _ => ?_)
                     | with_reducible refine bcase_eq (fun _ => ?_) (fun _ => ?_)
                     | with_reducible refine bcase_dec (fun _ => ?_) (fun _ => ?_)
                     | with_reducible refine bcase_true ?_
                     | with_reducible refine bcase_false ?_
                     | with_reducible refine bcase_intro (fun _ => ?_) (fun _ => ?_)
                     | with_reducible refine len_kids (fun _ => ?_)
                     | with_reducible refine at_known (by assumption) (by omega) ?_
                     | with_reducible refine at_kid (by omega) (by omega) (fun _ _ _ => ?_)
                     | with_reducible refine tail_kids (by omega) (by omega) ?_
                     | with_reducible refine slice_kids (by omega) (by omega) (by omega) ?_
                     | with_reducible refine ex_wrap (by omega) (by omega) ?_
                     | with_reducible refine quo_step (by decide) (by omega) (by omega) ?_
                     | with_reducible refine rem_step (by decide) ?_
                     | with_reducible refine nil_row (fun _ => ?_) ?_
                     | with_reducible refine nil_row2 (fun _ => ?_) ?_
                     | with_reducible refine len_toks (fun _ => ?_)
                     | with_reducible refine len_ints (fun _ => ?_)
                     | with_reducible refine tok_known (by assumption) (by omega) ?_
                     | with_reducible refine at_tok (by omega) (by omega) (fun _ _ => ?_)
                     | with_reducible refine at_int (by omega) (by omega) (fun _ _ => ?_)
                     | with_reducible refine slice_ints (by omega) (by omega) (by omega) ?_
                     | refine rtake_e hq hb ?_
                     | refine rpeek_c hb ?_
                     | refine rstarts_e hS ?_
                     | refine rround_q (n1 := leafT (nextM s).1) hx hd hY hB hF hm1 ?_
                     | with_reducible refine draw_head ?_)
          all_goals exact finw rfl h
        · have hsq : (nextM s).1.text = [91] := by
            unfold startsF at hS
            simp only [hk] at hS
            simp at hS
            exact hS.resolve_left ho
          have hs1 : (leafT (nextM s).1).text = [91] := hsq
          have hs2 : ¬ (leafT (nextM s).1).text = [40] := ho
          have e : atomP Y s = squareP Y s := by
            unfold atomP; rw [if_pos hS, if_pos hk, if_neg ho]
          rw [e] at h
          unfold squareP at h
          rw [hq] at h
          dsimp only at h
          have hn1 : [leafT (nextM s).1].length + 1 ≤ 1000000000 := by show 1 + 1 ≤ 1000000000; decide
          have hn2 : ∀ y : Nd, ([leafT (nextM s).1] ++ [y]).length + 1 ≤ 1000000000 := fun y => by show 2 + 1 ≤ 1000000000; decide
          cases hC : isF (nextM s).2.1 15 [93] with
          | true =>
            rw [if_pos hC] at h
            have hw : wantP (nextM s).2.1 15 [93] = .inr (leafT (nextM (nextM s).2.1).1, (nextM (nextM s).2.1).2.1) := by unfold wantP; rw [if_pos hC, take_is hC (by decide)]
            repeat' (conv => whnf
                     first
                       | with_reducible exact quiet_same
                       | with_reducible exact quiet_bool
                       | with_reducible exact quiet_not
                       | with_reducible refine draw_step (by kernel_rfl) ?_
                       | with_reducible refine quiet_go ?_ ?_ ?_
                       | with_reducible refine bcase_yes (by first | assumption | omega) ?_
                       | with_reducible refine bcase_no (by first | assumption | omega) ?_
                       | with_reducible refine bcase_dyes (by omega) ?_
                       | with_reducible refine bcase_dno (by omega) ?_
                       | with_reducible refine bcase_len (by decide) (fun _ => ?_) (fun _ => ?_)
                       | with_reducible refine bcase_eq (fun _ => ?_) (fun _ => ?_)
                       | with_reducible refine bcase_dec (fun _ => ?_) (fun _ => ?_)
                       | with_reducible refine bcase_true ?_
                       | with_reducible refine bcase_false ?_
                       | with_reducible refine bcase_intro (fun _ => ?_) (fun _ => ?_)
                       | with_reducible refine len_kids (fun _ => ?_)
                       | with_reducible refine at_known (by assumption) (by omega) ?_
                       | with_reducible refine at_kid (by omega) (by omega) (fun _ _ _ => ?_)
                       | with_reducible refine tail_kids (by omega) (by omega) ?_
                       | with_reducible refine slice_kids (by omega) (by omega) (by omega) ?_
                       | with_reducible refine ex_wrap (by omega) (by omega) ?_
                       | with_reducible refine quo_step (by decide) (by omega) (by omega) ?_
                       | with_reducible refine rem_step (by decide) ?_
                       | with_reducible refine nil_row (fun _ => ?_) ?_
                       | with_reducible refine nil_row2 (fun _ => ?_) ?_
                       | with_reducible refine len_toks (fun _ => ?_)
                       | with_reducible refine len_ints (fun _ => ?_)
                       | with_reducible refine tok_known (by assumption) (by omega) ?_
                       | with_reducible refine at_tok (by omega) (by omega) (fun _ _ => ?_)
                       | with_reducible refine at_int (by omega) (by omega) (fun _ _ => ?_)
                       | with_reducible refine slice_ints (by omega) (by omega) (by omega) ?_
                       | refine rtake_e hq hb ?_
                       | refine rpeek_c hb ?_
                       | refine rstarts_e hS ?_
                       | refine ris_e hC (by decide) hb1 ?_
                       | refine rwant_e hw (by decide) hb1 ?_
                       | refine app_m (l := [leafT (nextM s).1]) (x := leafT (nextM (nextM s).2.1).1) (own := .full) trivial hn1 (fun own1 ho1 => ?_)
                       | with_reducible refine draw_head ?_)
            all_goals exact finl (Own.good_le ho1) (fin_nodeQ (l := [leafT (nextM s).1] ++ [leafT (nextM (nextM s).2.1).1])) h
          | false =>
            rw [if_neg (by rw [hC]; decide)] at h
            have hd4 : re (Y (nextM s).2.1) = 0 → mu (rs (Y (nextM s).2.1)) < mu (nextM s).2.1 := mu_ok hB hF
            have hm4 : re (Y (nextM s).2.1) = 0 → mu (rs (Y (nextM s).2.1)) ≤ 100000000 := fun e => by have := hd4 e; omega
            repeat' (conv => whnf
                     first
                       | with_reducible exact quiet_same
                       | with_reducible exact quiet_bool
                       | with_reducible exact quiet_not
                       | with_reducible refine draw_step (by kernel_rfl) ?_
                       | with_reducible refine quiet_go ?_ ?_ ?_
                       | with_reducible refine bcase_yes (by first | assumption | omega) ?_
                       | with_reducible refine bcase_no (by first | assumption | omega) ?_
                       | with_reducible refine bcase_dyes (by omega) ?_
                       | with_reducible refine bcase_dno (by omega) ?_
                       | with_reducible refine bcase_len (by decide) (fun _ => ?_) (fun _ => ?_)
                       | with_reducible refine bcase_eq (fun _ => ?_) (fun _ => ?_)
                       | with_reducible refine bcase_dec (fun _ => ?_) (fun _ => ?_)
                       | with_reducible refine bcase_true ?_
                       | with_reducible refine bcase_false ?_
                       | with_reducible refine bcase_intro (fun _ => ?_) (fun _ => ?_)
                       | with_reducible refine len_kids (fun _ => ?_)
                       | with_reducible refine at_known (by assumption) (by omega) ?_
                       | with_reducible refine at_kid (by omega) (by omega) (fun _ _ _ => ?_)
                       | with_reducible refine tail_kids (by omega) (by omega) ?_
                       | with_reducible refine slice_kids (by omega) (by omega) (by omega) ?_
                       | with_reducible refine ex_wrap (by omega) (by omega) ?_
                       | with_reducible refine quo_step (by decide) (by omega) (by omega) ?_
                       | with_reducible refine rem_step (by decide) ?_
                       | with_reducible refine nil_row (fun _ => ?_) ?_
                       | with_reducible refine nil_row2 (fun _ => ?_) ?_
                       | with_reducible refine len_toks (fun _ => ?_)
                       | with_reducible refine len_ints (fun _ => ?_)
                       | with_reducible refine tok_known (by assumption) (by omega) ?_
                       | with_reducible refine at_tok (by omega) (by omega) (fun _ _ => ?_)
                       | with_reducible refine at_int (by omega) (by omega) (fun _ _ => ?_)
                       | with_reducible refine slice_ints (by omega) (by omega) (by omega) ?_
                       | refine rtake_e hq hb ?_
                       | refine rpeek_c hb ?_
                       | refine rstarts_e hS ?_
                       | refine ris_e hC (by decide) hb1 ?_
                       | refine hY.q (by omega) hm1 ?_
                       | refine rwant_q (s := rs (Y (nextM s).2.1)) (by decide) (opn_le (hm4 (by assumption))) ?_
                       | refine app_m (l := [leafT (nextM s).1]) (x := rn (Y (nextM s).2.1)) (own := .full) trivial hn1 (fun own1 ho1 => ?_)
                       | refine app_m (l := [leafT (nextM s).1] ++ [rn (Y (nextM s).2.1)]) (x := rn (wantP (rs (Y (nextM s).2.1)) 15 [93])) ho1 (hn2 _) (fun own2 ho2 => ?_)
                       | with_reducible refine draw_head ?_)
            · rw [inr_of hB (by assumption)] at h
              dsimp only at h
              rw [← encRs_eq] at h
              have h : R (.ret (encRs (finP 6 ([leafT (nextM s).1] ++ [rn (Y (nextM s).2.1)]) (rs (Y (nextM s).2.1)) [93]))) st := h
              rw [finP_ok (by assumption)] at h
              exact finl (Own.good_le ho2) fin_nodeQ h
            · rw [inr_of hB (by assumption)] at h
              dsimp only at h
              rw [← encRs_eq] at h
              have h : R (.ret (encRs (finP 6 ([leafT (nextM s).1] ++ [rn (Y (nextM s).2.1)]) (rs (Y (nextM s).2.1)) [93]))) st := h
              rw [finP_bad (by assumption)] at h
              exact finl (Own.good_le ho1) rfl h
            · have hy : ¬ re (Y (nextM s).2.1) = 0 := by assumption
              rw [← encRs_eq, inl_of hy] at h
              have h : R (.ret (encQ nd0 (rs (Y (nextM s).2.1)) (re (Y (nextM s).2.1)))) st := h
              rw [← rn_bad hy] at h
              exact finw rfl h
      · have hk1 : ¬ (leafT (nextM s).1).form = 15 := hk
        have e : atomP Y s = takeP s := by
          unfold atomP; rw [if_pos hS, if_neg hk]
        rw [e, hq] at h
        repeat' (conv => whnf
                 first
                   | with_reducible exact quiet_same
                   | with_reducible exact quiet_bool
                   | with_reducible exact quiet_not
                   | with_reducible refine draw_step (by kernel_rfl) ?_
                   | with_reducible refine quiet_go ?_ ?_ ?_
                   | with_reducible refine bcase_yes (by first | assumption | omega) ?_
                   | with_reducible refine bcase_no (by first | assumption | omega) ?_
                   | with_reducible refine bcase_dyes (by omega) ?_
                   | with_reducible refine bcase_dno (by omega) ?_
                   | with_reducible refine bcase_len (by decide) (fun _ => ?_) (fun _ => ?_)
                   | with_reducible refine bcase_eq (fun _ => ?_) (fun _ => ?_)
                   | with_reducible refine bcase_dec (fun _ => ?_) (fun _ => ?_)
                   | with_reducible refine bcase_true ?_
                   | with_reducible refine bcase_false ?_
                   | with_reducible refine bcase_intro (fun _ => ?_) (fun _ => ?_)
                   | with_reducible refine len_kids (fun _ => ?_)
                   | with_reducible refine at_known (by assumption) (by omega) ?_
                   | with_reducible refine at_kid (by omega) (by omega) (fun _ _ _ => ?_)
                   | with_reducible refine tail_kids (by omega) (by omega) ?_
                   | with_reducible refine slice_kids (by omega) (by omega) (by omega) ?_
                   | with_reducible refine ex_wrap (by omega) (by omega) ?_
                   | with_reducible refine quo_step (by decide) (by omega) (by omega) ?_
                   | with_reducible refine rem_step (by decide) ?_
                   | with_reducible refine nil_row (fun _ => ?_) ?_
                   | with_reducible refine nil_row2 (fun _ => ?_) ?_
                   | with_reducible refine len_toks (fun _ => ?_)
                   | with_reducible refine len_ints (fun _ => ?_)
                   | with_reducible refine tok_known (by assumption) (by omega) ?_
                   | with_reducible refine at_tok (by omega) (by omega) (fun _ _ => ?_)
                   | with_reducible refine at_int (by omega) (by omega) (fun _ _ => ?_)
                   | with_reducible refine slice_ints (by omega) (by omega) (by omega) ?_
                   | refine rtake_e hq hb ?_
                   | refine rpeek_c hb ?_
                   | refine rstarts_e hS ?_
                   | with_reducible refine draw_head ?_)
        all_goals exact finw rfl h
  · have hq := take_no ht
    rw [atomP_no ht, hq] at h
    repeat' (conv => whnf
             first
               | with_reducible exact quiet_same
               | with_reducible exact quiet_bool
               | with_reducible exact quiet_not
               | with_reducible refine draw_step (by kernel_rfl) ?_
               | with_reducible refine quiet_go ?_ ?_ ?_
               | with_reducible refine bcase_yes (by first | assumption | omega) ?_
               | with_reducible refine bcase_no (by first | assumption | omega) ?_
               | with_reducible refine bcase_dyes (by omega) ?_
               | with_reducible refine bcase_dno (by omega) ?_
               | with_reducible refine bcase_len (by decide) (fun _ => ?_) (fun _ => ?_)
               | with_reducible refine bcase_eq (fun _ => ?_) (fun _ => ?_)
               | with_reducible refine bcase_dec (fun _ => ?_) (fun _ => ?_)
               | with_reducible refine bcase_true ?_
               | with_reducible refine bcase_false ?_
               | with_reducible refine bcase_intro (fun _ => ?_) (fun _ => ?_)
               | with_reducible refine len_kids (fun _ => ?_)
               | with_reducible refine at_known (by assumption) (by omega) ?_
               | with_reducible refine at_kid (by omega) (by omega) (fun _ _ _ => ?_)
               | with_reducible refine tail_kids (by omega) (by omega) ?_
               | with_reducible refine slice_kids (by omega) (by omega) (by omega) ?_
               | with_reducible refine ex_wrap (by omega) (by omega) ?_
               | with_reducible refine quo_step (by decide) (by omega) (by omega) ?_
               | with_reducible refine rem_step (by decide) ?_
               | with_reducible refine nil_row (fun _ => ?_) ?_
               | with_reducible refine nil_row2 (fun _ => ?_) ?_
               | with_reducible refine len_toks (fun _ => ?_)
               | with_reducible refine len_ints (fun _ => ?_)
               | with_reducible refine tok_known (by assumption) (by omega) ?_
               | with_reducible refine at_tok (by omega) (by omega) (fun _ _ => ?_)
               | with_reducible refine at_int (by omega) (by omega) (fun _ _ => ?_)
               | with_reducible refine slice_ints (by omega) (by omega) (by omega) ?_
               | refine rtake_e hq hb ?_
               | with_reducible refine draw_head ?_)
    all_goals exact finw rfl h

/-- the rest of a row, from a reading on -/
def rowR (A : Sta → Rs) (l : List Nd) (q : Rs) : Ls := match q with
  | .inl e => .inl e
  | .inr p => rowL A (l ++ [p.1]) p.2
theorem rowL_q {A : Sta → Rs} (hF : Falls A) {l : List Nd} {s : Sta} (h : startsF (nextM s).1 = true) : rowL A l s = rowR A l (A s) := by
  rw [rowL, if_pos h]
  unfold rowR
  cases hq : A s with
  | inl e => rfl
  | inr p => dsimp only; rw [if_pos (hF _ _ _ hq)]
theorem rowL_n {A : Sta → Rs} {l : List Nd} {s : Sta} (h : startsF (nextM s).1 = false) : rowL A l s = .inr (l, s) := by
  rw [rowL, if_neg (by rw [h]; decide)]
theorem rowR_ok {A : Sta → Rs} (hB : Bads A) {l : List Nd} {s : Sta} (h : re (A s) = 0) : rowR A l (A s) = rowL A (l ++ [rn (A s)]) (rs (A s)) := by
  unfold rowR
  rw [inr_of hB h]
  rfl
theorem rowR_bad {A : Sta → Rs} {l : List Nd} {q : Rs} (h : ¬ re q = 0) : rowR A l q = .inl (re q, rs q) := by
  unfold rowR
  rw [inl_of h]
  rfl
theorem rrow_c {d : Int} {A : Sta → Rs} (ha : RCalls 38 d A) (hB : Bads A) (hF : Falls A) : RCalls 32 d (rowP A) := by
  intro s hm st R h
  refine pcalls_of_body tys_ok [] Try.func32 rfl (by decide) ?_
  have hb := opn_le hm
  have h : R (.ret (encRs (match rowR A [] (A s) with
    | .inl e => .inl e
    | .inr q => if q.1.length = 1 then .inr (rn (A s), q.2) else .inr (nodeK 39 q.1, q.2)))) st := by
    unfold rowP at h
    unfold rowR
    cases hq : A s with
    | inl e => rw [hq] at h; exact h
    | inr p => rw [hq] at h; exact h
  have hm4 : re (A s) = 0 → mu (rs (A s)) < mu s := mu_ok hB hF
  repeat' (conv => whnf
           first
             | with_reducible exact quiet_same
             | with_reducible exact quiet_bool
             | with_reducible exact quiet_not
             | with_reducible refine draw_step (by kernel_rfl) ?_
             | with_reducible refine quiet_go ?_ ?_ ?_
             | with_reducible refine bcase_yes (by first | assumption | omega) ?_
             | with_reducible refine bcase_no (by first | assumption | omega) ?_
             | with_reducible refine bcase_dyes (by omega) ?_
             | with_reducible refine bcase_dno (by omega) ?_
             | with_reducible refine bcase_len (by decide) (fun _ => ?_) (fun _ => ?_)
             | with_reducible refine bcase_eq (fun _ => ?_) (fun _ => ?_)
             | with_reducible refine bcase_dec (fun _ => ?_) (fun _ => ?_)
             | with_reducible refine bcase_true ?_
             | with_reducible refine bcase_false ?_
             | with_reducible refine bcase_intro (fun _ => ?_) (fun _ => ?_)
             | with_reducible refine len_kids (fun _ => ?_)
             | with_reducible refine at_known (by assumption) (by omega) ?_
             | with_reducible refine at_kid (by omega) (by omega) (fun _ _ _ => ?_)
             | with_reducible refine tail_kids (by omega) (by omega) ?_
             | with_reducible refine slice_kids (by omega) (by omega) (by omega) ?_
             | with_reducible refine ex_wrap (by omega) (by omega) ?_
             | with_reducible refine quo_step (by decide) (by omega) (by omega) ?_
             | with_reducible refine rem_step (by decide) ?_
             | with_reducible refine nil_row (fun _ => ?_) ?_
             | with_reducible refine nil_row2 (fun _ => ?_) ?_
             | with_reducible refine len_toks (fun _ => ?_)
             | with_reducible refine len_ints (fun _ => ?_)
             | with_reducible refine tok_known (by assumption) (by omega) ?_
             | with_reducible refine at_tok (by omega) (by omega) (fun _ _ => ?_)
             | with_reducible refine at_int (by omega) (by omega) (fun _ _ => ?_)
             | with_reducible refine slice_ints (by omega) (by omega) (by omega) ?_
             | refine ha.q rfl hm ?_
             | with_reducible refine draw_head ?_)
  refine loop_h (α := List Nd × Rs × Own) (fun x => [(6, .slice 6 ((x.1 ++ [rn x.2.1]).map encN) x.2.2)]) [1, 4, 5] (fun x => [(2, [.int .i64 (rn x.2.1).kind, .int .i64 (rn x.2.1).form, .str (rn x.2.1).text, .int .i64 (rn x.2.1).line, .int .i64 (rn x.2.1).col, .slice 6 (encs (rn x.2.1).kids) .any,
  .slice 4 (encTs (rs x.2.1).toks) .any, .int .i64 (rs x.2.1).pos, .slice 1 (ints (rs x.2.1).opn) .any, .int .i64 (rs x.2.1).wait, .int .i64 (re x.2.1)])]) [1] (fun x => x.2.2.st st ((x.1 ++ [rn x.2.1]).length * 6))
    (fun x => x.2.2.good st ∧ (∃ s3, x.2.1 = A s3 ∧ mu s3 ≤ mu s ∧ x.1.length + mu s3 ≤ 200000000 ∧ (x.1 = [] → s3 = s)) ∧ rowR A x.1 x.2.1 = rowR A [] (A s)) (fun x => if re x.2.1 = 0 then mu (rs x.2.1) + 1 else 0) ([], A s, .full)
    ⟨trivial, ⟨s, rfl, Nat.le_refl _, by show 0 + mu s ≤ _; omega, fun _ => rfl⟩, rfl⟩ (by refine ⟨rfl, ?_, ?_, rfl⟩ <;> repeat' (first | exact trivial | exact rfl | refine And.intro ?_ ?_)) (St.le_refl _) ?_
  rintro ⟨l, q, own⟩ ⟨j1, ⟨s3, rfl, j2, j3, j4⟩, j5⟩
  dsimp only at j1 j2 j3 j4 j5
  have hd4 : re (A s3) = 0 → mu (rs (A s3)) < mu s3 := mu_ok hB hF
  have hm5 : re (A s3) = 0 → mu (rs (A s3)) ≤ 100000000 := fun e => by have := hd4 e; omega
  have hn2 : (l ++ [rn (A s3)]).length + 1 ≤ 1000000000 := by rw [List.length_append, List.length_singleton]; omega
  rw [← j5] at h
  repeat' (conv => whnf
           first
             | with_reducible exact quiet_same
             | with_reducible exact quiet_bool
             | with_reducible exact quiet_not
             | with_reducible refine draw_step (by kernel_rfl) ?_
             | with_reducible refine quiet_go ?_ ?_ ?_
             | with_reducible refine bcase_yes (by first | assumption | omega) ?_
             | with_reducible refine bcase_no (by first | assumption | omega) ?_
             | with_reducible refine bcase_dyes (by omega) ?_
             | with_reducible refine bcase_dno (by omega) ?_
             | with_reducible refine bcase_len (by decide) (fun _ => ?_) (fun _ => ?_)
             | with_reducible refine bcase_eq (fun _ => ?_) (fun _ => ?_)
             | with_reducible refine bcase_dec (fun _ => ?_) (fun _ => ?_)
             | with_reducible refine bcase_true ?_
             | with_reducible refine bcase_false ?_
             | with_reducible refine bcase_intro (fun _ => ?_) (fun _ => ?_)
             | with_reducible refine len_kids (fun _ => ?_)
             | with_reducible refine at_known (by assumption) (by omega) ?_
             | with_reducible refine at_kid (by omega) (by omega) (fun _ _ _ => ?_)
             | with_reducible refine tail_kids (by omega) (by omega) ?_
             | with_reducible refine slice_kids (by omega) (by omega) (by omega) ?_
             | with_reducible refine ex_wrap (by omega) (by omega) ?_
             | with_reducible refine quo_step (by decide) (by omega) (by omega) ?_
             | with_reducible refine rem_step (by decide) ?_
             | with_reducible refine nil_row (fun _ => ?_) ?_
             | with_reducible refine nil_row2 (fun _ => ?_) ?_
             | with_reducible refine len_toks (fun _ => ?_)
             | with_reducible refine len_ints (fun _ => ?_)
             | with_reducible refine tok_known (by assumption) (by omega) ?_
             | with_reducible refine at_tok (by omega) (by omega) (fun _ _ => ?_)
             | with_reducible refine at_int (by omega) (by omega) (fun _ _ => ?_)
             | with_reducible refine slice_ints (by omega) (by omega) (by omega) ?_
             | refine rpeek_c (s := rs (A s3)) (opn_le (hm5 (by assumption))) ?_
             | refine rstarts_c ?_
             | refine ha.q (s := rs (A s3)) rfl (hm5 (by assumption)) ?_
             | refine app_m (l := l ++ [rn (A s3)]) (x := rn (A (rs (A s3)))) j1 hn2 (fun own1 ho1 => ?_)
             | refine len_m (fun _ => ?_)
             | with_reducible refine draw_head ?_)
  all_goals conv => whnf
  · have hz : re (A s3) = 0 := by assumption
    have hp : startsF (nextM (rs (A s3))).1 = true := by assumption
    have k1 := hd4 hz
    have k2 : re (A (rs (A s3))) = 0 → mu (rs (A (rs (A s3)))) < mu (rs (A s3)) := mu_ok hB hF
    refine ⟨(l ++ [rn (A s3)], A (rs (A s3)), own1), ⟨ho1, ⟨rs (A s3), rfl, by omega, ?_, ?_⟩, ?_⟩, ?_, (by refine ⟨rfl, ?_, ?_, rfl⟩ <;> repeat' (first | exact trivial | exact rfl | refine And.intro ?_ ?_)), St.le_refl _⟩
    · show (l ++ [rn (A s3)]).length + _ ≤ _
      rw [List.length_append, List.length_singleton]
      omega
    · intro e
      simp at e
    · show rowR A (l ++ [rn (A s3)]) (A (rs (A s3))) = _
      rw [← j5, rowR_ok hB hz, rowL_q hF hp]
    · show (if re (A (rs (A s3))) = 0 then mu (rs (A (rs (A s3)))) + 1 else 0) < if re (A s3) = 0 then mu (rs (A s3)) + 1 else 0
      rw [if_pos hz]
      split
      · rename_i e; have := k2 e; omega
      · omega
  · have hz : re (A s3) = 0 := by assumption
    have hl : 1 < (((l ++ [rn (A s3)]).length : Nat) : Int) := by assumption
    rw [rowR_ok hB hz, rowL_n (by assumption)] at h
    dsimp only at h
    rw [if_neg (by omega)] at h
    have h : R (.ret (encQ (nodeK 39 (l ++ [rn (A s3)])) (rs (A s3)) (re (A s3)))) st := by rw [hz]; exact h
    exact finl (Own.good_le j1) fin_nodeQ h
  · have hz : re (A s3) = 0 := by assumption
    have hl : ¬ 1 < (((l ++ [rn (A s3)]).length : Nat) : Int) := by assumption
    rw [rowR_ok hB hz, rowL_n (by assumption)] at h
    dsimp only at h
    have hl0 : l = [] := List.eq_nil_iff_length_eq_zero.2 (by rw [List.length_append, List.length_singleton] at hl; omega)
    have e3 := j4 hl0
    subst hl0
    subst e3
    have h : R (.ret (encQ (rn (A s3)) (rs (A s3)) (re (A s3)))) st := by rw [hz]; exact h
    exact finl (Own.good_le j1) rfl h
  · have hz : ¬ re (A s3) = 0 := by assumption
    rw [rowR_bad hz] at h
    have h : R (.ret (encQ nd0 (rs (A s3)) (re (A s3)))) st := h
    rw [← rn_bad hz] at h
    exact finl (Own.good_le j1) rfl h
end
end Go.Proofs.Ytngbihfihdheoaa
