/-
  TYPES: round.
-/
import Derived.Test.YtngbihfihdheoaaTyp8
set_option linter.unusedVariables false
set_option pp.maxSteps 400
namespace Go.Proofs.Ytngbihfihdheoaa
open Go Go.Aw

section
variable {st : St} {R : Res → St → Prop}
attribute [local irreducible] Go.Aw.appendTo
theorem is_t {b : Nat} {s : Sta} {k : Int} {x : List UInt8} (e : isF s k x = true) (hs : Has st b s) (hb : s.opn.length ≤ 500000000) (h : R (.ret (.bool true)) (st.setBox b (lookC s))) : PC 48 [.ptr b 0, .int .i64 k, .str x] st R := is_c hs hb (by rw [e]; exact h)
theorem is_n {b : Nat} {s : Sta} {k : Int} {x : List UInt8} (e : isF s k x = false) (hs : Has st b s) (hb : s.opn.length ≤ 500000000) (h : R (.ret (.bool false)) (st.setBox b (lookC s))) : PC 48 [.ptr b 0, .int .i64 k, .str x] st R := is_c hs hb (by rw [e]; exact h)
theorem look_has {st : St} {b : Nat} {s : Sta} : Has (st.setBox b (lookC s)) b s := .inl (St.box_same ..)

theorem commaL_at {l : List Nd} {s : Sta} (h : isF s 15 [44] = true) : commaL l s = commaL (l ++ [leafT (nextM s).1]) (nextM s).2.1 := by
  rw [commaL, if_pos h, if_pos (isF_mu h (by decide) (by decide))]
theorem commaL_end {l : List Nd} {s : Sta} (h : isF s 15 [44] = false) : commaL l s = (l, s) := by
  rw [commaL, if_neg (by rw [h]; decide)]
theorem typesL_len {Y : Sta → Rs} (l : List Nd) (s : Sta) : ∀ q s', typesL Y l s = .inr (q, s') → q.length + 2 * mu s' ≤ l.length + 2 * mu s := by
  fun_induction typesL Y l s with
  | case1 l s h1 e1 h2 => intro e s' h; cases h
  | case2 l s h1 p h2 h3 ih =>
    intro e s' h
    have := ih e s' h
    rw [List.length_append] at this
    have e2 : [leafT (nextM s).1, p.1].length = 2 := rfl
    omega
  | case3 l s h1 p h2 h3 => intro e s' h; cases h
  | case4 l s h1 => intro e s' h; cases h; exact Nat.le_refl _
theorem typesP_mu {Y : Sta → Rs} (hF : Falls Y) {n : Nd} {s : Sta} {l : List Nd} {s' : Sta} (h : typesP Y n s = .inr (l, s')) : mu s' ≤ mu s ∧ l.length ≤ 2 + 2 * mu s := by
  unfold typesP at h
  split at h
  · cases h
  · rename_i h1
    have h2 := hF _ _ _ h1
    have h3 := typesL_mu _ _ _ _ h
    have h4 := typesL_len _ _ _ _ h
    have e2 : ∀ a b : Nd, [a, b].length = 2 := fun _ _ => rfl
    rw [e2] at h4
    omega
theorem tellsL_of {st : St} {b : Nat} {K : Res → St → Prop} {q : Ls} (h : ∀ l s', q = .inr (l, s') → ∀ st' own', Upd st st' b s' → own'.good st' → K (.ret (.slice 6 (l.map encN) own')) (own'.st st' (l.length * 6)))
    (k : ∀ e s', q = .inl (e, s') → ∀ st', Upd st st' b s' → K (.pan (fault e)) st') : TellsL st b K q := by
  match q with
  | .inr (l, s') => exact h l s' rfl
  | .inl (e, s') => exact k e s' rfl

theorem round_c {d : Nat} {x : Int} (hx : x = ((d + 1 : Nat) : Int)) (hd : d ≤ 1000000) {Y : Sta → Rs} (hY : Calls3 11 d Y) (h0 : d = 0 → ∀ s, Y s = .inl (2, s)) (hB : Bads Y) (hF : Falls Y) : Reads0 54 x (roundP Y) := by
  intro s hm b st R hs h
  refine pcalls_of_body tys_ok [] Try.func54 rfl (by decide) ?_
  have hb := opn_le hm
  unfold roundP at h
  cases hq1 : takeP s with
  | inl q =>
    rw [hq1] at h
    obtain ⟨e, s'⟩ := q
    repeat' (conv => whnf
             first
               | with_reducible exact quiet_same
               | with_reducible exact quiet_bool
               | with_reducible exact quiet_not
               | with_reducible refine draw_step (by kernel_rfl) ?_
               | with_reducible refine quiet_go ?_ ?_ ?_
               | with_reducible refine bcase_yes (by first | assumption | omega) ?_
               | with_reducible refine bcase_no (by first | assumption | omega) ?_
               | with_reducible refine bcase_dyes (by omega) ?_
               | with_reducible refine bcase_dno (by omega) ?_
               | with_reducible refine bcase_len (by decide) (fun _ => ?_) (fun _ => ?_)
               | with_reducible refine bcase_eq (fun _ => ?_) (fun _ => ?_)
               | with_reducible refine bcase_dec (fun _ => ?_) (fun _ => ?_)
               | with_reducible refine bcase_true ?_
               | with_reducible refine bcase_false ?_
               | with_reducible refine bcase_intro (fun _ => ?_) (fun _ => ?_)
               | with_reducible refine len_kids (fun _ => ?_)
               | with_reducible refine at_known (by assumption) (by omega) ?_
               | with_reducible refine at_kid (by omega) (by omega) (fun _ _ _ => ?_)
               | with_reducible refine tail_kids (by omega) (by omega) ?_
               | with_reducible refine slice_kids (by omega) (by omega) (by omega) ?_
               | with_reducible refine ex_wrap (by omega) (by omega) ?_
               | with_reducible refine quo_step (by decide) (by omega) (by omega) ?_
               | with_reducible refine rem_step (by decide) ?_
               | with_reducible refine nil_row (fun _ => ?_) ?_
               | with_reducible refine nil_row2 (fun _ => ?_) ?_
               | with_reducible refine len_toks (fun _ => ?_)
               | with_reducible refine len_ints (fun _ => ?_)
               | with_reducible refine tok_known (by assumption) (by omega) ?_
               | with_reducible refine at_tok (by omega) (by omega) (fun _ _ => ?_)
               | with_reducible refine at_int (by omega) (by omega) (fun _ _ => ?_)
               | with_reducible refine slice_ints (by omega) (by omega) (by omega) ?_
               | refine take_r hs hb (tells_l hq1 (fun st1 h1 => ?_))
               | with_reducible refine draw_head ?_)
    all_goals exact fin (h st1 h1) rfl
  | inr q =>
    obtain ⟨n1, s1⟩ := q
    rw [hq1] at h
    have hm1 : mu s1 ≤ 100000000 := by have := (take_mu hq1).1; omega
    have hb1 := opn_le hm1
    have hn1 : [n1].length + 1 ≤ 1000000000 := by show 1 + 1 ≤ 1000000000; decide
    dsimp only at h
    cases hA : isF s1 10 [45, 62] with
    | true =>
      rw [if_pos hA] at h
      have hb2 : (nextM s1).2.1.opn.length ≤ 500000000 := opn_le (by have := isF_mu hA (by decide) (by decide); omega)
      have hn2 : ∀ n2 : Nd, ([n1] ++ [n2]).length + 1 ≤ 1000000000 := fun _ => by show 2 + 1 ≤ 1000000000; decide
      repeat' (conv => whnf
               first
                 | with_reducible exact quiet_same
                 | with_reducible exact quiet_bool
                 | with_reducible exact quiet_not
                 | with_reducible refine draw_step (by kernel_rfl) ?_
                 | with_reducible refine quiet_go ?_ ?_ ?_
                 | with_reducible refine bcase_yes (by first | assumption | omega) ?_
                 | with_reducible refine bcase_no (by first | assumption | omega) ?_
                 | with_reducible refine bcase_dyes (by omega) ?_
                 | with_reducible refine bcase_dno (by omega) ?_
                 | with_reducible refine bcase_len (by decide) (fun _ => ?_) (fun _ => ?_)
                 | with_reducible refine bcase_eq (fun _ => ?_) (fun _ => ?_)
                 | with_reducible refine bcase_dec (fun _ => ?_) (fun _ => ?_)
                 | with_reducible refine bcase_true ?_
                 | with_reducible refine bcase_false ?_
                 | with_reducible refine bcase_intro (fun _ => ?_) (fun _ => ?_)
                 | with_reducible refine len_kids (fun _ => ?_)
                 | with_reducible refine at_known (by assumption) (by omega) ?_
                 | with_reducible refine at_kid (by omega) (by omega) (fun _ _ _ => ?_)
                 | with_reducible refine tail_kids (by omega) (by omega) ?_
                 | with_reducible refine slice_kids (by omega) (by omega) (by omega) ?_
                 | with_reducible refine ex_wrap (by omega) (by omega) ?_
                 | with_reducible refine quo_step (by decide) (by omega) (by omega) ?_
                 | with_reducible refine rem_step (by decide) ?_
                 | with_reducible refine nil_row (fun _ => ?_) ?_
                 | with_reducible refine nil_row2 (fun _ => ?_) ?_
                 | with_reducible refine len_toks (fun _ => ?_)
                 | with_reducible refine len_ints (fun _ => ?_)
                 | with_reducible refine tok_known (by assumption) (by omega) ?_
                 | with_reducible refine at_tok (by omega) (by omega) (fun _ _ => ?_)
                 | with_reducible refine at_int (by omega) (by omega) (fun _ _ => ?_)
                 | with_reducible refine slice_ints (by omega) (by omega) (by omega) ?_
                 | refine take_r hs hb (tells_r hq1 (fun st1 h1 => ?_))
                 | refine is_t hA h1.1 hb1 ?_
                 | refine take_r look_has hb1 (tells_r (take_is hA (by decide)) (fun st2 h2 => ?_))
                 | refine app_m (l := [n1]) (x := leafT (nextM s1).1) (own := .full) trivial hn1 (fun own1 ho1 => ?_)
                 | refine want_r (h2.1.hw own1 _) hb2 (tells_own ho1 h2.1 (tellsO_of (fun n3 s3 hq3 st3 h3 hg3 => ?_) (fun e3 s3 hq3 st3 h3 hg3 => ?_)))
                 | refine app_m (l := [n1] ++ [leafT (nextM s1).1]) (x := n3) hg3 (hn2 _) (fun own2 ho2 => ?_)
                 | with_reducible refine draw_head ?_)
      all_goals unfold finP at h
      all_goals rw [hq3] at h
      · exact finl (Own.good_le ho2) fin_node (h st3 ((h1.trans upd_look).trans (h2.trans h3)))
      · exact finl (Own.good_le hg3) rfl (h st3 ((h1.trans upd_look).trans (h2.trans h3)))
    | false =>
    rw [if_neg (by rw [hA]; decide)] at h
    cases hC : isF s1 15 [41] with
    | true =>
      rw [if_pos hC] at h
      repeat' (conv => whnf
               first
                 | with_reducible exact quiet_same
                 | with_reducible exact quiet_bool
                 | with_reducible exact quiet_not
                 | with_reducible refine draw_step (by kernel_rfl) ?_
                 | with_reducible refine quiet_go ?_ ?_ ?_
                 | with_reducible refine bcase_yes (by first | assumption | omega) ?_
                 | with_reducible refine bcase_no (by first | assumption | omega) ?_
                 | with_reducible refine bcase_dyes (by omega) ?_
                 | with_reducible refine bcase_dno (by omega) ?_
                 | with_reducible refine bcase_len (by decide) (fun _ => ?_) (fun _ => ?_)
                 | with_reducible refine bcase_eq (fun _ => ?_) (fun _ => ?_)
                 | with_reducible refine bcase_dec (fun _ => ?_) (fun _ => ?_)
                 | with_reducible refine bcase_true ?_
                 | with_reducible refine bcase_false ?_
                 | with_reducible refine bcase_intro (fun _ => ?_) (fun _ => ?_)
                 | with_reducible refine len_kids (fun _ => ?_)
                 | with_reducible refine at_known (by assumption) (by omega) ?_
                 | with_reducible refine at_kid (by omega) (by omega) (fun _ _ _ => ?_)
                 | with_reducible refine tail_kids (by omega) (by omega) ?_
                 | with_reducible refine slice_kids (by omega) (by omega) (by omega) ?_
                 | with_reducible refine ex_wrap (by omega) (by omega) ?_
                 | with_reducible refine quo_step (by decide) (by omega) (by omega) ?_
                 | with_reducible refine rem_step (by decide) ?_
                 | with_reducible refine nil_row (fun _ => ?_) ?_
                 | with_reducible refine nil_row2 (fun _ => ?_) ?_
                 | with_reducible refine len_toks (fun _ => ?_)
                 | with_reducible refine len_ints (fun _ => ?_)
                 | with_reducible refine tok_known (by assumption) (by omega) ?_
                 | with_reducible refine at_tok (by omega) (by omega) (fun _ _ => ?_)
                 | with_reducible refine at_int (by omega) (by omega) (fun _ _ => ?_)
                 | with_reducible refine slice_ints (by omega) (by omega) (by omega) ?_
                 | refine take_r hs hb (tells_r hq1 (fun st1 h1 => ?_))
                 | refine is_n hA h1.1 hb1 ?_
                 | refine is_t hC look_has hb1 ?_
                 | refine want_r look_has hb1 (tells_of (fun n3 s3 hq3 st3 h3 => ?_) (fun e3 s3 hq3 st3 h3 => ?_))
                 | refine app_m (l := [n1]) (x := n3) (own := .full) trivial hn1 (fun own2 ho2 => ?_)
                 | with_reducible refine draw_head ?_)
      all_goals unfold finP at h
      all_goals rw [hq3] at h
      · exact finl (Own.good_le ho2) fin_node (h st3 (((h1.trans upd_look).trans upd_look).trans h3))
      · exact fin (h st3 (((h1.trans upd_look).trans upd_look).trans h3)) rfl
    | false =>
    rw [if_neg (by rw [hC]; decide)] at h
    cases hE : isF s1 15 [44] with
    | true =>
      rw [if_pos hE] at h
      repeat' (conv => whnf
               first
                 | with_reducible exact quiet_same
                 | with_reducible exact quiet_bool
                 | with_reducible exact quiet_not
                 | with_reducible refine draw_step (by kernel_rfl) ?_
                 | with_reducible refine quiet_go ?_ ?_ ?_
                 | with_reducible refine bcase_yes (by first | assumption | omega) ?_
                 | with_reducible refine bcase_no (by first | assumption | omega) ?_
                 | with_reducible refine bcase_dyes (by omega) ?_
                 | with_reducible refine bcase_dno (by omega) ?_
                 | with_reducible refine bcase_len (by decide) (fun _ => ?_) (fun _ => ?_)
                 | with_reducible refine bcase_eq (fun _ => ?_) (fun _ => ?_)
                 | with_reducible refine bcase_dec (fun _ => ?_) (fun _ => ?_)
                 | with_reducible refine bcase_true ?_
                 | with_reducible refine bcase_false ?_
                 | with_reducible refine bcase_intro (fun _ => ?_) (fun _ => ?_)
                 | with_reducible refine len_kids (fun _ => ?_)
                 | with_reducible refine at_known (by assumption) (by omega) ?_
                 | with_reducible refine at_kid (by omega) (by omega) (fun _ _ _ => ?_)
                 | with_reducible refine tail_kids (by omega) (by omega) ?_
                 | with_reducible refine slice_kids (by omega) (by omega) (by omega) ?_
                 | with_reducible refine ex_wrap (by omega) (by omega) ?_
                 | with_reducible refine quo_step (by decide) (by omega) (by omega) ?_
                 | with_reducible refine rem_step (by decide) ?_
                 | with_reducible refine nil_row (fun _ => ?_) ?_
                 | with_reducible refine nil_row2 (fun _ => ?_) ?_
                 | with_reducible refine len_toks (fun _ => ?_)
                 | with_reducible refine len_ints (fun _ => ?_)
                 | with_reducible refine tok_known (by assumption) (by omega) ?_
                 | with_reducible refine at_tok (by omega) (by omega) (fun _ _ => ?_)
                 | with_reducible refine at_int (by omega) (by omega) (fun _ _ => ?_)
                 | with_reducible refine slice_ints (by omega) (by omega) (by omega) ?_
                 | refine take_r hs hb (tells_r hq1 (fun st1 h1 => ?_))
                 | refine is_n hA h1.1 hb1 ?_
                 | refine is_n hC look_has hb1 ?_
                 | refine is_t hE look_has hb1 ?_
                 | with_reducible refine draw_head ?_)
      refine loop_h (α := List Nd × Sta × St × Own) (fun x => [(5, .slice 6 (x.1.map encN) x.2.2.2)]) [0, 1, 4, 6] (fun x => []) [0] (fun x => x.2.2.2.st x.2.2.1 (x.1.length * 6))
        (fun x => x.2.2.2.good x.2.2.1 ∧ Upd st x.2.2.1 b x.2.1 ∧ x.1.length + mu x.2.1 ≤ 200000000 ∧ mu x.2.1 ≤ mu s1 ∧ commaL x.1 x.2.1 = commaL [n1] s1) (fun x => mu x.2.1) ([n1], s1, _, .full)
        ⟨trivial, ((h1.trans upd_look).trans upd_look).trans upd_look, by show 1 + mu s1 ≤ _; omega, Nat.le_refl _, rfl⟩ (by refine ⟨rfl, ?_, ?_, rfl⟩ <;> repeat' (first | exact trivial | exact rfl | refine And.intro ?_ ?_)) (St.le_refl _) ?_
      rintro ⟨l, s3, st3, own⟩ ⟨j1, j2, j5, j6, j7⟩
      dsimp only at j1 j2 j5 j6 j7
      have hm3 : mu s3 ≤ 100000000 := by omega
      have hb3 := opn_le hm3
      have hl3 : Has (st3.setBox b (lookC s3)) b s3 := .inl (St.box_same ..)
      have g3 : own.good (st3.setBox b (lookC s3)) := good_set j1 j2.1
      have hn : l.length + 1 ≤ 1000000000 := by omega
      repeat' (conv => whnf
               first
                 | with_reducible exact quiet_same
                 | with_reducible exact quiet_bool
                 | with_reducible exact quiet_not
                 | with_reducible refine draw_step (by kernel_rfl) ?_
                 | with_reducible refine quiet_go ?_ ?_ ?_
                 | with_reducible refine bcase_yes (by first | assumption | omega) ?_
                 | with_reducible refine bcase_no (by first | assumption | omega) ?_
                 | with_reducible refine bcase_dyes (by omega) ?_
                 | with_reducible refine bcase_dno (by omega) ?_
                 | with_reducible refine bcase_len (by decide) (fun _ => ?_) (fun _ => ?_)
                 | with_reducible refine bcase_eq (fun _ => ?_) (fun _ => ?_)
                 | with_reducible refine bcase_dec (fun _ => ?_) (fun _ => ?_)
                 | with_reducible refine bcase_true ?_
                 | with_reducible refine bcase_false ?_
                 | with_reducible refine bcase_intro (fun _ => ?_) (fun _ => ?_)
                 | with_reducible refine len_kids (fun _ => ?_)
                 | with_reducible refine at_known (by assumption) (by omega) ?_
                 | with_reducible refine at_kid (by omega) (by omega) (fun _ _ _ => ?_)
                 | with_reducible refine tail_kids (by omega) (by omega) ?_
                 | with_reducible refine slice_kids (by omega) (by omega) (by omega) ?_
                 | with_reducible refine ex_wrap (by omega) (by omega) ?_
                 | with_reducible refine quo_step (by decide) (by omega) (by omega) ?_
                 | with_reducible refine rem_step (by decide) ?_
                 | with_reducible refine nil_row (fun _ => ?_) ?_
                 | with_reducible refine nil_row2 (fun _ => ?_) ?_
                 | with_reducible refine len_toks (fun _ => ?_)
                 | with_reducible refine len_ints (fun _ => ?_)
                 | with_reducible refine tok_known (by assumption) (by omega) ?_
                 | with_reducible refine at_tok (by omega) (by omega) (fun _ _ => ?_)
                 | with_reducible refine at_int (by omega) (by omega) (fun _ _ => ?_)
                 | with_reducible refine slice_ints (by omega) (by omega) (by omega) ?_
                 | refine is_o j2.1 hb3 ?_
                 | refine take_r (hl3.hw own _) hb3 (tells_ro g3 hl3 (take_is (by assumption) (by decide)) (fun st4 h4 g4 => ?_))
                 | refine app_m (l := l) (x := leafT (nextM s3).1) g4 hn (fun own' ho' => ?_)
                 | refine want_r (hl3.hw own _) hb3 (tells_own g3 hl3 (tellsO_of (fun n5 s5 hq5 st5 h5 g5 => ?_) (fun e5 s5 hq5 st5 h5 g5 => ?_)))
                 | refine app_m (l := l) (x := n5) g5 hn (fun own' ho' => ?_)
                 | with_reducible refine draw_head ?_)
      all_goals conv => whnf
      · have hp : isF s3 15 [44] = true := by assumption
        have hd3 := isF_mu hp (by decide) (by decide)
        refine ⟨(l ++ [leafT (nextM s3).1], (nextM s3).2.1, st4, own'), ⟨ho', j2.trans (upd_look.trans h4), ?_, by show mu (nextM s3).2.1 ≤ _; omega, ?_⟩, hd3, (by refine ⟨rfl, ?_, ?_, rfl⟩ <;> repeat' (first | exact trivial | exact rfl | refine And.intro ?_ ?_)), St.le_refl _⟩
        · show (l ++ [leafT (nextM s3).1]).length + mu (nextM s3).2.1 ≤ _
          rw [List.length_append, List.length_singleton]
          omega
        · show commaL (l ++ [leafT (nextM s3).1]) (nextM s3).2.1 = _
          rw [← j7, commaL_at (l := l) hp]
      all_goals rw [← j7, commaL_end (by assumption)] at h
      all_goals unfold finP at h
      all_goals dsimp only at h
      all_goals rw [hq5] at h
      · exact finl (Own.good_le ho') fin_node (h st5 (j2.trans (upd_look.trans h5)))
      · exact finl (Own.good_le g5) rfl (h st5 (j2.trans (upd_look.trans h5)))
    | false =>
      rw [if_neg (by rw [hE]; decide)] at h
      replace h : Tells st b R (match typesP Y n1 s1 with
          | .inl e => (.inl e : Rs)
          | .inr r => finP (if 2 < r.1.length then 5 else 4) r.1 r.2 [41]) := by
        unfold typesP
        cases hy : Y s1 with
        | inl e => rw [hy] at h; exact h
        | inr q => rw [hy] at h; exact h
      have hbl : ∀ {l s2}, typesP Y n1 s1 = .inr (l, s2) → s2.opn.length ≤ 500000000 ∧ l.length + 1 ≤ 1000000000 := fun e => by
        have := typesP_mu hF e
        exact ⟨opn_le (by omega), by omega⟩
      repeat' (conv => whnf
               first
                 | with_reducible exact quiet_same
                 | with_reducible exact quiet_bool
                 | with_reducible exact quiet_not
                 | with_reducible refine draw_step (by kernel_rfl) ?_
                 | with_reducible refine quiet_go ?_ ?_ ?_
                 | with_reducible refine bcase_yes (by first | assumption | omega) ?_
                 | with_reducible refine bcase_no (by first | assumption | omega) ?_
                 | with_reducible refine bcase_dyes (by omega) ?_
                 | with_reducible refine bcase_dno (by omega) ?_
                 | with_reducible refine bcase_len (by decide) (fun _ => ?_) (fun _ => ?_)
                 | with_reducible refine bcase_eq (fun _ => ?_) (fun _ => ?_)
                 | with_reducible refine bcase_dec (fun _ => ?_) (fun _ => ?_)
                 | with_reducible refine bcase_true ?_
                 | with_reducible refine bcase_false ?_
                 | with_reducible refine bcase_intro (fun _ => ?_) (fun _ => ?_)
                 | with_reducible refine len_kids (fun _ => ?_)
                 | with_reducible refine at_known (by assumption) (by omega) ?_
                 | with_reducible refine at_kid (by omega) (by omega) (fun _ _ _ => ?_)
                 | with_reducible refine tail_kids (by omega) (by omega) ?_
                 | with_reducible refine slice_kids (by omega) (by omega) (by omega) ?_
                 | with_reducible refine ex_wrap (by omega) (by omega) ?_
                 | with_reducible refine quo_step (by decide) (by omega) (by omega) ?_
                 | with_reducible refine rem_step (by decide) ?_
                 | with_reducible refine nil_row (fun _ => ?_) ?_
                 | with_reducible refine nil_row2 (fun _ => ?_) ?_
                 | with_reducible refine len_toks (fun _ => ?_)
                 | with_reducible refine len_ints (fun _ => ?_)
                 | with_reducible refine tok_known (by assumption) (by omega) ?_
                 | with_reducible refine at_tok (by omega) (by omega) (fun _ _ => ?_)
                 | with_reducible refine at_int (by omega) (by omega) (fun _ _ => ?_)
                 | with_reducible refine slice_ints (by omega) (by omega) (by omega) ?_
                 | refine take_r hs hb (tells_r hq1 (fun st1 h1 => ?_))
                 | refine is_n hA h1.1 hb1 ?_
                 | refine is_n hC look_has hb1 ?_
                 | refine is_n hE look_has hb1 ?_
                 | refine types_c hY h0 hB hF (n1 := n1) (by omega) hm1 look_has (tellsL_of (fun l s2 hq2 st2 own1 h2 g2 => ?_) (fun e2 s2 hq2 st2 h2 => ?_))
                 | refine len_m (fun _ => ?_)
                 | refine want_r (h2.1.hw own1 _) (hbl hq2).1 (tells_own g2 h2.1 (tellsO_of (fun n3 s3 hq3 st3 h3 hg3 => ?_) (fun e3 s3 hq3 st3 h3 hg3 => ?_)))
                 | refine app_m (l := l) (x := n3) hg3 (hbl hq2).2 (fun own2 ho2 => ?_)
                 | with_reducible refine draw_head ?_)
      all_goals rw [hq2] at h
      all_goals dsimp only at h
      all_goals try unfold finP at h
      all_goals try rw [hq3] at h
      all_goals have hu := (((h1.trans upd_look).trans upd_look).trans upd_look).trans h2
      · rw [if_pos (by omega)] at h
        exact finl (Own.good_le ho2) fin_node (h st3 (hu.trans h3))
      · exact finl (Own.good_le hg3) rfl (h st3 (hu.trans h3))
      · rw [if_neg (by omega)] at h
        exact finl (Own.good_le ho2) fin_node (h st3 (hu.trans h3))
      · exact finl (Own.good_le hg3) rfl (h st3 (hu.trans h3))
      · exact fin (h st2 hu) rfl
end
end Go.Proofs.Ytngbihfihdheoaa
