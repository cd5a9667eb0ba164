/-
  TYPES: round.
-/
import Derived.Test.YtngbihfihdheoaaG2
set_option linter.unusedVariables false
set_option pp.maxSteps 400
namespace Go.Proofs.Ytngbihfihdheoaa
open Go Go.Aw

section
variable {st : St} {R : Res → St → Prop}
attribute [local irreducible] Go.Aw.appendTo
theorem is_t {b : Nat} {s : Sta} {k : Int} {x : List UInt8} (e : isF s k x = true) (hs : Has st b s) (hb : s.opn.length ≤ 500000000) (h : R (.ret (.bool true)) (st.setBox b (lookC s))) : PC 48 [.ptr b 0, .int .i64 k, .str x] st R := is_c hs hb (by rw [e]; exact h)
theorem is_n {b : Nat} {s : Sta} {k : Int} {x : List UInt8} (e : isF s k x = false) (hs : Has st b s) (hb : s.opn.length ≤ 500000000) (h : R (.ret (.bool false)) (st.setBox b (lookC s))) : PC 48 [.ptr b 0, .int .i64 k, .str x] st R := is_c hs hb (by rw [e]; exact h)
theorem look_has {st : St} {b : Nat} {s : Sta} : Has (st.setBox b (lookC s)) b s := .inl (St.box_same ..)

theorem commaL_at {l : List Nd} {s : Sta} (h : isF s 15 [44] = true) : commaL l s = commaL (l ++ [leafT (nextM s).1]) (nextM s).2.1 := by
  rw [commaL, if_pos h, if_pos (isF_mu h (by decide) (by decide))]
theorem commaL_end {l : List Nd} {s : Sta} (h : isF s 15 [44] = false) : commaL l s = (l, s) := by
  rw [commaL, if_neg (by rw [h]; decide)]
theorem typesL_len {Y : Sta → Rs} (l : List Nd) (s : Sta) : ∀ q s', typesL Y l s = .inr (q, s') → q.length + 2 * mu s' ≤ l.length + 2 * mu s := by
  fun_induction typesL Y l s with
  | case1 l s h1 e1 h2 => intro e s' h; cases h
  | case2 l s h1 p h2 h3 ih =>
    intro e s' h
    have := ih e s' h
    rw [List.length_append] at this
    have e2 : [leafT (nextM s).1, p.1].length = 2 := rfl
    omega
  | case3 l s h1 p h2 h3 => intro e s' h; cases h
  | case4 l s h1 => intro e s' h; cases h; exact Nat.le_refl _
theorem typesP_mu {Y : Sta → Rs} (hF : Falls Y) {n : Nd} {s : Sta} {l : List Nd} {s' : Sta} (h : typesP Y n s = .inr (l, s')) : mu s' ≤ mu s ∧ l.length ≤ 2 + 2 * mu s := by
  unfold typesP at h
  split at h
  · cases h
  · rename_i h1
    have h2 := hF _ _ _ h1
    have h3 := typesL_mu _ _ _ _ h
    have h4 := typesL_len _ _ _ _ h
    have e2 : ∀ a b : Nd, [a, b].length = 2 := fun _ _ => rfl
    rw [e2] at h4
    omega
theorem tellsL_of {st : St} {b : Nat} {K : Res → St → Prop} {q : Ls} (h : ∀ l s', q = .inr (l, s') → ∀ st' own', Upd st st' b s' → own'.good st' → K (.ret (.slice 6 (l.map encN) own')) (own'.st st' (l.length * 6)))
    (k : ∀ e s', q = .inl (e, s') → ∀ st', Upd st st' b s' → K (.pan (fault e)) st') : TellsL st b K q := by
  match q with
  | .inr (l, s') => exact h l s' rfl
  | .inl (e, s') => exact k e s' rfl

theorem round_c {d : Nat} {x : Int} (hx : x = ((d + 1 : Nat) : Int)) (hd : d ≤ 1000000) {Y : Sta → Rs} (hY : Calls3 11 d Y) (h0 : d = 0 → ∀ s, Y s = .inl (2, s)) (hB : Bads Y) (hF : Falls Y) : Reads0 54 x (roundP Y) := by
  intro s hm b st R hs h
  refine pcalls_of_body tys_ok [] Try.func54 rfl (by decide) ?_
  have hb := opn_le hm
  unfold roundP at h
  cases hq1 : takeP s with
  | inl q =>
    rw [hq1] at h
    obtain ⟨e, s'⟩ := q
    repeat' (conv => whnf
             first
               | with_reducible exact quiet_same
               | with_reducible exact quiet_bool
               | with_reducible exact quiet_not
               | with_reducible refine draw_step (by kernel_rfl) ?_
               | with_reducible refine quiet_go ?_ ?_ ?_
               | with_reducible refine bcase_yes (by first | assumption | omega) ?_
               | with_reducible refine bcase_no (by first | assumption | omega) ?_
               | with_reducible refine bcase_dyes (by omega) ?_
               | with_reducible refine bcase_dno (by omega) ?_
               | with_reducible refine bcase_len (by decide) (fun _ => ?_) (fun _ => ?_)
               | with_reducible refine bcase_eq (fun _ => ?_) (fun _ => ?_)
               | with_reducible refine bcase_dec (fun _ => ?_) (fun _ => ?_)
               | with_reducible refine bcase_true ?_
               | with_reducible refine bcase_false ?_
               | with_reducible refine bcase_intro (fun _ => ?_) (fun _ => ?_)
               | with_reducible refine len_kids (fun _ => ?_)
               | with_reducible refine at_known (by assumption) (by omega) ?_
               | with_reducible refine at_kid (by omega) (by omega) (fun _ _ _ => ?_)
               | with_reducible refine tail_kids (by omega) (by omega) ?_
               | with_reducible refine slice_kids (by omega) (by omega) (by omega) ?_
               | with_reducible refine ex_wrap (by omega) (by omega) ?_
               | with_reducible refine quo_step (by decide) (by omega) (by omega) ?_
               | with_reducible refine rem_step (by decide) ?_
               | with_reducible refine nil_row (fun _ => ?_) ?_
               | with_reducible refine nil_row2 (fun _ => ?_) ?_
               | with_reducible refine len_toks (fun _ => ?_)
               | with_reducible refine len_ints (fun _ => ?_)
               | with_reducible refine tok_known (by assumption) (by omega) ?_
               | with_reducible refine at_tok (by omega) (by omega) (fun _ _ => ?_)
               | with_reducible refine at_int (by omega) (by omega) (fun _ _ => ?_)
               | with_reducible refine slice_ints (by omega) (by omega) (by omega) ?_
               | refine take_r hs hb (tells_l hq1 (fun st1 h1 => ?_))
               | with_reducible refine draw_head ?_)
    all_goals exact fin (h st1 h1) rfl
  | inr q =>
    obtain ⟨n1, s1⟩ := q
    rw [hq1] at h
    have hm1 : mu s1 ≤ 100000000 := by have := (take_mu hq1).1; omega
    have hb1 := opn_le hm1
    have hn1 : [n1].length + 1 ≤ 1000000000 := by show 1 + 1 ≤ 1000000000; decide
    dsimp only at h
    cases hA : isF s1 10 [45, 62] with
    | true =>
      rw [if_pos hA] at h
      have hb2 : (nextM s1).2.1.opn.length ≤ 500000000 := opn_le (by have := isF_mu hA (by decide) (by decide); omega)
      have hn2 : ∀ n2 : Nd, ([n1] ++ [n2]).length + 1 ≤ 1000000000 := fun _ => by show 2 + 1 ≤ 1000000000; decide
      repeat' (conv => whnf
               first
                 | with_reducible exact quiet_same
                 | with_reducible exact quiet_bool
                 | with_reducible exact quiet_not
                 | with_reducible refine draw_step (by kernel_rfl) ?_
                 | with_reducible refine quiet_go ?_ ?_ ?_
                 | with_reducible refine bcase_yes (by first | assumption | omega) ?_
                 | with_reducible refine bcase_no (by first | assumption | omega) ?_
                 | with_reducible refine bcase_dyes (by omega) ?_
                 | with_reducible refine bcase_dno (by omega) ?_
                 | with_reducible refine bcase_len (by decide) (fun _ => ?_) (fun _ => ?_)
                 | with_reducible refine bcase_eq (fun _ => ?_) (fun _ => ?_)
                 | with_reducible refine bcase_dec (fun _ => ?_) (fun _ => ?_)
                 | with_reducible refine bcase_true ?_
                 | with_reducible refine bcase_false ?_
                 | with_reducible refine bcase_intro (fun _ => ?_) (fun _ => ?_)
                 | with_reducible refine len_kids (fun _ => ?_)
                 | with_reducible refine at_known (by assumption) (by omega) ?_
                 | with_reducible refine at_kid (by omega) (by omega) (fun _ _ _ => ?_)
                 | with_reducible refine tail_kids (by omega) (by omega) ?_
                 | with_reducible refine slice_kids (by omega) (by omega) (by omega) ?_
                 | with_reducible refine ex_wrap (by omega) (by omega) ?_
                 | with_reducible refine quo_step (by decide) (by omega) (by omega) ?_
                 | with_reducible refine rem_step (by decide) ?_
                 | with_reducible refine nil_row (fun _ => ?_) ?_
                 | with_reducible refine nil_row2 (fun _ => ?_) ?_
                 | with_reducible refine len_toks (fun _ => ?_)
                 | with_reducible refine len_ints (fun _ => ?_)
                 | with_reducible refine tok_known (by assumption) (by omega) ?_
                 | with_reducible refine at_tok (by omega) (by omega) (fun _ _ => ?_)
                 | with_reducible refine at_int (by omega) (by omega) (fun _ _ => ?_)
                 | with_reducible refine slice_ints (by omega) (by omega) (by omega) ?_
                 | refine take_r hs hb (tells_r hq1 (fun st1 h1 => ?_))
                 | refine is_t hA h1.1 hb1 ?_
                 | refine take_r look_has hb1 (tells_r (take_is hA (by decide)) (fun st2 h2 => ?_))
                 | refine app_m (l := [n1]) (x := leafT (nextM s1).1) (own := .full) trivial hn1 (fun own1 ho1 => ?_)
                 | refine want_r (h2.1.hw own1 _) hb2 (tells_own ho1 h2.1 (tellsO_of (fun n3 s3 hq3 st3 h3 hg3 => ?_) (fun e3 s3 hq3 st3 h3 hg3 => ?_)))
                 | refine app_m (l := [n1] ++ [leafT (nextM s1).1]) (x := n3) hg3 (hn2 _) (fun own2 ho2 => ?_)
                 | with_reducible refine draw_head ?_)
      all_goals unfold finP at h
      all_goals rw [hq3] at h
      · exact finl (Own.good_le ho2) fin_node (h st3 ((h1.trans upd_look).trans (h2.trans h3)))
      · exact finl (Own.good_le hg3) rfl (h st3 ((h1.trans upd_look).trans (h2.trans h3)))
    | false =>
    rw [if_neg (by rw [hA]; decide)] at h
    cases hC : isF s1 15 [41] with
    | true =>
      rw [if_pos hC] at h
      repeat' (conv => whnf
               first
                 | with_reducible exact quiet_same
                 | with_reducible exact quiet_bool
                 | with_reducible exact quiet_not
                 | with_reducible refine draw_step (by kernel_rfl) ?_
                 | with_reducible refine quiet_go ?_ ?_ ?_
                 | with_reducible refine bcase_yes (by first | assumption | omega) ?_
                 | with_reducible refine bcase_no (by first | assumption | omega) ?_
                 | with_reducible refine bcase_dyes (by omega) ?_
                 | with_reducible refine bcase_dno (by omega) ?_
                 | with_reducible refine bcase_len (by decide) (fun _ => ?_) (fun _ => ?_)
                 | with_reducible refine bcase_eq (fun _ => ?_) (fun _ => ?_)
                 | with_reducible refine bcase_dec (fun _ => ?_) (fun _ => ?_)
                 | with_reducible refine bcase_true ?_
                 | with_reducible refine bcase_false ?_
                 | with_reducible refine bcase_intro (fun _ => ?_) (fun _ => ?_)
                 | with_reducible refine len_kids (fun _ => ?_)
                 | with_reducible refine at_known (by assumption) (by omega) ?_
                 | with_reducible refine at_kid (by omega) (by omega) (fun _ _ _ => ?_)
                 | with_reducible refine tail_kids (by omega) (by omega) ?_
                 | with_reducible refine slice_kids (by omega) (by omega) (by omega) ?_
                 | with_reducible refine ex_wrap (by omega) (by omega) ?_
                 | with_reducible refine quo_step (by decide) (by omega) (by omega) ?_
                 | with_reducible refine rem_step (by decide) ?_
                 | with_reducible refine nil_row (fun _ => ?_) ?_
                 | with_reducible refine nil_row2 (fun _ => ?_) ?_
                 | with_reducible refine len_toks (fun _ => ?_)
                 | with_reducible refine len_ints (fun _ => ?_)
                 | with_reducible refine tok_known (by assumption) (by omega) ?_
                 | with_reducible refine at_tok (by omega) (by omega) (fun _ _ => ?_)
                 | with_reducible refine at_int (by omega) (by omega) (fun _ _ => ?_)
                 | with_reducible refine slice_ints (by omega) (by omega) (by omega) ?_
                 | refine take_r hs hb (tells_r hq1 (fun st1 h1 => ?_))
                 | refine is_n hA h1.1 hb1 ?_
                 | refine is_t hC look_has hb1 ?_
                 | refine want_r look_has hb1 (tells_of (fun n3 s3 hq3 st3 h3 => ?_) (fun e3 s3 hq3 st3 h3 => ?_))
                 | refine app_m (l := [n1]) (x := n3) (own := .full) trivial hn1 (fun own2 ho2 => ?_)
                 | with_reducible refine draw_head ?_)
      all_goals unfold finP at h
      all_goals rw [hq3] at h
      · exact finl (Own.good_le ho2) fin_node (h st3 (((h1.trans upd_look).trans upd_look).trans h3))
      · exact fin (h st3 (((h1.trans upd_look).trans upd_look).trans h3)) rfl
    | false =>
    rw [if_neg (by rw [hC]; decide)] at h
    cases hE : isF s1 15 [44] with
    | true =>
      rw [if_pos hE] at h
      repeat' (conv => whnf
               first
                 | with_reducible exact quiet_same
                 | with_reducible exact quiet_bool
                 | with_reducible exact quiet_not
                 | with_reducible refine draw_step (by kernel_rfl) ?_
                 | with_reducible refine quiet_go ?_ ?_ ?_
                 | with_reducible refine bcase_yes (by first | assumption | omega) ?_
                 | with_reducible refine bcase_no (by first | assumption | omega) ?_
                 | with_reducible refine bcase_dyes (by omega) ?_
                 | with_reducible refine bcase_dno (by omega) ?_
                 | with_reducible refine bcase_len (by decide) (fun _ => ?_) (fun _ => ?_)
                 | with_reducible refine bcase_eq (fun _ => ?_) (fun _ => ?_)
                 | with_reducible refine bcase_dec (fun _ => ?_) (fun _ => ?_)
                 | with_reducible refine bcase_true ?_
                 | with_reducible refine bcase_false ?_
                 | with_reducible refine bcase_intro (fun _ => ?_) (fun _ => ?_)
                 | with_reducible refine len_kids (fun _ => ?_)
                 | with_reducible refine at_known (by assumption) (by omega) ?_
                 | with_reducible refine at_kid (by omega) (by omega) (fun _ _ _ => ?_)
                 | with_reducible refine tail_kids (by omega) (by omega) ?_
                 | with_reducible refine slice_kids (by omega) (by omega) (by omega) ?_
                 | with_reducible refine ex_wrap (by omega) (by omega) ?_
                 | with_reducible refine quo_step (by decide) (by omega) (by omega) ?_
                 | with_reducible refine rem_step (by decide) ?_
                 | with_reducible refine nil_row (fun _ => ?_) ?_
                 | with_reducible refine nil_row2 (fun _ => ?_) ?_
                 | with_reducible refine len_toks (fun _ => ?_)
                 | with_reducible refine len_ints (fun _ => ?_)
                 | with_reducible refine tok_known (by assumption) (by omega) ?_
                 | with_reducible refine at_tok (by omega) (by omega) (fun _ _ => ?_)
                 | with_reducible refine at_int (by omega) (by omega) (fun _ _ => ?_)
                 | with_reducible refine slice_ints (by omega) (by omega) (by omega) ?_
                 | refine take_r hs hb (tells_r hq1 (fun st1 h1 => ?_))
                 | refine is_n hA h1.1 hb1 ?_
                 | refine is_n hC look_has hb1 ?_
                 | refine is_t hE look_has hb1 ?_
                 | with_reducible refine draw_head ?_)
      refine loop_h (α := List Nd × Sta × St × Own) (fun x => [(5, .slice 6 (x.1.map encN) x.2.2.2)]) [0, 1, 4, 6] (fun x => []) [0] (fun x => x.2.2.2.st x.2.2.1 (x.1.length * 6))
        (fun x => x.2.2.2.good x.2.2.1 ∧ Upd st x.2.2.1 b x.2.1 ∧ x.1.length + mu x.2.1 ≤ 200000000 ∧ mu x.2.1 ≤ mu s1 ∧ commaL x.1 x.2.1 = commaL [n1] s1) (fun x => mu x.2.1) ([n1], s1, _, .full)
        ⟨trivial, ((h1.trans upd_look).trans upd_look).trans upd_look, by show 1 + mu s1 ≤ _; omega, Nat.le_refl _, rfl⟩ (by refine ⟨rfl, ?_, ?_, rfl⟩ <;> repeat' (first | exact trivial | exact rfl | refine And.intro ?_ ?_)) (St.le_refl _) ?_
      rintro ⟨l, s3, st3, own⟩ ⟨j1, j2, j5, j6, j7⟩
      dsimp only at j1 j2 j5 j6 j7
      have hm3 : mu s3 ≤ 100000000 := by omega
      have hb3 := opn_le hm3
      have hl3 : Has (st3.setBox b (lookC s3)) b s3 := .inl (St.box_same ..)
      have g3 : own.good (st3.setBox b (lookC s3)) := good_set j1 j2.1
      have hn : l.length + 1 ≤ 1000000000 := by omega
      repeat' (conv => whnf
               first
                 | with_reducible exact quiet_same
                 | with_reducible exact quiet_bool
                 | with_reducible exact quiet_not
                 | with_reducible refine draw_step (by kernel_rfl) ?_
                 | with_reducible refine quiet_go ?_ ?_ ?_
                 | with_reducible refine bcase_yes (by first | assumption | omega) ?_
                 | with_reducible refine bcase_no (by first | assumption | omega) ?_
                 | with_reducible refine bcase_dyes (by omega) ?_
                 | with_reducible refine bcase_dno (by omega) ?_
                 | with_reducible refine bcase_len (by decide) (fun _ => ?_) (fun _ => ?_)
                 | with_reducible refine bcase_eq (fun _ => ?_) (fun _ => ?_)
                 | with_reducible refine bcase_dec (fun _ => ?_) (fun _ => ?_)
                 | with_reducible refine bcase_true ?_
                 | with_reducible refine bcase_false ?_
                 | with_reducible refine bcase_intro (fun _ => ?_) (fun _ => ?_)
                 | with_reducible refine len_kids (fun _ => ?_)
                 | with_reducible refine at_known (by assumption) (by omega) ?_
                 | with_reducible refine at_kid (by omega) (by omega) (fun _ _ _ => ?_)
                 | with_reducible refine tail_kids (by omega) (by omega) ?_
                 | with_reducible refine slice_kids (by omega) (by omega) (by omega) ?_
                 | with_reducible refine ex_wrap (by omega) (by omega) ?_
                 | with_reducible refine quo_step (by decide) (by omega) (by omega) ?_
                 | with_reducible refine rem_step (by decide) ?_
                 | with_reducible refine nil_row (fun _ => ?_) ?_
                 | with_reducible refine nil_row2 (fun _ => ?_) ?_
                 | with_reducible refine len_toks (fun _ => ?_)
                 | with_reducible refine len_ints (fun _ => ?_)
                 | with_reducible refine tok_known (by assumption) (by omega) ?_
                 | with_reducible refine at_tok (by omega) (by omega) (fun _ _ => ?_)
                 | with_reducible refine at_int (by omega) (by omega) (fun _ _ => ?_)
                 | with_reducible refine slice_ints (by omega) (by omega) (by omega) ?_
                 | refine is_o j2.1 hb3 ?_
                 | refine take_r (hl3.hw own _) hb3 (tells_ro g3 hl3 (take_is (by assumption) (by decide)) (fun st4 h4 g4 => ?_))
                 | refine app_m (l := l) (x := leafT (nextM s3).1) g4 hn (fun own' ho' => ?_)
                 | refine want_r (hl3.hw own _) hb3 (tells_own g3 hl3 (tellsO_of (fun n5 s5 hq5 st5 h5 g5 => ?_) (fun e5 s5 hq5 st5 h5 g5 => ?_)))
                 | refine app_m (l := l) (x := n5) g5 hn (fun own' ho' => ?_)
                 | with_reducible refine draw_head ?_)
      all_goals conv => whnf
      · have hp : isF s3 15 [44] = true := by assumption
        have hd3 := isF_mu hp (by decide) (by decide)
        refine ⟨(l ++ [leafT (nextM s3).1], (nextM s3).2.1, st4, own'), ⟨ho', j2.trans (upd_look.trans h4), ?_, by show mu (nextM s3).2.1 ≤ _; omega, ?_⟩, hd3, (by refine ⟨rfl, ?_, ?_, rfl⟩ <;> repeat' (first | exact trivial | exact rfl | refine And.intro ?_ ?_)), St.le_refl _⟩
        · show (l ++ [leafT (nextM s3).1]).length + mu (nextM s3).2.1 ≤ _
          rw [List.length_append, List.length_singleton]
          omega
        · show commaL (l ++ [leafT (nextM s3).1]) (nextM s3).2.1 = _
          rw [← j7, commaL_at (l := l) hp]
      all_goals rw [← j7, commaL_end (by assumption)] at h
      all_goals unfold finP at h
      all_goals dsimp only at h
      all_goals rw [hq5] at h
      · exact finl (Own.good_le ho') fin_node (h st5 (j2.trans (upd_look.trans h5)))
      · exact finl (Own.good_le g5) rfl (h st5 (j2.trans (upd_look.trans h5)))
    | false =>
      rw [if_neg (by rw [hE]; decide)] at h
      replace h : Tells st b R (match typesP Y n1 s1 with
          | .inl e => (.inl e : Rs)
          | .inr r => finP (if 2 < r.1.length then 5 else 4) r.1 r.2 [41]) := by
        unfold typesP
        cases hy : Y s1 with
        | inl e => rw [hy] at h; exact h
        | inr q => rw [hy] at h; exact h
      have hbl : ∀ {l s2}, typesP Y n1 s1 = .inr (l, s2) → s2.opn.length ≤ 500000000 ∧ l.length + 1 ≤ 1000000000 := fun e => by
        have := typesP_mu hF e
        exact ⟨opn_le (by omega), by omega⟩
      repeat' (conv => whnf
               first
                 | with_reducible exact quiet_same
                 | with_reducible exact quiet_bool
                 | with_reducible exact quiet_not
                 | with_reducible refine draw_step (by kernel_rfl) ?_
                 | with_reducible refine quiet_go ?_ ?_ ?_
                 | with_reducible refine bcase_yes (by first | assumption | omega) ?_
                 | with_reducible refine bcase_no (by first | assumption | omega) ?_
                 | with_reducible refine bcase_dyes (by omega) ?_
                 | with_reducible refine bcase_dno (by omega) ?_
                 | with_reducible refine bcase_len (by decide) (fun _ => ?_) (fun _ => ?_)
                 | with_reducible refine bcase_eq (fun _ => ?_) (fun _ => ?_)
                 | with_reducible refine bcase_dec (fun _ => ?_) (fun _ => ?_)
                 | with_reducible refine bcase_true ?_
                 | with_reducible refine bcase_false ?_
                 | with_reducible refine bcase_intro (fun _ => ?_) (fun _ => ?_)
                 | with_reducible refine len_kids (fun _ => ?_)
                 | with_reducible refine at_known (by assumption) (by omega) ?_
                 | with_reducible refine at_kid (by omega) (by omega) (fun _ _ _ => ?_)
                 | with_reducible refine tail_kids (by omega) (by omega) ?_
                 | with_reducible refine slice_kids (by omega) (by omega) (by omega) ?_
                 | with_reducible refine ex_wrap (by omega) (by omega) ?_
                 | with_reducible refine quo_step (by decide) (by omega) (by omega) ?_
                 | with_reducible refine rem_step (by decide) ?_
                 | with_reducible refine nil_row (fun _ => ?_) ?_
                 | with_reducible refine nil_row2 (fun _ => ?_) ?_
                 | with_reducible refine len_toks (fun _ => ?_)
                 | with_reducible refine len_ints (fun _ => ?_)
                 | with_reducible refine tok_known (by assumption) (by omega) ?_
                 | with_reducible refine at_tok (by omega) (by omega) (fun _ _ => ?_)
                 | with_reducible refine at_int (by omega) (by omega) (fun _ _ => ?_)
                 | with_reducible refine slice_ints (by omega) (by omega) (by omega) ?_
                 | refine take_r hs hb (tells_r hq1 (fun st1 h1 => ?_))
                 | refine is_n hA h1.1 hb1 ?_
                 | refine is_n hC look_has hb1 ?_
                 | refine is_n hE look_has hb1 ?_
                 | refine types_c hY h0 hB hF (n1 := n1) (by omega) hm1 look_has (tellsL_of (fun l s2 hq2 st2 own1 h2 g2 => ?_) (fun e2 s2 hq2 st2 h2 => ?_))
                 | refine len_m (fun _ => ?_)
                 | refine want_r (h2.1.hw own1 _) (hbl hq2).1 (tells_own g2 h2.1 (tellsO_of (fun n3 s3 hq3 st3 h3 hg3 => ?_) (fun e3 s3 hq3 st3 h3 hg3 => ?_)))
                 | refine app_m (l := l) (x := n3) hg3 (hbl hq2).2 (fun own2 ho2 => ?_)
                 | with_reducible refine draw_head ?_)
      all_goals rw [hq2] at h
      all_goals dsimp only at h
      all_goals try unfold finP at h
      all_goals try rw [hq3] at h
      all_goals have hu := (((h1.trans upd_look).trans upd_look).trans upd_look).trans h2
      · rw [if_pos (by omega)] at h
        exact finl (Own.good_le ho2) fin_node (h st3 (hu.trans h3))
      · exact finl (Own.good_le hg3) rfl (h st3 (hu.trans h3))
      · rw [if_neg (by omega)] at h
        exact finl (Own.good_le ho2) fin_node (h st3 (hu.trans h3))
      · exact finl (Own.good_le hg3) rfl (h st3 (hu.trans h3))
      · exact fin (h st2 hu) rfl
end
end Go.Proofs.Ytngbihfihdheoaa

/-
  TYPES: the document's Commas.
-/
set_option linter.unusedVariables false
set_option pp.maxSteps 400
namespace Go.Proofs.Ytngbihfihdheoaa
open Go Go.Aw
section
variable {st : St} {R : Res → St → Prop}
attribute [local irreducible] Go.Aw.appendTo
theorem commas_c {n1 : Nd} {s : Sta} (hm : mu s ≤ 100000000) (h : R (.ret (encRs (finP 3 (commaL [n1] s).1 (commaL [n1] s).2 [41]))) st) :
    PC 75 [.slice 6 [encN n1] .full, encS s] st R := by
  refine pcalls_of_body tys_ok [] Try.func75 rfl (by decide) ?_
  repeat' (conv => whnf
           first
             | with_reducible exact quiet_same
             | with_reducible exact quiet_bool
             | with_reducible exact quiet_not
             | with_reducible refine draw_step (by kernel_rfl) ?_
             | with_reducible refine quiet_go ?_ ?_ ?_
             | with_reducible refine bcase_yes (by first | assumption | omega) ?_
             | with_reducible refine bcase_no (by first | assumption | omega) ?_
             | with_reducible refine bcase_dyes (by omega) ?_
             | with_reducible refine bcase_dno (by omega) ?_
             | with_reducible refine bcase_len (by decide) (fun _ => ?_) (fun _ => ?_)
             | with_reducible refine bcase_eq (fun _ => ?_) (fun _ => ?_)
             | with_reducible refine bcase_dec (fun _ => ?_) (fun _ => ?_)
             | with_reducible refine bcase_true ?_
             | with_reducible refine bcase_false ?_
             | with_reducible refine bcase_intro (fun _ => ?_) (fun _ => ?_)
             | with_reducible refine len_kids (fun _ => ?_)
             | with_reducible refine at_known (by assumption) (by omega) ?_
             | with_reducible refine at_kid (by omega) (by omega) (fun _ _ _ => ?_)
             | with_reducible refine tail_kids (by omega) (by omega) ?_
             | with_reducible refine slice_kids (by omega) (by omega) (by omega) ?_
             | with_reducible refine ex_wrap (by omega) (by omega) ?_
             | with_reducible refine quo_step (by decide) (by omega) (by omega) ?_
             | with_reducible refine rem_step (by decide) ?_
             | with_reducible refine nil_row (fun _ => ?_) ?_
             | with_reducible refine nil_row2 (fun _ => ?_) ?_
             | with_reducible refine len_toks (fun _ => ?_)
             | with_reducible refine len_ints (fun _ => ?_)
             | with_reducible refine tok_known (by assumption) (by omega) ?_
             | with_reducible refine at_tok (by omega) (by omega) (fun _ _ => ?_)
             | with_reducible refine at_int (by omega) (by omega) (fun _ _ => ?_)
             | with_reducible refine slice_ints (by omega) (by omega) (by omega) ?_
             | with_reducible refine draw_head ?_)
  refine loop_h (α := List Nd × Sta × Own) (fun x => [(0, .slice 6 (x.1.map encN) x.2.2)]) [3, 4] (fun x => [(0, x.2.1.cells)]) [1] (fun x => x.2.2.st st (x.1.length * 6))
    (fun x => x.2.2.good st ∧ x.1.length + mu x.2.1 ≤ 200000000 ∧ mu x.2.1 ≤ mu s ∧ commaL x.1 x.2.1 = commaL [n1] s) (fun x => mu x.2.1) ([n1], s, .full)
    ⟨trivial, by show 1 + mu s ≤ _; omega, Nat.le_refl _, rfl⟩ (by refine ⟨rfl, ?_, ?_, rfl⟩ <;> repeat' (first | exact trivial | exact rfl | refine And.intro ?_ ?_)) (St.le_refl _) ?_
  rintro ⟨l, s3, own⟩ ⟨j1, j5, j6, j7⟩
  dsimp only at j1 j5 j6 j7
  have hm3 : mu s3 ≤ 100000000 := by omega
  have hb3 := opn_le hm3
  have hn : l.length + 1 ≤ 1000000000 := by omega
  rw [← j7] at h
  cases hE : isF s3 15 [44] with
  | true =>
    repeat' (conv => whnf
             first
               | with_reducible exact quiet_same
               | with_reducible exact quiet_bool
               | with_reducible exact quiet_not
               | with_reducible refine draw_step (by kernel_rfl) ?_
               | with_reducible refine quiet_go ?_ ?_ ?_
               | with_reducible refine bcase_yes (by first | assumption | omega) ?_
               | with_reducible refine bcase_no (by first | assumption | omega) ?_
               | with_reducible refine bcase_dyes (by omega) ?_
               | with_reducible refine bcase_dno (by omega) ?_
               | with_reducible refine bcase_len (by decide) (fun _ => ?_) (fun _ => ?_)
               | with_reducible refine bcase_eq (fun _ => ?_) (fun _ => ?_)
               | with_reducible refine bcase_dec (fun _ => ?_) (fun _ => ?_)
               | with_reducible refine bcase_true ?_
               | with_reducible refine bcase_false ?_
               | with_reducible refine bcase_intro (fun _ => ?_) (fun _ => ?_)
               | with_reducible refine len_kids (fun _ => ?_)
               | with_reducible refine at_known (by assumption) (by omega) ?_
               | with_reducible refine at_kid (by omega) (by omega) (fun _ _ _ => ?_)
               | with_reducible refine tail_kids (by omega) (by omega) ?_
               | with_reducible refine slice_kids (by omega) (by omega) (by omega) ?_
               | with_reducible refine ex_wrap (by omega) (by omega) ?_
               | with_reducible refine quo_step (by decide) (by omega) (by omega) ?_
               | with_reducible refine rem_step (by decide) ?_
               | with_reducible refine nil_row (fun _ => ?_) ?_
               | with_reducible refine nil_row2 (fun _ => ?_) ?_
               | with_reducible refine len_toks (fun _ => ?_)
               | with_reducible refine len_ints (fun _ => ?_)
               | with_reducible refine tok_known (by assumption) (by omega) ?_
               | with_reducible refine at_tok (by omega) (by omega) (fun _ _ => ?_)
               | with_reducible refine at_int (by omega) (by omega) (fun _ _ => ?_)
               | with_reducible refine slice_ints (by omega) (by omega) (by omega) ?_
               | refine ris_e hE (by decide) hb3 ?_
               | refine rtake_e (take_is hE (by decide)) hb3 ?_
               | refine app_m (l := l) (x := leafT (nextM s3).1) j1 hn (fun own' ho' => ?_)
               | with_reducible refine draw_head ?_)
    all_goals conv => whnf
    have hd3 := isF_mu hE (by decide) (by decide)
    refine ⟨(l ++ [leafT (nextM s3).1], (nextM s3).2.1, own'), ⟨ho', ?_, by show mu (nextM s3).2.1 ≤ _; omega, ?_⟩, hd3, (by refine ⟨rfl, ?_, ?_, rfl⟩ <;> repeat' (first | exact trivial | exact rfl | refine And.intro ?_ ?_)), St.le_refl _⟩
    · show (l ++ [leafT (nextM s3).1]).length + mu (nextM s3).2.1 ≤ _
      rw [List.length_append, List.length_singleton]
      omega
    · show commaL (l ++ [leafT (nextM s3).1]) (nextM s3).2.1 = _
      rw [← j7, commaL_at (l := l) hE]
  | false =>
    rw [commaL_end hE] at h
    unfold finP at h
    cases hq : wantP s3 15 [41] with
    | inl p =>
      obtain ⟨e, s'⟩ := p
      rw [hq] at h
      have hne : ¬ e = 0 := bads_want _ _ _ hq
      repeat' (conv => whnf
               first
                 | with_reducible exact quiet_same
                 | with_reducible exact quiet_bool
                 | with_reducible exact quiet_not
                 | with_reducible refine draw_step (by kernel_rfl) ?_
                 | with_reducible refine quiet_go ?_ ?_ ?_
                 | with_reducible refine bcase_yes (by first | assumption | omega) ?_
                 | with_reducible refine bcase_no (by first | assumption | omega) ?_
                 | with_reducible refine bcase_dyes (by omega) ?_
                 | with_reducible refine bcase_dno (by omega) ?_
                 | with_reducible refine bcase_len (by decide) (fun _ => ?_) (fun _ => ?_)
                 | with_reducible refine bcase_eq (fun _ => ?_) (fun _ => ?_)
                 | with_reducible refine bcase_dec (fun _ => ?_) (fun _ => ?_)
                 | with_reducible refine bcase_true ?_
                 | with_reducible refine bcase_false ?_
                 | with_reducible refine bcase_intro (fun _ => ?_) (fun _ => ?_)
                 | with_reducible refine len_kids (fun _ => ?_)
                 | with_reducible refine at_known (by assumption) (by omega) ?_
                 | with_reducible refine at_kid (by omega) (by omega) (fun _ _ _ => ?_)
                 | with_reducible refine tail_kids (by omega) (by omega) ?_
                 | with_reducible refine slice_kids (by omega) (by omega) (by omega) ?_
                 | with_reducible refine ex_wrap (by omega) (by omega) ?_
                 | with_reducible refine quo_step (by decide) (by omega) (by omega) ?_
                 | with_reducible refine rem_step (by decide) ?_
                 | with_reducible refine nil_row (fun _ => ?_) ?_
                 | with_reducible refine nil_row2 (fun _ => ?_) ?_
                 | with_reducible refine len_toks (fun _ => ?_)
                 | with_reducible refine len_ints (fun _ => ?_)
                 | with_reducible refine tok_known (by assumption) (by omega) ?_
                 | with_reducible refine at_tok (by omega) (by omega) (fun _ _ => ?_)
                 | with_reducible refine at_int (by omega) (by omega) (fun _ _ => ?_)
                 | with_reducible refine slice_ints (by omega) (by omega) (by omega) ?_
                 | refine ris_e hE (by decide) hb3 ?_
                 | refine rwant_e hq (by decide) hb3 ?_
                 | with_reducible refine draw_head ?_)
      all_goals exact finl (Own.good_le j1) rfl h
    | inr p =>
      obtain ⟨n, s'⟩ := p
      rw [hq] at h
      repeat' (conv => whnf
               first
                 | with_reducible exact quiet_same
                 | with_reducible exact quiet_bool
                 | with_reducible exact quiet_not
                 | with_reducible refine draw_step (by kernel_rfl) ?_
                 | with_reducible refine quiet_go ?_ ?_ ?_
                 | with_reducible refine bcase_yes (by first | assumption | omega) ?_
                 | with_reducible refine bcase_no (by first | assumption | omega) ?_
                 | with_reducible refine bcase_dyes (by omega) ?_
                 | with_reducible refine bcase_dno (by omega) ?_
                 | with_reducible refine bcase_len (by decide) (fun _ => ?_) (fun _ => ?_)
                 | with_reducible refine bcase_eq (fun _ => ?_) (fun _ => ?_)
                 | with_reducible refine bcase_dec (fun _ => ?_) (fun _ => ?_)
                 | with_reducible refine bcase_true ?_
                 | with_reducible refine bcase_false ?_
                 | with_reducible refine bcase_intro (fun _ => ?_) (fun _ => ?_)
                 | with_reducible refine len_kids (fun _ => ?_)
                 | with_reducible refine at_known (by assumption) (by omega) ?_
                 | with_reducible refine at_kid (by omega) (by omega) (fun _ _ _ => ?_)
                 | with_reducible refine tail_kids (by omega) (by omega) ?_
                 | with_reducible refine slice_kids (by omega) (by omega) (by omega) ?_
                 | with_reducible refine ex_wrap (by omega) (by omega) ?_
                 | with_reducible refine quo_step (by decide) (by omega) (by omega) ?_
                 | with_reducible refine rem_step (by decide) ?_
                 | with_reducible refine nil_row (fun _ => ?_) ?_
                 | with_reducible refine nil_row2 (fun _ => ?_) ?_
                 | with_reducible refine len_toks (fun _ => ?_)
                 | with_reducible refine len_ints (fun _ => ?_)
                 | with_reducible refine tok_known (by assumption) (by omega) ?_
                 | with_reducible refine at_tok (by omega) (by omega) (fun _ _ => ?_)
                 | with_reducible refine at_int (by omega) (by omega) (fun _ _ => ?_)
                 | with_reducible refine slice_ints (by omega) (by omega) (by omega) ?_
                 | refine ris_e hE (by decide) hb3 ?_
                 | refine rwant_e hq (by decide) hb3 ?_
                 | refine app_m (l := l) (x := n) j1 hn (fun own' ho' => ?_)
                 | with_reducible refine draw_head ?_)
      all_goals exact finl (Own.good_le ho') fin_nodeQ h
end
end Go.Proofs.Ytngbihfihdheoaa

/-
  TYPES: Type, Atom, Row at any depth.
-/
set_option linter.unusedVariables false
namespace Go.Proofs.Ytngbihfihdheoaa
open Go Go.Aw

theorem type_zero {d : Nat} (h : d = 0) (s : Sta) : typeP d s = .inl (2, s) := by subst h; rfl
theorem atom_all {d : Nat} (hd : d + 1 ≤ 1000000) (h : Calls3 11 (d : Int) (typeP d)) : Reads0 37 ((d + 1 : Nat) : Int) (atomP (typeP d)) :=
  atom_c (round_c rfl (by omega) h (fun e s => type_zero e s) (bads_type d) (falls_type d)) (square_c (by omega) h (fun e s => type_zero e s) (bads_type d) (falls_type d))
theorem row_all {d : Nat} (hd : d + 1 ≤ 1000000) (h : Calls3 11 (d : Int) (typeP d)) : Reads0 39 ((d + 1 : Nat) : Int) (rowP (atomP (typeP d))) :=
  row_c (atom_all hd h) (falls_atom (falls_type d))
theorem whole_all {d : Nat} (hd : d + 1 ≤ 1000000) (h : Calls3 11 (d : Int) (typeP d)) : Reads0 28 ((d + 1 : Nat) : Int) (wholeP (atomP (typeP d))) :=
  whole_c (row_all hd h) (arrows_c (row_all hd h) (falls_atom (falls_type d))) (falls_atom (falls_type d))
theorem type_all : ∀ d : Nat, d ≤ 100 → Calls3 11 (d : Int) (typeP d)
  | 0, _ => type_c fun h => absurd (by decide) h
  | d + 1, hd => type_c fun _ => by
    rw [if_neg (by omega)]
    exact whole_all (by omega) (type_all d (by omega))
/-- how deep: at most a hundred -/
def depF (deep : Int) : Nat := (if 100 < deep then 100 else deep).toNat
theorem dep_le (deep : Int) : depF deep ≤ 100 := by unfold depF; split <;> omega
theorem dep_eq {deep : Int} (h : ¬ deep < 1) : (if 100 < deep then 100 else deep) = ((depF deep - 1 + 1 : Nat) : Int) := by unfold depF; split <;> omega
theorem typeX {deep : Int} : Calls3 11 deep (wholeP (atomP (typeP (depF deep - 1)))) := type_c fun h => by
  rw [dep_eq h]
  have := dep_le deep
  exact whole_all (by omega) (type_all _ (by omega))
theorem atomX {deep : Int} : Calls3 18 deep (atomP (typeP (depF deep - 1))) := atomX_c fun h => by
  rw [dep_eq h]
  have := dep_le deep
  exact atom_all (by omega) (type_all _ (by omega))
theorem rowX {deep : Int} : Calls3 20 deep (rowP (atomP (typeP (depF deep - 1)))) := rowX_c fun h => by
  rw [dep_eq h]
  have := dep_le deep
  exact row_all (by omega) (type_all _ (by omega))
end Go.Proofs.Ytngbihfihdheoaa

/-
  TYPES: the document's round, atom.
-/
set_option linter.unusedVariables false
set_option pp.maxSteps 400
namespace Go.Proofs.Ytngbihfihdheoaa
open Go Go.Aw
/-- the parts of a reading -/
def rn : Rs → Nd
  | .inr p => p.1
  | .inl _ => nd0
def rs : Rs → Sta
  | .inr p => p.2
  | .inl p => p.2
def re : Rs → Int
  | .inr _ => 0
  | .inl p => p.1
theorem encRs_eq (q : Rs) : encRs q = encQ (rn q) (rs q) (re q) := by cases q <;> rfl
theorem inr_of {A : Sta → Rs} (hB : Bads A) {s : Sta} (h : re (A s) = 0) : A s = .inr (rn (A s), rs (A s)) := by
  cases hq : A s with
  | inl p => obtain ⟨e, s'⟩ := p; rw [hq] at h; exact absurd h (hB _ _ _ hq)
  | inr p => rfl
theorem inl_of {q : Rs} (h : ¬ re q = 0) : q = .inl (re q, rs q) := by
  cases q with
  | inl p => rfl
  | inr p => exact absurd rfl h
theorem rn_bad {q : Rs} (h : ¬ re q = 0) : rn q = nd0 := by rw [inl_of h]; rfl
theorem mu_ok {A : Sta → Rs} (hB : Bads A) (hF : Falls A) {s : Sta} (h : re (A s) = 0) : mu (rs (A s)) < mu s := hF _ _ _ (inr_of hB h)

def typesQ (Y : Sta → Rs) (l : List Nd) (s : Sta) : Ls := match Y s with
  | .inl e => .inl e
  | .inr q => typesL Y (l ++ [q.1]) q.2
theorem typesQ_ok {Y : Sta → Rs} (hB : Bads Y) {l : List Nd} {s : Sta} (h : re (Y s) = 0) : typesQ Y l s = typesL Y (l ++ [rn (Y s)]) (rs (Y s)) := by
  unfold typesQ
  rw [inr_of hB h]
  rfl
theorem typesQ_bad {Y : Sta → Rs} {l : List Nd} {s : Sta} (h : ¬ re (Y s) = 0) : typesQ Y l s = .inl (re (Y s), rs (Y s)) := by
  unfold typesQ
  rw [inl_of h]
  rfl
def roundQ (Y : Sta → Rs) (n : Nd) (s : Sta) : Rs :=
  if isF s 10 [45, 62] then finP 3 [n, leafT (nextM s).1] (nextM s).2.1 [41]
  else if isF s 15 [41] then finP 3 [n] s [41]
  else if isF s 15 [44] then finP 3 (commaL [n] s).1 (commaL [n] s).2 [41]
  else match typesQ Y [n] s with
    | .inl e => .inl e
    | .inr r => finP (if 2 < r.1.length then 5 else 4) r.1 r.2 [41]
theorem roundP_q {Y : Sta → Rs} {s : Sta} : roundP Y s = match takeP s with
    | .inl e => .inl e
    | .inr p => roundQ Y p.1 p.2 := by
  unfold roundP roundQ typesQ
  cases takeP s with
  | inl e => rfl
  | inr p =>
    dsimp only
    cases Y p.2 <;> rfl
theorem typesL_q {Y : Sta → Rs} (hF : Falls Y) {l : List Nd} {s : Sta} (h : isF s 15 [44] = true) : typesL Y l s = typesQ Y (l ++ [leafT (nextM s).1]) (nextM s).2.1 := by
  rw [typesL, if_pos h]
  unfold typesQ
  cases hq : Y (nextM s).2.1 with
  | inl e => rfl
  | inr p =>
    have h1 := hF _ _ _ hq
    have h2 := isF_mu h (by decide) (by decide)
    dsimp only
    rw [if_pos (by omega), List.append_assoc]
    rfl
theorem typesL_n {Y : Sta → Rs} {l : List Nd} {s : Sta} (h : isF s 15 [44] = false) : typesL Y l s = .inr (l, s) := by
  rw [typesL, if_neg (by rw [h]; decide)]
theorem finP_ok {k : Int} {l : List Nd} {s : Sta} {x : List UInt8} (h : re (wantP s 15 x) = 0) : finP k l s x = .inr (nodeK k (l ++ [rn (wantP s 15 x)]), rs (wantP s 15 x)) := by
  unfold finP
  rw [inr_of bads_want h]
  rfl
theorem finP_bad {k : Int} {l : List Nd} {s : Sta} {x : List UInt8} (h : ¬ re (wantP s 15 x) = 0) : encRs (finP k l s x) = encQ (rn (wantP s 15 x)) (rs (wantP s 15 x)) (re (wantP s 15 x)) := by
  unfold finP
  rw [inl_of h]
  rfl

/-- the document's Type, so deep -/
def RCalls (f : FuncId) (d : Int) (A : Sta → Rs) : Prop := ∀ s, mu s ≤ 100000000 → ∀ (st : St) (R : Res → St → Prop), R (.ret (encRs (A s))) st → PC f [encS s, .int .i64 d] st R
theorem RCalls.e {f : FuncId} {d x : Int} {A : Sta → Rs} (h : RCalls f d A) (hx : x = d) {s : Sta} {q : Rs} (e : A s = q) (hm : mu s ≤ 100000000) {st : St} {R : Res → St → Prop} (k : R (.ret (encRs q)) st) : PC f [encS s, .int .i64 x] st R := by
  subst hx; subst e; exact h s hm st R k
theorem RCalls.q {f : FuncId} {d x : Int} {A : Sta → Rs} (h : RCalls f d A) (hx : x = d) {s : Sta} (hm : mu s ≤ 100000000) {st : St} {R : Res → St → Prop} (k : R (.ret (encQ (rn (A s)) (rs (A s)) (re (A s)))) st) : PC f [encS s, .int .i64 x] st R := by
  subst hx; exact h s hm st R (by rw [encRs_eq]; exact k)
section
variable {st : St} {R : Res → St → Prop}
attribute [local irreducible] Go.Aw.appendTo
theorem rtake_q {s : Sta} (hb : s.opn.length ≤ 500000000) (h : R (.ret (encQ (rn (takeP s)) (rs (takeP s)) (re (takeP s)))) st) : PC 36 [encS s] st R := rtakeP_c hb (by rw [encRs_eq]; exact h)
theorem rwant_q {s : Sta} {k : Int} {x : List UInt8} (hk : k ≠ 0) (hb : s.opn.length ≤ 500000000) (h : R (.ret (encQ (rn (wantP s k x)) (rs (wantP s k x)) (re (wantP s k x)))) st) : PC 58 [encS s, .int .i64 k, .str x] st R := rwant_c hk hb (by rw [encRs_eq]; exact h)

theorem commas0_q {l : List Nd} {own : Own} {s : Sta} (ho : own.good st) (hn : l.length + 1 ≤ 1000000000) (hb : s.opn.length ≤ 500000000) (h : R (.ret (encQ (rn (finP 3 l s [41])) (rs (finP 3 l s [41])) (re (finP 3 l s [41])))) st) :
    PC 76 [.slice 6 (l.map encN) own, encS s] (own.st st (l.length * 6)) R := commas0_c ho hn hb (by rw [encRs_eq]; exact h)
theorem commas_q {n1 : Nd} {s : Sta} {q : Rs} (hq : finP 3 (commaL [n1] s).1 (commaL [n1] s).2 [41] = q) (hm : mu s ≤ 100000000) (h : R (.ret (encQ (rn q) (rs q) (re q))) st) :
    PC 75 [.slice 6 [encN n1] .full, encS s] st R := commas_c hm (by rw [encRs_eq, hq]; exact h)

theorem rround_c {d : Nat} {x : Int} (hx : x = ((d + 1 : Nat) : Int)) (hd : d ≤ 1000000) {Y : Sta → Rs} (hY : RCalls 13 d Y) (hB : Bads Y) (hF : Falls Y) {n1 : Nd} {s : Sta} (hm : mu s ≤ 100000000) (h : R (.ret (encRs (roundQ Y n1 s))) st) :
    PC 57 [.slice 6 [encN n1] .full, encS s, .int .i64 x] st R := by
  refine pcalls_of_body tys_ok [] Try.func57 rfl (by decide) ?_
  have hb := opn_le hm
  have hn1 : [n1].length + 1 ≤ 1000000000 := by show 1 + 1 ≤ 1000000000; decide
  have hn3 : ∀ y : Nd, ([n1] ++ [y]).length + 1 ≤ 1000000000 := fun y => by show 2 + 1 ≤ 1000000000; decide
  unfold roundQ at h
  cases hA : isF s 10 [45, 62] with
  | true =>
    have hC : isF s 15 [41] = false := by unfold isF at hA ⊢; simp only [Bool.and_eq_true, beq_iff_eq] at hA; rw [hA.1]; rfl
    have hE : isF s 15 [44] = false := by unfold isF at hA ⊢; simp only [Bool.and_eq_true, beq_iff_eq] at hA; rw [hA.1]; rfl
    rw [if_pos hA] at h
    have hb2 : (nextM s).2.1.opn.length ≤ 500000000 := opn_le (by have := isF_mu hA (by decide) (by decide); omega)
    repeat' (conv => whnf
             first
               | with_reducible exact quiet_same
               | with_reducible exact quiet_bool
               | with_reducible exact quiet_not
               | with_reducible refine draw_step (by kernel_rfl) ?_
               | with_reducible refine quiet_go ?_ ?_ ?_
               | with_reducible refine bcase_yes (by first | assumption | omega) ?_
               | with_reducible refine bcase_no (by first | assumption | omega) ?_
               | with_reducible refine bcase_dyes (by omega) ?_
               | with_reducible refine bcase_dno (by omega) ?_
               | with_reducible refine bcase_len (by decide) (fun _ => ?_) (fun _ => ?_)
               | with_reducible refine bcase_eq (fun _ => ?_) (fun _ => ?_)
               | with_reducible refine bcase_dec (fun _ => ?_) (fun _ => ?_)
               | with_reducible refine bcase_true ?_
               | with_reducible refine bcase_false ?_
               | with_reducible refine bcase_intro (fun _ => ?_) (fun _ => ?_)
               | with_reducible refine len_kids (fun _ => ?_)
               | with_reducible refine at_known (by assumption) (by omega) ?_
               | with_reducible refine at_kid (by omega) (by omega) (fun _ _ _ => ?_)
               | with_reducible refine tail_kids (by omega) (by omega) ?_
               | with_reducible refine slice_kids (by omega) (by omega) (by omega) ?_
               | with_reducible refine ex_wrap (by omega) (by omega) ?_
               | with_reducible refine quo_step (by decide) (by omega) (by omega) ?_
               | with_reducible refine rem_step (by decide) ?_
               | with_reducible refine nil_row (fun _ => ?_) ?_
               | with_reducible refine nil_row2 (fun _ => ?_) ?_
               | with_reducible refine len_toks (fun _ => ?_)
               | with_reducible refine len_ints (fun _ => ?_)
               | with_reducible refine tok_known (by assumption) (by omega) ?_
               | with_reducible refine at_tok (by omega) (by omega) (fun _ _ => ?_)
               | with_reducible refine at_int (by omega) (by omega) (fun _ _ => ?_)
               | with_reducible refine slice_ints (by omega) (by omega) (by omega) ?_
               | refine ris_e hC (by decide) hb ?_
               | refine ris_e hE (by decide) hb ?_
               | refine ris_e hA (by decide) hb ?_
               | refine rtake_e (take_is hA (by decide)) hb ?_
               | refine app_m (l := [n1]) (x := leafT (nextM s).1) (own := .full) trivial hn1 (fun own1 ho1 => ?_)
               | refine commas0_q (own := own1) (l := [n1] ++ [leafT (nextM s).1]) ho1 (hn3 _) hb2 ?_
               | with_reducible refine draw_head ?_)
    rw [encRs_eq] at h
    all_goals exact finw rfl h
  | false =>
    rw [if_neg (by rw [hA]; decide)] at h
    cases hC : isF s 15 [41] with
    | true =>
      have hE : isF s 15 [44] = false := by unfold isF at hC ⊢; simp only [Bool.and_eq_true, beq_iff_eq] at hC; rw [hC.2]; simp
      rw [if_pos hC] at h
      rw [encRs_eq] at h
      have hq : finP 3 (commaL [n1] s).1 (commaL [n1] s).2 [41] = finP 3 [n1] s [41] := by rw [commaL_end hE]
      repeat' (conv => whnf
               first
                 | with_reducible exact quiet_same
                 | with_reducible exact quiet_bool
                 | with_reducible exact quiet_not
                 | with_reducible refine draw_step (by kernel_rfl) ?_
                 | with_reducible refine quiet_go ?_ ?_ ?_
                 | with_reducible refine bcase_yes (by first | assumption | omega) ?_
                 | with_reducible refine bcase_no (by first | assumption | omega) ?_
                 | with_reducible refine bcase_dyes (by omega) ?_
                 | with_reducible refine bcase_dno (by omega) ?_
                 | with_reducible refine bcase_len (by decide) (fun _ => ?_) (fun _ => ?_)
                 | with_reducible refine bcase_eq (fun _ => ?_) (fun _ => ?_)
                 | with_reducible refine bcase_dec (fun _ => ?_) (fun _ => ?_)
                 | with_reducible refine bcase_true ?_
                 | with_reducible refine bcase_false ?_
                 | with_reducible refine bcase_intro (fun _ => ?_) (fun _ => ?_)
                 | with_reducible refine len_kids (fun _ => ?_)
                 | with_reducible refine at_known (by assumption) (by omega) ?_
                 | with_reducible refine at_kid (by omega) (by omega) (fun _ _ _ => ?_)
                 | with_reducible refine tail_kids (by omega) (by omega) ?_
                 | with_reducible refine slice_kids (by omega) (by omega) (by omega) ?_
                 | with_reducible refine ex_wrap (by omega) (by omega) ?_
                 | with_reducible refine quo_step (by decide) (by omega) (by omega) ?_
                 | with_reducible refine rem_step (by decide) ?_
                 | with_reducible refine nil_row (fun _ => ?_) ?_
                 | with_reducible refine nil_row2 (fun _ => ?_) ?_
                 | with_reducible refine len_toks (fun _ => ?_)
                 | with_reducible refine len_ints (fun _ => ?_)
                 | with_reducible refine tok_known (by assumption) (by omega) ?_
                 | with_reducible refine at_tok (by omega) (by omega) (fun _ _ => ?_)
                 | with_reducible refine at_int (by omega) (by omega) (fun _ _ => ?_)
                 | with_reducible refine slice_ints (by omega) (by omega) (by omega) ?_
                 | refine ris_e hC (by decide) hb ?_
                 | refine commas_q hq hm ?_
                 | with_reducible refine draw_head ?_)
      all_goals exact finw rfl h
    | false =>
      rw [if_neg (by rw [hC]; decide)] at h
      cases hE : isF s 15 [44] with
      | true =>
        rw [if_pos hE] at h
        rw [encRs_eq] at h
        repeat' (conv => whnf
                 first
                   | with_reducible exact quiet_same
                   | with_reducible exact quiet_bool
                   | with_reducible exact quiet_not
                   | with_reducible refine draw_step (by kernel_rfl) ?_
                   | with_reducible refine quiet_go ?_ ?_ ?_
                   | with_reducible refine bcase_yes (by first | assumption | omega) ?_
                   | with_reducible refine bcase_no (by first | assumption | omega) ?_
                   | with_reducible refine bcase_dyes (by omega) ?_
                   | with_reducible refine bcase_dno (by omega) ?_
                   | with_reducible refine bcase_len (by decide) (fun _ => ?_) (fun _ => ?_)
                   | with_reducible refine bcase_eq (fun _ => ?_) (fun _ => ?_)
                   | with_reducible refine bcase_dec (fun _ => ?_) (fun _ => ?_)
                   | with_reducible refine bcase_true ?_
                   | with_reducible refine bcase_false ?_
                   | with_reducible refine bcase_intro (fun _ => ?_) (fun _ => ?_)
                   | with_reducible refine len_kids (fun _ => ?_)
                   | with_reducible refine at_known (by assumption) (by omega) ?_
                   | with_reducible refine at_kid (by omega) (by omega) (fun _ _ _ => ?_)
                   | with_reducible refine tail_kids (by omega) (by omega) ?_
                   | with_reducible refine slice_kids (by omega) (by omega) (by omega) ?_
                   | with_reducible refine ex_wrap (by omega) (by omega) ?_
                   | with_reducible refine quo_step (by decide) (by omega) (by omega) ?_
                   | with_reducible refine rem_step (by decide) ?_
                   | with_reducible refine nil_row (fun _ => ?_) ?_
                   | with_reducible refine nil_row2 (fun _ => ?_) ?_
                   | with_reducible refine len_toks (fun _ => ?_)
                   | with_reducible refine len_ints (fun _ => ?_)
                   | with_reducible refine tok_known (by assumption) (by omega) ?_
                   | with_reducible refine at_tok (by omega) (by omega) (fun _ _ => ?_)
                   | with_reducible refine at_int (by omega) (by omega) (fun _ _ => ?_)
                   | with_reducible refine slice_ints (by omega) (by omega) (by omega) ?_
                   | refine ris_e hC (by decide) hb ?_
                   | refine ris_e hE (by decide) hb ?_
                   | refine commas_q rfl hm ?_
                   | with_reducible refine draw_head ?_)
        all_goals exact finw rfl h
      | false =>
        rw [if_neg (by rw [hE]; decide)] at h
        repeat' (conv => whnf
                 first
                   | with_reducible exact quiet_same
                   | with_reducible exact quiet_bool
                   | with_reducible exact quiet_not
                   | with_reducible refine draw_step (by kernel_rfl) ?_
                   | with_reducible refine quiet_go ?_ ?_ ?_
                   | with_reducible refine bcase_yes (by first | assumption | omega) ?_
                   | with_reducible refine bcase_no (by first | assumption | omega) ?_
                   | with_reducible refine bcase_dyes (by omega) ?_
                   | with_reducible refine bcase_dno (by omega) ?_
                   | with_reducible refine bcase_len (by decide) (fun _ => ?_) (fun _ => ?_)
                   | with_reducible refine bcase_eq (fun _ => ?_) (fun _ => ?_)
                   | with_reducible refine bcase_dec (fun _ => ?_) (fun _ => ?_)
                   | with_reducible refine bcase_true ?_
                   | with_reducible refine bcase_false ?_
                   | with_reducible refine bcase_intro (fun _ => ?_) (fun _ => ?_)
                   | with_reducible refine len_kids (fun _ => ?_)
                   | with_reducible refine at_known (by assumption) (by omega) ?_
                   | with_reducible refine at_kid (by omega) (by omega) (fun _ _ _ => ?_)
                   | with_reducible refine tail_kids (by omega) (by omega) ?_
                   | with_reducible refine slice_kids (by omega) (by omega) (by omega) ?_
                   | with_reducible refine ex_wrap (by omega) (by omega) ?_
                   | with_reducible refine quo_step (by decide) (by omega) (by omega) ?_
                   | with_reducible refine rem_step (by decide) ?_
                   | with_reducible refine nil_row (fun _ => ?_) ?_
                   | with_reducible refine nil_row2 (fun _ => ?_) ?_
                   | with_reducible refine len_toks (fun _ => ?_)
                   | with_reducible refine len_ints (fun _ => ?_)
                   | with_reducible refine tok_known (by assumption) (by omega) ?_
                   | with_reducible refine at_tok (by omega) (by omega) (fun _ _ => ?_)
                   | with_reducible refine at_int (by omega) (by omega) (fun _ _ => ?_)
                   | with_reducible refine slice_ints (by omega) (by omega) (by omega) ?_
                   | refine ris_e hC (by decide) hb ?_
                   | refine ris_e hE (by decide) hb ?_
                   | refine ris_e hA (by decide) hb ?_
                   | with_reducible refine draw_head ?_)
        refine loop_h (α := List Nd × Sta × Own × Int) (fun x => [(0, .slice 6 (x.1.map encN) x.2.2.1), (8, .int .i64 x.2.2.2)]) [2, 4, 6] (fun x => [(0, x.2.1.cells)]) [1] (fun x => x.2.2.1.st st (x.1.length * 6))
          (fun x => x.2.2.1.good st ∧ mu x.2.1 ≤ mu s ∧ x.1.length + 2 * mu x.2.1 ≤ 400000000 ∧ 1 ≤ x.1.length ∧ x.2.2.2 = (if 1 < x.1.length then 5 else 4) ∧ typesQ Y x.1 x.2.1 = typesQ Y [n1] s) (fun x => mu x.2.1) ([n1], s, .full, 4)
          ⟨trivial, Nat.le_refl _, by show 1 + 2 * mu s ≤ _; omega, Nat.le_refl _, rfl, rfl⟩ (by refine ⟨rfl, ?_, ?_, rfl⟩ <;> repeat' (first | exact trivial | exact rfl | refine And.intro ?_ ?_)) (St.le_refl _) ?_
        rintro ⟨l, s3, own, kd⟩ ⟨j1, j2, j3, j4, j5, j6⟩
        dsimp only at j1 j2 j3 j4 j5 j6
        have hm3 : mu s3 ≤ 100000000 := by omega
        have hn : l.length + 1 ≤ 1000000000 := by omega
        have hn2 : ∀ y : Nd, (l ++ [y]).length + 1 ≤ 1000000000 := fun y => by rw [List.length_append, List.length_singleton]; omega
        have hd4 : re (Y s3) = 0 → mu (rs (Y s3)) < mu s3 := mu_ok hB hF
        have hm4 : re (Y s3) = 0 → mu (rs (Y s3)) ≤ 100000000 := fun e => by have := hd4 e; omega
        rw [← j6] at h
        repeat' (conv => whnf
                 first
                   | with_reducible exact quiet_same
                   | with_reducible exact quiet_bool
                   | with_reducible exact quiet_not
                   | with_reducible refine draw_step (by kernel_rfl) ?_
                   | with_reducible refine quiet_go ?_ ?_ ?_
                   | with_reducible refine bcase_yes (by first | assumption | omega) ?_
                   | with_reducible refine bcase_no (by first | assumption | omega) ?_
                   | with_reducible refine bcase_dyes (by omega) ?_
                   | with_reducible refine bcase_dno (by omega) ?_
                   | with_reducible refine bcase_len (by decide) (fun _ => ?_) (fun _ => ?_)
                   | with_reducible refine bcase_eq (fun _ => ?_) (fun _ => ?_)
                   | with_reducible refine bcase_dec (fun _ => ?_) (fun _ => ?_)
                   | with_reducible refine bcase_true ?_
                   | with_reducible refine bcase_false ?_
                   | with_reducible refine bcase_intro (fun _ => ?_) (fun _ => ?_)
                   | with_reducible refine len_kids (fun _ => ?_)
                   | with_reducible refine at_known (by assumption) (by omega) ?_
                   | with_reducible refine at_kid (by omega) (by omega) (fun _ _ _ => ?_)
                   | with_reducible refine tail_kids (by omega) (by omega) ?_
                   | with_reducible refine slice_kids (by omega) (by omega) (by omega) ?_
                   | with_reducible refine ex_wrap (by omega) (by omega) ?_
                   | with_reducible refine quo_step (by decide) (by omega) (by omega) ?_
                   | with_reducible refine rem_step (by decide) ?_
                   | with_reducible refine nil_row (fun _ => ?_) ?_
                   | with_reducible refine nil_row2 (fun _ => ?_) ?_
                   | with_reducible refine len_toks (fun _ => ?_)
                   | with_reducible refine len_ints (fun _ => ?_)
                   | with_reducible refine tok_known (by assumption) (by omega) ?_
                   | with_reducible refine at_tok (by omega) (by omega) (fun _ _ => ?_)
                   | with_reducible refine at_int (by omega) (by omega) (fun _ _ => ?_)
                   | with_reducible refine slice_ints (by omega) (by omega) (by omega) ?_
                   | refine hY.q (by omega) hm3 ?_
                   | refine app_m (l := l) (x := rn (Y s3)) j1 hn (fun own1 ho1 => ?_)
                   | refine ris_c (s := rs (Y s3)) (by decide) (opn_le (hm4 (by assumption))) ?_
                   | refine rtake_e (take_is (by assumption) (by decide)) (opn_le (hm4 (by assumption))) ?_
                   | refine app_m (l := l ++ [rn (Y s3)]) (x := leafT (nextM (rs (Y s3))).1) ho1 (hn2 _) (fun own2 ho2 => ?_)
                   | refine rwant_q (s := rs (Y s3)) (by decide) (opn_le (hm4 (by assumption))) ?_
                   | refine app_m (l := l ++ [rn (Y s3)]) (x := rn (wantP (rs (Y s3)) 15 [41])) ho1 (hn2 _) (fun own2 ho2 => ?_)
                   | with_reducible refine draw_head ?_)
        all_goals conv => whnf
        · have hp : isF (rs (Y s3)) 15 [44] = true := by assumption
          have hy : re (Y s3) = 0 := by assumption
          have k1 := hd4 hy
          have k2 := isF_mu hp (by decide) (by decide)
          refine ⟨(l ++ [rn (Y s3)] ++ [leafT (nextM (rs (Y s3))).1], (nextM (rs (Y s3))).2.1, own2, 5), ⟨ho2, by show mu (nextM (rs (Y s3))).2.1 ≤ _; omega, ?_, ?_, ?_, ?_⟩, by show mu (nextM (rs (Y s3))).2.1 < mu s3; omega, (by refine ⟨rfl, ?_, ?_, rfl⟩ <;> repeat' (first | exact trivial | exact rfl | refine And.intro ?_ ?_)), St.le_refl _⟩
          · show (l ++ [rn (Y s3)] ++ [leafT (nextM (rs (Y s3))).1]).length + 2 * mu (nextM (rs (Y s3))).2.1 ≤ _
            simp only [List.length_append, List.length_singleton]
            omega
          · show 1 ≤ (l ++ [rn (Y s3)] ++ [leafT (nextM (rs (Y s3))).1]).length
            simp only [List.length_append, List.length_singleton]
            omega
          · show (5 : Int) = if 1 < (l ++ [rn (Y s3)] ++ [leafT (nextM (rs (Y s3))).1]).length then 5 else 4
            rw [if_pos (by simp only [List.length_append, List.length_singleton]; omega)]
          · show typesQ Y (l ++ [rn (Y s3)] ++ [leafT (nextM (rs (Y s3))).1]) (nextM (rs (Y s3))).2.1 = _
            rw [← j6, typesQ_ok hB hy, typesL_q hF hp]
        · have hy : re (Y s3) = 0 := by assumption
          have hw : re (wantP (rs (Y s3)) 15 [41]) = 0 := by assumption
          rw [typesQ_ok hB hy, typesL_n (by assumption)] at h
          dsimp only at h
          rw [finP_ok hw] at h
          have hk : (if 2 < (l ++ [rn (Y s3)]).length then (5 : Int) else 4) = kd := by
            rw [j5, List.length_append, List.length_singleton]
            split <;> split <;> omega
          rw [hk] at h
          exact finl (Own.good_le ho2) fin_nodeQ h
        · have hy : re (Y s3) = 0 := by assumption
          rw [typesQ_ok hB hy, typesL_n (by assumption)] at h
          dsimp only at h
          rw [finP_bad (by assumption)] at h
          exact finl (Own.good_le ho1) rfl h
        · have hy : ¬ re (Y s3) = 0 := by assumption
          rw [typesQ_bad hy] at h
          have h : R (.ret (encQ nd0 (rs (Y s3)) (re (Y s3)))) st := h
          rw [← rn_bad hy] at h
          exact finl (Own.good_le j1) rfl h
end
end Go.Proofs.Ytngbihfihdheoaa

/-
  TYPES: the document's atom, row, arrows.
-/
set_option linter.unusedVariables false
set_option pp.maxSteps 400
namespace Go.Proofs.Ytngbihfihdheoaa
open Go Go.Aw
section
variable {st : St} {R : Res → St → Prop}
attribute [local irreducible] Go.Aw.appendTo
theorem rstarts_e {t : Tk} {v : Bool} (e : startsF t = v) (h : R (.ret (.bool v)) st) : PC 46 [encT t] st R := rstarts_c (by rw [e]; exact h)
theorem rbad_q {s : Sta} (hb : s.opn.length ≤ 500000000) (h : R (.ret (encQ (rn (badP s)) (rs (badP s)) (re (badP s)))) st) : PC 56 [encS s] st R := rbad_c hb (by rw [encRs_eq]; exact h)
theorem rround_q {d : Nat} {x : Int} (hx : x = ((d + 1 : Nat) : Int)) (hd : d ≤ 1000000) {Y : Sta → Rs} (hY : RCalls 13 d Y) (hB : Bads Y) (hF : Falls Y) {n1 : Nd} {s : Sta} (hm : mu s ≤ 100000000) (h : R (.ret (encQ (rn (roundQ Y n1 s)) (rs (roundQ Y n1 s)) (re (roundQ Y n1 s)))) st) :
    PC 57 [.slice 6 [encN n1] .full, encS s, .int .i64 x] st R := rround_c hx hd hY hB hF hm (by rw [encRs_eq]; exact h)
theorem take_ok {s : Sta} (h : (nextM s).2.2 = 0) : takeP s = .inr (leafT (nextM s).1, (nextM s).2.1) := by unfold takeP; rw [if_pos h]
theorem take_no {s : Sta} (h : ¬ (nextM s).2.2 = 0) : takeP s = .inl ((nextM s).2.2, s) := by unfold takeP; rw [if_neg h]
theorem atomP_no {Y : Sta → Rs} {s : Sta} (h : ¬ (nextM s).2.2 = 0) : atomP Y s = takeP s := by
  unfold atomP
  rw [next_err h, if_neg (by decide), take_no h]
  unfold badP badE
  rw [if_neg h]
theorem ratom_c {d : Nat} {x : Int} (hx : x = ((d + 1 : Nat) : Int)) (hd : d ≤ 1000000) {Y : Sta → Rs} (hY : RCalls 13 d Y) (hB : Bads Y) (hF : Falls Y) : RCalls 38 x (atomP Y) := by
  intro s hm st R h
  refine pcalls_of_body tys_ok [] Try.func38 rfl (by decide) ?_
  have hb := opn_le hm
  rw [encRs_eq] at h
  by_cases ht : (nextM s).2.2 = 0
  · have hq := take_ok ht
    have hm1 : mu (nextM s).2.1 ≤ 100000000 := by have := (next_mu ht).1; omega
    have hb1 := opn_le hm1
    cases hS : startsF (nextM s).1 with
    | false =>
      have e : atomP Y s = badP s := by unfold atomP; rw [if_neg (by rw [hS]; decide)]
      rw [e] at h
      repeat' (conv => whnf
               first
                 | with_reducible exact quiet_same
                 | with_reducible exact quiet_bool
                 | with_reducible exact quiet_not
                 | with_reducible refine draw_step (by kernel_rfl) ?_
                 | with_reducible refine quiet_go ?_ ?_ ?_
                 | with_reducible refine bcase_yes (by first | assumption | omega) ?_
                 | with_reducible refine bcase_no (by first | assumption | omega) ?_
                 | with_reducible refine bcase_dyes (by omega) ?_
                 | with_reducible refine bcase_dno (by omega) ?_
                 | with_reducible refine bcase_len (by decide) (fun _ => ?_) (fun _ => ?_)
                 | with_reducible refine bcase_eq (fun _ => ?_) (fun _ => ?_)
                 | with_reducible refine bcase_dec (fun _ => ?_) (fun _ => ?_)
                 | with_reducible refine bcase_true ?_
                 | with_reducible refine bcase_false ?_
                 | with_reducible refine bcase_intro (fun _ => ?_) (fun _ => ?_)
                 | with_reducible refine len_kids (fun _ => ?_)
                 | with_reducible refine at_known (by assumption) (by omega) ?_
                 | with_reducible refine at_kid (by omega) (by omega) (fun _ _ _ => ?_)
                 | with_reducible refine tail_kids (by omega) (by omega) ?_
                 | with_reducible refine slice_kids (by omega) (by omega) (by omega) ?_
                 | with_reducible refine ex_wrap (by omega) (by omega) ?_
                 | with_reducible refine quo_step (by decide) (by omega) (by omega) ?_
                 | with_reducible refine rem_step (by decide) ?_
                 | with_reducible refine nil_row (fun _ => ?_) ?_
                 | with_reducible refine nil_row2 (fun _ => ?_) ?_
                 | with_reducible refine len_toks (fun _ => ?_)
                 | with_reducible refine len_ints (fun _ => ?_)
                 | with_reducible refine tok_known (by assumption) (by omega) ?_
                 | with_reducible refine at_tok (by omega) (by omega) (fun _ _ => ?_)
                 | with_reducible refine at_int (by omega) (by omega) (fun _ _ => ?_)
                 | with_reducible refine slice_ints (by omega) (by omega) (by omega) ?_
                 | refine rtake_e hq hb ?_
                 | refine rpeek_c hb ?_
                 | refine rstarts_e hS ?_
                 | refine rbad_q hb ?_
                 | with_reducible refine draw_head ?_)
      all_goals exact finw rfl h
    | true =>
      by_cases hk : (nextM s).1.kind = 15
      · have hk1 : (leafT (nextM s).1).form = 15 := hk
        by_cases ho : (nextM s).1.text = [40]
        · have ho1 : (leafT (nextM s).1).text = [40] := ho
          have e : atomP Y s = roundQ Y (leafT (nextM s).1) (nextM s).2.1 := by
            unfold atomP; rw [if_pos hS, if_pos hk, if_pos ho, roundP_q, hq]
          rw [e] at h
          repeat' (conv => whnf
                   first
                     | with_reducible exact quiet_same
                     | with_reducible exact quiet_bool
                     | with_reducible exact quiet_not
                     | with_reducible refine draw_step (by kernel_rfl) ?_
                     | with_reducible refine quiet_go ?_ ?_ ?_
                     | with_reducible refine bcase_yes (by first | assumption | omega) ?_
                     | with_reducible refine bcase_no (by first | assumption | omega) ?_
                     | with_reducible refine bcase_dyes (by omega) ?_
                     | with_reducible refine bcase_dno (by omega) ?_
                     | with_reducible refine bcase_len (by decide) (fun _ => ?_) (fun _ => ?_)
                     | with_reducible refine bcase_eq (fun _ => ?_) (fun _ => ?_)
                     | with_reducible refine bcase_dec (fun _ => ?_) (fun _ => ?_)
                     | with_reducible refine bcase_true ?_
                     | with_reducible refine bcase_false ?_
                     | with_reducible refine bcase_intro (fun _ => ?_) (fun _ => ?_)
                     | with_reducible refine len_kids (fun _ => ?_)
                     | with_reducible refine at_known (by assumption) (by omega) ?_
                     | with_reducible refine at_kid (by omega) (by omega) (fun _ _ _ => ?_)
                     | with_reducible refine tail_kids (by omega) (by omega) ?_
                     | with_reducible refine slice_kids (by omega) (by omega) (by omega) ?_
                     | with_reducible refine ex_wrap (by omega) (by omega) ?_
                     | with_reducible refine quo_step (by decide) (by omega) (by omega) ?_
                     | with_reducible refine rem_step (by decide) ?_
                     | with_reducible refine nil_row (fun _ => ?_) ?_
                     | with_reducible refine nil_row2 (fun _ => ?_) ?_
                     | with_reducible refine len_toks (fun _ => ?_)
                     | with_reducible refine len_ints (fun _ => ?_)
                     | with_reducible refine tok_known (by assumption) (by omega) ?_
                     | with_reducible refine at_tok (by omega) (by omega) (fun _ _ => ?_)
                     | with_reducible refine at_int (by omega) (by omega) (fun _ _ => ?_)
                     | with_reducible refine slice_ints (by omega) (by omega) (by omega) ?_
                     | refine rtake_e hq hb ?_
                     | refine rpeek_c hb ?_
                     | refine rstarts_e hS ?_
                     | refine rround_q (n1 := leafT (nextM s).1) hx hd hY hB hF hm1 ?_
                     | with_reducible refine draw_head ?_)
          all_goals exact finw rfl h
        · have hsq : (nextM s).1.text = [91] := by
            unfold startsF at hS
            simp only [hk] at hS
            simp at hS
            exact hS.resolve_left ho
          have hs1 : (leafT (nextM s).1).text = [91] := hsq
          have hs2 : ¬ (leafT (nextM s).1).text = [40] := ho
          have e : atomP Y s = squareP Y s := by
            unfold atomP; rw [if_pos hS, if_pos hk, if_neg ho]
          rw [e] at h
          unfold squareP at h
          rw [hq] at h
          dsimp only at h
          have hn1 : [leafT (nextM s).1].length + 1 ≤ 1000000000 := by show 1 + 1 ≤ 1000000000; decide
          have hn2 : ∀ y : Nd, ([leafT (nextM s).1] ++ [y]).length + 1 ≤ 1000000000 := fun y => by show 2 + 1 ≤ 1000000000; decide
          cases hC : isF (nextM s).2.1 15 [93] with
          | true =>
            rw [if_pos hC] at h
            have hw : wantP (nextM s).2.1 15 [93] = .inr (leafT (nextM (nextM s).2.1).1, (nextM (nextM s).2.1).2.1) := by unfold wantP; rw [if_pos hC, take_is hC (by decide)]
            repeat' (conv => whnf
                     first
                       | with_reducible exact quiet_same
                       | with_reducible exact quiet_bool
                       | with_reducible exact quiet_not
                       | with_reducible refine draw_step (by kernel_rfl) ?_
                       | with_reducible refine quiet_go ?_ ?_ ?_
                       | with_reducible refine bcase_yes (by first | assumption | omega) ?_
                       | with_reducible refine bcase_no (by first | assumption | omega) ?_
                       | with_reducible refine bcase_dyes (by omega) ?_
                       | with_reducible refine bcase_dno (by omega) ?_
                       | with_reducible refine bcase_len (by decide) (fun _ => ?_) (fun _ => ?_)
                       | with_reducible refine bcase_eq (fun _ => ?_) (fun _ => ?_)
                       | with_reducible refine bcase_dec (fun _ => ?_) (fun _ => ?_)
                       | with_reducible refine bcase_true ?_
                       | with_reducible refine bcase_false ?_
                       | with_reducible refine bcase_intro (fun _ => ?_) (fun _ => ?_)
                       | with_reducible refine len_kids (fun _ => ?_)
                       | with_reducible refine at_known (by assumption) (by omega) ?_
                       | with_reducible refine at_kid (by omega) (by omega) (fun _ _ _ => ?_)
                       | with_reducible refine tail_kids (by omega) (by omega) ?_
                       | with_reducible refine slice_kids (by omega) (by omega) (by omega) ?_
                       | with_reducible refine ex_wrap (by omega) (by omega) ?_
                       | with_reducible refine quo_step (by decide) (by omega) (by omega) ?_
                       | with_reducible refine rem_step (by decide) ?_
                       | with_reducible refine nil_row (fun _ => ?_) ?_
                       | with_reducible refine nil_row2 (fun _ => ?_) ?_
                       | with_reducible refine len_toks (fun _ => ?_)
                       | with_reducible refine len_ints (fun _ => ?_)
                       | with_reducible refine tok_known (by assumption) (by omega) ?_
                       | with_reducible refine at_tok (by omega) (by omega) (fun _ _ => ?_)
                       | with_reducible refine at_int (by omega) (by omega) (fun _ _ => ?_)
                       | with_reducible refine slice_ints (by omega) (by omega) (by omega) ?_
                       | refine rtake_e hq hb ?_
                       | refine rpeek_c hb ?_
                       | refine rstarts_e hS ?_
                       | refine ris_e hC (by decide) hb1 ?_
                       | refine rwant_e hw (by decide) hb1 ?_
                       | refine app_m (l := [leafT (nextM s).1]) (x := leafT (nextM (nextM s).2.1).1) (own := .full) trivial hn1 (fun own1 ho1 => ?_)
                       | with_reducible refine draw_head ?_)
            all_goals exact finl (Own.good_le ho1) (fin_nodeQ (l := [leafT (nextM s).1] ++ [leafT (nextM (nextM s).2.1).1])) h
          | false =>
            rw [if_neg (by rw [hC]; decide)] at h
            have hd4 : re (Y (nextM s).2.1) = 0 → mu (rs (Y (nextM s).2.1)) < mu (nextM s).2.1 := mu_ok hB hF
            have hm4 : re (Y (nextM s).2.1) = 0 → mu (rs (Y (nextM s).2.1)) ≤ 100000000 := fun e => by have := hd4 e; omega
            repeat' (conv => whnf
                     first
                       | with_reducible exact quiet_same
                       | with_reducible exact quiet_bool
                       | with_reducible exact quiet_not
                       | with_reducible refine draw_step (by kernel_rfl) ?_
                       | with_reducible refine quiet_go ?_ ?_ ?_
                       | with_reducible refine bcase_yes (by first | assumption | omega) ?_
                       | with_reducible refine bcase_no (by first | assumption | omega) ?_
                       | with_reducible refine bcase_dyes (by omega) ?_
                       | with_reducible refine bcase_dno (by omega) ?_
                       | with_reducible refine bcase_len (by decide) (fun _ => ?_) (fun _ => ?_)
                       | with_reducible refine bcase_eq (fun _ => ?_) (fun _ => ?_)
                       | with_reducible refine bcase_dec (fun _ => ?_) (fun _ => ?_)
                       | with_reducible refine bcase_true ?_
                       | with_reducible refine bcase_false ?_
                       | with_reducible refine bcase_intro (fun _ => ?_) (fun _ => ?_)
                       | with_reducible refine len_kids (fun _ => ?_)
                       | with_reducible refine at_known (by assumption) (by omega) ?_
                       | with_reducible refine at_kid (by omega) (by omega) (fun _ _ _ => ?_)
                       | with_reducible refine tail_kids (by omega) (by omega) ?_
                       | with_reducible refine slice_kids (by omega) (by omega) (by omega) ?_
                       | with_reducible refine ex_wrap (by omega) (by omega) ?_
                       | with_reducible refine quo_step (by decide) (by omega) (by omega) ?_
                       | with_reducible refine rem_step (by decide) ?_
                       | with_reducible refine nil_row (fun _ => ?_) ?_
                       | with_reducible refine nil_row2 (fun _ => ?_) ?_
                       | with_reducible refine len_toks (fun _ => ?_)
                       | with_reducible refine len_ints (fun _ => ?_)
                       | with_reducible refine tok_known (by assumption) (by omega) ?_
                       | with_reducible refine at_tok (by omega) (by omega) (fun _ _ => ?_)
                       | with_reducible refine at_int (by omega) (by omega) (fun _ _ => ?_)
                       | with_reducible refine slice_ints (by omega) (by omega) (by omega) ?_
                       | refine rtake_e hq hb ?_
                       | refine rpeek_c hb ?_
                       | refine rstarts_e hS ?_
                       | refine ris_e hC (by decide) hb1 ?_
                       | refine hY.q (by omega) hm1 ?_
                       | refine rwant_q (s := rs (Y (nextM s).2.1)) (by decide) (opn_le (hm4 (by assumption))) ?_
                       | refine app_m (l := [leafT (nextM s).1]) (x := rn (Y (nextM s).2.1)) (own := .full) trivial hn1 (fun own1 ho1 => ?_)
                       | refine app_m (l := [leafT (nextM s).1] ++ [rn (Y (nextM s).2.1)]) (x := rn (wantP (rs (Y (nextM s).2.1)) 15 [93])) ho1 (hn2 _) (fun own2 ho2 => ?_)
                       | with_reducible refine draw_head ?_)
            · rw [inr_of hB (by assumption)] at h
              dsimp only at h
              rw [← encRs_eq] at h
              have h : R (.ret (encRs (finP 6 ([leafT (nextM s).1] ++ [rn (Y (nextM s).2.1)]) (rs (Y (nextM s).2.1)) [93]))) st := h
              rw [finP_ok (by assumption)] at h
              exact finl (Own.good_le ho2) fin_nodeQ h
            · rw [inr_of hB (by assumption)] at h
              dsimp only at h
              rw [← encRs_eq] at h
              have h : R (.ret (encRs (finP 6 ([leafT (nextM s).1] ++ [rn (Y (nextM s).2.1)]) (rs (Y (nextM s).2.1)) [93]))) st := h
              rw [finP_bad (by assumption)] at h
              exact finl (Own.good_le ho1) rfl h
            · have hy : ¬ re (Y (nextM s).2.1) = 0 := by assumption
              rw [← encRs_eq, inl_of hy] at h
              have h : R (.ret (encQ nd0 (rs (Y (nextM s).2.1)) (re (Y (nextM s).2.1)))) st := h
              rw [← rn_bad hy] at h
              exact finw rfl h
      · have hk1 : ¬ (leafT (nextM s).1).form = 15 := hk
        have e : atomP Y s = takeP s := by
          unfold atomP; rw [if_pos hS, if_neg hk]
        rw [e, hq] at h
        repeat' (conv => whnf
                 first
                   | with_reducible exact quiet_same
                   | with_reducible exact quiet_bool
                   | with_reducible exact quiet_not
                   | with_reducible refine draw_step (by kernel_rfl) ?_
                   | with_reducible refine quiet_go ?_ ?_ ?_
                   | with_reducible refine bcase_yes (by first | assumption | omega) ?_
                   | with_reducible refine bcase_no (by first | assumption | omega) ?_
                   | with_reducible refine bcase_dyes (by omega) ?_
                   | with_reducible refine bcase_dno (by omega) ?_
                   | with_reducible refine bcase_len (by decide) (fun _ => ?_) (fun _ => ?_)
                   | with_reducible refine bcase_eq (fun _ => ?_) (fun _ => ?_)
                   | with_reducible refine bcase_dec (fun _ => ?_) (fun _ => ?_)
                   | with_reducible refine bcase_true ?_
                   | with_reducible refine bcase_false ?_
                   | with_reducible refine bcase_intro (fun _ => ?_) (fun _ => ?_)
                   | with_reducible refine len_kids (fun _ => ?_)
                   | with_reducible refine at_known (by assumption) (by omega) ?_
                   | with_reducible refine at_kid (by omega) (by omega) (fun _ _ _ => ?_)
                   | with_reducible refine tail_kids (by omega) (by omega) ?_
                   | with_reducible refine slice_kids (by omega) (by omega) (by omega) ?_
                   | with_reducible refine ex_wrap (by omega) (by omega) ?_
                   | with_reducible refine quo_step (by decide) (by omega) (by omega) ?_
                   | with_reducible refine rem_step (by decide) ?_
                   | with_reducible refine nil_row (fun _ => ?_) ?_
                   | with_reducible refine nil_row2 (fun _ => ?_) ?_
                   | with_reducible refine len_toks (fun _ => ?_)
                   | with_reducible refine len_ints (fun _ => ?_)
                   | with_reducible refine tok_known (by assumption) (by omega) ?_
                   | with_reducible refine at_tok (by omega) (by omega) (fun _ _ => ?_)
                   | with_reducible refine at_int (by omega) (by omega) (fun _ _ => ?_)
                   | with_reducible refine slice_ints (by omega) (by omega) (by omega) ?_
                   | refine rtake_e hq hb ?_
                   | refine rpeek_c hb ?_
                   | refine rstarts_e hS ?_
                   | with_reducible refine draw_head ?_)
        all_goals exact finw rfl h
  · have hq := take_no ht
    rw [atomP_no ht, hq] at h
    repeat' (conv => whnf
             first
               | with_reducible exact quiet_same
               | with_reducible exact quiet_bool
               | with_reducible exact quiet_not
               | with_reducible refine draw_step (by kernel_rfl) ?_
               | with_reducible refine quiet_go ?_ ?_ ?_
               | with_reducible refine bcase_yes (by first | assumption | omega) ?_
               | with_reducible refine bcase_no (by first | assumption | omega) ?_
               | with_reducible refine bcase_dyes (by omega) ?_
               | with_reducible refine bcase_dno (by omega) ?_
               | with_reducible refine bcase_len (by decide) (fun _ => ?_) (fun _ => ?_)
               | with_reducible refine bcase_eq (fun _ => ?_) (fun _ => ?_)
               | with_reducible refine bcase_dec (fun _ => ?_) (fun _ => ?_)
               | with_reducible refine bcase_true ?_
               | with_reducible refine bcase_false ?_
               | with_reducible refine bcase_intro (fun _ => ?_) (fun _ => ?_)
               | with_reducible refine len_kids (fun _ => ?_)
               | with_reducible refine at_known (by assumption) (by omega) ?_
               | with_reducible refine at_kid (by omega) (by omega) (fun _ _ _ => ?_)
               | with_reducible refine tail_kids (by omega) (by omega) ?_
               | with_reducible refine slice_kids (by omega) (by omega) (by omega) ?_
               | with_reducible refine ex_wrap (by omega) (by omega) ?_
               | with_reducible refine quo_step (by decide) (by omega) (by omega) ?_
               | with_reducible refine rem_step (by decide) ?_
               | with_reducible refine nil_row (fun _ => ?_) ?_
               | with_reducible refine nil_row2 (fun _ => ?_) ?_
               | with_reducible refine len_toks (fun _ => ?_)
               | with_reducible refine len_ints (fun _ => ?_)
               | with_reducible refine tok_known (by assumption) (by omega) ?_
               | with_reducible refine at_tok (by omega) (by omega) (fun _ _ => ?_)
               | with_reducible refine at_int (by omega) (by omega) (fun _ _ => ?_)
               | with_reducible refine slice_ints (by omega) (by omega) (by omega) ?_
               | refine rtake_e hq hb ?_
               | with_reducible refine draw_head ?_)
    all_goals exact finw rfl h

/-- the rest of a row, from a reading on -/
def rowR (A : Sta → Rs) (l : List Nd) (q : Rs) : Ls := match q with
  | .inl e => .inl e
  | .inr p => rowL A (l ++ [p.1]) p.2
theorem rowL_q {A : Sta → Rs} (hF : Falls A) {l : List Nd} {s : Sta} (h : startsF (nextM s).1 = true) : rowL A l s = rowR A l (A s) := by
  rw [rowL, if_pos h]
  unfold rowR
  cases hq : A s with
  | inl e => rfl
  | inr p => dsimp only; rw [if_pos (hF _ _ _ hq)]
theorem rowL_n {A : Sta → Rs} {l : List Nd} {s : Sta} (h : startsF (nextM s).1 = false) : rowL A l s = .inr (l, s) := by
  rw [rowL, if_neg (by rw [h]; decide)]
theorem rowR_ok {A : Sta → Rs} (hB : Bads A) {l : List Nd} {s : Sta} (h : re (A s) = 0) : rowR A l (A s) = rowL A (l ++ [rn (A s)]) (rs (A s)) := by
  unfold rowR
  rw [inr_of hB h]
  rfl
theorem rowR_bad {A : Sta → Rs} {l : List Nd} {q : Rs} (h : ¬ re q = 0) : rowR A l q = .inl (re q, rs q) := by
  unfold rowR
  rw [inl_of h]
  rfl
theorem rrow_c {d : Int} {A : Sta → Rs} (ha : RCalls 38 d A) (hB : Bads A) (hF : Falls A) : RCalls 32 d (rowP A) := by
  intro s hm st R h
  refine pcalls_of_body tys_ok [] Try.func32 rfl (by decide) ?_
  have hb := opn_le hm
  have h : R (.ret (encRs (match rowR A [] (A s) with
    | .inl e => .inl e
    | .inr q => if q.1.length = 1 then .inr (rn (A s), q.2) else .inr (nodeK 39 q.1, q.2)))) st := by
    unfold rowP at h
    unfold rowR
    cases hq : A s with
    | inl e => rw [hq] at h; exact h
    | inr p => rw [hq] at h; exact h
  have hm4 : re (A s) = 0 → mu (rs (A s)) < mu s := mu_ok hB hF
  repeat' (conv => whnf
           first
             | with_reducible exact quiet_same
             | with_reducible exact quiet_bool
             | with_reducible exact quiet_not
             | with_reducible refine draw_step (by kernel_rfl) ?_
             | with_reducible refine quiet_go ?_ ?_ ?_
             | with_reducible refine bcase_yes (by first | assumption | omega) ?_
             | with_reducible refine bcase_no (by first | assumption | omega) ?_
             | with_reducible refine bcase_dyes (by omega) ?_
             | with_reducible refine bcase_dno (by omega) ?_
             | with_reducible refine bcase_len (by decide) (fun _ => ?_) (fun _ => ?_)
             | with_reducible refine bcase_eq (fun _ => ?_) (fun _ => ?_)
             | with_reducible refine bcase_dec (fun _ => ?_) (fun _ => ?_)
             | with_reducible refine bcase_true ?_
             | with_reducible refine bcase_false ?_
             | with_reducible refine bcase_intro (fun _ => ?_) (fun _ => ?_)
             | with_reducible refine len_kids (fun _ => ?_)
             | with_reducible refine at_known (by assumption) (by omega) ?_
             | with_reducible refine at_kid (by omega) (by omega) (fun _ _ _ => ?_)
             | with_reducible refine tail_kids (by omega) (by omega) ?_
             | with_reducible refine slice_kids (by omega) (by omega) (by omega) ?_
             | with_reducible refine ex_wrap (by omega) (by omega) ?_
             | with_reducible refine quo_step (by decide) (by omega) (by omega) ?_
             | with_reducible refine rem_step (by decide) ?_
             | with_reducible refine nil_row (fun _ => ?_) ?_
             | with_reducible refine nil_row2 (fun _ => ?_) ?_
             | with_reducible refine len_toks (fun _ => ?_)
             | with_reducible refine len_ints (fun _ => ?_)
             | with_reducible refine tok_known (by assumption) (by omega) ?_
             | with_reducible refine at_tok (by omega) (by omega) (fun _ _ => ?_)
             | with_reducible refine at_int (by omega) (by omega) (fun _ _ => ?_)
             | with_reducible refine slice_ints (by omega) (by omega) (by omega) ?_
             | refine ha.q rfl hm ?_
             | with_reducible refine draw_head ?_)
  refine loop_h (α := List Nd × Rs × Own) (fun x => [(6, .slice 6 ((x.1 ++ [rn x.2.1]).map encN) x.2.2)]) [1, 4, 5] (fun x => [(2, [.int .i64 (rn x.2.1).kind, .int .i64 (rn x.2.1).form, .str (rn x.2.1).text, .int .i64 (rn x.2.1).line, .int .i64 (rn x.2.1).col, .slice 6 (encs (rn x.2.1).kids) .any,
  .slice 4 (encTs (rs x.2.1).toks) .any, .int .i64 (rs x.2.1).pos, .slice 1 (ints (rs x.2.1).opn) .any, .int .i64 (rs x.2.1).wait, .int .i64 (re x.2.1)])]) [1] (fun x => x.2.2.st st ((x.1 ++ [rn x.2.1]).length * 6))
    (fun x => x.2.2.good st ∧ (∃ s3, x.2.1 = A s3 ∧ mu s3 ≤ mu s ∧ x.1.length + mu s3 ≤ 200000000 ∧ (x.1 = [] → s3 = s)) ∧ rowR A x.1 x.2.1 = rowR A [] (A s)) (fun x => if re x.2.1 = 0 then mu (rs x.2.1) + 1 else 0) ([], A s, .full)
    ⟨trivial, ⟨s, rfl, Nat.le_refl _, by show 0 + mu s ≤ _; omega, fun _ => rfl⟩, rfl⟩ (by refine ⟨rfl, ?_, ?_, rfl⟩ <;> repeat' (first | exact trivial | exact rfl | refine And.intro ?_ ?_)) (St.le_refl _) ?_
  rintro ⟨l, q, own⟩ ⟨j1, ⟨s3, rfl, j2, j3, j4⟩, j5⟩
  dsimp only at j1 j2 j3 j4 j5
  have hd4 : re (A s3) = 0 → mu (rs (A s3)) < mu s3 := mu_ok hB hF
  have hm5 : re (A s3) = 0 → mu (rs (A s3)) ≤ 100000000 := fun e => by have := hd4 e; omega
  have hn2 : (l ++ [rn (A s3)]).length + 1 ≤ 1000000000 := by rw [List.length_append, List.length_singleton]; omega
  rw [← j5] at h
  repeat' (conv => whnf
           first
             | with_reducible exact quiet_same
             | with_reducible exact quiet_bool
             | with_reducible exact quiet_not
             | with_reducible refine draw_step (by kernel_rfl) ?_
             | with_reducible refine quiet_go ?_ ?_ ?_
             | with_reducible refine bcase_yes (by first | assumption | omega) ?_
             | with_reducible refine bcase_no (by first | assumption | omega) ?_
             | with_reducible refine bcase_dyes (by omega) ?_
             | with_reducible refine bcase_dno (by omega) ?_
             | with_reducible refine bcase_len (by decide) (fun _ => ?_) (fun _ => ?_)
             | with_reducible refine bcase_eq (fun _ => ?_) (fun _ => ?_)
             | with_reducible refine bcase_dec (fun _ => ?_) (fun _ => ?_)
             | with_reducible refine bcase_true ?_
             | with_reducible refine bcase_false ?_
             | with_reducible refine bcase_intro (fun _ => ?_) (fun _ => ?_)
             | with_reducible refine len_kids (fun _ => ?_)
             | with_reducible refine at_known (by assumption) (by omega) ?_
             | with_reducible refine at_kid (by omega) (by omega) (fun _ _ _ => ?_)
             | with_reducible refine tail_kids (by omega) (by omega) ?_
             | with_reducible refine slice_kids (by omega) (by omega) (by omega) ?_
             | with_reducible refine ex_wrap (by omega) (by omega) ?_
             | with_reducible refine quo_step (by decide) (by omega) (by omega) ?_
             | with_reducible refine rem_step (by decide) ?_
             | with_reducible refine nil_row (fun _ => ?_) ?_
             | with_reducible refine nil_row2 (fun _ => ?_) ?_
             | with_reducible refine len_toks (fun _ => ?_)
             | with_reducible refine len_ints (fun _ => ?_)
             | with_reducible refine tok_known (by assumption) (by omega) ?_
             | with_reducible refine at_tok (by omega) (by omega) (fun _ _ => ?_)
             | with_reducible refine at_int (by omega) (by omega) (fun _ _ => ?_)
             | with_reducible refine slice_ints (by omega) (by omega) (by omega) ?_
             | refine rpeek_c (s := rs (A s3)) (opn_le (hm5 (by assumption))) ?_
             | refine rstarts_c ?_
             | refine ha.q (s := rs (A s3)) rfl (hm5 (by assumption)) ?_
             | refine app_m (l := l ++ [rn (A s3)]) (x := rn (A (rs (A s3)))) j1 hn2 (fun own1 ho1 => ?_)
             | refine len_m (fun _ => ?_)
             | with_reducible refine draw_head ?_)
  all_goals conv => whnf
  · have hz : re (A s3) = 0 := by assumption
    have hp : startsF (nextM (rs (A s3))).1 = true := by assumption
    have k1 := hd4 hz
    have k2 : re (A (rs (A s3))) = 0 → mu (rs (A (rs (A s3)))) < mu (rs (A s3)) := mu_ok hB hF
    refine ⟨(l ++ [rn (A s3)], A (rs (A s3)), own1), ⟨ho1, ⟨rs (A s3), rfl, by omega, ?_, ?_⟩, ?_⟩, ?_, (by refine ⟨rfl, ?_, ?_, rfl⟩ <;> repeat' (first | exact trivial | exact rfl | refine And.intro ?_ ?_)), St.le_refl _⟩
    · show (l ++ [rn (A s3)]).length + _ ≤ _
      rw [List.length_append, List.length_singleton]
      omega
    · intro e
      simp at e
    · show rowR A (l ++ [rn (A s3)]) (A (rs (A s3))) = _
      rw [← j5, rowR_ok hB hz, rowL_q hF hp]
    · show (if re (A (rs (A s3))) = 0 then mu (rs (A (rs (A s3)))) + 1 else 0) < if re (A s3) = 0 then mu (rs (A s3)) + 1 else 0
      rw [if_pos hz]
      split
      · rename_i e; have := k2 e; omega
      · omega
  · have hz : re (A s3) = 0 := by assumption
    have hl : 1 < (((l ++ [rn (A s3)]).length : Nat) : Int) := by assumption
    rw [rowR_ok hB hz, rowL_n (by assumption)] at h
    dsimp only at h
    rw [if_neg (by omega)] at h
    have h : R (.ret (encQ (nodeK 39 (l ++ [rn (A s3)])) (rs (A s3)) (re (A s3)))) st := by rw [hz]; exact h
    exact finl (Own.good_le j1) fin_nodeQ h
  · have hz : re (A s3) = 0 := by assumption
    have hl : ¬ 1 < (((l ++ [rn (A s3)]).length : Nat) : Int) := by assumption
    rw [rowR_ok hB hz, rowL_n (by assumption)] at h
    dsimp only at h
    have hl0 : l = [] := List.eq_nil_iff_length_eq_zero.2 (by rw [List.length_append, List.length_singleton] at hl; omega)
    have e3 := j4 hl0
    subst hl0
    subst e3
    have h : R (.ret (encQ (rn (A s3)) (rs (A s3)) (re (A s3)))) st := by rw [hz]; exact h
    exact finl (Own.good_le j1) rfl h
  · have hz : ¬ re (A s3) = 0 := by assumption
    rw [rowR_bad hz] at h
    have h : R (.ret (encQ nd0 (rs (A s3)) (re (A s3)))) st := h
    rw [← rn_bad hz] at h
    exact finl (Own.good_le j1) rfl h
end
end Go.Proofs.Ytngbihfihdheoaa

/-
  TYPES: the document's arrows, Type, Atom, Row, Full.
-/
set_option linter.unusedVariables false
set_option pp.maxSteps 400
namespace Go.Proofs.Ytngbihfihdheoaa
open Go Go.Aw
/-- a Read's cells -/
def cellsQ (n : Nd) (s : Sta) (e : Int) : List V := [.int .i64 n.kind, .int .i64 n.form, .str n.text, .int .i64 n.line, .int .i64 n.col, .slice 6 (encs n.kids) .any,
  .slice 4 (encTs s.toks) .any, .int .i64 s.pos, .slice 1 (ints s.opn) .any, .int .i64 s.wait, .int .i64 e]
theorem arrL_n {A : Sta → Rs} {l : List Nd} {s : Sta} (h : isF s 10 [45, 62] = false) : arrL A l s = .inr (l, s) := by
  rw [arrL, if_neg (by rw [h]; decide)]
theorem arrL_ok {A : Sta → Rs} (hB : Bads A) (hF : Falls A) {l : List Nd} {s : Sta} (h : isF s 10 [45, 62] = true) (hz : re (rowP A (nextM s).2.1) = 0) :
    arrL A l s = arrL A (l ++ [leafT (nextM s).1] ++ [rn (rowP A (nextM s).2.1)]) (rs (rowP A (nextM s).2.1)) := by
  rw [arrL, if_pos h, inr_of (bads_row hB) hz]
  dsimp only
  have h1 := mu_ok (bads_row hB) (falls_row hF) hz
  have h2 := isF_mu h (by decide) (by decide)
  rw [if_pos (by omega), List.append_assoc]
  rfl
theorem arrL_bad2 {A : Sta → Rs} {l : List Nd} {s : Sta} (h : isF s 10 [45, 62] = true) (hz : ¬ re (rowP A (nextM s).2.1) = 0) : arrL A l s = .inl (re (rowP A (nextM s).2.1), rs (rowP A (nextM s).2.1)) := by
  rw [arrL, if_pos h, inl_of hz]
  rfl
theorem whole_q {A : Sta → Rs} {s : Sta} (hB : Bads A) (hz : re (rowP A s) = 0) : wholeP A s = arrowsP A (rn (rowP A s)) (rs (rowP A s)) := by
  unfold wholeP
  rw [inr_of (bads_row hB) hz]
  rfl
theorem whole_bad {A : Sta → Rs} {s : Sta} (hz : ¬ re (rowP A s) = 0) : wholeP A s = .inl (re (rowP A s), rs (rowP A s)) := by
  unfold wholeP
  rw [inl_of hz]
  rfl
section
variable {st : St} {R : Res → St → Prop}
attribute [local irreducible] Go.Aw.appendTo
theorem rarrows_bad {n : Nd} {s : Sta} {e d : Int} (he : ¬ e = 0) (h : R (.ret (encQ n s e)) st) : PC 31 [encQ n s e, .int .i64 d] st R := by
  refine pcalls_of_body tys_ok [] Try.func31 rfl (by decide) ?_
  repeat' (conv => whnf
           first
             | with_reducible exact quiet_same
             | with_reducible exact quiet_bool
             | with_reducible exact quiet_not
             | with_reducible refine draw_step (by kernel_rfl) ?_
             | with_reducible refine quiet_go ?_ ?_ ?_
             | with_reducible refine bcase_yes (by first | assumption | omega) ?_
             | with_reducible refine bcase_no (by first | assumption | omega) ?_
             | with_reducible refine bcase_dyes (by omega) ?_
             | with_reducible refine bcase_dno (by omega) ?_
             | with_reducible refine bcase_len (by decide) (fun _ => ?_) (fun _ => ?_)
             | with_reducible refine bcase_eq (fun _ => ?_) (fun _ => ?_)
             | with_reducible refine bcase_dec (fun _ => ?_) (fun _ => ?_)
             | with_reducible refine bcase_true ?_
             | with_reducible refine bcase_false ?_
             | with_reducible refine bcase_intro (fun _ => ?_) (fun _ => ?_)
             | with_reducible refine len_kids (fun _ => ?_)
             | with_reducible refine at_known (by assumption) (by omega) ?_
             | with_reducible refine at_kid (by omega) (by omega) (fun _ _ _ => ?_)
             | with_reducible refine tail_kids (by omega) (by omega) ?_
             | with_reducible refine slice_kids (by omega) (by omega) (by omega) ?_
             | with_reducible refine ex_wrap (by omega) (by omega) ?_
             | with_reducible refine quo_step (by decide) (by omega) (by omega) ?_
             | with_reducible refine rem_step (by decide) ?_
             | with_reducible refine nil_row (fun _ => ?_) ?_
             | with_reducible refine nil_row2 (fun _ => ?_) ?_
             | with_reducible refine len_toks (fun _ => ?_)
             | with_reducible refine len_ints (fun _ => ?_)
             | with_reducible refine tok_known (by assumption) (by omega) ?_
             | with_reducible refine at_tok (by omega) (by omega) (fun _ _ => ?_)
             | with_reducible refine at_int (by omega) (by omega) (fun _ _ => ?_)
             | with_reducible refine slice_ints (by omega) (by omega) (by omega) ?_
             | with_reducible refine draw_head ?_)
  all_goals exact finw rfl h
theorem rarrows_c {d : Int} {A : Sta → Rs} (hr : RCalls 32 d (rowP A)) (hB : Bads A) (hF : Falls A) {n : Nd} {s : Sta} {e0 : Int} (he : e0 = 0) (hm : mu s ≤ 100000000) (h : R (.ret (encRs (arrowsP A n s))) st) : PC 31 [encQ n s e0, .int .i64 d] st R := by
  refine pcalls_of_body tys_ok [] Try.func31 rfl (by decide) ?_
  have hb := opn_le hm
  unfold arrowsP at h
  cases hA : isF s 10 [45, 62] with
  | false =>
    rw [arrL_n hA] at h
    dsimp only at h
    rw [if_pos (show [n].length = 1 from rfl)] at h
    have h : R (.ret (encQ n s e0)) st := by rw [he]; exact h
    repeat' (conv => whnf
             first
               | with_reducible exact quiet_same
               | with_reducible exact quiet_bool
               | with_reducible exact quiet_not
               | with_reducible refine draw_step (by kernel_rfl) ?_
               | with_reducible refine quiet_go ?_ ?_ ?_
               | with_reducible refine bcase_yes (by first | assumption | omega) ?_
               | with_reducible refine bcase_no (by first | assumption | omega) ?_
               | with_reducible refine bcase_dyes (by omega) ?_
               | with_reducible refine bcase_dno (by omega) ?_
               | with_reducible refine bcase_len (by decide) (fun _ => ?_) (fun _ => ?_)
               | with_reducible refine bcase_eq (fun _ => ?_) (fun _ => ?_)
               | with_reducible refine bcase_dec (fun _ => ?_) (fun _ => ?_)
               | with_reducible refine bcase_true ?_
               | with_reducible refine bcase_false ?_
               | with_reducible refine bcase_intro (fun _ => ?_) (fun _ => ?_)
               | with_reducible refine len_kids (fun _ => ?_)
               | with_reducible refine at_known (by assumption) (by omega) ?_
               | with_reducible refine at_kid (by omega) (by omega) (fun _ _ _ => ?_)
               | with_reducible refine tail_kids (by omega) (by omega) ?_
               | with_reducible refine slice_kids (by omega) (by omega) (by omega) ?_
               | with_reducible refine ex_wrap (by omega) (by omega) ?_
               | with_reducible refine quo_step (by decide) (by omega) (by omega) ?_
               | with_reducible refine rem_step (by decide) ?_
               | with_reducible refine nil_row (fun _ => ?_) ?_
               | with_reducible refine nil_row2 (fun _ => ?_) ?_
               | with_reducible refine len_toks (fun _ => ?_)
               | with_reducible refine len_ints (fun _ => ?_)
               | with_reducible refine tok_known (by assumption) (by omega) ?_
               | with_reducible refine at_tok (by omega) (by omega) (fun _ _ => ?_)
               | with_reducible refine at_int (by omega) (by omega) (fun _ _ => ?_)
               | with_reducible refine slice_ints (by omega) (by omega) (by omega) ?_
               | refine ris_e hA (by decide) hb ?_
               | with_reducible refine draw_head ?_)
    all_goals exact finw rfl h
  | true =>
    repeat' (conv => whnf
             first
               | with_reducible exact quiet_same
               | with_reducible exact quiet_bool
               | with_reducible exact quiet_not
               | with_reducible refine draw_step (by kernel_rfl) ?_
               | with_reducible refine quiet_go ?_ ?_ ?_
               | with_reducible refine bcase_yes (by first | assumption | omega) ?_
               | with_reducible refine bcase_no (by first | assumption | omega) ?_
               | with_reducible refine bcase_dyes (by omega) ?_
               | with_reducible refine bcase_dno (by omega) ?_
               | with_reducible refine bcase_len (by decide) (fun _ => ?_) (fun _ => ?_)
               | with_reducible refine bcase_eq (fun _ => ?_) (fun _ => ?_)
               | with_reducible refine bcase_dec (fun _ => ?_) (fun _ => ?_)
               | with_reducible refine bcase_true ?_
               | with_reducible refine bcase_false ?_
               | with_reducible refine bcase_intro (fun _ => ?_) (fun _ => ?_)
               | with_reducible refine len_kids (fun _ => ?_)
               | with_reducible refine at_known (by assumption) (by omega) ?_
               | with_reducible refine at_kid (by omega) (by omega) (fun _ _ _ => ?_)
               | with_reducible refine tail_kids (by omega) (by omega) ?_
               | with_reducible refine slice_kids (by omega) (by omega) (by omega) ?_
               | with_reducible refine ex_wrap (by omega) (by omega) ?_
               | with_reducible refine quo_step (by decide) (by omega) (by omega) ?_
               | with_reducible refine rem_step (by decide) ?_
               | with_reducible refine nil_row (fun _ => ?_) ?_
               | with_reducible refine nil_row2 (fun _ => ?_) ?_
               | with_reducible refine len_toks (fun _ => ?_)
               | with_reducible refine len_ints (fun _ => ?_)
               | with_reducible refine tok_known (by assumption) (by omega) ?_
               | with_reducible refine at_tok (by omega) (by omega) (fun _ _ => ?_)
               | with_reducible refine at_int (by omega) (by omega) (fun _ _ => ?_)
               | with_reducible refine slice_ints (by omega) (by omega) (by omega) ?_
               | refine ris_e hA (by decide) hb ?_
               | with_reducible refine draw_head ?_)
    refine loop_h (α := List Nd × (Nd × Sta × Int) × Own) (fun x => [(5, .slice 6 (x.1.map encN) x.2.2)]) [1, 2, 4] (fun x => [(0, cellsQ x.2.1.1 x.2.1.2.1 x.2.1.2.2)]) [1] (fun x => x.2.2.st st (x.1.length * 6))
      (fun x => x.2.2.good st ∧ x.2.1.2.2 = 0 ∧ mu x.2.1.2.1 ≤ mu s ∧ x.1.length + 2 * mu x.2.1.2.1 ≤ 400000000 ∧ (x.1.length = 1 → isF x.2.1.2.1 10 [45, 62] = true) ∧ arrL A x.1 x.2.1.2.1 = arrL A [n] s) (fun x => mu x.2.1.2.1) ([n], (n, s, e0), .full)
      ⟨trivial, he, Nat.le_refl _, by show 1 + 2 * mu s ≤ _; omega, fun _ => hA, rfl⟩ (by refine ⟨rfl, ?_, ?_, rfl⟩ <;> repeat' (first | exact trivial | exact rfl | refine And.intro ?_ ?_)) (St.le_refl _) ?_
    rintro ⟨l, ⟨n3, s3, e3⟩, own⟩ ⟨j1, j2, j3, j4, j5, j6⟩
    dsimp only at j1 j2 j3 j4 j5 j6
    have hm3 : mu s3 ≤ 100000000 := by omega
    have hb3 := opn_le hm3
    have hn : l.length + 1 ≤ 1000000000 := by omega
    have hn2 : ∀ y : Nd, (l ++ [y]).length + 1 ≤ 1000000000 := fun y => by rw [List.length_append, List.length_singleton]; omega
    have hm4 : isF s3 10 [45, 62] = true → mu (nextM s3).2.1 ≤ 100000000 := fun e => by have := isF_mu e (by decide) (by decide); omega
    rw [← j6] at h
    repeat' (conv => whnf
             first
               | with_reducible exact quiet_same
               | with_reducible exact quiet_bool
               | with_reducible exact quiet_not
               | with_reducible refine draw_step (by kernel_rfl) ?_
               | with_reducible refine quiet_go ?_ ?_ ?_
               | with_reducible refine bcase_yes (by first | assumption | omega) ?_
               | with_reducible refine bcase_no (by first | assumption | omega) ?_
               | with_reducible refine bcase_dyes (by omega) ?_
               | with_reducible refine bcase_dno (by omega) ?_
               | with_reducible refine bcase_len (by decide) (fun _ => ?_) (fun _ => ?_)
               | with_reducible refine bcase_eq (fun _ => ?_) (fun _ => ?_)
               | with_reducible refine bcase_dec (fun _ => ?_) (fun _ => ?_)
               | with_reducible refine bcase_true ?_
               | with_reducible refine bcase_false ?_
               | with_reducible refine bcase_intro (fun _ => ?_) (fun _ => ?_)
               | with_reducible refine len_kids (fun _ => ?_)
               | with_reducible refine at_known (by assumption) (by omega) ?_
               | with_reducible refine at_kid (by omega) (by omega) (fun _ _ _ => ?_)
               | with_reducible refine tail_kids (by omega) (by omega) ?_
               | with_reducible refine slice_kids (by omega) (by omega) (by omega) ?_
               | with_reducible refine ex_wrap (by omega) (by omega) ?_
               | with_reducible refine quo_step (by decide) (by omega) (by omega) ?_
               | with_reducible refine rem_step (by decide) ?_
               | with_reducible refine nil_row (fun _ => ?_) ?_
               | with_reducible refine nil_row2 (fun _ => ?_) ?_
               | with_reducible refine len_toks (fun _ => ?_)
               | with_reducible refine len_ints (fun _ => ?_)
               | with_reducible refine tok_known (by assumption) (by omega) ?_
               | with_reducible refine at_tok (by omega) (by omega) (fun _ _ => ?_)
               | with_reducible refine at_int (by omega) (by omega) (fun _ _ => ?_)
               | with_reducible refine slice_ints (by omega) (by omega) (by omega) ?_
               | refine ris_c (s := s3) (by decide) hb3 ?_
               | refine rtake_e (take_is (by assumption) (by decide)) hb3 ?_
               | refine app_m (l := l) (x := leafT (nextM s3).1) j1 hn (fun own1 ho1 => ?_)
               | refine hr.q (s := (nextM s3).2.1) rfl (hm4 (by assumption)) ?_
               | refine app_m (l := l ++ [leafT (nextM s3).1]) (x := rn (rowP A (nextM s3).2.1)) ho1 (hn2 _) (fun own2 ho2 => ?_)
               | with_reducible refine draw_head ?_)
    all_goals conv => whnf
    · have hp : isF s3 10 [45, 62] = true := by assumption
      have hz : re (rowP A (nextM s3).2.1) = 0 := by assumption
      have k1 := mu_ok (bads_row hB) (falls_row hF) hz
      have k2 := isF_mu hp (by decide) (by decide)
      refine ⟨(l ++ [leafT (nextM s3).1] ++ [rn (rowP A (nextM s3).2.1)], (rn (rowP A (nextM s3).2.1), rs (rowP A (nextM s3).2.1), re (rowP A (nextM s3).2.1)), own2), ⟨ho2, hz, by show mu (rs (rowP A (nextM s3).2.1)) ≤ _; omega, ?_, ?_, ?_⟩, by show mu (rs (rowP A (nextM s3).2.1)) < mu s3; omega, (by refine ⟨rfl, ?_, ?_, rfl⟩ <;> repeat' (first | exact trivial | exact rfl | refine And.intro ?_ ?_)), St.le_refl _⟩
      · show (l ++ [leafT (nextM s3).1] ++ [rn (rowP A (nextM s3).2.1)]).length + 2 * mu (rs (rowP A (nextM s3).2.1)) ≤ _
        simp only [List.length_append, List.length_singleton]
        omega
      · intro e
        have e : (l ++ [leafT (nextM s3).1] ++ [rn (rowP A (nextM s3).2.1)]).length = 1 := e
        simp only [List.length_append, List.length_singleton] at e
        omega
      · show arrL A (l ++ [leafT (nextM s3).1] ++ [rn (rowP A (nextM s3).2.1)]) (rs (rowP A (nextM s3).2.1)) = _
        rw [← j6, ← arrL_ok hB hF hp hz]
    · have hp : isF s3 10 [45, 62] = true := by assumption
      have hz : ¬ re (rowP A (nextM s3).2.1) = 0 := by assumption
      rw [arrL_bad2 hp hz] at h
      have h : R (.ret (encQ nd0 (rs (rowP A (nextM s3).2.1)) (re (rowP A (nextM s3).2.1)))) st := h
      rw [← rn_bad hz] at h
      exact finl (Own.good_le ho1) rfl h
    · have hp : isF s3 10 [45, 62] = false := by assumption
      have hl : ¬ l.length = 1 := fun e => by rw [j5 e] at hp; cases hp
      rw [arrL_n hp] at h
      dsimp only at h
      rw [if_neg hl] at h
      have h : R (.ret (encQ (nodeK 37 l) s3 e3)) st := by rw [j2]; exact h
      exact finl (Own.good_le j1) fin_nodeQ h
theorem rarrows_q {d : Int} {A : Sta → Rs} (hr : RCalls 32 d (rowP A)) (hB : Bads A) (hF : Falls A) {n : Nd} {s : Sta} {e0 : Int} (he : e0 = 0) (hm : mu s ≤ 100000000) (h : R (.ret (encQ (rn (arrowsP A n s)) (rs (arrowsP A n s)) (re (arrowsP A n s)))) st) :
    PC 31 [encQ n s e0, .int .i64 d] st R := rarrows_c hr hB hF he hm (by rw [encRs_eq]; exact h)

theorem rclean_q {q : Rs} (h : R (.ret (encQ (rn q) (rs q) (re q))) st) : PC 30 [encQ (rn q) (rs q) (re q)] st R := by
  by_cases hz : re q = 0
  · rw [hz] at h ⊢; exact clean_ok h
  · rw [rn_bad hz] at h ⊢; exact clean_bad hz h

/-- an exported reading of the document -/
def docR (s : Sta) (deep : Int) (q : Rs) : Rs := if deep < 1 then .inl (2, s) else q
theorem rtype_c {deep : Int} {A : Sta → Rs} (hr : ¬ deep < 1 → RCalls 32 (if 100 < deep then 100 else deep) (rowP A)) (hB : Bads A) (hF : Falls A) {s : Sta} (hm : mu s ≤ 100000000) (h : R (.ret (encRs (docR s deep (wholeP A s)))) st) :
    PC 13 [encS s, .int .i64 deep] st R := by
  refine pcalls_of_body tys_ok [] Try.func13 rfl (by decide) ?_
  unfold docR at h
  by_cases hd : deep < 1
  · rw [if_pos hd] at h
    repeat' (conv => whnf
             first
               | with_reducible exact quiet_same
               | with_reducible exact quiet_bool
               | with_reducible exact quiet_not
               | with_reducible refine draw_step (by kernel_rfl) ?_
               | with_reducible refine quiet_go ?_ ?_ ?_
               | with_reducible refine bcase_yes (by first | assumption | omega) ?_
               | with_reducible refine bcase_no (by first | assumption | omega) ?_
               | with_reducible refine bcase_dyes (by omega) ?_
               | with_reducible refine bcase_dno (by omega) ?_
               | with_reducible refine bcase_len (by decide) (fun _ => ?_) (fun _ => ?_)
               | with_reducible refine bcase_eq (fun _ => ?_) (fun _ => ?_)
               | with_reducible refine bcase_dec (fun _ => ?_) (fun _ => ?_)
               | with_reducible refine bcase_true ?_
               | with_reducible refine bcase_false ?_
               | with_reducible refine bcase_intro (fun _ => ?_) (fun _ => ?_)
               | with_reducible refine len_kids (fun _ => ?_)
               | with_reducible refine at_known (by assumption) (by omega) ?_
               | with_reducible refine at_kid (by omega) (by omega) (fun _ _ _ => ?_)
               | with_reducible refine tail_kids (by omega) (by omega) ?_
               | with_reducible refine slice_kids (by omega) (by omega) (by omega) ?_
               | with_reducible refine ex_wrap (by omega) (by omega) ?_
               | with_reducible refine quo_step (by decide) (by omega) (by omega) ?_
               | with_reducible refine rem_step (by decide) ?_
               | with_reducible refine nil_row (fun _ => ?_) ?_
               | with_reducible refine nil_row2 (fun _ => ?_) ?_
               | with_reducible refine len_toks (fun _ => ?_)
               | with_reducible refine len_ints (fun _ => ?_)
               | with_reducible refine tok_known (by assumption) (by omega) ?_
               | with_reducible refine at_tok (by omega) (by omega) (fun _ _ => ?_)
               | with_reducible refine at_int (by omega) (by omega) (fun _ _ => ?_)
               | with_reducible refine slice_ints (by omega) (by omega) (by omega) ?_
               | refine rdeep_c ?_
               | with_reducible refine draw_head ?_)
    all_goals exact finw rfl h
  · rw [if_neg hd, encRs_eq] at h
    by_cases hz : re (rowP A s) = 0
    · have hm1 : mu (rs (rowP A s)) ≤ 100000000 := by have := mu_ok (bads_row hB) (falls_row hF) hz; omega
      rw [whole_q hB hz] at h
      repeat' (conv => whnf
               first
                 | with_reducible exact quiet_same
                 | with_reducible exact quiet_bool
                 | with_reducible exact quiet_not
                 | with_reducible refine draw_step (by kernel_rfl) ?_
                 | with_reducible refine quiet_go ?_ ?_ ?_
                 | with_reducible refine bcase_yes (by first | assumption | omega) ?_
                 | with_reducible refine bcase_no (by first | assumption | omega) ?_
                 | with_reducible refine bcase_dyes (by omega) ?_
                 | with_reducible refine bcase_dno (by omega) ?_
                 | with_reducible refine bcase_len (by decide) (fun _ => ?_) (fun _ => ?_)
                 | with_reducible refine bcase_eq (fun _ => ?_) (fun _ => ?_)
                 | with_reducible refine bcase_dec (fun _ => ?_) (fun _ => ?_)
                 | with_reducible refine bcase_true ?_
                 | with_reducible refine bcase_false ?_
                 | with_reducible refine bcase_intro (fun _ => ?_) (fun _ => ?_)
                 | with_reducible refine len_kids (fun _ => ?_)
                 | with_reducible refine at_known (by assumption) (by omega) ?_
                 | with_reducible refine at_kid (by omega) (by omega) (fun _ _ _ => ?_)
                 | with_reducible refine tail_kids (by omega) (by omega) ?_
                 | with_reducible refine slice_kids (by omega) (by omega) (by omega) ?_
                 | with_reducible refine ex_wrap (by omega) (by omega) ?_
                 | with_reducible refine quo_step (by decide) (by omega) (by omega) ?_
                 | with_reducible refine rem_step (by decide) ?_
                 | with_reducible refine nil_row (fun _ => ?_) ?_
                 | with_reducible refine nil_row2 (fun _ => ?_) ?_
                 | with_reducible refine len_toks (fun _ => ?_)
                 | with_reducible refine len_ints (fun _ => ?_)
                 | with_reducible refine tok_known (by assumption) (by omega) ?_
                 | with_reducible refine at_tok (by omega) (by omega) (fun _ _ => ?_)
                 | with_reducible refine at_int (by omega) (by omega) (fun _ _ => ?_)
                 | with_reducible refine slice_ints (by omega) (by omega) (by omega) ?_
                 | refine limit_c hd ?_
                 | refine (hr hd).q rfl hm ?_
                 | refine rarrows_q (hr hd) hB hF hz hm1 ?_
                 | refine rclean_q (q := arrowsP A (rn (rowP A s)) (rs (rowP A s))) ?_
                 | with_reducible refine draw_head ?_)
      all_goals exact finw rfl h
    · have e : wholeP A s = rowP A s := by rw [whole_bad hz]; exact (inl_of hz).symm
      rw [e] at h
      repeat' (conv => whnf
               first
                 | with_reducible exact quiet_same
                 | with_reducible exact quiet_bool
                 | with_reducible exact quiet_not
                 | with_reducible refine draw_step (by kernel_rfl) ?_
                 | with_reducible refine quiet_go ?_ ?_ ?_
                 | with_reducible refine bcase_yes (by first | assumption | omega) ?_
                 | with_reducible refine bcase_no (by first | assumption | omega) ?_
                 | with_reducible refine bcase_dyes (by omega) ?_
                 | with_reducible refine bcase_dno (by omega) ?_
                 | with_reducible refine bcase_len (by decide) (fun _ => ?_) (fun _ => ?_)
                 | with_reducible refine bcase_eq (fun _ => ?_) (fun _ => ?_)
                 | with_reducible refine bcase_dec (fun _ => ?_) (fun _ => ?_)
                 | with_reducible refine bcase_true ?_
                 | with_reducible refine bcase_false ?_
                 | with_reducible refine bcase_intro (fun _ => ?_) (fun _ => ?_)
                 | with_reducible refine len_kids (fun _ => ?_)
                 | with_reducible refine at_known (by assumption) (by omega) ?_
                 | with_reducible refine at_kid (by omega) (by omega) (fun _ _ _ => ?_)
                 | with_reducible refine tail_kids (by omega) (by omega) ?_
                 | with_reducible refine slice_kids (by omega) (by omega) (by omega) ?_
                 | with_reducible refine ex_wrap (by omega) (by omega) ?_
                 | with_reducible refine quo_step (by decide) (by omega) (by omega) ?_
                 | with_reducible refine rem_step (by decide) ?_
                 | with_reducible refine nil_row (fun _ => ?_) ?_
                 | with_reducible refine nil_row2 (fun _ => ?_) ?_
                 | with_reducible refine len_toks (fun _ => ?_)
                 | with_reducible refine len_ints (fun _ => ?_)
                 | with_reducible refine tok_known (by assumption) (by omega) ?_
                 | with_reducible refine at_tok (by omega) (by omega) (fun _ _ => ?_)
                 | with_reducible refine at_int (by omega) (by omega) (fun _ _ => ?_)
                 | with_reducible refine slice_ints (by omega) (by omega) (by omega) ?_
                 | refine limit_c hd ?_
                 | refine (hr hd).q rfl hm ?_
                 | refine rarrows_bad (n := rn (rowP A s)) (s := rs (rowP A s)) hz ?_
                 | refine rclean_q (q := rowP A s) ?_
                 | with_reducible refine draw_head ?_)
      all_goals exact finw rfl h
theorem ratomX_c {deep : Int} {A : Sta → Rs} (hr : ¬ deep < 1 → RCalls 38 (if 100 < deep then 100 else deep) A) {s : Sta} (hm : mu s ≤ 100000000) (h : R (.ret (encRs (docR s deep (A s)))) st) :
    PC 19 [encS s, .int .i64 deep] st R := by
  refine pcalls_of_body tys_ok [] Try.func19 rfl (by decide) ?_
  unfold docR at h
  by_cases hd : deep < 1
  · rw [if_pos hd] at h
    repeat' (conv => whnf
             first
               | with_reducible exact quiet_same
               | with_reducible exact quiet_bool
               | with_reducible exact quiet_not
               | with_reducible refine draw_step (by kernel_rfl) ?_
               | with_reducible refine quiet_go ?_ ?_ ?_
               | with_reducible refine bcase_yes (by first | assumption | omega) ?_
               | with_reducible refine bcase_no (by first | assumption | omega) ?_
               | with_reducible refine bcase_dyes (by omega) ?_
               | with_reducible refine bcase_dno (by omega) ?_
               | with_reducible refine bcase_len (by decide) (fun _ => ?_) (fun _ => ?_)
               | with_reducible refine bcase_eq (fun _ => ?_) (fun _ => ?_)
               | with_reducible refine bcase_dec (fun _ => ?_) (fun _ => ?_)
               | with_reducible refine bcase_true ?_
               | with_reducible refine bcase_false ?_
               | with_reducible refine bcase_intro (fun _ => ?_) (fun _ => ?_)
               | with_reducible refine len_kids (fun _ => ?_)
               | with_reducible refine at_known (by assumption) (by omega) ?_
               | with_reducible refine at_kid (by omega) (by omega) (fun _ _ _ => ?_)
               | with_reducible refine tail_kids (by omega) (by omega) ?_
               | with_reducible refine slice_kids (by omega) (by omega) (by omega) ?_
               | with_reducible refine ex_wrap (by omega) (by omega) ?_
               | with_reducible refine quo_step (by decide) (by omega) (by omega) ?_
               | with_reducible refine rem_step (by decide) ?_
               | with_reducible refine nil_row (fun _ => ?_) ?_
               | with_reducible refine nil_row2 (fun _ => ?_) ?_
               | with_reducible refine len_toks (fun _ => ?_)
               | with_reducible refine len_ints (fun _ => ?_)
               | with_reducible refine tok_known (by assumption) (by omega) ?_
               | with_reducible refine at_tok (by omega) (by omega) (fun _ _ => ?_)
               | with_reducible refine at_int (by omega) (by omega) (fun _ _ => ?_)
               | with_reducible refine slice_ints (by omega) (by omega) (by omega) ?_
               | refine rdeep_c ?_
               | with_reducible refine draw_head ?_)
    all_goals exact finw rfl h
  · rw [if_neg hd, encRs_eq] at h
    repeat' (conv => whnf
             first
               | with_reducible exact quiet_same
               | with_reducible exact quiet_bool
               | with_reducible exact quiet_not
               | with_reducible refine draw_step (by kernel_rfl) ?_
               | with_reducible refine quiet_go ?_ ?_ ?_
               | with_reducible refine bcase_yes (by first | assumption | omega) ?_
               | with_reducible refine bcase_no (by first | assumption | omega) ?_
               | with_reducible refine bcase_dyes (by omega) ?_
               | with_reducible refine bcase_dno (by omega) ?_
               | with_reducible refine bcase_len (by decide) (fun _ => ?_) (fun _ => ?_)
               | with_reducible refine bcase_eq (fun _ => ?_) (fun _ => ?_)
               | with_reducible refine bcase_dec (fun _ => ?_) (fun _ => ?_)
               | with_reducible refine bcase_true ?_
               | with_reducible refine bcase_false ?_
               | with_reducible refine bcase_intro (fun _ => ?_) (fun _ => ?_)
               | with_reducible refine len_kids (fun _ => ?_)
               | with_reducible refine at_known (by assumption) (by omega) ?_
               | with_reducible refine at_kid (by omega) (by omega) (fun _ _ _ => ?_)
               | with_reducible refine tail_kids (by omega) (by omega) ?_
               | with_reducible refine slice_kids (by omega) (by omega) (by omega) ?_
               | with_reducible refine ex_wrap (by omega) (by omega) ?_
               | with_reducible refine quo_step (by decide) (by omega) (by omega) ?_
               | with_reducible refine rem_step (by decide) ?_
               | with_reducible refine nil_row (fun _ => ?_) ?_
               | with_reducible refine nil_row2 (fun _ => ?_) ?_
               | with_reducible refine len_toks (fun _ => ?_)
               | with_reducible refine len_ints (fun _ => ?_)
               | with_reducible refine tok_known (by assumption) (by omega) ?_
               | with_reducible refine at_tok (by omega) (by omega) (fun _ _ => ?_)
               | with_reducible refine at_int (by omega) (by omega) (fun _ _ => ?_)
               | with_reducible refine slice_ints (by omega) (by omega) (by omega) ?_
               | refine limit_c hd ?_
               | refine (hr hd).q rfl hm ?_
               | refine rclean_q (q := A s) ?_
               | with_reducible refine draw_head ?_)
    all_goals exact finw rfl h
theorem rrowX_c {deep : Int} {A : Sta → Rs} (hr : ¬ deep < 1 → RCalls 32 (if 100 < deep then 100 else deep) A) {s : Sta} (hm : mu s ≤ 100000000) (h : R (.ret (encRs (docR s deep (A s)))) st) :
    PC 21 [encS s, .int .i64 deep] st R := by
  refine pcalls_of_body tys_ok [] Try.func21 rfl (by decide) ?_
  unfold docR at h
  by_cases hd : deep < 1
  · rw [if_pos hd] at h
    repeat' (conv => whnf
             first
               | with_reducible exact quiet_same
               | with_reducible exact quiet_bool
               | with_reducible exact quiet_not
               | with_reducible refine draw_step (by kernel_rfl) ?_
               | with_reducible refine quiet_go ?_ ?_ ?_
               | with_reducible refine bcase_yes (by first | assumption | omega) ?_
               | with_reducible refine bcase_no (by first | assumption | omega) ?_
               | with_reducible refine bcase_dyes (by omega) ?_
               | with_reducible refine bcase_dno (by omega) ?_
               | with_reducible refine bcase_len (by decide) (fun _ => ?_) (fun _ => ?_)
               | with_reducible refine bcase_eq (fun _ => ?_) (fun _ => ?_)
               | with_reducible refine bcase_dec (fun _ => ?_) (fun _ => ?_)
               | with_reducible refine bcase_true ?_
               | with_reducible refine bcase_false ?_
               | with_reducible refine bcase_intro (fun _ => ?_) (fun _ => ?_)
               | with_reducible refine len_kids (fun _ => ?_)
               | with_reducible refine at_known (by assumption) (by omega) ?_
               | with_reducible refine at_kid (by omega) (by omega) (fun _ _ _ => ?_)
               | with_reducible refine tail_kids (by omega) (by omega) ?_
               | with_reducible refine slice_kids (by omega) (by omega) (by omega) ?_
               | with_reducible refine ex_wrap (by omega) (by omega) ?_
               | with_reducible refine quo_step (by decide) (by omega) (by omega) ?_
               | with_reducible refine rem_step (by decide) ?_
               | with_reducible refine nil_row (fun _ => ?_) ?_
               | with_reducible refine nil_row2 (fun _ => ?_) ?_
               | with_reducible refine len_toks (fun _ => ?_)
               | with_reducible refine len_ints (fun _ => ?_)
               | with_reducible refine tok_known (by assumption) (by omega) ?_
               | with_reducible refine at_tok (by omega) (by omega) (fun _ _ => ?_)
               | with_reducible refine at_int (by omega) (by omega) (fun _ _ => ?_)
               | with_reducible refine slice_ints (by omega) (by omega) (by omega) ?_
               | refine rdeep_c ?_
               | with_reducible refine draw_head ?_)
    all_goals exact finw rfl h
  · rw [if_neg hd, encRs_eq] at h
    repeat' (conv => whnf
             first
               | with_reducible exact quiet_same
               | with_reducible exact quiet_bool
               | with_reducible exact quiet_not
               | with_reducible refine draw_step (by kernel_rfl) ?_
               | with_reducible refine quiet_go ?_ ?_ ?_
               | with_reducible refine bcase_yes (by first | assumption | omega) ?_
               | with_reducible refine bcase_no (by first | assumption | omega) ?_
               | with_reducible refine bcase_dyes (by omega) ?_
               | with_reducible refine bcase_dno (by omega) ?_
               | with_reducible refine bcase_len (by decide) (fun _ => ?_) (fun _ => ?_)
               | with_reducible refine bcase_eq (fun _ => ?_) (fun _ => ?_)
               | with_reducible refine bcase_dec (fun _ => ?_) (fun _ => ?_)
               | with_reducible refine bcase_true ?_
               | with_reducible refine bcase_false ?_
               | with_reducible refine bcase_intro (fun _ => ?_) (fun _ => ?_)
               | with_reducible refine len_kids (fun _ => ?_)
               | with_reducible refine at_known (by assumption) (by omega) ?_
               | with_reducible refine at_kid (by omega) (by omega) (fun _ _ _ => ?_)
               | with_reducible refine tail_kids (by omega) (by omega) ?_
               | with_reducible refine slice_kids (by omega) (by omega) (by omega) ?_
               | with_reducible refine ex_wrap (by omega) (by omega) ?_
               | with_reducible refine quo_step (by decide) (by omega) (by omega) ?_
               | with_reducible refine rem_step (by decide) ?_
               | with_reducible refine nil_row (fun _ => ?_) ?_
               | with_reducible refine nil_row2 (fun _ => ?_) ?_
               | with_reducible refine len_toks (fun _ => ?_)
               | with_reducible refine len_ints (fun _ => ?_)
               | with_reducible refine tok_known (by assumption) (by omega) ?_
               | with_reducible refine at_tok (by omega) (by omega) (fun _ _ => ?_)
               | with_reducible refine at_int (by omega) (by omega) (fun _ _ => ?_)
               | with_reducible refine slice_ints (by omega) (by omega) (by omega) ?_
               | refine limit_c hd ?_
               | refine (hr hd).q rfl hm ?_
               | refine rclean_q (q := A s) ?_
               | with_reducible refine draw_head ?_)
    all_goals exact finw rfl h
end
end Go.Proofs.Ytngbihfihdheoaa

/-
  TYPES: the document's Full, and all at any depth.
-/
set_option linter.unusedVariables false
set_option pp.maxSteps 400
namespace Go.Proofs.Ytngbihfihdheoaa
open Go Go.Aw
theorem full_q {A : Sta → Rs} {s : Sta} (hB : Bads A) (hz : re (rowP A s) = 0) (hi : isF (rs (rowP A s)) 10 [61, 62] = true) : fullP A s = match wholeP A (nextM (rs (rowP A s))).2.1 with
      | .inl e => .inl e
      | .inr q => .inr (nodeK 38 [rn (rowP A s), leafT (nextM (rs (rowP A s))).1, q.1], q.2) := by
  unfold fullP
  have e := inr_of (bads_row hB) hz
  generalize rn (rowP A s) = n at *
  generalize rs (rowP A s) = s1 at *
  rw [e]
  dsimp only
  rw [if_pos hi]
  cases wholeP A (nextM s1).2.1 <;> rfl
theorem full_n {A : Sta → Rs} {s : Sta} (hB : Bads A) (hz : re (rowP A s) = 0) (hi : isF (rs (rowP A s)) 10 [61, 62] = false) : fullP A s = arrowsP A (rn (rowP A s)) (rs (rowP A s)) := by
  unfold fullP
  have e := inr_of (bads_row hB) hz
  generalize rn (rowP A s) = n at *
  generalize rs (rowP A s) = s1 at *
  rw [e]
  dsimp only
  rw [if_neg (by rw [hi]; decide)]
theorem full_bad {A : Sta → Rs} {s : Sta} (hz : ¬ re (rowP A s) = 0) : fullP A s = rowP A s := by
  unfold fullP
  rw [inl_of hz]
section
variable {st : St} {R : Res → St → Prop}
attribute [local irreducible] Go.Aw.appendTo
theorem rclean_bad {n : Nd} {s : Sta} {e : Int} (he : ¬ e = 0) (h : R (.ret (encQ nd0 s e)) st) : PC 30 [encQ n s e] st R := clean_bad he h
theorem rclean_node {k : Int} {l : List Nd} {own : Own} {s : Sta} {e : Int} (he : e = 0) (hg : own.good st) (h : R (.ret (encQ (nodeK k l) s e)) (own.st st (l.length * 6))) : PC 30 [.agg [.int .i64 k, .int .i64 0, .str [], .int .i64 0, .int .i64 0, .slice 6 (l.map encN) own,
    .slice 4 (encTs s.toks) .any, .int .i64 s.pos, .slice 1 (ints s.opn) .any, .int .i64 s.wait, .int .i64 e]] (own.st st (l.length * 6)) R := by
  have := clean_ok (n := nodeK k l) (s := s) (st := own.st st (l.length * 6)) (R := R) (by rw [← he]; exact h)
  rw [← he] at this
  exact pcalls_wk (args' := [encQ (nodeK k l) s e]) (by rw [← encs_map]; rfl) this
theorem rclean_nodeb {k : Int} {l : List Nd} {own : Own} {s : Sta} {e : Int} (he : ¬ e = 0) (hg : own.good st) (h : R (.ret (encQ nd0 s e)) (own.st st (l.length * 6))) : PC 30 [.agg [.int .i64 k, .int .i64 0, .str [], .int .i64 0, .int .i64 0, .slice 6 (l.map encN) own,
    .slice 4 (encTs s.toks) .any, .int .i64 s.pos, .slice 1 (ints s.opn) .any, .int .i64 s.wait, .int .i64 e]] (own.st st (l.length * 6)) R :=
  pcalls_wk (args' := [encQ (nodeK k l) s e]) (by rw [← encs_map]; rfl) (clean_bad (n := nodeK k l) he h)
theorem rarrows_e {d : Int} {A : Sta → Rs} (hr : RCalls 32 d (rowP A)) (hB : Bads A) (hF : Falls A) {n : Nd} {s : Sta} {e0 : Int} {w : Rs} (hw : arrowsP A n s = w) (he : e0 = 0) (hm : mu s ≤ 100000000) (h : R (.ret (encQ (rn w) (rs w) (re w))) st) :
    PC 31 [encQ n s e0, .int .i64 d] st R := rarrows_c hr hB hF he hm (by rw [hw, encRs_eq]; exact h)
theorem rfull_c {deep : Int} {A : Sta → Rs} (hr : ¬ deep < 1 → RCalls 32 (if 100 < deep then 100 else deep) (rowP A)) (hB : Bads A) (hF : Falls A) {s : Sta} (hm : mu s ≤ 100000000) (h : R (.ret (encRs (docR s deep (fullP A s)))) st) :
    PC 15 [encS s, .int .i64 deep] st R := by
  refine pcalls_of_body tys_ok [] Try.func15 rfl (by decide) ?_
  unfold docR at h
  by_cases hd : deep < 1
  · rw [if_pos hd] at h
    repeat' (conv => whnf
             first
               | with_reducible exact quiet_same
               | with_reducible exact quiet_bool
               | with_reducible exact quiet_not
               | with_reducible refine draw_step (by kernel_rfl) ?_
               | with_reducible refine quiet_go ?_ ?_ ?_
               | with_reducible refine bcase_yes (by first | assumption | omega) ?_
               | with_reducible refine bcase_no (by first | assumption | omega) ?_
               | with_reducible refine bcase_dyes (by omega) ?_
               | with_reducible refine bcase_dno (by omega) ?_
               | with_reducible refine bcase_len (by decide) (fun _ => ?_) (fun _ => ?_)
               | with_reducible refine bcase_eq (fun _ => ?_) (fun _ => ?_)
               | with_reducible refine bcase_dec (fun _ => ?_) (fun _ => ?_)
               | with_reducible refine bcase_true ?_
               | with_reducible refine bcase_false ?_
               | with_reducible refine bcase_intro (fun _ => ?_) (fun _ => ?_)
               | with_reducible refine len_kids (fun _ => ?_)
               | with_reducible refine at_known (by assumption) (by omega) ?_
               | with_reducible refine at_kid (by omega) (by omega) (fun _ _ _ => ?_)
               | with_reducible refine tail_kids (by omega) (by omega) ?_
               | with_reducible refine slice_kids (by omega) (by omega) (by omega) ?_
               | with_reducible refine ex_wrap (by omega) (by omega) ?_
               | with_reducible refine quo_step (by decide) (by omega) (by omega) ?_
               | with_reducible refine rem_step (by decide) ?_
               | with_reducible refine nil_row (fun _ => ?_) ?_
               | with_reducible refine nil_row2 (fun _ => ?_) ?_
               | with_reducible refine len_toks (fun _ => ?_)
               | with_reducible refine len_ints (fun _ => ?_)
               | with_reducible refine tok_known (by assumption) (by omega) ?_
               | with_reducible refine at_tok (by omega) (by omega) (fun _ _ => ?_)
               | with_reducible refine at_int (by omega) (by omega) (fun _ _ => ?_)
               | with_reducible refine slice_ints (by omega) (by omega) (by omega) ?_
               | refine rdeep_c ?_
               | with_reducible refine draw_head ?_)
    all_goals exact finw rfl h
  · rw [if_neg hd, encRs_eq] at h
    by_cases hz : re (rowP A s) = 0
    · have hm1 : mu (rs (rowP A s)) ≤ 100000000 := by have := mu_ok (bads_row hB) (falls_row hF) hz; omega
      have hb1 := opn_le hm1
      cases hi : isF (rs (rowP A s)) 10 [61, 62] with
      | false =>
        rw [full_n hB hz hi] at h
        repeat' (conv => whnf
                 first
                   | with_reducible exact quiet_same
                   | with_reducible exact quiet_bool
                   | with_reducible exact quiet_not
                   | with_reducible refine draw_step (by kernel_rfl) ?_
                   | with_reducible refine quiet_go ?_ ?_ ?_
                   | with_reducible refine bcase_yes (by first | assumption | omega) ?_
                   | with_reducible refine bcase_no (by first | assumption | omega) ?_
                   | with_reducible refine bcase_dyes (by omega) ?_
                   | with_reducible refine bcase_dno (by omega) ?_
                   | with_reducible refine bcase_len (by decide) (fun _ => ?_) (fun _ => ?_)
                   | with_reducible refine bcase_eq (fun _ => ?_) (fun _ => ?_)
                   | with_reducible refine bcase_dec (fun _ => ?_) (fun _ => ?_)
                   | with_reducible refine bcase_true ?_
                   | with_reducible refine bcase_false ?_
                   | with_reducible refine bcase_intro (fun _ => ?_) (fun _ => ?_)
                   | with_reducible refine len_kids (fun _ => ?_)
                   | with_reducible refine at_known (by assumption) (by omega) ?_
                   | with_reducible refine at_kid (by omega) (by omega) (fun _ _ _ => ?_)
                   | with_reducible refine tail_kids (by omega) (by omega) ?_
                   | with_reducible refine slice_kids (by omega) (by omega) (by omega) ?_
                   | with_reducible refine ex_wrap (by omega) (by omega) ?_
                   | with_reducible refine quo_step (by decide) (by omega) (by omega) ?_
                   | with_reducible refine rem_step (by decide) ?_
                   | with_reducible refine nil_row (fun _ => ?_) ?_
                   | with_reducible refine nil_row2 (fun _ => ?_) ?_
                   | with_reducible refine len_toks (fun _ => ?_)
                   | with_reducible refine len_ints (fun _ => ?_)
                   | with_reducible refine tok_known (by assumption) (by omega) ?_
                   | with_reducible refine at_tok (by omega) (by omega) (fun _ _ => ?_)
                   | with_reducible refine at_int (by omega) (by omega) (fun _ _ => ?_)
                   | with_reducible refine slice_ints (by omega) (by omega) (by omega) ?_
                   | refine limit_c hd ?_
                   | refine (hr hd).q rfl hm ?_
                   | refine ris_e hi (by decide) hb1 ?_
                   | refine rarrows_q (hr hd) hB hF hz hm1 ?_
                   | refine rclean_q (q := arrowsP A (rn (rowP A s)) (rs (rowP A s))) ?_
                   | with_reducible refine draw_head ?_)
        all_goals exact finw rfl h
      | true =>
        have hm2 : mu (nextM (rs (rowP A s))).2.1 ≤ 100000000 := by have := isF_mu hi (by decide) (by decide); omega
        have hn1 : [rn (rowP A s)].length + 1 ≤ 1000000000 := by show 1 + 1 ≤ 1000000000; decide
        have hn2 : ∀ y : Nd, ([rn (rowP A s)] ++ [y]).length + 1 ≤ 1000000000 := fun y => by show 2 + 1 ≤ 1000000000; decide
        rw [full_q hB hz hi] at h
        by_cases hz2 : re (rowP A (nextM (rs (rowP A s))).2.1) = 0
        · have hm3 : mu (rs (rowP A (nextM (rs (rowP A s))).2.1)) ≤ 100000000 := by have := mu_ok (bads_row hB) (falls_row hF) hz2; omega
          have hq : wholeP A (nextM (rs (rowP A s))).2.1 = arrowsP A (rn (rowP A (nextM (rs (rowP A s))).2.1)) (rs (rowP A (nextM (rs (rowP A s))).2.1)) := whole_q hB hz2
          rw [hq] at h
          generalize hw : arrowsP A (rn (rowP A (nextM (rs (rowP A s))).2.1)) (rs (rowP A (nextM (rs (rowP A s))).2.1)) = w at h
          by_cases hz3 : re w = 0
          · have hin : w = .inr (rn w, rs w) := by
              rw [← hw]
              exact inr_of (bads_arrows hB) (by rw [hw]; exact hz3)
            rw [hin] at h
            repeat' (conv => whnf
                     first
                       | with_reducible exact quiet_same
                       | with_reducible exact quiet_bool
                       | with_reducible exact quiet_not
                       | with_reducible refine draw_step (by kernel_rfl) ?_
                       | with_reducible refine quiet_go ?_ ?_ ?_
                       | with_reducible refine bcase_yes (by first | assumption | omega) ?_
                       | with_reducible refine bcase_no (by first | assumption | omega) ?_
                       | with_reducible refine bcase_dyes (by omega) ?_
                       | with_reducible refine bcase_dno (by omega) ?_
                       | with_reducible refine bcase_len (by decide) (fun _ => ?_) (fun _ => ?_)
                       | with_reducible refine bcase_eq (fun _ => ?_) (fun _ => ?_)
                       | with_reducible refine bcase_dec (fun _ => ?_) (fun _ => ?_)
                       | with_reducible refine bcase_true ?_
                       | with_reducible refine bcase_false ?_
                       | with_reducible refine bcase_intro (fun _ => ?_) (fun _ => ?_)
                       | with_reducible refine len_kids (fun _ => ?_)
                       | with_reducible refine at_known (by assumption) (by omega) ?_
                       | with_reducible refine at_kid (by omega) (by omega) (fun _ _ _ => ?_)
                       | with_reducible refine tail_kids (by omega) (by omega) ?_
                       | with_reducible refine slice_kids (by omega) (by omega) (by omega) ?_
                       | with_reducible refine ex_wrap (by omega) (by omega) ?_
                       | with_reducible refine quo_step (by decide) (by omega) (by omega) ?_
                       | with_reducible refine rem_step (by decide) ?_
                       | with_reducible refine nil_row (fun _ => ?_) ?_
                       | with_reducible refine nil_row2 (fun _ => ?_) ?_
                       | with_reducible refine len_toks (fun _ => ?_)
                       | with_reducible refine len_ints (fun _ => ?_)
                       | with_reducible refine tok_known (by assumption) (by omega) ?_
                       | with_reducible refine at_tok (by omega) (by omega) (fun _ _ => ?_)
                       | with_reducible refine at_int (by omega) (by omega) (fun _ _ => ?_)
                       | with_reducible refine slice_ints (by omega) (by omega) (by omega) ?_
                       | refine limit_c hd ?_
                       | refine (hr hd).q rfl hm ?_
                       | refine ris_e hi (by decide) hb1 ?_
                       | refine rtake_e (take_is hi (by decide)) hb1 ?_
                       | refine app_m (l := [rn (rowP A s)]) (x := leafT (nextM (rs (rowP A s))).1) (own := .full) trivial hn1 (fun own1 ho1 => ?_)
                       | refine (hr hd).q (s := (nextM (rs (rowP A s))).2.1) rfl hm2 ?_
                       | refine rarrows_e (hr hd) hB hF hw hz2 hm3 ?_
                       | refine app_m (l := [rn (rowP A s)] ++ [leafT (nextM (rs (rowP A s))).1]) (x := rn w) ho1 (hn2 _) (fun own2 ho2 => ?_)
                       | refine rclean_node hz3 ho2 ?_
                       | with_reducible refine draw_head ?_)
            have h : R (.ret (encQ (nodeK 38 ([rn (rowP A s)] ++ [leafT (nextM (rs (rowP A s))).1] ++ [rn w])) (rs w) (re w))) st := by rw [hz3]; exact h
            all_goals exact finl (Own.good_le ho2) rfl h
          · rw [inl_of hz3] at h
            have h : R (.ret (encQ nd0 (rs w) (re w))) st := h
            repeat' (conv => whnf
                     first
                       | with_reducible exact quiet_same
                       | with_reducible exact quiet_bool
                       | with_reducible exact quiet_not
                       | with_reducible refine draw_step (by kernel_rfl) ?_
                       | with_reducible refine quiet_go ?_ ?_ ?_
                       | with_reducible refine bcase_yes (by first | assumption | omega) ?_
                       | with_reducible refine bcase_no (by first | assumption | omega) ?_
                       | with_reducible refine bcase_dyes (by omega) ?_
                       | with_reducible refine bcase_dno (by omega) ?_
                       | with_reducible refine bcase_len (by decide) (fun _ => ?_) (fun _ => ?_)
                       | with_reducible refine bcase_eq (fun _ => ?_) (fun _ => ?_)
                       | with_reducible refine bcase_dec (fun _ => ?_) (fun _ => ?_)
                       | with_reducible refine bcase_true ?_
                       | with_reducible refine bcase_false ?_
                       | with_reducible refine bcase_intro (fun _ => ?_) (fun _ => ?_)
                       | with_reducible refine len_kids (fun _ => ?_)
                       | with_reducible refine at_known (by assumption) (by omega) ?_
                       | with_reducible refine at_kid (by omega) (by omega) (fun _ _ _ => ?_)
                       | with_reducible refine tail_kids (by omega) (by omega) ?_
                       | with_reducible refine slice_kids (by omega) (by omega) (by omega) ?_
                       | with_reducible refine ex_wrap (by omega) (by omega) ?_
                       | with_reducible refine quo_step (by decide) (by omega) (by omega) ?_
                       | with_reducible refine rem_step (by decide) ?_
                       | with_reducible refine nil_row (fun _ => ?_) ?_
                       | with_reducible refine nil_row2 (fun _ => ?_) ?_
                       | with_reducible refine len_toks (fun _ => ?_)
                       | with_reducible refine len_ints (fun _ => ?_)
                       | with_reducible refine tok_known (by assumption) (by omega) ?_
                       | with_reducible refine at_tok (by omega) (by omega) (fun _ _ => ?_)
                       | with_reducible refine at_int (by omega) (by omega) (fun _ _ => ?_)
                       | with_reducible refine slice_ints (by omega) (by omega) (by omega) ?_
                       | refine limit_c hd ?_
                       | refine (hr hd).q rfl hm ?_
                       | refine ris_e hi (by decide) hb1 ?_
                       | refine rtake_e (take_is hi (by decide)) hb1 ?_
                       | refine app_m (l := [rn (rowP A s)]) (x := leafT (nextM (rs (rowP A s))).1) (own := .full) trivial hn1 (fun own1 ho1 => ?_)
                       | refine (hr hd).q (s := (nextM (rs (rowP A s))).2.1) rfl hm2 ?_
                       | refine rarrows_e (hr hd) hB hF hw hz2 hm3 ?_
                       | refine app_m (l := [rn (rowP A s)] ++ [leafT (nextM (rs (rowP A s))).1]) (x := rn w) ho1 (hn2 _) (fun own2 ho2 => ?_)
                       | refine rclean_nodeb hz3 ho2 ?_
                       | with_reducible refine draw_head ?_)
            all_goals exact finl (Own.good_le ho2) rfl h
        · rw [whole_bad hz2] at h
          have h : R (.ret (encQ nd0 (rs (rowP A (nextM (rs (rowP A s))).2.1)) (re (rowP A (nextM (rs (rowP A s))).2.1)))) st := h
          repeat' (conv => whnf
                   first
                     | with_reducible exact quiet_same
                     | with_reducible exact quiet_bool
                     | with_reducible exact quiet_not
                     | with_reducible refine draw_step (by kernel_rfl) ?_
                     | with_reducible refine quiet_go ?_ ?_ ?_
                     | with_reducible refine bcase_yes (by first | assumption | omega) ?_
                     | with_reducible refine bcase_no (by first | assumption | omega) ?_
                     | with_reducible refine bcase_dyes (by omega) ?_
                     | with_reducible refine bcase_dno (by omega) ?_
                     | with_reducible refine bcase_len (by decide) (fun _ => ?_) (fun _ => ?_)
                     | with_reducible refine bcase_eq (fun _ => ?_) (fun _ => ?_)
                     | with_reducible refine bcase_dec (fun _ => ?_) (fun _ => ?_)
                     | with_reducible refine bcase_true ?_
                     | with_reducible refine bcase_false ?_
                     | with_reducible refine bcase_intro (fun _ => ?_) (fun _ => ?_)
                     | with_reducible refine len_kids (fun _ => ?_)
                     | with_reducible refine at_known (by assumption) (by omega) ?_
                     | with_reducible refine at_kid (by omega) (by omega) (fun _ _ _ => ?_)
                     | with_reducible refine tail_kids (by omega) (by omega) ?_
                     | with_reducible refine slice_kids (by omega) (by omega) (by omega) ?_
                     | with_reducible refine ex_wrap (by omega) (by omega) ?_
                     | with_reducible refine quo_step (by decide) (by omega) (by omega) ?_
                     | with_reducible refine rem_step (by decide) ?_
                     | with_reducible refine nil_row (fun _ => ?_) ?_
                     | with_reducible refine nil_row2 (fun _ => ?_) ?_
                     | with_reducible refine len_toks (fun _ => ?_)
                     | with_reducible refine len_ints (fun _ => ?_)
                     | with_reducible refine tok_known (by assumption) (by omega) ?_
                     | with_reducible refine at_tok (by omega) (by omega) (fun _ _ => ?_)
                     | with_reducible refine at_int (by omega) (by omega) (fun _ _ => ?_)
                     | with_reducible refine slice_ints (by omega) (by omega) (by omega) ?_
                     | refine limit_c hd ?_
                     | refine (hr hd).q rfl hm ?_
                     | refine ris_e hi (by decide) hb1 ?_
                     | refine rtake_e (take_is hi (by decide)) hb1 ?_
                     | refine app_m (l := [rn (rowP A s)]) (x := leafT (nextM (rs (rowP A s))).1) (own := .full) trivial hn1 (fun own1 ho1 => ?_)
                     | refine (hr hd).q (s := (nextM (rs (rowP A s))).2.1) rfl hm2 ?_
                     | refine rarrows_bad (n := rn (rowP A (nextM (rs (rowP A s))).2.1)) (s := rs (rowP A (nextM (rs (rowP A s))).2.1)) hz2 ?_
                     | refine app_m (l := [rn (rowP A s)] ++ [leafT (nextM (rs (rowP A s))).1]) (x := rn (rowP A (nextM (rs (rowP A s))).2.1)) ho1 (hn2 _) (fun own2 ho2 => ?_)
                     | refine rclean_nodeb hz2 ho2 ?_
                     | with_reducible refine draw_head ?_)
          all_goals exact finl (Own.good_le ho2) rfl h
    · rw [full_bad hz] at h
      repeat' (conv => whnf
               first
                 | with_reducible exact quiet_same
                 | with_reducible exact quiet_bool
                 | with_reducible exact quiet_not
                 | with_reducible refine draw_step (by kernel_rfl) ?_
                 | with_reducible refine quiet_go ?_ ?_ ?_
                 | with_reducible refine bcase_yes (by first | assumption | omega) ?_
                 | with_reducible refine bcase_no (by first | assumption | omega) ?_
                 | with_reducible refine bcase_dyes (by omega) ?_
                 | with_reducible refine bcase_dno (by omega) ?_
                 | with_reducible refine bcase_len (by decide) (fun _ => ?_) (fun _ => ?_)
                 | with_reducible refine bcase_eq (fun _ => ?_) (fun _ => ?_)
                 | with_reducible refine bcase_dec (fun _ => ?_) (fun _ => ?_)
                 | with_reducible refine bcase_true ?_
                 | with_reducible refine bcase_false ?_
                 | with_reducible refine bcase_intro (fun _ => ?_) (fun _ => ?_)
                 | with_reducible refine len_kids (fun _ => ?_)
                 | with_reducible refine at_known (by assumption) (by omega) ?_
                 | with_reducible refine at_kid (by omega) (by omega) (fun _ _ _ => ?_)
                 | with_reducible refine tail_kids (by omega) (by omega) ?_
                 | with_reducible refine slice_kids (by omega) (by omega) (by omega) ?_
                 | with_reducible refine ex_wrap (by omega) (by omega) ?_
                 | with_reducible refine quo_step (by decide) (by omega) (by omega) ?_
                 | with_reducible refine rem_step (by decide) ?_
                 | with_reducible refine nil_row (fun _ => ?_) ?_
                 | with_reducible refine nil_row2 (fun _ => ?_) ?_
                 | with_reducible refine len_toks (fun _ => ?_)
                 | with_reducible refine len_ints (fun _ => ?_)
                 | with_reducible refine tok_known (by assumption) (by omega) ?_
                 | with_reducible refine at_tok (by omega) (by omega) (fun _ _ => ?_)
                 | with_reducible refine at_int (by omega) (by omega) (fun _ _ => ?_)
                 | with_reducible refine slice_ints (by omega) (by omega) (by omega) ?_
                 | refine limit_c hd ?_
                 | refine (hr hd).q rfl hm ?_
                 | refine rarrows_bad (n := rn (rowP A s)) (s := rs (rowP A s)) hz ?_
                 | refine rclean_q (q := rowP A s) ?_
                 | with_reducible refine draw_head ?_)
      all_goals exact finw rfl h
end
end Go.Proofs.Ytngbihfihdheoaa

/-
  TYPES: full.
-/
set_option linter.unusedVariables false
set_option pp.maxSteps 400
namespace Go.Proofs.Ytngbihfihdheoaa
open Go Go.Aw
section
variable {st : St} {R : Res → St → Prop}
attribute [local irreducible] Go.Aw.appendTo
theorem full_c {d : Int} {A : Sta → Rs} (hr : Reads0 39 d (rowP A)) (ha : ReadsN 45 d (arrowsP A)) (hw : Reads0 28 d (wholeP A)) (hF : Falls A) : Reads0 34 d (fullP A) := by
  intro s hm b st R hs h
  refine pcalls_of_body tys_ok [] Try.func34 rfl (by decide) ?_
  unfold fullP at h
  have hm1 : ∀ {n1 s1}, rowP A s = .inr (n1, s1) → mu s1 ≤ 100000000 := fun e => by have := falls_row hF _ _ _ e; omega
  have hm2 : ∀ {n1 s1}, rowP A s = .inr (n1, s1) → isF s1 10 [61, 62] = true → mu (nextM s1).2.1 ≤ 100000000 := fun e i => by have := hm1 e; have := isF_mu i (by decide) (by decide); omega
  repeat' (conv => whnf
           first
             | with_reducible exact quiet_same
             | with_reducible exact quiet_bool
             | with_reducible exact quiet_not
             | with_reducible refine draw_step (by kernel_rfl) ?_
             | with_reducible refine quiet_go ?_ ?_ ?_
             | with_reducible refine bcase_yes (by first | assumption | omega) ?_
             | with_reducible refine bcase_no (by first | assumption | omega) ?_
             | with_reducible refine bcase_dyes (by omega) ?_
             | with_reducible refine bcase_dno (by omega) ?_
             | with_reducible refine bcase_len (by decide) (fun _ => ?_) (fun _ => ?_)
             | with_reducible refine bcase_eq (fun _ => ?_) (fun _ => ?_)
             | with_reducible refine bcase_dec (fun _ => ?_) (fun _ => ?_)
             | with_reducible refine bcase_true ?_
             | with_reducible refine bcase_false ?_
             | with_reducible refine bcase_intro (fun _ => ?_) (fun _ => ?_)
             | with_reducible refine len_kids (fun _ => ?_)
             | with_reducible refine at_known (by assumption) (by omega) ?_
             | with_reducible refine at_kid (by omega) (by omega) (fun _ _ _ => ?_)
             | with_reducible refine tail_kids (by omega) (by omega) ?_
             | with_reducible refine slice_kids (by omega) (by omega) (by omega) ?_
             | with_reducible refine ex_wrap (by omega) (by omega) ?_
             | with_reducible refine quo_step (by decide) (by omega) (by omega) ?_
             | with_reducible refine rem_step (by decide) ?_
             | with_reducible refine nil_row (fun _ => ?_) ?_
             | with_reducible refine nil_row2 (fun _ => ?_) ?_
             | with_reducible refine len_toks (fun _ => ?_)
             | with_reducible refine len_ints (fun _ => ?_)
             | with_reducible refine tok_known (by assumption) (by omega) ?_
             | with_reducible refine at_tok (by omega) (by omega) (fun _ _ => ?_)
             | with_reducible refine at_int (by omega) (by omega) (fun _ _ => ?_)
             | with_reducible refine slice_ints (by omega) (by omega) (by omega) ?_
             | refine hr s hm b _ _ hs (tells_of (fun n1 s1 hq1 st1 h1 => ?_) (fun e1 s1 hq1 st1 h1 => ?_))
             | refine is_c h1.1 (opn_le (hm1 hq1)) ?_
             | refine ha n1 s1 (hm1 hq1) b _ _ look_has (tells_of (fun n2 s2 hq2 st2 h2 => ?_) (fun e2 s2 hq2 st2 h2 => ?_))
             | refine draw_mix [(0, true), (1, true), (3, true), (4, true), (2, false), (5, false), (6, true), (7, true), (8, false)] [0] (by kernel_rfl) ?_
             | refine take_r look_has (opn_le (hm1 hq1)) (tells_r (take_is (by assumption) (by decide)) (fun st2 h2 => ?_))
             | refine hw (nextM s1).2.1 (hm2 hq1 (by assumption)) b _ _ h2.1 (tells_of (fun n3 s3 hq3 st3 h3 => ?_) (fun e3 s3 hq3 st3 h3 => ?_))
             | with_reducible refine draw_head ?_)
  all_goals rw [hq1] at h
  all_goals dsimp only at h
  · rw [if_pos (by assumption), hq3] at h
    exact finl (St.le_refl _) (fin_node (l := [n1, leafT (nextM s1).1, n3])) (h st3 ((h1.trans upd_look).trans (h2.trans h3)))
  · rw [if_pos (by assumption), hq3] at h
    intro e'
    exact fin (h st3 ((h1.trans upd_look).trans (h2.trans h3))) rfl
  · rw [if_neg (Bool.eq_false_iff.1 (by assumption)), hq2] at h
    exact finw rfl (h st2 ((h1.trans upd_look).trans h2))
  · rw [if_neg (Bool.eq_false_iff.1 (by assumption)), hq2] at h
    exact fin (h st2 ((h1.trans upd_look).trans h2)) rfl
  · exact fin (h st1 h1) rfl

theorem full_all {d : Nat} (hd : d + 1 ≤ 1000000) (h : Calls3 11 (d : Int) (typeP d)) : Reads0 34 ((d + 1 : Nat) : Int) (fullP (atomP (typeP d))) :=
  full_c (row_all hd h) (arrows_c (row_all hd h) (falls_atom (falls_type d))) (whole_all hd h) (falls_atom (falls_type d))
theorem fullX {deep : Int} : Calls3 14 deep (fullP (atomP (typeP (depF deep - 1)))) := fullX_c fun h => by
  rw [dep_eq h]
  have := dep_le deep
  exact full_all (by omega) (type_all _ (by omega))
end
end Go.Proofs.Ytngbihfihdheoaa

/-
  LAWS OF THE TYPES: trees, states and tokens that are the same; sizes; a token.
-/
set_option linter.unusedVariables false
set_option pp.maxSteps 400
namespace Go.Aw
theorem next_nb {env env' : Env} {st : St} {i : Nat} {keep kb : List Nat} {m k : Nat} {J : Nat → Prop} (h : J (k + 1)) (hk : k < m)
    (he : (env.atb [(i, .int .i64 ((k + 1 : Nat) : Int))] keep kb).leC env') : ∃ y, J y ∧ m - y < m - k ∧ (env.atb [(i, .int .i64 (y : Int))] keep kb).leC env' ∧ St.le st st :=
  ⟨k + 1, h, by omega, he, St.le_refl _⟩
theorem bcase_t {b : Bool} {p q : Prop} (h : b = true) (k : p) : bcase b p q := bcase_intro (fun _ => k) (fun e => by rw [h] at e; cases e)
theorem bcase_f {b : Bool} {p q : Prop} (h : b = false) (k : q) : bcase b p q := bcase_intro (fun e => by rw [h] at e; cases e) (fun _ => k)
theorem bcase_tok {k l c : Int} {t : List UInt8} {p q : Prop} (h : p) : bcase (k == k && (t == t && (l == l && (c == c && true)))) p q := bcase_t (by simp) h
theorem bcase_tokn {k l c : Int} {t : List UInt8} {p q : Prop} (h : q) : bcase (!(k == k && (t == t && (l == l && (c == c && true))))) p q := bcase_f (by simp) h
theorem int_known {l : List Int} {i : Int} {x : Int} {K : List V → Prop} (h : l[i.toNat]? = some x) (h0 : 0 ≤ i) (k : K [.int .i64 x]) : 0 ≤ i ∧ ∃ e, (ints l)[i.toNat]? = some e ∧ K e := ⟨h0, _, by simp [ints, h], k⟩
end Go.Aw
namespace Go.Proofs.Ytngbihfihdheoaa
open Go Go.Aw
section
variable {st : St} {R : Res → St → Prop}
attribute [local irreducible] Go.Aw.appendTo
theorem sameall_c : ∀ (m : Nat) {n : Nd} {st : St} {R : Res → St → Prop}, n.size ≤ m → R (.ret (.bool true)) st → PC 16 [enc n, enc n] st R := by
  intro m
  induction m with
  | zero => intro n st R hm h; cases n; rw [Nd.size] at hm; omega
  | succ m ih =>
    intro n st R hm h
    refine pcalls_of_body tys_ok [] Try.func16 rfl (by decide) ?_
    repeat' (conv => whnf
             first
               | with_reducible refine bcase_yes rfl ?_
               | with_reducible refine bcase_tok ?_
               | with_reducible refine bcase_tokn ?_
               | with_reducible refine int_known (by assumption) (by omega) ?_
               | with_reducible exact quiet_same
               | with_reducible exact quiet_bool
               | with_reducible exact quiet_not
               | with_reducible refine draw_step (by kernel_rfl) ?_
               | with_reducible refine quiet_go ?_ ?_ ?_
               | with_reducible refine bcase_yes (by first | assumption | omega) ?_
               | with_reducible refine bcase_no (by first | assumption | omega) ?_
               | with_reducible refine bcase_dyes (by omega) ?_
               | with_reducible refine bcase_dno (by omega) ?_
               | with_reducible refine bcase_len (by decide) (fun _ => ?_) (fun _ => ?_)
               | with_reducible refine bcase_eq (fun _ => ?_) (fun _ => ?_)
               | with_reducible refine bcase_dec (fun _ => ?_) (fun _ => ?_)
               | with_reducible refine bcase_true ?_
               | with_reducible refine bcase_false ?_
               | with_reducible refine bcase_intro (fun _ => ?_) (fun _ => ?_)
               | with_reducible refine len_kids (fun _ => ?_)
               | with_reducible refine at_known (by assumption) (by omega) ?_
               | with_reducible refine at_kid (by omega) (by omega) (fun _ _ _ => ?_)
               | with_reducible refine tail_kids (by omega) (by omega) ?_
               | with_reducible refine slice_kids (by omega) (by omega) (by omega) ?_
               | with_reducible refine ex_wrap (by omega) (by omega) ?_
               | with_reducible refine quo_step (by decide) (by omega) (by omega) ?_
               | with_reducible refine rem_step (by decide) ?_
               | with_reducible refine nil_row (fun _ => ?_) ?_
               | with_reducible refine nil_row2 (fun _ => ?_) ?_
               | with_reducible refine len_toks (fun _ => ?_)
               | with_reducible refine len_ints (fun _ => ?_)
               | with_reducible refine tok_known (by assumption) (by omega) ?_
               | with_reducible refine at_tok (by omega) (by omega) (fun _ _ => ?_)
               | with_reducible refine at_int (by omega) (by omega) (fun _ _ => ?_)
               | with_reducible refine slice_ints (by omega) (by omega) (by omega) ?_
               | with_reducible refine draw_head ?_)
    refine loop_nb 5 [2, 3] [0, 1] n.kids.length (fun k => k ≤ n.kids.length) (Nat.zero_le _) (by refine ⟨rfl, ?_, ?_, rfl⟩ <;> repeat' (first | exact trivial | exact rfl | refine And.intro ?_ ?_)) ?_
    intro k hk
    by_cases hlt : k < n.kids.length
    · obtain ⟨x, hx⟩ : ∃ x, n.kids[(k : Int).toNat]? = some x := ⟨_, List.getElem?_eq_getElem hlt⟩
      have hxm : x ∈ n.kids := List.mem_of_getElem? hx
      have hxs := size_kid hxm
      repeat' (conv => whnf
               first
                 | with_reducible refine bcase_yes rfl ?_
                 | with_reducible refine bcase_tok ?_
                 | with_reducible refine bcase_tokn ?_
                 | with_reducible refine int_known (by assumption) (by omega) ?_
                 | with_reducible exact quiet_same
                 | with_reducible exact quiet_bool
                 | with_reducible exact quiet_not
                 | with_reducible refine draw_step (by kernel_rfl) ?_
                 | with_reducible refine quiet_go ?_ ?_ ?_
                 | with_reducible refine bcase_yes (by first | assumption | omega) ?_
                 | with_reducible refine bcase_no (by first | assumption | omega) ?_
                 | with_reducible refine bcase_dyes (by omega) ?_
                 | with_reducible refine bcase_dno (by omega) ?_
                 | with_reducible refine bcase_len (by decide) (fun _ => ?_) (fun _ => ?_)
                 | with_reducible refine bcase_eq (fun _ => ?_) (fun _ => ?_)
                 | with_reducible refine bcase_dec (fun _ => ?_) (fun _ => ?_)
                 | with_reducible refine bcase_true ?_
                 | with_reducible refine bcase_false ?_
                 | with_reducible refine bcase_intro (fun _ => ?_) (fun _ => ?_)
                 | with_reducible refine len_kids (fun _ => ?_)
                 | with_reducible refine at_known (by assumption) (by omega) ?_
                 | with_reducible refine at_kid (by omega) (by omega) (fun _ _ _ => ?_)
                 | with_reducible refine tail_kids (by omega) (by omega) ?_
                 | with_reducible refine slice_kids (by omega) (by omega) (by omega) ?_
                 | with_reducible refine ex_wrap (by omega) (by omega) ?_
                 | with_reducible refine quo_step (by decide) (by omega) (by omega) ?_
                 | with_reducible refine rem_step (by decide) ?_
                 | with_reducible refine nil_row (fun _ => ?_) ?_
                 | with_reducible refine nil_row2 (fun _ => ?_) ?_
                 | with_reducible refine len_toks (fun _ => ?_)
                 | with_reducible refine len_ints (fun _ => ?_)
                 | with_reducible refine tok_known (by assumption) (by omega) ?_
                 | with_reducible refine at_tok (by omega) (by omega) (fun _ _ => ?_)
                 | with_reducible refine at_int (by omega) (by omega) (fun _ _ => ?_)
                 | with_reducible refine slice_ints (by omega) (by omega) (by omega) ?_
                 | refine ih (n := x) (by omega) ?_
                 | with_reducible refine draw_head ?_)
      all_goals conv => whnf
      all_goals exact ⟨k + 1, hlt, Nat.sub_lt_sub_left hlt (Nat.lt_succ_self k), (by refine ⟨rfl, ?_, ?_, rfl⟩ <;> repeat' (first | exact trivial | exact rfl | refine And.intro ?_ ?_)), St.le_refl _⟩
    · skip
      repeat' (conv => whnf
               first
                 | with_reducible refine bcase_yes rfl ?_
                 | with_reducible refine bcase_tok ?_
                 | with_reducible refine bcase_tokn ?_
                 | with_reducible refine int_known (by assumption) (by omega) ?_
                 | with_reducible exact quiet_same
                 | with_reducible exact quiet_bool
                 | with_reducible exact quiet_not
                 | with_reducible refine draw_step (by kernel_rfl) ?_
                 | with_reducible refine quiet_go ?_ ?_ ?_
                 | with_reducible refine bcase_yes (by first | assumption | omega) ?_
                 | with_reducible refine bcase_no (by first | assumption | omega) ?_
                 | with_reducible refine bcase_dyes (by omega) ?_
                 | with_reducible refine bcase_dno (by omega) ?_
                 | with_reducible refine bcase_len (by decide) (fun _ => ?_) (fun _ => ?_)
                 | with_reducible refine bcase_eq (fun _ => ?_) (fun _ => ?_)
                 | with_reducible refine bcase_dec (fun _ => ?_) (fun _ => ?_)
                 | with_reducible refine bcase_true ?_
                 | with_reducible refine bcase_false ?_
                 | with_reducible refine bcase_intro (fun _ => ?_) (fun _ => ?_)
                 | with_reducible refine len_kids (fun _ => ?_)
                 | with_reducible refine at_known (by assumption) (by omega) ?_
                 | with_reducible refine at_kid (by omega) (by omega) (fun _ _ _ => ?_)
                 | with_reducible refine tail_kids (by omega) (by omega) ?_
                 | with_reducible refine slice_kids (by omega) (by omega) (by omega) ?_
                 | with_reducible refine ex_wrap (by omega) (by omega) ?_
                 | with_reducible refine quo_step (by decide) (by omega) (by omega) ?_
                 | with_reducible refine rem_step (by decide) ?_
                 | with_reducible refine nil_row (fun _ => ?_) ?_
                 | with_reducible refine nil_row2 (fun _ => ?_) ?_
                 | with_reducible refine len_toks (fun _ => ?_)
                 | with_reducible refine len_ints (fun _ => ?_)
                 | with_reducible refine tok_known (by assumption) (by omega) ?_
                 | with_reducible refine at_tok (by omega) (by omega) (fun _ _ => ?_)
                 | with_reducible refine at_int (by omega) (by omega) (fun _ _ => ?_)
                 | with_reducible refine slice_ints (by omega) (by omega) (by omega) ?_
                 | with_reducible refine draw_head ?_)
      all_goals exact fin h rfl
theorem samestate_c {s : Sta} (h : R (.ret (.bool true)) st) : PC 17 [encS s, encS s] st R := by
  refine pcalls_of_body tys_ok [] Try.func17 rfl (by decide) ?_
  repeat' (conv => whnf
           first
             | with_reducible refine bcase_yes rfl ?_
             | with_reducible refine bcase_tok ?_
             | with_reducible refine bcase_tokn ?_
             | with_reducible refine int_known (by assumption) (by omega) ?_
             | with_reducible exact quiet_same
             | with_reducible exact quiet_bool
             | with_reducible exact quiet_not
             | with_reducible refine draw_step (by kernel_rfl) ?_
             | with_reducible refine quiet_go ?_ ?_ ?_
             | with_reducible refine bcase_yes (by first | assumption | omega) ?_
             | with_reducible refine bcase_no (by first | assumption | omega) ?_
             | with_reducible refine bcase_dyes (by omega) ?_
             | with_reducible refine bcase_dno (by omega) ?_
             | with_reducible refine bcase_len (by decide) (fun _ => ?_) (fun _ => ?_)
             | with_reducible refine bcase_eq (fun _ => ?_) (fun _ => ?_)
             | with_reducible refine bcase_dec (fun _ => ?_) (fun _ => ?_)
             | with_reducible refine bcase_true ?_
             | with_reducible refine bcase_false ?_
             | with_reducible refine bcase_intro (fun _ => ?_) (fun _ => ?_)
             | with_reducible refine len_kids (fun _ => ?_)
             | with_reducible refine at_known (by assumption) (by omega) ?_
             | with_reducible refine at_kid (by omega) (by omega) (fun _ _ _ => ?_)
             | with_reducible refine tail_kids (by omega) (by omega) ?_
             | with_reducible refine slice_kids (by omega) (by omega) (by omega) ?_
             | with_reducible refine ex_wrap (by omega) (by omega) ?_
             | with_reducible refine quo_step (by decide) (by omega) (by omega) ?_
             | with_reducible refine rem_step (by decide) ?_
             | with_reducible refine nil_row (fun _ => ?_) ?_
             | with_reducible refine nil_row2 (fun _ => ?_) ?_
             | with_reducible refine len_toks (fun _ => ?_)
             | with_reducible refine len_ints (fun _ => ?_)
             | with_reducible refine tok_known (by assumption) (by omega) ?_
             | with_reducible refine at_tok (by omega) (by omega) (fun _ _ => ?_)
             | with_reducible refine at_int (by omega) (by omega) (fun _ _ => ?_)
             | with_reducible refine slice_ints (by omega) (by omega) (by omega) ?_
             | with_reducible refine draw_head ?_)
  refine loop_nb 5 [2, 3] [0, 1] s.toks.length (fun k => k ≤ s.toks.length) (Nat.zero_le _) (by refine ⟨rfl, ?_, ?_, rfl⟩ <;> repeat' (first | exact trivial | exact rfl | refine And.intro ?_ ?_)) ?_
  intro k hk
  by_cases hlt : k < s.toks.length
  · obtain ⟨x, hx⟩ : ∃ x, s.toks[(k : Int).toNat]? = some x := ⟨_, List.getElem?_eq_getElem hlt⟩
    repeat' (conv => whnf
             first
               | with_reducible refine bcase_yes rfl ?_
               | with_reducible refine bcase_tok ?_
               | with_reducible refine bcase_tokn ?_
               | with_reducible refine int_known (by assumption) (by omega) ?_
               | with_reducible exact quiet_same
               | with_reducible exact quiet_bool
               | with_reducible exact quiet_not
               | with_reducible refine draw_step (by kernel_rfl) ?_
               | with_reducible refine quiet_go ?_ ?_ ?_
               | with_reducible refine bcase_yes (by first | assumption | omega) ?_
               | with_reducible refine bcase_no (by first | assumption | omega) ?_
               | with_reducible refine bcase_dyes (by omega) ?_
               | with_reducible refine bcase_dno (by omega) ?_
               | with_reducible refine bcase_len (by decide) (fun _ => ?_) (fun _ => ?_)
               | with_reducible refine bcase_eq (fun _ => ?_) (fun _ => ?_)
               | with_reducible refine bcase_dec (fun _ => ?_) (fun _ => ?_)
               | with_reducible refine bcase_true ?_
               | with_reducible refine bcase_false ?_
               | with_reducible refine bcase_intro (fun _ => ?_) (fun _ => ?_)
               | with_reducible refine len_kids (fun _ => ?_)
               | with_reducible refine at_known (by assumption) (by omega) ?_
               | with_reducible refine at_kid (by omega) (by omega) (fun _ _ _ => ?_)
               | with_reducible refine tail_kids (by omega) (by omega) ?_
               | with_reducible refine slice_kids (by omega) (by omega) (by omega) ?_
               | with_reducible refine ex_wrap (by omega) (by omega) ?_
               | with_reducible refine quo_step (by decide) (by omega) (by omega) ?_
               | with_reducible refine rem_step (by decide) ?_
               | with_reducible refine nil_row (fun _ => ?_) ?_
               | with_reducible refine nil_row2 (fun _ => ?_) ?_
               | with_reducible refine len_toks (fun _ => ?_)
               | with_reducible refine len_ints (fun _ => ?_)
               | with_reducible refine tok_known (by assumption) (by omega) ?_
               | with_reducible refine at_tok (by omega) (by omega) (fun _ _ => ?_)
               | with_reducible refine at_int (by omega) (by omega) (fun _ _ => ?_)
               | with_reducible refine slice_ints (by omega) (by omega) (by omega) ?_
               | with_reducible refine draw_head ?_)
    all_goals conv => whnf
    all_goals exact ⟨k + 1, hlt, Nat.sub_lt_sub_left hlt (Nat.lt_succ_self k), (by refine ⟨rfl, ?_, ?_, rfl⟩ <;> repeat' (first | exact trivial | exact rfl | refine And.intro ?_ ?_)), St.le_refl _⟩
  · skip
    repeat' (conv => whnf
             first
               | with_reducible refine bcase_yes rfl ?_
               | with_reducible refine bcase_tok ?_
               | with_reducible refine bcase_tokn ?_
               | with_reducible refine int_known (by assumption) (by omega) ?_
               | with_reducible exact quiet_same
               | with_reducible exact quiet_bool
               | with_reducible exact quiet_not
               | with_reducible refine draw_step (by kernel_rfl) ?_
               | with_reducible refine quiet_go ?_ ?_ ?_
               | with_reducible refine bcase_yes (by first | assumption | omega) ?_
               | with_reducible refine bcase_no (by first | assumption | omega) ?_
               | with_reducible refine bcase_dyes (by omega) ?_
               | with_reducible refine bcase_dno (by omega) ?_
               | with_reducible refine bcase_len (by decide) (fun _ => ?_) (fun _ => ?_)
               | with_reducible refine bcase_eq (fun _ => ?_) (fun _ => ?_)
               | with_reducible refine bcase_dec (fun _ => ?_) (fun _ => ?_)
               | with_reducible refine bcase_true ?_
               | with_reducible refine bcase_false ?_
               | with_reducible refine bcase_intro (fun _ => ?_) (fun _ => ?_)
               | with_reducible refine len_kids (fun _ => ?_)
               | with_reducible refine at_known (by assumption) (by omega) ?_
               | with_reducible refine at_kid (by omega) (by omega) (fun _ _ _ => ?_)
               | with_reducible refine tail_kids (by omega) (by omega) ?_
               | with_reducible refine slice_kids (by omega) (by omega) (by omega) ?_
               | with_reducible refine ex_wrap (by omega) (by omega) ?_
               | with_reducible refine quo_step (by decide) (by omega) (by omega) ?_
               | with_reducible refine rem_step (by decide) ?_
               | with_reducible refine nil_row (fun _ => ?_) ?_
               | with_reducible refine nil_row2 (fun _ => ?_) ?_
               | with_reducible refine len_toks (fun _ => ?_)
               | with_reducible refine len_ints (fun _ => ?_)
               | with_reducible refine tok_known (by assumption) (by omega) ?_
               | with_reducible refine at_tok (by omega) (by omega) (fun _ _ => ?_)
               | with_reducible refine at_int (by omega) (by omega) (fun _ _ => ?_)
               | with_reducible refine slice_ints (by omega) (by omega) (by omega) ?_
               | with_reducible refine draw_head ?_)
    refine loop_nb 6 [2, 3] [0, 1] s.opn.length (fun k => k ≤ s.opn.length) (Nat.zero_le _) (by refine ⟨rfl, ?_, ?_, rfl⟩ <;> repeat' (first | exact trivial | exact rfl | refine And.intro ?_ ?_)) ?_
    intro k hk
    by_cases hlt : k < s.opn.length
    · obtain ⟨x, hx⟩ : ∃ x, s.opn[(k : Int).toNat]? = some x := ⟨_, List.getElem?_eq_getElem hlt⟩
      repeat' (conv => whnf
               first
                 | with_reducible refine bcase_yes rfl ?_
                 | with_reducible refine bcase_tok ?_
                 | with_reducible refine bcase_tokn ?_
                 | with_reducible refine int_known (by assumption) (by omega) ?_
                 | with_reducible exact quiet_same
                 | with_reducible exact quiet_bool
                 | with_reducible exact quiet_not
                 | with_reducible refine draw_step (by kernel_rfl) ?_
                 | with_reducible refine quiet_go ?_ ?_ ?_
                 | with_reducible refine bcase_yes (by first | assumption | omega) ?_
                 | with_reducible refine bcase_no (by first | assumption | omega) ?_
                 | with_reducible refine bcase_dyes (by omega) ?_
                 | with_reducible refine bcase_dno (by omega) ?_
                 | with_reducible refine bcase_len (by decide) (fun _ => ?_) (fun _ => ?_)
                 | with_reducible refine bcase_eq (fun _ => ?_) (fun _ => ?_)
                 | with_reducible refine bcase_dec (fun _ => ?_) (fun _ => ?_)
                 | with_reducible refine bcase_true ?_
                 | with_reducible refine bcase_false ?_
                 | with_reducible refine bcase_intro (fun _ => ?_) (fun _ => ?_)
                 | with_reducible refine len_kids (fun _ => ?_)
                 | with_reducible refine at_known (by assumption) (by omega) ?_
                 | with_reducible refine at_kid (by omega) (by omega) (fun _ _ _ => ?_)
                 | with_reducible refine tail_kids (by omega) (by omega) ?_
                 | with_reducible refine slice_kids (by omega) (by omega) (by omega) ?_
                 | with_reducible refine ex_wrap (by omega) (by omega) ?_
                 | with_reducible refine quo_step (by decide) (by omega) (by omega) ?_
                 | with_reducible refine rem_step (by decide) ?_
                 | with_reducible refine nil_row (fun _ => ?_) ?_
                 | with_reducible refine nil_row2 (fun _ => ?_) ?_
                 | with_reducible refine len_toks (fun _ => ?_)
                 | with_reducible refine len_ints (fun _ => ?_)
                 | with_reducible refine tok_known (by assumption) (by omega) ?_
                 | with_reducible refine at_tok (by omega) (by omega) (fun _ _ => ?_)
                 | with_reducible refine at_int (by omega) (by omega) (fun _ _ => ?_)
                 | with_reducible refine slice_ints (by omega) (by omega) (by omega) ?_
                 | with_reducible refine draw_head ?_)
      all_goals conv => whnf
      all_goals exact ⟨k + 1, hlt, Nat.sub_lt_sub_left hlt (Nat.lt_succ_self k), (by refine ⟨rfl, ?_, ?_, rfl⟩ <;> repeat' (first | exact trivial | exact rfl | refine And.intro ?_ ?_)), St.le_refl _⟩
    · skip
      repeat' (conv => whnf
               first
                 | with_reducible refine bcase_yes rfl ?_
                 | with_reducible refine bcase_tok ?_
                 | with_reducible refine bcase_tokn ?_
                 | with_reducible refine int_known (by assumption) (by omega) ?_
                 | with_reducible exact quiet_same
                 | with_reducible exact quiet_bool
                 | with_reducible exact quiet_not
                 | with_reducible refine draw_step (by kernel_rfl) ?_
                 | with_reducible refine quiet_go ?_ ?_ ?_
                 | with_reducible refine bcase_yes (by first | assumption | omega) ?_
                 | with_reducible refine bcase_no (by first | assumption | omega) ?_
                 | with_reducible refine bcase_dyes (by omega) ?_
                 | with_reducible refine bcase_dno (by omega) ?_
                 | with_reducible refine bcase_len (by decide) (fun _ => ?_) (fun _ => ?_)
                 | with_reducible refine bcase_eq (fun _ => ?_) (fun _ => ?_)
                 | with_reducible refine bcase_dec (fun _ => ?_) (fun _ => ?_)
                 | with_reducible refine bcase_true ?_
                 | with_reducible refine bcase_false ?_
                 | with_reducible refine bcase_intro (fun _ => ?_) (fun _ => ?_)
                 | with_reducible refine len_kids (fun _ => ?_)
                 | with_reducible refine at_known (by assumption) (by omega) ?_
                 | with_reducible refine at_kid (by omega) (by omega) (fun _ _ _ => ?_)
                 | with_reducible refine tail_kids (by omega) (by omega) ?_
                 | with_reducible refine slice_kids (by omega) (by omega) (by omega) ?_
                 | with_reducible refine ex_wrap (by omega) (by omega) ?_
                 | with_reducible refine quo_step (by decide) (by omega) (by omega) ?_
                 | with_reducible refine rem_step (by decide) ?_
                 | with_reducible refine nil_row (fun _ => ?_) ?_
                 | with_reducible refine nil_row2 (fun _ => ?_) ?_
                 | with_reducible refine len_toks (fun _ => ?_)
                 | with_reducible refine len_ints (fun _ => ?_)
                 | with_reducible refine tok_known (by assumption) (by omega) ?_
                 | with_reducible refine at_tok (by omega) (by omega) (fun _ _ => ?_)
                 | with_reducible refine at_int (by omega) (by omega) (fun _ _ => ?_)
                 | with_reducible refine slice_ints (by omega) (by omega) (by omega) ?_
                 | with_reducible refine draw_head ?_)
      all_goals exact fin h rfl
theorem samelist_c {l : List Tk} {o1 o2 : Own} (h : R (.ret (.bool true)) st) : PC 24 [.slice 4 (encTs l) o1, .slice 4 (encTs l) o2] st R := by
  refine pcalls_of_body tys_ok [] Try.func24 rfl (by decide) ?_
  repeat' (conv => whnf
           first
             | with_reducible refine bcase_yes rfl ?_
             | with_reducible refine bcase_tok ?_
             | with_reducible refine bcase_tokn ?_
             | with_reducible refine int_known (by assumption) (by omega) ?_
             | with_reducible exact quiet_same
             | with_reducible exact quiet_bool
             | with_reducible exact quiet_not
             | with_reducible refine draw_step (by kernel_rfl) ?_
             | with_reducible refine quiet_go ?_ ?_ ?_
             | with_reducible refine bcase_yes (by first | assumption | omega) ?_
             | with_reducible refine bcase_no (by first | assumption | omega) ?_
             | with_reducible refine bcase_dyes (by omega) ?_
             | with_reducible refine bcase_dno (by omega) ?_
             | with_reducible refine bcase_len (by decide) (fun _ => ?_) (fun _ => ?_)
             | with_reducible refine bcase_eq (fun _ => ?_) (fun _ => ?_)
             | with_reducible refine bcase_dec (fun _ => ?_) (fun _ => ?_)
             | with_reducible refine bcase_true ?_
             | with_reducible refine bcase_false ?_
             | with_reducible refine bcase_intro (fun _ => ?_) (fun _ => ?_)
             | with_reducible refine len_kids (fun _ => ?_)
             | with_reducible refine at_known (by assumption) (by omega) ?_
             | with_reducible refine at_kid (by omega) (by omega) (fun _ _ _ => ?_)
             | with_reducible refine tail_kids (by omega) (by omega) ?_
             | with_reducible refine slice_kids (by omega) (by omega) (by omega) ?_
             | with_reducible refine ex_wrap (by omega) (by omega) ?_
             | with_reducible refine quo_step (by decide) (by omega) (by omega) ?_
             | with_reducible refine rem_step (by decide) ?_
             | with_reducible refine nil_row (fun _ => ?_) ?_
             | with_reducible refine nil_row2 (fun _ => ?_) ?_
             | with_reducible refine len_toks (fun _ => ?_)
             | with_reducible refine len_ints (fun _ => ?_)
             | with_reducible refine tok_known (by assumption) (by omega) ?_
             | with_reducible refine at_tok (by omega) (by omega) (fun _ _ => ?_)
             | with_reducible refine at_int (by omega) (by omega) (fun _ _ => ?_)
             | with_reducible refine slice_ints (by omega) (by omega) (by omega) ?_
             | with_reducible refine draw_head ?_)
  refine loop_nb 5 [0, 1] [] l.length (fun k => k ≤ l.length) (Nat.zero_le _) (by refine ⟨rfl, ?_, ?_, rfl⟩ <;> repeat' (first | exact trivial | exact rfl | refine And.intro ?_ ?_)) ?_
  intro k hk
  by_cases hlt : k < l.length
  · obtain ⟨x, hx⟩ : ∃ x, l[(k : Int).toNat]? = some x := ⟨_, List.getElem?_eq_getElem hlt⟩
    repeat' (conv => whnf
             first
               | with_reducible refine bcase_yes rfl ?_
               | with_reducible refine bcase_tok ?_
               | with_reducible refine bcase_tokn ?_
               | with_reducible refine int_known (by assumption) (by omega) ?_
               | with_reducible exact quiet_same
               | with_reducible exact quiet_bool
               | with_reducible exact quiet_not
               | with_reducible refine draw_step (by kernel_rfl) ?_
               | with_reducible refine quiet_go ?_ ?_ ?_
               | with_reducible refine bcase_yes (by first | assumption | omega) ?_
               | with_reducible refine bcase_no (by first | assumption | omega) ?_
               | with_reducible refine bcase_dyes (by omega) ?_
               | with_reducible refine bcase_dno (by omega) ?_
               | with_reducible refine bcase_len (by decide) (fun _ => ?_) (fun _ => ?_)
               | with_reducible refine bcase_eq (fun _ => ?_) (fun _ => ?_)
               | with_reducible refine bcase_dec (fun _ => ?_) (fun _ => ?_)
               | with_reducible refine bcase_true ?_
               | with_reducible refine bcase_false ?_
               | with_reducible refine bcase_intro (fun _ => ?_) (fun _ => ?_)
               | with_reducible refine len_kids (fun _ => ?_)
               | with_reducible refine at_known (by assumption) (by omega) ?_
               | with_reducible refine at_kid (by omega) (by omega) (fun _ _ _ => ?_)
               | with_reducible refine tail_kids (by omega) (by omega) ?_
               | with_reducible refine slice_kids (by omega) (by omega) (by omega) ?_
               | with_reducible refine ex_wrap (by omega) (by omega) ?_
               | with_reducible refine quo_step (by decide) (by omega) (by omega) ?_
               | with_reducible refine rem_step (by decide) ?_
               | with_reducible refine nil_row (fun _ => ?_) ?_
               | with_reducible refine nil_row2 (fun _ => ?_) ?_
               | with_reducible refine len_toks (fun _ => ?_)
               | with_reducible refine len_ints (fun _ => ?_)
               | with_reducible refine tok_known (by assumption) (by omega) ?_
               | with_reducible refine at_tok (by omega) (by omega) (fun _ _ => ?_)
               | with_reducible refine at_int (by omega) (by omega) (fun _ _ => ?_)
               | with_reducible refine slice_ints (by omega) (by omega) (by omega) ?_
               | with_reducible refine draw_head ?_)
    all_goals conv => whnf
    all_goals exact ⟨k + 1, hlt, Nat.sub_lt_sub_left hlt (Nat.lt_succ_self k), (by refine ⟨rfl, ?_, ?_, rfl⟩ <;> repeat' (first | exact trivial | exact rfl | refine And.intro ?_ ?_)), St.le_refl _⟩
  · skip
    repeat' (conv => whnf
             first
               | with_reducible refine bcase_yes rfl ?_
               | with_reducible refine bcase_tok ?_
               | with_reducible refine bcase_tokn ?_
               | with_reducible refine int_known (by assumption) (by omega) ?_
               | with_reducible exact quiet_same
               | with_reducible exact quiet_bool
               | with_reducible exact quiet_not
               | with_reducible refine draw_step (by kernel_rfl) ?_
               | with_reducible refine quiet_go ?_ ?_ ?_
               | with_reducible refine bcase_yes (by first | assumption | omega) ?_
               | with_reducible refine bcase_no (by first | assumption | omega) ?_
               | with_reducible refine bcase_dyes (by omega) ?_
               | with_reducible refine bcase_dno (by omega) ?_
               | with_reducible refine bcase_len (by decide) (fun _ => ?_) (fun _ => ?_)
               | with_reducible refine bcase_eq (fun _ => ?_) (fun _ => ?_)
               | with_reducible refine bcase_dec (fun _ => ?_) (fun _ => ?_)
               | with_reducible refine bcase_true ?_
               | with_reducible refine bcase_false ?_
               | with_reducible refine bcase_intro (fun _ => ?_) (fun _ => ?_)
               | with_reducible refine len_kids (fun _ => ?_)
               | with_reducible refine at_known (by assumption) (by omega) ?_
               | with_reducible refine at_kid (by omega) (by omega) (fun _ _ _ => ?_)
               | with_reducible refine tail_kids (by omega) (by omega) ?_
               | with_reducible refine slice_kids (by omega) (by omega) (by omega) ?_
               | with_reducible refine ex_wrap (by omega) (by omega) ?_
               | with_reducible refine quo_step (by decide) (by omega) (by omega) ?_
               | with_reducible refine rem_step (by decide) ?_
               | with_reducible refine nil_row (fun _ => ?_) ?_
               | with_reducible refine nil_row2 (fun _ => ?_) ?_
               | with_reducible refine len_toks (fun _ => ?_)
               | with_reducible refine len_ints (fun _ => ?_)
               | with_reducible refine tok_known (by assumption) (by omega) ?_
               | with_reducible refine at_tok (by omega) (by omega) (fun _ _ => ?_)
               | with_reducible refine at_int (by omega) (by omega) (fun _ _ => ?_)
               | with_reducible refine slice_ints (by omega) (by omega) (by omega) ?_
               | with_reducible refine draw_head ?_)
    all_goals exact fin h rfl
theorem word_c {k : Int} {x : List UInt8} (h : R (.ret (encT ⟨k, x, 0, 0⟩)) st) : PC 26 [.int .i64 k, .str x] st R := by
  refine pcalls_of_body tys_ok [] Try.func26 rfl (by decide) ?_
  repeat' (conv => whnf
           first
             | with_reducible refine bcase_yes rfl ?_
             | with_reducible refine bcase_tok ?_
             | with_reducible refine bcase_tokn ?_
             | with_reducible refine int_known (by assumption) (by omega) ?_
             | with_reducible exact quiet_same
             | with_reducible exact quiet_bool
             | with_reducible exact quiet_not
             | with_reducible refine draw_step (by kernel_rfl) ?_
             | with_reducible refine quiet_go ?_ ?_ ?_
             | with_reducible refine bcase_yes (by first | assumption | omega) ?_
             | with_reducible refine bcase_no (by first | assumption | omega) ?_
             | with_reducible refine bcase_dyes (by omega) ?_
             | with_reducible refine bcase_dno (by omega) ?_
             | with_reducible refine bcase_len (by decide) (fun _ => ?_) (fun _ => ?_)
             | with_reducible refine bcase_eq (fun _ => ?_) (fun _ => ?_)
             | with_reducible refine bcase_dec (fun _ => ?_) (fun _ => ?_)
             | with_reducible refine bcase_true ?_
             | with_reducible refine bcase_false ?_
             | with_reducible refine bcase_intro (fun _ => ?_) (fun _ => ?_)
             | with_reducible refine len_kids (fun _ => ?_)
             | with_reducible refine at_known (by assumption) (by omega) ?_
             | with_reducible refine at_kid (by omega) (by omega) (fun _ _ _ => ?_)
             | with_reducible refine tail_kids (by omega) (by omega) ?_
             | with_reducible refine slice_kids (by omega) (by omega) (by omega) ?_
             | with_reducible refine ex_wrap (by omega) (by omega) ?_
             | with_reducible refine quo_step (by decide) (by omega) (by omega) ?_
             | with_reducible refine rem_step (by decide) ?_
             | with_reducible refine nil_row (fun _ => ?_) ?_
             | with_reducible refine nil_row2 (fun _ => ?_) ?_
             | with_reducible refine len_toks (fun _ => ?_)
             | with_reducible refine len_ints (fun _ => ?_)
             | with_reducible refine tok_known (by assumption) (by omega) ?_
             | with_reducible refine at_tok (by omega) (by omega) (fun _ _ => ?_)
             | with_reducible refine at_int (by omega) (by omega) (fun _ _ => ?_)
             | with_reducible refine slice_ints (by omega) (by omega) (by omega) ?_
             | with_reducible refine draw_head ?_)
  all_goals exact finw rfl h
theorem small_c {s : Sta} {v : Bool} (hv : v = (decide (s.toks.length ≤ 2000) && decide (s.opn.length ≤ 2000))) (h : R (.ret (.bool v)) st) : PC 9 [encS s] st R := by
  refine pcalls_of_body tys_ok [] Try.func9 rfl (by decide) ?_
  repeat' (conv => whnf
           first
             | with_reducible refine bcase_yes rfl ?_
             | with_reducible refine bcase_tok ?_
             | with_reducible refine bcase_tokn ?_
             | with_reducible refine int_known (by assumption) (by omega) ?_
             | with_reducible exact quiet_same
             | with_reducible exact quiet_bool
             | with_reducible exact quiet_not
             | with_reducible refine draw_step (by kernel_rfl) ?_
             | with_reducible refine quiet_go ?_ ?_ ?_
             | with_reducible refine bcase_yes (by first | assumption | omega) ?_
             | with_reducible refine bcase_no (by first | assumption | omega) ?_
             | with_reducible refine bcase_dyes (by omega) ?_
             | with_reducible refine bcase_dno (by omega) ?_
             | with_reducible refine bcase_len (by decide) (fun _ => ?_) (fun _ => ?_)
             | with_reducible refine bcase_eq (fun _ => ?_) (fun _ => ?_)
             | with_reducible refine bcase_dec (fun _ => ?_) (fun _ => ?_)
             | with_reducible refine bcase_true ?_
             | with_reducible refine bcase_false ?_
             | with_reducible refine bcase_intro (fun _ => ?_) (fun _ => ?_)
             | with_reducible refine len_kids (fun _ => ?_)
             | with_reducible refine at_known (by assumption) (by omega) ?_
             | with_reducible refine at_kid (by omega) (by omega) (fun _ _ _ => ?_)
             | with_reducible refine tail_kids (by omega) (by omega) ?_
             | with_reducible refine slice_kids (by omega) (by omega) (by omega) ?_
             | with_reducible refine ex_wrap (by omega) (by omega) ?_
             | with_reducible refine quo_step (by decide) (by omega) (by omega) ?_
             | with_reducible refine rem_step (by decide) ?_
             | with_reducible refine nil_row (fun _ => ?_) ?_
             | with_reducible refine nil_row2 (fun _ => ?_) ?_
             | with_reducible refine len_toks (fun _ => ?_)
             | with_reducible refine len_ints (fun _ => ?_)
             | with_reducible refine tok_known (by assumption) (by omega) ?_
             | with_reducible refine at_tok (by omega) (by omega) (fun _ _ => ?_)
             | with_reducible refine at_int (by omega) (by omega) (fun _ _ => ?_)
             | with_reducible refine slice_ints (by omega) (by omega) (by omega) ?_
             | with_reducible refine draw_head ?_)
  all_goals conv => whnf
  all_goals (refine fin_bool h ?_; clear h; rw [hv])
  all_goals simp only [Bool.and_eq_true, decide_eq_true_eq, Bool.and_eq_false_iff, decide_eq_false_iff_not]
  all_goals omega
end
end Go.Proofs.Ytngbihfihdheoaa

/-
  LAWS OF THE TYPES: awake.
-/
set_option linter.unusedVariables false
set_option pp.maxSteps 400
namespace Go.Aw
theorem el_lit {es : List (List V)} {i : Int} {e : List V} {K : List V → Prop} (h0 : 0 ≤ i) (h : es[i.toNat]? = some e) (k : K e) : 0 ≤ i ∧ ∃ e, es[i.toNat]? = some e ∧ K e := ⟨h0, e, h, k⟩
end Go.Aw
namespace Go.Proofs.Ytngbihfihdheoaa
open Go Go.Aw
def awl : List Tk := [⟨2, [69, 113], 0, 0⟩, ⟨1, [97], 0, 0⟩, ⟨10, [61, 62], 0, 0⟩, ⟨15, [91], 0, 0⟩, ⟨1, [97], 0, 0⟩, ⟨15, [93], 0, 0⟩, ⟨10, [45, 62], 0, 0⟩, ⟨1, [98], 0, 0⟩]
def aws (i : Int) : Sta := ⟨awl, i, [], 0⟩
def awt (i : Nat) : Nd := leafT (awl.getD i tk0)
theorem rowP_two {A : Sta → Rs} {s s1 s2 : Sta} {n1 n2 : Nd} (h1 : A s = .inr (n1, s1)) (h2 : startsF (nextM s1).1 = true) (h3 : A s1 = .inr (n2, s2)) (h4 : mu s2 < mu s1) (h5 : startsF (nextM s2).1 = false) : rowP A s = .inr (nodeK 39 [n1, n2], s2) := by
  unfold rowP
  rw [h1]
  dsimp only
  rw [rowL_at h2 h3 h4, rowL_n h5]
  rfl
theorem rowP_one {A : Sta → Rs} {s s1 : Sta} {n1 : Nd} (h1 : A s = .inr (n1, s1)) (h5 : startsF (nextM s1).1 = false) : rowP A s = .inr (n1, s1) := by
  unfold rowP
  rw [h1]
  dsimp only
  rw [rowL_n h5]
  rfl
theorem row0 (d : Nat) : rowP (atomP (typeP d)) (aws 0) = .inr (nodeK 39 [awt 0, awt 1], aws 2) := rowP_two (s1 := aws 1) rfl rfl rfl (by decide) rfl
theorem whole_one {A : Sta → Rs} {s s1 : Sta} {n : Nd} (h1 : rowP A s = .inr (n, s1)) (h2 : isF s1 10 [45, 62] = false) : wholeP A s = .inr (n, s1) := by
  unfold wholeP
  rw [h1]
  dsimp only
  unfold arrowsP
  rw [arrL_n h2]
  rfl
theorem type4 : typeP 1 (aws 4) = .inr (awt 4, aws 5) := by
  show wholeP (atomP (typeP 0)) (aws 4) = _
  exact whole_one (rowP_one rfl rfl) rfl
theorem sq3 : atomP (typeP 1) (aws 3) = .inr (nodeK 6 [awt 3, awt 4, awt 5], aws 6) := by
  have e : atomP (typeP 1) (aws 3) = match typeP 1 (aws 4) with
      | .inl e => .inl e
      | .inr q => finP 6 [awt 3, q.1] q.2 [93] := rfl
  rw [e, type4]
  rfl
theorem sq3b : atomP (typeP 0) (aws 3) = .inl (2, aws 4) := rfl
theorem whole3 : wholeP (atomP (typeP 1)) (aws 3) = .inr (nodeK 37 [nodeK 6 [awt 3, awt 4, awt 5], awt 6, awt 7], aws 8) := by
  unfold wholeP
  rw [rowP_one sq3 rfl]
  dsimp only
  unfold arrowsP
  rw [arrL_at (n := awt 7) (s' := aws 8) rfl (rowP_one (s1 := aws 8) rfl rfl) (by decide), arrL_n rfl]
  rfl
theorem whole3b : wholeP (atomP (typeP 0)) (aws 3) = .inl (2, aws 4) := by
  unfold wholeP rowP
  rw [sq3b]
def awn : Nd := nodeK 38 [nodeK 39 [awt 0, awt 1], awt 2, nodeK 37 [nodeK 6 [awt 3, awt 4, awt 5], awt 6, awt 7]]
theorem full2 : docR (aws 0) 2 (fullP (atomP (typeP (depF 2 - 1))) (aws 0)) = .inr (awn, aws 8) := by
  show docR (aws 0) 2 (fullP (atomP (typeP 1)) (aws 0)) = .inr (awn, aws 8)
  unfold docR fullP
  rw [row0, if_neg (by decide)]
  dsimp only
  rw [if_pos (show isF (aws 2) 10 [61, 62] = true from rfl), show (nextM (aws 2)).2.1 = aws 3 from rfl, whole3]
  rfl
theorem full1 : docR (aws 0) 1 (fullP (atomP (typeP (depF 1 - 1))) (aws 0)) = .inl (2, aws 4) := by
  show docR (aws 0) 1 (fullP (atomP (typeP 0)) (aws 0)) = .inl (2, aws 4)
  unfold docR fullP
  rw [row0, if_neg (by decide)]
  dsimp only
  rw [if_pos (show isF (aws 2) 10 [61, 62] = true from rfl), show (nextM (aws 2)).2.1 = aws 3 from rfl, whole3b]

theorem catchR_doc (s : Sta) (deep : Int) (q : Rs) : encR (catchR s deep q) = .tup [enc (rn (docR s deep q)), encS (rs (docR s deep q)), .int .i64 (re (docR s deep q))] := by
  unfold catchR docR
  by_cases h : deep < 1
  · rw [if_pos h, if_pos h]; rfl
  · rw [if_neg h, if_neg h]
    cases q <;> rfl
section
variable {st : St} {R : Res → St → Prop}
attribute [local irreducible] Go.Aw.appendTo
theorem full_e {s : Sta} {deep : Int} {q : Rs} (hm : mu s ≤ 100000000) (hq : docR s deep (fullP (atomP (typeP (depF deep - 1))) s) = q) (h : R (.ret (.tup [enc (rn q), encS (rs q), .int .i64 (re q)])) st) : PC 14 [encS s, .int .i64 deep] st R :=
  fullX s hm st R (by rw [catchR_doc, hq]; exact h)
theorem type_e {s : Sta} {deep : Int} {q : Rs} (hm : mu s ≤ 100000000) (hq : docR s deep (wholeP (atomP (typeP (depF deep - 1))) s) = q) (h : R (.ret (.tup [enc (rn q), encS (rs q), .int .i64 (re q)])) st) : PC 11 [encS s, .int .i64 deep] st R :=
  typeX s hm st R (by rw [catchR_doc, hq]; exact h)
theorem atom_e {s : Sta} {deep : Int} {q : Rs} (hm : mu s ≤ 100000000) (hq : docR s deep (atomP (typeP (depF deep - 1)) s) = q) (h : R (.ret (.tup [enc (rn q), encS (rs q), .int .i64 (re q)])) st) : PC 18 [encS s, .int .i64 deep] st R :=
  atomX s hm st R (by rw [catchR_doc, hq]; exact h)
theorem row_e {s : Sta} {deep : Int} {q : Rs} (hm : mu s ≤ 100000000) (hq : docR s deep (rowP (atomP (typeP (depF deep - 1))) s) = q) (h : R (.ret (.tup [enc (rn q), encS (rs q), .int .i64 (re q)])) st) : PC 20 [encS s, .int .i64 deep] st R :=
  rowX s hm st R (by rw [catchR_doc, hq]; exact h)
theorem awake_c (h : R (.ret (.bool true)) st) : PC 10 [] st R := by
  refine pcalls_of_body tys_ok [] Try.func10 rfl (by decide) ?_
  repeat' (conv => whnf
           first
             | refine el_lit (by decide) rfl ?_
             | with_reducible refine bcase_yes (by decide) ?_
             | with_reducible refine bcase_yes rfl ?_
             | with_reducible refine bcase_tok ?_
             | with_reducible refine bcase_tokn ?_
             | with_reducible refine int_known (by assumption) (by omega) ?_
             | with_reducible exact quiet_same
             | with_reducible exact quiet_bool
             | with_reducible exact quiet_not
             | with_reducible refine draw_step (by kernel_rfl) ?_
             | with_reducible refine quiet_go ?_ ?_ ?_
             | with_reducible refine bcase_yes (by first | assumption | omega) ?_
             | with_reducible refine bcase_no (by first | assumption | omega) ?_
             | with_reducible refine bcase_dyes (by omega) ?_
             | with_reducible refine bcase_dno (by omega) ?_
             | with_reducible refine bcase_len (by decide) (fun _ => ?_) (fun _ => ?_)
             | with_reducible refine bcase_eq (fun _ => ?_) (fun _ => ?_)
             | with_reducible refine bcase_dec (fun _ => ?_) (fun _ => ?_)
             | with_reducible refine bcase_true ?_
             | with_reducible refine bcase_false ?_
             | with_reducible refine bcase_intro (fun _ => ?_) (fun _ => ?_)
             | with_reducible refine len_kids (fun _ => ?_)
             | with_reducible refine at_known (by assumption) (by omega) ?_
             | with_reducible refine at_kid (by omega) (by omega) (fun _ _ _ => ?_)
             | with_reducible refine tail_kids (by omega) (by omega) ?_
             | with_reducible refine slice_kids (by omega) (by omega) (by omega) ?_
             | with_reducible refine ex_wrap (by omega) (by omega) ?_
             | with_reducible refine quo_step (by decide) (by omega) (by omega) ?_
             | with_reducible refine rem_step (by decide) ?_
             | with_reducible refine nil_row (fun _ => ?_) ?_
             | with_reducible refine nil_row2 (fun _ => ?_) ?_
             | with_reducible refine len_toks (fun _ => ?_)
             | with_reducible refine len_ints (fun _ => ?_)
             | with_reducible refine tok_known (by assumption) (by omega) ?_
             | with_reducible refine at_tok (by omega) (by omega) (fun _ _ => ?_)
             | with_reducible refine at_int (by omega) (by omega) (fun _ _ => ?_)
             | with_reducible refine slice_ints (by omega) (by omega) (by omega) ?_
             | refine word_c ?_
             | refine pcalls_wk (args' := [encS (aws 0), .int .i64 2]) (by rfl) (full_e (by decide) full2 ?_)
             | refine pcalls_wk (args' := [encS (aws 0), .int .i64 1]) (by rfl) (full_e (by decide) full1 ?_)
             | with_reducible refine draw_head ?_)
  all_goals exact fin h rfl
end
end Go.Proofs.Ytngbihfihdheoaa

/-
  LAWS OF THE TYPES: TypeAtoms, TypeRows, TypeTypes, TypeFulls.
-/
set_option linter.unusedVariables false
set_option pp.maxSteps 400
namespace Go.Proofs.Ytngbihfihdheoaa
open Go Go.Aw
theorem small_mu {s : Sta} (h : s.toks.length ≤ 2000 ∧ s.opn.length ≤ 2000) : mu s ≤ 20000 := by unfold mu; omega
theorem encRs_doc {s : Sta} {deep : Int} {q q' : Rs} (h : docR s deep q = q') : encRs (docR s deep q) = encQ (rn q') (rs q') (re q') := by rw [h, encRs_eq]
/-- the document's Type, so deep -/
theorem rtype_all : ∀ d : Nat, d ≤ 100 → RCalls 13 (d : Int) (typeP d)
  | 0, _ => fun s hm st R h => rtype_c (A := atomP (typeP 0)) (fun e => absurd (by decide) e) (bads_atom (bads_type 0)) (falls_atom (falls_type 0)) hm (by
    unfold docR; rw [if_pos (by decide)]; exact h)
  | d + 1, hd => fun s hm st R h => rtype_c (A := atomP (typeP d)) (fun _ => by
      rw [if_neg (by omega)]
      exact rrow_c (ratom_c rfl (by omega) (rtype_all d (by omega)) (bads_type d) (falls_type d)) (bads_atom (bads_type d)) (falls_atom (falls_type d))) (bads_atom (bads_type d)) (falls_atom (falls_type d)) hm (by
    unfold docR; rw [if_neg (by omega)]; exact h)
theorem ratom_all {deep : Int} (h : ¬ deep < 1) : RCalls 38 (if 100 < deep then 100 else deep) (atomP (typeP (depF deep - 1))) := by
  have := dep_le deep
  exact ratom_c (dep_eq h) (by omega) (rtype_all _ (by omega)) (bads_type _) (falls_type _)
theorem rrow_all {deep : Int} (h : ¬ deep < 1) : RCalls 32 (if 100 < deep then 100 else deep) (rowP (atomP (typeP (depF deep - 1)))) :=
  rrow_c (ratom_all h) (bads_atom (bads_type _)) (falls_atom (falls_type _))
section
variable {st : St} {R : Res → St → Prop}
attribute [local irreducible] Go.Aw.appendTo
theorem rtype_e {s : Sta} {deep : Int} {q : Rs} (hm : mu s ≤ 100000000) (hq : docR s deep (wholeP (atomP (typeP (depF deep - 1))) s) = q) (h : R (.ret (encQ (rn q) (rs q) (re q))) st) : PC 13 [encS s, .int .i64 deep] st R :=
  rtype_c (A := atomP (typeP (depF deep - 1))) rrow_all (bads_atom (bads_type _)) (falls_atom (falls_type _)) hm (by rw [encRs_doc hq]; exact h)
theorem ratom_e {s : Sta} {deep : Int} {q : Rs} (hm : mu s ≤ 100000000) (hq : docR s deep (atomP (typeP (depF deep - 1)) s) = q) (h : R (.ret (encQ (rn q) (rs q) (re q))) st) : PC 19 [encS s, .int .i64 deep] st R :=
  ratomX_c (A := atomP (typeP (depF deep - 1))) ratom_all hm (by rw [encRs_doc hq]; exact h)
theorem rrow_e {s : Sta} {deep : Int} {q : Rs} (hm : mu s ≤ 100000000) (hq : docR s deep (rowP (atomP (typeP (depF deep - 1))) s) = q) (h : R (.ret (encQ (rn q) (rs q) (re q))) st) : PC 21 [encS s, .int .i64 deep] st R :=
  rrowX_c (A := rowP (atomP (typeP (depF deep - 1)))) rrow_all hm (by rw [encRs_doc hq]; exact h)
theorem rfull_e {s : Sta} {deep : Int} {q : Rs} (hm : mu s ≤ 100000000) (hq : docR s deep (fullP (atomP (typeP (depF deep - 1))) s) = q) (h : R (.ret (encQ (rn q) (rs q) (re q))) st) : PC 15 [encS s, .int .i64 deep] st R :=
  rfull_c (A := atomP (typeP (depF deep - 1))) rrow_all (bads_atom (bads_type _)) (falls_atom (falls_type _)) hm (by rw [encRs_doc hq]; exact h)
theorem same_c {n : Nd} {s : Sta} {e : Int} (h : R (.ret (.bool true)) st) : PC 12 [enc n, encS s, .int .i64 e, encQ n s e] st R := by
  refine pcalls_of_body tys_ok [] Try.func12 rfl (by decide) ?_
  repeat' (conv => whnf
           first
             | with_reducible refine bcase_yes rfl ?_
             | with_reducible refine bcase_tok ?_
             | with_reducible refine bcase_tokn ?_
             | with_reducible refine int_known (by assumption) (by omega) ?_
             | with_reducible exact quiet_same
             | with_reducible exact quiet_bool
             | with_reducible exact quiet_not
             | with_reducible refine draw_step (by kernel_rfl) ?_
             | with_reducible refine quiet_go ?_ ?_ ?_
             | with_reducible refine bcase_yes (by first | assumption | omega) ?_
             | with_reducible refine bcase_no (by first | assumption | omega) ?_
             | with_reducible refine bcase_dyes (by omega) ?_
             | with_reducible refine bcase_dno (by omega) ?_
             | with_reducible refine bcase_len (by decide) (fun _ => ?_) (fun _ => ?_)
             | with_reducible refine bcase_eq (fun _ => ?_) (fun _ => ?_)
             | with_reducible refine bcase_dec (fun _ => ?_) (fun _ => ?_)
             | with_reducible refine bcase_true ?_
             | with_reducible refine bcase_false ?_
             | with_reducible refine bcase_intro (fun _ => ?_) (fun _ => ?_)
             | with_reducible refine len_kids (fun _ => ?_)
             | with_reducible refine at_known (by assumption) (by omega) ?_
             | with_reducible refine at_kid (by omega) (by omega) (fun _ _ _ => ?_)
             | with_reducible refine tail_kids (by omega) (by omega) ?_
             | with_reducible refine slice_kids (by omega) (by omega) (by omega) ?_
             | with_reducible refine ex_wrap (by omega) (by omega) ?_
             | with_reducible refine quo_step (by decide) (by omega) (by omega) ?_
             | with_reducible refine rem_step (by decide) ?_
             | with_reducible refine nil_row (fun _ => ?_) ?_
             | with_reducible refine nil_row2 (fun _ => ?_) ?_
             | with_reducible refine len_toks (fun _ => ?_)
             | with_reducible refine len_ints (fun _ => ?_)
             | with_reducible refine tok_known (by assumption) (by omega) ?_
             | with_reducible refine at_tok (by omega) (by omega) (fun _ _ => ?_)
             | with_reducible refine at_int (by omega) (by omega) (fun _ _ => ?_)
             | with_reducible refine slice_ints (by omega) (by omega) (by omega) ?_
             | refine sameall_c _ (Nat.le_refl _) ?_
             | refine samestate_c ?_
             | with_reducible refine draw_head ?_)
  all_goals exact fin h rfl
theorem lawTypes_c {s : Sta} {deep : Int} (h : R (.ret (.bool true)) st) : PC 3 [encS s, .int .i64 deep] st R := by
  refine pcalls_of_body tys_ok [] Try.func3 rfl (by decide) ?_
  by_cases hs : s.toks.length ≤ 2000 ∧ s.opn.length ≤ 2000
  · have hm : mu s ≤ 100000000 := by have := small_mu hs; omega
    have hv : true = (decide (s.toks.length ≤ 2000) && decide (s.opn.length ≤ 2000)) := by simp [hs]
    repeat' (conv => whnf
             first
               | with_reducible refine bcase_yes rfl ?_
               | with_reducible refine bcase_tok ?_
               | with_reducible refine bcase_tokn ?_
               | with_reducible refine int_known (by assumption) (by omega) ?_
               | with_reducible exact quiet_same
               | with_reducible exact quiet_bool
               | with_reducible exact quiet_not
               | with_reducible refine draw_step (by kernel_rfl) ?_
               | with_reducible refine quiet_go ?_ ?_ ?_
               | with_reducible refine bcase_yes (by first | assumption | omega) ?_
               | with_reducible refine bcase_no (by first | assumption | omega) ?_
               | with_reducible refine bcase_dyes (by omega) ?_
               | with_reducible refine bcase_dno (by omega) ?_
               | with_reducible refine bcase_len (by decide) (fun _ => ?_) (fun _ => ?_)
               | with_reducible refine bcase_eq (fun _ => ?_) (fun _ => ?_)
               | with_reducible refine bcase_dec (fun _ => ?_) (fun _ => ?_)
               | with_reducible refine bcase_true ?_
               | with_reducible refine bcase_false ?_
               | with_reducible refine bcase_intro (fun _ => ?_) (fun _ => ?_)
               | with_reducible refine len_kids (fun _ => ?_)
               | with_reducible refine at_known (by assumption) (by omega) ?_
               | with_reducible refine at_kid (by omega) (by omega) (fun _ _ _ => ?_)
               | with_reducible refine tail_kids (by omega) (by omega) ?_
               | with_reducible refine slice_kids (by omega) (by omega) (by omega) ?_
               | with_reducible refine ex_wrap (by omega) (by omega) ?_
               | with_reducible refine quo_step (by decide) (by omega) (by omega) ?_
               | with_reducible refine rem_step (by decide) ?_
               | with_reducible refine nil_row (fun _ => ?_) ?_
               | with_reducible refine nil_row2 (fun _ => ?_) ?_
               | with_reducible refine len_toks (fun _ => ?_)
               | with_reducible refine len_ints (fun _ => ?_)
               | with_reducible refine tok_known (by assumption) (by omega) ?_
               | with_reducible refine at_tok (by omega) (by omega) (fun _ _ => ?_)
               | with_reducible refine at_int (by omega) (by omega) (fun _ _ => ?_)
               | with_reducible refine slice_ints (by omega) (by omega) (by omega) ?_
               | refine small_c hv ?_
               | refine awake_c ?_
               | refine type_e hm rfl ?_
               | refine rtype_e hm rfl ?_
               | refine same_c ?_
               | with_reducible refine draw_head ?_)
    all_goals exact fin h rfl
  · have hv : false = (decide (s.toks.length ≤ 2000) && decide (s.opn.length ≤ 2000)) := by
      symm; simp only [Bool.and_eq_false_iff, decide_eq_false_iff_not]; omega
    repeat' (conv => whnf
             first
               | with_reducible refine bcase_yes rfl ?_
               | with_reducible refine bcase_tok ?_
               | with_reducible refine bcase_tokn ?_
               | with_reducible refine int_known (by assumption) (by omega) ?_
               | with_reducible exact quiet_same
               | with_reducible exact quiet_bool
               | with_reducible exact quiet_not
               | with_reducible refine draw_step (by kernel_rfl) ?_
               | with_reducible refine quiet_go ?_ ?_ ?_
               | with_reducible refine bcase_yes (by first | assumption | omega) ?_
               | with_reducible refine bcase_no (by first | assumption | omega) ?_
               | with_reducible refine bcase_dyes (by omega) ?_
               | with_reducible refine bcase_dno (by omega) ?_
               | with_reducible refine bcase_len (by decide) (fun _ => ?_) (fun _ => ?_)
               | with_reducible refine bcase_eq (fun _ => ?_) (fun _ => ?_)
               | with_reducible refine bcase_dec (fun _ => ?_) (fun _ => ?_)
               | with_reducible refine bcase_true ?_
               | with_reducible refine bcase_false ?_
               | with_reducible refine bcase_intro (fun _ => ?_) (fun _ => ?_)
               | with_reducible refine len_kids (fun _ => ?_)
               | with_reducible refine at_known (by assumption) (by omega) ?_
               | with_reducible refine at_kid (by omega) (by omega) (fun _ _ _ => ?_)
               | with_reducible refine tail_kids (by omega) (by omega) ?_
               | with_reducible refine slice_kids (by omega) (by omega) (by omega) ?_
               | with_reducible refine ex_wrap (by omega) (by omega) ?_
               | with_reducible refine quo_step (by decide) (by omega) (by omega) ?_
               | with_reducible refine rem_step (by decide) ?_
               | with_reducible refine nil_row (fun _ => ?_) ?_
               | with_reducible refine nil_row2 (fun _ => ?_) ?_
               | with_reducible refine len_toks (fun _ => ?_)
               | with_reducible refine len_ints (fun _ => ?_)
               | with_reducible refine tok_known (by assumption) (by omega) ?_
               | with_reducible refine at_tok (by omega) (by omega) (fun _ _ => ?_)
               | with_reducible refine at_int (by omega) (by omega) (fun _ _ => ?_)
               | with_reducible refine slice_ints (by omega) (by omega) (by omega) ?_
               | refine small_c hv ?_
               | refine awake_c ?_
               | with_reducible refine draw_head ?_)
    all_goals exact fin h rfl
theorem lawFulls_c {s : Sta} {deep : Int} (h : R (.ret (.bool true)) st) : PC 4 [encS s, .int .i64 deep] st R := by
  refine pcalls_of_body tys_ok [] Try.func4 rfl (by decide) ?_
  by_cases hs : s.toks.length ≤ 2000 ∧ s.opn.length ≤ 2000
  · have hm : mu s ≤ 100000000 := by have := small_mu hs; omega
    have hv : true = (decide (s.toks.length ≤ 2000) && decide (s.opn.length ≤ 2000)) := by simp [hs]
    repeat' (conv => whnf
             first
               | with_reducible refine bcase_yes rfl ?_
               | with_reducible refine bcase_tok ?_
               | with_reducible refine bcase_tokn ?_
               | with_reducible refine int_known (by assumption) (by omega) ?_
               | with_reducible exact quiet_same
               | with_reducible exact quiet_bool
               | with_reducible exact quiet_not
               | with_reducible refine draw_step (by kernel_rfl) ?_
               | with_reducible refine quiet_go ?_ ?_ ?_
               | with_reducible refine bcase_yes (by first | assumption | omega) ?_
               | with_reducible refine bcase_no (by first | assumption | omega) ?_
               | with_reducible refine bcase_dyes (by omega) ?_
               | with_reducible refine bcase_dno (by omega) ?_
               | with_reducible refine bcase_len (by decide) (fun _ => ?_) (fun _ => ?_)
               | with_reducible refine bcase_eq (fun _ => ?_) (fun _ => ?_)
               | with_reducible refine bcase_dec (fun _ => ?_) (fun _ => ?_)
               | with_reducible refine bcase_true ?_
               | with_reducible refine bcase_false ?_
               | with_reducible refine bcase_intro (fun _ => ?_) (fun _ => ?_)
               | with_reducible refine len_kids (fun _ => ?_)
               | with_reducible refine at_known (by assumption) (by omega) ?_
               | with_reducible refine at_kid (by omega) (by omega) (fun _ _ _ => ?_)
               | with_reducible refine tail_kids (by omega) (by omega) ?_
               | with_reducible refine slice_kids (by omega) (by omega) (by omega) ?_
               | with_reducible refine ex_wrap (by omega) (by omega) ?_
               | with_reducible refine quo_step (by decide) (by omega) (by omega) ?_
               | with_reducible refine rem_step (by decide) ?_
               | with_reducible refine nil_row (fun _ => ?_) ?_
               | with_reducible refine nil_row2 (fun _ => ?_) ?_
               | with_reducible refine len_toks (fun _ => ?_)
               | with_reducible refine len_ints (fun _ => ?_)
               | with_reducible refine tok_known (by assumption) (by omega) ?_
               | with_reducible refine at_tok (by omega) (by omega) (fun _ _ => ?_)
               | with_reducible refine at_int (by omega) (by omega) (fun _ _ => ?_)
               | with_reducible refine slice_ints (by omega) (by omega) (by omega) ?_
               | refine small_c hv ?_
               | refine awake_c ?_
               | refine full_e hm rfl ?_
               | refine rfull_e hm rfl ?_
               | refine same_c ?_
               | with_reducible refine draw_head ?_)
    all_goals exact fin h rfl
  · have hv : false = (decide (s.toks.length ≤ 2000) && decide (s.opn.length ≤ 2000)) := by
      symm; simp only [Bool.and_eq_false_iff, decide_eq_false_iff_not]; omega
    repeat' (conv => whnf
             first
               | with_reducible refine bcase_yes rfl ?_
               | with_reducible refine bcase_tok ?_
               | with_reducible refine bcase_tokn ?_
               | with_reducible refine int_known (by assumption) (by omega) ?_
               | with_reducible exact quiet_same
               | with_reducible exact quiet_bool
               | with_reducible exact quiet_not
               | with_reducible refine draw_step (by kernel_rfl) ?_
               | with_reducible refine quiet_go ?_ ?_ ?_
               | with_reducible refine bcase_yes (by first | assumption | omega) ?_
               | with_reducible refine bcase_no (by first | assumption | omega) ?_
               | with_reducible refine bcase_dyes (by omega) ?_
               | with_reducible refine bcase_dno (by omega) ?_
               | with_reducible refine bcase_len (by decide) (fun _ => ?_) (fun _ => ?_)
               | with_reducible refine bcase_eq (fun _ => ?_) (fun _ => ?_)
               | with_reducible refine bcase_dec (fun _ => ?_) (fun _ => ?_)
               | with_reducible refine bcase_true ?_
               | with_reducible refine bcase_false ?_
               | with_reducible refine bcase_intro (fun _ => ?_) (fun _ => ?_)
               | with_reducible refine len_kids (fun _ => ?_)
               | with_reducible refine at_known (by assumption) (by omega) ?_
               | with_reducible refine at_kid (by omega) (by omega) (fun _ _ _ => ?_)
               | with_reducible refine tail_kids (by omega) (by omega) ?_
               | with_reducible refine slice_kids (by omega) (by omega) (by omega) ?_
               | with_reducible refine ex_wrap (by omega) (by omega) ?_
               | with_reducible refine quo_step (by decide) (by omega) (by omega) ?_
               | with_reducible refine rem_step (by decide) ?_
               | with_reducible refine nil_row (fun _ => ?_) ?_
               | with_reducible refine nil_row2 (fun _ => ?_) ?_
               | with_reducible refine len_toks (fun _ => ?_)
               | with_reducible refine len_ints (fun _ => ?_)
               | with_reducible refine tok_known (by assumption) (by omega) ?_
               | with_reducible refine at_tok (by omega) (by omega) (fun _ _ => ?_)
               | with_reducible refine at_int (by omega) (by omega) (fun _ _ => ?_)
               | with_reducible refine slice_ints (by omega) (by omega) (by omega) ?_
               | refine small_c hv ?_
               | refine awake_c ?_
               | with_reducible refine draw_head ?_)
    all_goals exact fin h rfl
theorem lawAtoms_c {s : Sta} {deep : Int} (h : R (.ret (.bool true)) st) : PC 6 [encS s, .int .i64 deep] st R := by
  refine pcalls_of_body tys_ok [] Try.func6 rfl (by decide) ?_
  by_cases hs : s.toks.length ≤ 2000 ∧ s.opn.length ≤ 2000
  · have hm : mu s ≤ 100000000 := by have := small_mu hs; omega
    have hv : true = (decide (s.toks.length ≤ 2000) && decide (s.opn.length ≤ 2000)) := by simp [hs]
    repeat' (conv => whnf
             first
               | with_reducible refine bcase_yes rfl ?_
               | with_reducible refine bcase_tok ?_
               | with_reducible refine bcase_tokn ?_
               | with_reducible refine int_known (by assumption) (by omega) ?_
               | with_reducible exact quiet_same
               | with_reducible exact quiet_bool
               | with_reducible exact quiet_not
               | with_reducible refine draw_step (by kernel_rfl) ?_
               | with_reducible refine quiet_go ?_ ?_ ?_
               | with_reducible refine bcase_yes (by first | assumption | omega) ?_
               | with_reducible refine bcase_no (by first | assumption | omega) ?_
               | with_reducible refine bcase_dyes (by omega) ?_
               | with_reducible refine bcase_dno (by omega) ?_
               | with_reducible refine bcase_len (by decide) (fun _ => ?_) (fun _ => ?_)
               | with_reducible refine bcase_eq (fun _ => ?_) (fun _ => ?_)
               | with_reducible refine bcase_dec (fun _ => ?_) (fun _ => ?_)
               | with_reducible refine bcase_true ?_
               | with_reducible refine bcase_false ?_
               | with_reducible refine bcase_intro (fun _ => ?_) (fun _ => ?_)
               | with_reducible refine len_kids (fun _ => ?_)
               | with_reducible refine at_known (by assumption) (by omega) ?_
               | with_reducible refine at_kid (by omega) (by omega) (fun _ _ _ => ?_)
               | with_reducible refine tail_kids (by omega) (by omega) ?_
               | with_reducible refine slice_kids (by omega) (by omega) (by omega) ?_
               | with_reducible refine ex_wrap (by omega) (by omega) ?_
               | with_reducible refine quo_step (by decide) (by omega) (by omega) ?_
               | with_reducible refine rem_step (by decide) ?_
               | with_reducible refine nil_row (fun _ => ?_) ?_
               | with_reducible refine nil_row2 (fun _ => ?_) ?_
               | with_reducible refine len_toks (fun _ => ?_)
               | with_reducible refine len_ints (fun _ => ?_)
               | with_reducible refine tok_known (by assumption) (by omega) ?_
               | with_reducible refine at_tok (by omega) (by omega) (fun _ _ => ?_)
               | with_reducible refine at_int (by omega) (by omega) (fun _ _ => ?_)
               | with_reducible refine slice_ints (by omega) (by omega) (by omega) ?_
               | refine small_c hv ?_
               | refine awake_c ?_
               | refine atom_e hm rfl ?_
               | refine ratom_e hm rfl ?_
               | refine same_c ?_
               | with_reducible refine draw_head ?_)
    all_goals exact fin h rfl
  · have hv : false = (decide (s.toks.length ≤ 2000) && decide (s.opn.length ≤ 2000)) := by
      symm; simp only [Bool.and_eq_false_iff, decide_eq_false_iff_not]; omega
    repeat' (conv => whnf
             first
               | with_reducible refine bcase_yes rfl ?_
               | with_reducible refine bcase_tok ?_
               | with_reducible refine bcase_tokn ?_
               | with_reducible refine int_known (by assumption) (by omega) ?_
               | with_reducible exact quiet_same
               | with_reducible exact quiet_bool
               | with_reducible exact quiet_not
               | with_reducible refine draw_step (by kernel_rfl) ?_
               | with_reducible refine quiet_go ?_ ?_ ?_
               | with_reducible refine bcase_yes (by first | assumption | omega) ?_
               | with_reducible refine bcase_no (by first | assumption | omega) ?_
               | with_reducible refine bcase_dyes (by omega) ?_
               | with_reducible refine bcase_dno (by omega) ?_
               | with_reducible refine bcase_len (by decide) (fun _ => ?_) (fun _ => ?_)
               | with_reducible refine bcase_eq (fun _ => ?_) (fun _ => ?_)
               | with_reducible refine bcase_dec (fun _ => ?_) (fun _ => ?_)
               | with_reducible refine bcase_true ?_
               | with_reducible refine bcase_false ?_
               | with_reducible refine bcase_intro (fun _ => ?_) (fun _ => ?_)
               | with_reducible refine len_kids (fun _ => ?_)
               | with_reducible refine at_known (by assumption) (by omega) ?_
               | with_reducible refine at_kid (by omega) (by omega) (fun _ _ _ => ?_)
               | with_reducible refine tail_kids (by omega) (by omega) ?_
               | with_reducible refine slice_kids (by omega) (by omega) (by omega) ?_
               | with_reducible refine ex_wrap (by omega) (by omega) ?_
               | with_reducible refine quo_step (by decide) (by omega) (by omega) ?_
               | with_reducible refine rem_step (by decide) ?_
               | with_reducible refine nil_row (fun _ => ?_) ?_
               | with_reducible refine nil_row2 (fun _ => ?_) ?_
               | with_reducible refine len_toks (fun _ => ?_)
               | with_reducible refine len_ints (fun _ => ?_)
               | with_reducible refine tok_known (by assumption) (by omega) ?_
               | with_reducible refine at_tok (by omega) (by omega) (fun _ _ => ?_)
               | with_reducible refine at_int (by omega) (by omega) (fun _ _ => ?_)
               | with_reducible refine slice_ints (by omega) (by omega) (by omega) ?_
               | refine small_c hv ?_
               | refine awake_c ?_
               | with_reducible refine draw_head ?_)
    all_goals exact fin h rfl
theorem lawRows_c {s : Sta} {deep : Int} (h : R (.ret (.bool true)) st) : PC 7 [encS s, .int .i64 deep] st R := by
  refine pcalls_of_body tys_ok [] Try.func7 rfl (by decide) ?_
  by_cases hs : s.toks.length ≤ 2000 ∧ s.opn.length ≤ 2000
  · have hm : mu s ≤ 100000000 := by have := small_mu hs; omega
    have hv : true = (decide (s.toks.length ≤ 2000) && decide (s.opn.length ≤ 2000)) := by simp [hs]
    repeat' (conv => whnf
             first
               | with_reducible refine bcase_yes rfl ?_
               | with_reducible refine bcase_tok ?_
               | with_reducible refine bcase_tokn ?_
               | with_reducible refine int_known (by assumption) (by omega) ?_
               | with_reducible exact quiet_same
               | with_reducible exact quiet_bool
               | with_reducible exact quiet_not
               | with_reducible refine draw_step (by kernel_rfl) ?_
               | with_reducible refine quiet_go ?_ ?_ ?_
               | with_reducible refine bcase_yes (by first | assumption | omega) ?_
               | with_reducible refine bcase_no (by first | assumption | omega) ?_
               | with_reducible refine bcase_dyes (by omega) ?_
               | with_reducible refine bcase_dno (by omega) ?_
               | with_reducible refine bcase_len (by decide) (fun _ => ?_) (fun _ => ?_)
               | with_reducible refine bcase_eq (fun _ => ?_) (fun _ => ?_)
               | with_reducible refine bcase_dec (fun _ => ?_) (fun _ => ?_)
               | with_reducible refine bcase_true ?_
               | with_reducible refine bcase_false ?_
               | with_reducible refine bcase_intro (fun _ => ?_) (fun _ => ?_)
               | with_reducible refine len_kids (fun _ => ?_)
               | with_reducible refine at_known (by assumption) (by omega) ?_
               | with_reducible refine at_kid (by omega) (by omega) (fun _ _ _ => ?_)
               | with_reducible refine tail_kids (by omega) (by omega) ?_
               | with_reducible refine slice_kids (by omega) (by omega) (by omega) ?_
               | with_reducible refine ex_wrap (by omega) (by omega) ?_
               | with_reducible refine quo_step (by decide) (by omega) (by omega) ?_
               | with_reducible refine rem_step (by decide) ?_
               | with_reducible refine nil_row (fun _ => ?_) ?_
               | with_reducible refine nil_row2 (fun _ => ?_) ?_
               | with_reducible refine len_toks (fun _ => ?_)
               | with_reducible refine len_ints (fun _ => ?_)
               | with_reducible refine tok_known (by assumption) (by omega) ?_
               | with_reducible refine at_tok (by omega) (by omega) (fun _ _ => ?_)
               | with_reducible refine at_int (by omega) (by omega) (fun _ _ => ?_)
               | with_reducible refine slice_ints (by omega) (by omega) (by omega) ?_
               | refine small_c hv ?_
               | refine awake_c ?_
               | refine row_e hm rfl ?_
               | refine rrow_e hm rfl ?_
               | refine same_c ?_
               | with_reducible refine draw_head ?_)
    all_goals exact fin h rfl
  · have hv : false = (decide (s.toks.length ≤ 2000) && decide (s.opn.length ≤ 2000)) := by
      symm; simp only [Bool.and_eq_false_iff, decide_eq_false_iff_not]; omega
    repeat' (conv => whnf
             first
               | with_reducible refine bcase_yes rfl ?_
               | with_reducible refine bcase_tok ?_
               | with_reducible refine bcase_tokn ?_
               | with_reducible refine int_known (by assumption) (by omega) ?_
               | with_reducible exact quiet_same
               | with_reducible exact quiet_bool
               | with_reducible exact quiet_not
               | with_reducible refine draw_step (by kernel_rfl) ?_
               | with_reducible refine quiet_go ?_ ?_ ?_
               | with_reducible refine bcase_yes (by first | assumption | omega) ?_
               | with_reducible refine bcase_no (by first | assumption | omega) ?_
               | with_reducible refine bcase_dyes (by omega) ?_
               | with_reducible refine bcase_dno (by omega) ?_
               | with_reducible refine bcase_len (by decide) (fun _ => ?_) (fun _ => ?_)
               | with_reducible refine bcase_eq (fun _ => ?_) (fun _ => ?_)
               | with_reducible refine bcase_dec (fun _ => ?_) (fun _ => ?_)
               | with_reducible refine bcase_true ?_
               | with_reducible refine bcase_false ?_
               | with_reducible refine bcase_intro (fun _ => ?_) (fun _ => ?_)
               | with_reducible refine len_kids (fun _ => ?_)
               | with_reducible refine at_known (by assumption) (by omega) ?_
               | with_reducible refine at_kid (by omega) (by omega) (fun _ _ _ => ?_)
               | with_reducible refine tail_kids (by omega) (by omega) ?_
               | with_reducible refine slice_kids (by omega) (by omega) (by omega) ?_
               | with_reducible refine ex_wrap (by omega) (by omega) ?_
               | with_reducible refine quo_step (by decide) (by omega) (by omega) ?_
               | with_reducible refine rem_step (by decide) ?_
               | with_reducible refine nil_row (fun _ => ?_) ?_
               | with_reducible refine nil_row2 (fun _ => ?_) ?_
               | with_reducible refine len_toks (fun _ => ?_)
               | with_reducible refine len_ints (fun _ => ?_)
               | with_reducible refine tok_known (by assumption) (by omega) ?_
               | with_reducible refine at_tok (by omega) (by omega) (fun _ _ => ?_)
               | with_reducible refine at_int (by omega) (by omega) (fun _ _ => ?_)
               | with_reducible refine slice_ints (by omega) (by omega) (by omega) ?_
               | refine small_c hv ?_
               | refine awake_c ?_
               | with_reducible refine draw_head ?_)
    all_goals exact fin h rfl
end
end Go.Proofs.Ytngbihfihdheoaa

/-
  LAWS OF THE TYPES: the leaves of what is read are the tokens that were passed over.
-/
set_option linter.unusedVariables false
set_option pp.maxSteps 400
namespace Go.Proofs.Ytngbihfihdheoaa
open Go Go.Aw
mutual
def leavesF : Nd → List Tk
  | .mk k f t l c ks => if k = 1 then [⟨f, t, l, c⟩] else leavesFs ks
def leavesFs : List Nd → List Tk
  | [] => []
  | n :: r => leavesF n ++ leavesFs r
end
theorem leavesFs_append : ∀ {a b : List Nd}, leavesFs (a ++ b) = leavesFs a ++ leavesFs b
  | [], b => rfl
  | n :: r, b => by rw [List.cons_append, leavesFs, leavesFs, leavesFs_append, List.append_assoc]
theorem leavesF_leaf (t : Tk) : leavesF (leafT t) = [t] := rfl
theorem leavesF_node {k : Int} {l : List Nd} (h : ¬ k = 1) : leavesF (nodeK k l) = leavesFs l := by unfold nodeK; rw [leavesF, if_neg h]
theorem leavesFs_one {n : Nd} : leavesFs [n] = leavesF n := by rw [leavesFs, leavesFs, List.append_nil]
theorem leavesFs_two {n m : Nd} : leavesFs [n, m] = leavesF n ++ leavesF m := by rw [leavesFs, leavesFs_one]
/-- tokens that are passed over from a state to another one -/
inductive Path : Sta → List Tk → Sta → Prop where
  | nil (s : Sta) : Path s [] s
  | cons {s : Sta} {l : List Tk} {t : Sta} : (nextM s).2.2 = 0 → mu (nextM s).2.1 < mu s → Path (nextM s).2.1 l t → Path s ((nextM s).1 :: l) t
theorem Path.trans {s t u : Sta} {l m : List Tk} (h : Path s l t) (k : Path t m u) : Path s (l ++ m) u := by
  induction h with
  | nil s => exact k
  | cons h1 h2 _ ih => exact .cons h1 h2 (ih k)
theorem Path.one {s : Sta} (h1 : (nextM s).2.2 = 0) (h2 : mu (nextM s).2.1 < mu s) : Path s [(nextM s).1] (nextM s).2.1 := .cons h1 h2 (.nil _)
theorem Path.is {s : Sta} {k : Int} {x : List UInt8} (h : isF s k x = true) (h0 : k ≠ 0) (h1 : k ≠ 21) : Path s [(nextM s).1] (nextM s).2.1 := .one (isF_ok h h0) (isF_mu h h0 h1)
/-- a reading passes over just the leaves of what it answers -/
def Passes (A : Sta → Rs) : Prop := ∀ s n s', A s = .inr (n, s') → Path s (leavesF n) s'
variable {A : Sta → Rs}
theorem passes_take {s : Sta} {n : Nd} {s' : Sta} (hs : startsF (nextM s).1 = true) (h : takeP s = .inr (n, s')) : Path s (leavesF n) s' := by
  have hm := starts_mu hs h
  unfold takeP at h
  split at h
  · rename_i e; cases h; rw [leavesF_leaf]; exact .one e hm
  · cases h
theorem passes_want {s : Sta} {k : Int} {x : List UInt8} {n : Nd} {s' : Sta} (h0 : k ≠ 0) (h1 : k ≠ 21) (h : wantP s k x = .inr (n, s')) : Path s (leavesF n) s' := by
  unfold wantP at h
  split at h
  · rename_i e
    rw [take_is e h0] at h
    cases h
    rw [leavesF_leaf]
    exact .is e h0 h1
  · cases h
theorem passes_fin {s : Sta} {k : Int} {l : List Nd} {x : List UInt8} {n : Nd} {s' : Sta} (hk : ¬ k = 1) (h : finP k l s x = .inr (n, s')) : ∃ m, Path s m s' ∧ leavesF n = leavesFs l ++ m := by
  unfold finP at h
  split at h
  · cases h
  · rename_i p hp
    cases h
    refine ⟨_, passes_want (by decide) (by decide) hp, ?_⟩
    rw [leavesF_node hk, leavesFs_append, leavesFs_one]
theorem passes_rowL (hA : Passes A) (l : List Nd) (s : Sta) : ∀ q s', rowL A l s = .inr (q, s') → ∃ m, Path s m s' ∧ leavesFs q = leavesFs l ++ m := by
  fun_induction rowL A l s with
  | case1 l s h1 e1 h2 => intro q s' h; cases h
  | case2 l s h1 p h2 h3 ih =>
    intro q s' h
    obtain ⟨m, k1, k2⟩ := ih q s' h
    refine ⟨_, (hA s p.1 p.2 h2).trans k1, ?_⟩
    rw [k2, leavesFs_append, leavesFs_one, List.append_assoc]
  | case3 l s h1 p h2 h3 => intro q s' h; cases h
  | case4 l s h1 => intro q s' h; cases h; exact ⟨[], .nil _, (List.append_nil _).symm⟩
theorem rowL_len (l : List Nd) (s : Sta) : ∀ q s', rowL A l s = .inr (q, s') → ∃ r, q = l ++ r := by
  fun_induction rowL A l s with
  | case1 l s h1 e1 h2 => intro q s' h; cases h
  | case2 l s h1 p h2 h3 ih => intro q s' h; obtain ⟨r, e⟩ := ih q s' h; exact ⟨[p.1] ++ r, by rw [e, List.append_assoc]⟩
  | case3 l s h1 p h2 h3 => intro q s' h; cases h
  | case4 l s h1 => intro q s' h; cases h; exact ⟨[], (List.append_nil _).symm⟩
theorem passes_row (hA : Passes A) : Passes (rowP A) := fun s n s' h => by
  unfold rowP at h
  split at h
  · cases h
  · rename_i p hp
    have h1 := hA s p.1 p.2 hp
    split at h
    · cases h
    · rename_i q hq
      obtain ⟨m, k1, k2⟩ := passes_rowL hA _ _ _ _ hq
      obtain ⟨r, hr⟩ := rowL_len _ _ _ _ hq
      rw [leavesFs_one] at k2
      split at h
      · rename_i hl
        cases h
        have : r = [] := by
          rw [hr, List.length_append, List.length_singleton] at hl
          exact List.eq_nil_iff_length_eq_zero.2 (by omega)
        rw [this, List.append_nil] at hr
        rw [hr, leavesFs_one] at k2
        have : m = [] := by simpa using k2
        subst this
        have := h1.trans k1
        rwa [List.append_nil] at this
      · cases h
        rw [leavesF_node (by decide), k2]
        exact h1.trans k1
theorem passes_arrL (hA : Passes A) (l : List Nd) (s : Sta) : ∀ q s', arrL A l s = .inr (q, s') → ∃ m, Path s m s' ∧ leavesFs q = leavesFs l ++ m ∧ ∃ r, q = l ++ r := by
  fun_induction arrL A l s with
  | case1 l s h1 e1 h2 => intro q s' h; cases h
  | case2 l s h1 p h2 h3 ih =>
    intro q s' h
    obtain ⟨m, k1, k2, r, k3⟩ := ih q s' h
    refine ⟨_, (Path.is h1 (by decide) (by decide)).trans ((passes_row hA _ p.1 p.2 h2).trans k1), ?_, _, by rw [k3, List.append_assoc]⟩
    rw [k2, leavesFs_append, leavesFs_two, leavesF_leaf]
    simp only [List.append_assoc]
  | case3 l s h1 p h2 h3 => intro q s' h; cases h
  | case4 l s h1 => intro q s' h; cases h; exact ⟨[], .nil _, (List.append_nil _).symm, [], (List.append_nil _).symm⟩
theorem passes_arrows (hA : Passes A) {n n' : Nd} {s s' : Sta} (h : arrowsP A n s = .inr (n', s')) : ∃ m, Path s m s' ∧ leavesF n' = leavesF n ++ m := by
  unfold arrowsP at h
  split at h
  · cases h
  · rename_i q hq
    obtain ⟨m, k1, k2, r, k3⟩ := passes_arrL hA _ _ _ _ hq
    rw [leavesFs_one] at k2
    split at h
    · rename_i hl
      cases h
      have : r = [] := by
        rw [k3, List.length_append, List.length_singleton] at hl
        exact List.eq_nil_iff_length_eq_zero.2 (by omega)
      rw [this, List.append_nil] at k3
      rw [k3, leavesFs_one] at k2
      have : m = [] := by simpa using k2
      subst this
      exact ⟨[], k1, (List.append_nil _).symm⟩
    · cases h
      rw [leavesF_node (by decide), k2]
      exact ⟨m, k1, rfl⟩
theorem passes_whole (hA : Passes A) : Passes (wholeP A) := fun s n s' h => by
  unfold wholeP at h
  split at h
  · cases h
  · rename_i p hp
    obtain ⟨m, k1, k2⟩ := passes_arrows hA h
    rw [k2]
    exact (passes_row hA _ p.1 p.2 hp).trans k1
theorem passes_full (hA : Passes A) : Passes (fullP A) := fun s n s' h => by
  unfold fullP at h
  split at h
  · cases h
  · rename_i p hp
    have h1 := passes_row hA _ p.1 p.2 hp
    split at h
    · rename_i hi
      split at h
      · cases h
      · rename_i q hq
        cases h
        rw [leavesF_node (by decide), leavesFs, leavesFs_two, leavesF_leaf]
        exact h1.trans ((Path.is hi (by decide) (by decide)).trans (passes_whole hA _ q.1 q.2 hq))
    · obtain ⟨m, k1, k2⟩ := passes_arrows hA h
      rw [k2]
      exact h1.trans k1
theorem passes_typesL (hA : Passes A) (l : List Nd) (s : Sta) : ∀ q s', typesL A l s = .inr (q, s') → ∃ m, Path s m s' ∧ leavesFs q = leavesFs l ++ m := by
  fun_induction typesL A l s with
  | case1 l s h1 e1 h2 => intro q s' h; cases h
  | case2 l s h1 p h2 h3 ih =>
    intro q s' h
    obtain ⟨m, k1, k2⟩ := ih q s' h
    refine ⟨_, (Path.is h1 (by decide) (by decide)).trans ((hA _ p.1 p.2 h2).trans k1), ?_⟩
    rw [k2, leavesFs_append, leavesFs_two, leavesF_leaf]
    simp only [List.append_assoc]
  | case3 l s h1 p h2 h3 => intro q s' h; cases h
  | case4 l s h1 => intro q s' h; cases h; exact ⟨[], .nil _, (List.append_nil _).symm⟩
theorem passes_comma (l : List Nd) (s : Sta) : ∃ m, Path s m (commaL l s).2 ∧ leavesFs (commaL l s).1 = leavesFs l ++ m := by
  fun_induction commaL l s with
  | case1 l s h1 h2 ih =>
    obtain ⟨m, k1, k2⟩ := ih
    refine ⟨_, (Path.is h1 (by decide) (by decide)).trans k1, ?_⟩
    rw [k2, leavesFs_append, leavesFs_one, leavesF_leaf, List.append_assoc]
  | case2 l s h1 h2 => exact ⟨[], .nil _, (List.append_nil _).symm⟩
  | case3 l s h1 => exact ⟨[], .nil _, (List.append_nil _).symm⟩
theorem passes_round (hA : Passes A) {s : Sta} {n : Nd} {s' : Sta} (hs : startsF (nextM s).1 = true) (h : roundP A s = .inr (n, s')) : Path s (leavesF n) s' := by
  unfold roundP at h
  split at h
  · cases h
  · rename_i p hp
    have h1 := passes_take hs (n := p.1) (s' := p.2) hp
    split at h
    · rename_i hi
      obtain ⟨m, k1, k2⟩ := passes_fin (by decide) h
      rw [k2, leavesFs_two, leavesF_leaf, List.append_assoc]
      exact h1.trans ((Path.is hi (by decide) (by decide)).trans k1)
    split at h
    · obtain ⟨m, k1, k2⟩ := passes_fin (by decide) h
      rw [k2, leavesFs_one]
      exact h1.trans k1
    split at h
    · obtain ⟨m, k1, k2⟩ := passes_fin (by decide) h
      obtain ⟨m2, k3, k4⟩ := passes_comma [p.1] p.2
      rw [k2, k4, leavesFs_one, List.append_assoc]
      exact h1.trans (k3.trans k1)
    split at h
    · cases h
    · rename_i q hq
      have h2 := hA _ q.1 q.2 hq
      split at h
      · cases h
      · rename_i r hr
        obtain ⟨m, k1, k2⟩ := passes_typesL hA _ _ _ _ hr
        obtain ⟨m2, k3, k4⟩ := passes_fin (by split <;> decide) h
        rw [k4, k2, leavesFs_two]
        simp only [List.append_assoc]
        exact h1.trans (h2.trans (k1.trans k3))
theorem passes_square (hA : Passes A) {s : Sta} {n : Nd} {s' : Sta} (hs : startsF (nextM s).1 = true) (h : squareP A s = .inr (n, s')) : Path s (leavesF n) s' := by
  unfold squareP at h
  split at h
  · cases h
  · rename_i p hp
    have h1 := passes_take hs (n := p.1) (s' := p.2) hp
    split at h
    · rename_i hi
      cases h
      rw [leavesF_node (by decide), leavesFs_two, leavesF_leaf]
      exact h1.trans (Path.is hi (by decide) (by decide))
    split at h
    · cases h
    · rename_i q hq
      have h2 := hA _ q.1 q.2 hq
      obtain ⟨m2, k3, k4⟩ := passes_fin (by decide) h
      rw [k4, leavesFs_two, List.append_assoc]
      exact h1.trans (h2.trans k3)
theorem passes_atom (hA : Passes A) : Passes (atomP A) := fun s n s' h => by
  unfold atomP at h
  split at h
  · rename_i hs
    split at h
    · split at h
      · exact passes_round hA hs h
      · exact passes_square hA hs h
    · exact passes_take hs h
  · cases h
theorem passes_type : ∀ d, Passes (typeP d)
  | 0 => fun s n s' h => by cases h
  | d + 1 => passes_whole (passes_atom (passes_type d))
end Go.Proofs.Ytngbihfihdheoaa

/-
  LAWS OF THE TYPES: tokens that are passed over; a tree's leaves.
-/
set_option linter.unusedVariables false
set_option pp.maxSteps 400
namespace Go.Proofs.Ytngbihfihdheoaa
open Go Go.Aw
theorem Path.mu {s t : Sta} {l : List Tk} (h : Path s l t) : Proofs.Ytngbihfihdheoaa.mu t + l.length ≤ Proofs.Ytngbihfihdheoaa.mu s := by
  induction h with
  | nil s => exact Nat.le_refl _
  | cons h1 h2 _ ih => rw [List.length_cons]; omega
theorem mu_parts {a b : Sta} (h : ¬ mu a = mu b) : ¬ (a.pos = b.pos ∧ a.wait = b.wait ∧ a.toks.length = b.toks.length ∧ a.opn.length = b.opn.length) := fun ⟨h1, h2, h3, h4⟩ => h (by unfold mu; rw [h1, h2, h3, h4])
theorem encTs_length (l : List Tk) : (encTs l).length = l.length := by unfold encTs; rw [List.length_map]
theorem app_tk {l : List Tk} {x : Tk} {own : Own} {st : St} {K : V → St → Prop} (h : own.good st) (hb : l.length + 1 ≤ 1000000000)
    (k : ∀ own' : Own, own'.good st → K (.slice 4 (encTs (l ++ [x])) own') (own'.st st ((l ++ [x]).length * 4))) : appendTo 4 40 (encTs l) own [x.cells] (own.st st (l.length * 4)) K := by
  have := appendTo_own (sz := 4) (bytes := 40) (es := encTs l) (new := [x.cells]) (K := K) h (by rw [encTs_length]; show (l.length + 1) * 40 ≤ _; omega) (by rw [encTs_length]; show l.length + 1 < lim; simp only [lim]; omega) rfl (fun own' ho => by
    have := k own' ho
    rw [encTs_length]
    have e : encTs l ++ [x.cells].map (·.map V.wk0) = encTs (l ++ [x]) := by unfold encTs; rw [List.map_append]; rfl
    rw [e]
    rw [List.length_append] at this
    exact this)
  rw [encTs_length] at this
  exact this
section
variable {st : St} {R : Res → St → Prop}
attribute [local irreducible] Go.Aw.appendTo
theorem samestate_no {a b : Sta} (hm : ¬ mu a = mu b) (h : R (.ret (.bool false)) st) : PC 17 [encS a, encS b] st R := by
  refine pcalls_of_body tys_ok [] Try.func17 rfl (by decide) ?_
  have hp := mu_parts hm
  repeat' (conv => whnf
           first
             | with_reducible exact quiet_same
             | with_reducible exact quiet_bool
             | with_reducible exact quiet_not
             | with_reducible refine draw_step (by kernel_rfl) ?_
             | with_reducible refine quiet_go ?_ ?_ ?_
             | with_reducible refine bcase_yes (by first | assumption | omega) ?_
             | with_reducible refine bcase_no (by first | assumption | omega) ?_
             | with_reducible refine bcase_dyes (by omega) ?_
             | with_reducible refine bcase_dno (by omega) ?_
             | with_reducible refine bcase_len (by decide) (fun _ => ?_) (fun _ => ?_)
             | with_reducible refine bcase_eq (fun _ => ?_) (fun _ => ?_)
             | with_reducible refine bcase_dec (fun _ => ?_) (fun _ => ?_)
             | with_reducible refine bcase_true ?_
             | with_reducible refine bcase_false ?_
             | with_reducible refine bcase_intro (fun _ => ?_) (fun _ => ?_)
             | with_reducible refine len_kids (fun _ => ?_)
             | with_reducible refine at_known (by assumption) (by omega) ?_
             | with_reducible refine at_kid (by omega) (by omega) (fun _ _ _ => ?_)
             | with_reducible refine tail_kids (by omega) (by omega) ?_
             | with_reducible refine slice_kids (by omega) (by omega) (by omega) ?_
             | with_reducible refine ex_wrap (by omega) (by omega) ?_
             | with_reducible refine quo_step (by decide) (by omega) (by omega) ?_
             | with_reducible refine rem_step (by decide) ?_
             | with_reducible refine nil_row (fun _ => ?_) ?_
             | with_reducible refine nil_row2 (fun _ => ?_) ?_
             | with_reducible refine len_toks (fun _ => ?_)
             | with_reducible refine len_ints (fun _ => ?_)
             | with_reducible refine tok_known (by assumption) (by omega) ?_
             | with_reducible refine at_tok (by omega) (by omega) (fun _ _ => ?_)
             | with_reducible refine at_int (by omega) (by omega) (fun _ _ => ?_)
             | with_reducible refine slice_ints (by omega) (by omega) (by omega) ?_
             | with_reducible refine draw_head ?_)
  all_goals first | exact fin h rfl | (exfalso; omega)
theorem passed_c {s t : Sta} {l : List Tk} (hp : Path s l t) (hm : mu s ≤ 5000) (h : R (.ret (.tup [.slice 4 (encTs l) .any, .bool true])) st) : PC 23 [encS s, encS t] st R := by
  refine pcalls_of_body tys_ok [] Try.func23 rfl (by decide) ?_
  repeat' (conv => whnf
           first
             | with_reducible exact quiet_same
             | with_reducible exact quiet_bool
             | with_reducible exact quiet_not
             | with_reducible refine draw_step (by kernel_rfl) ?_
             | with_reducible refine quiet_go ?_ ?_ ?_
             | with_reducible refine bcase_yes (by first | assumption | omega) ?_
             | with_reducible refine bcase_no (by first | assumption | omega) ?_
             | with_reducible refine bcase_dyes (by omega) ?_
             | with_reducible refine bcase_dno (by omega) ?_
             | with_reducible refine bcase_len (by decide) (fun _ => ?_) (fun _ => ?_)
             | with_reducible refine bcase_eq (fun _ => ?_) (fun _ => ?_)
             | with_reducible refine bcase_dec (fun _ => ?_) (fun _ => ?_)
             | with_reducible refine bcase_true ?_
             | with_reducible refine bcase_false ?_
             | with_reducible refine bcase_intro (fun _ => ?_) (fun _ => ?_)
             | with_reducible refine len_kids (fun _ => ?_)
             | with_reducible refine at_known (by assumption) (by omega) ?_
             | with_reducible refine at_kid (by omega) (by omega) (fun _ _ _ => ?_)
             | with_reducible refine tail_kids (by omega) (by omega) ?_
             | with_reducible refine slice_kids (by omega) (by omega) (by omega) ?_
             | with_reducible refine ex_wrap (by omega) (by omega) ?_
             | with_reducible refine quo_step (by decide) (by omega) (by omega) ?_
             | with_reducible refine rem_step (by decide) ?_
             | with_reducible refine nil_row (fun _ => ?_) ?_
             | with_reducible refine nil_row2 (fun _ => ?_) ?_
             | with_reducible refine len_toks (fun _ => ?_)
             | with_reducible refine len_ints (fun _ => ?_)
             | with_reducible refine tok_known (by assumption) (by omega) ?_
             | with_reducible refine at_tok (by omega) (by omega) (fun _ _ => ?_)
             | with_reducible refine at_int (by omega) (by omega) (fun _ _ => ?_)
             | with_reducible refine slice_ints (by omega) (by omega) (by omega) ?_
             | with_reducible refine draw_head ?_)
  refine loop_h (α := List Tk × Sta × Own) (fun x => [(6, .slice 4 (encTs x.1) x.2.2), (7, .int .i64 (x.1.length : Nat))]) [2, 3] (fun x => [(0, x.2.1.cells)]) [1] (fun x => x.2.2.st st (x.1.length * 4))
    (fun x => x.2.2.good st ∧ (∃ r, Path x.2.1 r t ∧ l = x.1 ++ r) ∧ x.1.length + mu x.2.1 ≤ 5000) (fun x => mu x.2.1) ([], s, .full)
    ⟨trivial, ⟨l, hp, rfl⟩, by show 0 + mu s ≤ _; omega⟩ (by refine ⟨rfl, ?_, ?_, rfl⟩ <;> repeat' (first | exact trivial | exact rfl | refine And.intro ?_ ?_)) (St.le_refl _) ?_
  rintro ⟨d, s3, own⟩ ⟨j1, ⟨r, j2, j3⟩, j4⟩
  dsimp only at j1 j2 j3 j4
  have hd : (d.length : Int) < 7000 := by omega
  have hb3 := opn_le (s := s3) (by omega)
  have hn : d.length + 1 ≤ 1000000000 := by omega
  cases j2 with
  | nil =>
    rw [List.append_nil] at j3
    subst j3
    repeat' (conv => whnf
             first
               | with_reducible exact quiet_same
               | with_reducible exact quiet_bool
               | with_reducible exact quiet_not
               | with_reducible refine draw_step (by kernel_rfl) ?_
               | with_reducible refine quiet_go ?_ ?_ ?_
               | with_reducible refine bcase_yes (by first | assumption | omega) ?_
               | with_reducible refine bcase_no (by first | assumption | omega) ?_
               | with_reducible refine bcase_dyes (by omega) ?_
               | with_reducible refine bcase_dno (by omega) ?_
               | with_reducible refine bcase_len (by decide) (fun _ => ?_) (fun _ => ?_)
               | with_reducible refine bcase_eq (fun _ => ?_) (fun _ => ?_)
               | with_reducible refine bcase_dec (fun _ => ?_) (fun _ => ?_)
               | with_reducible refine bcase_true ?_
               | with_reducible refine bcase_false ?_
               | with_reducible refine bcase_intro (fun _ => ?_) (fun _ => ?_)
               | with_reducible refine len_kids (fun _ => ?_)
               | with_reducible refine at_known (by assumption) (by omega) ?_
               | with_reducible refine at_kid (by omega) (by omega) (fun _ _ _ => ?_)
               | with_reducible refine tail_kids (by omega) (by omega) ?_
               | with_reducible refine slice_kids (by omega) (by omega) (by omega) ?_
               | with_reducible refine ex_wrap (by omega) (by omega) ?_
               | with_reducible refine quo_step (by decide) (by omega) (by omega) ?_
               | with_reducible refine rem_step (by decide) ?_
               | with_reducible refine nil_row (fun _ => ?_) ?_
               | with_reducible refine nil_row2 (fun _ => ?_) ?_
               | with_reducible refine len_toks (fun _ => ?_)
               | with_reducible refine len_ints (fun _ => ?_)
               | with_reducible refine tok_known (by assumption) (by omega) ?_
               | with_reducible refine at_tok (by omega) (by omega) (fun _ _ => ?_)
               | with_reducible refine at_int (by omega) (by omega) (fun _ _ => ?_)
               | with_reducible refine slice_ints (by omega) (by omega) (by omega) ?_
               | refine samestate_c ?_
               | with_reducible refine draw_head ?_)
    all_goals exact finl (Own.good_le j1) rfl h
  | cons hz hlt hr =>
    rename_i r
    have hne : ¬ mu s3 = mu t := by have := hr.mu; omega
    repeat' (conv => whnf
             first
               | with_reducible exact quiet_same
               | with_reducible exact quiet_bool
               | with_reducible exact quiet_not
               | with_reducible refine draw_step (by kernel_rfl) ?_
               | with_reducible refine quiet_go ?_ ?_ ?_
               | with_reducible refine bcase_yes (by first | assumption | omega) ?_
               | with_reducible refine bcase_no (by first | assumption | omega) ?_
               | with_reducible refine bcase_dyes (by omega) ?_
               | with_reducible refine bcase_dno (by omega) ?_
               | with_reducible refine bcase_len (by decide) (fun _ => ?_) (fun _ => ?_)
               | with_reducible refine bcase_eq (fun _ => ?_) (fun _ => ?_)
               | with_reducible refine bcase_dec (fun _ => ?_) (fun _ => ?_)
               | with_reducible refine bcase_true ?_
               | with_reducible refine bcase_false ?_
               | with_reducible refine bcase_intro (fun _ => ?_) (fun _ => ?_)
               | with_reducible refine len_kids (fun _ => ?_)
               | with_reducible refine at_known (by assumption) (by omega) ?_
               | with_reducible refine at_kid (by omega) (by omega) (fun _ _ _ => ?_)
               | with_reducible refine tail_kids (by omega) (by omega) ?_
               | with_reducible refine slice_kids (by omega) (by omega) (by omega) ?_
               | with_reducible refine ex_wrap (by omega) (by omega) ?_
               | with_reducible refine quo_step (by decide) (by omega) (by omega) ?_
               | with_reducible refine rem_step (by decide) ?_
               | with_reducible refine nil_row (fun _ => ?_) ?_
               | with_reducible refine nil_row2 (fun _ => ?_) ?_
               | with_reducible refine len_toks (fun _ => ?_)
               | with_reducible refine len_ints (fun _ => ?_)
               | with_reducible refine tok_known (by assumption) (by omega) ?_
               | with_reducible refine at_tok (by omega) (by omega) (fun _ _ => ?_)
               | with_reducible refine at_int (by omega) (by omega) (fun _ _ => ?_)
               | with_reducible refine slice_ints (by omega) (by omega) (by omega) ?_
               | refine samestate_no hne ?_
               | refine next_c (s := s3) hb3 ?_
               | refine app_tk (l := d) (x := (nextM s3).1) j1 hn (fun own1 ho1 => ?_)
               | refine ex_wrap (a := (d.length : Int) + 1) (by omega) (by omega) ?_
               | with_reducible refine draw_head ?_)
    all_goals conv => whnf
    have hl : (((d ++ [(nextM s3).1]).length : Nat) : Int) = (d.length : Int) + 1 := by rw [List.length_append, List.length_singleton]; rfl
    all_goals refine ⟨(d ++ [(nextM s3).1], (nextM s3).2.1, own1), ⟨ho1, ⟨r, hr, by rw [j3, List.append_assoc]; rfl⟩, by show (d ++ [(nextM s3).1]).length + mu (nextM s3).2.1 ≤ 5000; rw [List.length_append, List.length_singleton]; omega⟩, hlt, ?_, St.le_refl _⟩
    all_goals rw [hl]
    all_goals exact (by refine ⟨rfl, ?_, ?_, rfl⟩ <;> repeat' (first | exact trivial | exact rfl | refine And.intro ?_ ?_))
end
end Go.Proofs.Ytngbihfihdheoaa
