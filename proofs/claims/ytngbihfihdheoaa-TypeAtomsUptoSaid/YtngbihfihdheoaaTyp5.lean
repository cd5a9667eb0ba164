/-
  TYPES: row, arrows, whole.
-/
import Derived.Test.YtngbihfihdheoaaTyp4
set_option linter.unusedVariables false
set_option pp.maxSteps 400
namespace Go.Proofs.Ytngbihfihdheoaa
open Go Go.Aw

theorem app_m {l : List Nd} {x : Nd} {own : Own} {st : St} {K : V → St → Prop} (h : own.good st) (hb : l.length + 1 ≤ 1000000000)
    (k : ∀ own' : Own, own'.good st → K (.slice 6 ((l ++ [x]).map encN) own') (own'.st st ((l ++ [x]).length * 6))) : appendTo 6 72 (l.map encN) own [encN x] (own.st st (l.length * 6)) K := by
  rw [← encs_map]
  exact app_node1 h hb (by simpa only [encs_map] using k)
theorem fin_node {k : Int} {l : List Nd} {own : Own} : Res.ret (enc (nodeK k l)) = (Res.ret (.agg [.int .i64 k, .int .i64 0, .str [], .int .i64 0, .int .i64 0, .slice 6 (l.map encN) own])).wk := by
  rw [← encs_map]; rfl
theorem rowL_at {A : Sta → Rs} {l : List Nd} {s : Sta} {n : Nd} {s' : Sta} (h : startsF (nextM s).1 = true) (hA : A s = .inr (n, s')) (hm : mu s' < mu s) : rowL A l s = rowL A (l ++ [n]) s' := by
  rw [rowL, if_pos h, hA]
  dsimp only
  rw [if_pos hm]

section
variable {st : St} {R : Res → St → Prop}
attribute [local irreducible] Go.Aw.appendTo

theorem len_m {l : List Nd} {K : Nat → Prop} (k : l.length < 4611686018427387904 → K l.length) : ∀ m, m = (l.map encN).length → m < lim → K m := fun m hm h => by
  rw [List.length_map] at hm; subst hm; exact k h

theorem own_set {own : Own} {st : St} {n b : Nat} {cs : List V} : (own.st st n).setBox b cs = own.st (st.setBox b cs) n := by cases own <;> rfl
theorem peek_o {own : Own} {n b : Nat} {s : Sta} (hg : own.good st) (hs : Has st b s) (hb : s.opn.length ≤ 500000000) (h : R (.ret (encT (nextM s).1)) (own.st (st.setBox b (lookC s)) n)) : PC 51 [.ptr b 0] (own.st st n) R :=
  peek_c (hs.hw own n) hb (by rw [own_set]; exact h)
theorem good_set {own : Own} {b : Nat} {s : Sta} {cs : List V} (hg : own.good st) (hs : Has st b s) : own.good (st.setBox b cs) := by
  cases own with
  | any => exact hg
  | full => trivial
  | tok t =>
    have : b ≠ t := by
      rintro rfl
      have h2 : st.box b = none := hg.1
      rcases hs with k | ⟨_, _, _, _, _, k⟩ <;> (rw [h2] at k; cases k)
    exact ⟨by rw [St.box_ne this]; exact hg.1, hg.2⟩
theorem one_at {l : List Nd} {n1 : Nd} {K : List V → Prop} (h : l.length = Int.toNat 1) (j : l.length = 1 → l = [n1]) (k : K (encN n1)) : (0 : Int) ≤ 0 ∧ ∃ e, (l.map encN)[Int.toNat 0]? = some e ∧ K e :=
  ⟨Int.le_refl _, encN n1, by rw [j h]; rfl, k⟩

theorem row_c {d : Int} {A : Sta → Rs} (ha : Reads0 37 d A) (hF : Falls A) : Reads0 39 d (rowP A) := by
  intro s hm b st R hs h
  refine pcalls_of_body tys_ok [] Try.func39 rfl (by decide) ?_
  unfold rowP at h
  cases hq1 : A s with
  | inl q =>
    obtain ⟨e, s1⟩ := q
    rw [hq1] at h
    repeat' (conv => whnf
             first
               | with_reducible exact quiet_same
               | with_reducible exact quiet_bool
               | with_reducible exact quiet_not
               | with_reducible refine draw_step (by kernel_rfl) ?_
               | with_reducible refine quiet_go ?_ ?_ ?_
               | with_reducible refine bcase_yes (by first | assumption | omega) ?_
               | with_reducible refine bcase_no (by first | assumption | omega) ?_
               | with_reducible refine bcase_dyes (by omega) ?_
               | with_reducible refine bcase_dno (by omega) ?_
               | with_reducible refine bcase_len (by decide) (fun _ => ?_) (fun _ => ?_)
               | with_reducible refine bcase_eq (fun _ => ?_) (fun _ => ?_)
               | with_reducible refine bcase_dec (fun _ => ?_) (fun _ => ?_)
               | with_reducible refine bcase_true ?_
               | with_reducible refine bcase_false ?_
               | with_reducible refine bcase_intro (fun _ => ?_) (fun _ => ?_)
               | with_reducible refine len_kids (fun _ => ?_)
               | with_reducible refine at_known (by assumption) (by omega) ?_
               | with_reducible refine at_kid (by omega) (by omega) (fun _ _ _ => ?_)
               | with_reducible refine tail_kids (by omega) (by omega) ?_
               | with_reducible refine slice_kids (by omega) (by omega) (by omega) ?_
               | with_reducible refine ex_wrap (by omega) (by omega) ?_
               | with_reducible refine quo_step (by decide) (by omega) (by omega) ?_
               | with_reducible refine rem_step (by decide) ?_
               | with_reducible refine nil_row (fun _ => ?_) ?_
               | with_reducible refine nil_row2 (fun _ => ?_) ?_
               | with_reducible refine len_toks (fun _ => ?_)
               | with_reducible refine len_ints (fun _ => ?_)
               | with_reducible refine tok_known (by assumption) (by omega) ?_
               | with_reducible refine at_tok (by omega) (by omega) (fun _ _ => ?_)
               | with_reducible refine at_int (by omega) (by omega) (fun _ _ => ?_)
               | with_reducible refine slice_ints (by omega) (by omega) (by omega) ?_
               | refine ha s hm b _ _ hs (tells_l hq1 (fun st1 h1 => ?_))
               | with_reducible refine draw_head ?_)
    all_goals exact fin (h st1 h1) rfl
  | inr q =>
    obtain ⟨n1, s1⟩ := q
    rw [hq1] at h
    have hf1 := hF _ _ _ hq1
    dsimp only at h
    repeat' (conv => whnf
             first
               | with_reducible exact quiet_same
               | with_reducible exact quiet_bool
               | with_reducible exact quiet_not
               | with_reducible refine draw_step (by kernel_rfl) ?_
               | with_reducible refine quiet_go ?_ ?_ ?_
               | with_reducible refine bcase_yes (by first | assumption | omega) ?_
               | with_reducible refine bcase_no (by first | assumption | omega) ?_
               | with_reducible refine bcase_dyes (by omega) ?_
               | with_reducible refine bcase_dno (by omega) ?_
               | with_reducible refine bcase_len (by decide) (fun _ => ?_) (fun _ => ?_)
               | with_reducible refine bcase_eq (fun _ => ?_) (fun _ => ?_)
               | with_reducible refine bcase_dec (fun _ => ?_) (fun _ => ?_)
               | with_reducible refine bcase_true ?_
               | with_reducible refine bcase_false ?_
               | with_reducible refine bcase_intro (fun _ => ?_) (fun _ => ?_)
               | with_reducible refine len_kids (fun _ => ?_)
               | with_reducible refine at_known (by assumption) (by omega) ?_
               | with_reducible refine at_kid (by omega) (by omega) (fun _ _ _ => ?_)
               | with_reducible refine tail_kids (by omega) (by omega) ?_
               | with_reducible refine slice_kids (by omega) (by omega) (by omega) ?_
               | with_reducible refine ex_wrap (by omega) (by omega) ?_
               | with_reducible refine quo_step (by decide) (by omega) (by omega) ?_
               | with_reducible refine rem_step (by decide) ?_
               | with_reducible refine nil_row (fun _ => ?_) ?_
               | with_reducible refine nil_row2 (fun _ => ?_) ?_
               | with_reducible refine len_toks (fun _ => ?_)
               | with_reducible refine len_ints (fun _ => ?_)
               | with_reducible refine tok_known (by assumption) (by omega) ?_
               | with_reducible refine at_tok (by omega) (by omega) (fun _ _ => ?_)
               | with_reducible refine at_int (by omega) (by omega) (fun _ _ => ?_)
               | with_reducible refine slice_ints (by omega) (by omega) (by omega) ?_
               | refine ha s hm b _ _ hs (tells_r hq1 (fun st1 h1 => ?_))
               | with_reducible refine draw_head ?_)
    refine loop_h (α := List Nd × Sta × St × Own) (fun x => [(5, .slice 6 (x.1.map encN) x.2.2.2)]) [0, 1, 4] (fun x => []) [0] (fun x => x.2.2.2.st x.2.2.1 (x.1.length * 6))
      (fun x => x.2.2.2.good x.2.2.1 ∧ Upd st x.2.2.1 b x.2.1 ∧ x.1 ≠ [] ∧ x.1.length + mu x.2.1 ≤ 200000000 ∧ mu x.2.1 ≤ mu s1 ∧ rowL A x.1 x.2.1 = rowL A [n1] s1 ∧ (x.1.length = 1 → x.1 = [n1])) (fun x => mu x.2.1) ([n1], s1, st1, .full)
      ⟨trivial, h1, by simp, by show 1 + mu s1 ≤ _; omega, Nat.le_refl _, rfl, fun _ => rfl⟩ (by refine ⟨rfl, ?_, ?_, rfl⟩ <;> repeat' (first | exact trivial | exact rfl | refine And.intro ?_ ?_)) (St.le_refl _) ?_
    rintro ⟨l, s2, st2, own⟩ ⟨j1, j2, j3, j4, j5, j6, j7⟩
    dsimp only at j1 j2 j3 j4 j5 j6 j7
    have hm2 : mu s2 ≤ 100000000 := by omega
    have hb2 := opn_le hm2
    have hl3 : Has (st2.setBox b (lookC s2)) b s2 := .inl (St.box_same ..)
    have g3 : own.good (st2.setBox b (lookC s2)) := good_set j1 j2.1
    have u3 : Upd st (st2.setBox b (lookC s2)) b s2 := j2.trans upd_look
    have hn : l.length + 1 ≤ 1000000000 := by omega
    repeat' (conv => whnf
             first
               | with_reducible exact quiet_same
               | with_reducible exact quiet_bool
               | with_reducible exact quiet_not
               | with_reducible refine draw_step (by kernel_rfl) ?_
               | with_reducible refine quiet_go ?_ ?_ ?_
               | with_reducible refine bcase_yes (by first | assumption | omega) ?_
               | with_reducible refine bcase_no (by first | assumption | omega) ?_
               | with_reducible refine bcase_dyes (by omega) ?_
               | with_reducible refine bcase_dno (by omega) ?_
               | with_reducible refine bcase_len (by decide) (fun _ => ?_) (fun _ => ?_)
               | with_reducible refine bcase_eq (fun _ => ?_) (fun _ => ?_)
               | with_reducible refine bcase_dec (fun _ => ?_) (fun _ => ?_)
               | with_reducible refine bcase_true ?_
               | with_reducible refine bcase_false ?_
               | with_reducible refine bcase_intro (fun _ => ?_) (fun _ => ?_)
               | with_reducible refine len_kids (fun _ => ?_)
               | with_reducible refine at_known (by assumption) (by omega) ?_
               | with_reducible refine at_kid (by omega) (by omega) (fun _ _ _ => ?_)
               | with_reducible refine tail_kids (by omega) (by omega) ?_
               | with_reducible refine slice_kids (by omega) (by omega) (by omega) ?_
               | with_reducible refine ex_wrap (by omega) (by omega) ?_
               | with_reducible refine quo_step (by decide) (by omega) (by omega) ?_
               | with_reducible refine rem_step (by decide) ?_
               | with_reducible refine nil_row (fun _ => ?_) ?_
               | with_reducible refine nil_row2 (fun _ => ?_) ?_
               | with_reducible refine len_toks (fun _ => ?_)
               | with_reducible refine len_ints (fun _ => ?_)
               | with_reducible refine tok_known (by assumption) (by omega) ?_
               | with_reducible refine at_tok (by omega) (by omega) (fun _ _ => ?_)
               | with_reducible refine at_int (by omega) (by omega) (fun _ _ => ?_)
               | with_reducible refine slice_ints (by omega) (by omega) (by omega) ?_
               | refine peek_o j1 j2.1 hb2 ?_
               | refine starts_c ?_
               | refine ha s2 hm2 b _ _ (hl3.hw own _) (tells_own g3 hl3 (tellsO_of (fun n2 s4 hq2 st4 h4 g4 => ?_) (fun e2 s4 hq2 st4 h4 g4 => ?_)))
               | refine app_m (l := l) g4 hn (fun own' ho' => ?_)
               | refine len_m (fun _ => ?_)
               | refine one_at (by assumption) j7 ?_
               | with_reducible refine draw_head ?_)
    · have hd := hF _ _ _ hq2
      refine ⟨(l ++ [n2], s4, st4, own'), ⟨ho', u3.trans h4, by simp, by show (l ++ [n2]).length + mu s4 ≤ _; rw [List.length_append, List.length_singleton]; omega, by show mu s4 ≤ _; omega, ?_, ?_⟩, hd, (by refine ⟨rfl, ?_, ?_, rfl⟩ <;> repeat' (first | exact trivial | exact rfl | refine And.intro ?_ ?_)), St.le_refl _⟩
      · show rowL A (l ++ [n2]) s4 = _
        rw [← j6, rowL_at (l := l) (by assumption) hq2 hd]
      · intro e
        have := List.length_pos_iff.2 j3
        have e : (l ++ [n2]).length = 1 := e
        rw [List.length_append, List.length_singleton] at e
        omega
    · have hr : rowL A l s2 = .inl (e2, s4) := by rw [rowL, if_pos (by assumption), hq2]
      rw [← j6, hr] at h
      exact finl (Own.good_le g4) rfl (h st4 (u3.trans h4))
    · have hr : rowL A l s2 = .inr (l, s2) := by rw [rowL, if_neg (Bool.eq_false_iff.1 (by assumption))]
      rw [← j6, hr] at h
      dsimp only at h
      rw [if_pos (by assumption)] at h
      exact finl (Own.good_le g3) rfl (h _ u3)
    · have hr : rowL A l s2 = .inr (l, s2) := by rw [rowL, if_neg (Bool.eq_false_iff.1 (by assumption))]
      rw [← j6, hr] at h
      dsimp only at h
      rw [if_neg (by assumption)] at h
      exact finl (Own.good_le g3) fin_node (h _ u3)
end
end Go.Proofs.Ytngbihfihdheoaa
