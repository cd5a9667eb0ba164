/-
  TYPES: arrows, whole.
-/
import Derived.Test.YtngbihfihdheoaaTyp5
set_option linter.unusedVariables false
set_option pp.maxSteps 400
namespace Go.Proofs.Ytngbihfihdheoaa
open Go Go.Aw

theorem app_m2 {l : List Nd} {x y : Nd} {own : Own} {st : St} {K : V → St → Prop} (h : own.good st) (hb : l.length + 2 ≤ 1000000000)
    (k : ∀ own' : Own, own'.good st → K (.slice 6 ((l ++ [x, y]).map encN) own') (own'.st st ((l ++ [x, y]).length * 6))) : appendTo 6 72 (l.map encN) own [encN x, encN y] (own.st st (l.length * 6)) K := by
  rw [← encs_map]
  have := app_nodes (l := l) (new := [x, y]) h hb (by simpa only [encs_map] using k)
  rw [encs_map [x, y]] at this
  exact this
theorem arrL_at {A : Sta → Rs} {l : List Nd} {s : Sta} {n : Nd} {s' : Sta} (h : isF s 10 [45, 62] = true) (hA : rowP A (nextM s).2.1 = .inr (n, s')) (hm : mu s' < mu s) : arrL A l s = arrL A (l ++ [leafT (nextM s).1, n]) s' := by
  rw [arrL, if_pos h, hA]
  dsimp only
  rw [if_pos hm]
theorem take_is {s : Sta} {k : Int} {x : List UInt8} (h : isF s k x = true) (hk : k ≠ 0) : takeP s = .inr (leafT (nextM s).1, (nextM s).2.1) := by unfold takeP; rw [if_pos (isF_ok h hk)]

section
variable {st : St} {R : Res → St → Prop}
attribute [local irreducible] Go.Aw.appendTo
theorem is_o {own : Own} {n b : Nat} {s : Sta} {k : Int} {x : List UInt8} (hs : Has st b s) (hb : s.opn.length ≤ 500000000) (h : R (.ret (.bool (isF s k x))) (own.st (st.setBox b (lookC s)) n)) : PC 48 [.ptr b 0, .int .i64 k, .str x] (own.st st n) R :=
  is_c (hs.hw own n) hb (by rw [own_set]; exact h)
theorem tells_ro {own : Own} {n : Nat} {st : St} {b : Nat} {s s' : Sta} {R : Res → St → Prop} {q : Rs} {x : Nd} (hg : own.good st) (hh : Has st b s) (e : q = .inr (x, s')) (h : ∀ st', Upd st st' b s' → own.good st' → R (.ret (enc x)) (own.st st' n)) : Tells (own.st st n) b R q :=
  tells_own hg hh (by subst e; exact h)

def ReadsN (f : FuncId) (d : Int) (A : Nd → Sta → Rs) : Prop := ∀ n s, mu s ≤ 100000000 → ∀ (b : Nat) (st : St) (R : Res → St → Prop), Has st b s → Tells st b R (A n s) → PC f [.ptr b 0, enc n, .int .i64 d] st R
theorem arrows_c {d : Int} {A : Sta → Rs} (hr : Reads0 39 d (rowP A)) (hF : Falls A) : ReadsN 45 d (arrowsP A) := by
  intro n1 s1 hm b st R hs h
  refine pcalls_of_body tys_ok [] Try.func45 rfl (by decide) ?_
  unfold arrowsP at h
  repeat' (conv => whnf
           first
             | with_reducible exact quiet_same
             | with_reducible exact quiet_bool
             | with_reducible exact quiet_not
             | with_reducible refine draw_step (by kernel_rfl) ?_
             | with_reducible refine quiet_go ?_ ?_ ?_
             | with_reducible refine bcase_yes (by first | assumption | omega) ?_
             | with_reducible refine bcase_no (by first | assumption | omega) ?_
             | with_reducible refine bcase_dyes (by omega) ?_
             | with_reducible refine bcase_dno (by omega) ?_
             | with_reducible refine bcase_len (by decide) (fun _ => ?_) (fun _ => ?_)
             | with_reducible refine bcase_eq (fun _ => ?_) (fun _ => ?_)
             | with_reducible refine bcase_dec (fun _ => ?_) (fun _ => ?_)
             | with_reducible refine bcase_true ?_
             | with_reducible refine bcase_false ?_
             | with_reducible refine bcase_intro (fun _ => ?_) (fun _ => ?_)
             | with_reducible refine len_kids (fun _ => ?_)
             | with_reducible refine at_known (by assumption) (by omega) ?_
             | with_reducible refine at_kid (by omega) (by omega) (fun _ _ _ => ?_)
             | with_reducible refine tail_kids (by omega) (by omega) ?_
             | with_reducible refine slice_kids (by omega) (by omega) (by omega) ?_
             | with_reducible refine ex_wrap (by omega) (by omega) ?_
             | with_reducible refine quo_step (by decide) (by omega) (by omega) ?_
             | with_reducible refine rem_step (by decide) ?_
             | with_reducible refine nil_row (fun _ => ?_) ?_
             | with_reducible refine nil_row2 (fun _ => ?_) ?_
             | with_reducible refine len_toks (fun _ => ?_)
             | with_reducible refine len_ints (fun _ => ?_)
             | with_reducible refine tok_known (by assumption) (by omega) ?_
             | with_reducible refine at_tok (by omega) (by omega) (fun _ _ => ?_)
             | with_reducible refine at_int (by omega) (by omega) (fun _ _ => ?_)
             | with_reducible refine slice_ints (by omega) (by omega) (by omega) ?_
             | with_reducible refine draw_head ?_)
  refine loop_h (α := List Nd × Sta × St × Own) (fun x => [(7, .slice 6 (x.1.map encN) x.2.2.2)]) [0, 2, 4, 6] (fun x => []) [0, 1] (fun x => x.2.2.2.st x.2.2.1 (x.1.length * 6))
      (fun x => x.2.2.2.good x.2.2.1 ∧ Has x.2.2.1 b x.2.1 ∧ (∃ s0, Upd st x.2.2.1 b s0 ∨ x.2.2.1 = st) ∧ x.1 ≠ [] ∧ x.1.length + 2 * mu x.2.1 ≤ 400000000 ∧ mu x.2.1 ≤ mu s1 ∧ arrL A x.1 x.2.1 = arrL A [n1] s1) (fun x => mu x.2.1) ([n1], s1, st, .full)
      ⟨trivial, hs, ⟨s1, .inr rfl⟩, by simp, by show 1 + 2 * mu s1 ≤ _; omega, Nat.le_refl _, rfl⟩ (by refine ⟨rfl, ?_, ?_, rfl⟩ <;> repeat' (first | exact trivial | exact rfl | refine And.intro ?_ ?_)) (St.le_refl _) ?_
  rintro ⟨l, s2, st2, own⟩ ⟨j1, j2, j3, j4, j5, j6, j7⟩
  dsimp only at j1 j2 j3 j4 j5 j6 j7
  have hm2 : mu s2 ≤ 100000000 := by omega
  have hb2 := opn_le hm2
  have hl3 : Has (st2.setBox b (lookC s2)) b s2 := .inl (St.box_same ..)
  have g3 : own.good (st2.setBox b (lookC s2)) := good_set j1 j2
  have up : ∀ {st4 s4}, Upd st2 st4 b s4 → Upd st st4 b s4 := fun {st4 s4} hu => by
    obtain ⟨s0, h3 | h3⟩ := j3
    · exact h3.trans hu
    · subst h3; exact hu
  have hn : l.length + 2 ≤ 1000000000 := by omega
  have hm4 : isF s2 10 [45, 62] = true → mu (nextM s2).2.1 ≤ 100000000 := fun e => by have := isF_mu e (by decide) (by decide); omega
  repeat' (conv => whnf
           first
             | with_reducible exact quiet_same
             | with_reducible exact quiet_bool
             | with_reducible exact quiet_not
             | with_reducible refine draw_step (by kernel_rfl) ?_
             | with_reducible refine quiet_go ?_ ?_ ?_
             | with_reducible refine bcase_yes (by first | assumption | omega) ?_
             | with_reducible refine bcase_no (by first | assumption | omega) ?_
             | with_reducible refine bcase_dyes (by omega) ?_
             | with_reducible refine bcase_dno (by omega) ?_
             | with_reducible refine bcase_len (by decide) (fun _ => ?_) (fun _ => ?_)
             | with_reducible refine bcase_eq (fun _ => ?_) (fun _ => ?_)
             | with_reducible refine bcase_dec (fun _ => ?_) (fun _ => ?_)
             | with_reducible refine bcase_true ?_
             | with_reducible refine bcase_false ?_
             | with_reducible refine bcase_intro (fun _ => ?_) (fun _ => ?_)
             | with_reducible refine len_kids (fun _ => ?_)
             | with_reducible refine at_known (by assumption) (by omega) ?_
             | with_reducible refine at_kid (by omega) (by omega) (fun _ _ _ => ?_)
             | with_reducible refine tail_kids (by omega) (by omega) ?_
             | with_reducible refine slice_kids (by omega) (by omega) (by omega) ?_
             | with_reducible refine ex_wrap (by omega) (by omega) ?_
             | with_reducible refine quo_step (by decide) (by omega) (by omega) ?_
             | with_reducible refine rem_step (by decide) ?_
             | with_reducible refine nil_row (fun _ => ?_) ?_
             | with_reducible refine nil_row2 (fun _ => ?_) ?_
             | with_reducible refine len_toks (fun _ => ?_)
             | with_reducible refine len_ints (fun _ => ?_)
             | with_reducible refine tok_known (by assumption) (by omega) ?_
             | with_reducible refine at_tok (by omega) (by omega) (fun _ _ => ?_)
             | with_reducible refine at_int (by omega) (by omega) (fun _ _ => ?_)
             | with_reducible refine slice_ints (by omega) (by omega) (by omega) ?_
             | refine is_o j2 hb2 ?_
             | refine take_r (hl3.hw own _) hb2 (tells_ro g3 hl3 (take_is (by assumption) (by decide)) (fun st4 h4 g4 => ?_))
             | refine hr _ (hm4 (by assumption)) b _ _ (h4.1.hw own _) (tells_own g4 h4.1 (tellsO_of (fun n2 s5 hq2 st5 h5 g5 => ?_) (fun e2 s5 hq2 st5 h5 g5 => ?_)))
             | refine app_m2 (l := l) (x := leafT (nextM s2).1) (y := n2) g5 hn (fun own' ho' => ?_)
             | refine len_m (fun _ => ?_)
             | with_reducible refine draw_head ?_)
  · have hp : isF s2 10 [45, 62] = true := by assumption
    have hd := falls_row hF _ _ _ hq2
    have hd2 := isF_mu hp (by decide) (by decide)
    have hd3 : mu s5 < mu s2 := by omega
    have hu := (upd_look (st := st2) (b := b) (s := s2)).trans (h4.trans h5)
    refine ⟨(l ++ [leafT (nextM s2).1, n2], s5, st5, own'), ⟨ho', h5.1, ⟨s5, .inl (up hu)⟩, by simp, ?_, by show mu s5 ≤ _; omega, ?_⟩, hd3, (by refine ⟨rfl, ?_, ?_, rfl⟩ <;> repeat' (first | exact trivial | exact rfl | refine And.intro ?_ ?_)), St.le_refl _⟩
    · show (l ++ [leafT (nextM s2).1, n2]).length + 2 * mu s5 ≤ _
      rw [List.length_append]
      show l.length + 2 + 2 * mu s5 ≤ _
      omega
    · show arrL A (l ++ [leafT (nextM s2).1, n2]) s5 = _
      rw [← j7, arrL_at (l := l) hp hq2 hd3]
  · have hp : isF s2 10 [45, 62] = true := by assumption
    have hu := (upd_look (st := st2) (b := b) (s := s2)).trans (h4.trans h5)
    have hr : arrL A l s2 = .inl (e2, s5) := by rw [arrL, if_pos hp, hq2]
    rw [← j7, hr] at h
    exact finl (Own.good_le g5) rfl (h st5 (up hu))
  · have hr : arrL A l s2 = .inr (l, s2) := by rw [arrL, if_neg (Bool.eq_false_iff.1 (by assumption))]
    rw [← j7, hr] at h
    dsimp only at h
    rw [if_pos (by assumption)] at h
    exact finl (Own.good_le g3) rfl (h _ (up upd_look))
  · have hr : arrL A l s2 = .inr (l, s2) := by rw [arrL, if_neg (Bool.eq_false_iff.1 (by assumption))]
    rw [← j7, hr] at h
    dsimp only at h
    rw [if_neg (by assumption)] at h
    exact finl (Own.good_le g3) fin_node (h _ (up upd_look))

theorem whole_c {d : Int} {A : Sta → Rs} (hr : Reads0 39 d (rowP A)) (ha : ReadsN 45 d (arrowsP A)) (hF : Falls A) : Reads0 28 d (wholeP A) := by
  intro s hm b st R hs h
  refine pcalls_of_body tys_ok [] Try.func28 rfl (by decide) ?_
  unfold wholeP at h
  have hm1 : ∀ {n1 s1}, rowP A s = .inr (n1, s1) → mu s1 ≤ 100000000 := fun e => by have := falls_row hF _ _ _ e; omega
  repeat' (conv => whnf
           first
             | with_reducible exact quiet_same
             | with_reducible exact quiet_bool
             | with_reducible exact quiet_not
             | with_reducible refine draw_step (by kernel_rfl) ?_
             | with_reducible refine quiet_go ?_ ?_ ?_
             | with_reducible refine bcase_yes (by first | assumption | omega) ?_
             | with_reducible refine bcase_no (by first | assumption | omega) ?_
             | with_reducible refine bcase_dyes (by omega) ?_
             | with_reducible refine bcase_dno (by omega) ?_
             | with_reducible refine bcase_len (by decide) (fun _ => ?_) (fun _ => ?_)
             | with_reducible refine bcase_eq (fun _ => ?_) (fun _ => ?_)
             | with_reducible refine bcase_dec (fun _ => ?_) (fun _ => ?_)
             | with_reducible refine bcase_true ?_
             | with_reducible refine bcase_false ?_
             | with_reducible refine bcase_intro (fun _ => ?_) (fun _ => ?_)
             | with_reducible refine len_kids (fun _ => ?_)
             | with_reducible refine at_known (by assumption) (by omega) ?_
             | with_reducible refine at_kid (by omega) (by omega) (fun _ _ _ => ?_)
             | with_reducible refine tail_kids (by omega) (by omega) ?_
             | with_reducible refine slice_kids (by omega) (by omega) (by omega) ?_
             | with_reducible refine ex_wrap (by omega) (by omega) ?_
             | with_reducible refine quo_step (by decide) (by omega) (by omega) ?_
             | with_reducible refine rem_step (by decide) ?_
             | with_reducible refine nil_row (fun _ => ?_) ?_
             | with_reducible refine nil_row2 (fun _ => ?_) ?_
             | with_reducible refine len_toks (fun _ => ?_)
             | with_reducible refine len_ints (fun _ => ?_)
             | with_reducible refine tok_known (by assumption) (by omega) ?_
             | with_reducible refine at_tok (by omega) (by omega) (fun _ _ => ?_)
             | with_reducible refine at_int (by omega) (by omega) (fun _ _ => ?_)
             | with_reducible refine slice_ints (by omega) (by omega) (by omega) ?_
             | refine hr s hm b _ _ hs (tells_of (fun n1 s1 hq1 st1 h1 => ?_) (fun e1 s1 hq1 st1 h1 => ?_))
             | refine ha n1 s1 (hm1 hq1) b _ _ h1.1 (tells_of (fun n2 s2 hq2 st2 h2 => ?_) (fun e2 s2 hq2 st2 h2 => ?_))
             | with_reducible refine draw_head ?_)
  all_goals rw [hq1] at h
  all_goals dsimp only at h
  · rw [hq2] at h; exact finw rfl (h st2 (h1.trans h2))
  · rw [hq2] at h; exact fin (h st2 (h1.trans h2)) rfl
  · exact fin (h st1 h1) rfl
end
end Go.Proofs.Ytngbihfihdheoaa
