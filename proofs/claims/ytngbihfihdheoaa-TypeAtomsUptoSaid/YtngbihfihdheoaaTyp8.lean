/-
  TYPES: types.
-/
import Derived.Test.YtngbihfihdheoaaTyp7
set_option linter.unusedVariables false
set_option pp.maxSteps 400
namespace Go.Proofs.Ytngbihfihdheoaa
open Go Go.Aw

def typesP (Y : Sta → Rs) (n : Nd) (s : Sta) : Ls := match Y s with
  | .inl e => .inl e
  | .inr q => typesL Y [n, q.1] q.2
def TellsL (st : St) (b : Nat) (R : Res → St → Prop) : Ls → Prop
  | .inr (l, s') => ∀ st' own', Upd st st' b s' → own'.good st' → R (.ret (.slice 6 (l.map encN) own')) (own'.st st' (l.length * 6))
  | .inl (e, s') => ∀ st', Upd st st' b s' → R (.pan (fault e)) st'
theorem typesL_at {Y : Sta → Rs} {l : List Nd} {s : Sta} {n : Nd} {s' : Sta} (h : isF s 15 [44] = true) (hY : Y (nextM s).2.1 = .inr (n, s')) (hm : mu s' < mu s) : typesL Y l s = typesL Y (l ++ [leafT (nextM s).1, n]) s' := by
  rw [typesL, if_pos h, hY]
  dsimp only
  rw [if_pos hm]

section
variable {st : St} {R : Res → St → Prop}
attribute [local irreducible] Go.Aw.appendTo
theorem types_c {d : Nat} {Y : Sta → Rs} (hY : Calls3 11 d Y) (h0 : d = 0 → ∀ s, Y s = .inl (2, s)) (hB : Bads Y) (hF : Falls Y) {n1 : Nd} {s : Sta} {b : Nat} {x : Int} (hx : x = (d : Int)) (hm : mu s ≤ 100000000) (hs : Has st b s) (h : TellsL st b R (typesP Y n1 s)) :
    PC 72 [.ptr b 0, .slice 6 [encN n1] .full, .int .i64 x] st R := by
  refine pcalls_of_body tys_ok [] Try.func72 rfl (by decide) ?_
  unfold typesP at h
  have hn1 : [n1].length + 1 ≤ 1000000000 := by show 1 + 1 ≤ 1000000000; decide
  repeat' (conv => whnf
           first
             | with_reducible exact quiet_same
             | with_reducible exact quiet_bool
             | with_reducible exact quiet_not
             | with_reducible refine draw_step (by kernel_rfl) ?_
             | with_reducible refine quiet_go ?_ ?_ ?_
             | with_reducible refine bcase_yes (by first | assumption | omega) ?_
             | with_reducible refine bcase_no (by first | assumption | omega) ?_
             | with_reducible refine bcase_dyes (by omega) ?_
             | with_reducible refine bcase_dno (by omega) ?_
             | with_reducible refine bcase_len (by decide) (fun _ => ?_) (fun _ => ?_)
             | with_reducible refine bcase_eq (fun _ => ?_) (fun _ => ?_)
             | with_reducible refine bcase_dec (fun _ => ?_) (fun _ => ?_)
             | with_reducible refine bcase_true ?_
             | with_reducible refine bcase_false ?_
             | with_reducible refine bcase_intro (fun _ => ?_) (fun _ => ?_)
             | with_reducible refine len_kids (fun _ => ?_)
             | with_reducible refine at_known (by assumption) (by omega) ?_
             | with_reducible refine at_kid (by omega) (by omega) (fun _ _ _ => ?_)
             | with_reducible refine tail_kids (by omega) (by omega) ?_
             | with_reducible refine slice_kids (by omega) (by omega) (by omega) ?_
             | with_reducible refine ex_wrap (by omega) (by omega) ?_
             | with_reducible refine quo_step (by decide) (by omega) (by omega) ?_
             | with_reducible refine rem_step (by decide) ?_
             | with_reducible refine nil_row (fun _ => ?_) ?_
             | with_reducible refine nil_row2 (fun _ => ?_) ?_
             | with_reducible refine len_toks (fun _ => ?_)
             | with_reducible refine len_ints (fun _ => ?_)
             | with_reducible refine tok_known (by assumption) (by omega) ?_
             | with_reducible refine at_tok (by omega) (by omega) (fun _ _ => ?_)
             | with_reducible refine at_int (by omega) (by omega) (fun _ _ => ?_)
             | with_reducible refine slice_ints (by omega) (by omega) (by omega) ?_
             | refine into_e hx hY h0 hB hm hs (tells_of (fun n2 s2 hq2 st2 h2 => ?_) (fun e2 s2 hq2 st2 h2 => ?_))
             | refine app_m (l := [n1]) (x := n2) (own := .full) trivial hn1 (fun own1 ho1 => ?_)
             | with_reducible refine draw_head ?_)
  · rw [hq2] at h
    have hd2 := hF _ _ _ hq2
    dsimp only at h
    refine loop_h (α := List Nd × Sta × St × Own) (fun x => [(1, .slice 6 (x.1.map encN) x.2.2.2)]) [0, 2, 6] (fun x => []) [] (fun x => x.2.2.2.st x.2.2.1 (x.1.length * 6))
      (fun x => x.2.2.2.good x.2.2.1 ∧ Upd st x.2.2.1 b x.2.1 ∧ x.1.length + 2 * mu x.2.1 ≤ 400000000 ∧ mu x.2.1 ≤ mu s ∧ typesL Y x.1 x.2.1 = typesL Y [n1, n2] s2) (fun x => mu x.2.1) ([n1] ++ [n2], s2, st2, own1)
      ⟨ho1, h2, by show 2 + 2 * mu s2 ≤ _; omega, by show mu s2 ≤ _; omega, rfl⟩ (by refine ⟨rfl, ?_, ?_, rfl⟩ <;> repeat' (first | exact trivial | exact rfl | refine And.intro ?_ ?_)) (St.le_refl _) ?_
    rintro ⟨l, s3, st3, own⟩ ⟨j1, j2, j5, j6, j7⟩
    dsimp only at j1 j2 j5 j6 j7
    have hm3 : mu s3 ≤ 100000000 := by omega
    have hb3 := opn_le hm3
    have hl3 : Has (st3.setBox b (lookC s3)) b s3 := .inl (St.box_same ..)
    have g3 : own.good (st3.setBox b (lookC s3)) := good_set j1 j2.1
    have hn : l.length + 2 ≤ 1000000000 := by omega
    have hm4 : isF s3 15 [44] = true → mu (nextM s3).2.1 ≤ 100000000 := fun e => by have := isF_mu e (by decide) (by decide); omega
    repeat' (conv => whnf
             first
               | with_reducible exact quiet_same
               | with_reducible exact quiet_bool
               | with_reducible exact quiet_not
               | with_reducible refine draw_step (by kernel_rfl) ?_
               | with_reducible refine quiet_go ?_ ?_ ?_
               | with_reducible refine bcase_yes (by first | assumption | omega) ?_
               | with_reducible refine bcase_no (by first | assumption | omega) ?_
               | with_reducible refine bcase_dyes (by omega) ?_
               | with_reducible refine bcase_dno (by omega) ?_
               | with_reducible refine bcase_len (by decide) (fun _ => ?_) (fun _ => ?_)
               | with_reducible refine bcase_eq (fun _ => ?_) (fun _ => ?_)
               | with_reducible refine bcase_dec (fun _ => ?_) (fun _ => ?_)
               | with_reducible refine bcase_true ?_
               | with_reducible refine bcase_false ?_
               | with_reducible refine bcase_intro (fun _ => ?_) (fun _ => ?_)
               | with_reducible refine len_kids (fun _ => ?_)
               | with_reducible refine at_known (by assumption) (by omega) ?_
               | with_reducible refine at_kid (by omega) (by omega) (fun _ _ _ => ?_)
               | with_reducible refine tail_kids (by omega) (by omega) ?_
               | with_reducible refine slice_kids (by omega) (by omega) (by omega) ?_
               | with_reducible refine ex_wrap (by omega) (by omega) ?_
               | with_reducible refine quo_step (by decide) (by omega) (by omega) ?_
               | with_reducible refine rem_step (by decide) ?_
               | with_reducible refine nil_row (fun _ => ?_) ?_
               | with_reducible refine nil_row2 (fun _ => ?_) ?_
               | with_reducible refine len_toks (fun _ => ?_)
               | with_reducible refine len_ints (fun _ => ?_)
               | with_reducible refine tok_known (by assumption) (by omega) ?_
               | with_reducible refine at_tok (by omega) (by omega) (fun _ _ => ?_)
               | with_reducible refine at_int (by omega) (by omega) (fun _ _ => ?_)
               | with_reducible refine slice_ints (by omega) (by omega) (by omega) ?_
               | refine is_o j2.1 hb3 ?_
               | refine take_r (hl3.hw own _) hb3 (tells_ro g3 hl3 (take_is (by assumption) (by decide)) (fun st4 h4 g4 => ?_))
               | refine into_e hx hY h0 hB (hm4 (by assumption)) (h4.1.hw own _) (tells_own g4 h4.1 (tellsO_of (fun n5 s5 hq5 st5 h5 g5 => ?_) (fun e5 s5 hq5 st5 h5 g5 => ?_)))
               | refine app_m2 (l := l) (x := leafT (nextM s3).1) (y := n5) g5 hn (fun own' ho' => ?_)
               | with_reducible refine draw_head ?_)
    all_goals conv => whnf
    · have hp : isF s3 15 [44] = true := by assumption
      have hd := hF _ _ _ hq5
      have hd3 := isF_mu hp (by decide) (by decide)
      have hd4 : mu s5 < mu s3 := by omega
      have hu := (upd_look (st := st3) (b := b) (s := s3)).trans (h4.trans h5)
      refine ⟨(l ++ [leafT (nextM s3).1, n5], s5, st5, own'), ⟨ho', j2.trans hu, ?_, by show mu s5 ≤ _; omega, ?_⟩, hd4, (by refine ⟨rfl, ?_, ?_, rfl⟩ <;> repeat' (first | exact trivial | exact rfl | refine And.intro ?_ ?_)), St.le_refl _⟩
      · show (l ++ [leafT (nextM s3).1, n5]).length + 2 * mu s5 ≤ _
        rw [List.length_append]
        show l.length + 2 + 2 * mu s5 ≤ _
        omega
      · show typesL Y (l ++ [leafT (nextM s3).1, n5]) s5 = _
        rw [← j7, typesL_at (l := l) hp hq5 hd4]
    · have hp : isF s3 15 [44] = true := by assumption
      have hu := (upd_look (st := st3) (b := b) (s := s3)).trans (h4.trans h5)
      have hr : typesL Y l s3 = .inl (e5, s5) := by rw [typesL, if_pos hp, hq5]
      rw [← j7, hr] at h
      exact finl (Own.good_le g5) rfl (h st5 (j2.trans hu))
    · have hr : typesL Y l s3 = .inr (l, s3) := by rw [typesL, if_neg (Bool.eq_false_iff.1 (by assumption))]
      rw [← j7, hr] at h
      exact fin (h _ own (j2.trans upd_look) g3) rfl
  · rw [hq2] at h
    exact fin (h st2 h2) rfl
end
end Go.Proofs.Ytngbihfihdheoaa
