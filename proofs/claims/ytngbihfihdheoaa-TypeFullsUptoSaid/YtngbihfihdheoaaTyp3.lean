/-
  TYPES: typing.* answer what the plain functions answer.
-/
import Derived.Test.YtngbihfihdheoaaTyp2
set_option linter.unusedVariables false
set_option pp.maxSteps 400
namespace Go.Proofs.Ytngbihfihdheoaa
open Go Go.Aw

theorem tells_of {st : St} {b : Nat} {K : Res → St → Prop} {q : Rs} (h : ∀ n s', q = .inr (n, s') → ∀ st', Upd st st' b s' → K (.ret (enc n)) st') (k : ∀ e s', q = .inl (e, s') → ∀ st', Upd st st' b s' → K (.pan (fault e)) st') : Tells st b K q := by
  match q with
  | .inr (n, s') => exact h n s' rfl
  | .inl (e, s') => exact k e s' rfl
theorem Has.hw {st : St} {b : Nat} {s : Sta} (h : Has st b s) (own : Own) (n : Nat) : Has (own.st st n) b s := by
  cases own with
  | any => exact h
  | full => exact h
  | tok t => exact h
/-- a reader's step beside a row that is one's own -/
theorem upd_own {own : Own} {st st' : St} {n b : Nat} {s s' : Sta} (hg : own.good st) (hh : Has st b s) (hu : Upd (own.st st n) st' b s') : ∃ st2, st' = own.st st2 n ∧ Upd st st2 b s' ∧ own.good st2 := by
  obtain ⟨h1, cs, e⟩ := hu
  cases own with
  | any => exact hg.elim
  | full => exact ⟨st', rfl, ⟨h1, cs, e⟩, trivial⟩
  | tok t =>
    refine ⟨st.setBox b cs, e, ⟨?_, cs, rfl⟩, ?_, ?_⟩
    · rw [e] at h1; exact h1
    · have : b ≠ t := by
        rintro rfl
        have h2 : st.box b = none := hg.1
        rcases hh with k | ⟨_, _, _, _, _, k⟩ <;> (rw [h2] at k; cases k)
      rw [St.box_ne this]; exact hg.1
    · exact hg.2
def TellsO (own : Own) (n : Nat) (st : St) (b : Nat) (R : Res → St → Prop) : Rs → Prop
  | .inr (x, s') => ∀ st', Upd st st' b s' → own.good st' → R (.ret (enc x)) (own.st st' n)
  | .inl (e, s') => ∀ st', Upd st st' b s' → own.good st' → R (.pan (fault e)) (own.st st' n)
theorem tells_own {own : Own} {n : Nat} {st : St} {b : Nat} {s : Sta} {R : Res → St → Prop} {q : Rs} (hg : own.good st) (hh : Has st b s) (h : TellsO own n st b R q) : Tells (own.st st n) b R q := by
  refine tells_of (fun x s' e st' hu => ?_) (fun x s' e st' hu => ?_)
  · obtain ⟨st2, rfl, h2, h3⟩ := upd_own hg hh hu
    subst e
    exact h st2 h2 h3
  · obtain ⟨st2, rfl, h2, h3⟩ := upd_own hg hh hu
    subst e
    exact h st2 h2 h3

section
variable {st : St} {R : Res → St → Prop}
attribute [local irreducible] Go.Aw.appendTo

theorem starts_c {t : Tk} (h : R (.ret (.bool (startsF t))) st) : PC 52 [encT t] st R := by
  refine pcalls_of_body tys_ok [] Try.func52 rfl (by decide) ?_
  repeat' (conv => whnf
           first
             | with_reducible exact quiet_same
             | with_reducible exact quiet_bool
             | with_reducible exact quiet_not
             | with_reducible refine draw_step (by kernel_rfl) ?_
             | with_reducible refine quiet_go ?_ ?_ ?_
             | with_reducible refine bcase_yes (by first | assumption | omega) ?_
             | with_reducible refine bcase_no (by first | assumption | omega) ?_
             | with_reducible refine bcase_dyes (by omega) ?_
             | with_reducible refine bcase_dno (by omega) ?_
             | with_reducible refine bcase_len (by decide) (fun _ => ?_) (fun _ => ?_)
             | with_reducible refine bcase_eq (fun _ => ?_) (fun _ => ?_)
             | with_reducible refine bcase_dec (fun _ => ?_) (fun _ => ?_)
             | with_reducible refine bcase_true ?_
             | with_reducible refine bcase_false ?_
             | with_reducible refine bcase_intro (fun _ => ?_) (fun _ => ?_)
             | with_reducible refine len_kids (fun _ => ?_)
             | with_reducible refine at_known (by assumption) (by omega) ?_
             | with_reducible refine at_kid (by omega) (by omega) (fun _ _ _ => ?_)
             | with_reducible refine tail_kids (by omega) (by omega) ?_
             | with_reducible refine slice_kids (by omega) (by omega) (by omega) ?_
             | with_reducible refine ex_wrap (by omega) (by omega) ?_
             | with_reducible refine quo_step (by decide) (by omega) (by omega) ?_
             | with_reducible refine rem_step (by decide) ?_
             | with_reducible refine nil_row (fun _ => ?_) ?_
             | with_reducible refine nil_row2 (fun _ => ?_) ?_
             | with_reducible refine len_toks (fun _ => ?_)
             | with_reducible refine len_ints (fun _ => ?_)
             | with_reducible refine tok_known (by assumption) (by omega) ?_
             | with_reducible refine at_tok (by omega) (by omega) (fun _ _ => ?_)
             | with_reducible refine at_int (by omega) (by omega) (fun _ _ => ?_)
             | with_reducible refine slice_ints (by omega) (by omega) (by omega) ?_
             | with_reducible refine draw_head ?_)
  all_goals conv => whnf
  all_goals (refine fin_bool h ?_; clear h; simp_all [startsF])

def Reads0 (f : FuncId) (d : Int) (A : Sta → Rs) : Prop := ∀ s, mu s ≤ 100000000 → Reads f s d (A s)
theorem opn_le {s : Sta} (h : mu s ≤ 100000000) : s.opn.length ≤ 500000000 := by have := opn_mu s; omega

theorem take_r {b : Nat} {s : Sta} (hs : Has st b s) (hb : s.opn.length ≤ 500000000) (h : Tells st b R (takeP s)) : PC 49 [.ptr b 0] st R := by
  unfold takeP at h
  refine take_c hs hb (fun e => ?_) (fun e => ?_)
  · rw [if_pos e] at h; exact h
  · rw [if_neg e] at h; exact h _ upd_look
theorem bad_r {b : Nat} {s : Sta} (hs : Has st b s) (hb : s.opn.length ≤ 500000000) (h : Tells st b R (badP s)) : PC 53 [.ptr b 0] st R := bad_c hs hb (h _ upd_look)
theorem bad_d {b : Nat} {s : Sta} (hs : Has st b s) (hb : s.opn.length ≤ 500000000) (h : ∀ st', Upd st st' b s → R (.pan (fault (badE s))) st') : PC 53 [.ptr b 0] st R := bad_c hs hb (h _ upd_look)
theorem want_r {b : Nat} {s : Sta} {k : Int} {x : List UInt8} (hs : Has st b s) (hb : s.opn.length ≤ 500000000) (h : Tells st b R (wantP s k x)) : PC 73 [.ptr b 0, .int .i64 k, .str x] st R := by
  unfold wantP takeP at h
  refine want_c hs hb (fun e1 e2 => ?_) (fun e1 e2 => ?_) (fun e1 => ?_)
  · rw [if_pos e1, if_pos e2] at h; exact h
  · rw [if_pos e1, if_neg e2] at h; exact h _ upd_look
  · rw [if_neg (by rw [e1]; decide)] at h; exact h _ upd_look

theorem atom_c {d : Int} {Y : Sta → Rs} (hr : Reads0 54 d (roundP Y)) (hsq : Reads0 55 d (squareP Y)) : Reads0 37 d (atomP Y) := by
  intro s hm b st R hs h
  refine pcalls_of_body tys_ok [] Try.func37 rfl (by decide) ?_
  have hb := opn_le hm
  have hl : Has (st.setBox b (lookC s)) b s := .inl (St.box_same ..)
  unfold atomP at h
  repeat' (conv => whnf
           first
             | with_reducible exact quiet_same
             | with_reducible exact quiet_bool
             | with_reducible exact quiet_not
             | with_reducible refine draw_step (by kernel_rfl) ?_
             | with_reducible refine quiet_go ?_ ?_ ?_
             | with_reducible refine bcase_yes (by first | assumption | omega) ?_
             | with_reducible refine bcase_no (by first | assumption | omega) ?_
             | with_reducible refine bcase_dyes (by omega) ?_
             | with_reducible refine bcase_dno (by omega) ?_
             | with_reducible refine bcase_len (by decide) (fun _ => ?_) (fun _ => ?_)
             | with_reducible refine bcase_eq (fun _ => ?_) (fun _ => ?_)
             | with_reducible refine bcase_dec (fun _ => ?_) (fun _ => ?_)
             | with_reducible refine bcase_true ?_
             | with_reducible refine bcase_false ?_
             | with_reducible refine bcase_intro (fun _ => ?_) (fun _ => ?_)
             | with_reducible refine len_kids (fun _ => ?_)
             | with_reducible refine at_known (by assumption) (by omega) ?_
             | with_reducible refine at_kid (by omega) (by omega) (fun _ _ _ => ?_)
             | with_reducible refine tail_kids (by omega) (by omega) ?_
             | with_reducible refine slice_kids (by omega) (by omega) (by omega) ?_
             | with_reducible refine ex_wrap (by omega) (by omega) ?_
             | with_reducible refine quo_step (by decide) (by omega) (by omega) ?_
             | with_reducible refine rem_step (by decide) ?_
             | with_reducible refine nil_row (fun _ => ?_) ?_
             | with_reducible refine nil_row2 (fun _ => ?_) ?_
             | with_reducible refine len_toks (fun _ => ?_)
             | with_reducible refine len_ints (fun _ => ?_)
             | with_reducible refine tok_known (by assumption) (by omega) ?_
             | with_reducible refine at_tok (by omega) (by omega) (fun _ _ => ?_)
             | with_reducible refine at_int (by omega) (by omega) (fun _ _ => ?_)
             | with_reducible refine slice_ints (by omega) (by omega) (by omega) ?_
             | refine peek_c hs hb ?_
             | refine starts_c ?_
             | refine take_r hl hb (tells_of (fun n s' hq st' hu => ?_) (fun e s' hq st' hu => ?_))
             | refine bad_d hl hb (fun st' hu => ?_)
             | refine hr s hm b _ _ hl (tells_of (fun n s' hq st' hu => ?_) (fun e s' hq st' hu => ?_))
             | refine hsq s hm b _ _ hl (tells_of (fun n s' hq st' hu => ?_) (fun e s' hq st' hu => ?_))
             | with_reducible refine draw_head ?_)
  all_goals repeat (first | rw [if_pos (by assumption)] at h | rw [if_neg (by assumption)] at h | rw [if_neg (Bool.eq_false_iff.1 (by assumption))] at h)
  all_goals first
    | exact fin (h st' (upd_look.trans hu)) rfl
    | (rw [hq] at h; exact finw rfl (h st' (upd_look.trans hu)))
    | (rw [hq] at h; exact fin (h st' (upd_look.trans hu)) rfl)
  all_goals trace_state
end
end Go.Proofs.Ytngbihfihdheoaa
