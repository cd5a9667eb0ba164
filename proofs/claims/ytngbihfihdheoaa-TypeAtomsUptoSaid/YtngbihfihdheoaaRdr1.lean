/-
  READER: the state behind a pointer; what the reader's methods do with it.
-/
import Derived.Test.YtngbihfihdheoaaLay5
set_option linter.unusedVariables false
set_option pp.maxSteps 400
namespace Go.Aw
theorem St.box_same (st : St) (b : Nat) (cs : List V) : (st.setBox b cs).box b = some cs := by simp [St.setBox]
theorem St.set_set (st : St) (b : Nat) (cs cs' : List V) : (st.setBox b cs).setBox b cs' = st.setBox b cs' := by
  simp only [St.setBox, St.mk.injEq, and_true]
  funext x
  split <;> rfl
theorem St.set_self {st : St} {b : Nat} {cs : List V} (h : st.box b = some cs) : st.setBox b cs = st := by
  cases st with
  | mk box hw =>
    simp only [St.setBox, St.mk.injEq, and_true]
    funext x
    split
    · rename_i e; subst e; exact h.symm
    · rfl
theorem at_box {st : St} {b : Nat} {cs : List V} {K : List V → Prop} (h : st.box b = some cs) (k : K cs) : ∃ cs, st.box b = some cs ∧ K cs := ⟨cs, h, k⟩
end Go.Aw
namespace Go.Proofs.Ytngbihfihdheoaa
open Go Go.Aw

/-- a reader that has looked ahead; one that has not -/
def lookC (s : Sta) : List V := [.slice 4 (encTs s.toks) .any, .int .i64 s.pos, .slice 1 (ints s.opn) .any, .int .i64 s.wait,
  .int .i64 (nextM s).1.kind, .str (nextM s).1.text, .int .i64 (nextM s).1.line, .int .i64 (nextM s).1.col,
  .slice 4 (encTs (nextM s).2.1.toks) .any, .int .i64 (nextM s).2.1.pos, .slice 1 (ints (nextM s).2.1.opn) .any, .int .i64 (nextM s).2.1.wait, .int .i64 (nextM s).2.2, .bool true]
def idleC (s : Sta) (t : Tk) (u : Sta) (o1 o2 : Own) (e : Int) : List V := [.slice 4 (encTs s.toks) .any, .int .i64 s.pos, .slice 1 (ints s.opn) .any, .int .i64 s.wait,
  .int .i64 t.kind, .str t.text, .int .i64 t.line, .int .i64 t.col, .slice 4 (encTs u.toks) o1, .int .i64 u.pos, .slice 1 (ints u.opn) o2, .int .i64 u.wait, .int .i64 e, .bool false]
/-- a reader stands at a state -/
def Has (st : St) (b : Nat) (s : Sta) : Prop := st.box b = some (lookC s) ∨ ∃ t u o1 o2 e, st.box b = some (idleC s t u o1 o2 e)
/-- a reader has been set to a state, and nothing else was written -/
def Upd (st st' : St) (b : Nat) (s : Sta) : Prop := Has st' b s ∧ ∃ cs, st' = st.setBox b cs
theorem Upd.trans {st st1 st2 : St} {b : Nat} {s1 s2 : Sta} (h : Upd st st1 b s1) (k : Upd st1 st2 b s2) : Upd st st2 b s2 := by
  obtain ⟨_, c1, e1⟩ := h
  obtain ⟨h2, c2, e2⟩ := k
  subst e1
  rw [St.set_set] at e2
  exact ⟨h2, c2, e2⟩
theorem upd_look {st : St} {b : Nat} {s : Sta} : Upd st (st.setBox b (lookC s)) b s := ⟨.inl (St.box_same ..), _, rfl⟩
def fault (e : Int) : V := .iface 64 (.agg [.int .i64 e])

section
variable {st : St} {R : Res → St → Prop}
attribute [local irreducible] Go.Aw.appendTo

/-- the end of a walk, the memory being written otherwise -/
theorem finx {r r' : Res} {st' : St} (e : r = r'.wk) (es : st' = st) (h : R r st) : ∃ r2 st2, (r2 = r' ∨ r2 = r'.wk) ∧ St.le st2 st' ∧ R r2 st2 := by subst es; exact ⟨r, st', .inr e, St.le_refl _, h⟩
theorem look_c {b : Nat} {s : Sta} (hs : Has st b s) (hb : s.opn.length ≤ 500000000) (h : R (.ret (.tup [])) (st.setBox b (lookC s))) : PC 71 [.ptr b 0] st R := by
  refine pcalls_of_body tys_ok [] Try.func71 rfl (by decide) ?_
  rcases hs with hs | ⟨t, u, o1, o2, e, hs⟩
  · rw [St.set_self hs] at h
    repeat' (conv => whnf
             first
               | with_reducible exact quiet_same
               | with_reducible exact quiet_bool
               | with_reducible exact quiet_not
               | with_reducible refine draw_step (by kernel_rfl) ?_
               | with_reducible refine quiet_go ?_ ?_ ?_
               | with_reducible refine bcase_yes (by first | assumption | omega) ?_
               | with_reducible refine bcase_no (by first | assumption | omega) ?_
               | with_reducible refine bcase_dyes (by omega) ?_
               | with_reducible refine bcase_dno (by omega) ?_
               | with_reducible refine bcase_len (by decide) (fun _ => ?_) (fun _ => ?_)
               | with_reducible refine bcase_eq (fun _ => ?_) (fun _ => ?_)
               | with_reducible refine bcase_dec (fun _ => ?_) (fun _ => ?_)
               | with_reducible refine bcase_true ?_
               | with_reducible refine bcase_false ?_
               | with_reducible refine bcase_intro (fun _ => ?_) (fun _ => ?_)
               | with_reducible refine len_kids (fun _ => ?_)
               | with_reducible refine at_known (by assumption) (by omega) ?_
               | with_reducible refine at_kid (by omega) (by omega) (fun _ _ _ => ?_)
               | with_reducible refine tail_kids (by omega) (by omega) ?_
               | with_reducible refine slice_kids (by omega) (by omega) (by omega) ?_
               | with_reducible refine ex_wrap (by omega) (by omega) ?_
               | with_reducible refine quo_step (by decide) (by omega) (by omega) ?_
               | with_reducible refine rem_step (by decide) ?_
               | with_reducible refine nil_row (fun _ => ?_) ?_
               | with_reducible refine nil_row2 (fun _ => ?_) ?_
               | with_reducible refine len_toks (fun _ => ?_)
               | with_reducible refine len_ints (fun _ => ?_)
               | with_reducible refine tok_known (by assumption) (by omega) ?_
               | with_reducible refine at_tok (by omega) (by omega) (fun _ _ => ?_)
               | with_reducible refine at_int (by omega) (by omega) (fun _ _ => ?_)
               | with_reducible refine slice_ints (by omega) (by omega) (by omega) ?_
               | refine at_box hs ?_
               | with_reducible refine draw_head ?_)
    all_goals exact fin h rfl
  · skip
    repeat' (conv => whnf
             first
               | with_reducible exact quiet_same
               | with_reducible exact quiet_bool
               | with_reducible exact quiet_not
               | with_reducible refine draw_step (by kernel_rfl) ?_
               | with_reducible refine quiet_go ?_ ?_ ?_
               | with_reducible refine bcase_yes (by first | assumption | omega) ?_
               | with_reducible refine bcase_no (by first | assumption | omega) ?_
               | with_reducible refine bcase_dyes (by omega) ?_
               | with_reducible refine bcase_dno (by omega) ?_
               | with_reducible refine bcase_len (by decide) (fun _ => ?_) (fun _ => ?_)
               | with_reducible refine bcase_eq (fun _ => ?_) (fun _ => ?_)
               | with_reducible refine bcase_dec (fun _ => ?_) (fun _ => ?_)
               | with_reducible refine bcase_true ?_
               | with_reducible refine bcase_false ?_
               | with_reducible refine bcase_intro (fun _ => ?_) (fun _ => ?_)
               | with_reducible refine len_kids (fun _ => ?_)
               | with_reducible refine at_known (by assumption) (by omega) ?_
               | with_reducible refine at_kid (by omega) (by omega) (fun _ _ _ => ?_)
               | with_reducible refine tail_kids (by omega) (by omega) ?_
               | with_reducible refine slice_kids (by omega) (by omega) (by omega) ?_
               | with_reducible refine ex_wrap (by omega) (by omega) ?_
               | with_reducible refine quo_step (by decide) (by omega) (by omega) ?_
               | with_reducible refine rem_step (by decide) ?_
               | with_reducible refine nil_row (fun _ => ?_) ?_
               | with_reducible refine nil_row2 (fun _ => ?_) ?_
               | with_reducible refine len_toks (fun _ => ?_)
               | with_reducible refine len_ints (fun _ => ?_)
               | with_reducible refine tok_known (by assumption) (by omega) ?_
               | with_reducible refine at_tok (by omega) (by omega) (fun _ _ => ?_)
               | with_reducible refine at_int (by omega) (by omega) (fun _ _ => ?_)
               | with_reducible refine slice_ints (by omega) (by omega) (by omega) ?_
               | refine at_box hs ?_
               | refine at_box (St.box_same ..) ?_
               | refine next_c (s := s) hb ?_
               | with_reducible refine draw_head ?_)
    all_goals exact finx rfl (by simp only [St.set_set]; rfl) h

theorem peek_c {b : Nat} {s : Sta} (hs : Has st b s) (hb : s.opn.length ≤ 500000000) (h : R (.ret (encT (nextM s).1)) (st.setBox b (lookC s))) : PC 51 [.ptr b 0] st R := by
  refine pcalls_of_body tys_ok [] Try.func51 rfl (by decide) ?_
  repeat' (conv => whnf
           first
             | with_reducible exact quiet_same
             | with_reducible exact quiet_bool
             | with_reducible exact quiet_not
             | with_reducible refine draw_step (by kernel_rfl) ?_
             | with_reducible refine quiet_go ?_ ?_ ?_
             | with_reducible refine bcase_yes (by first | assumption | omega) ?_
             | with_reducible refine bcase_no (by first | assumption | omega) ?_
             | with_reducible refine bcase_dyes (by omega) ?_
             | with_reducible refine bcase_dno (by omega) ?_
             | with_reducible refine bcase_len (by decide) (fun _ => ?_) (fun _ => ?_)
             | with_reducible refine bcase_eq (fun _ => ?_) (fun _ => ?_)
             | with_reducible refine bcase_dec (fun _ => ?_) (fun _ => ?_)
             | with_reducible refine bcase_true ?_
             | with_reducible refine bcase_false ?_
             | with_reducible refine bcase_intro (fun _ => ?_) (fun _ => ?_)
             | with_reducible refine len_kids (fun _ => ?_)
             | with_reducible refine at_known (by assumption) (by omega) ?_
             | with_reducible refine at_kid (by omega) (by omega) (fun _ _ _ => ?_)
             | with_reducible refine tail_kids (by omega) (by omega) ?_
             | with_reducible refine slice_kids (by omega) (by omega) (by omega) ?_
             | with_reducible refine ex_wrap (by omega) (by omega) ?_
             | with_reducible refine quo_step (by decide) (by omega) (by omega) ?_
             | with_reducible refine rem_step (by decide) ?_
             | with_reducible refine nil_row (fun _ => ?_) ?_
             | with_reducible refine nil_row2 (fun _ => ?_) ?_
             | with_reducible refine len_toks (fun _ => ?_)
             | with_reducible refine len_ints (fun _ => ?_)
             | with_reducible refine tok_known (by assumption) (by omega) ?_
             | with_reducible refine at_tok (by omega) (by omega) (fun _ _ => ?_)
             | with_reducible refine at_int (by omega) (by omega) (fun _ _ => ?_)
             | with_reducible refine slice_ints (by omega) (by omega) (by omega) ?_
             | refine at_box (St.box_same ..) ?_
             | refine look_c hs hb ?_
             | with_reducible refine draw_head ?_)
  all_goals exact finw rfl h

theorem fail_c {v : V} {e : Int} (h : R (.pan (fault e)) st) : PC 44 [v, .int .i64 e] st R := by
  refine pcalls_of_body tys_ok [] Try.func44 rfl (by decide) ?_
  repeat' (conv => whnf
           first
             | with_reducible exact quiet_same
             | with_reducible exact quiet_bool
             | with_reducible exact quiet_not
             | with_reducible refine draw_step (by kernel_rfl) ?_
             | with_reducible refine quiet_go ?_ ?_ ?_
             | with_reducible refine bcase_yes (by first | assumption | omega) ?_
             | with_reducible refine bcase_no (by first | assumption | omega) ?_
             | with_reducible refine bcase_dyes (by omega) ?_
             | with_reducible refine bcase_dno (by omega) ?_
             | with_reducible refine bcase_len (by decide) (fun _ => ?_) (fun _ => ?_)
             | with_reducible refine bcase_eq (fun _ => ?_) (fun _ => ?_)
             | with_reducible refine bcase_dec (fun _ => ?_) (fun _ => ?_)
             | with_reducible refine bcase_true ?_
             | with_reducible refine bcase_false ?_
             | with_reducible refine bcase_intro (fun _ => ?_) (fun _ => ?_)
             | with_reducible refine len_kids (fun _ => ?_)
             | with_reducible refine at_known (by assumption) (by omega) ?_
             | with_reducible refine at_kid (by omega) (by omega) (fun _ _ _ => ?_)
             | with_reducible refine tail_kids (by omega) (by omega) ?_
             | with_reducible refine slice_kids (by omega) (by omega) (by omega) ?_
             | with_reducible refine ex_wrap (by omega) (by omega) ?_
             | with_reducible refine quo_step (by decide) (by omega) (by omega) ?_
             | with_reducible refine rem_step (by decide) ?_
             | with_reducible refine nil_row (fun _ => ?_) ?_
             | with_reducible refine nil_row2 (fun _ => ?_) ?_
             | with_reducible refine len_toks (fun _ => ?_)
             | with_reducible refine len_ints (fun _ => ?_)
             | with_reducible refine tok_known (by assumption) (by omega) ?_
             | with_reducible refine at_tok (by omega) (by omega) (fun _ _ => ?_)
             | with_reducible refine at_int (by omega) (by omega) (fun _ _ => ?_)
             | with_reducible refine slice_ints (by omega) (by omega) (by omega) ?_
             | with_reducible refine draw_head ?_)
  all_goals exact fin h rfl

/-- what is wrong with a token that may not stand there -/
def badE (s : Sta) : Int := if (nextM s).2.2 = 0 then 110 else (nextM s).2.2
theorem bad_c {b : Nat} {s : Sta} (hs : Has st b s) (hb : s.opn.length ≤ 500000000) (h : R (.pan (fault (badE s))) (st.setBox b (lookC s))) : PC 53 [.ptr b 0] st R := by
  refine pcalls_of_body tys_ok [] Try.func53 rfl (by decide) ?_
  unfold badE at h
  repeat' (conv => whnf
           first
             | with_reducible exact quiet_same
             | with_reducible exact quiet_bool
             | with_reducible exact quiet_not
             | with_reducible refine draw_step (by kernel_rfl) ?_
             | with_reducible refine quiet_go ?_ ?_ ?_
             | with_reducible refine bcase_yes (by first | assumption | omega) ?_
             | with_reducible refine bcase_no (by first | assumption | omega) ?_
             | with_reducible refine bcase_dyes (by omega) ?_
             | with_reducible refine bcase_dno (by omega) ?_
             | with_reducible refine bcase_len (by decide) (fun _ => ?_) (fun _ => ?_)
             | with_reducible refine bcase_eq (fun _ => ?_) (fun _ => ?_)
             | with_reducible refine bcase_dec (fun _ => ?_) (fun _ => ?_)
             | with_reducible refine bcase_true ?_
             | with_reducible refine bcase_false ?_
             | with_reducible refine bcase_intro (fun _ => ?_) (fun _ => ?_)
             | with_reducible refine len_kids (fun _ => ?_)
             | with_reducible refine at_known (by assumption) (by omega) ?_
             | with_reducible refine at_kid (by omega) (by omega) (fun _ _ _ => ?_)
             | with_reducible refine tail_kids (by omega) (by omega) ?_
             | with_reducible refine slice_kids (by omega) (by omega) (by omega) ?_
             | with_reducible refine ex_wrap (by omega) (by omega) ?_
             | with_reducible refine quo_step (by decide) (by omega) (by omega) ?_
             | with_reducible refine rem_step (by decide) ?_
             | with_reducible refine nil_row (fun _ => ?_) ?_
             | with_reducible refine nil_row2 (fun _ => ?_) ?_
             | with_reducible refine len_toks (fun _ => ?_)
             | with_reducible refine len_ints (fun _ => ?_)
             | with_reducible refine tok_known (by assumption) (by omega) ?_
             | with_reducible refine at_tok (by omega) (by omega) (fun _ _ => ?_)
             | with_reducible refine at_int (by omega) (by omega) (fun _ _ => ?_)
             | with_reducible refine slice_ints (by omega) (by omega) (by omega) ?_
             | refine at_box (St.box_same ..) ?_
             | refine look_c hs hb ?_
             | refine fail_c ?_
             | with_reducible refine draw_head ?_)
  all_goals first
    | (rw [if_pos (by assumption)] at h; exact fin h rfl)
    | (rw [if_neg (by assumption)] at h; exact fin h rfl)

theorem go_look {b : Nat} {s s' : Sta} (hs : st.box b = some (lookC s)) (h : ∀ st', Upd st st' b s' → R (.ret (.tup [])) st') : PC 83 [.ptr b 0, encS s'] st R := by
  refine pcalls_of_body tys_ok [] Try.func83 rfl (by decide) ?_
  have h := h (st.setBox b (idleC s' (nextM s).1 (nextM s).2.1 .any .any (nextM s).2.2)) ⟨.inr ⟨_, _, _, _, _, St.box_same ..⟩, _, rfl⟩
  repeat' (conv => whnf
           first
             | with_reducible exact quiet_same
             | with_reducible exact quiet_bool
             | with_reducible exact quiet_not
             | with_reducible refine draw_step (by kernel_rfl) ?_
             | with_reducible refine quiet_go ?_ ?_ ?_
             | with_reducible refine bcase_yes (by first | assumption | omega) ?_
             | with_reducible refine bcase_no (by first | assumption | omega) ?_
             | with_reducible refine bcase_dyes (by omega) ?_
             | with_reducible refine bcase_dno (by omega) ?_
             | with_reducible refine bcase_len (by decide) (fun _ => ?_) (fun _ => ?_)
             | with_reducible refine bcase_eq (fun _ => ?_) (fun _ => ?_)
             | with_reducible refine bcase_dec (fun _ => ?_) (fun _ => ?_)
             | with_reducible refine bcase_true ?_
             | with_reducible refine bcase_false ?_
             | with_reducible refine bcase_intro (fun _ => ?_) (fun _ => ?_)
             | with_reducible refine len_kids (fun _ => ?_)
             | with_reducible refine at_known (by assumption) (by omega) ?_
             | with_reducible refine at_kid (by omega) (by omega) (fun _ _ _ => ?_)
             | with_reducible refine tail_kids (by omega) (by omega) ?_
             | with_reducible refine slice_kids (by omega) (by omega) (by omega) ?_
             | with_reducible refine ex_wrap (by omega) (by omega) ?_
             | with_reducible refine quo_step (by decide) (by omega) (by omega) ?_
             | with_reducible refine rem_step (by decide) ?_
             | with_reducible refine nil_row (fun _ => ?_) ?_
             | with_reducible refine nil_row2 (fun _ => ?_) ?_
             | with_reducible refine len_toks (fun _ => ?_)
             | with_reducible refine len_ints (fun _ => ?_)
             | with_reducible refine tok_known (by assumption) (by omega) ?_
             | with_reducible refine at_tok (by omega) (by omega) (fun _ _ => ?_)
             | with_reducible refine at_int (by omega) (by omega) (fun _ _ => ?_)
             | with_reducible refine slice_ints (by omega) (by omega) (by omega) ?_
             | refine at_box hs ?_
             | refine at_box (St.box_same ..) ?_
             | with_reducible refine draw_head ?_)
  all_goals exact finx rfl (by simp only [St.set_set]; rfl) h
theorem go_idle {b : Nat} {s s' : Sta} {t : Tk} {u : Sta} {o1 o2 : Own} {e : Int} (hs : st.box b = some (idleC s t u o1 o2 e)) (h : ∀ st', Upd st st' b s' → R (.ret (.tup [])) st') : PC 83 [.ptr b 0, encS s'] st R := by
  refine pcalls_of_body tys_ok [] Try.func83 rfl (by decide) ?_
  have h := h (st.setBox b (idleC s' t u o1 o2 e)) ⟨.inr ⟨_, _, _, _, _, St.box_same ..⟩, _, rfl⟩
  repeat' (conv => whnf
           first
             | with_reducible exact quiet_same
             | with_reducible exact quiet_bool
             | with_reducible exact quiet_not
             | with_reducible refine draw_step (by kernel_rfl) ?_
             | with_reducible refine quiet_go ?_ ?_ ?_
             | with_reducible refine bcase_yes (by first | assumption | omega) ?_
             | with_reducible refine bcase_no (by first | assumption | omega) ?_
             | with_reducible refine bcase_dyes (by omega) ?_
             | with_reducible refine bcase_dno (by omega) ?_
             | with_reducible refine bcase_len (by decide) (fun _ => ?_) (fun _ => ?_)
             | with_reducible refine bcase_eq (fun _ => ?_) (fun _ => ?_)
             | with_reducible refine bcase_dec (fun _ => ?_) (fun _ => ?_)
             | with_reducible refine bcase_true ?_
             | with_reducible refine bcase_false ?_
             | with_reducible refine bcase_intro (fun _ => ?_) (fun _ => ?_)
             | with_reducible refine len_kids (fun _ => ?_)
             | with_reducible refine at_known (by assumption) (by omega) ?_
             | with_reducible refine at_kid (by omega) (by omega) (fun _ _ _ => ?_)
             | with_reducible refine tail_kids (by omega) (by omega) ?_
             | with_reducible refine slice_kids (by omega) (by omega) (by omega) ?_
             | with_reducible refine ex_wrap (by omega) (by omega) ?_
             | with_reducible refine quo_step (by decide) (by omega) (by omega) ?_
             | with_reducible refine rem_step (by decide) ?_
             | with_reducible refine nil_row (fun _ => ?_) ?_
             | with_reducible refine nil_row2 (fun _ => ?_) ?_
             | with_reducible refine len_toks (fun _ => ?_)
             | with_reducible refine len_ints (fun _ => ?_)
             | with_reducible refine tok_known (by assumption) (by omega) ?_
             | with_reducible refine at_tok (by omega) (by omega) (fun _ _ => ?_)
             | with_reducible refine at_int (by omega) (by omega) (fun _ _ => ?_)
             | with_reducible refine slice_ints (by omega) (by omega) (by omega) ?_
             | refine at_box hs ?_
             | refine at_box (St.box_same ..) ?_
             | with_reducible refine draw_head ?_)
  all_goals exact finx rfl (by simp only [St.set_set]; rfl) h
theorem go_c {b : Nat} {s s' : Sta} (hs : Has st b s) (h : ∀ st', Upd st st' b s' → R (.ret (.tup [])) st') : PC 83 [.ptr b 0, encS s'] st R := by
  rcases hs with hs | ⟨t, u, o1, o2, e, hs⟩
  · exact go_look hs h
  · exact go_idle hs h

/-- the next token passed over -/
theorem skip_c {b : Nat} {s : Sta} (hs : Has st b s) (hb : s.opn.length ≤ 500000000) (h : (nextM s).2.2 = 0 → ∀ st', Upd st st' b (nextM s).2.1 → R (.ret (encT (nextM s).1)) st')
    (k : ¬ (nextM s).2.2 = 0 → R (.pan (fault (nextM s).2.2)) (st.setBox b (lookC s))) : PC 65 [.ptr b 0] st R := by
  refine pcalls_of_body tys_ok [] Try.func65 rfl (by decide) ?_
  repeat' (conv => whnf
           first
             | with_reducible exact quiet_same
             | with_reducible exact quiet_bool
             | with_reducible exact quiet_not
             | with_reducible refine draw_step (by kernel_rfl) ?_
             | with_reducible refine quiet_go ?_ ?_ ?_
             | with_reducible refine bcase_yes (by first | assumption | omega) ?_
             | with_reducible refine bcase_no (by first | assumption | omega) ?_
             | with_reducible refine bcase_dyes (by omega) ?_
             | with_reducible refine bcase_dno (by omega) ?_
             | with_reducible refine bcase_len (by decide) (fun _ => ?_) (fun _ => ?_)
             | with_reducible refine bcase_eq (fun _ => ?_) (fun _ => ?_)
             | with_reducible refine bcase_dec (fun _ => ?_) (fun _ => ?_)
             | with_reducible refine bcase_true ?_
             | with_reducible refine bcase_false ?_
             | with_reducible refine bcase_intro (fun _ => ?_) (fun _ => ?_)
             | with_reducible refine len_kids (fun _ => ?_)
             | with_reducible refine at_known (by assumption) (by omega) ?_
             | with_reducible refine at_kid (by omega) (by omega) (fun _ _ _ => ?_)
             | with_reducible refine tail_kids (by omega) (by omega) ?_
             | with_reducible refine slice_kids (by omega) (by omega) (by omega) ?_
             | with_reducible refine ex_wrap (by omega) (by omega) ?_
             | with_reducible refine quo_step (by decide) (by omega) (by omega) ?_
             | with_reducible refine rem_step (by decide) ?_
             | with_reducible refine nil_row (fun _ => ?_) ?_
             | with_reducible refine nil_row2 (fun _ => ?_) ?_
             | with_reducible refine len_toks (fun _ => ?_)
             | with_reducible refine len_ints (fun _ => ?_)
             | with_reducible refine tok_known (by assumption) (by omega) ?_
             | with_reducible refine at_tok (by omega) (by omega) (fun _ _ => ?_)
             | with_reducible refine at_int (by omega) (by omega) (fun _ _ => ?_)
             | with_reducible refine slice_ints (by omega) (by omega) (by omega) ?_
             | refine at_box (St.box_same ..) ?_
             | refine peek_c hs hb ?_
             | refine fail_c ?_
             | refine go_c (s' := (nextM s).2.1) (.inl (St.box_same st b (lookC s))) (fun st' hu => ?_)
             | with_reducible refine draw_head ?_)
  · exact finw rfl (h (by assumption) st' (upd_look.trans hu))
  · exact fin (k (by assumption)) rfl

/-- a token as a tree -/
def leafT (t : Tk) : Nd := .mk 1 t.kind t.text t.line t.col []
theorem leaf_c {t : Tk} (h : R (.ret (enc (leafT t))) st) : PC 64 [encT t] st R := by
  refine pcalls_of_body tys_ok [] Try.func64 rfl (by decide) ?_
  repeat' (conv => whnf
           first
             | with_reducible exact quiet_same
             | with_reducible exact quiet_bool
             | with_reducible exact quiet_not
             | with_reducible refine draw_step (by kernel_rfl) ?_
             | with_reducible refine quiet_go ?_ ?_ ?_
             | with_reducible refine bcase_yes (by first | assumption | omega) ?_
             | with_reducible refine bcase_no (by first | assumption | omega) ?_
             | with_reducible refine bcase_dyes (by omega) ?_
             | with_reducible refine bcase_dno (by omega) ?_
             | with_reducible refine bcase_len (by decide) (fun _ => ?_) (fun _ => ?_)
             | with_reducible refine bcase_eq (fun _ => ?_) (fun _ => ?_)
             | with_reducible refine bcase_dec (fun _ => ?_) (fun _ => ?_)
             | with_reducible refine bcase_true ?_
             | with_reducible refine bcase_false ?_
             | with_reducible refine bcase_intro (fun _ => ?_) (fun _ => ?_)
             | with_reducible refine len_kids (fun _ => ?_)
             | with_reducible refine at_known (by assumption) (by omega) ?_
             | with_reducible refine at_kid (by omega) (by omega) (fun _ _ _ => ?_)
             | with_reducible refine tail_kids (by omega) (by omega) ?_
             | with_reducible refine slice_kids (by omega) (by omega) (by omega) ?_
             | with_reducible refine ex_wrap (by omega) (by omega) ?_
             | with_reducible refine quo_step (by decide) (by omega) (by omega) ?_
             | with_reducible refine rem_step (by decide) ?_
             | with_reducible refine nil_row (fun _ => ?_) ?_
             | with_reducible refine nil_row2 (fun _ => ?_) ?_
             | with_reducible refine len_toks (fun _ => ?_)
             | with_reducible refine len_ints (fun _ => ?_)
             | with_reducible refine tok_known (by assumption) (by omega) ?_
             | with_reducible refine at_tok (by omega) (by omega) (fun _ _ => ?_)
             | with_reducible refine at_int (by omega) (by omega) (fun _ _ => ?_)
             | with_reducible refine slice_ints (by omega) (by omega) (by omega) ?_
             | with_reducible refine draw_head ?_)
  all_goals exact finw rfl h

def isF (s : Sta) (k : Int) (x : List UInt8) : Bool := (nextM s).1.kind == k && (nextM s).1.text == x
theorem is_c {b : Nat} {s : Sta} {k : Int} {x : List UInt8} (hs : Has st b s) (hb : s.opn.length ≤ 500000000) (h : R (.ret (.bool (isF s k x))) (st.setBox b (lookC s))) : PC 48 [.ptr b 0, .int .i64 k, .str x] st R := by
  refine pcalls_of_body tys_ok [] Try.func48 rfl (by decide) ?_
  repeat' (conv => whnf
           first
             | with_reducible exact quiet_same
             | with_reducible exact quiet_bool
             | with_reducible exact quiet_not
             | with_reducible refine draw_step (by kernel_rfl) ?_
             | with_reducible refine quiet_go ?_ ?_ ?_
             | with_reducible refine bcase_yes (by first | assumption | omega) ?_
             | with_reducible refine bcase_no (by first | assumption | omega) ?_
             | with_reducible refine bcase_dyes (by omega) ?_
             | with_reducible refine bcase_dno (by omega) ?_
             | with_reducible refine bcase_len (by decide) (fun _ => ?_) (fun _ => ?_)
             | with_reducible refine bcase_eq (fun _ => ?_) (fun _ => ?_)
             | with_reducible refine bcase_dec (fun _ => ?_) (fun _ => ?_)
             | with_reducible refine bcase_true ?_
             | with_reducible refine bcase_false ?_
             | with_reducible refine bcase_intro (fun _ => ?_) (fun _ => ?_)
             | with_reducible refine len_kids (fun _ => ?_)
             | with_reducible refine at_known (by assumption) (by omega) ?_
             | with_reducible refine at_kid (by omega) (by omega) (fun _ _ _ => ?_)
             | with_reducible refine tail_kids (by omega) (by omega) ?_
             | with_reducible refine slice_kids (by omega) (by omega) (by omega) ?_
             | with_reducible refine ex_wrap (by omega) (by omega) ?_
             | with_reducible refine quo_step (by decide) (by omega) (by omega) ?_
             | with_reducible refine rem_step (by decide) ?_
             | with_reducible refine nil_row (fun _ => ?_) ?_
             | with_reducible refine nil_row2 (fun _ => ?_) ?_
             | with_reducible refine len_toks (fun _ => ?_)
             | with_reducible refine len_ints (fun _ => ?_)
             | with_reducible refine tok_known (by assumption) (by omega) ?_
             | with_reducible refine at_tok (by omega) (by omega) (fun _ _ => ?_)
             | with_reducible refine at_int (by omega) (by omega) (fun _ _ => ?_)
             | with_reducible refine slice_ints (by omega) (by omega) (by omega) ?_
             | refine peek_c hs hb ?_
             | with_reducible refine draw_head ?_)
  all_goals (refine fin_bool h ?_; clear h; simp_all [isF])

theorem take_c {b : Nat} {s : Sta} (hs : Has st b s) (hb : s.opn.length ≤ 500000000) (h : (nextM s).2.2 = 0 → ∀ st', Upd st st' b (nextM s).2.1 → R (.ret (enc (leafT (nextM s).1))) st')
    (k : ¬ (nextM s).2.2 = 0 → R (.pan (fault (nextM s).2.2)) (st.setBox b (lookC s))) : PC 49 [.ptr b 0] st R := by
  refine pcalls_of_body tys_ok [] Try.func49 rfl (by decide) ?_
  repeat' (conv => whnf
           first
             | with_reducible exact quiet_same
             | with_reducible exact quiet_bool
             | with_reducible exact quiet_not
             | with_reducible refine draw_step (by kernel_rfl) ?_
             | with_reducible refine quiet_go ?_ ?_ ?_
             | with_reducible refine bcase_yes (by first | assumption | omega) ?_
             | with_reducible refine bcase_no (by first | assumption | omega) ?_
             | with_reducible refine bcase_dyes (by omega) ?_
             | with_reducible refine bcase_dno (by omega) ?_
             | with_reducible refine bcase_len (by decide) (fun _ => ?_) (fun _ => ?_)
             | with_reducible refine bcase_eq (fun _ => ?_) (fun _ => ?_)
             | with_reducible refine bcase_dec (fun _ => ?_) (fun _ => ?_)
             | with_reducible refine bcase_true ?_
             | with_reducible refine bcase_false ?_
             | with_reducible refine bcase_intro (fun _ => ?_) (fun _ => ?_)
             | with_reducible refine len_kids (fun _ => ?_)
             | with_reducible refine at_known (by assumption) (by omega) ?_
             | with_reducible refine at_kid (by omega) (by omega) (fun _ _ _ => ?_)
             | with_reducible refine tail_kids (by omega) (by omega) ?_
             | with_reducible refine slice_kids (by omega) (by omega) (by omega) ?_
             | with_reducible refine ex_wrap (by omega) (by omega) ?_
             | with_reducible refine quo_step (by decide) (by omega) (by omega) ?_
             | with_reducible refine rem_step (by decide) ?_
             | with_reducible refine nil_row (fun _ => ?_) ?_
             | with_reducible refine nil_row2 (fun _ => ?_) ?_
             | with_reducible refine len_toks (fun _ => ?_)
             | with_reducible refine len_ints (fun _ => ?_)
             | with_reducible refine tok_known (by assumption) (by omega) ?_
             | with_reducible refine at_tok (by omega) (by omega) (fun _ _ => ?_)
             | with_reducible refine at_int (by omega) (by omega) (fun _ _ => ?_)
             | with_reducible refine slice_ints (by omega) (by omega) (by omega) ?_
             | refine skip_c hs hb (fun e st' hu => ?_) (fun e => ?_)
             | refine leaf_c (t := (nextM s).1) ?_
             | with_reducible refine draw_head ?_)
  · exact finw rfl (h e st' hu)
  · exact fin (k e) rfl

theorem want_c {b : Nat} {s : Sta} {k : Int} {x : List UInt8} (hs : Has st b s) (hb : s.opn.length ≤ 500000000) (h : isF s k x = true → (nextM s).2.2 = 0 → ∀ st', Upd st st' b (nextM s).2.1 → R (.ret (enc (leafT (nextM s).1))) st')
    (k1 : isF s k x = true → ¬ (nextM s).2.2 = 0 → R (.pan (fault (nextM s).2.2)) (st.setBox b (lookC s))) (k2 : isF s k x = false → R (.pan (fault (badE s))) (st.setBox b (lookC s))) : PC 73 [.ptr b 0, .int .i64 k, .str x] st R := by
  refine pcalls_of_body tys_ok [] Try.func73 rfl (by decide) ?_
  have hl : Has (st.setBox b (lookC s)) b s := .inl (St.box_same ..)
  repeat' (conv => whnf
           first
             | with_reducible exact quiet_same
             | with_reducible exact quiet_bool
             | with_reducible exact quiet_not
             | with_reducible refine draw_step (by kernel_rfl) ?_
             | with_reducible refine quiet_go ?_ ?_ ?_
             | with_reducible refine bcase_yes (by first | assumption | omega) ?_
             | with_reducible refine bcase_no (by first | assumption | omega) ?_
             | with_reducible refine bcase_dyes (by omega) ?_
             | with_reducible refine bcase_dno (by omega) ?_
             | with_reducible refine bcase_len (by decide) (fun _ => ?_) (fun _ => ?_)
             | with_reducible refine bcase_eq (fun _ => ?_) (fun _ => ?_)
             | with_reducible refine bcase_dec (fun _ => ?_) (fun _ => ?_)
             | with_reducible refine bcase_true ?_
             | with_reducible refine bcase_false ?_
             | with_reducible refine bcase_intro (fun _ => ?_) (fun _ => ?_)
             | with_reducible refine len_kids (fun _ => ?_)
             | with_reducible refine at_known (by assumption) (by omega) ?_
             | with_reducible refine at_kid (by omega) (by omega) (fun _ _ _ => ?_)
             | with_reducible refine tail_kids (by omega) (by omega) ?_
             | with_reducible refine slice_kids (by omega) (by omega) (by omega) ?_
             | with_reducible refine ex_wrap (by omega) (by omega) ?_
             | with_reducible refine quo_step (by decide) (by omega) (by omega) ?_
             | with_reducible refine rem_step (by decide) ?_
             | with_reducible refine nil_row (fun _ => ?_) ?_
             | with_reducible refine nil_row2 (fun _ => ?_) ?_
             | with_reducible refine len_toks (fun _ => ?_)
             | with_reducible refine len_ints (fun _ => ?_)
             | with_reducible refine tok_known (by assumption) (by omega) ?_
             | with_reducible refine at_tok (by omega) (by omega) (fun _ _ => ?_)
             | with_reducible refine at_int (by omega) (by omega) (fun _ _ => ?_)
             | with_reducible refine slice_ints (by omega) (by omega) (by omega) ?_
             | refine is_c hs hb ?_
             | refine take_c hl hb (fun e st' hu => ?_) (fun e => ?_)
             | refine bad_c hl hb ?_
             | with_reducible refine draw_head ?_)
  · exact finw rfl (h (by assumption) e st' (upd_look.trans hu))
  · exact finx rfl (by rw [St.set_set]) (k1 (by assumption) e)
  · exact finx rfl (by rw [St.set_set]) (k2 (by assumption))

/-- another layer's call from here on: what it answers -/
def encR3 (n : Nd) (s : Sta) (e : Int) : V := .tup [enc n, encS s, .int .i64 e]
theorem into_c {f : FuncId} {b : Nat} {s s' : Sta} {n : Nd} {e d : Int} (hf : ∀ (st : St) (R : Res → St → Prop), R (.ret (encR3 n s' e)) st → PC f [encS s, .int .i64 d] st R) (hs : Has st b s)
    (h : e = 0 → ∀ st', Upd st st' b s' → R (.ret (enc n)) st') (k : ¬ e = 0 → ∀ st', Upd st st' b s' → R (.pan (fault e)) st') : PC 74 [.ptr b 0, .func f [] [], .int .i64 d] st R := by
  refine pcalls_of_body tys_ok [] Try.func74 rfl (by decide) ?_
  rcases hs with hs | ⟨t, u, o1, o2, e', hs⟩
  · skip
    repeat' (conv => whnf
             first
               | with_reducible exact quiet_same
               | with_reducible exact quiet_bool
               | with_reducible exact quiet_not
               | with_reducible refine draw_step (by kernel_rfl) ?_
               | with_reducible refine quiet_go ?_ ?_ ?_
               | with_reducible refine bcase_yes (by first | assumption | omega) ?_
               | with_reducible refine bcase_no (by first | assumption | omega) ?_
               | with_reducible refine bcase_dyes (by omega) ?_
               | with_reducible refine bcase_dno (by omega) ?_
               | with_reducible refine bcase_len (by decide) (fun _ => ?_) (fun _ => ?_)
               | with_reducible refine bcase_eq (fun _ => ?_) (fun _ => ?_)
               | with_reducible refine bcase_dec (fun _ => ?_) (fun _ => ?_)
               | with_reducible refine bcase_true ?_
               | with_reducible refine bcase_false ?_
               | with_reducible refine bcase_intro (fun _ => ?_) (fun _ => ?_)
               | with_reducible refine len_kids (fun _ => ?_)
               | with_reducible refine at_known (by assumption) (by omega) ?_
               | with_reducible refine at_kid (by omega) (by omega) (fun _ _ _ => ?_)
               | with_reducible refine tail_kids (by omega) (by omega) ?_
               | with_reducible refine slice_kids (by omega) (by omega) (by omega) ?_
               | with_reducible refine ex_wrap (by omega) (by omega) ?_
               | with_reducible refine quo_step (by decide) (by omega) (by omega) ?_
               | with_reducible refine rem_step (by decide) ?_
               | with_reducible refine nil_row (fun _ => ?_) ?_
               | with_reducible refine nil_row2 (fun _ => ?_) ?_
               | with_reducible refine len_toks (fun _ => ?_)
               | with_reducible refine len_ints (fun _ => ?_)
               | with_reducible refine tok_known (by assumption) (by omega) ?_
               | with_reducible refine at_tok (by omega) (by omega) (fun _ _ => ?_)
               | with_reducible refine at_int (by omega) (by omega) (fun _ _ => ?_)
               | with_reducible refine slice_ints (by omega) (by omega) (by omega) ?_
               | refine at_box hs ?_
               | refine hf _ _ ?_
               | refine fail_c ?_
               | refine go_c (s' := s') (.inl hs) (fun st' hu => ?_)
               | with_reducible refine draw_head ?_)
    · exact finw rfl (h (by assumption) st' hu)
    · exact fin (k (by assumption) st' hu) rfl
  · skip
    repeat' (conv => whnf
             first
               | with_reducible exact quiet_same
               | with_reducible exact quiet_bool
               | with_reducible exact quiet_not
               | with_reducible refine draw_step (by kernel_rfl) ?_
               | with_reducible refine quiet_go ?_ ?_ ?_
               | with_reducible refine bcase_yes (by first | assumption | omega) ?_
               | with_reducible refine bcase_no (by first | assumption | omega) ?_
               | with_reducible refine bcase_dyes (by omega) ?_
               | with_reducible refine bcase_dno (by omega) ?_
               | with_reducible refine bcase_len (by decide) (fun _ => ?_) (fun _ => ?_)
               | with_reducible refine bcase_eq (fun _ => ?_) (fun _ => ?_)
               | with_reducible refine bcase_dec (fun _ => ?_) (fun _ => ?_)
               | with_reducible refine bcase_true ?_
               | with_reducible refine bcase_false ?_
               | with_reducible refine bcase_intro (fun _ => ?_) (fun _ => ?_)
               | with_reducible refine len_kids (fun _ => ?_)
               | with_reducible refine at_known (by assumption) (by omega) ?_
               | with_reducible refine at_kid (by omega) (by omega) (fun _ _ _ => ?_)
               | with_reducible refine tail_kids (by omega) (by omega) ?_
               | with_reducible refine slice_kids (by omega) (by omega) (by omega) ?_
               | with_reducible refine ex_wrap (by omega) (by omega) ?_
               | with_reducible refine quo_step (by decide) (by omega) (by omega) ?_
               | with_reducible refine rem_step (by decide) ?_
               | with_reducible refine nil_row (fun _ => ?_) ?_
               | with_reducible refine nil_row2 (fun _ => ?_) ?_
               | with_reducible refine len_toks (fun _ => ?_)
               | with_reducible refine len_ints (fun _ => ?_)
               | with_reducible refine tok_known (by assumption) (by omega) ?_
               | with_reducible refine at_tok (by omega) (by omega) (fun _ _ => ?_)
               | with_reducible refine at_int (by omega) (by omega) (fun _ _ => ?_)
               | with_reducible refine slice_ints (by omega) (by omega) (by omega) ?_
               | refine at_box hs ?_
               | refine hf _ _ ?_
               | refine fail_c ?_
               | refine go_c (s' := s') (.inr ⟨t, u, o1, o2, e', hs⟩) (fun st' hu => ?_)
               | with_reducible refine draw_head ?_)
    · exact finw rfl (h (by assumption) st' hu)
    · exact fin (k (by assumption) st' hu) rfl
end
end Go.Proofs.Ytngbihfihdheoaa
