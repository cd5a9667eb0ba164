/-
  READER: Catch, and the closure that recovers.
-/
import Derived.Test.YtngbihfihdheoaaRdr1
import Derived.Test.YtngbihfihdheoaaAw19
set_option linter.unusedVariables false
set_option pp.maxSteps 400
namespace Go.Proofs.Ytngbihfihdheoaa
open Go Go.Aw

def catchPL : List (List Bool × Nat) := [([false, false, false, false, false, false, false, false], 0), ([false, false, false, false, false, false, false, false], 1), ([true, false, false, false, false, false, false, false], 1), ([true, false, false, false, false, false, false, false], 5), ([false, true, false, false, false, false, false, false], 0), ([false, true, false, false, false, false, false, false], 2), ([true, true, false, false, false, false, false, false], 2), ([true, true, false, false, false, false, false, false], 5), ([true, false, false, false, false, true, false, false], 1), ([false, true, true, false, false, false, false, false], 0), ([false, true, true, false, false, false, false, false], 3), ([true, true, true, false, false, false, false, false], 3), ([true, true, true, false, false, false, false, false], 5), ([true, true, false, false, false, true, false, false], 2), ([false, true, true, true, false, false, false, false], 0), ([false, true, true, true, false, false, false, false], 4), ([true, true, true, true, false, false, false, false], 4), ([true, true, true, true, false, false, false, false], 5), ([true, true, true, false, false, true, false, false], 3), ([false, true, true, true, true, false, false, false], 0), ([true, true, true, true, true, false, false, false], 5), ([true, true, true, true, false, true, false, false], 4), ([true, true, true, true, true, true, false, false], 6), ([true, true, true, true, true, true, true, false], 7)]
def closePL : List (List Bool × Nat) := [([false, false, false, false, false, false, false, false, false, false], 0), ([false, false, false, false, false, false, false, false, false, false], 1), ([false, false, false, false, false, false, false, false, false, false], 5), ([true, false, false, false, false, false, false, false, false, false], 1), ([true, false, false, false, false, false, false, false, false, false], 5), ([false, true, false, false, false, false, false, false, false, false], 0), ([false, true, false, false, false, false, false, false, false, false], 2), ([false, true, false, false, false, false, false, false, false, false], 5), ([false, false, false, false, false, true, false, false, false, false], 0), ([false, false, false, false, false, true, false, false, false, false], 1), ([false, false, false, false, false, true, false, false, false, false], 6), ([true, true, false, false, false, false, false, false, false, false], 2), ([true, true, false, false, false, false, false, false, false, false], 5), ([true, false, false, false, false, true, false, false, false, false], 1), ([true, false, false, false, false, true, false, false, false, false], 6), ([false, true, true, false, false, false, false, false, false, false], 0), ([false, true, true, false, false, false, false, false, false, false], 3), ([false, true, true, false, false, false, false, false, false, false], 5), ([false, true, false, false, false, true, false, false, false, false], 0), ([false, true, false, false, false, true, false, false, false, false], 2), ([false, true, false, false, false, true, false, false, false, false], 6), ([false, false, false, false, false, true, true, false, false, false], 0), ([false, false, false, false, false, true, true, false, false, false], 1), ([true, true, true, false, false, false, false, false, false, false], 3), ([true, true, true, false, false, false, false, false, false, false], 5), ([true, true, false, false, false, true, false, false, false, false], 2), ([true, true, false, false, false, true, false, false, false, false], 6), ([true, false, false, false, false, true, true, false, false, false], 1), ([false, true, true, true, false, false, false, false, false, false], 0), ([false, true, true, true, false, false, false, false, false, false], 4), ([false, true, true, true, false, false, false, false, false, false], 5), ([false, true, true, false, false, true, false, false, false, false], 0), ([false, true, true, false, false, true, false, false, false, false], 3), ([false, true, true, false, false, true, false, false, false, false], 6), ([false, true, false, false, false, true, true, false, false, false], 0), ([false, true, false, false, false, true, true, false, false, false], 2), ([true, true, true, true, false, false, false, false, false, false], 4), ([true, true, true, true, false, false, false, false, false, false], 5), ([true, true, true, false, false, true, false, false, false, false], 3), ([true, true, true, false, false, true, false, false, false, false], 6), ([true, true, false, false, false, true, true, false, false, false], 2), ([false, true, true, true, true, false, false, false, false, false], 0), ([false, true, true, true, true, false, false, false, false, false], 5), ([false, true, true, true, false, true, false, false, false, false], 0), ([false, true, true, true, false, true, false, false, false, false], 4), ([false, true, true, true, false, true, false, false, false, false], 6), ([false, true, true, false, false, true, true, false, false, false], 0), ([false, true, true, false, false, true, true, false, false, false], 3), ([true, true, true, true, true, false, false, false, false, false], 5), ([true, true, true, true, true, false, false, false, false, false], 7), ([true, true, true, true, false, true, false, false, false, false], 4), ([true, true, true, true, false, true, false, false, false, false], 6), ([true, true, true, false, false, true, true, false, false, false], 3), ([false, true, true, true, true, true, false, false, false, false], 0), ([false, true, true, true, true, true, false, false, false, false], 6), ([false, true, true, true, false, true, true, false, false, false], 0), ([false, true, true, true, false, true, true, false, false, false], 4), ([true, true, true, true, true, true, false, false, false, false], 6), ([true, true, true, true, true, true, false, false, false, false], 7), ([true, true, true, true, true, false, false, true, false, false], 5), ([true, true, true, true, true, false, false, true, false, false], 8), ([true, true, true, true, false, true, true, false, false, false], 4), ([false, true, true, true, true, true, true, false, false, false], 0), ([true, true, true, true, true, true, true, false, false, false], 7), ([true, true, true, true, true, true, false, true, false, false], 6), ([true, true, true, true, true, true, false, true, false, false], 8), ([true, true, true, true, true, false, false, true, true, false], 5), ([true, true, true, true, true, true, true, true, false, false], 8), ([true, true, true, true, true, true, false, true, true, false], 6), ([true, true, true, true, true, true, true, true, true, false], 9)]

section
variable {st : St} {R : Res → St → Prop}
attribute [local irreducible] Go.Aw.appendTo

/-- a tree of nothing -/
def nd0 : Nd := .mk 0 0 [] 0 0 []
def zeroN : List V := [.int .i64 0, .int .i64 0, .str [], .int .i64 0, .int .i64 0, .slice 6 [] .full]

theorem close_none {bp bn ba be : Nat} {RS : St → Prop} (h : RS st) : DCalls Try.prog 43 [.ptr bp 0, .ptr bn 0, .ptr ba 0, .ptr be 0] none st RS := by
  refine dcalls_of_body tys_ok [] Try.func43 rfl rfl rfl rfl rfl rfl rfl rfl (fun env0 he => ?_)
  subst he
  conv => whnf
  refine AW_seq2 (aw_of tys_ok ?_)
  repeat' (conv => whnf
           first
             | with_reducible exact quiet_same
             | with_reducible exact quiet_bool
             | with_reducible exact quiet_not
             | with_reducible refine draw_step (by kernel_rfl) ?_
             | with_reducible refine quiet_go ?_ ?_ ?_
             | with_reducible refine bcase_yes (by first | assumption | omega) ?_
             | with_reducible refine bcase_no (by first | assumption | omega) ?_
             | with_reducible refine bcase_dyes (by omega) ?_
             | with_reducible refine bcase_dno (by omega) ?_
             | with_reducible refine bcase_len (by decide) (fun _ => ?_) (fun _ => ?_)
             | with_reducible refine bcase_eq (fun _ => ?_) (fun _ => ?_)
             | with_reducible refine bcase_dec (fun _ => ?_) (fun _ => ?_)
             | with_reducible refine bcase_true ?_
             | with_reducible refine bcase_false ?_
             | with_reducible refine bcase_intro (fun _ => ?_) (fun _ => ?_)
             | with_reducible refine len_kids (fun _ => ?_)
             | with_reducible refine at_known (by assumption) (by omega) ?_
             | with_reducible refine at_kid (by omega) (by omega) (fun _ _ _ => ?_)
             | with_reducible refine tail_kids (by omega) (by omega) ?_
             | with_reducible refine slice_kids (by omega) (by omega) (by omega) ?_
             | with_reducible refine ex_wrap (by omega) (by omega) ?_
             | with_reducible refine quo_step (by decide) (by omega) (by omega) ?_
             | with_reducible refine rem_step (by decide) ?_
             | with_reducible refine nil_row (fun _ => ?_) ?_
             | with_reducible refine nil_row2 (fun _ => ?_) ?_
             | with_reducible refine len_toks (fun _ => ?_)
             | with_reducible refine len_ints (fun _ => ?_)
             | with_reducible refine tok_known (by assumption) (by omega) ?_
             | with_reducible refine at_tok (by omega) (by omega) (fun _ _ => ?_)
             | with_reducible refine at_int (by omega) (by omega) (fun _ _ => ?_)
             | with_reducible refine slice_ints (by omega) (by omega) (by omega) ?_
             | with_reducible refine draw_head ?_)
  all_goals exact h

theorem St.box_ne {st : St} {b c : Nat} {cs : List V} (h : b ≠ c) : (st.setBox b cs).box c = st.box c := by simp [St.setBox, Ne.symm h]
noncomputable def closeOps : List Oper := match Try.f43.body with | some (.seq _ (.seq _ (.seq _ (.seq _ (.region _ ops _))))) => ops.toList | _ => []
noncomputable def closeE (bs : List Bool) (bp bn ba be br : Nat) (sc : List V) (e : Int) : Env :=
  { tmps := putT [(6, .bool true), (14, .bool true), (13, .agg [.int .i64 e]), (5, .lptr 0 0), (4, fault e), (0, .ptr bp 0), (1, .ptr bn 0), (2, .ptr ba 0), (3, .ptr be 0)]
      closeOps
      [.agg zeroN, .ptr br 0, .ptr br 0, .ptr br 0, .agg sc, .lptr 0 0, .int .i64 e, .junk, .junk, .junk] bs, boxes := [(0, [.int .i64 e])], nxt := 1, sz := 25, gl := [] }
def closeS (st : St) (bn ba be : Nat) (sc : List V) (e : Int) (bs : List Bool) : St :=
  match bs[7]?, bs[8]?, bs[9]? with
  | _, _, some true => ((st.setBox bn zeroN).setBox ba sc).setBox be [.int .i64 e]
  | _, some true, _ => (st.setBox bn zeroN).setBox ba sc
  | some true, _, _ => st.setBox bn zeroN
  | _, _, _ => st
set_option maxHeartbeats 8000000 in
theorem close_some {bp bn ba be br : Nat} {s : Sta} {e : Int} {RS : St → Prop} (hp : st.box bp = some [.ptr br 0]) (hr : Has st br s) {n0 : Nd} {s0 : Sta} {o1 o2 o3 : Own} {e0 : Int}
    (hn : st.box bn = some [.int .i64 n0.kind, .int .i64 n0.form, .str n0.text, .int .i64 n0.line, .int .i64 n0.col, .slice 6 (encs n0.kids) o1])
    (ha : st.box ba = some [.slice 4 (encTs s0.toks) o2, .int .i64 s0.pos, .slice 1 (ints s0.opn) o3, .int .i64 s0.wait]) (he : st.box be = some [.int .i64 e0])
    (d1 : bn ≠ bp) (d2 : bn ≠ br) (d3 : bn ≠ ba) (d4 : bn ≠ be) (d5 : ba ≠ bp) (d6 : ba ≠ br) (d7 : ba ≠ be)
    (h : RS (((st.setBox bn zeroN).setBox ba s.cells).setBox be [.int .i64 e])) : DCalls Try.prog 43 [.ptr bp 0, .ptr bn 0, .ptr ba 0, .ptr be 0] (some (fault e)) st RS := by
  refine dcalls_of_body tys_ok [] Try.func43 rfl rfl rfl rfl rfl rfl rfl rfl (fun env0 he => ?_)
  subst he
  conv => whnf
  refine AW_seq2 (aw_of tys_ok ?_)
  repeat' (conv => whnf
           first
             | with_reducible exact quiet_same
             | with_reducible exact quiet_bool
             | with_reducible exact quiet_not
             | with_reducible refine draw_step (by kernel_rfl) ?_
             | with_reducible refine quiet_go ?_ ?_ ?_
             | with_reducible refine bcase_yes (by first | assumption | omega) ?_
             | with_reducible refine bcase_no (by first | assumption | omega) ?_
             | with_reducible refine bcase_dyes (by omega) ?_
             | with_reducible refine bcase_dno (by omega) ?_
             | with_reducible refine bcase_len (by decide) (fun _ => ?_) (fun _ => ?_)
             | with_reducible refine bcase_eq (fun _ => ?_) (fun _ => ?_)
             | with_reducible refine bcase_dec (fun _ => ?_) (fun _ => ?_)
             | with_reducible refine bcase_true ?_
             | with_reducible refine bcase_false ?_
             | with_reducible refine bcase_intro (fun _ => ?_) (fun _ => ?_)
             | with_reducible refine len_kids (fun _ => ?_)
             | with_reducible refine at_known (by assumption) (by omega) ?_
             | with_reducible refine at_kid (by omega) (by omega) (fun _ _ _ => ?_)
             | with_reducible refine tail_kids (by omega) (by omega) ?_
             | with_reducible refine slice_kids (by omega) (by omega) (by omega) ?_
             | with_reducible refine ex_wrap (by omega) (by omega) ?_
             | with_reducible refine quo_step (by decide) (by omega) (by omega) ?_
             | with_reducible refine rem_step (by decide) ?_
             | with_reducible refine nil_row (fun _ => ?_) ?_
             | with_reducible refine nil_row2 (fun _ => ?_) ?_
             | with_reducible refine len_toks (fun _ => ?_)
             | with_reducible refine len_ints (fun _ => ?_)
             | with_reducible refine tok_known (by assumption) (by omega) ?_
             | with_reducible refine at_tok (by omega) (by omega) (fun _ _ => ?_)
             | with_reducible refine at_int (by omega) (by omega) (fun _ _ => ?_)
             | with_reducible refine slice_ints (by omega) (by omega) (by omega) ?_
             | with_reducible refine draw_head ?_)
  refine AW_seq2 (aw_of tys_ok ?_)
  repeat' (conv => whnf
           first
             | with_reducible exact quiet_same
             | with_reducible exact quiet_bool
             | with_reducible exact quiet_not
             | with_reducible refine draw_step (by kernel_rfl) ?_
             | with_reducible refine quiet_go ?_ ?_ ?_
             | with_reducible refine bcase_yes (by first | assumption | omega) ?_
             | with_reducible refine bcase_no (by first | assumption | omega) ?_
             | with_reducible refine bcase_dyes (by omega) ?_
             | with_reducible refine bcase_dno (by omega) ?_
             | with_reducible refine bcase_len (by decide) (fun _ => ?_) (fun _ => ?_)
             | with_reducible refine bcase_eq (fun _ => ?_) (fun _ => ?_)
             | with_reducible refine bcase_dec (fun _ => ?_) (fun _ => ?_)
             | with_reducible refine bcase_true ?_
             | with_reducible refine bcase_false ?_
             | with_reducible refine bcase_intro (fun _ => ?_) (fun _ => ?_)
             | with_reducible refine len_kids (fun _ => ?_)
             | with_reducible refine at_known (by assumption) (by omega) ?_
             | with_reducible refine at_kid (by omega) (by omega) (fun _ _ _ => ?_)
             | with_reducible refine tail_kids (by omega) (by omega) ?_
             | with_reducible refine slice_kids (by omega) (by omega) (by omega) ?_
             | with_reducible refine ex_wrap (by omega) (by omega) ?_
             | with_reducible refine quo_step (by decide) (by omega) (by omega) ?_
             | with_reducible refine rem_step (by decide) ?_
             | with_reducible refine nil_row (fun _ => ?_) ?_
             | with_reducible refine nil_row2 (fun _ => ?_) ?_
             | with_reducible refine len_toks (fun _ => ?_)
             | with_reducible refine len_ints (fun _ => ?_)
             | with_reducible refine tok_known (by assumption) (by omega) ?_
             | with_reducible refine at_tok (by omega) (by omega) (fun _ _ => ?_)
             | with_reducible refine at_int (by omega) (by omega) (fun _ _ => ?_)
             | with_reducible refine slice_ints (by omega) (by omega) (by omega) ?_
             | with_reducible refine draw_head ?_)
  refine AW_seq2 (aw_of tys_ok ?_)
  repeat' (conv => whnf
           first
             | with_reducible exact quiet_same
             | with_reducible exact quiet_bool
             | with_reducible exact quiet_not
             | with_reducible refine draw_step (by kernel_rfl) ?_
             | with_reducible refine quiet_go ?_ ?_ ?_
             | with_reducible refine bcase_yes (by first | assumption | omega) ?_
             | with_reducible refine bcase_no (by first | assumption | omega) ?_
             | with_reducible refine bcase_dyes (by omega) ?_
             | with_reducible refine bcase_dno (by omega) ?_
             | with_reducible refine bcase_len (by decide) (fun _ => ?_) (fun _ => ?_)
             | with_reducible refine bcase_eq (fun _ => ?_) (fun _ => ?_)
             | with_reducible refine bcase_dec (fun _ => ?_) (fun _ => ?_)
             | with_reducible refine bcase_true ?_
             | with_reducible refine bcase_false ?_
             | with_reducible refine bcase_intro (fun _ => ?_) (fun _ => ?_)
             | with_reducible refine len_kids (fun _ => ?_)
             | with_reducible refine at_known (by assumption) (by omega) ?_
             | with_reducible refine at_kid (by omega) (by omega) (fun _ _ _ => ?_)
             | with_reducible refine tail_kids (by omega) (by omega) ?_
             | with_reducible refine slice_kids (by omega) (by omega) (by omega) ?_
             | with_reducible refine ex_wrap (by omega) (by omega) ?_
             | with_reducible refine quo_step (by decide) (by omega) (by omega) ?_
             | with_reducible refine rem_step (by decide) ?_
             | with_reducible refine nil_row (fun _ => ?_) ?_
             | with_reducible refine nil_row2 (fun _ => ?_) ?_
             | with_reducible refine len_toks (fun _ => ?_)
             | with_reducible refine len_ints (fun _ => ?_)
             | with_reducible refine tok_known (by assumption) (by omega) ?_
             | with_reducible refine at_tok (by omega) (by omega) (fun _ _ => ?_)
             | with_reducible refine at_int (by omega) (by omega) (fun _ _ => ?_)
             | with_reducible refine slice_ints (by omega) (by omega) (by omega) ?_
             | with_reducible refine draw_head ?_)
  have ha' : (st.setBox bn zeroN).box ba = some [.slice 4 (encTs s0.toks) o2, .int .i64 s0.pos, .slice 1 (ints s0.opn) o3, .int .i64 s0.wait] := by rw [St.box_ne d3]; exact ha
  have he' : ((st.setBox bn zeroN).setBox ba s.cells).box be = some [.int .i64 e0] := by rw [St.box_ne d7, St.box_ne d4]; exact he
  refine aw_any tys_ok (pcalls_sound _) (fun bs => closeE bs bp bn ba be br s.cells e) (closeS st bn ba be s.cells e) closePL (by decide +kernel) (by refine ⟨rfl, ?_, ?_, rfl⟩ <;> repeat' (first | exact trivial | exact rfl | refine And.intro ?_ ?_)) (St.le_refl _) ?_ h
  unfold closePL
  rcases hr with hr | ⟨t, u, q1, q2, q3, hr⟩
  all_goals repeat' (first | refine List.forall_mem_cons.2 ⟨?_, ?_⟩ | exact fun _ h => nomatch h)
  repeat' (conv => whnf
           first
             | with_reducible exact quiet_same
             | with_reducible exact quiet_bool
             | with_reducible exact quiet_not
             | with_reducible refine draw_step (by kernel_rfl) ?_
             | with_reducible refine quiet_go ?_ ?_ ?_
             | with_reducible refine bcase_yes (by first | assumption | omega) ?_
             | with_reducible refine bcase_no (by first | assumption | omega) ?_
             | with_reducible refine bcase_dyes (by omega) ?_
             | with_reducible refine bcase_dno (by omega) ?_
             | with_reducible refine bcase_len (by decide) (fun _ => ?_) (fun _ => ?_)
             | with_reducible refine bcase_eq (fun _ => ?_) (fun _ => ?_)
             | with_reducible refine bcase_dec (fun _ => ?_) (fun _ => ?_)
             | with_reducible refine bcase_true ?_
             | with_reducible refine bcase_false ?_
             | with_reducible refine bcase_intro (fun _ => ?_) (fun _ => ?_)
             | with_reducible refine len_kids (fun _ => ?_)
             | with_reducible refine at_known (by assumption) (by omega) ?_
             | with_reducible refine at_kid (by omega) (by omega) (fun _ _ _ => ?_)
             | with_reducible refine tail_kids (by omega) (by omega) ?_
             | with_reducible refine slice_kids (by omega) (by omega) (by omega) ?_
             | with_reducible refine ex_wrap (by omega) (by omega) ?_
             | with_reducible refine quo_step (by decide) (by omega) (by omega) ?_
             | with_reducible refine rem_step (by decide) ?_
             | with_reducible refine nil_row (fun _ => ?_) ?_
             | with_reducible refine nil_row2 (fun _ => ?_) ?_
             | with_reducible refine len_toks (fun _ => ?_)
             | with_reducible refine len_ints (fun _ => ?_)
             | with_reducible refine tok_known (by assumption) (by omega) ?_
             | with_reducible refine at_tok (by omega) (by omega) (fun _ _ => ?_)
             | with_reducible refine at_int (by omega) (by omega) (fun _ _ => ?_)
             | with_reducible refine slice_ints (by omega) (by omega) (by omega) ?_
             | refine at_box hp ?_
             | refine at_box hr ?_
             | refine at_box hn ?_
             | refine at_box ha' ?_
             | refine at_box he' ?_
             | with_reducible refine draw_head ?_)
  all_goals conv => whnf
  all_goals (refine ⟨(by refine ⟨rfl, ?_, ?_, rfl⟩ <;> repeat' (first | exact trivial | exact rfl | refine And.intro ?_ ?_)), ?_⟩)
  all_goals exact St.le_refl _
end
end Go.Proofs.Ytngbihfihdheoaa
