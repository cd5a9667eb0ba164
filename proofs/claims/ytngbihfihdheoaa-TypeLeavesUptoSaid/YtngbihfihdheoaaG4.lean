/-
  LAWS OF THE TYPES: tree.Leaves.
-/
import Derived.Test.YtngbihfihdheoaaG3
set_option linter.unusedVariables false
set_option pp.maxSteps 400
namespace Go.Proofs.Ytngbihfihdheoaa
open Go Go.Aw
/-- a row of tokens behind a pointer -/
def lvM (st : St) (bo : Nat) (l : List Tk) (own : Own) : St := own.st (st.setBox bo [.slice 4 (encTs l) own]) (l.length * 4)
theorem own_box {own : Own} {st : St} {n b : Nat} : (own.st st n).box b = st.box b := by cases own <;> rfl
theorem good_in {own : Own} {st : St} {b : Nat} {cs : List V} (hb : st.box b ≠ none) (h : own.good st) : own.good (st.setBox b cs) := by
  cases own with
  | any => exact h
  | full => trivial
  | tok t =>
    have : b ≠ t := fun e => by subst e; exact hb h.1
    exact ⟨by rw [St.box_ne this]; exact h.1, h.2⟩
theorem good_out {own : Own} {st : St} {b : Nat} {cs : List V} (h : own.good (st.setBox b cs)) : own.good st := by
  cases own with
  | any => exact h
  | full => trivial
  | tok t => exact (fresh_ne h).2
theorem lvM_in {st : St} {bo : Nat} {l : List Tk} {own : Own} : (lvM st bo l own).box bo = some [.slice 4 (encTs l) own] := by unfold lvM; rw [own_box, St.box_same]
theorem lvM_out {st : St} {bo b : Nat} {l : List Tk} {own : Own} (h : bo ≠ b) : (lvM st bo l own).box b = st.box b := by unfold lvM; rw [own_box, St.box_ne h]
theorem lvM_set {st : St} {bo : Nat} {l l' : List Tk} {own own' : Own} : (own'.st (st.setBox bo [.slice 4 (encTs l) own]) (l'.length * 4)).setBox bo [.slice 4 (encTs l') own'] = lvM st bo l' own' := by
  rw [own_set, St.set_set]; rfl
theorem leavesF_in {n : Nd} (h : ¬ n.kind = 1) : leavesF n = leavesFs n.kids := by
  cases n with
  | mk a b c d e ks => rw [leavesF, if_neg (show ¬ a = 1 from h)]; rfl
theorem leavesF_of {n : Nd} (h : n.kind = 1) : leavesF n = [⟨n.form, n.text, n.line, n.col⟩] := by
  cases n with
  | mk a b c d e ks => rw [leavesF, if_pos (show a = 1 from h)]; rfl
theorem leavesFs_take {l : List Nd} {k : Nat} {x : Nd} (h : l[k]? = some x) : leavesFs (l.take (k + 1)) = leavesFs (l.take k) ++ leavesF x := by
  rw [List.take_add_one, h, leavesFs_append]
  show _ ++ leavesFs [x] = _
  rw [leavesFs_one]
theorem leavesFs_le {l : List Nd} {k : Nat} {x : Nd} (h : l[k]? = some x) : (leavesFs (l.take k)).length + (leavesF x).length ≤ (leavesFs l).length := by
  have e : l = l.take (k + 1) ++ l.drop (k + 1) := (List.take_append_drop _ _).symm
  have : leavesFs l = leavesFs (l.take k) ++ leavesF x ++ leavesFs (l.drop (k + 1)) := by
    conv => lhs; rw [e]
    rw [leavesFs_append, leavesFs_take h]
  rw [this]
  simp only [List.length_append]
  omega
section
variable {R : Res → St → Prop}
attribute [local irreducible] Go.Aw.appendTo
theorem leaves1_c : ∀ (m : Nat) {n : Nd} {st : St} {bo bw : Nat} {l : List Tk} {own : Own} {R : Res → St → Prop}, n.size ≤ m → bo ≠ bw → st.box bo ≠ none → st.box bw = some [.func 42 [] [.ptr bo 0, .ptr bw 0]] → own.good st → l.length + (leavesF n).length ≤ 100000000 →
    (∀ own' : Own, own'.good st → R (.ret (.tup [])) (lvM st bo (l ++ leavesF n) own')) → PC 42 [enc n, .ptr bo 0, .ptr bw 0] (lvM st bo l own) R := by
  intro m
  induction m with
  | zero => intro n st bo bw l own R hm; cases n; rw [Nd.size] at hm; omega
  | succ m ih =>
    intro n st bo bw l own R hm hne hb hw hg hl h
    refine pcalls_of_body tys_ok [] Try.func42 rfl (by decide) ?_
    by_cases hk : n.kind = 1
    · rw [leavesF_of hk] at h hl
      have hn : l.length + 1 ≤ 1000000000 := by simp only [List.length_singleton] at hl; omega
      repeat' (conv => whnf
               first
                 | with_reducible exact quiet_same
                 | with_reducible exact quiet_bool
                 | with_reducible exact quiet_not
                 | with_reducible refine draw_step (by kernel_rfl) ?_
                 | with_reducible refine quiet_go ?_ ?_ ?_
                 | with_reducible refine bcase_yes (by first | assumption | omega) ?_
                 | with_reducible refine bcase_no (by first | assumption | omega) ?_
                 | with_reducible refine bcase_dyes (by omega) ?_
                 | with_reducible refine bcase_dno (by omega) ?_
                 | with_reducible refine bcase_len (by decide) (fun _ => ?_) (fun _ => ?_)
                 | with_reducible refine bcase_eq (fun _ => ?_) (fun _ => ?_)
                 | with_reducible refine bcase_dec (fun _ => ?_) (fun _ => ?_)
                 | with_reducible refine bcase_true ?_
                 | with_reducible refine bcase_false ?_
                 | with_reducible refine bcase_intro (fun _ => ?_) (fun _ => ?_)
                 | with_reducible refine len_kids (fun _ => ?_)
                 | with_reducible refine at_known (by assumption) (by omega) ?_
                 | with_reducible refine at_kid (by omega) (by omega) (fun _ _ _ => ?_)
                 | with_reducible refine tail_kids (by omega) (by omega) ?_
                 | with_reducible refine slice_kids (by omega) (by omega) (by omega) ?_
                 | with_reducible refine ex_wrap (by omega) (by omega) ?_
                 | with_reducible refine quo_step (by decide) (by omega) (by omega) ?_
                 | with_reducible refine rem_step (by decide) ?_
                 | with_reducible refine nil_row (fun _ => ?_) ?_
                 | with_reducible refine nil_row2 (fun _ => ?_) ?_
                 | with_reducible refine len_toks (fun _ => ?_)
                 | with_reducible refine len_ints (fun _ => ?_)
                 | with_reducible refine tok_known (by assumption) (by omega) ?_
                 | with_reducible refine at_tok (by omega) (by omega) (fun _ _ => ?_)
                 | with_reducible refine at_int (by omega) (by omega) (fun _ _ => ?_)
                 | with_reducible refine slice_ints (by omega) (by omega) (by omega) ?_
                 | refine at_box lvM_in ?_
                 | refine app_tk (st := st.setBox bo [.slice 4 (encTs l) own]) (l := l) (x := ⟨n.form, n.text, n.line, n.col⟩) (good_in hb hg) hn (fun own1 ho1 => ?_)
                 | refine at_box (by rw [own_box, St.box_same]) ?_
                 | with_reducible refine draw_head ?_)
      all_goals exact finx rfl lvM_set (h own1 (good_out ho1))
    · rw [leavesF_in hk] at h hl
      repeat' (conv => whnf
               first
                 | with_reducible exact quiet_same
                 | with_reducible exact quiet_bool
                 | with_reducible exact quiet_not
                 | with_reducible refine draw_step (by kernel_rfl) ?_
                 | with_reducible refine quiet_go ?_ ?_ ?_
                 | with_reducible refine bcase_yes (by first | assumption | omega) ?_
                 | with_reducible refine bcase_no (by first | assumption | omega) ?_
                 | with_reducible refine bcase_dyes (by omega) ?_
                 | with_reducible refine bcase_dno (by omega) ?_
                 | with_reducible refine bcase_len (by decide) (fun _ => ?_) (fun _ => ?_)
                 | with_reducible refine bcase_eq (fun _ => ?_) (fun _ => ?_)
                 | with_reducible refine bcase_dec (fun _ => ?_) (fun _ => ?_)
                 | with_reducible refine bcase_true ?_
                 | with_reducible refine bcase_false ?_
                 | with_reducible refine bcase_intro (fun _ => ?_) (fun _ => ?_)
                 | with_reducible refine len_kids (fun _ => ?_)
                 | with_reducible refine at_known (by assumption) (by omega) ?_
                 | with_reducible refine at_kid (by omega) (by omega) (fun _ _ _ => ?_)
                 | with_reducible refine tail_kids (by omega) (by omega) ?_
                 | with_reducible refine slice_kids (by omega) (by omega) (by omega) ?_
                 | with_reducible refine ex_wrap (by omega) (by omega) ?_
                 | with_reducible refine quo_step (by decide) (by omega) (by omega) ?_
                 | with_reducible refine rem_step (by decide) ?_
                 | with_reducible refine nil_row (fun _ => ?_) ?_
                 | with_reducible refine nil_row2 (fun _ => ?_) ?_
                 | with_reducible refine len_toks (fun _ => ?_)
                 | with_reducible refine len_ints (fun _ => ?_)
                 | with_reducible refine tok_known (by assumption) (by omega) ?_
                 | with_reducible refine at_tok (by omega) (by omega) (fun _ _ => ?_)
                 | with_reducible refine at_int (by omega) (by omega) (fun _ _ => ?_)
                 | with_reducible refine slice_ints (by omega) (by omega) (by omega) ?_
                 | with_reducible refine draw_head ?_)
      refine loop_h (α := Nat × Own) (fun x => [(24, .int .i64 (x.1 : Nat))]) [22, 23, 1, 2] (fun x => []) [] (fun x => lvM st bo (l ++ leavesFs (n.kids.take x.1)) x.2) (fun x => x.2.good st ∧ x.1 ≤ n.kids.length) (fun x => n.kids.length - x.1) (0, own) ⟨hg, Nat.zero_le _⟩ (by refine ⟨rfl, ?_, ?_, rfl⟩ <;> repeat' (first | exact trivial | exact rfl | refine And.intro ?_ ?_))
        (by show St.le (lvM st bo (l ++ leavesFs (n.kids.take 0)) own) _; rw [List.take_zero, leavesFs, List.append_nil]; exact St.le_refl _) ?_
      rintro ⟨k, own1⟩ ⟨j1, j2⟩
      dsimp only at j1 j2
      by_cases hlt : k < n.kids.length
      · obtain ⟨x, hx⟩ : ∃ x, n.kids[(k : Int).toNat]? = some x := ⟨_, List.getElem?_eq_getElem hlt⟩
        have hx' : n.kids[k]? = some x := hx
        have hxs := size_kid (List.mem_of_getElem? hx')
        have hle := leavesFs_le hx'
        have hll : ∀ k x, n.kids[k]? = some x → (l ++ leavesFs (n.kids.take k)).length + (leavesF x).length ≤ 100000000 := fun k x e => by have := leavesFs_le e; rw [List.length_append]; omega
        have hW : (lvM st bo (l ++ leavesFs (n.kids.take k)) own1).box bw = some [.func 42 [] [.ptr bo 0, .ptr bw 0]] := by rw [lvM_out hne]; exact hw
        repeat' (conv => whnf
                 first
                   | with_reducible exact quiet_same
                   | with_reducible exact quiet_bool
                   | with_reducible exact quiet_not
                   | with_reducible refine draw_step (by kernel_rfl) ?_
                   | with_reducible refine quiet_go ?_ ?_ ?_
                   | with_reducible refine bcase_yes (by first | assumption | omega) ?_
                   | with_reducible refine bcase_no (by first | assumption | omega) ?_
                   | with_reducible refine bcase_dyes (by omega) ?_
                   | with_reducible refine bcase_dno (by omega) ?_
                   | with_reducible refine bcase_len (by decide) (fun _ => ?_) (fun _ => ?_)
                   | with_reducible refine bcase_eq (fun _ => ?_) (fun _ => ?_)
                   | with_reducible refine bcase_dec (fun _ => ?_) (fun _ => ?_)
                   | with_reducible refine bcase_true ?_
                   | with_reducible refine bcase_false ?_
                   | with_reducible refine bcase_intro (fun _ => ?_) (fun _ => ?_)
                   | with_reducible refine len_kids (fun _ => ?_)
                   | with_reducible refine at_known (by assumption) (by omega) ?_
                   | with_reducible refine at_kid (by omega) (by omega) (fun _ _ _ => ?_)
                   | with_reducible refine tail_kids (by omega) (by omega) ?_
                   | with_reducible refine slice_kids (by omega) (by omega) (by omega) ?_
                   | with_reducible refine ex_wrap (by omega) (by omega) ?_
                   | with_reducible refine quo_step (by decide) (by omega) (by omega) ?_
                   | with_reducible refine rem_step (by decide) ?_
                   | with_reducible refine nil_row (fun _ => ?_) ?_
                   | with_reducible refine nil_row2 (fun _ => ?_) ?_
                   | with_reducible refine len_toks (fun _ => ?_)
                   | with_reducible refine len_ints (fun _ => ?_)
                   | with_reducible refine tok_known (by assumption) (by omega) ?_
                   | with_reducible refine at_tok (by omega) (by omega) (fun _ _ => ?_)
                   | with_reducible refine at_int (by omega) (by omega) (fun _ _ => ?_)
                   | with_reducible refine slice_ints (by omega) (by omega) (by omega) ?_
                   | refine at_box hW ?_
                   | refine ih (n := x) (l := l ++ leavesFs (n.kids.take k)) (by omega) hne hb hw j1 (hll k x hx') (fun own2 ho2 => ?_)
                   | refine ex_wrap (a := (k : Int) + 1) (by omega) (by omega) ?_
                   | with_reducible refine draw_head ?_)
        all_goals conv => whnf
        all_goals exact ⟨(k + 1, own2), ⟨ho2, hlt⟩, Nat.sub_lt_sub_left hlt (Nat.lt_succ_self k), (by refine ⟨rfl, ?_, ?_, rfl⟩ <;> repeat' (first | exact trivial | exact rfl | refine And.intro ?_ ?_)), by
          show St.le (lvM st bo (l ++ leavesFs (n.kids.take (k + 1))) own2) _
          rw [leavesFs_take hx', ← List.append_assoc]
          exact St.le_refl _⟩
      · have hk2 : k = n.kids.length := by omega
        repeat' (conv => whnf
                 first
                   | with_reducible exact quiet_same
                   | with_reducible exact quiet_bool
                   | with_reducible exact quiet_not
                   | with_reducible refine draw_step (by kernel_rfl) ?_
                   | with_reducible refine quiet_go ?_ ?_ ?_
                   | with_reducible refine bcase_yes (by first | assumption | omega) ?_
                   | with_reducible refine bcase_no (by first | assumption | omega) ?_
                   | with_reducible refine bcase_dyes (by omega) ?_
                   | with_reducible refine bcase_dno (by omega) ?_
                   | with_reducible refine bcase_len (by decide) (fun _ => ?_) (fun _ => ?_)
                   | with_reducible refine bcase_eq (fun _ => ?_) (fun _ => ?_)
                   | with_reducible refine bcase_dec (fun _ => ?_) (fun _ => ?_)
                   | with_reducible refine bcase_true ?_
                   | with_reducible refine bcase_false ?_
                   | with_reducible refine bcase_intro (fun _ => ?_) (fun _ => ?_)
                   | with_reducible refine len_kids (fun _ => ?_)
                   | with_reducible refine at_known (by assumption) (by omega) ?_
                   | with_reducible refine at_kid (by omega) (by omega) (fun _ _ _ => ?_)
                   | with_reducible refine tail_kids (by omega) (by omega) ?_
                   | with_reducible refine slice_kids (by omega) (by omega) (by omega) ?_
                   | with_reducible refine ex_wrap (by omega) (by omega) ?_
                   | with_reducible refine quo_step (by decide) (by omega) (by omega) ?_
                   | with_reducible refine rem_step (by decide) ?_
                   | with_reducible refine nil_row (fun _ => ?_) ?_
                   | with_reducible refine nil_row2 (fun _ => ?_) ?_
                   | with_reducible refine len_toks (fun _ => ?_)
                   | with_reducible refine len_ints (fun _ => ?_)
                   | with_reducible refine tok_known (by assumption) (by omega) ?_
                   | with_reducible refine at_tok (by omega) (by omega) (fun _ _ => ?_)
                   | with_reducible refine at_int (by omega) (by omega) (fun _ _ => ?_)
                   | with_reducible refine slice_ints (by omega) (by omega) (by omega) ?_
                   | with_reducible refine draw_head ?_)
        all_goals exact finx rfl (by rw [hk2, List.take_length]) (h own1 j1)
theorem fin_toks {l : List Tk} {own : Own} : Res.ret (.slice 4 (encTs l) .any) = (Res.ret (.slice 4 (encTs l) own)).wk := rfl
theorem leaves1_e {n : Nd} {st : St} {bo bw : Nat} {R : Res → St → Prop} (hne : bo ≠ bw) (hb : st.box bo = some [.slice 4 [] .full]) (hw : st.box bw = some [.func 42 [] [.ptr bo 0, .ptr bw 0]]) (hl : (leavesF n).length ≤ 100000000)
    (h : ∀ own' : Own, own'.good st → R (.ret (.tup [])) (lvM st bo (leavesF n) own')) : PC 42 [enc n, .ptr bo 0, .ptr bw 0] st R := by
  have := leaves1_c n.size (n := n) (st := st) (bo := bo) (bw := bw) (l := []) (own := .full) (R := R) (Nat.le_refl _) hne (by rw [hb]; exact fun e => by cases e) hw trivial (by show 0 + _ ≤ _; omega) h
  rw [show lvM st bo [] .full = st from St.set_self hb] at this
  exact this
theorem leaves_c {n : Nd} {st : St} (hl : (leavesF n).length ≤ 100000000) (h : R (.ret (.slice 4 (encTs (leavesF n)) .any)) st) : PC 25 [enc n] st R := by
  refine pcalls_of_body tys_ok [3, 4] Try.func25 rfl (by decide) ?_
  repeat' (conv => whnf
           first
             | with_reducible exact quiet_same
             | with_reducible exact quiet_bool
             | with_reducible exact quiet_not
             | with_reducible refine draw_step (by kernel_rfl) ?_
             | with_reducible refine quiet_go ?_ ?_ ?_
             | with_reducible refine bcase_yes (by first | assumption | omega) ?_
             | with_reducible refine bcase_no (by first | assumption | omega) ?_
             | with_reducible refine bcase_dyes (by omega) ?_
             | with_reducible refine bcase_dno (by omega) ?_
             | with_reducible refine bcase_len (by decide) (fun _ => ?_) (fun _ => ?_)
             | with_reducible refine bcase_eq (fun _ => ?_) (fun _ => ?_)
             | with_reducible refine bcase_dec (fun _ => ?_) (fun _ => ?_)
             | with_reducible refine bcase_true ?_
             | with_reducible refine bcase_false ?_
             | with_reducible refine bcase_intro (fun _ => ?_) (fun _ => ?_)
             | with_reducible refine len_kids (fun _ => ?_)
             | with_reducible refine at_known (by assumption) (by omega) ?_
             | with_reducible refine at_kid (by omega) (by omega) (fun _ _ _ => ?_)
             | with_reducible refine tail_kids (by omega) (by omega) ?_
             | with_reducible refine slice_kids (by omega) (by omega) (by omega) ?_
             | with_reducible refine ex_wrap (by omega) (by omega) ?_
             | with_reducible refine quo_step (by decide) (by omega) (by omega) ?_
             | with_reducible refine rem_step (by decide) ?_
             | with_reducible refine nil_row (fun _ => ?_) ?_
             | with_reducible refine nil_row2 (fun _ => ?_) ?_
             | with_reducible refine len_toks (fun _ => ?_)
             | with_reducible refine len_ints (fun _ => ?_)
             | with_reducible refine tok_known (by assumption) (by omega) ?_
             | with_reducible refine at_tok (by omega) (by omega) (fun _ _ => ?_)
             | with_reducible refine at_int (by omega) (by omega) (fun _ _ => ?_)
             | with_reducible refine slice_ints (by omega) (by omega) (by omega) ?_
             | refine new_box (fun b f => ?_)
             | refine at_box (St.box_same ..) ?_
             | with_reducible refine draw_head ?_)
  rename_i b1 f1
  have hne : b1 ≠ b := (fresh_ne f).1
  have hfb : st.fresh b := (fresh_ne (fresh_ne f).2).2
  repeat' (conv => whnf
           first
             | with_reducible exact quiet_same
             | with_reducible exact quiet_bool
             | with_reducible exact quiet_not
             | with_reducible refine draw_step (by kernel_rfl) ?_
             | with_reducible refine quiet_go ?_ ?_ ?_
             | with_reducible refine bcase_yes (by first | assumption | omega) ?_
             | with_reducible refine bcase_no (by first | assumption | omega) ?_
             | with_reducible refine bcase_dyes (by omega) ?_
             | with_reducible refine bcase_dno (by omega) ?_
             | with_reducible refine bcase_len (by decide) (fun _ => ?_) (fun _ => ?_)
             | with_reducible refine bcase_eq (fun _ => ?_) (fun _ => ?_)
             | with_reducible refine bcase_dec (fun _ => ?_) (fun _ => ?_)
             | with_reducible refine bcase_true ?_
             | with_reducible refine bcase_false ?_
             | with_reducible refine bcase_intro (fun _ => ?_) (fun _ => ?_)
             | with_reducible refine len_kids (fun _ => ?_)
             | with_reducible refine at_known (by assumption) (by omega) ?_
             | with_reducible refine at_kid (by omega) (by omega) (fun _ _ _ => ?_)
             | with_reducible refine tail_kids (by omega) (by omega) ?_
             | with_reducible refine slice_kids (by omega) (by omega) (by omega) ?_
             | with_reducible refine ex_wrap (by omega) (by omega) ?_
             | with_reducible refine quo_step (by decide) (by omega) (by omega) ?_
             | with_reducible refine rem_step (by decide) ?_
             | with_reducible refine nil_row (fun _ => ?_) ?_
             | with_reducible refine nil_row2 (fun _ => ?_) ?_
             | with_reducible refine len_toks (fun _ => ?_)
             | with_reducible refine len_ints (fun _ => ?_)
             | with_reducible refine tok_known (by assumption) (by omega) ?_
             | with_reducible refine at_tok (by omega) (by omega) (fun _ _ => ?_)
             | with_reducible refine at_int (by omega) (by omega) (fun _ _ => ?_)
             | with_reducible refine slice_ints (by omega) (by omega) (by omega) ?_
             | refine leaves1_e hne (by rw [St.box_ne hne.symm, St.box_ne hne.symm, St.box_same]) (St.box_same ..) hl (fun own1 ho1 => ?_)
             | refine at_box lvM_in ?_
             | with_reducible refine draw_head ?_)
  all_goals refine finl ?_ fin_toks h
  all_goals exact St.le_trans (St.le_setBox (St.le_setBox (St.le_setBox (St.le_setBox (St.le_setBox (St.le_refl st) f1.1 _) f1.1 _) hfb.1 _) hfb.1 _) f1.1 _) (Own.good_le (good_in (by rw [St.box_ne hne.symm, St.box_ne hne.symm, St.box_same]; exact fun e => by cases e) ho1))
end
end Go.Proofs.Ytngbihfihdheoaa

/-
  LAWS OF THE TYPES: TypeLeaves.
-/
set_option linter.unusedVariables false
set_option pp.maxSteps 400
namespace Go.Aw
theorem len_nil {α : Type} {K : Nat → Prop} (k : 0 < lim → K 0) : ∀ m, m = ([] : List α).length → m < lim → K m := fun m hm h => by subst hm; exact k h
end Go.Aw
namespace Go.Proofs.Ytngbihfihdheoaa
open Go Go.Aw
section
variable {st : St} {R : Res → St → Prop}
attribute [local irreducible] Go.Aw.appendTo
theorem eqfunc_none {o1 o2 : Own} {f : V} (h : R (.ret (.bool true)) st) : PC 40 [.slice 6 [] o1, .slice 6 [] o2, f] st R := by
  refine pcalls_of_body tys_ok [] Try.func40 rfl (by decide) ?_
  repeat' (conv => whnf
           first
             | refine len_nil (fun _ => ?_)
             | with_reducible exact quiet_same
             | with_reducible exact quiet_bool
             | with_reducible exact quiet_not
             | with_reducible refine draw_step (by kernel_rfl) ?_
             | with_reducible refine quiet_go ?_ ?_ ?_
             | with_reducible refine bcase_yes (by first | assumption | omega) ?_
             | with_reducible refine bcase_no (by first | assumption | omega) ?_
             | with_reducible refine bcase_dyes (by omega) ?_
             | with_reducible refine bcase_dno (by omega) ?_
             | with_reducible refine bcase_len (by decide) (fun _ => ?_) (fun _ => ?_)
             | with_reducible refine bcase_eq (fun _ => ?_) (fun _ => ?_)
             | with_reducible refine bcase_dec (fun _ => ?_) (fun _ => ?_)
             | with_reducible refine bcase_true ?_
             | with_reducible refine bcase_false ?_
             | with_reducible refine bcase_intro (fun _ => ?_) (fun _ => ?_)
             | with_reducible refine len_kids (fun _ => ?_)
             | with_reducible refine at_known (by assumption) (by omega) ?_
             | with_reducible refine at_kid (by omega) (by omega) (fun _ _ _ => ?_)
             | with_reducible refine tail_kids (by omega) (by omega) ?_
             | with_reducible refine slice_kids (by omega) (by omega) (by omega) ?_
             | with_reducible refine ex_wrap (by omega) (by omega) ?_
             | with_reducible refine quo_step (by decide) (by omega) (by omega) ?_
             | with_reducible refine rem_step (by decide) ?_
             | with_reducible refine nil_row (fun _ => ?_) ?_
             | with_reducible refine nil_row2 (fun _ => ?_) ?_
             | with_reducible refine len_toks (fun _ => ?_)
             | with_reducible refine len_ints (fun _ => ?_)
             | with_reducible refine tok_known (by assumption) (by omega) ?_
             | with_reducible refine at_tok (by omega) (by omega) (fun _ _ => ?_)
             | with_reducible refine at_int (by omega) (by omega) (fun _ _ => ?_)
             | with_reducible refine slice_ints (by omega) (by omega) (by omega) ?_
             | with_reducible refine draw_head ?_)
  refine loop_n 17 [15, 16] 0 (fun k => k = 0) rfl (by refine ⟨rfl, ?_, ?_, rfl⟩ <;> repeat' (first | exact trivial | exact rfl | refine And.intro ?_ ?_)) ?_
  intro k hk
  subst hk
  repeat' (conv => whnf
           first
             | with_reducible exact quiet_same
             | with_reducible exact quiet_bool
             | with_reducible exact quiet_not
             | with_reducible refine draw_step (by kernel_rfl) ?_
             | with_reducible refine quiet_go ?_ ?_ ?_
             | with_reducible refine bcase_yes (by first | assumption | omega) ?_
             | with_reducible refine bcase_no (by first | assumption | omega) ?_
             | with_reducible refine bcase_dyes (by omega) ?_
             | with_reducible refine bcase_dno (by omega) ?_
             | with_reducible refine bcase_len (by decide) (fun _ => ?_) (fun _ => ?_)
             | with_reducible refine bcase_eq (fun _ => ?_) (fun _ => ?_)
             | with_reducible refine bcase_dec (fun _ => ?_) (fun _ => ?_)
             | with_reducible refine bcase_true ?_
             | with_reducible refine bcase_false ?_
             | with_reducible refine bcase_intro (fun _ => ?_) (fun _ => ?_)
             | with_reducible refine len_kids (fun _ => ?_)
             | with_reducible refine at_known (by assumption) (by omega) ?_
             | with_reducible refine at_kid (by omega) (by omega) (fun _ _ _ => ?_)
             | with_reducible refine tail_kids (by omega) (by omega) ?_
             | with_reducible refine slice_kids (by omega) (by omega) (by omega) ?_
             | with_reducible refine ex_wrap (by omega) (by omega) ?_
             | with_reducible refine quo_step (by decide) (by omega) (by omega) ?_
             | with_reducible refine rem_step (by decide) ?_
             | with_reducible refine nil_row (fun _ => ?_) ?_
             | with_reducible refine nil_row2 (fun _ => ?_) ?_
             | with_reducible refine len_toks (fun _ => ?_)
             | with_reducible refine len_ints (fun _ => ?_)
             | with_reducible refine tok_known (by assumption) (by omega) ?_
             | with_reducible refine at_tok (by omega) (by omega) (fun _ _ => ?_)
             | with_reducible refine at_int (by omega) (by omega) (fun _ _ => ?_)
             | with_reducible refine slice_ints (by omega) (by omega) (by omega) ?_
             | with_reducible refine draw_head ?_)
  all_goals exact fin h rfl
theorem same_none (h : R (.ret (.bool true)) st) : PC 22 [enc nd0, enc nd0] st R := by
  refine pcalls_of_body tys_ok [] Try.func22 rfl (by decide) ?_
  repeat' (conv => whnf
           first
             | with_reducible refine bcase_yes rfl ?_
             | with_reducible refine bcase_true ?_
             | with_reducible exact quiet_same
             | with_reducible exact quiet_bool
             | with_reducible exact quiet_not
             | with_reducible refine draw_step (by kernel_rfl) ?_
             | with_reducible refine quiet_go ?_ ?_ ?_
             | with_reducible refine bcase_yes (by first | assumption | omega) ?_
             | with_reducible refine bcase_no (by first | assumption | omega) ?_
             | with_reducible refine bcase_dyes (by omega) ?_
             | with_reducible refine bcase_dno (by omega) ?_
             | with_reducible refine bcase_len (by decide) (fun _ => ?_) (fun _ => ?_)
             | with_reducible refine bcase_eq (fun _ => ?_) (fun _ => ?_)
             | with_reducible refine bcase_dec (fun _ => ?_) (fun _ => ?_)
             | with_reducible refine bcase_true ?_
             | with_reducible refine bcase_false ?_
             | with_reducible refine bcase_intro (fun _ => ?_) (fun _ => ?_)
             | with_reducible refine len_kids (fun _ => ?_)
             | with_reducible refine at_known (by assumption) (by omega) ?_
             | with_reducible refine at_kid (by omega) (by omega) (fun _ _ _ => ?_)
             | with_reducible refine tail_kids (by omega) (by omega) ?_
             | with_reducible refine slice_kids (by omega) (by omega) (by omega) ?_
             | with_reducible refine ex_wrap (by omega) (by omega) ?_
             | with_reducible refine quo_step (by decide) (by omega) (by omega) ?_
             | with_reducible refine rem_step (by decide) ?_
             | with_reducible refine nil_row (fun _ => ?_) ?_
             | with_reducible refine nil_row2 (fun _ => ?_) ?_
             | with_reducible refine len_toks (fun _ => ?_)
             | with_reducible refine len_ints (fun _ => ?_)
             | with_reducible refine tok_known (by assumption) (by omega) ?_
             | with_reducible refine at_tok (by omega) (by omega) (fun _ _ => ?_)
             | with_reducible refine at_int (by omega) (by omega) (fun _ _ => ?_)
             | with_reducible refine slice_ints (by omega) (by omega) (by omega) ?_
             | refine eqfunc_none ?_
             | with_reducible refine draw_head ?_)
  all_goals exact fin h rfl
theorem same_none_e {n : Nd} (hn : n = nd0) (h : R (.ret (.bool true)) st) : PC 22 [enc n, .agg zeroN] st R := by
  subst hn
  exact pcalls_wk (args' := [enc nd0, enc nd0]) rfl (same_none h)
theorem passesX (deep : Int) : Passes (fullP (atomP (typeP (depF deep - 1)))) := passes_full (passes_atom (passes_type _))
theorem lawLeaves_c {s : Sta} {deep : Int} (h : R (.ret (.bool true)) st) : PC 8 [encS s, .int .i64 deep] st R := by
  refine pcalls_of_body tys_ok [] Try.func8 rfl (by decide) ?_
  by_cases hs : s.toks.length ≤ 100 ∧ s.opn.length ≤ 100
  · have hm0 : mu s ≤ 5000 := by unfold mu; omega
    have hm : mu s ≤ 100000000 := by omega
    generalize hq : docR s deep (fullP (atomP (typeP (depF deep - 1))) s) = q
    by_cases he : re q = 0
    · have hp : Path s (leavesF (rn q)) (rs q) := by
        unfold docR at hq
        split at hq
        · rw [← hq] at he; cases he
        · rw [← hq] at he ⊢
          exact passesX deep s _ _ (inr_of (bads_full (bads_atom (bads_type _))) he)
      have hl : (leavesF (rn q)).length ≤ 100000000 := by have := hp.mu; omega
      repeat' (conv => whnf
               first
                 | with_reducible exact quiet_same
                 | with_reducible exact quiet_bool
                 | with_reducible exact quiet_not
                 | with_reducible refine draw_step (by kernel_rfl) ?_
                 | with_reducible refine quiet_go ?_ ?_ ?_
                 | with_reducible refine bcase_yes (by first | assumption | omega) ?_
                 | with_reducible refine bcase_no (by first | assumption | omega) ?_
                 | with_reducible refine bcase_dyes (by omega) ?_
                 | with_reducible refine bcase_dno (by omega) ?_
                 | with_reducible refine bcase_len (by decide) (fun _ => ?_) (fun _ => ?_)
                 | with_reducible refine bcase_eq (fun _ => ?_) (fun _ => ?_)
                 | with_reducible refine bcase_dec (fun _ => ?_) (fun _ => ?_)
                 | with_reducible refine bcase_true ?_
                 | with_reducible refine bcase_false ?_
                 | with_reducible refine bcase_intro (fun _ => ?_) (fun _ => ?_)
                 | with_reducible refine len_kids (fun _ => ?_)
                 | with_reducible refine at_known (by assumption) (by omega) ?_
                 | with_reducible refine at_kid (by omega) (by omega) (fun _ _ _ => ?_)
                 | with_reducible refine tail_kids (by omega) (by omega) ?_
                 | with_reducible refine slice_kids (by omega) (by omega) (by omega) ?_
                 | with_reducible refine ex_wrap (by omega) (by omega) ?_
                 | with_reducible refine quo_step (by decide) (by omega) (by omega) ?_
                 | with_reducible refine rem_step (by decide) ?_
                 | with_reducible refine nil_row (fun _ => ?_) ?_
                 | with_reducible refine nil_row2 (fun _ => ?_) ?_
                 | with_reducible refine len_toks (fun _ => ?_)
                 | with_reducible refine len_ints (fun _ => ?_)
                 | with_reducible refine tok_known (by assumption) (by omega) ?_
                 | with_reducible refine at_tok (by omega) (by omega) (fun _ _ => ?_)
                 | with_reducible refine at_int (by omega) (by omega) (fun _ _ => ?_)
                 | with_reducible refine slice_ints (by omega) (by omega) (by omega) ?_
                 | refine awake_c ?_
                 | refine full_e hm hq ?_
                 | refine passed_c hp hm0 ?_
                 | refine leaves_c hl ?_
                 | refine samelist_c ?_
                 | with_reducible refine draw_head ?_)
      all_goals exact fin h rfl
    · have hn : rn q = nd0 := rn_bad he
      repeat' (conv => whnf
               first
                 | with_reducible exact quiet_same
                 | with_reducible exact quiet_bool
                 | with_reducible exact quiet_not
                 | with_reducible refine draw_step (by kernel_rfl) ?_
                 | with_reducible refine quiet_go ?_ ?_ ?_
                 | with_reducible refine bcase_yes (by first | assumption | omega) ?_
                 | with_reducible refine bcase_no (by first | assumption | omega) ?_
                 | with_reducible refine bcase_dyes (by omega) ?_
                 | with_reducible refine bcase_dno (by omega) ?_
                 | with_reducible refine bcase_len (by decide) (fun _ => ?_) (fun _ => ?_)
                 | with_reducible refine bcase_eq (fun _ => ?_) (fun _ => ?_)
                 | with_reducible refine bcase_dec (fun _ => ?_) (fun _ => ?_)
                 | with_reducible refine bcase_true ?_
                 | with_reducible refine bcase_false ?_
                 | with_reducible refine bcase_intro (fun _ => ?_) (fun _ => ?_)
                 | with_reducible refine len_kids (fun _ => ?_)
                 | with_reducible refine at_known (by assumption) (by omega) ?_
                 | with_reducible refine at_kid (by omega) (by omega) (fun _ _ _ => ?_)
                 | with_reducible refine tail_kids (by omega) (by omega) ?_
                 | with_reducible refine slice_kids (by omega) (by omega) (by omega) ?_
                 | with_reducible refine ex_wrap (by omega) (by omega) ?_
                 | with_reducible refine quo_step (by decide) (by omega) (by omega) ?_
                 | with_reducible refine rem_step (by decide) ?_
                 | with_reducible refine nil_row (fun _ => ?_) ?_
                 | with_reducible refine nil_row2 (fun _ => ?_) ?_
                 | with_reducible refine len_toks (fun _ => ?_)
                 | with_reducible refine len_ints (fun _ => ?_)
                 | with_reducible refine tok_known (by assumption) (by omega) ?_
                 | with_reducible refine at_tok (by omega) (by omega) (fun _ _ => ?_)
                 | with_reducible refine at_int (by omega) (by omega) (fun _ _ => ?_)
                 | with_reducible refine slice_ints (by omega) (by omega) (by omega) ?_
                 | refine awake_c ?_
                 | refine full_e hm hq ?_
                 | refine same_none_e hn ?_
                 | with_reducible refine draw_head ?_)
      all_goals exact fin h rfl
  · skip
    repeat' (conv => whnf
             first
               | with_reducible exact quiet_same
               | with_reducible exact quiet_bool
               | with_reducible exact quiet_not
               | with_reducible refine draw_step (by kernel_rfl) ?_
               | with_reducible refine quiet_go ?_ ?_ ?_
               | with_reducible refine bcase_yes (by first | assumption | omega) ?_
               | with_reducible refine bcase_no (by first | assumption | omega) ?_
               | with_reducible refine bcase_dyes (by omega) ?_
               | with_reducible refine bcase_dno (by omega) ?_
               | with_reducible refine bcase_len (by decide) (fun _ => ?_) (fun _ => ?_)
               | with_reducible refine bcase_eq (fun _ => ?_) (fun _ => ?_)
               | with_reducible refine bcase_dec (fun _ => ?_) (fun _ => ?_)
               | with_reducible refine bcase_true ?_
               | with_reducible refine bcase_false ?_
               | with_reducible refine bcase_intro (fun _ => ?_) (fun _ => ?_)
               | with_reducible refine len_kids (fun _ => ?_)
               | with_reducible refine at_known (by assumption) (by omega) ?_
               | with_reducible refine at_kid (by omega) (by omega) (fun _ _ _ => ?_)
               | with_reducible refine tail_kids (by omega) (by omega) ?_
               | with_reducible refine slice_kids (by omega) (by omega) (by omega) ?_
               | with_reducible refine ex_wrap (by omega) (by omega) ?_
               | with_reducible refine quo_step (by decide) (by omega) (by omega) ?_
               | with_reducible refine rem_step (by decide) ?_
               | with_reducible refine nil_row (fun _ => ?_) ?_
               | with_reducible refine nil_row2 (fun _ => ?_) ?_
               | with_reducible refine len_toks (fun _ => ?_)
               | with_reducible refine len_ints (fun _ => ?_)
               | with_reducible refine tok_known (by assumption) (by omega) ?_
               | with_reducible refine at_tok (by omega) (by omega) (fun _ _ => ?_)
               | with_reducible refine at_int (by omega) (by omega) (fun _ _ => ?_)
               | with_reducible refine slice_ints (by omega) (by omega) (by omega) ?_
               | refine awake_c ?_
               | with_reducible refine draw_head ?_)
    all_goals first | exact fin h rfl | (exfalso; omega)
end
end Go.Proofs.Ytngbihfihdheoaa
