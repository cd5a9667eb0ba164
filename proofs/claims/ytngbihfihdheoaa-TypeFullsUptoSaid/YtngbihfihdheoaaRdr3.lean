/-
  READER: Catch.
-/
import Derived.Test.YtngbihfihdheoaaRdr2
set_option linter.unusedVariables false
set_option pp.maxSteps 400
namespace Go.Proofs.Ytngbihfihdheoaa
open Go Go.Aw

abbrev Rs := Sum (Int × Sta) (Nd × Sta)
/-- what a reading answers -/
def Tells (st : St) (b : Nat) (R : Res → St → Prop) : Rs → Prop
  | .inr (n, s') => ∀ st', Upd st st' b s' → R (.ret (enc n)) st'
  | .inl (e, s') => ∀ st', Upd st st' b s' → R (.pan (fault e)) st'
def Reads (f : FuncId) (s : Sta) (d : Int) (q : Rs) : Prop := ∀ (b : Nat) (st : St) (R : Res → St → Prop), Has st b s → Tells st b R q → PC f [.ptr b 0, .int .i64 d] st R
def catchR (s : Sta) (deep : Int) (q : Rs) : Nd × Sta × Int :=
  if deep < 1 then (nd0, s, 2) else match q with
    | .inr (n, s') => (n, s', 0)
    | .inl (e, s') => (nd0, s', e)
def encR (p : Nd × Sta × Int) : V := encR3 p.1 p.2.1 p.2.2

section
variable {st : St} {R : Res → St → Prop}
attribute [local irreducible] Go.Aw.appendTo

theorem fresh_ne {st : St} {b c : Nat} {cs : List V} (h : (st.setBox b cs).fresh c) : b ≠ c ∧ st.fresh c := by
  by_cases e : b = c
  · subst e
    have := h.1
    rw [St.box_same] at this
    cases this
  · refine ⟨e, ?_, h.2⟩
    have := h.1
    rw [St.box_ne e] at this
    exact this
theorem new_box {st : St} {K : Nat → Prop} (h : ∀ b, st.fresh b → K b) : ∀ b, st.fresh b → K b := h
theorem le_self {st : St} {b : Nat} {cs : List V} (h : st.box b = some cs) : St.le st (st.setBox b cs) := by rw [St.set_self h]; exact St.le_refl _
noncomputable def catchOps : List Oper := match Try.f27.body with | some (.seq _ (.seq _ (.seq _ (.seq _ (.seq _ (.seq (.region _ ops _) _)))))) => ops.toList | _ => []
noncomputable def catchE (bs : List Bool) (b1 b2 b3 b4 b5 : Nat) (nc sc : List V) : Env :=
  { tmps := putT [(6, .ptr b1 0), (7, .ptr b2 0), (8, .ptr b3 0), (9, .ptr b5 0)] catchOps [.agg nc, .ptr b4 0, .ptr b4 0, .ptr b4 0, .agg sc, .junk, .junk, .junk] bs, boxes := [], nxt := 1, sz := 28, gl := [6, 7, 8, 9, 12] }
def catchS (st : St) (b2 b3 : Nat) (sc : List V) (bs : List Bool) : St :=
  match bs[6]?, bs[7]? with
  | _, some true => (st.setBox b2 sc).setBox b3 [.int .i64 0]
  | some true, _ => st.setBox b2 sc
  | _, _ => st
set_option maxHeartbeats 8000000 in
theorem catch_c {f : FuncId} {s : Sta} {deep : Int} {q : Rs} (hq : ¬ deep < 1 → Reads f s (if 100 < deep then 100 else deep) q) (h : R (.ret (encR (catchR s deep q))) st) : PC 27 [encS s, .int .i64 deep, .func f [] []] st R := by
  refine PCalls.ends (pcalls_defer tys_ok [6, 7, 8, 9, 12] Try.func27 rfl (by decide) rfl rfl rfl rfl rfl rfl ⟨_, Try.func43, rfl, by decide⟩ rfl ?_)
  repeat' (conv => whnf
           first
             | with_reducible exact quiet_same
             | with_reducible exact quiet_bool
             | with_reducible exact quiet_not
             | with_reducible refine draw_step (by kernel_rfl) ?_
             | with_reducible refine quiet_go ?_ ?_ ?_
             | with_reducible refine bcase_yes (by first | assumption | omega) ?_
             | with_reducible refine bcase_no (by first | assumption | omega) ?_
             | with_reducible refine bcase_dyes (by omega) ?_
             | with_reducible refine bcase_dno (by omega) ?_
             | with_reducible refine bcase_len (by decide) (fun _ => ?_) (fun _ => ?_)
             | with_reducible refine bcase_eq (fun _ => ?_) (fun _ => ?_)
             | with_reducible refine bcase_dec (fun _ => ?_) (fun _ => ?_)
             | with_reducible refine bcase_true ?_
             | with_reducible refine bcase_false ?_
             | with_reducible refine bcase_intro (fun _ => ?_) (fun _ => ?_)
             | with_reducible refine len_kids (fun _ => ?_)
             | with_reducible refine at_known (by assumption) (by omega) ?_
             | with_reducible refine at_kid (by omega) (by omega) (fun _ _ _ => ?_)
             | with_reducible refine tail_kids (by omega) (by omega) ?_
             | with_reducible refine slice_kids (by omega) (by omega) (by omega) ?_
             | with_reducible refine ex_wrap (by omega) (by omega) ?_
             | with_reducible refine quo_step (by decide) (by omega) (by omega) ?_
             | with_reducible refine rem_step (by decide) ?_
             | with_reducible refine nil_row (fun _ => ?_) ?_
             | with_reducible refine nil_row2 (fun _ => ?_) ?_
             | with_reducible refine len_toks (fun _ => ?_)
             | with_reducible refine len_ints (fun _ => ?_)
             | with_reducible refine tok_known (by assumption) (by omega) ?_
             | with_reducible refine at_tok (by omega) (by omega) (fun _ _ => ?_)
             | with_reducible refine at_int (by omega) (by omega) (fun _ _ => ?_)
             | with_reducible refine slice_ints (by omega) (by omega) (by omega) ?_
             | refine new_box (fun b5 f5 => ?_)
             | refine at_box (St.box_same ..) ?_
             | with_reducible refine draw_head ?_)
  rename_i b1 f1 b2 f2 b3 f3 b4 f4
  obtain ⟨n12, f2a⟩ := fresh_ne f2
  obtain ⟨n23, f3a⟩ := fresh_ne f3
  obtain ⟨n13, f3b⟩ := fresh_ne f3a
  obtain ⟨n34, f4a⟩ := fresh_ne f4
  obtain ⟨n24, f4b⟩ := fresh_ne f4a
  obtain ⟨n14, f4c⟩ := fresh_ne f4b
  obtain ⟨n45, f5a⟩ := fresh_ne f5
  obtain ⟨n35, f5b⟩ := fresh_ne f5a
  obtain ⟨n25, f5c⟩ := fresh_ne f5b
  obtain ⟨n15, f5d⟩ := fresh_ne f5c
  conv => whnf
  refine ⟨rfl, chk_intro rfl ?_⟩
  generalize hst5 : St.setBox _ b5 [V.ptr b4 0] = st5
  have k1 : st5.box b1 = some zeroN := by subst hst5; rw [St.box_ne n15.symm, St.box_ne n15.symm, St.box_ne n14.symm, St.box_ne n13.symm, St.box_ne n12.symm, St.box_same]; rfl
  have k2 : st5.box b2 = some [.slice 4 (encTs sta0.toks) .full, .int .i64 sta0.pos, .slice 1 (ints sta0.opn) .full, .int .i64 sta0.wait] := by subst hst5; rw [St.box_ne n25.symm, St.box_ne n25.symm, St.box_ne n24.symm, St.box_ne n23.symm, St.box_same]; rfl
  have k3 : st5.box b3 = some [.int .i64 0] := by subst hst5; rw [St.box_ne n35.symm, St.box_ne n35.symm, St.box_ne n34.symm, St.box_same]
  have k4 : Has st5 b4 s := by subst hst5; refine .inr ⟨tk0, sta0, .full, .full, 0, ?_⟩; rw [St.box_ne n45.symm, St.box_ne n45.symm, St.box_same]; rfl
  have k5 : st5.box b5 = some [.ptr b4 0] := by subst hst5; rw [St.box_same]
  have kle : st.le st5 := by
    subst hst5
    exact St.le_setBox (St.le_setBox (St.le_setBox (St.le_setBox (St.le_setBox (St.le_setBox (St.le_refl _) f1.1 _) f2a.1 _) f3b.1 _) f4c.1 _) f5d.1 _) f5d.1 _
  have kpan : ∀ (st6 : St) (e : Int) (s' : Sta), Upd st5 st6 b4 s' → st6.box b5 = some [.ptr b4 0] ∧ st6.box b1 = some zeroN ∧ st6.box b2 = some [.slice 4 (encTs sta0.toks) .full, .int .i64 sta0.pos, .slice 1 (ints sta0.opn) .full, .int .i64 sta0.wait] ∧ st6.box b3 = some [.int .i64 0] ∧ st.le st6 := by
    rintro st6 e s' ⟨_, cs, rfl⟩
    exact ⟨by rw [St.box_ne n45]; exact k5, by rw [St.box_ne n14.symm]; exact k1, by rw [St.box_ne n24.symm]; exact k2, by rw [St.box_ne n34.symm]; exact k3, St.le_setBox kle f4c.1 _⟩
  clear hst5 f2 f3 f4 f5 f3a f4a f4b f5a f5b f5c
  refine AW_seq2 (aw_of tys_ok ?_)
  repeat' (conv => whnf
           first
             | with_reducible exact quiet_same
             | with_reducible exact quiet_bool
             | with_reducible exact quiet_not
             | with_reducible refine draw_step (by kernel_rfl) ?_
             | with_reducible refine quiet_go ?_ ?_ ?_
             | with_reducible refine bcase_yes (by first | assumption | omega) ?_
             | with_reducible refine bcase_no (by first | assumption | omega) ?_
             | with_reducible refine bcase_dyes (by omega) ?_
             | with_reducible refine bcase_dno (by omega) ?_
             | with_reducible refine bcase_len (by decide) (fun _ => ?_) (fun _ => ?_)
             | with_reducible refine bcase_eq (fun _ => ?_) (fun _ => ?_)
             | with_reducible refine bcase_dec (fun _ => ?_) (fun _ => ?_)
             | with_reducible refine bcase_true ?_
             | with_reducible refine bcase_false ?_
             | with_reducible refine bcase_intro (fun _ => ?_) (fun _ => ?_)
             | with_reducible refine len_kids (fun _ => ?_)
             | with_reducible refine at_known (by assumption) (by omega) ?_
             | with_reducible refine at_kid (by omega) (by omega) (fun _ _ _ => ?_)
             | with_reducible refine tail_kids (by omega) (by omega) ?_
             | with_reducible refine slice_kids (by omega) (by omega) (by omega) ?_
             | with_reducible refine ex_wrap (by omega) (by omega) ?_
             | with_reducible refine quo_step (by decide) (by omega) (by omega) ?_
             | with_reducible refine rem_step (by decide) ?_
             | with_reducible refine nil_row (fun _ => ?_) ?_
             | with_reducible refine nil_row2 (fun _ => ?_) ?_
             | with_reducible refine len_toks (fun _ => ?_)
             | with_reducible refine len_ints (fun _ => ?_)
             | with_reducible refine tok_known (by assumption) (by omega) ?_
             | with_reducible refine at_tok (by omega) (by omega) (fun _ _ => ?_)
             | with_reducible refine at_int (by omega) (by omega) (fun _ _ => ?_)
             | with_reducible refine slice_ints (by omega) (by omega) (by omega) ?_
             | refine at_box k5 ?_
             | refine fail_c ?_
             | with_reducible refine draw_head ?_)
  · refine close_some (n0 := nd0) (s0 := sta0) k5 k4 k1 k2 k3 n15 n14 n12 n13 n25 n24 n23 ?_
    have g1 : (((st5.setBox b1 zeroN).setBox b2 s.cells).setBox b3 [.int .i64 2]).box b1 = some zeroN := by rw [St.box_ne n13.symm, St.box_ne n12.symm, St.box_same]
    have g2 : (((st5.setBox b1 zeroN).setBox b2 s.cells).setBox b3 [.int .i64 2]).box b2 = some s.cells := by rw [St.box_ne n23.symm, St.box_same]
    have gl : st.le (((st5.setBox b1 zeroN).setBox b2 s.cells).setBox b3 [.int .i64 2]) := St.le_setBox (St.le_setBox (St.le_setBox kle f1.1 _) f2a.1 _) f3b.1 _
    unfold catchR at h
    rw [if_pos (by assumption)] at h
    repeat' (conv => whnf
             first
               | with_reducible exact quiet_same
               | with_reducible exact quiet_bool
               | with_reducible exact quiet_not
               | with_reducible refine draw_step (by kernel_rfl) ?_
               | with_reducible refine quiet_go ?_ ?_ ?_
               | with_reducible refine bcase_yes (by first | assumption | omega) ?_
               | with_reducible refine bcase_no (by first | assumption | omega) ?_
               | with_reducible refine bcase_dyes (by omega) ?_
               | with_reducible refine bcase_dno (by omega) ?_
               | with_reducible refine bcase_len (by decide) (fun _ => ?_) (fun _ => ?_)
               | with_reducible refine bcase_eq (fun _ => ?_) (fun _ => ?_)
               | with_reducible refine bcase_dec (fun _ => ?_) (fun _ => ?_)
               | with_reducible refine bcase_true ?_
               | with_reducible refine bcase_false ?_
               | with_reducible refine bcase_intro (fun _ => ?_) (fun _ => ?_)
               | with_reducible refine len_kids (fun _ => ?_)
               | with_reducible refine at_known (by assumption) (by omega) ?_
               | with_reducible refine at_kid (by omega) (by omega) (fun _ _ _ => ?_)
               | with_reducible refine tail_kids (by omega) (by omega) ?_
               | with_reducible refine slice_kids (by omega) (by omega) (by omega) ?_
               | with_reducible refine ex_wrap (by omega) (by omega) ?_
               | with_reducible refine quo_step (by decide) (by omega) (by omega) ?_
               | with_reducible refine rem_step (by decide) ?_
               | with_reducible refine nil_row (fun _ => ?_) ?_
               | with_reducible refine nil_row2 (fun _ => ?_) ?_
               | with_reducible refine len_toks (fun _ => ?_)
               | with_reducible refine len_ints (fun _ => ?_)
               | with_reducible refine tok_known (by assumption) (by omega) ?_
               | with_reducible refine at_tok (by omega) (by omega) (fun _ _ => ?_)
               | with_reducible refine at_int (by omega) (by omega) (fun _ _ => ?_)
               | with_reducible refine slice_ints (by omega) (by omega) (by omega) ?_
               | refine at_box g1 ?_
               | refine at_box g2 ?_
               | refine at_box (St.box_same ..) ?_
               | with_reducible refine draw_head ?_)
    all_goals exact finl gl rfl h
  · rename_i hd
    unfold catchR at h
    rw [if_neg hd] at h
    have hq := hq hd b4
    refine AW_seq2 (aw_of tys_ok ?_)
    cases q with
    | inl q =>
      obtain ⟨e, s'⟩ := q
      repeat' (conv => whnf
               first
                 | with_reducible exact quiet_same
                 | with_reducible exact quiet_bool
                 | with_reducible exact quiet_not
                 | with_reducible refine draw_step (by kernel_rfl) ?_
                 | with_reducible refine quiet_go ?_ ?_ ?_
                 | with_reducible refine bcase_yes (by first | assumption | omega) ?_
                 | with_reducible refine bcase_no (by first | assumption | omega) ?_
                 | with_reducible refine bcase_dyes (by omega) ?_
                 | with_reducible refine bcase_dno (by omega) ?_
                 | with_reducible refine bcase_len (by decide) (fun _ => ?_) (fun _ => ?_)
                 | with_reducible refine bcase_eq (fun _ => ?_) (fun _ => ?_)
                 | with_reducible refine bcase_dec (fun _ => ?_) (fun _ => ?_)
                 | with_reducible refine bcase_true ?_
                 | with_reducible refine bcase_false ?_
                 | with_reducible refine bcase_intro (fun _ => ?_) (fun _ => ?_)
                 | with_reducible refine len_kids (fun _ => ?_)
                 | with_reducible refine at_known (by assumption) (by omega) ?_
                 | with_reducible refine at_kid (by omega) (by omega) (fun _ _ _ => ?_)
                 | with_reducible refine tail_kids (by omega) (by omega) ?_
                 | with_reducible refine slice_kids (by omega) (by omega) (by omega) ?_
                 | with_reducible refine ex_wrap (by omega) (by omega) ?_
                 | with_reducible refine quo_step (by decide) (by omega) (by omega) ?_
                 | with_reducible refine rem_step (by decide) ?_
                 | with_reducible refine nil_row (fun _ => ?_) ?_
                 | with_reducible refine nil_row2 (fun _ => ?_) ?_
                 | with_reducible refine len_toks (fun _ => ?_)
                 | with_reducible refine len_ints (fun _ => ?_)
                 | with_reducible refine tok_known (by assumption) (by omega) ?_
                 | with_reducible refine at_tok (by omega) (by omega) (fun _ _ => ?_)
                 | with_reducible refine at_int (by omega) (by omega) (fun _ _ => ?_)
                 | with_reducible refine slice_ints (by omega) (by omega) (by omega) ?_
                 | refine at_box k5 ?_
                 | refine ⟨_, rfl, ?_⟩
                 | refine hq _ _ k4 (fun st6 hu => ?_)
                 | with_reducible refine draw_head ?_)
      obtain ⟨j5, j1, j2, j3, jle⟩ := kpan st6 e s' hu
      refine close_some (n0 := nd0) (s0 := sta0) j5 hu.1 j1 j2 j3 n15 n14 n12 n13 n25 n24 n23 ?_
      have g1 : (((st6.setBox b1 zeroN).setBox b2 s'.cells).setBox b3 [.int .i64 e]).box b1 = some zeroN := by rw [St.box_ne n13.symm, St.box_ne n12.symm, St.box_same]
      have g2 : (((st6.setBox b1 zeroN).setBox b2 s'.cells).setBox b3 [.int .i64 e]).box b2 = some s'.cells := by rw [St.box_ne n23.symm, St.box_same]
      have gl : st.le (((st6.setBox b1 zeroN).setBox b2 s'.cells).setBox b3 [.int .i64 e]) := St.le_setBox (St.le_setBox (St.le_setBox jle f1.1 _) f2a.1 _) f3b.1 _
      repeat' (conv => whnf
               first
                 | with_reducible exact quiet_same
                 | with_reducible exact quiet_bool
                 | with_reducible exact quiet_not
                 | with_reducible refine draw_step (by kernel_rfl) ?_
                 | with_reducible refine quiet_go ?_ ?_ ?_
                 | with_reducible refine bcase_yes (by first | assumption | omega) ?_
                 | with_reducible refine bcase_no (by first | assumption | omega) ?_
                 | with_reducible refine bcase_dyes (by omega) ?_
                 | with_reducible refine bcase_dno (by omega) ?_
                 | with_reducible refine bcase_len (by decide) (fun _ => ?_) (fun _ => ?_)
                 | with_reducible refine bcase_eq (fun _ => ?_) (fun _ => ?_)
                 | with_reducible refine bcase_dec (fun _ => ?_) (fun _ => ?_)
                 | with_reducible refine bcase_true ?_
                 | with_reducible refine bcase_false ?_
                 | with_reducible refine bcase_intro (fun _ => ?_) (fun _ => ?_)
                 | with_reducible refine len_kids (fun _ => ?_)
                 | with_reducible refine at_known (by assumption) (by omega) ?_
                 | with_reducible refine at_kid (by omega) (by omega) (fun _ _ _ => ?_)
                 | with_reducible refine tail_kids (by omega) (by omega) ?_
                 | with_reducible refine slice_kids (by omega) (by omega) (by omega) ?_
                 | with_reducible refine ex_wrap (by omega) (by omega) ?_
                 | with_reducible refine quo_step (by decide) (by omega) (by omega) ?_
                 | with_reducible refine rem_step (by decide) ?_
                 | with_reducible refine nil_row (fun _ => ?_) ?_
                 | with_reducible refine nil_row2 (fun _ => ?_) ?_
                 | with_reducible refine len_toks (fun _ => ?_)
                 | with_reducible refine len_ints (fun _ => ?_)
                 | with_reducible refine tok_known (by assumption) (by omega) ?_
                 | with_reducible refine at_tok (by omega) (by omega) (fun _ _ => ?_)
                 | with_reducible refine at_int (by omega) (by omega) (fun _ _ => ?_)
                 | with_reducible refine slice_ints (by omega) (by omega) (by omega) ?_
                 | refine at_box g1 ?_
                 | refine at_box g2 ?_
                 | refine at_box (St.box_same ..) ?_
                 | with_reducible refine draw_head ?_)
      all_goals exact finl gl rfl h
    | inr q =>
      obtain ⟨n, s'⟩ := q
      have kret := fun st6 hu => kpan st6 0 s' hu
      repeat' (conv => whnf
               first
                 | with_reducible exact quiet_same
                 | with_reducible exact quiet_bool
                 | with_reducible exact quiet_not
                 | with_reducible refine draw_step (by kernel_rfl) ?_
                 | with_reducible refine quiet_go ?_ ?_ ?_
                 | with_reducible refine bcase_yes (by first | assumption | omega) ?_
                 | with_reducible refine bcase_no (by first | assumption | omega) ?_
                 | with_reducible refine bcase_dyes (by omega) ?_
                 | with_reducible refine bcase_dno (by omega) ?_
                 | with_reducible refine bcase_len (by decide) (fun _ => ?_) (fun _ => ?_)
                 | with_reducible refine bcase_eq (fun _ => ?_) (fun _ => ?_)
                 | with_reducible refine bcase_dec (fun _ => ?_) (fun _ => ?_)
                 | with_reducible refine bcase_true ?_
                 | with_reducible refine bcase_false ?_
                 | with_reducible refine bcase_intro (fun _ => ?_) (fun _ => ?_)
                 | with_reducible refine len_kids (fun _ => ?_)
                 | with_reducible refine at_known (by assumption) (by omega) ?_
                 | with_reducible refine at_kid (by omega) (by omega) (fun _ _ _ => ?_)
                 | with_reducible refine tail_kids (by omega) (by omega) ?_
                 | with_reducible refine slice_kids (by omega) (by omega) (by omega) ?_
                 | with_reducible refine ex_wrap (by omega) (by omega) ?_
                 | with_reducible refine quo_step (by decide) (by omega) (by omega) ?_
                 | with_reducible refine rem_step (by decide) ?_
                 | with_reducible refine nil_row (fun _ => ?_) ?_
                 | with_reducible refine nil_row2 (fun _ => ?_) ?_
                 | with_reducible refine len_toks (fun _ => ?_)
                 | with_reducible refine len_ints (fun _ => ?_)
                 | with_reducible refine tok_known (by assumption) (by omega) ?_
                 | with_reducible refine at_tok (by omega) (by omega) (fun _ _ => ?_)
                 | with_reducible refine at_int (by omega) (by omega) (fun _ _ => ?_)
                 | with_reducible refine slice_ints (by omega) (by omega) (by omega) ?_
                 | refine at_box k5 ?_
                 | refine ⟨_, rfl, ?_⟩
                 | refine hq _ _ k4 (fun st6 hu => ?_)
                 | refine at_box (kret st6 hu).2.1 ?_
                 | with_reducible refine draw_head ?_)
      obtain ⟨j5, j1, j2, j3, jle⟩ := kret st6 hu
      generalize hst7 : st6.setBox b1 (encN n) = st7
      have i1 : st7.box b1 = some (encN n) := by subst hst7; rw [St.box_same]
      have i5 : st7.box b5 = some [.ptr b4 0] := by subst hst7; rw [St.box_ne n15]; exact j5
      have i2 : st7.box b2 = some [.slice 4 (encTs sta0.toks) .full, .int .i64 sta0.pos, .slice 1 (ints sta0.opn) .full, .int .i64 sta0.wait] := by subst hst7; rw [St.box_ne n12]; exact j2
      have i3 : (st7.setBox b2 s'.cells).box b3 = some [.int .i64 0] := by subst hst7; rw [St.box_ne n23, St.box_ne n13]; exact j3
      have i4 : Has st7 b4 s' := by
        subst hst7
        rcases hu.1 with e | ⟨t, u, o1, o2, e', e⟩
        · exact .inl (by rw [St.box_ne n14]; exact e)
        · exact .inr ⟨t, u, o1, o2, e', by rw [St.box_ne n14]; exact e⟩
      have ile : st.le st7 := by subst hst7; exact St.le_setBox jle f1.1 _
      refine AW_seq2 (aw_any tys_ok (pcalls_sound _) (fun bs => catchE bs b1 b2 b3 b4 b5 (encN n) s'.cells) (catchS st7 b2 b3 s'.cells) catchPL (by decide +kernel) (by refine ⟨rfl, ?_, ?_, rfl⟩ <;> repeat' (first | exact trivial | exact rfl | refine And.intro ?_ ?_)) (by rw [← hst7]; exact St.le_refl _) ?_ ?_)
      · skip
        unfold catchPL
        rcases i4 with i4 | ⟨t, u, q1, q2, q3, i4⟩
        all_goals repeat' (first | refine List.forall_mem_cons.2 ⟨?_, ?_⟩ | exact fun _ h => nomatch h)
        repeat' (conv => whnf
                 first
                   | with_reducible exact quiet_same
                   | with_reducible exact quiet_bool
                   | with_reducible exact quiet_not
                   | with_reducible refine draw_step (by kernel_rfl) ?_
                   | with_reducible refine quiet_go ?_ ?_ ?_
                   | with_reducible refine bcase_yes (by first | assumption | omega) ?_
                   | with_reducible refine bcase_no (by first | assumption | omega) ?_
                   | with_reducible refine bcase_dyes (by omega) ?_
                   | with_reducible refine bcase_dno (by omega) ?_
                   | with_reducible refine bcase_len (by decide) (fun _ => ?_) (fun _ => ?_)
                   | with_reducible refine bcase_eq (fun _ => ?_) (fun _ => ?_)
                   | with_reducible refine bcase_dec (fun _ => ?_) (fun _ => ?_)
                   | with_reducible refine bcase_true ?_
                   | with_reducible refine bcase_false ?_
                   | with_reducible refine bcase_intro (fun _ => ?_) (fun _ => ?_)
                   | with_reducible refine len_kids (fun _ => ?_)
                   | with_reducible refine at_known (by assumption) (by omega) ?_
                   | with_reducible refine at_kid (by omega) (by omega) (fun _ _ _ => ?_)
                   | with_reducible refine tail_kids (by omega) (by omega) ?_
                   | with_reducible refine slice_kids (by omega) (by omega) (by omega) ?_
                   | with_reducible refine ex_wrap (by omega) (by omega) ?_
                   | with_reducible refine quo_step (by decide) (by omega) (by omega) ?_
                   | with_reducible refine rem_step (by decide) ?_
                   | with_reducible refine nil_row (fun _ => ?_) ?_
                   | with_reducible refine nil_row2 (fun _ => ?_) ?_
                   | with_reducible refine len_toks (fun _ => ?_)
                   | with_reducible refine len_ints (fun _ => ?_)
                   | with_reducible refine tok_known (by assumption) (by omega) ?_
                   | with_reducible refine at_tok (by omega) (by omega) (fun _ _ => ?_)
                   | with_reducible refine at_int (by omega) (by omega) (fun _ _ => ?_)
                   | with_reducible refine slice_ints (by omega) (by omega) (by omega) ?_
                   | refine at_box i5 ?_
                   | refine at_box i1 ?_
                   | refine at_box i4 ?_
                   | refine at_box i2 ?_
                   | refine at_box i3 ?_
                   | with_reducible refine draw_head ?_)
        all_goals conv => whnf
        all_goals (refine ⟨(by refine ⟨rfl, ?_, ?_, rfl⟩ <;> repeat' (first | exact trivial | exact rfl | refine And.intro ?_ ?_)), ?_⟩)
        all_goals first | exact St.le_refl _ | exact le_self i1
      · refine aw_of tys_ok (close_none (bp := b5) ?_)
        have g1 : ((st7.setBox b2 s'.cells).setBox b3 [.int .i64 0]).box b1 = some (encN n) := by rw [St.box_ne n13.symm, St.box_ne n12.symm]; exact i1
        have g2 : ((st7.setBox b2 s'.cells).setBox b3 [.int .i64 0]).box b2 = some s'.cells := by rw [St.box_ne n23.symm, St.box_same]
        have gl : st.le ((st7.setBox b2 s'.cells).setBox b3 [.int .i64 0]) := St.le_setBox (St.le_setBox ile f2a.1 _) f3b.1 _
        repeat' (conv => whnf
                 first
                   | with_reducible exact quiet_same
                   | with_reducible exact quiet_bool
                   | with_reducible exact quiet_not
                   | with_reducible refine draw_step (by kernel_rfl) ?_
                   | with_reducible refine quiet_go ?_ ?_ ?_
                   | with_reducible refine bcase_yes (by first | assumption | omega) ?_
                   | with_reducible refine bcase_no (by first | assumption | omega) ?_
                   | with_reducible refine bcase_dyes (by omega) ?_
                   | with_reducible refine bcase_dno (by omega) ?_
                   | with_reducible refine bcase_len (by decide) (fun _ => ?_) (fun _ => ?_)
                   | with_reducible refine bcase_eq (fun _ => ?_) (fun _ => ?_)
                   | with_reducible refine bcase_dec (fun _ => ?_) (fun _ => ?_)
                   | with_reducible refine bcase_true ?_
                   | with_reducible refine bcase_false ?_
                   | with_reducible refine bcase_intro (fun _ => ?_) (fun _ => ?_)
                   | with_reducible refine len_kids (fun _ => ?_)
                   | with_reducible refine at_known (by assumption) (by omega) ?_
                   | with_reducible refine at_kid (by omega) (by omega) (fun _ _ _ => ?_)
                   | with_reducible refine tail_kids (by omega) (by omega) ?_
                   | with_reducible refine slice_kids (by omega) (by omega) (by omega) ?_
                   | with_reducible refine ex_wrap (by omega) (by omega) ?_
                   | with_reducible refine quo_step (by decide) (by omega) (by omega) ?_
                   | with_reducible refine rem_step (by decide) ?_
                   | with_reducible refine nil_row (fun _ => ?_) ?_
                   | with_reducible refine nil_row2 (fun _ => ?_) ?_
                   | with_reducible refine len_toks (fun _ => ?_)
                   | with_reducible refine len_ints (fun _ => ?_)
                   | with_reducible refine tok_known (by assumption) (by omega) ?_
                   | with_reducible refine at_tok (by omega) (by omega) (fun _ _ => ?_)
                   | with_reducible refine at_int (by omega) (by omega) (fun _ _ => ?_)
                   | with_reducible refine slice_ints (by omega) (by omega) (by omega) ?_
                   | refine at_box g1 ?_
                   | refine at_box g2 ?_
                   | refine at_box (St.box_same ..) ?_
                   | with_reducible refine draw_head ?_)
        all_goals exact finl gl rfl h
end
end Go.Proofs.Ytngbihfihdheoaa
