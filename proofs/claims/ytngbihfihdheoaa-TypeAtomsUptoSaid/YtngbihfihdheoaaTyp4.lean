/-
  TYPES: square, round.
-/
import Derived.Test.YtngbihfihdheoaaTyp3
set_option linter.unusedVariables false
set_option pp.maxSteps 400
namespace Go.Proofs.Ytngbihfihdheoaa
open Go Go.Aw

theorem app_nodes {l new : List Nd} {own : Own} {st : St} {K : V → St → Prop} (h : own.good st) (hb : l.length + new.length ≤ 1000000000)
    (k : ∀ own' : Own, own'.good st → K (.slice 6 (encs (l ++ new)) own') (own'.st st ((l ++ new).length * 6))) : appendTo 6 72 (encs l) own (encs new) (own.st st (l.length * 6)) K := by
  have hw : (encs new).map (·.map V.wk0) = encs new := by
    rw [encs_map, List.map_map]
    refine List.map_congr_left fun x _ => ?_
    rfl
  have hsc : ((encs new).all fun v => v.all V.sc) = true := by
    rw [encs_map, List.all_map, List.all_eq_true]
    intro x _
    rfl
  have := appendTo_own (sz := 6) (bytes := 72) (es := encs l) (new := encs new) (K := K) h (by rw [encs_length, encs_length]; omega) (by rw [encs_length, encs_length]; simp only [lim]; omega) hsc (fun own' ho => by
    have := k own' ho
    rw [encs_length, encs_length, hw, ← encs_append, ← List.length_append]
    exact this)
  rw [encs_length] at this
  exact this
theorem app_node1 {l : List Nd} {x : Nd} {own : Own} {st : St} {K : V → St → Prop} (h : own.good st) (hb : l.length + 1 ≤ 1000000000)
    (k : ∀ own' : Own, own'.good st → K (.slice 6 (encs (l ++ [x])) own') (own'.st st ((l ++ [x]).length * 6))) : appendTo 6 72 (encs l) own [encN x] (own.st st (l.length * 6)) K := by
  have := app_nodes (l := l) (new := [x]) h hb k
  rw [encs_map [x]] at this
  exact this
theorem app_lit {l : List Nd} {x : Nd} {own : Own} {st : St} {K : V → St → Prop} (h : own.good st) (hb : l.length + 1 ≤ 1000000000)
    (k : ∀ own' : Own, own'.good st → K (.slice 6 (encs (l ++ [x])) own') (own'.st st ((l ++ [x]).length * 6))) : appendTo 6 72 (l.map encN) own [encN x] (own.st st (l.length * 6)) K := by
  rw [← encs_map]
  exact app_node1 h hb k
theorem ex_to {a c : Int} {K : Int → Prop} (e : a = c) (h1 : -9223372036854775808 ≤ c) (h2 : c ≤ 9223372036854775807) (k : K c) : ∃ r, r = IntKind.i64.wrap a ∧ K r := by subst e; exact ⟨a, (wrap_id h1 h2).symm, k⟩
theorem pred_step {d : Nat} {K : Int → Prop} (h : d ≤ 1000000) (k : K (d : Int)) : ∃ r, r = IntKind.i64.wrap (((d + 1 : Nat) : Int) - 1) ∧ K r := by
  refine ⟨d, ?_, k⟩
  rw [show ((d + 1 : Nat) : Int) - 1 = (d : Int) by omega, wrap_id (by omega) (by omega)]

section
variable {st : St} {R : Res → St → Prop}
attribute [local irreducible] Go.Aw.appendTo

theorem tells_l {b : Nat} {K : Res → St → Prop} {q : Rs} {x : Int} {s' : Sta} (e : q = .inl (x, s')) (h : ∀ st', Upd st st' b s' → K (.pan (fault x)) st') : Tells st b K q := by subst e; exact h
theorem tellsO_of {own : Own} {m : Nat} {st : St} {b : Nat} {K : Res → St → Prop} {q : Rs} (h : ∀ n s', q = .inr (n, s') → ∀ st', Upd st st' b s' → own.good st' → K (.ret (enc n)) (own.st st' m)) (k : ∀ e s', q = .inl (e, s') → ∀ st', Upd st st' b s' → own.good st' → K (.pan (fault e)) (own.st st' m)) : TellsO own m st b K q := by
  match q with
  | .inr (n, s') => exact h n s' rfl
  | .inl (e, s') => exact k e s' rfl
theorem tells_r {b : Nat} {K : Res → St → Prop} {q : Rs} {x : Nd} {s' : Sta} (e : q = .inr (x, s')) (h : ∀ st', Upd st st' b s' → K (.ret (enc x)) st') : Tells st b K q := by subst e; exact h
/-- another layer's call, by its readings -/
def Calls3 (f : FuncId) (d : Int) (A : Sta → Rs) : Prop := ∀ s, mu s ≤ 100000000 → ∀ (st : St) (R : Res → St → Prop), R (.ret (encR (catchR s d (A s)))) st → PC f [encS s, .int .i64 d] st R
theorem into_r {f : FuncId} {d : Nat} {A : Sta → Rs} (hf : Calls3 f d A) (h0 : d = 0 → ∀ s, A s = .inl (2, s)) (hA : Bads A) {b : Nat} {s : Sta} (hm : mu s ≤ 100000000) (hs : Has st b s) (h : Tells st b R (A s)) :
    PC 74 [.ptr b 0, .func f [] [], .int .i64 d] st R := by
  by_cases hd : (d : Int) < 1
  · have hz : d = 0 := by omega
    rw [h0 hz s] at h
    refine into_c (n := nd0) (s' := s) (e := 2) (fun st R k => hf s hm st R ?_) hs (fun e => by cases e) (fun _ => h)
    unfold catchR; rw [if_pos hd]; exact k
  · cases hq : A s with
    | inr p =>
      rw [hq] at h
      refine into_c (n := p.1) (s' := p.2) (e := 0) (fun st R k => hf s hm st R ?_) hs (fun _ => h) (fun e => absurd rfl e)
      unfold catchR; rw [if_neg hd, hq]; exact k
    | inl p =>
      rw [hq] at h
      have hne := hA s p.1 p.2 hq
      refine into_c (n := nd0) (s' := p.2) (e := p.1) (fun st R k => hf s hm st R ?_) hs (fun e => absurd e hne) (fun _ => h)
      unfold catchR; rw [if_neg hd, hq]; exact k

theorem into_e {f : FuncId} {d : Nat} {x : Int} {A : Sta → Rs} (hx : x = (d : Int)) (hf : Calls3 f d A) (h0 : d = 0 → ∀ s, A s = .inl (2, s)) (hA : Bads A) {b : Nat} {s : Sta} (hm : mu s ≤ 100000000) (hs : Has st b s) (h : Tells st b R (A s)) :
    PC 74 [.ptr b 0, .func f [] [], .int .i64 x] st R := by subst hx; exact into_r hf h0 hA hm hs h

theorem square_c {d : Nat} (hd : d ≤ 1000000) {Y : Sta → Rs} (hY : Calls3 11 d Y) (h0 : d = 0 → ∀ s, Y s = .inl (2, s)) (hB : Bads Y) (hF : Falls Y) : Reads0 55 ((d + 1 : Nat) : Int) (squareP Y) := by
  intro s hm b st R hs h
  refine pcalls_of_body tys_ok [] Try.func55 rfl (by decide) ?_
  have hb := opn_le hm
  unfold squareP at h
  cases hq1 : takeP s with
  | inl q =>
    rw [hq1] at h
    obtain ⟨e, s'⟩ := q
    repeat' (conv => whnf
             first
               | with_reducible exact quiet_same
               | with_reducible exact quiet_bool
               | with_reducible exact quiet_not
               | with_reducible refine draw_step (by kernel_rfl) ?_
               | with_reducible refine quiet_go ?_ ?_ ?_
               | with_reducible refine bcase_yes (by first | assumption | omega) ?_
               | with_reducible refine bcase_no (by first | assumption | omega) ?_
               | with_reducible refine bcase_dyes (by omega) ?_
               | with_reducible refine bcase_dno (by omega) ?_
               | with_reducible refine bcase_len (by decide) (fun _ => ?_) (fun _ => ?_)
               | with_reducible refine bcase_eq (fun _ => ?_) (fun _ => ?_)
               | with_reducible refine bcase_dec (fun _ => ?_) (fun _ => ?_)
               | with_reducible refine bcase_true ?_
               | with_reducible refine bcase_false ?_
               | with_reducible refine bcase_intro (fun _ => ?_) (fun _ => ?_)
               | with_reducible refine len_kids (fun _ => ?_)
               | with_reducible refine at_known (by assumption) (by omega) ?_
               | with_reducible refine at_kid (by omega) (by omega) (fun _ _ _ => ?_)
               | with_reducible refine tail_kids (by omega) (by omega) ?_
               | with_reducible refine slice_kids (by omega) (by omega) (by omega) ?_
               | with_reducible refine ex_wrap (by omega) (by omega) ?_
               | with_reducible refine quo_step (by decide) (by omega) (by omega) ?_
               | with_reducible refine rem_step (by decide) ?_
               | with_reducible refine nil_row (fun _ => ?_) ?_
               | with_reducible refine nil_row2 (fun _ => ?_) ?_
               | with_reducible refine len_toks (fun _ => ?_)
               | with_reducible refine len_ints (fun _ => ?_)
               | with_reducible refine tok_known (by assumption) (by omega) ?_
               | with_reducible refine at_tok (by omega) (by omega) (fun _ _ => ?_)
               | with_reducible refine at_int (by omega) (by omega) (fun _ _ => ?_)
               | with_reducible refine slice_ints (by omega) (by omega) (by omega) ?_
               | refine take_r hs hb (tells_l hq1 (fun st1 h1 => ?_))
               | with_reducible refine draw_head ?_)
    all_goals exact fin (h st1 h1) rfl
  | inr q =>
    obtain ⟨n1, s1⟩ := q
    rw [hq1] at h
    have hm1 : mu s1 ≤ 100000000 := by have := (take_mu hq1).1; omega
    have hb1 := opn_le hm1
    repeat' (conv => whnf
             first
               | with_reducible exact quiet_same
               | with_reducible exact quiet_bool
               | with_reducible exact quiet_not
               | with_reducible refine draw_step (by kernel_rfl) ?_
               | with_reducible refine quiet_go ?_ ?_ ?_
               | with_reducible refine bcase_yes (by first | assumption | omega) ?_
               | with_reducible refine bcase_no (by first | assumption | omega) ?_
               | with_reducible refine bcase_dyes (by omega) ?_
               | with_reducible refine bcase_dno (by omega) ?_
               | with_reducible refine bcase_len (by decide) (fun _ => ?_) (fun _ => ?_)
               | with_reducible refine bcase_eq (fun _ => ?_) (fun _ => ?_)
               | with_reducible refine bcase_dec (fun _ => ?_) (fun _ => ?_)
               | with_reducible refine bcase_true ?_
               | with_reducible refine bcase_false ?_
               | with_reducible refine bcase_intro (fun _ => ?_) (fun _ => ?_)
               | with_reducible refine len_kids (fun _ => ?_)
               | with_reducible refine at_known (by assumption) (by omega) ?_
               | with_reducible refine at_kid (by omega) (by omega) (fun _ _ _ => ?_)
               | with_reducible refine tail_kids (by omega) (by omega) ?_
               | with_reducible refine slice_kids (by omega) (by omega) (by omega) ?_
               | with_reducible refine ex_wrap (by omega) (by omega) ?_
               | with_reducible refine quo_step (by decide) (by omega) (by omega) ?_
               | with_reducible refine rem_step (by decide) ?_
               | with_reducible refine nil_row (fun _ => ?_) ?_
               | with_reducible refine nil_row2 (fun _ => ?_) ?_
               | with_reducible refine len_toks (fun _ => ?_)
               | with_reducible refine len_ints (fun _ => ?_)
               | with_reducible refine tok_known (by assumption) (by omega) ?_
               | with_reducible refine at_tok (by omega) (by omega) (fun _ _ => ?_)
               | with_reducible refine at_int (by omega) (by omega) (fun _ _ => ?_)
               | with_reducible refine slice_ints (by omega) (by omega) (by omega) ?_
               | refine take_r hs hb (tells_r hq1 (fun st1 h1 => ?_))
               | refine is_c h1.1 hb1 ?_
               | with_reducible refine draw_head ?_)
    · have hp : isF s1 15 [93] = true := by assumption
      have hl1 : Has (st1.setBox b (lookC s1)) b s1 := .inl (St.box_same ..)
      have hq2 : takeP s1 = .inr (leafT (nextM s1).1, (nextM s1).2.1) := by unfold takeP; rw [if_pos (isF_ok hp (by decide))]
      dsimp only at h
      rw [if_pos hp] at h
      have hn1 : [n1].length + 1 ≤ 1000000000 := by show 1 + 1 ≤ 1000000000; decide
      repeat' (conv => whnf
               first
                 | with_reducible exact quiet_same
                 | with_reducible exact quiet_bool
                 | with_reducible exact quiet_not
                 | with_reducible refine draw_step (by kernel_rfl) ?_
                 | with_reducible refine quiet_go ?_ ?_ ?_
                 | with_reducible refine bcase_yes (by first | assumption | omega) ?_
                 | with_reducible refine bcase_no (by first | assumption | omega) ?_
                 | with_reducible refine bcase_dyes (by omega) ?_
                 | with_reducible refine bcase_dno (by omega) ?_
                 | with_reducible refine bcase_len (by decide) (fun _ => ?_) (fun _ => ?_)
                 | with_reducible refine bcase_eq (fun _ => ?_) (fun _ => ?_)
                 | with_reducible refine bcase_dec (fun _ => ?_) (fun _ => ?_)
                 | with_reducible refine bcase_true ?_
                 | with_reducible refine bcase_false ?_
                 | with_reducible refine bcase_intro (fun _ => ?_) (fun _ => ?_)
                 | with_reducible refine len_kids (fun _ => ?_)
                 | with_reducible refine at_known (by assumption) (by omega) ?_
                 | with_reducible refine at_kid (by omega) (by omega) (fun _ _ _ => ?_)
                 | with_reducible refine tail_kids (by omega) (by omega) ?_
                 | with_reducible refine slice_kids (by omega) (by omega) (by omega) ?_
                 | with_reducible refine ex_wrap (by omega) (by omega) ?_
                 | with_reducible refine quo_step (by decide) (by omega) (by omega) ?_
                 | with_reducible refine rem_step (by decide) ?_
                 | with_reducible refine nil_row (fun _ => ?_) ?_
                 | with_reducible refine nil_row2 (fun _ => ?_) ?_
                 | with_reducible refine len_toks (fun _ => ?_)
                 | with_reducible refine len_ints (fun _ => ?_)
                 | with_reducible refine tok_known (by assumption) (by omega) ?_
                 | with_reducible refine at_tok (by omega) (by omega) (fun _ _ => ?_)
                 | with_reducible refine at_int (by omega) (by omega) (fun _ _ => ?_)
                 | with_reducible refine slice_ints (by omega) (by omega) (by omega) ?_
                 | refine take_r hl1 hb1 (tells_r hq2 (fun st2 h2 => ?_))
                 | refine app_lit (l := [n1]) (x := leafT (nextM s1).1) (own := .full) trivial hn1 (fun own1 ho1 => ?_)
                 | with_reducible refine draw_head ?_)
      all_goals exact finl (Own.good_le ho1) rfl (h st2 (h1.trans (upd_look.trans h2)))
    · have hp : isF s1 15 [93] = false := by assumption
      have hl1 : Has (st1.setBox b (lookC s1)) b s1 := .inl (St.box_same ..)
      dsimp only at h
      rw [if_neg (by rw [hp]; decide)] at h
      have hn1 : [n1].length + 1 ≤ 1000000000 := by show 1 + 1 ≤ 1000000000; decide
      have hn2 : ∀ n2 : Nd, ([n1] ++ [n2]).length + 1 ≤ 1000000000 := fun _ => by simp only [List.length_append, List.length_singleton]; decide
      repeat' (conv => whnf
               first
                 | with_reducible exact quiet_same
                 | with_reducible exact quiet_bool
                 | with_reducible exact quiet_not
                 | with_reducible refine draw_step (by kernel_rfl) ?_
                 | with_reducible refine quiet_go ?_ ?_ ?_
                 | with_reducible refine bcase_yes (by first | assumption | omega) ?_
                 | with_reducible refine bcase_no (by first | assumption | omega) ?_
                 | with_reducible refine bcase_dyes (by omega) ?_
                 | with_reducible refine bcase_dno (by omega) ?_
                 | with_reducible refine bcase_len (by decide) (fun _ => ?_) (fun _ => ?_)
                 | with_reducible refine bcase_eq (fun _ => ?_) (fun _ => ?_)
                 | with_reducible refine bcase_dec (fun _ => ?_) (fun _ => ?_)
                 | with_reducible refine bcase_true ?_
                 | with_reducible refine bcase_false ?_
                 | with_reducible refine bcase_intro (fun _ => ?_) (fun _ => ?_)
                 | with_reducible refine len_kids (fun _ => ?_)
                 | with_reducible refine at_known (by assumption) (by omega) ?_
                 | with_reducible refine at_kid (by omega) (by omega) (fun _ _ _ => ?_)
                 | with_reducible refine tail_kids (by omega) (by omega) ?_
                 | with_reducible refine slice_kids (by omega) (by omega) (by omega) ?_
                 | with_reducible refine ex_wrap (by omega) (by omega) ?_
                 | with_reducible refine quo_step (by decide) (by omega) (by omega) ?_
                 | with_reducible refine rem_step (by decide) ?_
                 | with_reducible refine nil_row (fun _ => ?_) ?_
                 | with_reducible refine nil_row2 (fun _ => ?_) ?_
                 | with_reducible refine len_toks (fun _ => ?_)
                 | with_reducible refine len_ints (fun _ => ?_)
                 | with_reducible refine tok_known (by assumption) (by omega) ?_
                 | with_reducible refine at_tok (by omega) (by omega) (fun _ _ => ?_)
                 | with_reducible refine at_int (by omega) (by omega) (fun _ _ => ?_)
                 | with_reducible refine slice_ints (by omega) (by omega) (by omega) ?_
                 | refine into_e (by omega) hY h0 hB hm1 hl1 (tells_of (fun n2 s2 hq2 st2 h2 => ?_) (fun e2 s2 hq2 st2 h2 => ?_))
                 | refine app_lit (l := [n1]) (x := n2) (own := .full) trivial hn1 (fun own1 ho1 => ?_)
                 | refine want_r (h2.1.hw own1 _) (opn_le (Nat.le_trans (Nat.le_of_lt (hF _ _ _ hq2)) hm1)) (tells_own ho1 h2.1 (tellsO_of (fun n3 s3 hq3 st3 h3 hg3 => ?_) (fun e3 s3 hq3 st3 h3 hg3 => ?_)))
                 | refine app_node1 (l := [n1] ++ [n2]) (x := n3) hg3 (hn2 n2) (fun own2 ho2 => ?_)
                 | with_reducible refine draw_head ?_)
      all_goals rw [hq2] at h
      · unfold finP at h
        dsimp only at h
        rw [hq3] at h
        exact finl (Own.good_le ho2) rfl (h st3 (((h1.trans upd_look).trans h2).trans h3))
      · unfold finP at h
        dsimp only at h
        rw [hq3] at h
        exact finl (Own.good_le hg3) rfl (h st3 (((h1.trans upd_look).trans h2).trans h3))
      · exact fin (h st2 ((h1.trans upd_look).trans h2)) rfl
end
end Go.Proofs.Ytngbihfihdheoaa
