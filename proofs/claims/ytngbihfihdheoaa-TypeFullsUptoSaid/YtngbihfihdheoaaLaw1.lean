/-
  LAWS OF THE TYPES: trees, states and tokens that are the same; sizes; a token.
-/
import Derived.Test.YtngbihfihdheoaaRef7
import Derived.Test.YtngbihfihdheoaaTyp11
set_option linter.unusedVariables false
set_option pp.maxSteps 400
namespace Go.Aw
theorem next_nb {env env' : Env} {st : St} {i : Nat} {keep kb : List Nat} {m k : Nat} {J : Nat → Prop} (h : J (k + 1)) (hk : k < m)
    (he : (env.atb [(i, .int .i64 ((k + 1 : Nat) : Int))] keep kb).leC env') : ∃ y, J y ∧ m - y < m - k ∧ (env.atb [(i, .int .i64 (y : Int))] keep kb).leC env' ∧ St.le st st :=
  ⟨k + 1, h, by omega, he, St.le_refl _⟩
theorem bcase_t {b : Bool} {p q : Prop} (h : b = true) (k : p) : bcase b p q := bcase_intro (fun _ => k) (fun e => by rw [h] at e; cases e)
theorem bcase_f {b : Bool} {p q : Prop} (h : b = false) (k : q) : bcase b p q := bcase_intro (fun e => by rw [h] at e; cases e) (fun _ => k)
theorem bcase_tok {k l c : Int} {t : List UInt8} {p q : Prop} (h : p) : bcase (k == k && (t == t && (l == l && (c == c && true)))) p q := bcase_t (by simp) h
theorem bcase_tokn {k l c : Int} {t : List UInt8} {p q : Prop} (h : q) : bcase (!(k == k && (t == t && (l == l && (c == c && true))))) p q := bcase_f (by simp) h
theorem int_known {l : List Int} {i : Int} {x : Int} {K : List V → Prop} (h : l[i.toNat]? = some x) (h0 : 0 ≤ i) (k : K [.int .i64 x]) : 0 ≤ i ∧ ∃ e, (ints l)[i.toNat]? = some e ∧ K e := ⟨h0, _, by simp [ints, h], k⟩
end Go.Aw
namespace Go.Proofs.Ytngbihfihdheoaa
open Go Go.Aw
section
variable {st : St} {R : Res → St → Prop}
attribute [local irreducible] Go.Aw.appendTo
theorem sameall_c : ∀ (m : Nat) {n : Nd} {st : St} {R : Res → St → Prop}, n.size ≤ m → R (.ret (.bool true)) st → PC 16 [enc n, enc n] st R := by
  intro m
  induction m with
  | zero => intro n st R hm h; cases n; rw [Nd.size] at hm; omega
  | succ m ih =>
    intro n st R hm h
    refine pcalls_of_body tys_ok [] Try.func16 rfl (by decide) ?_
    repeat' (conv => whnf
             first
               | with_reducible refine bcase_yes rfl ?_
               | with_reducible refine bcase_tok ?_
               | with_reducible refine bcase_tokn ?_
               | with_reducible refine int_known (by assumption) (by omega) ?_
               | with_reducible exact quiet_same
               | with_reducible exact quiet_bool
               | with_reducible exact quiet_not
               | with_reducible refine draw_step (by kernel_rfl) ?_
               | with_reducible refine quiet_go ?_ ?_ ?_
               | with_reducible refine bcase_yes (by first | assumption | omega) ?_
               | with_reducible refine bcase_no (by first | assumption | omega) ?_
               | with_reducible refine bcase_dyes (by omega) ?_
               | with_reducible refine bcase_dno (by omega) ?_
               | with_reducible refine bcase_len (by decide) (fun _ => ?_) (fun _ => ?_)
               | with_reducible refine bcase_eq (fun _ => ?_) (fun _ => ?_)
               | with_reducible refine bcase_dec (fun _ => ?_) (fun _ => ?_)
               | with_reducible refine bcase_true ?_
               | with_reducible refine bcase_false ?_
               | with_reducible refine bcase_intro (fun _ => ?_) (fun _ => ?_)
               | with_reducible refine len_kids (fun _ => ?_)
               | with_reducible refine at_known (by assumption) (by omega) ?_
               | with_reducible refine at_kid (by omega) (by omega) (fun _ _ _ => ?_)
               | with_reducible refine tail_kids (by omega) (by omega) ?_
               | with_reducible refine slice_kids (by omega) (by omega) (by omega) ?_
               | with_reducible refine ex_wrap (by omega) (by omega) ?_
               | with_reducible refine quo_step (by decide) (by omega) (by omega) ?_
               | with_reducible refine rem_step (by decide) ?_
               | with_reducible refine nil_row (fun _ => ?_) ?_
               | with_reducible refine nil_row2 (fun _ => ?_) ?_
               | with_reducible refine len_toks (fun _ => ?_)
               | with_reducible refine len_ints (fun _ => ?_)
               | with_reducible refine tok_known (by assumption) (by omega) ?_
               | with_reducible refine at_tok (by omega) (by omega) (fun _ _ => ?_)
               | with_reducible refine at_int (by omega) (by omega) (fun _ _ => ?_)
               | with_reducible refine slice_ints (by omega) (by omega) (by omega) ?_
               | with_reducible refine draw_head ?_)
    refine loop_nb 5 [2, 3] [0, 1] n.kids.length (fun k => k ≤ n.kids.length) (Nat.zero_le _) (by refine ⟨rfl, ?_, ?_, rfl⟩ <;> repeat' (first | exact trivial | exact rfl | refine And.intro ?_ ?_)) ?_
    intro k hk
    by_cases hlt : k < n.kids.length
    · obtain ⟨x, hx⟩ : ∃ x, n.kids[(k : Int).toNat]? = some x := ⟨_, List.getElem?_eq_getElem hlt⟩
      have hxm : x ∈ n.kids := List.mem_of_getElem? hx
      have hxs := size_kid hxm
      repeat' (conv => whnf
               first
                 | with_reducible refine bcase_yes rfl ?_
                 | with_reducible refine bcase_tok ?_
                 | with_reducible refine bcase_tokn ?_
                 | with_reducible refine int_known (by assumption) (by omega) ?_
                 | with_reducible exact quiet_same
                 | with_reducible exact quiet_bool
                 | with_reducible exact quiet_not
                 | with_reducible refine draw_step (by kernel_rfl) ?_
                 | with_reducible refine quiet_go ?_ ?_ ?_
                 | with_reducible refine bcase_yes (by first | assumption | omega) ?_
                 | with_reducible refine bcase_no (by first | assumption | omega) ?_
                 | with_reducible refine bcase_dyes (by omega) ?_
                 | with_reducible refine bcase_dno (by omega) ?_
                 | with_reducible refine bcase_len (by decide) (fun _ => ?_) (fun _ => ?_)
                 | with_reducible refine bcase_eq (fun _ => ?_) (fun _ => ?_)
                 | with_reducible refine bcase_dec (fun _ => ?_) (fun _ => ?_)
                 | with_reducible refine bcase_true ?_
                 | with_reducible refine bcase_false ?_
                 | with_reducible refine bcase_intro (fun _ => ?_) (fun _ => ?_)
                 | with_reducible refine len_kids (fun _ => ?_)
                 | with_reducible refine at_known (by assumption) (by omega) ?_
                 | with_reducible refine at_kid (by omega) (by omega) (fun _ _ _ => ?_)
                 | with_reducible refine tail_kids (by omega) (by omega) ?_
                 | with_reducible refine slice_kids (by omega) (by omega) (by omega) ?_
                 | with_reducible refine ex_wrap (by omega) (by omega) ?_
                 | with_reducible refine quo_step (by decide) (by omega) (by omega) ?_
                 | with_reducible refine rem_step (by decide) ?_
                 | with_reducible refine nil_row (fun _ => ?_) ?_
                 | with_reducible refine nil_row2 (fun _ => ?_) ?_
                 | with_reducible refine len_toks (fun _ => ?_)
                 | with_reducible refine len_ints (fun _ => ?_)
                 | with_reducible refine tok_known (by assumption) (by omega) ?_
                 | with_reducible refine at_tok (by omega) (by omega) (fun _ _ => ?_)
                 | with_reducible refine at_int (by omega) (by omega) (fun _ _ => ?_)
                 | with_reducible refine slice_ints (by omega) (by omega) (by omega) ?_
                 | refine ih (n := x) (by omega) ?_
                 | with_reducible refine draw_head ?_)
      all_goals conv => whnf
      all_goals exact ⟨k + 1, hlt, Nat.sub_lt_sub_left hlt (Nat.lt_succ_self k), (by refine ⟨rfl, ?_, ?_, rfl⟩ <;> repeat' (first | exact trivial | exact rfl | refine And.intro ?_ ?_)), St.le_refl _⟩
    · skip
      repeat' (conv => whnf
               first
                 | with_reducible refine bcase_yes rfl ?_
                 | with_reducible refine bcase_tok ?_
                 | with_reducible refine bcase_tokn ?_
                 | with_reducible refine int_known (by assumption) (by omega) ?_
                 | with_reducible exact quiet_same
                 | with_reducible exact quiet_bool
                 | with_reducible exact quiet_not
                 | with_reducible refine draw_step (by kernel_rfl) ?_
                 | with_reducible refine quiet_go ?_ ?_ ?_
                 | with_reducible refine bcase_yes (by first | assumption | omega) ?_
                 | with_reducible refine bcase_no (by first | assumption | omega) ?_
                 | with_reducible refine bcase_dyes (by omega) ?_
                 | with_reducible refine bcase_dno (by omega) ?_
                 | with_reducible refine bcase_len (by decide) (fun _ => ?_) (fun _ => ?_)
                 | with_reducible refine bcase_eq (fun _ => ?_) (fun _ => ?_)
                 | with_reducible refine bcase_dec (fun _ => ?_) (fun _ => ?_)
                 | with_reducible refine bcase_true ?_
                 | with_reducible refine bcase_false ?_
                 | with_reducible refine bcase_intro (fun _ => ?_) (fun _ => ?_)
                 | with_reducible refine len_kids (fun _ => ?_)
                 | with_reducible refine at_known (by assumption) (by omega) ?_
                 | with_reducible refine at_kid (by omega) (by omega) (fun _ _ _ => ?_)
                 | with_reducible refine tail_kids (by omega) (by omega) ?_
                 | with_reducible refine slice_kids (by omega) (by omega) (by omega) ?_
                 | with_reducible refine ex_wrap (by omega) (by omega) ?_
                 | with_reducible refine quo_step (by decide) (by omega) (by omega) ?_
                 | with_reducible refine rem_step (by decide) ?_
                 | with_reducible refine nil_row (fun _ => ?_) ?_
                 | with_reducible refine nil_row2 (fun _ => ?_) ?_
                 | with_reducible refine len_toks (fun _ => ?_)
                 | with_reducible refine len_ints (fun _ => ?_)
                 | with_reducible refine tok_known (by assumption) (by omega) ?_
                 | with_reducible refine at_tok (by omega) (by omega) (fun _ _ => ?_)
                 | with_reducible refine at_int (by omega) (by omega) (fun _ _ => ?_)
                 | with_reducible refine slice_ints (by omega) (by omega) (by omega) ?_
                 | with_reducible refine draw_head ?_)
      all_goals exact fin h rfl
theorem samestate_c {s : Sta} (h : R (.ret (.bool true)) st) : PC 17 [encS s, encS s] st R := by
  refine pcalls_of_body tys_ok [] Try.func17 rfl (by decide) ?_
  repeat' (conv => whnf
           first
             | with_reducible refine bcase_yes rfl ?_
             | with_reducible refine bcase_tok ?_
             | with_reducible refine bcase_tokn ?_
             | with_reducible refine int_known (by assumption) (by omega) ?_
             | with_reducible exact quiet_same
             | with_reducible exact quiet_bool
             | with_reducible exact quiet_not
             | with_reducible refine draw_step (by kernel_rfl) ?_
             | with_reducible refine quiet_go ?_ ?_ ?_
             | with_reducible refine bcase_yes (by first | assumption | omega) ?_
             | with_reducible refine bcase_no (by first | assumption | omega) ?_
             | with_reducible refine bcase_dyes (by omega) ?_
             | with_reducible refine bcase_dno (by omega) ?_
             | with_reducible refine bcase_len (by decide) (fun _ => ?_) (fun _ => ?_)
             | with_reducible refine bcase_eq (fun _ => ?_) (fun _ => ?_)
             | with_reducible refine bcase_dec (fun _ => ?_) (fun _ => ?_)
             | with_reducible refine bcase_true ?_
             | with_reducible refine bcase_false ?_
             | with_reducible refine bcase_intro (fun _ => ?_) (fun _ => ?_)
             | with_reducible refine len_kids (fun _ => ?_)
             | with_reducible refine at_known (by assumption) (by omega) ?_
             | with_reducible refine at_kid (by omega) (by omega) (fun _ _ _ => ?_)
             | with_reducible refine tail_kids (by omega) (by omega) ?_
             | with_reducible refine slice_kids (by omega) (by omega) (by omega) ?_
             | with_reducible refine ex_wrap (by omega) (by omega) ?_
             | with_reducible refine quo_step (by decide) (by omega) (by omega) ?_
             | with_reducible refine rem_step (by decide) ?_
             | with_reducible refine nil_row (fun _ => ?_) ?_
             | with_reducible refine nil_row2 (fun _ => ?_) ?_
             | with_reducible refine len_toks (fun _ => ?_)
             | with_reducible refine len_ints (fun _ => ?_)
             | with_reducible refine tok_known (by assumption) (by omega) ?_
             | with_reducible refine at_tok (by omega) (by omega) (fun _ _ => ?_)
             | with_reducible refine at_int (by omega) (by omega) (fun _ _ => ?_)
             | with_reducible refine slice_ints (by omega) (by omega) (by omega) ?_
             | with_reducible refine draw_head ?_)
  refine loop_nb 5 [2, 3] [0, 1] s.toks.length (fun k => k ≤ s.toks.length) (Nat.zero_le _) (by refine ⟨rfl, ?_, ?_, rfl⟩ <;> repeat' (first | exact trivial | exact rfl | refine And.intro ?_ ?_)) ?_
  intro k hk
  by_cases hlt : k < s.toks.length
  · obtain ⟨x, hx⟩ : ∃ x, s.toks[(k : Int).toNat]? = some x := ⟨_, List.getElem?_eq_getElem hlt⟩
    repeat' (conv => whnf
             first
               | with_reducible refine bcase_yes rfl ?_
               | with_reducible refine bcase_tok ?_
               | with_reducible refine bcase_tokn ?_
               | with_reducible refine int_known (by assumption) (by omega) ?_
               | with_reducible exact quiet_same
               | with_reducible exact quiet_bool
               | with_reducible exact quiet_not
               | with_reducible refine draw_step (by kernel_rfl) ?_
               | with_reducible refine quiet_go ?_ ?_ ?_
               | with_reducible refine bcase_yes (by first | assumption | omega) ?_
               | with_reducible refine bcase_no (by first | assumption | omega) ?_
               | with_reducible refine bcase_dyes (by omega) ?_
               | with_reducible refine bcase_dno (by omega) ?_
               | with_reducible refine bcase_len (by decide) (fun _ => ?_) (fun _ => ?_)
               | with_reducible refine bcase_eq (fun _ => ?_) (fun _ => ?_)
               | with_reducible refine bcase_dec (fun _ => ?_) (fun _ => ?_)
               | with_reducible refine bcase_true ?_
               | with_reducible refine bcase_false ?_
               | with_reducible refine bcase_intro (fun _ => ?_) (fun _ => ?_)
               | with_reducible refine len_kids (fun _ => ?_)
               | with_reducible refine at_known (by assumption) (by omega) ?_
               | with_reducible refine at_kid (by omega) (by omega) (fun _ _ _ => ?_)
               | with_reducible refine tail_kids (by omega) (by omega) ?_
               | with_reducible refine slice_kids (by omega) (by omega) (by omega) ?_
               | with_reducible refine ex_wrap (by omega) (by omega) ?_
               | with_reducible refine quo_step (by decide) (by omega) (by omega) ?_
               | with_reducible refine rem_step (by decide) ?_
               | with_reducible refine nil_row (fun _ => ?_) ?_
               | with_reducible refine nil_row2 (fun _ => ?_) ?_
               | with_reducible refine len_toks (fun _ => ?_)
               | with_reducible refine len_ints (fun _ => ?_)
               | with_reducible refine tok_known (by assumption) (by omega) ?_
               | with_reducible refine at_tok (by omega) (by omega) (fun _ _ => ?_)
               | with_reducible refine at_int (by omega) (by omega) (fun _ _ => ?_)
               | with_reducible refine slice_ints (by omega) (by omega) (by omega) ?_
               | with_reducible refine draw_head ?_)
    all_goals conv => whnf
    all_goals exact ⟨k + 1, hlt, Nat.sub_lt_sub_left hlt (Nat.lt_succ_self k), (by refine ⟨rfl, ?_, ?_, rfl⟩ <;> repeat' (first | exact trivial | exact rfl | refine And.intro ?_ ?_)), St.le_refl _⟩
  · skip
    repeat' (conv => whnf
             first
               | with_reducible refine bcase_yes rfl ?_
               | with_reducible refine bcase_tok ?_
               | with_reducible refine bcase_tokn ?_
               | with_reducible refine int_known (by assumption) (by omega) ?_
               | with_reducible exact quiet_same
               | with_reducible exact quiet_bool
               | with_reducible exact quiet_not
               | with_reducible refine draw_step (by kernel_rfl) ?_
               | with_reducible refine quiet_go ?_ ?_ ?_
               | with_reducible refine bcase_yes (by first | assumption | omega) ?_
               | with_reducible refine bcase_no (by first | assumption | omega) ?_
               | with_reducible refine bcase_dyes (by omega) ?_
               | with_reducible refine bcase_dno (by omega) ?_
               | with_reducible refine bcase_len (by decide) (fun _ => ?_) (fun _ => ?_)
               | with_reducible refine bcase_eq (fun _ => ?_) (fun _ => ?_)
               | with_reducible refine bcase_dec (fun _ => ?_) (fun _ => ?_)
               | with_reducible refine bcase_true ?_
               | with_reducible refine bcase_false ?_
               | with_reducible refine bcase_intro (fun _ => ?_) (fun _ => ?_)
               | with_reducible refine len_kids (fun _ => ?_)
               | with_reducible refine at_known (by assumption) (by omega) ?_
               | with_reducible refine at_kid (by omega) (by omega) (fun _ _ _ => ?_)
               | with_reducible refine tail_kids (by omega) (by omega) ?_
               | with_reducible refine slice_kids (by omega) (by omega) (by omega) ?_
               | with_reducible refine ex_wrap (by omega) (by omega) ?_
               | with_reducible refine quo_step (by decide) (by omega) (by omega) ?_
               | with_reducible refine rem_step (by decide) ?_
               | with_reducible refine nil_row (fun _ => ?_) ?_
               | with_reducible refine nil_row2 (fun _ => ?_) ?_
               | with_reducible refine len_toks (fun _ => ?_)
               | with_reducible refine len_ints (fun _ => ?_)
               | with_reducible refine tok_known (by assumption) (by omega) ?_
               | with_reducible refine at_tok (by omega) (by omega) (fun _ _ => ?_)
               | with_reducible refine at_int (by omega) (by omega) (fun _ _ => ?_)
               | with_reducible refine slice_ints (by omega) (by omega) (by omega) ?_
               | with_reducible refine draw_head ?_)
    refine loop_nb 6 [2, 3] [0, 1] s.opn.length (fun k => k ≤ s.opn.length) (Nat.zero_le _) (by refine ⟨rfl, ?_, ?_, rfl⟩ <;> repeat' (first | exact trivial | exact rfl | refine And.intro ?_ ?_)) ?_
    intro k hk
    by_cases hlt : k < s.opn.length
    · obtain ⟨x, hx⟩ : ∃ x, s.opn[(k : Int).toNat]? = some x := ⟨_, List.getElem?_eq_getElem hlt⟩
      repeat' (conv => whnf
               first
                 | with_reducible refine bcase_yes rfl ?_
                 | with_reducible refine bcase_tok ?_
                 | with_reducible refine bcase_tokn ?_
                 | with_reducible refine int_known (by assumption) (by omega) ?_
                 | with_reducible exact quiet_same
                 | with_reducible exact quiet_bool
                 | with_reducible exact quiet_not
                 | with_reducible refine draw_step (by kernel_rfl) ?_
                 | with_reducible refine quiet_go ?_ ?_ ?_
                 | with_reducible refine bcase_yes (by first | assumption | omega) ?_
                 | with_reducible refine bcase_no (by first | assumption | omega) ?_
                 | with_reducible refine bcase_dyes (by omega) ?_
                 | with_reducible refine bcase_dno (by omega) ?_
                 | with_reducible refine bcase_len (by decide) (fun _ => ?_) (fun _ => ?_)
                 | with_reducible refine bcase_eq (fun _ => ?_) (fun _ => ?_)
                 | with_reducible refine bcase_dec (fun _ => ?_) (fun _ => ?_)
                 | with_reducible refine bcase_true ?_
                 | with_reducible refine bcase_false ?_
                 | with_reducible refine bcase_intro (fun _ => ?_) (fun _ => ?_)
                 | with_reducible refine len_kids (fun _ => ?_)
                 | with_reducible refine at_known (by assumption) (by omega) ?_
                 | with_reducible refine at_kid (by omega) (by omega) (fun _ _ _ => ?_)
                 | with_reducible refine tail_kids (by omega) (by omega) ?_
                 | with_reducible refine slice_kids (by omega) (by omega) (by omega) ?_
                 | with_reducible refine ex_wrap (by omega) (by omega) ?_
                 | with_reducible refine quo_step (by decide) (by omega) (by omega) ?_
                 | with_reducible refine rem_step (by decide) ?_
                 | with_reducible refine nil_row (fun _ => ?_) ?_
                 | with_reducible refine nil_row2 (fun _ => ?_) ?_
                 | with_reducible refine len_toks (fun _ => ?_)
                 | with_reducible refine len_ints (fun _ => ?_)
                 | with_reducible refine tok_known (by assumption) (by omega) ?_
                 | with_reducible refine at_tok (by omega) (by omega) (fun _ _ => ?_)
                 | with_reducible refine at_int (by omega) (by omega) (fun _ _ => ?_)
                 | with_reducible refine slice_ints (by omega) (by omega) (by omega) ?_
                 | with_reducible refine draw_head ?_)
      all_goals conv => whnf
      all_goals exact ⟨k + 1, hlt, Nat.sub_lt_sub_left hlt (Nat.lt_succ_self k), (by refine ⟨rfl, ?_, ?_, rfl⟩ <;> repeat' (first | exact trivial | exact rfl | refine And.intro ?_ ?_)), St.le_refl _⟩
    · skip
      repeat' (conv => whnf
               first
                 | with_reducible refine bcase_yes rfl ?_
                 | with_reducible refine bcase_tok ?_
                 | with_reducible refine bcase_tokn ?_
                 | with_reducible refine int_known (by assumption) (by omega) ?_
                 | with_reducible exact quiet_same
                 | with_reducible exact quiet_bool
                 | with_reducible exact quiet_not
                 | with_reducible refine draw_step (by kernel_rfl) ?_
                 | with_reducible refine quiet_go ?_ ?_ ?_
                 | with_reducible refine bcase_yes (by first | assumption | omega) ?_
                 | with_reducible refine bcase_no (by first | assumption | omega) ?_
                 | with_reducible refine bcase_dyes (by omega) ?_
                 | with_reducible refine bcase_dno (by omega) ?_
                 | with_reducible refine bcase_len (by decide) (fun _ => ?_) (fun _ => ?_)
                 | with_reducible refine bcase_eq (fun _ => ?_) (fun _ => ?_)
                 | with_reducible refine bcase_dec (fun _ => ?_) (fun _ => ?_)
                 | with_reducible refine bcase_true ?_
                 | with_reducible refine bcase_false ?_
                 | with_reducible refine bcase_intro (fun _ => ?_) (fun _ => ?_)
                 | with_reducible refine len_kids (fun _ => ?_)
                 | with_reducible refine at_known (by assumption) (by omega) ?_
                 | with_reducible refine at_kid (by omega) (by omega) (fun _ _ _ => ?_)
                 | with_reducible refine tail_kids (by omega) (by omega) ?_
                 | with_reducible refine slice_kids (by omega) (by omega) (by omega) ?_
                 | with_reducible refine ex_wrap (by omega) (by omega) ?_
                 | with_reducible refine quo_step (by decide) (by omega) (by omega) ?_
                 | with_reducible refine rem_step (by decide) ?_
                 | with_reducible refine nil_row (fun _ => ?_) ?_
                 | with_reducible refine nil_row2 (fun _ => ?_) ?_
                 | with_reducible refine len_toks (fun _ => ?_)
                 | with_reducible refine len_ints (fun _ => ?_)
                 | with_reducible refine tok_known (by assumption) (by omega) ?_
                 | with_reducible refine at_tok (by omega) (by omega) (fun _ _ => ?_)
                 | with_reducible refine at_int (by omega) (by omega) (fun _ _ => ?_)
                 | with_reducible refine slice_ints (by omega) (by omega) (by omega) ?_
                 | with_reducible refine draw_head ?_)
      all_goals exact fin h rfl
theorem samelist_c {l : List Tk} {o1 o2 : Own} (h : R (.ret (.bool true)) st) : PC 24 [.slice 4 (encTs l) o1, .slice 4 (encTs l) o2] st R := by
  refine pcalls_of_body tys_ok [] Try.func24 rfl (by decide) ?_
  repeat' (conv => whnf
           first
             | with_reducible refine bcase_yes rfl ?_
             | with_reducible refine bcase_tok ?_
             | with_reducible refine bcase_tokn ?_
             | with_reducible refine int_known (by assumption) (by omega) ?_
             | with_reducible exact quiet_same
             | with_reducible exact quiet_bool
             | with_reducible exact quiet_not
             | with_reducible refine draw_step (by kernel_rfl) ?_
             | with_reducible refine quiet_go ?_ ?_ ?_
             | with_reducible refine bcase_yes (by first | assumption | omega) ?_
             | with_reducible refine bcase_no (by first | assumption | omega) ?_
             | with_reducible refine bcase_dyes (by omega) ?_
             | with_reducible refine bcase_dno (by omega) ?_
             | with_reducible refine bcase_len (by decide) (fun _ => ?_) (fun _ => ?_)
             | with_reducible refine bcase_eq (fun _ => ?_) (fun _ => ?_)
             | with_reducible refine bcase_dec (fun _ => ?_) (fun _ => ?_)
             | with_reducible refine bcase_true ?_
             | with_reducible refine bcase_false ?_
             | with_reducible refine bcase_intro (fun _ => ?_) (fun _ => ?_)
             | with_reducible refine len_kids (fun _ => ?_)
             | with_reducible refine at_known (by assumption) (by omega) ?_
             | with_reducible refine at_kid (by omega) (by omega) (fun _ _ _ => ?_)
             | with_reducible refine tail_kids (by omega) (by omega) ?_
             | with_reducible refine slice_kids (by omega) (by omega) (by omega) ?_
             | with_reducible refine ex_wrap (by omega) (by omega) ?_
             | with_reducible refine quo_step (by decide) (by omega) (by omega) ?_
             | with_reducible refine rem_step (by decide) ?_
             | with_reducible refine nil_row (fun _ => ?_) ?_
             | with_reducible refine nil_row2 (fun _ => ?_) ?_
             | with_reducible refine len_toks (fun _ => ?_)
             | with_reducible refine len_ints (fun _ => ?_)
             | with_reducible refine tok_known (by assumption) (by omega) ?_
             | with_reducible refine at_tok (by omega) (by omega) (fun _ _ => ?_)
             | with_reducible refine at_int (by omega) (by omega) (fun _ _ => ?_)
             | with_reducible refine slice_ints (by omega) (by omega) (by omega) ?_
             | with_reducible refine draw_head ?_)
  refine loop_nb 5 [0, 1] [] l.length (fun k => k ≤ l.length) (Nat.zero_le _) (by refine ⟨rfl, ?_, ?_, rfl⟩ <;> repeat' (first | exact trivial | exact rfl | refine And.intro ?_ ?_)) ?_
  intro k hk
  by_cases hlt : k < l.length
  · obtain ⟨x, hx⟩ : ∃ x, l[(k : Int).toNat]? = some x := ⟨_, List.getElem?_eq_getElem hlt⟩
    repeat' (conv => whnf
             first
               | with_reducible refine bcase_yes rfl ?_
               | with_reducible refine bcase_tok ?_
               | with_reducible refine bcase_tokn ?_
               | with_reducible refine int_known (by assumption) (by omega) ?_
               | with_reducible exact quiet_same
               | with_reducible exact quiet_bool
               | with_reducible exact quiet_not
               | with_reducible refine draw_step (by kernel_rfl) ?_
               | with_reducible refine quiet_go ?_ ?_ ?_
               | with_reducible refine bcase_yes (by first | assumption | omega) ?_
               | with_reducible refine bcase_no (by first | assumption | omega) ?_
               | with_reducible refine bcase_dyes (by omega) ?_
               | with_reducible refine bcase_dno (by omega) ?_
               | with_reducible refine bcase_len (by decide) (fun _ => ?_) (fun _ => ?_)
               | with_reducible refine bcase_eq (fun _ => ?_) (fun _ => ?_)
               | with_reducible refine bcase_dec (fun _ => ?_) (fun _ => ?_)
               | with_reducible refine bcase_true ?_
               | with_reducible refine bcase_false ?_
               | with_reducible refine bcase_intro (fun _ => ?_) (fun _ => ?_)
               | with_reducible refine len_kids (fun _ => ?_)
               | with_reducible refine at_known (by assumption) (by omega) ?_
               | with_reducible refine at_kid (by omega) (by omega) (fun _ _ _ => ?_)
               | with_reducible refine tail_kids (by omega) (by omega) ?_
               | with_reducible refine slice_kids (by omega) (by omega) (by omega) ?_
               | with_reducible refine ex_wrap (by omega) (by omega) ?_
               | with_reducible refine quo_step (by decide) (by omega) (by omega) ?_
               | with_reducible refine rem_step (by decide) ?_
               | with_reducible refine nil_row (fun _ => ?_) ?_
               | with_reducible refine nil_row2 (fun _ => ?_) ?_
               | with_reducible refine len_toks (fun _ => ?_)
               | with_reducible refine len_ints (fun _ => ?_)
               | with_reducible refine tok_known (by assumption) (by omega) ?_
               | with_reducible refine at_tok (by omega) (by omega) (fun _ _ => ?_)
               | with_reducible refine at_int (by omega) (by omega) (fun _ _ => ?_)
               | with_reducible refine slice_ints (by omega) (by omega) (by omega) ?_
               | with_reducible refine draw_head ?_)
    all_goals conv => whnf
    all_goals exact ⟨k + 1, hlt, Nat.sub_lt_sub_left hlt (Nat.lt_succ_self k), (by refine ⟨rfl, ?_, ?_, rfl⟩ <;> repeat' (first | exact trivial | exact rfl | refine And.intro ?_ ?_)), St.le_refl _⟩
  · skip
    repeat' (conv => whnf
             first
               | with_reducible refine bcase_yes rfl ?_
               | with_reducible refine bcase_tok ?_
               | with_reducible refine bcase_tokn ?_
               | with_reducible refine int_known (by assumption) (by omega) ?_
               | with_reducible exact quiet_same
               | with_reducible exact quiet_bool
               | with_reducible exact quiet_not
               | with_reducible refine draw_step (by kernel_rfl) ?_
               | with_reducible refine quiet_go ?_ ?_ ?_
               | with_reducible refine bcase_yes (by first | assumption | omega) ?_
               | with_reducible refine bcase_no (by first | assumption | omega) ?_
               | with_reducible refine bcase_dyes (by omega) ?_
               | with_reducible refine bcase_dno (by omega) ?_
               | with_reducible refine bcase_len (by decide) (fun _ => ?_) (fun _ => ?_)
               | with_reducible refine bcase_eq (fun _ => ?_) (fun _ => ?_)
               | with_reducible refine bcase_dec (fun _ => ?_) (fun _ => ?_)
               | with_reducible refine bcase_true ?_
               | with_reducible refine bcase_false ?_
               | with_reducible refine bcase_intro (fun _ => ?_) (fun _ => ?_)
               | with_reducible refine len_kids (fun _ => ?_)
               | with_reducible refine at_known (by assumption) (by omega) ?_
               | with_reducible refine at_kid (by omega) (by omega) (fun _ _ _ => ?_)
               | with_reducible refine tail_kids (by omega) (by omega) ?_
               | with_reducible refine slice_kids (by omega) (by omega) (by omega) ?_
               | with_reducible refine ex_wrap (by omega) (by omega) ?_
               | with_reducible refine quo_step (by decide) (by omega) (by omega) ?_
               | with_reducible refine rem_step (by decide) ?_
               | with_reducible refine nil_row (fun _ => ?_) ?_
               | with_reducible refine nil_row2 (fun _ => ?_) ?_
               | with_reducible refine len_toks (fun _ => ?_)
               | with_reducible refine len_ints (fun _ => ?_)
               | with_reducible refine tok_known (by assumption) (by omega) ?_
               | with_reducible refine at_tok (by omega) (by omega) (fun _ _ => ?_)
               | with_reducible refine at_int (by omega) (by omega) (fun _ _ => ?_)
               | with_reducible refine slice_ints (by omega) (by omega) (by omega) ?_
               | with_reducible refine draw_head ?_)
    all_goals exact fin h rfl
theorem word_c {k : Int} {x : List UInt8} (h : R (.ret (encT ⟨k, x, 0, 0⟩)) st) : PC 26 [.int .i64 k, .str x] st R := by
  refine pcalls_of_body tys_ok [] Try.func26 rfl (by decide) ?_
  repeat' (conv => whnf
           first
             | with_reducible refine bcase_yes rfl ?_
             | with_reducible refine bcase_tok ?_
             | with_reducible refine bcase_tokn ?_
             | with_reducible refine int_known (by assumption) (by omega) ?_
             | with_reducible exact quiet_same
             | with_reducible exact quiet_bool
             | with_reducible exact quiet_not
             | with_reducible refine draw_step (by kernel_rfl) ?_
             | with_reducible refine quiet_go ?_ ?_ ?_
             | with_reducible refine bcase_yes (by first | assumption | omega) ?_
             | with_reducible refine bcase_no (by first | assumption | omega) ?_
             | with_reducible refine bcase_dyes (by omega) ?_
             | with_reducible refine bcase_dno (by omega) ?_
             | with_reducible refine bcase_len (by decide) (fun _ => ?_) (fun _ => ?_)
             | with_reducible refine bcase_eq (fun _ => ?_) (fun _ => ?_)
             | with_reducible refine bcase_dec (fun _ => ?_) (fun _ => ?_)
             | with_reducible refine bcase_true ?_
             | with_reducible refine bcase_false ?_
             | with_reducible refine bcase_intro (fun _ => ?_) (fun _ => ?_)
             | with_reducible refine len_kids (fun _ => ?_)
             | with_reducible refine at_known (by assumption) (by omega) ?_
             | with_reducible refine at_kid (by omega) (by omega) (fun _ _ _ => ?_)
             | with_reducible refine tail_kids (by omega) (by omega) ?_
             | with_reducible refine slice_kids (by omega) (by omega) (by omega) ?_
             | with_reducible refine ex_wrap (by omega) (by omega) ?_
             | with_reducible refine quo_step (by decide) (by omega) (by omega) ?_
             | with_reducible refine rem_step (by decide) ?_
             | with_reducible refine nil_row (fun _ => ?_) ?_
             | with_reducible refine nil_row2 (fun _ => ?_) ?_
             | with_reducible refine len_toks (fun _ => ?_)
             | with_reducible refine len_ints (fun _ => ?_)
             | with_reducible refine tok_known (by assumption) (by omega) ?_
             | with_reducible refine at_tok (by omega) (by omega) (fun _ _ => ?_)
             | with_reducible refine at_int (by omega) (by omega) (fun _ _ => ?_)
             | with_reducible refine slice_ints (by omega) (by omega) (by omega) ?_
             | with_reducible refine draw_head ?_)
  all_goals exact finw rfl h
theorem small_c {s : Sta} {v : Bool} (hv : v = (decide (s.toks.length ≤ 2000) && decide (s.opn.length ≤ 2000))) (h : R (.ret (.bool v)) st) : PC 9 [encS s] st R := by
  refine pcalls_of_body tys_ok [] Try.func9 rfl (by decide) ?_
  repeat' (conv => whnf
           first
             | with_reducible refine bcase_yes rfl ?_
             | with_reducible refine bcase_tok ?_
             | with_reducible refine bcase_tokn ?_
             | with_reducible refine int_known (by assumption) (by omega) ?_
             | with_reducible exact quiet_same
             | with_reducible exact quiet_bool
             | with_reducible exact quiet_not
             | with_reducible refine draw_step (by kernel_rfl) ?_
             | with_reducible refine quiet_go ?_ ?_ ?_
             | with_reducible refine bcase_yes (by first | assumption | omega) ?_
             | with_reducible refine bcase_no (by first | assumption | omega) ?_
             | with_reducible refine bcase_dyes (by omega) ?_
             | with_reducible refine bcase_dno (by omega) ?_
             | with_reducible refine bcase_len (by decide) (fun _ => ?_) (fun _ => ?_)
             | with_reducible refine bcase_eq (fun _ => ?_) (fun _ => ?_)
             | with_reducible refine bcase_dec (fun _ => ?_) (fun _ => ?_)
             | with_reducible refine bcase_true ?_
             | with_reducible refine bcase_false ?_
             | with_reducible refine bcase_intro (fun _ => ?_) (fun _ => ?_)
             | with_reducible refine len_kids (fun _ => ?_)
             | with_reducible refine at_known (by assumption) (by omega) ?_
             | with_reducible refine at_kid (by omega) (by omega) (fun _ _ _ => ?_)
             | with_reducible refine tail_kids (by omega) (by omega) ?_
             | with_reducible refine slice_kids (by omega) (by omega) (by omega) ?_
             | with_reducible refine ex_wrap (by omega) (by omega) ?_
             | with_reducible refine quo_step (by decide) (by omega) (by omega) ?_
             | with_reducible refine rem_step (by decide) ?_
             | with_reducible refine nil_row (fun _ => ?_) ?_
             | with_reducible refine nil_row2 (fun _ => ?_) ?_
             | with_reducible refine len_toks (fun _ => ?_)
             | with_reducible refine len_ints (fun _ => ?_)
             | with_reducible refine tok_known (by assumption) (by omega) ?_
             | with_reducible refine at_tok (by omega) (by omega) (fun _ _ => ?_)
             | with_reducible refine at_int (by omega) (by omega) (fun _ _ => ?_)
             | with_reducible refine slice_ints (by omega) (by omega) (by omega) ?_
             | with_reducible refine draw_head ?_)
  all_goals conv => whnf
  all_goals (refine fin_bool h ?_; clear h; rw [hv])
  all_goals simp only [Bool.and_eq_true, decide_eq_true_eq, Bool.and_eq_false_iff, decide_eq_false_iff_not]
  all_goals omega
end
end Go.Proofs.Ytngbihfihdheoaa
