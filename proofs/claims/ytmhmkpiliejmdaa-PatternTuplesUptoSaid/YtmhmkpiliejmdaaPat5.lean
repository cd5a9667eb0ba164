/-
  PATTERNS, PART 5: the document's answer (ref12).
-/
import Derived.Test.YtmhmkpiliejmdaaPat4
set_option linter.unusedVariables false
set_option linter.unusedSimpArgs false
set_option pp.maxSteps 400
namespace Go.Proofs.Ytmhmkpiliejmdaa
open Go Go.Aw
section
variable {st : St} {R : Res → St → Prop}

def leafF (n : Nd) (k : Int) : Bool := n.kind == 1 && n.form == k
theorem isF_one {n : Nd} {k : Int} : isF n [k] = leafF n k := by
  simp only [isF, leafF, List.contains_cons, List.contains_nil, Bool.or_false]
theorem isF_two {n : Nd} {j k : Int} : isF n [j, k] = (leafF n j || leafF n k) := by
  simp only [isF, leafF, List.contains_cons, List.contains_nil, Bool.or_false]
  cases n.kind == 1 <;> rfl
theorem saidF_eq {n : Nd} {k : Int} {t : List UInt8} : saidF n k t = (leafF n k && n.text == t) := by simp [saidF, isF_one]

theorem namedF_eq {n : Nd} : namedF n = if n.kind = 3 ∧ n.kids.length = 3 ∧ n.kids[0]?.any (saidF · 15 [40]) = true ∧ n.kids[2]?.any (saidF · 15 [41]) = true then n.kids[1]? else none := by
  unfold namedF
  by_cases hk : n.kind = 3
  · rw [if_pos hk]
    by_cases h3 : n.kids.length = 3
    · have e2 : 3 - 1 = 2 := rfl
      simp only [framedF, h3, hk, true_and, e2]
      have e : (2 ≤ 3 ∧ n.kids[0]?.any (saidF · 15 [40]) = true ∧ n.kids[2]?.any (saidF · 15 [41]) = true) ↔ (n.kids[0]?.any (saidF · 15 [40]) = true ∧ n.kids[2]?.any (saidF · 15 [41]) = true) := ⟨fun h => h.2, fun h => ⟨by omega, h⟩⟩
      simp only [e]
      split
      · rename_i l hl
        split at hl
        · cases hl
          rename_i g
          rw [if_pos g, if_pos (by simp [h3])]
          simp [List.getElem?_take]
        · cases hl
      · rename_i hl
        split at hl
        · cases hl
        · rename_i g; rw [if_neg g]
    · rw [if_neg (fun h => h3 h.2.1)]
      cases hf : framedF n [40] [41] with
      | none => rfl
      | some l =>
        have := framed_len hf
        exact if_neg (by omega)
  · rw [if_neg hk, if_neg (fun h => hk h.1)]
theorem rleaf_c {n : Nd} {k : Int} (h : R (.ret (.bool (leafF n k))) st) : PC 29 [enc n, .int .i64 k] st R := by
  refine pcalls_of_body tys_ok [] Try.func29 rfl (by decide) ?_
  repeat' (conv => whnf
           first
             | with_reducible exact quiet_same
             | with_reducible exact quiet_bool
             | with_reducible exact quiet_not
             | with_reducible refine draw_step (by kernel_rfl) ?_
             | with_reducible refine quiet_go ?_ ?_ ?_
             | with_reducible refine bcase_len (by decide) (fun _ => ?_) (fun _ => ?_)
             | with_reducible refine bcase_eq (fun _ => ?_) (fun _ => ?_)
             | with_reducible refine bcase_dec (fun _ => ?_) (fun _ => ?_)
             | with_reducible refine bcase_true ?_
             | with_reducible refine bcase_false ?_
             | with_reducible refine bcase_intro (fun _ => ?_) (fun _ => ?_)
             | with_reducible refine len_kids (fun _ => ?_)
             | with_reducible refine at_known (by assumption) (by omega) ?_
             | with_reducible refine at_kid (by omega) (by omega) (fun _ _ _ => ?_)
             | with_reducible refine tail_kids (by omega) (by omega) ?_
             | with_reducible refine slice_kids (by omega) (by omega) (by omega) ?_
             | with_reducible refine ex_wrap (by omega) (by omega) ?_
             | with_reducible refine quo_step (by decide) (by omega) (by omega) ?_
             | with_reducible refine rem_step (by decide) ?_)
  all_goals conv => whnf
  all_goals (refine fin_bool h ?_; clear h; simp_all [leafF])
theorem rpunct_c {n : Nd} {t : List UInt8} (h : R (.ret (.bool (saidF n 15 t))) st) : PC 42 [enc n, .str t] st R := by
  refine pcalls_of_body tys_ok [] Try.func42 rfl (by decide) ?_
  repeat' (conv => whnf
           first
             | with_reducible exact quiet_same
             | with_reducible exact quiet_bool
             | with_reducible exact quiet_not
             | with_reducible refine draw_step (by kernel_rfl) ?_
             | with_reducible refine quiet_go ?_ ?_ ?_
             | with_reducible refine bcase_len (by decide) (fun _ => ?_) (fun _ => ?_)
             | with_reducible refine bcase_eq (fun _ => ?_) (fun _ => ?_)
             | with_reducible refine bcase_dec (fun _ => ?_) (fun _ => ?_)
             | with_reducible refine bcase_true ?_
             | with_reducible refine bcase_false ?_
             | with_reducible refine bcase_intro (fun _ => ?_) (fun _ => ?_)
             | with_reducible refine len_kids (fun _ => ?_)
             | with_reducible refine at_known (by assumption) (by omega) ?_
             | with_reducible refine at_kid (by omega) (by omega) (fun _ _ _ => ?_)
             | with_reducible refine tail_kids (by omega) (by omega) ?_
             | with_reducible refine slice_kids (by omega) (by omega) (by omega) ?_
             | with_reducible refine ex_wrap (by omega) (by omega) ?_
             | with_reducible refine quo_step (by decide) (by omega) (by omega) ?_
             | with_reducible refine rem_step (by decide) ?_
             | refine rleaf_c ?_)
  all_goals conv => whnf
  all_goals (refine fin_bool h ?_; clear h; simp_all [saidF_eq])
theorem rliteral_c {n : Nd} (h : R (.ret (.bool (isF n [11, 12, 13, 14]))) st) : PC 31 [enc n] st R := by
  refine pcalls_of_body tys_ok [] Try.func31 rfl (by decide) ?_
  repeat' (conv => whnf
           first
             | with_reducible exact quiet_same
             | with_reducible exact quiet_bool
             | with_reducible exact quiet_not
             | with_reducible refine draw_step (by kernel_rfl) ?_
             | with_reducible refine quiet_go ?_ ?_ ?_
             | with_reducible refine bcase_len (by decide) (fun _ => ?_) (fun _ => ?_)
             | with_reducible refine bcase_eq (fun _ => ?_) (fun _ => ?_)
             | with_reducible refine bcase_dec (fun _ => ?_) (fun _ => ?_)
             | with_reducible refine bcase_true ?_
             | with_reducible refine bcase_false ?_
             | with_reducible refine bcase_intro (fun _ => ?_) (fun _ => ?_)
             | with_reducible refine len_kids (fun _ => ?_)
             | with_reducible refine at_known (by assumption) (by omega) ?_
             | with_reducible refine at_kid (by omega) (by omega) (fun _ _ _ => ?_)
             | with_reducible refine tail_kids (by omega) (by omega) ?_
             | with_reducible refine slice_kids (by omega) (by omega) (by omega) ?_
             | with_reducible refine ex_wrap (by omega) (by omega) ?_
             | with_reducible refine quo_step (by decide) (by omega) (by omega) ?_
             | with_reducible refine rem_step (by decide) ?_
             | refine rleaf_c ?_)
  all_goals conv => whnf
  all_goals (refine fin_bool h ?_; clear h; simp_all [isF, leafF])
theorem rinner_c {n : Nd} (hs : ∀ x, namedF n = some x → R (.ret (.tup [enc x, .bool true])) st) (hn : namedF n = none → R (.ret (.tup [enc zeroN, .bool false])) st) : PC 53 [enc n] st R := by
  refine pcalls_of_body tys_ok [] Try.func53 rfl (by decide) ?_
  repeat' (conv => whnf
           first
             | with_reducible exact quiet_same
             | with_reducible exact quiet_bool
             | with_reducible exact quiet_not
             | with_reducible refine draw_step (by kernel_rfl) ?_
             | with_reducible refine quiet_go ?_ ?_ ?_
             | with_reducible refine bcase_len (by decide) (fun _ => ?_) (fun _ => ?_)
             | with_reducible refine bcase_eq (fun _ => ?_) (fun _ => ?_)
             | with_reducible refine bcase_dec (fun _ => ?_) (fun _ => ?_)
             | with_reducible refine bcase_true ?_
             | with_reducible refine bcase_false ?_
             | with_reducible refine bcase_intro (fun _ => ?_) (fun _ => ?_)
             | with_reducible refine len_kids (fun _ => ?_)
             | with_reducible refine at_known (by assumption) (by omega) ?_
             | with_reducible refine at_kid (by omega) (by omega) (fun _ _ _ => ?_)
             | with_reducible refine tail_kids (by omega) (by omega) ?_
             | with_reducible refine slice_kids (by omega) (by omega) (by omega) ?_
             | with_reducible refine ex_wrap (by omega) (by omega) ?_
             | with_reducible refine quo_step (by decide) (by omega) (by omega) ?_
             | with_reducible refine rem_step (by decide) ?_
             | refine rpunct_c ?_)
  all_goals conv => whnf
  all_goals try simp only [Int.toNat_zero, Int.toNat_one, Int.reduceToNat] at *
  all_goals first
    | exact finw rfl (hs _ (by clear hs hn; simp_all [namedF_eq]; done))
    | exact finw rfl (hn (by clear hs hn; simp_all [namedF_eq]; done))


theorem rvariable_c {n : Nd} (hs : ∀ t, variableF n = some t → R (.ret (.tup [.str t, .bool true])) st) (hn : variableF n = none → R (.ret (.tup [.str [], .bool false])) st) : PC 32 [enc n] st R := by
  refine pcalls_of_body tys_ok [] Try.func32 rfl (by decide) ?_
  repeat' (conv => whnf
           first
             | with_reducible exact quiet_same
             | with_reducible exact quiet_bool
             | with_reducible exact quiet_not
             | with_reducible refine draw_step (by kernel_rfl) ?_
             | with_reducible refine quiet_go ?_ ?_ ?_
             | with_reducible refine bcase_len (by decide) (fun _ => ?_) (fun _ => ?_)
             | with_reducible refine bcase_eq (fun _ => ?_) (fun _ => ?_)
             | with_reducible refine bcase_dec (fun _ => ?_) (fun _ => ?_)
             | with_reducible refine bcase_true ?_
             | with_reducible refine bcase_false ?_
             | with_reducible refine bcase_intro (fun _ => ?_) (fun _ => ?_)
             | with_reducible refine len_kids (fun _ => ?_)
             | with_reducible refine at_known (by assumption) (by omega) ?_
             | with_reducible refine at_kid (by omega) (by omega) (fun _ _ _ => ?_)
             | with_reducible refine tail_kids (by omega) (by omega) ?_
             | with_reducible refine slice_kids (by omega) (by omega) (by omega) ?_
             | with_reducible refine ex_wrap (by omega) (by omega) ?_
             | with_reducible refine quo_step (by decide) (by omega) (by omega) ?_
             | with_reducible refine rem_step (by decide) ?_
             | refine rinner_c (fun l hl => ?_) (fun hl => ?_)
             | refine rleaf_c ?_)
  all_goals conv => whnf
  all_goals first
    | exact finw rfl (hs _ (by clear hs hn; simp_all [variableF, isF_one]; done))
    | exact finw rfl (hn (by clear hs hn; simp_all [variableF, isF_one]; done))

theorem rconOp_c {n : Nd} (h : R (.ret (.bool (makingF n))) st) : PC 54 [enc n] st R := by
  refine pcalls_of_body tys_ok [] Try.func54 rfl (by decide) ?_
  repeat' (conv => whnf
           first
             | with_reducible exact quiet_same
             | with_reducible exact quiet_bool
             | with_reducible exact quiet_not
             | with_reducible refine draw_step (by kernel_rfl) ?_
             | with_reducible refine quiet_go ?_ ?_ ?_
             | with_reducible refine bcase_len (by decide) (fun _ => ?_) (fun _ => ?_)
             | with_reducible refine bcase_eq (fun _ => ?_) (fun _ => ?_)
             | with_reducible refine bcase_dec (fun _ => ?_) (fun _ => ?_)
             | with_reducible refine bcase_true ?_
             | with_reducible refine bcase_false ?_
             | with_reducible refine bcase_intro (fun _ => ?_) (fun _ => ?_)
             | with_reducible refine len_kids (fun _ => ?_)
             | with_reducible refine at_known (by assumption) (by omega) ?_
             | with_reducible refine at_kid (by omega) (by omega) (fun _ _ _ => ?_)
             | with_reducible refine tail_kids (by omega) (by omega) ?_
             | with_reducible refine slice_kids (by omega) (by omega) (by omega) ?_
             | with_reducible refine ex_wrap (by omega) (by omega) ?_
             | with_reducible refine quo_step (by decide) (by omega) (by omega) ?_
             | with_reducible refine rem_step (by decide) ?_
             | refine rleaf_c ?_)
  all_goals conv => whnf
  all_goals (refine fin_bool h ?_; clear h; simp_all [makingF, isF_two, saidF_eq])

theorem rmaker_c {n : Nd} (h : R (.ret (.bool (makerF n))) st) : PC 30 [enc n] st R := by
  refine pcalls_of_body tys_ok [] Try.func30 rfl (by decide) ?_
  repeat' (conv => whnf
           first
             | with_reducible exact quiet_same
             | with_reducible exact quiet_bool
             | with_reducible exact quiet_not
             | with_reducible refine draw_step (by kernel_rfl) ?_
             | with_reducible refine quiet_go ?_ ?_ ?_
             | with_reducible refine bcase_len (by decide) (fun _ => ?_) (fun _ => ?_)
             | with_reducible refine bcase_eq (fun _ => ?_) (fun _ => ?_)
             | with_reducible refine bcase_dec (fun _ => ?_) (fun _ => ?_)
             | with_reducible refine bcase_true ?_
             | with_reducible refine bcase_false ?_
             | with_reducible refine bcase_intro (fun _ => ?_) (fun _ => ?_)
             | with_reducible refine len_kids (fun _ => ?_)
             | with_reducible refine at_known (by assumption) (by omega) ?_
             | with_reducible refine at_kid (by omega) (by omega) (fun _ _ _ => ?_)
             | with_reducible refine tail_kids (by omega) (by omega) ?_
             | with_reducible refine slice_kids (by omega) (by omega) (by omega) ?_
             | with_reducible refine ex_wrap (by omega) (by omega) ?_
             | with_reducible refine quo_step (by decide) (by omega) (by omega) ?_
             | with_reducible refine rem_step (by decide) ?_
             | refine rinner_c (fun l hl => ?_) (fun hl => ?_)
             | refine rleaf_c ?_
             | refine rconOp_c ?_)
  all_goals conv => whnf
  all_goals (refine fin_bool h ?_; clear h; simp_all [makerF, isF_two])

/-- of an Oper: whether it makes values, or may be bound; and its name -/
def roperF (n : Nd) : Int × List UInt8 :=
  if n.kind = 18 ∧ makesF n = true then (1, (operatorF n).1.text) else match boundF n with | some t => (2, t) | none => (0, [])
theorem fin_roper {f : Int × List UInt8} {t : List UInt8} {b : Int} (h : f = (b, t)) : Res.ret (.tup [.int .i64 f.1, .str f.2]) = (Res.ret (.tup [.int .i64 b, .str t])).wk := by subst h; rfl

theorem quoted_eq {n x y z : Nd} (h0 : n.kids[0]? = some x) (h1 : n.kids[1]? = some y) (h2 : n.kids[2]? = some z) (hl : n.kids.length = 3) (h : saidF x 15 [96] = true) (k : saidF z 15 [96] = true) (hk : n.kind = 18) : operatorF n = (y, true) := by
  obtain ⟨_, e0⟩ := List.getElem?_eq_some_iff.1 h0
  obtain ⟨_, e1⟩ := List.getElem?_eq_some_iff.1 h1
  obtain ⟨_, e2⟩ := List.getElem?_eq_some_iff.1 h2
  have : framedF n [96] [96] = some ((n.kids.take 2).drop 1) := by
    simp [framedF, hl, e0, e2, h, k]
  simp [operatorF, hk, hl, this, e1]
theorem unquoted_eq {n x z : Nd} (h0 : n.kids[0]? = some x) (h2 : n.kids[2]? = some z) (hl : n.kids.length = 3) (h : ¬ (saidF x 15 [96] = true ∧ saidF z 15 [96] = true)) : operatorF n = (zeroN, false) := by
  have : framedF n [96] [96] = none := by
    simp only [framedF, hl, h0]
    rw [if_neg]
    rintro ⟨_, g1, g2⟩
    simp only [h2, Option.any_some, show 3 - 1 = 2 from rfl] at g1 g2
    exact h ⟨g1, g2⟩
  simp [operatorF, hl, this]
theorem zero_op : makingF zeroN = false ∧ isF zeroN [2, 4] = false ∧ isF zeroN [1] = false ∧ isF zeroN [5] = false := ⟨rfl, rfl, rfl, rfl⟩
theorem roperator_c {n : Nd} (h : R (.ret (.tup [.int .i64 (roperF n).1, .str (roperF n).2])) st) : PC 43 [enc n] st R := by
  refine pcalls_of_body tys_ok [] Try.func43 rfl (by decide) ?_
  repeat' (conv => whnf
           first
             | with_reducible exact quiet_same
             | with_reducible exact quiet_bool
             | with_reducible exact quiet_not
             | with_reducible refine draw_step (by kernel_rfl) ?_
             | with_reducible refine quiet_go ?_ ?_ ?_
             | with_reducible refine bcase_len (by decide) (fun _ => ?_) (fun _ => ?_)
             | with_reducible refine bcase_eq (fun _ => ?_) (fun _ => ?_)
             | with_reducible refine bcase_dec (fun _ => ?_) (fun _ => ?_)
             | with_reducible refine bcase_true ?_
             | with_reducible refine bcase_false ?_
             | with_reducible refine bcase_intro (fun _ => ?_) (fun _ => ?_)
             | with_reducible refine len_kids (fun _ => ?_)
             | with_reducible refine at_known (by assumption) (by omega) ?_
             | with_reducible refine at_kid (by omega) (by omega) (fun _ _ _ => ?_)
             | with_reducible refine tail_kids (by omega) (by omega) ?_
             | with_reducible refine slice_kids (by omega) (by omega) (by omega) ?_
             | with_reducible refine ex_wrap (by omega) (by omega) ?_
             | with_reducible refine quo_step (by decide) (by omega) (by omega) ?_
             | with_reducible refine rem_step (by decide) ?_
             | refine rconOp_c ?_
             | refine rleaf_c ?_
             | refine rpunct_c ?_)
  all_goals conv => whnf
  all_goals (refine finw ?_ h; clear h; refine fin_roper ?_)
  all_goals try simp only [Int.toNat_zero, Int.toNat_one, Int.reduceToNat] at *
  · rename_i x hx _ hm
    have e : operatorF n = (x, false) := by simp_all [operatorF]
    simp_all [roperF, makesF]
  · rename_i x hx _ hm ho
    have e : operatorF n = (x, false) := by simp_all [operatorF]
    simp_all [roperF, makesF, boundF, isF_one]
  · rename_i x hx _ hm ho
    have e : operatorF n = (x, false) := by simp_all [operatorF]
    simp_all [roperF, makesF, boundF, isF_one]
  all_goals try (have e := quoted_eq ‹n.kids[0]? = _› ‹n.kids[1]? = _› ‹n.kids[2]? = _› ‹_› (by assumption) (by assumption) ‹_›; simp_all [roperF, makesF, boundF, isF_one, isF_two]; done)
  · have e := unquoted_eq ‹n.kids[0]? = _› ‹n.kids[2]? = _› ‹_› (by simp_all)
    simp [roperF, makesF, boundF, e, zero_op]
  · have hl : n.kids.length = 3 := ‹_›
    have e := unquoted_eq (n := n) ‹n.kids[0]? = _› (List.getElem?_eq_getElem (by omega)) hl (by simp_all)
    simp [roperF, makesF, boundF, e, zero_op]
  · have e : operatorF n = (zeroN, false) := by simp_all [operatorF]
    simp [roperF, makesF, boundF, e, zero_op]
  · have e : operatorF n = (zeroN, false) := by simp_all [operatorF]
    simp [roperF, makesF, boundF, e, zero_op]

end
end Go.Proofs.Ytmhmkpiliejmdaa
