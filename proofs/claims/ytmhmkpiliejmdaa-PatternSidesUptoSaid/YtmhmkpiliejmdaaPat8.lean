/-
  PATTERNS, PART 8: the laws' own functions.
-/
import Derived.Test.YtmhmkpiliejmdaaPat7
set_option linter.unusedVariables false
set_option linter.unusedSimpArgs false
set_option pp.maxSteps 400
namespace Go.Proofs.Ytmhmkpiliejmdaa
open Go Go.Aw
section
variable {st : St} {R : Res → St → Prop}

def leafN (k : Int) (t : List UInt8) : Nd := .mk 1 k t 0 0 []
theorem leaf_c {k : Int} {t : List UInt8} (h : R (.ret (enc (leafN k t))) st) : PC 13 [.int .i64 k, .str t] st R := by
  refine pcalls_of_body tys_ok [] Try.func13 rfl (by decide) ?_
  conv => whnf
  exact finw rfl h

theorem strs_length {l : List (List UInt8)} : (strs l).length = l.length := by simp [strs]
theorem strs_get {l : List (List UInt8)} {i : Nat} : (strs l)[i]? = l[i]?.map fun s => [V.str s] := by simp [strs]
theorem same_c {a b : List (List UInt8)} {o o' : Own} (h : R (.ret (.bool (a == b))) st) : PC 15 [.slice 1 (strs a) o, .slice 1 (strs b) o'] st R := by
  refine pcalls_of_body tys_ok [] Try.func15 rfl (by decide) ?_
  intro m hm hml m' hm' hml'
  rw [strs_length] at hm hm'
  subst hm hm'
  conv => whnf
  refine bcase_eq (fun hl => ?_) (fun hl => ?_)
  · refine loop_n 5 [0, 1] a.length (fun k => k ≤ a.length ∧ a.take k = b.take k) ⟨Nat.zero_le _, rfl⟩ (by refine ⟨rfl, ?_, ?_, rfl⟩ <;> repeat' (first | exact trivial | exact rfl | refine And.intro ?_ ?_)) ?_
    rintro k ⟨hk, hi⟩
    intro m hm hml
    rw [strs_length] at hm
    subst hm
    conv => whnf
    simp only [lim] at hml
    refine bcase_dec (fun hlt => ?_) (fun hlt => ?_)
    · obtain ⟨x, hx⟩ : ∃ x, a[k]? = some x := ⟨_, List.getElem?_eq_getElem (by omega)⟩
      obtain ⟨y, hy⟩ : ∃ y, b[k]? = some y := ⟨_, List.getElem?_eq_getElem (by omega)⟩
      have hx' : (strs a)[(k : Int).toNat]? = some [V.str x] := by rw [Int.toNat_natCast, strs_get, hx]; rfl
      have hy' : (strs b)[(k : Int).toNat]? = some [V.str y] := by rw [Int.toNat_natCast, strs_get, hy]; rfl
      repeat' (conv => whnf
               first
                 | with_reducible exact quiet_same
                 | with_reducible exact quiet_bool
                 | with_reducible exact quiet_not
                 | with_reducible refine draw_step (by kernel_rfl) ?_
                 | with_reducible refine quiet_go ?_ ?_ ?_
                 | with_reducible refine bcase_len (by decide) (fun _ => ?_) (fun _ => ?_)
                 | with_reducible refine bcase_eq (fun _ => ?_) (fun _ => ?_)
                 | with_reducible refine bcase_dec (fun _ => ?_) (fun _ => ?_)
                 | with_reducible refine bcase_true ?_
                 | with_reducible refine bcase_false ?_
                 | with_reducible refine bcase_intro (fun _ => ?_) (fun _ => ?_)
                 | with_reducible refine len_kids (fun _ => ?_)
                 | with_reducible refine at_known (by assumption) (by omega) ?_
                 | with_reducible refine at_kid (by omega) (by omega) (fun _ _ _ => ?_)
                 | with_reducible refine tail_kids (by omega) (by omega) ?_
                 | with_reducible refine slice_kids (by omega) (by omega) (by omega) ?_
                 | with_reducible refine ex_wrap (by omega) (by omega) ?_
                 | with_reducible refine quo_step (by decide) (by omega) (by omega) ?_
                 | with_reducible refine rem_step (by decide) ?_
                 | refine el_known (by assumption) (by omega) ?_)
      all_goals conv => whnf
      · refine fin_bool h ?_
        rw [beq_eq_false_iff_ne]
        rintro rfl
        rw [hx] at hy
        cases hy
        simp_all
      · refine ⟨k + 1, ⟨by omega, ?_⟩, by omega, (by refine ⟨rfl, ?_, ?_, rfl⟩ <;> repeat' (first | exact trivial | exact rfl | refine And.intro ?_ ?_)), St.le_refl _⟩
        have : x = y := by simp_all
        subst this
        rw [List.take_add_one, List.take_add_one, hi, hx, hy]
    · refine fin_bool h ?_
      rw [List.take_of_length_le (by omega), List.take_of_length_le (by omega)] at hi
      subst hi
      simp
  · refine fin_bool h ?_
    rw [beq_eq_false_iff_ne]
    intro e
    exact hl (by rw [e])

def consN : Nd := .mk 17 0 [] 0 0 [leafN 1 [120], .mk 18 0 [] 0 0 [leafN 10 [58]], leafN 1 [120, 115]]
def plusN : Nd := .mk 17 0 [] 0 0 [leafN 1 [120], .mk 18 0 [] 0 0 [leafN 5 [43]], leafN 1 [121]]
theorem cons_names : namesE consN = ([[120], [120, 115]], 0) := by decide
theorem plus_lhs : lhsF plusN = (1, [43], 0) := by decide
theorem plus_check : checkF plusN = 120 := by decide
theorem cons_c (h : R (.ret (.tup [.slice 1 (strs [[120], [120, 115]]) .any, .int .i64 0])) st) : PC 14 [enc consN] st R :=
  names_all (by decide) (by rw [cons_names]; exact h)
theorem plus_c (h : R (.ret (.tup [.int .i64 1, .str [43], .int .i64 0])) st) : PC 11 [enc plusN] st R :=
  lhs_c (by rw [plus_lhs]; exact h)
theorem plus_check_c (h : R (.ret (.int .i64 120)) st) : PC 9 [enc plusN] st R :=
  check_c (by rw [plus_check]; exact h)
theorem same_true {a : List (List UInt8)} {o o' : Own} (h : R (.ret (.bool true)) st) : PC 15 [.slice 1 (strs a) o, .slice 1 (strs a) o'] st R :=
  same_c (by rw [beq_self_eq_true]; exact h)
theorem awake_c (h : R (.ret (.bool true)) st) : PC 8 [] st R := by
  refine pcalls_of_body tys_ok [] Try.func8 rfl (by decide) ?_
  repeat' (conv => whnf
           first
             | with_reducible exact quiet_same
             | with_reducible exact quiet_bool
             | with_reducible exact quiet_not
             | with_reducible refine draw_step (by kernel_rfl) ?_
             | with_reducible refine quiet_go ?_ ?_ ?_
             | with_reducible refine bcase_len (by decide) (fun _ => ?_) (fun _ => ?_)
             | with_reducible refine bcase_eq (fun _ => ?_) (fun _ => ?_)
             | with_reducible refine bcase_dec (fun _ => ?_) (fun _ => ?_)
             | with_reducible refine bcase_true ?_
             | with_reducible refine bcase_false ?_
             | with_reducible refine bcase_intro (fun _ => ?_) (fun _ => ?_)
             | with_reducible refine len_kids (fun _ => ?_)
             | with_reducible refine at_known (by assumption) (by omega) ?_
             | with_reducible refine at_kid (by omega) (by omega) (fun _ _ _ => ?_)
             | with_reducible refine tail_kids (by omega) (by omega) ?_
             | with_reducible refine slice_kids (by omega) (by omega) (by omega) ?_
             | with_reducible refine ex_wrap (by omega) (by omega) ?_
             | with_reducible refine quo_step (by decide) (by omega) (by omega) ?_
             | with_reducible refine rem_step (by decide) ?_
             | refine leaf_c ?_
             | refine pcalls_wk (by rfl) (cons_c ?_)
             | refine pcalls_wk (by rfl) (plus_c ?_)
             | refine pcalls_wk (by rfl) (plus_check_c ?_)
             | refine same_true (a := [[120], [120, 115]]) ?_)
  all_goals try conv => whnf
  all_goals first | exact fin h rfl | (exfalso; simp_all; done)

theorem lawChecks_c {n : Nd} (hl : n.size ≤ 1000000000) (h : R (.ret (.bool true)) st) : PC 3 [enc n] st R := by
  refine pcalls_of_body tys_ok [] Try.func3 rfl (by decide) ?_
  repeat' (conv => whnf
           first
             | with_reducible exact quiet_same
             | with_reducible exact quiet_bool
             | with_reducible exact quiet_not
             | with_reducible refine draw_step (by kernel_rfl) ?_
             | with_reducible refine quiet_go ?_ ?_ ?_
             | with_reducible refine bcase_len (by decide) (fun _ => ?_) (fun _ => ?_)
             | with_reducible refine bcase_eq (fun _ => ?_) (fun _ => ?_)
             | with_reducible refine bcase_dec (fun _ => ?_) (fun _ => ?_)
             | with_reducible refine bcase_true ?_
             | with_reducible refine bcase_false ?_
             | with_reducible refine bcase_intro (fun _ => ?_) (fun _ => ?_)
             | with_reducible refine len_kids (fun _ => ?_)
             | with_reducible refine at_known (by assumption) (by omega) ?_
             | with_reducible refine at_kid (by omega) (by omega) (fun _ _ _ => ?_)
             | with_reducible refine tail_kids (by omega) (by omega) ?_
             | with_reducible refine slice_kids (by omega) (by omega) (by omega) ?_
             | with_reducible refine ex_wrap (by omega) (by omega) ?_
             | with_reducible refine quo_step (by decide) (by omega) (by omega) ?_
             | with_reducible refine rem_step (by decide) ?_
             | refine awake_c ?_
             | refine check_c (n := n) ?_
             | refine rcheck_c (n := n) hl ?_)
  all_goals try conv => whnf
  all_goals first | exact fin h rfl | exact absurd rfl (by assumption)
theorem lawSides_c {n : Nd} (hl : n.size ≤ 1000000000) (h : R (.ret (.bool true)) st) : PC 4 [enc n] st R := by
  refine pcalls_of_body tys_ok [] Try.func4 rfl (by decide) ?_
  repeat' (conv => whnf
           first
             | with_reducible exact quiet_same
             | with_reducible exact quiet_bool
             | with_reducible exact quiet_not
             | with_reducible refine draw_step (by kernel_rfl) ?_
             | with_reducible refine quiet_go ?_ ?_ ?_
             | with_reducible refine bcase_len (by decide) (fun _ => ?_) (fun _ => ?_)
             | with_reducible refine bcase_eq (fun _ => ?_) (fun _ => ?_)
             | with_reducible refine bcase_dec (fun _ => ?_) (fun _ => ?_)
             | with_reducible refine bcase_true ?_
             | with_reducible refine bcase_false ?_
             | with_reducible refine bcase_intro (fun _ => ?_) (fun _ => ?_)
             | with_reducible refine len_kids (fun _ => ?_)
             | with_reducible refine at_known (by assumption) (by omega) ?_
             | with_reducible refine at_kid (by omega) (by omega) (fun _ _ _ => ?_)
             | with_reducible refine tail_kids (by omega) (by omega) ?_
             | with_reducible refine slice_kids (by omega) (by omega) (by omega) ?_
             | with_reducible refine ex_wrap (by omega) (by omega) ?_
             | with_reducible refine quo_step (by decide) (by omega) (by omega) ?_
             | with_reducible refine rem_step (by decide) ?_
             | refine awake_c ?_
             | refine lhs_c (n := n) ?_
             | refine rlhs_c (n := n) hl ?_)
  all_goals try conv => whnf
  all_goals first | exact fin h rfl | exact absurd rfl (by assumption)
end
end Go.Proofs.Ytmhmkpiliejmdaa
