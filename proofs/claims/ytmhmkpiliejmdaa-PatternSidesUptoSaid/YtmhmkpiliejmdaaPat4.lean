/-
  PATTERNS, PART 4: Check, Lhs, Names.
-/
import Derived.Test.YtmhmkpiliejmdaaPat3
set_option linter.unusedVariables false
set_option linter.unusedSimpArgs false
set_option pp.maxSteps 400
namespace Go.Proofs.Ytmhmkpiliejmdaa
open Go Go.Aw
section
variable {st : St} {R : Res → St → Prop}

def mayF (n : Nd) : Bool := mayK n.size n
theorem mayF_c {n : Nd} : Tells 16 mayF n := fun st R h => may_c n.size n (Nat.le_refl _) st R h

def checkF (n : Nd) : Int := if mayF n then 0 else 120
theorem check_c {n : Nd} (h : R (.ret (.int .i64 (checkF n))) st) : PC 9 [enc n] st R := by
  refine pcalls_of_body tys_ok [] Try.func9 rfl (by decide) ?_
  repeat' (conv => whnf
           first
             | with_reducible exact quiet_same
             | with_reducible exact quiet_bool
             | with_reducible exact quiet_not
             | with_reducible refine draw_step (by kernel_rfl) ?_
             | with_reducible refine quiet_go ?_ ?_ ?_
             | with_reducible refine bcase_len (by decide) (fun _ => ?_) (fun _ => ?_)
             | with_reducible refine bcase_eq (fun _ => ?_) (fun _ => ?_)
             | with_reducible refine bcase_dec (fun _ => ?_) (fun _ => ?_)
             | with_reducible refine bcase_true ?_
             | with_reducible refine bcase_false ?_
             | with_reducible refine bcase_intro (fun _ => ?_) (fun _ => ?_)
             | with_reducible refine len_kids (fun _ => ?_)
             | with_reducible refine at_known (by assumption) (by omega) ?_
             | with_reducible refine at_kid (by omega) (by omega) (fun _ _ _ => ?_)
             | with_reducible refine tail_kids (by omega) (by omega) ?_
             | with_reducible refine slice_kids (by omega) (by omega) (by omega) ?_
             | with_reducible refine ex_wrap (by omega) (by omega) ?_
             | with_reducible refine quo_step (by decide) (by omega) (by omega) ?_
             | with_reducible refine rem_step (by decide) ?_
             | refine mayF_c _ _ ?_)
  all_goals conv => whnf
  all_goals (refine fin h ?_; clear h; simp_all [checkF])

def lhsF (n : Nd) : Int × List UInt8 × Int :=
  if (funK n.size n).2 then (1, (funK n.size n).1, 0) else if mayF n then (2, [], 0) else (0, [], 120)
theorem fin_trip {f : Int × List UInt8 × Int} {t : List UInt8} {b c : Int} (h : f = (b, t, c)) : Res.ret (.tup [.int .i64 f.1, .str f.2.1, .int .i64 f.2.2]) = (Res.ret (.tup [.int .i64 b, .str t, .int .i64 c])).wk := by subst h; rfl
theorem lhs_c {n : Nd} (h : R (.ret (.tup [.int .i64 (lhsF n).1, .str (lhsF n).2.1, .int .i64 (lhsF n).2.2])) st) : PC 11 [enc n] st R := by
  refine pcalls_of_body tys_ok [] Try.func11 rfl (by decide) ?_
  repeat' (conv => whnf
           first
             | with_reducible exact quiet_same
             | with_reducible exact quiet_bool
             | with_reducible exact quiet_not
             | with_reducible refine draw_step (by kernel_rfl) ?_
             | with_reducible refine quiet_go ?_ ?_ ?_
             | with_reducible refine bcase_len (by decide) (fun _ => ?_) (fun _ => ?_)
             | with_reducible refine bcase_eq (fun _ => ?_) (fun _ => ?_)
             | with_reducible refine bcase_dec (fun _ => ?_) (fun _ => ?_)
             | with_reducible refine bcase_true ?_
             | with_reducible refine bcase_false ?_
             | with_reducible refine bcase_intro (fun _ => ?_) (fun _ => ?_)
             | with_reducible refine len_kids (fun _ => ?_)
             | with_reducible refine at_known (by assumption) (by omega) ?_
             | with_reducible refine at_kid (by omega) (by omega) (fun _ _ _ => ?_)
             | with_reducible refine tail_kids (by omega) (by omega) ?_
             | with_reducible refine slice_kids (by omega) (by omega) (by omega) ?_
             | with_reducible refine ex_wrap (by omega) (by omega) ?_
             | with_reducible refine quo_step (by decide) (by omega) (by omega) ?_
             | with_reducible refine rem_step (by decide) ?_
             | refine function_c _ n (Nat.le_refl _) _ _ ?_
             | refine mayF_c _ _ ?_)
  all_goals conv => whnf
  all_goals (refine finw ?_ h; clear h; refine fin_trip ?_; simp_all [lhsF])


def namesG (q : Nd → List (List UInt8)) (field : Bool) : Nat → List Nd → List (List UInt8)
  | _, [] => []
  | i, x :: r => (if 0 < i ∨ field = false then q x else []) ++ namesG q field (i + 1) r
def namesStep (q : Nd → List (List UInt8)) (n : Nd) : List (List UInt8) :=
  match variableF n with
  | some s => [s]
  | none => if n.kind = 18 ∨ n.kind = 19 then [] else namesG q (n.kind == 13) 0 n.kids
def TellsN (q : Nd → List (List UInt8)) (x : Nd) : Prop := ∀ (l : List (List UInt8)) (own : Own) (st : St) (R : Res → St → Prop), l.length + (q x).length ≤ 1000000000 → own.good st →
  (∀ own' : Own, own'.good st → R (.ret (.slice 1 (strs (l ++ q x)) own')) (own'.st st (l ++ q x).length)) → PC 20 [.slice 1 (strs l) own, enc x] (own.st st l.length) R
attribute [local irreducible] Go.Aw.appendTo
theorem names_step {q : Nd → List (List UInt8)} {n : Nd} (hq : ∀ x, x.size < n.size → TellsN q x) : TellsN (namesStep q) n := by
  intro l own st R hb ho h
  refine pcalls_of_body tys_ok [] Try.func20 rfl (by decide) ?_
  repeat' (conv => whnf
           first
             | with_reducible exact quiet_same
             | with_reducible exact quiet_bool
             | with_reducible exact quiet_not
             | with_reducible refine draw_step (by kernel_rfl) ?_
             | with_reducible refine quiet_go ?_ ?_ ?_
             | with_reducible refine bcase_len (by decide) (fun _ => ?_) (fun _ => ?_)
             | with_reducible refine bcase_eq (fun _ => ?_) (fun _ => ?_)
             | with_reducible refine bcase_dec (fun _ => ?_) (fun _ => ?_)
             | with_reducible refine bcase_true ?_
             | with_reducible refine bcase_false ?_
             | with_reducible refine bcase_intro (fun _ => ?_) (fun _ => ?_)
             | with_reducible refine len_kids (fun _ => ?_)
             | with_reducible refine at_known (by assumption) (by omega) ?_
             | with_reducible refine at_kid (by omega) (by omega) (fun _ _ _ => ?_)
             | with_reducible refine tail_kids (by omega) (by omega) ?_
             | with_reducible refine slice_kids (by omega) (by omega) (by omega) ?_
             | with_reducible refine ex_wrap (by omega) (by omega) ?_
             | with_reducible refine quo_step (by decide) (by omega) (by omega) ?_
             | with_reducible refine rem_step (by decide) ?_
             | refine variable_c (fun t ht => ?_) (fun ht => ?_)
             | refine strs_append (new := [_]) ho ?_ (fun own' ho' => ?_))
  · have e : namesStep q n = [t] := by simp [namesStep, ht]
    rw [e] at hb; exact hb
  · conv => whnf
    have e : namesStep q n = [t] := by simp [namesStep, ht]
    rw [e] at h
    exact fin (h own' ho') rfl
  · conv => whnf
    have e : namesStep q n = [] := by simp [namesStep, *]
    rw [e, List.append_nil] at h
    exact fin (h own ho) rfl
  · conv => whnf
    have e : namesStep q n = [] := by simp [namesStep, *]
    rw [e, List.append_nil] at h
    exact fin (h own ho) rfl
  · have e : namesStep q n = namesG q (n.kind == 13) 0 n.kids := by simp [namesStep, *]
    rw [e] at h hb
    conv => whnf
    refine loop_g (α := Nat × Own × List (List UInt8)) (fun x => [(31, .int .i64 (x.1 : Int)), (0, .slice 1 (strs x.2.2) x.2.1)]) [3, 29, 30] [0] (fun x => Own.st st x.2.2.length x.2.1)
      (fun x => x.1 ≤ n.kids.length ∧ Own.good st x.2.1 ∧ l ++ namesG q (n.kind == 13) 0 n.kids = x.2.2 ++ namesG q (n.kind == 13) x.1 (n.kids.drop x.1)) (fun x => n.kids.length - x.1) (0, own, l) ⟨Nat.zero_le _, ho, rfl⟩ (by refine ⟨rfl, ?_, ?_, rfl⟩ <;> repeat' (first | exact trivial | exact rfl | refine And.intro ?_ ?_)) (St.le_refl _) ?_
    rintro ⟨k, own1, acc⟩ ⟨hk, ho1, hi⟩
    simp only at hk ho1 hi
    have hlen := congrArg List.length hi
    simp only [List.length_append] at hlen
    repeat' (conv => whnf
             first
               | with_reducible exact quiet_same
               | with_reducible exact quiet_bool
               | with_reducible exact quiet_not
               | with_reducible refine draw_step (by kernel_rfl) ?_
               | with_reducible refine quiet_go ?_ ?_ ?_
               | with_reducible refine bcase_len (by decide) (fun _ => ?_) (fun _ => ?_)
               | with_reducible refine bcase_eq (fun _ => ?_) (fun _ => ?_)
               | with_reducible refine bcase_dec (fun _ => ?_) (fun _ => ?_)
               | with_reducible refine bcase_true ?_
               | with_reducible refine bcase_false ?_
               | with_reducible refine bcase_intro (fun _ => ?_) (fun _ => ?_)
               | with_reducible refine len_kids (fun _ => ?_)
               | with_reducible refine at_known (by assumption) (by omega) ?_
               | with_reducible refine at_kid (by omega) (by omega) (fun _ _ _ => ?_)
               | with_reducible refine tail_kids (by omega) (by omega) ?_
               | with_reducible refine slice_kids (by omega) (by omega) (by omega) ?_
               | with_reducible refine ex_wrap (by omega) (by omega) ?_
               | with_reducible refine quo_step (by decide) (by omega) (by omega) ?_
               | with_reducible refine rem_step (by decide) ?_
               | refine hq _ (size_kid (by assumption)) acc own1 st _ ?_ ho1 (fun own2 ho2 => ?_))
    all_goals try conv => whnf
    all_goals try (have e := drop_at ‹n.kids[_]? = some _›; simp only [Int.toNat_natCast] at e; rw [e, namesG] at hi hlen; clear e)
    all_goals simp only [Int.toNat_natCast] at *
    · rw [if_pos (.inl (by omega))] at hlen
      rw [List.length_append] at hlen
      show acc.length + _ ≤ 1000000000
      omega
    · refine ⟨(k + 1, own2, acc ++ _), ⟨by show k + 1 ≤ _; omega, ho2, ?_⟩, by show _ - (k + 1) < _ - k; omega, (by refine ⟨rfl, ?_, ?_, rfl⟩ <;> repeat' (first | exact trivial | exact rfl | refine And.intro ?_ ?_)), St.le_refl _⟩
      rw [if_pos (.inl (by omega))] at hi
      rw [hi, List.append_assoc]
    · refine ⟨(k + 1, own1, acc), ⟨by show k + 1 ≤ _; omega, ho1, ?_⟩, by show _ - (k + 1) < _ - k; omega, (by refine ⟨rfl, ?_, ?_, rfl⟩ <;> repeat' (first | exact trivial | exact rfl | refine And.intro ?_ ?_)), St.le_refl _⟩
      rw [if_neg (by rintro (g | g) <;> first | omega | simp_all)] at hi
      rw [hi]; rfl
    · have g : (n.kind == 13) = false := by simp_all
      rw [if_pos (.inr g), List.length_append] at hlen
      show acc.length + _ ≤ 1000000000
      omega
    · refine ⟨(k + 1, own2, acc ++ _), ⟨by show k + 1 ≤ _; omega, ho2, ?_⟩, by show _ - (k + 1) < _ - k; omega, (by refine ⟨rfl, ?_, ?_, rfl⟩ <;> repeat' (first | exact trivial | exact rfl | refine And.intro ?_ ?_)), St.le_refl _⟩
      have g : (n.kind == 13) = false := by simp_all
      rw [if_pos (.inr g)] at hi
      rw [hi, List.append_assoc]
    · rw [List.drop_eq_nil_of_le (by omega), namesG, List.append_nil] at hi
      rw [hi] at h
      exact fin (h own1 ho1) rfl


def namesK : Nat → Nd → List (List UInt8)
  | 0, _ => []
  | k + 1, n => namesStep (namesK k) n
theorem names_c : ∀ (k : Nat) (n : Nd), n.size ≤ k → TellsN (namesK k) n
  | 0, n, h => by have := size_pos n; omega
  | k + 1, n, h => names_step fun x hx => names_c k x (by omega)

def namesE (n : Nd) : List (List UInt8) × Int := if mayF n then (namesK n.size n, 0) else ([], 120)
theorem names_all {n : Nd} (hb : (namesK n.size n).length ≤ 1000000000) (h : R (.ret (.tup [.slice 1 (strs (namesE n).1) .any, .int .i64 (namesE n).2])) st) : PC 14 [enc n] st R := by
  refine pcalls_of_body tys_ok [] Try.func14 rfl (by decide) ?_
  repeat' (conv => whnf
           first
             | with_reducible exact quiet_same
             | with_reducible exact quiet_bool
             | with_reducible exact quiet_not
             | with_reducible refine draw_step (by kernel_rfl) ?_
             | with_reducible refine quiet_go ?_ ?_ ?_
             | with_reducible refine bcase_len (by decide) (fun _ => ?_) (fun _ => ?_)
             | with_reducible refine bcase_eq (fun _ => ?_) (fun _ => ?_)
             | with_reducible refine bcase_dec (fun _ => ?_) (fun _ => ?_)
             | with_reducible refine bcase_true ?_
             | with_reducible refine bcase_false ?_
             | with_reducible refine bcase_intro (fun _ => ?_) (fun _ => ?_)
             | with_reducible refine len_kids (fun _ => ?_)
             | with_reducible refine at_known (by assumption) (by omega) ?_
             | with_reducible refine at_kid (by omega) (by omega) (fun _ _ _ => ?_)
             | with_reducible refine tail_kids (by omega) (by omega) ?_
             | with_reducible refine slice_kids (by omega) (by omega) (by omega) ?_
             | with_reducible refine ex_wrap (by omega) (by omega) ?_
             | with_reducible refine quo_step (by decide) (by omega) (by omega) ?_
             | with_reducible refine rem_step (by decide) ?_
             | refine mayF_c _ _ ?_
             | refine names_c _ n (Nat.le_refl _) [] .full st _ ?_ trivial (fun own2 ho2 => ?_))
  all_goals try conv => whnf
  · show 0 + _ ≤ _
    omega
  · have e : namesE n = (namesK n.size n, 0) := by simp_all [namesE]
    rw [e] at h
    exact ⟨_, st, .inr rfl, Own.good_le ho2, h⟩
  · have e : namesE n = ([], 120) := by simp_all [namesE]
    rw [e] at h
    exact finw rfl h

end
end Go.Proofs.Ytmhmkpiliejmdaa
