/-
  PATTERNS: what the program's functions come to, as plain functions; and that they come to it.
-/
import Derived.Test.YtmhmkpiliejmdaaTy
import Derived.Test.YtmhmkpiliejmdaaNode
import Derived.IntWalk
set_option linter.unusedVariables false
set_option pp.maxSteps 400
namespace Go.Proofs.Ytmhmkpiliejmdaa
open Go Go.Aw

abbrev PC (f : FuncId) (args : List V) (st : St) (R : Res → St → Prop) : Prop := PCalls Try.prog f args st R

/-- slices.Index over numbers: where the first one lies, from a place on -/
def indexF (x : Int) : List Int → Int → Int
  | [], _ => -1
  | y :: r, i => if x = y then i else indexF x r (i + 1)
theorem indexF_neg {x : Int} : ∀ {l : List Int} {i : Int}, 0 ≤ i → (0 ≤ indexF x l i ↔ l.contains x = true)
  | [], i, h => by simp [indexF]
  | y :: r, i, h => by
    simp only [indexF]
    split
    · rename_i e; subst e; simp [h]
    · rename_i e
      rw [indexF_neg (by omega)]
      simp [e]

theorem index_c {kinds : List Int} {x : Int} {st : St} {R : Res → St → Prop} {own : Own} (h : R (.ret (.int .i64 (indexF x kinds 0))) st) : PC 56 [.slice 1 (ints kinds) own, .int .i64 x] st R := by
  refine pcalls_of_body tys_ok [] Try.func56 rfl (by decide) ?_
  have hlen : (ints kinds).length = kinds.length := by simp [ints]
  intro m hm hl
  rw [hlen] at hm
  subst hm
  conv => whnf
  refine ⟨Nat, fun k => { tmps := [(8, .int .i64 k), (7, .int .i64 kinds.length), (0, .slice 1 (ints kinds) own), (1, .int .i64 x)], boxes := [], nxt := 0, sz := 19, gl := [] }, fun _ => st,
    fun k => k ≤ kinds.length ∧ indexF x kinds 0 = indexF x (kinds.drop k) k, fun k => kinds.length - k, 0, ⟨Nat.zero_le _, rfl⟩, ⟨rfl, ⟨rfl, rfl, rfl, rfl, rfl, rfl, rfl, rfl, trivial⟩, trivial, rfl⟩, St.le_refl _, ?_⟩
  rintro k ⟨hk, hi⟩
  refine bcase_dec (fun h1 => ?_) (fun h1 => ?_)
  · have hlt : k < kinds.length := by omega
    have he : (ints kinds)[(k : Int).toNat]? = some [.int .i64 kinds[k]] := by simp [ints, hlt]
    refine ⟨by omega, _, he, ?_⟩
    have hd : indexF x (kinds.drop k) k = if x = kinds[k] then (k : Int) else indexF x (kinds.drop (k + 1)) (k + 1) := by
      rw [List.drop_eq_getElem_cons hlt]; rfl
    refine bcase_eq (fun h2 => ?_) (fun h2 => ?_)
    · exact fin h (by rw [hi, hd, if_pos h2])
    · refine ⟨((k + 1 : Nat) : Int), ?_, ?_⟩
      · simp only [lim] at hl
        rw [wrap_id (by omega) (by omega)]; rfl
      · refine ⟨k + 1, ⟨hlt, ?_⟩, by show kinds.length - (k + 1) < kinds.length - k; omega, ⟨rfl, ⟨rfl, rfl, rfl, rfl, rfl, rfl, rfl, rfl, trivial⟩, trivial, rfl⟩, St.le_refl _⟩
        rw [hi, hd, if_neg h2]; rfl
  · refine fin h ?_
    have : k = kinds.length := by omega
    rw [hi, this, List.drop_length]; rfl

section
variable {st : St} {R : Res → St → Prop}

theorem contains_c {kinds : List Int} {x : Int} {own : Own} (h : R (.ret (.bool (kinds.contains x))) st) : PC 45 [.slice 1 (ints kinds) own, .int .i64 x] st R := by
  refine pcalls_of_body tys_ok [] Try.func45 rfl (by decide) ?_
  refine index_c ?_
  have key := indexF_neg (x := x) (l := kinds) (i := 0) (by omega)
  refine bcase_dec (fun h1 => ?_) (fun h1 => ?_)
  · exact fin_bool h (key.1 h1)
  · refine fin_bool h ?_
    cases hc : kinds.contains x with
    | false => rfl
    | true => exact absurd (key.2 hc) h1

def isF (n : Nd) (kinds : List Int) : Bool := n.kind == 1 && kinds.contains n.form
theorem is_c {n : Nd} {kinds : List Int} {own : Own} (h : R (.ret (.bool (isF n kinds))) st) : PC 21 [enc n, .slice 1 (ints kinds) own] st R := by
  refine pcalls_of_body tys_ok [] Try.func21 rfl (by decide) ?_
  unfold isF at h
  repeat' (conv => whnf
           first
             | with_reducible exact quiet_same
             | with_reducible exact quiet_bool
             | with_reducible exact quiet_not
             | with_reducible refine draw_step (by kernel_rfl) ?_
             | with_reducible refine quiet_go ?_ ?_ ?_
             | with_reducible refine bcase_len (by decide) (fun _ => ?_) (fun _ => ?_)
             | with_reducible refine bcase_eq (fun _ => ?_) (fun _ => ?_)
             | with_reducible refine bcase_dec (fun _ => ?_) (fun _ => ?_)
             | with_reducible refine bcase_true ?_
             | with_reducible refine bcase_false ?_
             | with_reducible refine bcase_intro (fun _ => ?_) (fun _ => ?_)
             | with_reducible refine len_kids (fun _ => ?_)
             | with_reducible refine at_known (by assumption) (by omega) ?_
             | with_reducible refine at_kid (by omega) (by omega) (fun _ _ _ => ?_)
             | with_reducible refine tail_kids (by omega) (by omega) ?_
             | with_reducible refine slice_kids (by omega) (by omega) (by omega) ?_
             | with_reducible refine ex_wrap (by omega) (by omega) ?_
             | with_reducible refine quo_step (by decide) (by omega) (by omega) ?_
             | with_reducible refine rem_step (by decide) ?_
             | refine contains_c ?_)
  all_goals exact fin_bool h (by simp_all)

def saidF (n : Nd) (k : Int) (t : List UInt8) : Bool := isF n [k] && n.text == t
theorem said_c {n : Nd} {k : Int} {t : List UInt8} (h : R (.ret (.bool (saidF n k t))) st) : PC 22 [enc n, .int .i64 k, .str t] st R := by
  refine pcalls_of_body tys_ok [] Try.func22 rfl (by decide) ?_
  unfold saidF at h
  repeat' (conv => whnf
           first
             | with_reducible exact quiet_same
             | with_reducible exact quiet_bool
             | with_reducible exact quiet_not
             | with_reducible refine draw_step (by kernel_rfl) ?_
             | with_reducible refine quiet_go ?_ ?_ ?_
             | with_reducible refine bcase_len (by decide) (fun _ => ?_) (fun _ => ?_)
             | with_reducible refine bcase_eq (fun _ => ?_) (fun _ => ?_)
             | with_reducible refine bcase_dec (fun _ => ?_) (fun _ => ?_)
             | with_reducible refine bcase_true ?_
             | with_reducible refine bcase_false ?_
             | with_reducible refine bcase_intro (fun _ => ?_) (fun _ => ?_)
             | with_reducible refine len_kids (fun _ => ?_)
             | with_reducible refine at_known (by assumption) (by omega) ?_
             | with_reducible refine at_kid (by omega) (by omega) (fun _ _ _ => ?_)
             | with_reducible refine tail_kids (by omega) (by omega) ?_
             | with_reducible refine slice_kids (by omega) (by omega) (by omega) ?_
             | with_reducible refine ex_wrap (by omega) (by omega) ?_
             | with_reducible refine quo_step (by decide) (by omega) (by omega) ?_
             | with_reducible refine rem_step (by decide) ?_
             | refine is_c (kinds := [k]) ?_)
  all_goals exact fin_bool h (by simp_all)

def framedF (n : Nd) (o s : List UInt8) : Option (List Nd) :=
  if 2 ≤ n.kids.length ∧ n.kids[0]?.any (saidF · 15 o) = true ∧ n.kids[n.kids.length - 1]?.any (saidF · 15 s) = true then some ((n.kids.take (n.kids.length - 1)).drop 1) else none
theorem framed_c {n : Nd} {o s : List UInt8} (hs : ∀ l, framedF n o s = some l → R (.ret (.tup [.slice 6 (encs l) .any, .bool true])) st)
    (hn : framedF n o s = none → R (.ret (.tup [.slice 6 [] .any, .bool false])) st) : PC 38 [enc n, .str o, .str s] st R := by
  refine pcalls_of_body tys_ok [] Try.func38 rfl (by decide) ?_
  repeat' (conv => whnf
           first
             | with_reducible exact quiet_same
             | with_reducible exact quiet_bool
             | with_reducible exact quiet_not
             | with_reducible refine draw_step (by kernel_rfl) ?_
             | with_reducible refine quiet_go ?_ ?_ ?_
             | with_reducible refine bcase_len (by decide) (fun _ => ?_) (fun _ => ?_)
             | with_reducible refine bcase_eq (fun _ => ?_) (fun _ => ?_)
             | with_reducible refine bcase_dec (fun _ => ?_) (fun _ => ?_)
             | with_reducible refine bcase_true ?_
             | with_reducible refine bcase_false ?_
             | with_reducible refine bcase_intro (fun _ => ?_) (fun _ => ?_)
             | with_reducible refine len_kids (fun _ => ?_)
             | with_reducible refine at_known (by assumption) (by omega) ?_
             | with_reducible refine at_kid (by omega) (by omega) (fun _ _ _ => ?_)
             | with_reducible refine tail_kids (by omega) (by omega) ?_
             | with_reducible refine slice_kids (by omega) (by omega) (by omega) ?_
             | with_reducible refine ex_wrap (by omega) (by omega) ?_
             | with_reducible refine quo_step (by decide) (by omega) (by omega) ?_
             | with_reducible refine rem_step (by decide) ?_
             | refine said_c ?_)
  · exact fin_wk (hn (by simp [framedF]; omega)) rfl
  all_goals
    have e : ((n.kids.length : Int) - 1).toNat = n.kids.length - 1 := by omega
    simp only [e, Int.toNat_zero, Int.reduceToNat] at *
    first
      | exact fin_wk (hs _ (by simp_all [framedF]; omega)) rfl
      | exact fin_wk (hn (by simp_all [framedF])) rfl

theorem framed_len {n : Nd} {o s : List UInt8} {l : List Nd} (h : framedF n o s = some l) : l.length + 2 = n.kids.length := by
  simp only [framedF] at h
  split at h
  · rename_i g
    cases h
    simp only [List.length_drop, List.length_take]; omega
  · cases h
theorem framed_len_c {n : Nd} {o s : List UInt8} (hs : ∀ l, framedF n o s = some l → l.length + 2 = n.kids.length → R (.ret (.tup [.slice 6 (encs l) .any, .bool true])) st)
    (hn : framedF n o s = none → R (.ret (.tup [.slice 6 [] .any, .bool false])) st) : PC 38 [enc n, .str o, .str s] st R :=
  framed_c (fun l h => hs l h (framed_len h)) hn

def zeroN : Nd := .mk 0 0 [] 0 0 []

def makingF (n : Nd) : Bool := isF n [6, 8] || saidF n 10 [58]
theorem making_c {n : Nd} (h : R (.ret (.bool (makingF n))) st) : PC 51 [enc n] st R := by
  refine pcalls_of_body tys_ok [] Try.func51 rfl (by decide) ?_
  repeat' (conv => whnf
           first
             | with_reducible exact quiet_same
             | with_reducible exact quiet_bool
             | with_reducible exact quiet_not
             | with_reducible refine draw_step (by kernel_rfl) ?_
             | with_reducible refine quiet_go ?_ ?_ ?_
             | with_reducible refine bcase_len (by decide) (fun _ => ?_) (fun _ => ?_)
             | with_reducible refine bcase_eq (fun _ => ?_) (fun _ => ?_)
             | with_reducible refine bcase_dec (fun _ => ?_) (fun _ => ?_)
             | with_reducible refine bcase_true ?_
             | with_reducible refine bcase_false ?_
             | with_reducible refine bcase_intro (fun _ => ?_) (fun _ => ?_)
             | with_reducible refine len_kids (fun _ => ?_)
             | with_reducible refine at_known (by assumption) (by omega) ?_
             | with_reducible refine at_kid (by omega) (by omega) (fun _ _ _ => ?_)
             | with_reducible refine tail_kids (by omega) (by omega) ?_
             | with_reducible refine slice_kids (by omega) (by omega) (by omega) ?_
             | with_reducible refine ex_wrap (by omega) (by omega) ?_
             | with_reducible refine quo_step (by decide) (by omega) (by omega) ?_
             | with_reducible refine rem_step (by decide) ?_
             | refine is_c (kinds := [6, 8]) ?_
             | refine said_c ?_)
  all_goals conv => whnf
  all_goals (refine fin_bool h ?_; clear h; simp_all [makingF])

def namedF (n : Nd) : Option Nd := if n.kind = 3 then (match framedF n [40] [41] with | some l => if l.length = 1 then l[0]? else none | none => none) else none
theorem named_c {n : Nd} (hs : ∀ x, namedF n = some x → R (.ret (.tup [enc x, .bool true])) st) (hn : namedF n = none → R (.ret (.tup [enc zeroN, .bool false])) st) : PC 50 [enc n] st R := by
  refine pcalls_of_body tys_ok [] Try.func50 rfl (by decide) ?_
  repeat' (conv => whnf
           first
             | with_reducible exact quiet_same
             | with_reducible exact quiet_bool
             | with_reducible exact quiet_not
             | with_reducible refine draw_step (by kernel_rfl) ?_
             | with_reducible refine quiet_go ?_ ?_ ?_
             | with_reducible refine bcase_len (by decide) (fun _ => ?_) (fun _ => ?_)
             | with_reducible refine bcase_eq (fun _ => ?_) (fun _ => ?_)
             | with_reducible refine bcase_dec (fun _ => ?_) (fun _ => ?_)
             | with_reducible refine bcase_true ?_
             | with_reducible refine bcase_false ?_
             | with_reducible refine bcase_intro (fun _ => ?_) (fun _ => ?_)
             | with_reducible refine len_kids (fun _ => ?_)
             | with_reducible refine at_known (by assumption) (by omega) ?_
             | with_reducible refine at_kid (by omega) (by omega) (fun _ _ _ => ?_)
             | with_reducible refine tail_kids (by omega) (by omega) ?_
             | with_reducible refine slice_kids (by omega) (by omega) (by omega) ?_
             | with_reducible refine ex_wrap (by omega) (by omega) ?_
             | with_reducible refine quo_step (by decide) (by omega) (by omega) ?_
             | with_reducible refine rem_step (by decide) ?_
             | refine framed_c (fun l hl => ?_) (fun hl => ?_))
  all_goals conv => whnf
  all_goals first
    | exact finw rfl (hs _ (by clear hs hn; simp_all [namedF]))
    | exact finw rfl (hn (by clear hs hn; simp_all [namedF]))

def variableF (n : Nd) : Option (List UInt8) :=
  if isF n [1] then some n.text else match namedF n with | some x => if isF x [5] then some x.text else none | none => none
theorem variable_c {n : Nd} (hs : ∀ t, variableF n = some t → R (.ret (.tup [.str t, .bool true])) st) (hn : variableF n = none → R (.ret (.tup [.str [], .bool false])) st) : PC 39 [enc n] st R := by
  refine pcalls_of_body tys_ok [] Try.func39 rfl (by decide) ?_
  repeat' (conv => whnf
           first
             | with_reducible exact quiet_same
             | with_reducible exact quiet_bool
             | with_reducible exact quiet_not
             | with_reducible refine draw_step (by kernel_rfl) ?_
             | with_reducible refine quiet_go ?_ ?_ ?_
             | with_reducible refine bcase_len (by decide) (fun _ => ?_) (fun _ => ?_)
             | with_reducible refine bcase_eq (fun _ => ?_) (fun _ => ?_)
             | with_reducible refine bcase_dec (fun _ => ?_) (fun _ => ?_)
             | with_reducible refine bcase_true ?_
             | with_reducible refine bcase_false ?_
             | with_reducible refine bcase_intro (fun _ => ?_) (fun _ => ?_)
             | with_reducible refine len_kids (fun _ => ?_)
             | with_reducible refine at_known (by assumption) (by omega) ?_
             | with_reducible refine at_kid (by omega) (by omega) (fun _ _ _ => ?_)
             | with_reducible refine tail_kids (by omega) (by omega) ?_
             | with_reducible refine slice_kids (by omega) (by omega) (by omega) ?_
             | with_reducible refine ex_wrap (by omega) (by omega) ?_
             | with_reducible refine quo_step (by decide) (by omega) (by omega) ?_
             | with_reducible refine rem_step (by decide) ?_
             | refine named_c (fun l hl => ?_) (fun hl => ?_)
             | refine is_c (kinds := [1]) ?_
             | refine is_c (kinds := [5]) ?_)
  all_goals conv => whnf
  all_goals first
    | exact finw rfl (hs _ (by clear hs hn; simp_all [variableF]))
    | exact finw rfl (hn (by clear hs hn; simp_all [variableF]))

def makerF (n : Nd) : Bool := isF n [2, 4] || (match namedF n with | some x => makingF x | none => false)
theorem maker_c {n : Nd} (h : R (.ret (.bool (makerF n))) st) : PC 26 [enc n] st R := by
  refine pcalls_of_body tys_ok [] Try.func26 rfl (by decide) ?_
  repeat' (conv => whnf
           first
             | with_reducible exact quiet_same
             | with_reducible exact quiet_bool
             | with_reducible exact quiet_not
             | with_reducible refine draw_step (by kernel_rfl) ?_
             | with_reducible refine quiet_go ?_ ?_ ?_
             | with_reducible refine bcase_len (by decide) (fun _ => ?_) (fun _ => ?_)
             | with_reducible refine bcase_eq (fun _ => ?_) (fun _ => ?_)
             | with_reducible refine bcase_dec (fun _ => ?_) (fun _ => ?_)
             | with_reducible refine bcase_true ?_
             | with_reducible refine bcase_false ?_
             | with_reducible refine bcase_intro (fun _ => ?_) (fun _ => ?_)
             | with_reducible refine len_kids (fun _ => ?_)
             | with_reducible refine at_known (by assumption) (by omega) ?_
             | with_reducible refine at_kid (by omega) (by omega) (fun _ _ _ => ?_)
             | with_reducible refine tail_kids (by omega) (by omega) ?_
             | with_reducible refine slice_kids (by omega) (by omega) (by omega) ?_
             | with_reducible refine ex_wrap (by omega) (by omega) ?_
             | with_reducible refine quo_step (by decide) (by omega) (by omega) ?_
             | with_reducible refine rem_step (by decide) ?_
             | refine named_c (fun l hl => ?_) (fun hl => ?_)
             | refine is_c (kinds := [2, 4]) ?_
             | refine making_c ?_)
  all_goals conv => whnf
  all_goals (refine fin_bool h ?_; clear h; simp_all [makerF])

/-- the leaf of an operator, and whether it is quoted -/
def operatorF (n : Nd) : Nd × Bool :=
  if n.kind = 18 then (if n.kids.length = 1 then ((n.kids[0]?.getD zeroN), false) else if n.kids.length = 3 then (match framedF n [96] [96] with | some l => ((l[0]?.getD zeroN), true) | none => (zeroN, false)) else (zeroN, false)) else (zeroN, false)
theorem operator_c {n : Nd} (h : R (.ret (.tup [enc (operatorF n).1, .bool (operatorF n).2])) st) : PC 55 [enc n] st R := by
  refine pcalls_of_body tys_ok [] Try.func55 rfl (by decide) ?_
  repeat' (conv => whnf
           first
             | with_reducible exact quiet_same
             | with_reducible exact quiet_bool
             | with_reducible exact quiet_not
             | with_reducible refine draw_step (by kernel_rfl) ?_
             | with_reducible refine quiet_go ?_ ?_ ?_
             | with_reducible refine bcase_len (by decide) (fun _ => ?_) (fun _ => ?_)
             | with_reducible refine bcase_eq (fun _ => ?_) (fun _ => ?_)
             | with_reducible refine bcase_dec (fun _ => ?_) (fun _ => ?_)
             | with_reducible refine bcase_true ?_
             | with_reducible refine bcase_false ?_
             | with_reducible refine bcase_intro (fun _ => ?_) (fun _ => ?_)
             | with_reducible refine len_kids (fun _ => ?_)
             | with_reducible refine at_known (by assumption) (by omega) ?_
             | with_reducible refine at_kid (by omega) (by omega) (fun _ _ _ => ?_)
             | with_reducible refine tail_kids (by omega) (by omega) ?_
             | with_reducible refine slice_kids (by omega) (by omega) (by omega) ?_
             | with_reducible refine ex_wrap (by omega) (by omega) ?_
             | with_reducible refine quo_step (by decide) (by omega) (by omega) ?_
             | with_reducible refine rem_step (by decide) ?_
             | refine framed_len_c (fun l hl hk => ?_) (fun hl => ?_))
  all_goals conv => whnf
  all_goals refine finw ?_ h
  all_goals clear h
  all_goals simp_all [operatorF]
  all_goals rfl

def makesF (n : Nd) : Bool := if (operatorF n).2 then isF (operatorF n).1 [2, 4] else makingF (operatorF n).1
theorem makes_c {n : Nd} (h : R (.ret (.bool (makesF n))) st) : PC 52 [enc n] st R := by
  refine pcalls_of_body tys_ok [] Try.func52 rfl (by decide) ?_
  repeat' (conv => whnf
           first
             | with_reducible exact quiet_same
             | with_reducible exact quiet_bool
             | with_reducible exact quiet_not
             | with_reducible refine draw_step (by kernel_rfl) ?_
             | with_reducible refine quiet_go ?_ ?_ ?_
             | with_reducible refine bcase_len (by decide) (fun _ => ?_) (fun _ => ?_)
             | with_reducible refine bcase_eq (fun _ => ?_) (fun _ => ?_)
             | with_reducible refine bcase_dec (fun _ => ?_) (fun _ => ?_)
             | with_reducible refine bcase_true ?_
             | with_reducible refine bcase_false ?_
             | with_reducible refine bcase_intro (fun _ => ?_) (fun _ => ?_)
             | with_reducible refine len_kids (fun _ => ?_)
             | with_reducible refine at_known (by assumption) (by omega) ?_
             | with_reducible refine at_kid (by omega) (by omega) (fun _ _ _ => ?_)
             | with_reducible refine tail_kids (by omega) (by omega) ?_
             | with_reducible refine slice_kids (by omega) (by omega) (by omega) ?_
             | with_reducible refine ex_wrap (by omega) (by omega) ?_
             | with_reducible refine quo_step (by decide) (by omega) (by omega) ?_
             | with_reducible refine rem_step (by decide) ?_
             | refine operator_c ?_
             | refine is_c (kinds := [2, 4]) ?_
             | refine making_c ?_)
  all_goals conv => whnf
  all_goals (refine fin_bool h ?_; clear h; simp_all [makesF])

def boundF (n : Nd) : Option (List UInt8) :=
  if (if (operatorF n).2 then isF (operatorF n).1 [1] else isF (operatorF n).1 [5]) then some (operatorF n).1.text else none
theorem bound_c {n : Nd} (hs : ∀ t, boundF n = some t → R (.ret (.tup [.str t, .bool true])) st) (hn : boundF n = none → R (.ret (.tup [.str [], .bool false])) st) : PC 40 [enc n] st R := by
  refine pcalls_of_body tys_ok [] Try.func40 rfl (by decide) ?_
  repeat' (conv => whnf
           first
             | with_reducible exact quiet_same
             | with_reducible exact quiet_bool
             | with_reducible exact quiet_not
             | with_reducible refine draw_step (by kernel_rfl) ?_
             | with_reducible refine quiet_go ?_ ?_ ?_
             | with_reducible refine bcase_len (by decide) (fun _ => ?_) (fun _ => ?_)
             | with_reducible refine bcase_eq (fun _ => ?_) (fun _ => ?_)
             | with_reducible refine bcase_dec (fun _ => ?_) (fun _ => ?_)
             | with_reducible refine bcase_true ?_
             | with_reducible refine bcase_false ?_
             | with_reducible refine bcase_intro (fun _ => ?_) (fun _ => ?_)
             | with_reducible refine len_kids (fun _ => ?_)
             | with_reducible refine at_known (by assumption) (by omega) ?_
             | with_reducible refine at_kid (by omega) (by omega) (fun _ _ _ => ?_)
             | with_reducible refine tail_kids (by omega) (by omega) ?_
             | with_reducible refine slice_kids (by omega) (by omega) (by omega) ?_
             | with_reducible refine ex_wrap (by omega) (by omega) ?_
             | with_reducible refine quo_step (by decide) (by omega) (by omega) ?_
             | with_reducible refine rem_step (by decide) ?_
             | refine operator_c ?_
             | refine is_c (kinds := [1]) ?_
             | refine is_c (kinds := [5]) ?_)
  all_goals conv => whnf
  all_goals first
    | exact finw rfl (hs _ (by clear hs hn; simp_all [boundF]))
    | exact finw rfl (hn (by clear hs hn; simp_all [boundF]))

/-- a function that tells of one tree, as it should -/
def Tells (f : FuncId) (p : Nd → Bool) (x : Nd) : Prop := ∀ (st : St) (R : Res → St → Prop), R (.ret (.bool (p x))) st → PC f [enc x] st R

/-- every other one a comma -/
def partedG (p : Nd → Bool) : Bool → List Nd → Bool
  | _, [] => true
  | b, x :: r => (if b then saidF x 15 [44] else p x) && partedG p (!b) r
def partedF (p : Nd → Bool) (l : List Nd) : Bool := l.length % 2 == 1 && partedG p false l
theorem partedG_at {p : Nd → Bool} {l : List Nd} {k : Nat} {x : Nd} (h : l[k]? = some x) :
    partedG p (k % 2 == 1) (l.drop k) = ((if k % 2 = 1 then saidF x 15 [44] else p x) && partedG p ((k + 1) % 2 == 1) (l.drop (k + 1))) := by
  rw [drop_at h, partedG]
  have : (!(k % 2 == 1)) = ((k + 1) % 2 == 1) := by
    rcases Nat.mod_two_eq_zero_or_one k with e | e
    · have : (k + 1) % 2 = 1 := by omega
      simp [e, this]
    · have : (k + 1) % 2 = 0 := by omega
      simp [e, this]
  rw [this]; simp only [beq_iff_eq]
theorem parted_c {l : List Nd} {f : FuncId} {p : Nd → Bool} (hf : ∀ x ∈ l, Tells f p x) (h : R (.ret (.bool (partedF p l))) st) : PC 48 [.slice 6 (encs l) .any, .func f [] []] st R := by
  refine pcalls_of_body tys_ok [] Try.func48 rfl (by decide) ?_
  repeat' (conv => whnf
           first
             | with_reducible exact quiet_same
             | with_reducible exact quiet_bool
             | with_reducible exact quiet_not
             | with_reducible refine draw_step (by kernel_rfl) ?_
             | with_reducible refine quiet_go ?_ ?_ ?_
             | with_reducible refine bcase_len (by decide) (fun _ => ?_) (fun _ => ?_)
             | with_reducible refine bcase_eq (fun _ => ?_) (fun _ => ?_)
             | with_reducible refine bcase_dec (fun _ => ?_) (fun _ => ?_)
             | with_reducible refine bcase_true ?_
             | with_reducible refine bcase_false ?_
             | with_reducible refine bcase_intro (fun _ => ?_) (fun _ => ?_)
             | with_reducible refine len_kids (fun _ => ?_)
             | with_reducible refine at_known (by assumption) (by omega) ?_
             | with_reducible refine at_kid (by omega) (by omega) (fun _ _ _ => ?_)
             | with_reducible refine tail_kids (by omega) (by omega) ?_
             | with_reducible refine slice_kids (by omega) (by omega) (by omega) ?_
             | with_reducible refine ex_wrap (by omega) (by omega) ?_
             | with_reducible refine quo_step (by decide) (by omega) (by omega) ?_
             | with_reducible refine rem_step (by decide) ?_
             | refine said_c ?_)
  · conv => whnf
    refine fin_bool h ?_
    have := tmod2_zero.1 ‹_›
    simp [partedF, this]
  · refine loop_n 13 [11, 12, 1] l.length (fun k => k ≤ l.length ∧ (partedG p false l = partedG p (k % 2 == 1) (l.drop k))) ⟨Nat.zero_le _, rfl⟩ (by refine ⟨rfl, ?_, ?_, rfl⟩ <;> repeat' (first | exact trivial | exact rfl | refine And.intro ?_ ?_)) ?_
    rintro k ⟨hk, hi⟩
    repeat' (conv => whnf
             first
               | with_reducible exact quiet_same
               | with_reducible exact quiet_bool
               | with_reducible exact quiet_not
               | with_reducible refine draw_step (by kernel_rfl) ?_
               | with_reducible refine quiet_go ?_ ?_ ?_
               | with_reducible refine bcase_len (by decide) (fun _ => ?_) (fun _ => ?_)
               | with_reducible refine bcase_eq (fun _ => ?_) (fun _ => ?_)
               | with_reducible refine bcase_dec (fun _ => ?_) (fun _ => ?_)
               | with_reducible refine bcase_true ?_
               | with_reducible refine bcase_false ?_
               | with_reducible refine bcase_intro (fun _ => ?_) (fun _ => ?_)
               | with_reducible refine len_kids (fun _ => ?_)
               | with_reducible refine at_known (by assumption) (by omega) ?_
               | with_reducible refine at_kid (by omega) (by omega) (fun _ _ _ => ?_)
               | with_reducible refine tail_kids (by omega) (by omega) ?_
               | with_reducible refine slice_kids (by omega) (by omega) (by omega) ?_
               | with_reducible refine ex_wrap (by omega) (by omega) ?_
               | with_reducible refine quo_step (by decide) (by omega) (by omega) ?_
               | with_reducible refine rem_step (by decide) ?_
               | refine said_c ?_
               | refine hf _ (by assumption) _ _ ?_)
    all_goals conv => whnf
    all_goals simp only [tmod2_zero, tmod2_one, Int.toNat_natCast] at *
    all_goals try (have e := partedG_at (p := p) ‹l[k]? = some _›; rw [e] at hi; clear e)
    all_goals try omega
    all_goals first
     | (refine ⟨k + 1, ⟨by omega, ?_⟩, by omega, (by refine ⟨rfl, ?_, ?_, rfl⟩ <;> repeat' (first | exact trivial | exact rfl | refine And.intro ?_ ?_)), St.le_refl _⟩; clear h; simp_all)
     | (refine fin_bool h ?_; clear h; simp_all [partedF])
    rw [List.drop_eq_nil_of_le (by omega)]; rfl

def indexFuncF (p : Nd → Bool) : List Nd → Int → Int
  | [], _ => -1
  | y :: r, i => if p y then i else indexFuncF p r (i + 1)
theorem indexFuncF_neg {p : Nd → Bool} : ∀ {l : List Nd} {i : Int}, 0 ≤ i → (0 ≤ indexFuncF p l i ↔ l.any p = true)
  | [], i, h => by simp [indexFuncF]
  | y :: r, i, h => by
    simp only [indexFuncF, List.any_cons]
    split
    · rename_i e; simp [h, e]
    · rename_i e
      rw [indexFuncF_neg (by omega)]
      simp [e]
theorem indexFunc_c {l : List Nd} {f : FuncId} {p : Nd → Bool} {st : St} {R : Res → St → Prop}
    (hf : ∀ x ∈ l, Tells f p x) (h : R (.ret (.int .i64 (indexFuncF p l 0))) st) : PC 57 [.slice 6 (encs l) .any, .func f [] []] st R := by
  refine pcalls_of_body tys_ok [] Try.func57 rfl (by decide) ?_
  repeat' (conv => whnf
           first
             | with_reducible exact quiet_same
             | with_reducible exact quiet_bool
             | with_reducible exact quiet_not
             | with_reducible refine draw_step (by kernel_rfl) ?_
             | with_reducible refine quiet_go ?_ ?_ ?_
             | with_reducible refine bcase_len (by decide) (fun _ => ?_) (fun _ => ?_)
             | with_reducible refine bcase_eq (fun _ => ?_) (fun _ => ?_)
             | with_reducible refine bcase_dec (fun _ => ?_) (fun _ => ?_)
             | with_reducible refine bcase_true ?_
             | with_reducible refine bcase_false ?_
             | with_reducible refine bcase_intro (fun _ => ?_) (fun _ => ?_)
             | with_reducible refine len_kids (fun _ => ?_)
             | with_reducible refine at_known (by assumption) (by omega) ?_
             | with_reducible refine at_kid (by omega) (by omega) (fun _ _ _ => ?_)
             | with_reducible refine tail_kids (by omega) (by omega) ?_
             | with_reducible refine slice_kids (by omega) (by omega) (by omega) ?_
             | with_reducible refine ex_wrap (by omega) (by omega) ?_
             | with_reducible refine quo_step (by decide) (by omega) (by omega) ?_
             | with_reducible refine rem_step (by decide) ?_
             | refine said_c ?_)
  refine loop_n 8 [6, 7, 0, 1] l.length (fun k => k ≤ l.length ∧ (indexFuncF p l 0 = indexFuncF p (l.drop k) k)) ⟨Nat.zero_le _, rfl⟩ (by refine ⟨rfl, ?_, ?_, rfl⟩ <;> repeat' (first | exact trivial | exact rfl | refine And.intro ?_ ?_)) ?_
  rintro k ⟨hk, hi⟩
  repeat' (conv => whnf
           first
             | with_reducible exact quiet_same
             | with_reducible exact quiet_bool
             | with_reducible exact quiet_not
             | with_reducible refine draw_step (by kernel_rfl) ?_
             | with_reducible refine quiet_go ?_ ?_ ?_
             | with_reducible refine bcase_len (by decide) (fun _ => ?_) (fun _ => ?_)
             | with_reducible refine bcase_eq (fun _ => ?_) (fun _ => ?_)
             | with_reducible refine bcase_dec (fun _ => ?_) (fun _ => ?_)
             | with_reducible refine bcase_true ?_
             | with_reducible refine bcase_false ?_
             | with_reducible refine bcase_intro (fun _ => ?_) (fun _ => ?_)
             | with_reducible refine len_kids (fun _ => ?_)
             | with_reducible refine at_known (by assumption) (by omega) ?_
             | with_reducible refine at_kid (by omega) (by omega) (fun _ _ _ => ?_)
             | with_reducible refine tail_kids (by omega) (by omega) ?_
             | with_reducible refine slice_kids (by omega) (by omega) (by omega) ?_
             | with_reducible refine ex_wrap (by omega) (by omega) ?_
             | with_reducible refine quo_step (by decide) (by omega) (by omega) ?_
             | with_reducible refine rem_step (by decide) ?_
             | refine hf _ (by assumption) _ _ ?_)
  all_goals conv => whnf
  all_goals try (have e := drop_at ‹l[Int.toNat k]? = some _›; rw [Int.toNat_natCast] at e; rw [e, indexFuncF] at hi; clear e)
  all_goals first
   | (refine ⟨k + 1, ⟨by omega, ?_⟩, by omega, (by refine ⟨rfl, ?_, ?_, rfl⟩ <;> repeat' (first | exact trivial | exact rfl | refine And.intro ?_ ?_)), St.le_refl _⟩; clear h; simp_all)
   | (refine fin h ?_; clear h; simp_all; done)
   | (refine fin h ?_; rw [hi, List.drop_eq_nil_of_le (by omega)]; rfl)

theorem containsFunc_c {l : List Nd} {f : FuncId} {p : Nd → Bool} (hf : ∀ x ∈ l, Tells f p x) (h : R (.ret (.bool (l.any p))) st) : PC 46 [.slice 6 (encs l) .any, .func f [] []] st R := by
  refine pcalls_of_body tys_ok [] Try.func46 rfl (by decide) ?_
  refine indexFunc_c hf ?_
  have key := indexFuncF_neg (p := p) (l := l) (i := 0) (by omega)
  refine bcase_dec (fun h1 => ?_) (fun h1 => ?_)
  · exact fin_bool h (key.1 h1)
  · refine fin_bool h ?_
    cases hc : l.any p with
    | false => rfl
    | true => exact absurd (key.2 hc) h1

theorem head1_c {x : Nd} : Tells 47 (fun x => !saidF x 15 [44]) x := by
  intro st R h
  refine pcalls_of_body tys_ok [] Try.func47 rfl (by decide) ?_
  repeat' (conv => whnf
           first
             | with_reducible exact quiet_same
             | with_reducible exact quiet_bool
             | with_reducible exact quiet_not
             | with_reducible refine draw_step (by kernel_rfl) ?_
             | with_reducible refine quiet_go ?_ ?_ ?_
             | with_reducible refine bcase_len (by decide) (fun _ => ?_) (fun _ => ?_)
             | with_reducible refine bcase_eq (fun _ => ?_) (fun _ => ?_)
             | with_reducible refine bcase_dec (fun _ => ?_) (fun _ => ?_)
             | with_reducible refine bcase_true ?_
             | with_reducible refine bcase_false ?_
             | with_reducible refine bcase_intro (fun _ => ?_) (fun _ => ?_)
             | with_reducible refine len_kids (fun _ => ?_)
             | with_reducible refine at_known (by assumption) (by omega) ?_
             | with_reducible refine at_kid (by omega) (by omega) (fun _ _ _ => ?_)
             | with_reducible refine tail_kids (by omega) (by omega) ?_
             | with_reducible refine slice_kids (by omega) (by omega) (by omega) ?_
             | with_reducible refine ex_wrap (by omega) (by omega) ?_
             | with_reducible refine quo_step (by decide) (by omega) (by omega) ?_
             | with_reducible refine rem_step (by decide) ?_
             | refine said_c ?_)
  all_goals conv => whnf
  all_goals (refine fin_bool h ?_; clear h; simp_all)

def headF (n : Nd) : Bool :=
  (variableF n).isSome || makerF n || (match framedF n [91] [93] with | some l => l.isEmpty | none => match framedF n [40] [41] with | some l => !l.any fun x => !saidF x 15 [44] | none => false)
theorem head_c {n : Nd} (h : R (.ret (.bool (headF n))) st) : PC 23 [enc n] st R := by
  refine pcalls_of_body tys_ok [] Try.func23 rfl (by decide) ?_
  repeat' (conv => whnf
           first
             | with_reducible exact quiet_same
             | with_reducible exact quiet_bool
             | with_reducible exact quiet_not
             | with_reducible refine draw_step (by kernel_rfl) ?_
             | with_reducible refine quiet_go ?_ ?_ ?_
             | with_reducible refine bcase_len (by decide) (fun _ => ?_) (fun _ => ?_)
             | with_reducible refine bcase_eq (fun _ => ?_) (fun _ => ?_)
             | with_reducible refine bcase_dec (fun _ => ?_) (fun _ => ?_)
             | with_reducible refine bcase_true ?_
             | with_reducible refine bcase_false ?_
             | with_reducible refine bcase_intro (fun _ => ?_) (fun _ => ?_)
             | with_reducible refine len_kids (fun _ => ?_)
             | with_reducible refine at_known (by assumption) (by omega) ?_
             | with_reducible refine at_kid (by omega) (by omega) (fun _ _ _ => ?_)
             | with_reducible refine tail_kids (by omega) (by omega) ?_
             | with_reducible refine slice_kids (by omega) (by omega) (by omega) ?_
             | with_reducible refine ex_wrap (by omega) (by omega) ?_
             | with_reducible refine quo_step (by decide) (by omega) (by omega) ?_
             | with_reducible refine rem_step (by decide) ?_
             | refine variable_c (fun l hl => ?_) (fun hl => ?_)
             | refine maker_c ?_
             | refine framed_c (fun l hl => ?_) (fun hl => ?_)
             | refine containsFunc_c (fun x _ => head1_c) ?_)
  all_goals conv => whnf
  all_goals (refine fin_bool h ?_; clear h; simp_all [headF])

end
end Go.Proofs.Ytmhmkpiliejmdaa
