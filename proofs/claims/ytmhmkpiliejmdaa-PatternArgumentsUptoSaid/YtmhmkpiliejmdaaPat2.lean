/-
  PATTERNS, PART 2: the functions that call one another.
-/
import Derived.Test.YtmhmkpiliejmdaaPat1
set_option linter.unusedVariables false
set_option pp.maxSteps 400
set_option linter.unusedSimpArgs false
namespace Go.Proofs.Ytmhmkpiliejmdaa
open Go Go.Aw
section
variable {st : St} {R : Res → St → Prop}

theorem framed_mem {n : Nd} {o s : List UInt8} {l : List Nd} (h : framedF n o s = some l) : ∀ x ∈ l, x ∈ n.kids := by
  simp only [framedF] at h
  split at h
  · cases h
    intro x hx
    exact List.mem_of_mem_take (List.mem_of_mem_drop hx)
  · cases h

def bracketedF (p : Nd → Bool) (n : Nd) (o s : List UInt8) (least : Int) (one : Bool) : Bool :=
  match framedF n o s with
  | some l => decide (2 * least - 1 ≤ (l.length : Int)) && (!one || l.length == 1) && partedF p l
  | none => false
theorem bracketed_c {p : Nd → Bool} {n : Nd} {o s : List UInt8} {least : Int} {one : Bool} (h0 : 0 ≤ least) (h1 : least ≤ 10) (hp : ∀ x ∈ n.kids, Tells 16 p x)
    (h : R (.ret (.bool (bracketedF p n o s least one))) st) : PC 24 [enc n, .str o, .str s, .int .i64 least, .bool one] st R := by
  cases one
  all_goals refine pcalls_of_body tys_ok [] Try.func24 rfl (by decide) ?_
  repeat' (conv => whnf
           first
             | with_reducible exact quiet_same
             | with_reducible exact quiet_bool
             | with_reducible exact quiet_not
             | with_reducible refine draw_step (by kernel_rfl) ?_
             | with_reducible refine quiet_go ?_ ?_ ?_
             | with_reducible refine bcase_len (by decide) (fun _ => ?_) (fun _ => ?_)
             | with_reducible refine bcase_eq (fun _ => ?_) (fun _ => ?_)
             | with_reducible refine bcase_dec (fun _ => ?_) (fun _ => ?_)
             | with_reducible refine bcase_true ?_
             | with_reducible refine bcase_false ?_
             | with_reducible refine bcase_intro (fun _ => ?_) (fun _ => ?_)
             | with_reducible refine len_kids (fun _ => ?_)
             | with_reducible refine at_known (by assumption) (by omega) ?_
             | with_reducible refine at_kid (by omega) (by omega) (fun _ _ _ => ?_)
             | with_reducible refine tail_kids (by omega) (by omega) ?_
             | with_reducible refine slice_kids (by omega) (by omega) (by omega) ?_
             | with_reducible refine ex_wrap (by omega) (by omega) ?_
             | with_reducible refine quo_step (by decide) (by omega) (by omega) ?_
             | with_reducible refine rem_step (by decide) ?_
             | refine framed_c (fun l hl => ?_) (fun hl => ?_)
             | refine parted_c (fun x hx => hp x (framed_mem (by assumption) x hx)) ?_)
  all_goals conv => whnf
  all_goals (refine fin_bool h ?_; clear h; simp_all [bracketedF])
  all_goals (intros; omega)

def allB (q : Nd → Bool) : List Nd → Bool
  | [] => true
  | x :: r => q x && allB q r
def besideG (p : Nd → Bool) (x : Nd) : Bool := !(x.kind == 11) && !(x.kind == 17) && p x
def besideF (p : Nd → Bool) (l : List Nd) : Bool := allB (besideG p) l && decide (0 < l.length)
theorem beside_c {p : Nd → Bool} {l : List Nd} (hp : ∀ x ∈ l, Tells 16 p x) (h : R (.ret (.bool (besideF p l))) st) : PC 27 [.slice 6 (encs l) .any] st R := by
  refine pcalls_of_body tys_ok [] Try.func27 rfl (by decide) ?_
  repeat' (conv => whnf
           first
             | with_reducible exact quiet_same
             | with_reducible exact quiet_bool
             | with_reducible exact quiet_not
             | with_reducible refine draw_step (by kernel_rfl) ?_
             | with_reducible refine quiet_go ?_ ?_ ?_
             | with_reducible refine bcase_len (by decide) (fun _ => ?_) (fun _ => ?_)
             | with_reducible refine bcase_eq (fun _ => ?_) (fun _ => ?_)
             | with_reducible refine bcase_dec (fun _ => ?_) (fun _ => ?_)
             | with_reducible refine bcase_true ?_
             | with_reducible refine bcase_false ?_
             | with_reducible refine bcase_intro (fun _ => ?_) (fun _ => ?_)
             | with_reducible refine len_kids (fun _ => ?_)
             | with_reducible refine at_known (by assumption) (by omega) ?_
             | with_reducible refine at_kid (by omega) (by omega) (fun _ _ _ => ?_)
             | with_reducible refine tail_kids (by omega) (by omega) ?_
             | with_reducible refine slice_kids (by omega) (by omega) (by omega) ?_
             | with_reducible refine ex_wrap (by omega) (by omega) ?_
             | with_reducible refine quo_step (by decide) (by omega) (by omega) ?_
             | with_reducible refine rem_step (by decide) ?_
             | refine said_c ?_)
  refine loop_n 7 [5, 6, 0] l.length (fun k => k ≤ l.length ∧ allB (besideG p) l = allB (besideG p) (l.drop k)) ⟨Nat.zero_le _, rfl⟩ (by refine ⟨rfl, ?_, ?_, rfl⟩ <;> repeat' (first | exact trivial | exact rfl | refine And.intro ?_ ?_)) ?_
  rintro k ⟨hk, hi⟩
  repeat' (conv => whnf
           first
             | with_reducible exact quiet_same
             | with_reducible exact quiet_bool
             | with_reducible exact quiet_not
             | with_reducible refine draw_step (by kernel_rfl) ?_
             | with_reducible refine quiet_go ?_ ?_ ?_
             | with_reducible refine bcase_len (by decide) (fun _ => ?_) (fun _ => ?_)
             | with_reducible refine bcase_eq (fun _ => ?_) (fun _ => ?_)
             | with_reducible refine bcase_dec (fun _ => ?_) (fun _ => ?_)
             | with_reducible refine bcase_true ?_
             | with_reducible refine bcase_false ?_
             | with_reducible refine bcase_intro (fun _ => ?_) (fun _ => ?_)
             | with_reducible refine len_kids (fun _ => ?_)
             | with_reducible refine at_known (by assumption) (by omega) ?_
             | with_reducible refine at_kid (by omega) (by omega) (fun _ _ _ => ?_)
             | with_reducible refine tail_kids (by omega) (by omega) ?_
             | with_reducible refine slice_kids (by omega) (by omega) (by omega) ?_
             | with_reducible refine ex_wrap (by omega) (by omega) ?_
             | with_reducible refine quo_step (by decide) (by omega) (by omega) ?_
             | with_reducible refine rem_step (by decide) ?_
             | refine hp _ (by assumption) _ _ ?_)
  all_goals conv => whnf
  all_goals try (have e := drop_at ‹l[Int.toNat k]? = some _›; rw [Int.toNat_natCast] at e; rw [e, allB] at hi; clear e)
  all_goals first
   | (refine ⟨k + 1, ⟨by omega, ?_⟩, by omega, (by refine ⟨rfl, ?_, ?_, rfl⟩ <;> repeat' (first | exact trivial | exact rfl | refine And.intro ?_ ?_)), St.le_refl _⟩; clear h; simp_all [besideG]; done)
   | (refine fin_bool h ?_; clear h; simp_all [besideF, besideG]; done)
   | (refine fin_bool h ?_; clear h; rw [List.drop_eq_nil_of_le (by omega)] at hi; simp_all [besideF, allB]; done)
   | skip

def fieldF (p : Nd → Bool) (n : Nd) : Bool :=
  n.kind == 13 && n.kids.length == 3 && n.kids[0]?.any (isF · [1, 3]) && n.kids[1]?.any (saidF · 10 [61]) && n.kids[2]?.any p
theorem field_c {p : Nd → Bool} {n : Nd} (hp : ∀ x ∈ n.kids, Tells 16 p x) : Tells 49 (fieldF p) n := by
  intro st R h
  refine pcalls_of_body tys_ok [] Try.func49 rfl (by decide) ?_
  repeat' (conv => whnf
           first
             | with_reducible exact quiet_same
             | with_reducible exact quiet_bool
             | with_reducible exact quiet_not
             | with_reducible refine draw_step (by kernel_rfl) ?_
             | with_reducible refine quiet_go ?_ ?_ ?_
             | with_reducible refine bcase_len (by decide) (fun _ => ?_) (fun _ => ?_)
             | with_reducible refine bcase_eq (fun _ => ?_) (fun _ => ?_)
             | with_reducible refine bcase_dec (fun _ => ?_) (fun _ => ?_)
             | with_reducible refine bcase_true ?_
             | with_reducible refine bcase_false ?_
             | with_reducible refine bcase_intro (fun _ => ?_) (fun _ => ?_)
             | with_reducible refine len_kids (fun _ => ?_)
             | with_reducible refine at_known (by assumption) (by omega) ?_
             | with_reducible refine at_kid (by omega) (by omega) (fun _ _ _ => ?_)
             | with_reducible refine tail_kids (by omega) (by omega) ?_
             | with_reducible refine slice_kids (by omega) (by omega) (by omega) ?_
             | with_reducible refine ex_wrap (by omega) (by omega) ?_
             | with_reducible refine quo_step (by decide) (by omega) (by omega) ?_
             | with_reducible refine rem_step (by decide) ?_
             | refine is_c (kinds := [1, 3]) ?_
             | refine said_c ?_
             | refine hp _ (by assumption) _ _ ?_)
  all_goals conv => whnf
  all_goals (refine fin_bool h ?_; clear h; simp_all [fieldF])

def recordF (p : Nd → Bool) (n : Nd) : Bool :=
  decide (3 ≤ n.kids.length) && n.kids[0]?.any makerF && (match framedF (.mk 0 0 [] 0 0 (n.kids.drop 1)) [123] [125] with | some l => l.isEmpty || partedF (fieldF p) l | none => false)
theorem record_c {p : Nd → Bool} {n : Nd} (hp : ∀ x ∈ n.kids, ∀ y ∈ x.kids, Tells 16 p y) (h : R (.ret (.bool (recordF p n))) st) : PC 25 [enc n] st R := by
  refine pcalls_of_body tys_ok [] Try.func25 rfl (by decide) ?_
  repeat' (conv => whnf
           first
             | with_reducible exact quiet_same
             | with_reducible exact quiet_bool
             | with_reducible exact quiet_not
             | with_reducible refine draw_step (by kernel_rfl) ?_
             | with_reducible refine quiet_go ?_ ?_ ?_
             | with_reducible refine bcase_len (by decide) (fun _ => ?_) (fun _ => ?_)
             | with_reducible refine bcase_eq (fun _ => ?_) (fun _ => ?_)
             | with_reducible refine bcase_dec (fun _ => ?_) (fun _ => ?_)
             | with_reducible refine bcase_true ?_
             | with_reducible refine bcase_false ?_
             | with_reducible refine bcase_intro (fun _ => ?_) (fun _ => ?_)
             | with_reducible refine len_kids (fun _ => ?_)
             | with_reducible refine at_known (by assumption) (by omega) ?_
             | with_reducible refine at_kid (by omega) (by omega) (fun _ _ _ => ?_)
             | with_reducible refine tail_kids (by omega) (by omega) ?_
             | with_reducible refine slice_kids (by omega) (by omega) (by omega) ?_
             | with_reducible refine ex_wrap (by omega) (by omega) ?_
             | with_reducible refine quo_step (by decide) (by omega) (by omega) ?_
             | with_reducible refine rem_step (by decide) ?_
             | refine maker_c ?_
             | refine framed_c (n := .mk 0 0 [] 0 0 _) (fun l hl => ?_) (fun hl => ?_)
             | refine parted_c (fun x hx => field_c (hp x (List.mem_of_mem_drop (i := 1) (l := n.kids) (framed_mem (n := .mk 0 0 [] 0 0 (n.kids.drop 1)) (by assumption) x hx)))) ?_)
  all_goals conv => whnf
  all_goals (refine fin_bool h ?_; clear h; try simp only [Int.toNat_zero, Int.toNat_one] at *; simp_all [recordF])
  all_goals first
    | omega
    | (have : ¬ 3 ≤ n.kids.length := by omega
       simp [recordF, this])

/-- 0: an operand is due; 1: what follows a minus; 2: after an operand -/
def rowS (p : Nd → Bool) : Nat → List Nd → Bool
  | 2, [] => true
  | _, [] => false
  | 0, x :: r => if x.kind = 19 then rowS p 1 r else (!(x.kind == 17) && p x) && rowS p 2 r
  | 1, x :: r => isF x [11, 12] && rowS p 2 r
  | _, x :: r => makesF x && rowS p 0 r
theorem rowS0 {p : Nd → Bool} {l : List Nd} {k : Nat} {x : Nd} (h : l[k]? = some x) : rowS p 0 (l.drop k) = if x.kind = 19 then rowS p 1 (l.drop (k + 1)) else (!(x.kind == 17) && p x) && rowS p 2 (l.drop (k + 1)) := by
  rw [drop_at h]; rfl
theorem rowS1 {p : Nd → Bool} {l : List Nd} {k : Nat} {x : Nd} (h : l[k]? = some x) : rowS p 1 (l.drop k) = (isF x [11, 12] && rowS p 2 (l.drop (k + 1))) := by
  rw [drop_at h]; rfl
theorem rowS2 {p : Nd → Bool} {l : List Nd} {k : Nat} {x : Nd} (h : l[k]? = some x) : rowS p 2 (l.drop k) = (makesF x && rowS p 0 (l.drop (k + 1))) := by
  rw [drop_at h]; rfl
theorem rowSe {p : Nd → Bool} {l : List Nd} {k s : Nat} (h : l.length ≤ k) : rowS p s (l.drop k) = (s == 2) := by
  rw [List.drop_eq_nil_of_le h]
  match s with
  | 0 => rfl
  | 1 => rfl
  | 2 => rfl
  | s + 3 => simp [rowS]

theorem tn0 : (0 : Int).toNat = 0 := rfl
theorem tn1 : ((0 : Int) + 1).toNat = 1 := rfl
theorem tn2 : ((0 : Int) + 1 + 1).toNat = 2 := rfl
theorem tn3 {k : Nat} : ((k : Int) + 1).toNat = k + 1 := by omega
theorem tn4 {k : Nat} : ((k : Int) + 1 + 1).toNat = k + 2 := by omega
theorem row_c {p : Nd → Bool} {l : List Nd} (hp : ∀ x ∈ l, Tells 16 p x) (h : R (.ret (.bool (rowS p 0 l))) st) : PC 28 [.slice 6 (encs l) .any] st R := by
  refine pcalls_of_body tys_ok [] Try.func28 rfl (by decide) ?_
  conv => whnf
  refine ⟨Nat, fun _ => 0, fun k => { tmps := [(3, .int .i64 k), (0, .slice 6 (encs l) .any)], boxes := [], nxt := 0, sz := 57, gl := [] }, fun _ => st,
    fun k => k ≤ l.length ∧ rowS p 0 l = rowS p 0 (l.drop k), fun k => l.length - k, ?_, ?_⟩
  · have hi : rowS p 0 l = rowS p 0 (l.drop 0) := rfl
    repeat' (conv => whnf
             first
               | with_reducible exact quiet_same
               | with_reducible exact quiet_bool
               | with_reducible exact quiet_not
               | with_reducible refine draw_step (by kernel_rfl) ?_
               | with_reducible refine quiet_go ?_ ?_ ?_
               | with_reducible refine bcase_len (by decide) (fun _ => ?_) (fun _ => ?_)
               | with_reducible refine bcase_eq (fun _ => ?_) (fun _ => ?_)
               | with_reducible refine bcase_dec (fun _ => ?_) (fun _ => ?_)
               | with_reducible refine bcase_true ?_
               | with_reducible refine bcase_false ?_
               | with_reducible refine bcase_intro (fun _ => ?_) (fun _ => ?_)
               | with_reducible refine len_kids (fun _ => ?_)
               | with_reducible refine at_known (by assumption) (by omega) ?_
               | with_reducible refine at_kid (by omega) (by omega) (fun _ _ _ => ?_)
               | with_reducible refine tail_kids (by omega) (by omega) ?_
               | with_reducible refine slice_kids (by omega) (by omega) (by omega) ?_
               | with_reducible refine ex_wrap (by omega) (by omega) ?_
               | with_reducible refine quo_step (by decide) (by omega) (by omega) ?_
               | with_reducible refine rem_step (by decide) ?_
               | refine is_c (kinds := [11, 12]) ?_
               | refine makes_c ?_
               | refine hp _ (by assumption) _ _ ?_)
    all_goals conv => whnf
    all_goals try simp only [tn0, tn1, tn2, tn3, tn4, Int.toNat_natCast, Nat.zero_add, Nat.reduceAdd] at *
    all_goals try (have e := rowS0 (p := p) ‹l[0]? = some _›; rw [e] at hi; clear e)
    all_goals (try have e1 := rowS1 (p := p) ‹l[1]? = some _›)
    all_goals (try have e2 := rowS2 (p := p) ‹l[1]? = some _›)
    all_goals (try have e3 := rowS2 (p := p) ‹l[2]? = some _›)
    all_goals (try have f0 := rowSe (p := p) (s := 0) (l := l) (k := 0) (by omega))
    all_goals (try have f1 := rowSe (p := p) (s := 1) (l := l) (k := 1) (by omega))
    all_goals (try have f2 := rowSe (p := p) (s := 2) (l := l) (k := 1) (by omega))
    all_goals (try have f3 := rowSe (p := p) (s := 2) (l := l) (k := 2) (by omega))
    all_goals try simp only [Nat.zero_add, Nat.reduceAdd] at *
    all_goals first
      | (refine fin_bool h ?_; clear h; clear hp; simp_all; done)
      | (refine ⟨3, (by first | trivial | rfl), ⟨by omega, ?_⟩, (by refine ⟨rfl, ?_, ?_, rfl⟩ <;> repeat' (first | exact trivial | exact rfl | refine And.intro ?_ ?_)), St.le_refl _⟩; clear h; clear hp; simp_all; done)
      | (refine ⟨2, (by first | trivial | rfl), ⟨by omega, ?_⟩, (by refine ⟨rfl, ?_, ?_, rfl⟩ <;> repeat' (first | exact trivial | exact rfl | refine And.intro ?_ ?_)), St.le_refl _⟩; clear h; clear hp; simp_all; done)
  · rintro k ⟨hk, hi⟩
    refine ⟨_, rfl, ?_⟩
    repeat' (conv => whnf
             first
               | with_reducible exact quiet_same
               | with_reducible exact quiet_bool
               | with_reducible exact quiet_not
               | with_reducible refine draw_step (by kernel_rfl) ?_
               | with_reducible refine quiet_go ?_ ?_ ?_
               | with_reducible refine bcase_len (by decide) (fun _ => ?_) (fun _ => ?_)
               | with_reducible refine bcase_eq (fun _ => ?_) (fun _ => ?_)
               | with_reducible refine bcase_dec (fun _ => ?_) (fun _ => ?_)
               | with_reducible refine bcase_true ?_
               | with_reducible refine bcase_false ?_
               | with_reducible refine bcase_intro (fun _ => ?_) (fun _ => ?_)
               | with_reducible refine len_kids (fun _ => ?_)
               | with_reducible refine at_known (by assumption) (by omega) ?_
               | with_reducible refine at_kid (by omega) (by omega) (fun _ _ _ => ?_)
               | with_reducible refine tail_kids (by omega) (by omega) ?_
               | with_reducible refine slice_kids (by omega) (by omega) (by omega) ?_
               | with_reducible refine ex_wrap (by omega) (by omega) ?_
               | with_reducible refine quo_step (by decide) (by omega) (by omega) ?_
               | with_reducible refine rem_step (by decide) ?_
               | refine is_c (kinds := [11, 12]) ?_
               | refine makes_c ?_
               | refine hp _ (by assumption) _ _ ?_)
    all_goals conv => whnf
    all_goals try simp only [tn0, tn1, tn2, tn3, tn4, Int.toNat_natCast, Nat.zero_add, Nat.reduceAdd] at *
    all_goals try (have e := rowS0 (p := p) ‹l[k]? = some _›; rw [e] at hi; clear e)
    all_goals (try have e1 := rowS1 (p := p) ‹l[k + 1]? = some _›)
    all_goals (try have e2 := rowS2 (p := p) ‹l[k + 1]? = some _›)
    all_goals (try have e3 := rowS2 (p := p) ‹l[k + 2]? = some _›)
    all_goals (try have f0 := rowSe (p := p) (s := 0) (l := l) (k := k) (by omega))
    all_goals (try have f1 := rowSe (p := p) (s := 1) (l := l) (k := k + 1) (by omega))
    all_goals (try have f2 := rowSe (p := p) (s := 2) (l := l) (k := k + 1) (by omega))
    all_goals (try have f3 := rowSe (p := p) (s := 2) (l := l) (k := k + 2) (by omega))
    all_goals try simp only [Nat.zero_add, Nat.reduceAdd] at *
    all_goals first
      | (refine fin_bool h ?_; clear h; clear hp; simp_all; done)
      | (refine ⟨k + 3, (by first | trivial | rfl), ⟨by omega, ?_⟩, by omega, (by refine ⟨rfl, ?_, ?_, rfl⟩ <;> repeat' (first | exact trivial | exact rfl | refine And.intro ?_ ?_)), St.le_refl _⟩; clear h; clear hp; simp_all; done)
      | (refine ⟨k + 2, (by first | trivial | rfl), ⟨by omega, ?_⟩, by omega, (by refine ⟨rfl, ?_, ?_, rfl⟩ <;> repeat' (first | exact trivial | exact rfl | refine And.intro ?_ ?_)), St.le_refl _⟩; clear h; clear hp; simp_all; done)

end
end Go.Proofs.Ytmhmkpiliejmdaa
