/-
  PATTERNS, PART 3: may, and what calls it.
-/
import Derived.Test.YtmhmkpiliejmdaaPat2
set_option linter.unusedVariables false
set_option linter.unusedSimpArgs false
set_option pp.maxSteps 400
namespace Go.Aw
mutual
def Nd.size : Nd → Nat
  | .mk _ _ _ _ _ ks => 1 + sizes ks
def sizes : List Nd → Nat
  | [] => 0
  | n :: r => n.size + sizes r
end
theorem size_mem : ∀ {l : List Nd} {x : Nd}, x ∈ l → x.size ≤ sizes l
  | y :: r, x, h => by
    rw [sizes]
    rcases List.mem_cons.1 h with rfl | h
    · omega
    · have := size_mem h; omega
theorem size_kid {n x : Nd} (h : x ∈ n.kids) : x.size < n.size := by
  cases n with
  | mk a b c d e ks =>
    have := size_mem (show x ∈ ks from h)
    rw [Nd.size]; omega
end Go.Aw
namespace Go.Proofs.Ytmhmkpiliejmdaa
open Go Go.Aw
section
variable {st : St} {R : Res → St → Prop}

def mayStep (p : Nd → Bool) (n : Nd) : Bool :=
  if n.kind = 1 then isF n [1, 2, 4, 11, 12, 13, 14]
  else if n.kind = 14 then n.kids.length == 1 && n.kids[0]?.any (saidF · 9 [95])
  else if n.kind = 3 then headF n
  else if n.kind = 15 then n.kids.length == 3 && n.kids[0]?.any (isF · [1]) && n.kids[1]?.any (saidF · 10 [64]) && n.kids[2]?.any p
  else if n.kind = 16 then n.kids.length == 2 && n.kids[0]?.any (saidF · 10 [126]) && n.kids[1]?.any p
  else if n.kind = 4 then bracketedF p n [40] [41] 1 true
  else if n.kind = 5 then bracketedF p n [40] [41] 2 false
  else if n.kind = 6 then bracketedF p n [91] [93] 1 false
  else if n.kind = 12 then recordF p n
  else if n.kind = 11 then decide (0 < n.kids.length) && n.kids[0]?.any makerF && besideF p (n.kids.drop 1)
  else if n.kind = 17 then decide (1 < n.kids.length) && rowS p 0 n.kids
  else false

theorem may_step {p : Nd → Bool} {n : Nd} (hp : ∀ x, x.size < n.size → Tells 16 p x) : Tells 16 (mayStep p) n := by
  intro st R h
  have hk : ∀ x ∈ n.kids, Tells 16 p x := fun x hx => hp x (size_kid hx)
  have hkk : ∀ x ∈ n.kids, ∀ y ∈ x.kids, Tells 16 p y := fun x hx y hy => hp y (Nat.lt_trans (size_kid hy) (size_kid hx))
  have hd : ∀ x ∈ n.kids.drop 1, Tells 16 p x := fun x hx => hk x (List.mem_of_mem_drop hx)
  refine pcalls_of_body tys_ok [] Try.func16 rfl (by decide) ?_
  repeat' (conv => whnf
           first
             | with_reducible exact quiet_same
             | with_reducible exact quiet_bool
             | with_reducible exact quiet_not
             | with_reducible refine draw_step (by kernel_rfl) ?_
             | with_reducible refine quiet_go ?_ ?_ ?_
             | with_reducible refine bcase_len (by decide) (fun _ => ?_) (fun _ => ?_)
             | with_reducible refine bcase_eq (fun _ => ?_) (fun _ => ?_)
             | with_reducible refine bcase_dec (fun _ => ?_) (fun _ => ?_)
             | with_reducible refine bcase_true ?_
             | with_reducible refine bcase_false ?_
             | with_reducible refine bcase_intro (fun _ => ?_) (fun _ => ?_)
             | with_reducible refine len_kids (fun _ => ?_)
             | with_reducible refine at_known (by assumption) (by omega) ?_
             | with_reducible refine at_kid (by omega) (by omega) (fun _ _ _ => ?_)
             | with_reducible refine tail_kids (by omega) (by omega) ?_
             | with_reducible refine slice_kids (by omega) (by omega) (by omega) ?_
             | with_reducible refine ex_wrap (by omega) (by omega) ?_
             | with_reducible refine quo_step (by decide) (by omega) (by omega) ?_
             | with_reducible refine rem_step (by decide) ?_
             | refine is_c (kinds := [1, 2, 4, 11, 12, 13, 14]) ?_
             | refine said_c ?_
             | refine head_c ?_
             | refine is_c (kinds := [1]) ?_
             | refine hk _ (by assumption) _ _ ?_
             | refine bracketed_c (p := p) (by decide) (by decide) hk ?_
             | refine record_c hkk ?_
             | refine maker_c ?_
             | refine beside_c hd ?_
             | refine row_c hk ?_)
  all_goals conv => whnf
  all_goals (refine fin_bool h ?_; clear h hp hk hkk hd; try simp only [Int.toNat_zero, Int.toNat_one, Int.reduceToNat] at *)
  all_goals first
    | (simp_all [mayStep]; done)
    | (have : 1 < n.kids.length := by omega
       simp_all [mayStep]; done)
    | (have : ¬ 1 < n.kids.length := by omega
       simp_all [mayStep]; intros; omega)

def mayK : Nat → Nd → Bool
  | 0, _ => false
  | k + 1, n => mayStep (mayK k) n
theorem size_pos (n : Nd) : 0 < n.size := by cases n; rw [Nd.size]; omega
theorem may_c : ∀ (k : Nat) (n : Nd), n.size ≤ k → Tells 16 (mayK k) n
  | 0, n, h => by have := size_pos n; omega
  | k + 1, n, h => may_step fun x hx => may_c k x (by omega)

def sideF (p : Nd → Bool) (l : List Nd) : Bool := if l.length = 1 then l[0]?.any (fun x => !(x.kind == 17) && p x) else rowS p 0 l
theorem side_c {p : Nd → Bool} {l : List Nd} (hp : ∀ x ∈ l, Tells 16 p x) (h : R (.ret (.bool (sideF p l))) st) : PC 41 [.slice 6 (encs l) .any] st R := by
  refine pcalls_of_body tys_ok [] Try.func41 rfl (by decide) ?_
  repeat' (conv => whnf
           first
             | with_reducible exact quiet_same
             | with_reducible exact quiet_bool
             | with_reducible exact quiet_not
             | with_reducible refine draw_step (by kernel_rfl) ?_
             | with_reducible refine quiet_go ?_ ?_ ?_
             | with_reducible refine bcase_len (by decide) (fun _ => ?_) (fun _ => ?_)
             | with_reducible refine bcase_eq (fun _ => ?_) (fun _ => ?_)
             | with_reducible refine bcase_dec (fun _ => ?_) (fun _ => ?_)
             | with_reducible refine bcase_true ?_
             | with_reducible refine bcase_false ?_
             | with_reducible refine bcase_intro (fun _ => ?_) (fun _ => ?_)
             | with_reducible refine len_kids (fun _ => ?_)
             | with_reducible refine at_known (by assumption) (by omega) ?_
             | with_reducible refine at_kid (by omega) (by omega) (fun _ _ _ => ?_)
             | with_reducible refine tail_kids (by omega) (by omega) ?_
             | with_reducible refine slice_kids (by omega) (by omega) (by omega) ?_
             | with_reducible refine ex_wrap (by omega) (by omega) ?_
             | with_reducible refine quo_step (by decide) (by omega) (by omega) ?_
             | with_reducible refine rem_step (by decide) ?_
             | refine hp _ (by assumption) _ _ ?_
             | refine row_c hp ?_)
  all_goals conv => whnf
  all_goals (refine fin_bool h ?_; clear h hp; try simp only [Int.toNat_zero, Int.toNat_one, Int.reduceToNat] at *)
  all_goals first
    | (simp_all [sideF]; done)
    | skip



def functionG (p : Nd → Bool) (l : List Nd) : Nat → List Nd → List UInt8 × Bool
  | _, [] => ([], false)
  | i, x :: r => match boundF x with
    | some t => (t, sideF p (l.take i) && sideF p (l.drop (i + 1)))
    | none => functionG p l (i + 1) r
def functionStep (p : Nd → Bool) (q : Nd → List UInt8 × Bool) (n : Nd) : List UInt8 × Bool :=
  if n.kind = 11 then
    if 2 ≤ n.kids.length then (if besideF p (n.kids.drop 1) then (match n.kids[0]? with
      | none => ([], false)
      | some f => if f.kind = 4 then (match framedF f [40] [41] with | some l => if l.length = 1 then (match l[0]? with | some x => q x | none => ([], false)) else ([], false) | none => ([], false))
        else match variableF f with | some t => (t, true) | none => ([], false)) else ([], false)) else ([], false)
  else if n.kind = 17 then functionG p n.kids 0 n.kids
  else ([], false)
theorem fin_pair {f : List UInt8 × Bool} {t : List UInt8} {b : Bool} (h : f = (t, b)) : Res.ret (.tup [.str f.1, .bool f.2]) = (Res.ret (.tup [.str t, .bool b])).wk := by subst h; rfl
def TellsF (q : Nd → List UInt8 × Bool) (x : Nd) : Prop := ∀ (st : St) (R : Res → St → Prop), R (.ret (.tup [.str (q x).1, .bool (q x).2])) st → PC 18 [enc x] st R
theorem function_step {p : Nd → Bool} {q : Nd → List UInt8 × Bool} {n : Nd} (hp : ∀ x, x.size < n.size → Tells 16 p x) (hq : ∀ x, x.size < n.size → TellsF q x) : TellsF (functionStep p q) n := by
  intro st R h
  have hk : ∀ x ∈ n.kids, Tells 16 p x := fun x hx => hp x (size_kid hx)
  have hd : ∀ x ∈ n.kids.drop 1, Tells 16 p x := fun x hx => hk x (List.mem_of_mem_drop hx)
  refine pcalls_of_body tys_ok [] Try.func18 rfl (by decide) ?_
  repeat' (conv => whnf
           first
             | with_reducible exact quiet_same
             | with_reducible exact quiet_bool
             | with_reducible exact quiet_not
             | with_reducible refine draw_step (by kernel_rfl) ?_
             | with_reducible refine quiet_go ?_ ?_ ?_
             | with_reducible refine bcase_len (by decide) (fun _ => ?_) (fun _ => ?_)
             | with_reducible refine bcase_eq (fun _ => ?_) (fun _ => ?_)
             | with_reducible refine bcase_dec (fun _ => ?_) (fun _ => ?_)
             | with_reducible refine bcase_true ?_
             | with_reducible refine bcase_false ?_
             | with_reducible refine bcase_intro (fun _ => ?_) (fun _ => ?_)
             | with_reducible refine len_kids (fun _ => ?_)
             | with_reducible refine at_known (by assumption) (by omega) ?_
             | with_reducible refine at_kid (by omega) (by omega) (fun _ _ _ => ?_)
             | with_reducible refine tail_kids (by omega) (by omega) ?_
             | with_reducible refine slice_kids (by omega) (by omega) (by omega) ?_
             | with_reducible refine ex_wrap (by omega) (by omega) ?_
             | with_reducible refine quo_step (by decide) (by omega) (by omega) ?_
             | with_reducible refine rem_step (by decide) ?_
             | refine beside_c hd ?_
             | refine framed_c (fun l hl => ?_) (fun hl => ?_)
             | refine variable_c (fun l hl => ?_) (fun hl => ?_)
             | refine hq _ (Nat.lt_trans (size_kid (framed_mem (by assumption) _ (by assumption))) (size_kid (by assumption))) _ _ ?_)
  all_goals try (refine loop_nb 63 [1, 61, 62] [0] n.kids.length (fun k => k ≤ n.kids.length ∧ functionG p n.kids 0 n.kids = functionG p n.kids k (n.kids.drop k)) ⟨Nat.zero_le _, rfl⟩ (by refine ⟨rfl, ?_, ?_, rfl⟩ <;> repeat' (first | exact trivial | exact rfl | refine And.intro ?_ ?_)) ?_; rintro k ⟨hkl, hi⟩)
  repeat' (conv => whnf
           first
             | with_reducible exact quiet_same
             | with_reducible exact quiet_bool
             | with_reducible exact quiet_not
             | with_reducible refine draw_step (by kernel_rfl) ?_
             | with_reducible refine quiet_go ?_ ?_ ?_
             | with_reducible refine bcase_len (by decide) (fun _ => ?_) (fun _ => ?_)
             | with_reducible refine bcase_eq (fun _ => ?_) (fun _ => ?_)
             | with_reducible refine bcase_dec (fun _ => ?_) (fun _ => ?_)
             | with_reducible refine bcase_true ?_
             | with_reducible refine bcase_false ?_
             | with_reducible refine bcase_intro (fun _ => ?_) (fun _ => ?_)
             | with_reducible refine len_kids (fun _ => ?_)
             | with_reducible refine at_known (by assumption) (by omega) ?_
             | with_reducible refine at_kid (by omega) (by omega) (fun _ _ _ => ?_)
             | with_reducible refine tail_kids (by omega) (by omega) ?_
             | with_reducible refine slice_kids (by omega) (by omega) (by omega) ?_
             | with_reducible refine ex_wrap (by omega) (by omega) ?_
             | with_reducible refine quo_step (by decide) (by omega) (by omega) ?_
             | with_reducible refine rem_step (by decide) ?_
             | refine bound_c (fun l hl => ?_) (fun hl => ?_)
             | refine side_c (fun x hx => hk x (List.mem_of_mem_take (List.mem_of_mem_drop hx))) ?_
             | refine side_c (fun x hx => hk x (List.mem_of_mem_drop hx)) ?_)
  all_goals conv => whnf
  all_goals first
    | refine finw ?_ h
    | (refine ⟨k + 1, ⟨by omega, ?_⟩, by omega, (by refine ⟨rfl, ?_, ?_, rfl⟩ <;> repeat' (first | exact trivial | exact rfl | refine And.intro ?_ ?_)), St.le_refl _⟩)
    | skip
  all_goals clear h hp hq hk hd
  all_goals try (have e := drop_at ‹n.kids[Int.toNat k]? = some _›; rw [Int.toNat_natCast] at e; rw [e, functionG] at hi; clear e)
  all_goals try simp only [Int.toNat_zero, Int.toNat_one, Int.reduceToNat, Int.toNat_natCast] at *
  all_goals first
    | (simp_all; done)
    | refine fin_pair ?_
  · have : ¬ 2 ≤ n.kids.length := by omega
    simp [functionStep, *]
  all_goals try have g : 2 ≤ n.kids.length := by omega
  · rename_i x _ _ y _ _ _
    have e : functionStep p q n = q y := by simp_all [functionStep]
    rw [e]; exact Prod.ext rfl ‹_›
  · rename_i x _ _ y _ _ _
    have e : functionStep p q n = q y := by simp_all [functionStep]
    rw [e]; exact Prod.ext rfl ‹_›
  all_goals try (rw [List.drop_eq_nil_of_le (by omega), functionG] at hi)
  all_goals simp_all [functionStep]



def funK : Nat → Nd → List UInt8 × Bool
  | 0, _ => ([], false)
  | k + 1, n => functionStep (mayK k) (funK k) n
theorem function_c : ∀ (k : Nat) (n : Nd), n.size ≤ k → TellsF (funK k) n
  | 0, n, h => by have := size_pos n; omega
  | k + 1, n, h => function_step (fun x hx => may_c k x (by omega)) fun x hx => function_c k x (by omega)

end
end Go.Proofs.Ytmhmkpiliejmdaa
