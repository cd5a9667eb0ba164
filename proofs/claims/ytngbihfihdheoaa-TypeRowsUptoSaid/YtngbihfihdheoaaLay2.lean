/-
  LAYOUT: may, begin, line, brace, end.
-/
import Derived.Test.YtngbihfihdheoaaLay1
set_option linter.unusedVariables false
set_option pp.maxSteps 400
namespace Go.Proofs.Ytngbihfihdheoaa
open Go Go.Aw

theorem drop_at {α : Type} {l : List α} {k : Nat} {x : α} (h : l[k]? = some x) : l.drop k = x :: l.drop (k + 1) := by
  obtain ⟨h1, h2⟩ := List.getElem?_eq_some_iff.1 h
  rw [← h2, List.drop_eq_getElem_cons h1]

section
variable {st : St} {R : Res → St → Prop}
attribute [local irreducible] Go.Aw.appendTo

/-- slices.IndexFunc over numbers -/
def idxF (p : Int → Bool) : List Int → Int → Int
  | [], _ => -1
  | y :: r, i => if p y then i else idxF p r (i + 1)
theorem idxF_neg {p : Int → Bool} : ∀ {l : List Int} {i : Int}, 0 ≤ i → (0 ≤ idxF p l i ↔ l.any p = true)
  | [], i, h => by simp [idxF]
  | y :: r, i, h => by
    simp only [idxF, List.any_cons]
    split
    · rename_i e; simp [h, e]
    · rename_i e
      rw [idxF_neg (by omega)]
      simp [e]
theorem indexFunc_c {l : List Int} {f : FuncId} {p : Int → Bool} {own : Own} (hf : ∀ x (st : St) (R : Res → St → Prop), R (.ret (.bool (p x))) st → PC f [.int .i64 x] st R) (h : R (.ret (.int .i64 (idxF p l 0))) st) :
    PC 84 [.slice 1 (ints l) own, .func f [] []] st R := by
  refine pcalls_of_body tys_ok [] Try.func84 rfl (by decide) ?_
  repeat' (conv => whnf
           first
             | with_reducible exact quiet_same
             | with_reducible exact quiet_bool
             | with_reducible exact quiet_not
             | with_reducible refine draw_step (by kernel_rfl) ?_
             | with_reducible refine quiet_go ?_ ?_ ?_
             | with_reducible refine bcase_yes (by first | assumption | omega) ?_
             | with_reducible refine bcase_no (by first | assumption | omega) ?_
             | with_reducible refine bcase_dyes (by omega) ?_
             | with_reducible refine bcase_dno (by omega) ?_
             | with_reducible refine bcase_len (by decide) (fun _ => ?_) (fun _ => ?_)
             | with_reducible refine bcase_eq (fun _ => ?_) (fun _ => ?_)
             | with_reducible refine bcase_dec (fun _ => ?_) (fun _ => ?_)
             | with_reducible refine bcase_true ?_
             | with_reducible refine bcase_false ?_
             | with_reducible refine bcase_intro (fun _ => ?_) (fun _ => ?_)
             | with_reducible refine len_kids (fun _ => ?_)
             | with_reducible refine at_known (by assumption) (by omega) ?_
             | with_reducible refine at_kid (by omega) (by omega) (fun _ _ _ => ?_)
             | with_reducible refine tail_kids (by omega) (by omega) ?_
             | with_reducible refine slice_kids (by omega) (by omega) (by omega) ?_
             | with_reducible refine ex_wrap (by omega) (by omega) ?_
             | with_reducible refine quo_step (by decide) (by omega) (by omega) ?_
             | with_reducible refine rem_step (by decide) ?_
             | with_reducible refine nil_row (fun _ => ?_) ?_
             | with_reducible refine nil_row2 (fun _ => ?_) ?_
             | with_reducible refine len_toks (fun _ => ?_)
             | with_reducible refine len_ints (fun _ => ?_)
             | with_reducible refine tok_known (by assumption) (by omega) ?_
             | with_reducible refine at_tok (by omega) (by omega) (fun _ _ => ?_)
             | with_reducible refine at_int (by omega) (by omega) (fun _ _ => ?_)
             | with_reducible refine slice_ints (by omega) (by omega) (by omega) ?_
             | with_reducible refine draw_head ?_)
  refine loop_n 8 [7, 0, 1] l.length (fun k => k ≤ l.length ∧ (idxF p l 0 = idxF p (l.drop k) k)) ⟨Nat.zero_le _, rfl⟩ (by refine ⟨rfl, ?_, ?_, rfl⟩ <;> repeat' (first | exact trivial | exact rfl | refine And.intro ?_ ?_)) ?_
  rintro k ⟨hk, hi⟩
  repeat' (conv => whnf
           first
             | with_reducible exact quiet_same
             | with_reducible exact quiet_bool
             | with_reducible exact quiet_not
             | with_reducible refine draw_step (by kernel_rfl) ?_
             | with_reducible refine quiet_go ?_ ?_ ?_
             | with_reducible refine bcase_yes (by first | assumption | omega) ?_
             | with_reducible refine bcase_no (by first | assumption | omega) ?_
             | with_reducible refine bcase_dyes (by omega) ?_
             | with_reducible refine bcase_dno (by omega) ?_
             | with_reducible refine bcase_len (by decide) (fun _ => ?_) (fun _ => ?_)
             | with_reducible refine bcase_eq (fun _ => ?_) (fun _ => ?_)
             | with_reducible refine bcase_dec (fun _ => ?_) (fun _ => ?_)
             | with_reducible refine bcase_true ?_
             | with_reducible refine bcase_false ?_
             | with_reducible refine bcase_intro (fun _ => ?_) (fun _ => ?_)
             | with_reducible refine len_kids (fun _ => ?_)
             | with_reducible refine at_known (by assumption) (by omega) ?_
             | with_reducible refine at_kid (by omega) (by omega) (fun _ _ _ => ?_)
             | with_reducible refine tail_kids (by omega) (by omega) ?_
             | with_reducible refine slice_kids (by omega) (by omega) (by omega) ?_
             | with_reducible refine ex_wrap (by omega) (by omega) ?_
             | with_reducible refine quo_step (by decide) (by omega) (by omega) ?_
             | with_reducible refine rem_step (by decide) ?_
             | with_reducible refine nil_row (fun _ => ?_) ?_
             | with_reducible refine nil_row2 (fun _ => ?_) ?_
             | with_reducible refine len_toks (fun _ => ?_)
             | with_reducible refine len_ints (fun _ => ?_)
             | with_reducible refine tok_known (by assumption) (by omega) ?_
             | with_reducible refine at_tok (by omega) (by omega) (fun _ _ => ?_)
             | with_reducible refine at_int (by omega) (by omega) (fun _ _ => ?_)
             | with_reducible refine slice_ints (by omega) (by omega) (by omega) ?_
             | refine hf _ _ _ ?_
             | with_reducible refine draw_head ?_)
  all_goals conv => whnf
  all_goals try (have e := drop_at ‹l[Int.toNat k]? = some _›; rw [Int.toNat_natCast] at e; rw [e, idxF] at hi; clear e)
  all_goals first
   | (refine ⟨k + 1, ⟨by omega, ?_⟩, by omega, (by refine ⟨rfl, ?_, ?_, rfl⟩ <;> repeat' (first | exact trivial | exact rfl | refine And.intro ?_ ?_)), St.le_refl _⟩; clear h; simp_all)
   | (refine fin h ?_; clear h; simp_all; done)
   | (refine fin h ?_; rw [hi, List.drop_eq_nil_of_le (by omega)]; rfl)
theorem containsFunc_c {l : List Int} {f : FuncId} {p : Int → Bool} {own : Own} (hf : ∀ x (st : St) (R : Res → St → Prop), R (.ret (.bool (p x))) st → PC f [.int .i64 x] st R) (h : R (.ret (.bool (l.any p))) st) :
    PC 77 [.slice 1 (ints l) own, .func f [] []] st R := by
  refine pcalls_of_body tys_ok [] Try.func77 rfl (by decide) ?_
  refine indexFunc_c hf ?_
  have key := idxF_neg (p := p) (l := l) (i := 0) (by omega)
  refine bcase_dec (fun h1 => ?_) (fun h1 => ?_)
  · exact fin_bool h (key.1 h1)
  · refine fin_bool h ?_
    cases hc : l.any p with
    | false => rfl
    | true => exact absurd (key.2 hc) h1
theorem may1_c (x : Int) (st : St) (R : Res → St → Prop) (h : R (.ret (.bool (decide (x < 0)))) st) : PC 78 [.int .i64 x] st R := by
  refine pcalls_of_body tys_ok [] Try.func78 rfl (by decide) ?_
  repeat' (conv => whnf
           first
             | with_reducible exact quiet_same
             | with_reducible exact quiet_bool
             | with_reducible exact quiet_not
             | with_reducible refine draw_step (by kernel_rfl) ?_
             | with_reducible refine quiet_go ?_ ?_ ?_
             | with_reducible refine bcase_yes (by first | assumption | omega) ?_
             | with_reducible refine bcase_no (by first | assumption | omega) ?_
             | with_reducible refine bcase_dyes (by omega) ?_
             | with_reducible refine bcase_dno (by omega) ?_
             | with_reducible refine bcase_len (by decide) (fun _ => ?_) (fun _ => ?_)
             | with_reducible refine bcase_eq (fun _ => ?_) (fun _ => ?_)
             | with_reducible refine bcase_dec (fun _ => ?_) (fun _ => ?_)
             | with_reducible refine bcase_true ?_
             | with_reducible refine bcase_false ?_
             | with_reducible refine bcase_intro (fun _ => ?_) (fun _ => ?_)
             | with_reducible refine len_kids (fun _ => ?_)
             | with_reducible refine at_known (by assumption) (by omega) ?_
             | with_reducible refine at_kid (by omega) (by omega) (fun _ _ _ => ?_)
             | with_reducible refine tail_kids (by omega) (by omega) ?_
             | with_reducible refine slice_kids (by omega) (by omega) (by omega) ?_
             | with_reducible refine ex_wrap (by omega) (by omega) ?_
             | with_reducible refine quo_step (by decide) (by omega) (by omega) ?_
             | with_reducible refine rem_step (by decide) ?_
             | with_reducible refine nil_row (fun _ => ?_) ?_
             | with_reducible refine nil_row2 (fun _ => ?_) ?_
             | with_reducible refine len_toks (fun _ => ?_)
             | with_reducible refine len_ints (fun _ => ?_)
             | with_reducible refine tok_known (by assumption) (by omega) ?_
             | with_reducible refine at_tok (by omega) (by omega) (fun _ _ => ?_)
             | with_reducible refine at_int (by omega) (by omega) (fun _ _ => ?_)
             | with_reducible refine slice_ints (by omega) (by omega) (by omega) ?_
             | with_reducible refine draw_head ?_)
  all_goals exact fin_bool h (by simp_all)

/-- may a state be? -/
def mayF (s : Sta) : Bool :=
  decide (0 ≤ s.pos) && decide (s.pos ≤ s.toks.length) && decide (0 ≤ s.wait) && decide (s.wait ≤ 2) &&
  (decide (s.wait ≤ 0) || (match s.toks[s.pos.toNat]? with | some t => t.kind == 16 | none => false)) && !(s.opn.any fun x => decide (x < 0))
theorem may_c {s : Sta} (h : R (.ret (.bool (mayF s))) st) : PC 59 [encS s] st R := by
  refine pcalls_of_body tys_ok [] Try.func59 rfl (by decide) ?_
  repeat' (conv => whnf
           first
             | with_reducible exact quiet_same
             | with_reducible exact quiet_bool
             | with_reducible exact quiet_not
             | with_reducible refine draw_step (by kernel_rfl) ?_
             | with_reducible refine quiet_go ?_ ?_ ?_
             | with_reducible refine bcase_yes (by first | assumption | omega) ?_
             | with_reducible refine bcase_no (by first | assumption | omega) ?_
             | with_reducible refine bcase_dyes (by omega) ?_
             | with_reducible refine bcase_dno (by omega) ?_
             | with_reducible refine bcase_len (by decide) (fun _ => ?_) (fun _ => ?_)
             | with_reducible refine bcase_eq (fun _ => ?_) (fun _ => ?_)
             | with_reducible refine bcase_dec (fun _ => ?_) (fun _ => ?_)
             | with_reducible refine bcase_true ?_
             | with_reducible refine bcase_false ?_
             | with_reducible refine bcase_intro (fun _ => ?_) (fun _ => ?_)
             | with_reducible refine len_kids (fun _ => ?_)
             | with_reducible refine at_known (by assumption) (by omega) ?_
             | with_reducible refine at_kid (by omega) (by omega) (fun _ _ _ => ?_)
             | with_reducible refine tail_kids (by omega) (by omega) ?_
             | with_reducible refine slice_kids (by omega) (by omega) (by omega) ?_
             | with_reducible refine ex_wrap (by omega) (by omega) ?_
             | with_reducible refine quo_step (by decide) (by omega) (by omega) ?_
             | with_reducible refine rem_step (by decide) ?_
             | with_reducible refine nil_row (fun _ => ?_) ?_
             | with_reducible refine nil_row2 (fun _ => ?_) ?_
             | with_reducible refine len_toks (fun _ => ?_)
             | with_reducible refine len_ints (fun _ => ?_)
             | with_reducible refine tok_known (by assumption) (by omega) ?_
             | with_reducible refine at_tok (by omega) (by omega) (fun _ _ => ?_)
             | with_reducible refine at_int (by omega) (by omega) (fun _ _ => ?_)
             | with_reducible refine slice_ints (by omega) (by omega) (by omega) ?_
             | refine containsFunc_c (fun x st R h => may1_c x st R h) ?_
             | with_reducible refine draw_head ?_)
  all_goals conv => whnf
  all_goals refine fin_bool h ?_
  all_goals clear h
  all_goals unfold mayF
  all_goals first
   | (rw [show decide (0 ≤ s.pos) = false from decide_eq_false (by omega)]; simp only [Bool.false_and]; done)
   | (rw [show decide (s.pos ≤ s.toks.length) = false from decide_eq_false (by omega)]; simp only [Bool.false_and, Bool.and_false]; done)
   | (rw [show decide (0 ≤ s.wait) = false from decide_eq_false (by omega)]; simp only [Bool.false_and, Bool.and_false]; done)
   | (rw [show decide (s.wait ≤ 2) = false from decide_eq_false (by omega)]; simp only [Bool.false_and, Bool.and_false]; done)
   | (have hn : s.toks[s.pos.toNat]? = none := List.getElem?_eq_none (by omega)
      rw [hn, show decide (s.wait ≤ 0) = false from decide_eq_false (by omega)]; simp only [Bool.false_and, Bool.and_false, Bool.or_false]; done)
   | (rw [show decide (0 ≤ s.pos) = true from decide_eq_true (by omega), show decide (s.pos ≤ s.toks.length) = true from decide_eq_true (by omega), show decide (0 ≤ s.wait) = true from decide_eq_true (by omega), show decide (s.wait ≤ 2) = true from decide_eq_true (by omega)]
      first
       | (rw [show decide (s.wait ≤ 0) = true from decide_eq_true (by omega)]; simp_all; done)
       | (rw [show decide (s.wait ≤ 0) = false from decide_eq_false (by omega)]; simp_all; done))
  all_goals trace_state

/-- a mark where a block may begin -/
def beginF (t : Tk) (s : Sta) : Tk × Sta :=
  if s.wait = 1 then (unwF 20 t, { s with wait := 2 })
  else if topF s < t.col then (unwF 18 t, { openedF s t.col with pos := s.pos + 1 })
  else (unwF 18 t, { s with wait := 1 })
def encTS (p : Tk × Sta) : V := .tup [encT p.1, encS p.2]
theorem begin_c {t : Tk} {s : Sta} (hp : 0 ≤ s.pos ∧ s.pos ≤ 4611686018427387904) (hb : s.opn.length ≤ 500000000) (h : R (.ret (encTS (beginF t s))) st) : PC 60 [encT t, encS s] st R := by
  refine pcalls_of_body tys_ok [] Try.func60 rfl (by decide) ?_
  repeat' (conv => whnf
           first
             | with_reducible exact quiet_same
             | with_reducible exact quiet_bool
             | with_reducible exact quiet_not
             | with_reducible refine draw_step (by kernel_rfl) ?_
             | with_reducible refine quiet_go ?_ ?_ ?_
             | with_reducible refine bcase_yes (by first | assumption | omega) ?_
             | with_reducible refine bcase_no (by first | assumption | omega) ?_
             | with_reducible refine bcase_dyes (by omega) ?_
             | with_reducible refine bcase_dno (by omega) ?_
             | with_reducible refine bcase_len (by decide) (fun _ => ?_) (fun _ => ?_)
             | with_reducible refine bcase_eq (fun _ => ?_) (fun _ => ?_)
             | with_reducible refine bcase_dec (fun _ => ?_) (fun _ => ?_)
             | with_reducible refine bcase_true ?_
             | with_reducible refine bcase_false ?_
             | with_reducible refine bcase_intro (fun _ => ?_) (fun _ => ?_)
             | with_reducible refine len_kids (fun _ => ?_)
             | with_reducible refine at_known (by assumption) (by omega) ?_
             | with_reducible refine at_kid (by omega) (by omega) (fun _ _ _ => ?_)
             | with_reducible refine tail_kids (by omega) (by omega) ?_
             | with_reducible refine slice_kids (by omega) (by omega) (by omega) ?_
             | with_reducible refine ex_wrap (by omega) (by omega) ?_
             | with_reducible refine quo_step (by decide) (by omega) (by omega) ?_
             | with_reducible refine rem_step (by decide) ?_
             | with_reducible refine nil_row (fun _ => ?_) ?_
             | with_reducible refine nil_row2 (fun _ => ?_) ?_
             | with_reducible refine len_toks (fun _ => ?_)
             | with_reducible refine len_ints (fun _ => ?_)
             | with_reducible refine tok_known (by assumption) (by omega) ?_
             | with_reducible refine at_tok (by omega) (by omega) (fun _ _ => ?_)
             | with_reducible refine at_int (by omega) (by omega) (fun _ _ => ?_)
             | with_reducible refine slice_ints (by omega) (by omega) (by omega) ?_
             | refine unwritten_c (t := t) ?_
             | refine top_c (s := s) ?_
             | refine opened_c (s := s) hb ?_
             | refine ex_wrap (a := s.pos + 1) (by omega) (by omega) ?_
             | with_reducible refine draw_head ?_)
  all_goals unfold beginF at h
  · rw [if_pos (by assumption)] at h; exact finw rfl h
  · rw [if_neg (by assumption), if_pos (by assumption)] at h; exact finw rfl h
  · rw [if_neg (by assumption), if_neg (by assumption)] at h; exact finw rfl h

/-- the mark of a line; a token of no kind: it tells nothing -/
def lineF (t : Tk) (s : Sta) : Tk × Sta :=
  if 0 < topF s ∧ t.col < topF s then (unwF 20 t, closedF s)
  else if 0 < topF s ∧ t.col = topF s then (unwF 19 t, { s with pos := s.pos + 1, wait := 0 })
  else (tk0, { s with pos := s.pos + 1, wait := 0 })
theorem topF_open {s : Sta} (h : 0 < topF s) : s.opn ≠ [] := fun e => by simp [topF, e] at h
theorem line_c {t : Tk} {s : Sta} (hp : 0 ≤ s.pos ∧ s.pos ≤ 4611686018427387904) (hb : s.opn.length ≤ 500000000) (h : R (.ret (encTS (lineF t s))) st) : PC 61 [encT t, encS s] st R := by
  refine pcalls_of_body tys_ok [] Try.func61 rfl (by decide) ?_
  repeat' (conv => whnf
           first
             | with_reducible exact quiet_same
             | with_reducible exact quiet_bool
             | with_reducible exact quiet_not
             | with_reducible refine draw_step (by kernel_rfl) ?_
             | with_reducible refine quiet_go ?_ ?_ ?_
             | with_reducible refine bcase_yes (by first | assumption | omega) ?_
             | with_reducible refine bcase_no (by first | assumption | omega) ?_
             | with_reducible refine bcase_dyes (by omega) ?_
             | with_reducible refine bcase_dno (by omega) ?_
             | with_reducible refine bcase_len (by decide) (fun _ => ?_) (fun _ => ?_)
             | with_reducible refine bcase_eq (fun _ => ?_) (fun _ => ?_)
             | with_reducible refine bcase_dec (fun _ => ?_) (fun _ => ?_)
             | with_reducible refine bcase_true ?_
             | with_reducible refine bcase_false ?_
             | with_reducible refine bcase_intro (fun _ => ?_) (fun _ => ?_)
             | with_reducible refine len_kids (fun _ => ?_)
             | with_reducible refine at_known (by assumption) (by omega) ?_
             | with_reducible refine at_kid (by omega) (by omega) (fun _ _ _ => ?_)
             | with_reducible refine tail_kids (by omega) (by omega) ?_
             | with_reducible refine slice_kids (by omega) (by omega) (by omega) ?_
             | with_reducible refine ex_wrap (by omega) (by omega) ?_
             | with_reducible refine quo_step (by decide) (by omega) (by omega) ?_
             | with_reducible refine rem_step (by decide) ?_
             | with_reducible refine nil_row (fun _ => ?_) ?_
             | with_reducible refine nil_row2 (fun _ => ?_) ?_
             | with_reducible refine len_toks (fun _ => ?_)
             | with_reducible refine len_ints (fun _ => ?_)
             | with_reducible refine tok_known (by assumption) (by omega) ?_
             | with_reducible refine at_tok (by omega) (by omega) (fun _ _ => ?_)
             | with_reducible refine at_int (by omega) (by omega) (fun _ _ => ?_)
             | with_reducible refine slice_ints (by omega) (by omega) (by omega) ?_
             | refine unwritten_c (t := t) ?_
             | refine top_c (s := s) ?_
             | refine closed_c (s := s) (topF_open (by omega)) hb ?_
             | refine ex_wrap (a := s.pos + 1) (by omega) (by omega) ?_
             | with_reducible refine draw_head ?_)
  all_goals unfold lineF at h
  all_goals first
    | (rw [if_pos ⟨by omega, by omega⟩] at h; exact finw rfl h)
    | (rw [if_neg (by omega), if_pos ⟨by omega, by omega⟩] at h; exact finw rfl h)
    | (rw [if_neg (by omega), if_neg (by omega)] at h; exact finw rfl h)
  all_goals trace_state

def braceF (t : Tk) (s : Sta) : Tk × Sta × Int :=
  if t.kind = 15 ∧ t.text = [123] then (t, { openedF s 0 with pos := s.pos + 1 }, 0)
  else if t.kind = 15 ∧ t.text = [125] then
    if s.opn = [] ∨ topF s ≠ 0 then (tk0, s, 90) else (t, { closedF s with pos := s.pos + 1 }, 0)
  else (t, { s with pos := s.pos + 1 }, 0)
def encTSE (p : Tk × Sta × Int) : V := .tup [encT p.1, encS p.2.1, .int .i64 p.2.2]
theorem ne_of_len {l : List Int} (h : ¬ l.length = Int.toNat 0) : l ≠ [] := fun e => h (by rw [e]; rfl)
theorem of_len {l : List Int} (h : l.length = Int.toNat 0) : l = [] := List.length_eq_zero_iff.1 (by rw [h]; rfl)
theorem brace_c {t : Tk} {s : Sta} (hp : 0 ≤ s.pos ∧ s.pos ≤ 4611686018427387904) (hb : s.opn.length ≤ 500000000) (h : R (.ret (encTSE (braceF t s))) st) : PC 62 [encT t, encS s] st R := by
  refine pcalls_of_body tys_ok [] Try.func62 rfl (by decide) ?_
  repeat' (conv => whnf
           first
             | with_reducible exact quiet_same
             | with_reducible exact quiet_bool
             | with_reducible exact quiet_not
             | with_reducible refine draw_step (by kernel_rfl) ?_
             | with_reducible refine quiet_go ?_ ?_ ?_
             | with_reducible refine bcase_yes (by first | assumption | omega) ?_
             | with_reducible refine bcase_no (by first | assumption | omega) ?_
             | with_reducible refine bcase_dyes (by omega) ?_
             | with_reducible refine bcase_dno (by omega) ?_
             | with_reducible refine bcase_len (by decide) (fun _ => ?_) (fun _ => ?_)
             | with_reducible refine bcase_eq (fun _ => ?_) (fun _ => ?_)
             | with_reducible refine bcase_dec (fun _ => ?_) (fun _ => ?_)
             | with_reducible refine bcase_true ?_
             | with_reducible refine bcase_false ?_
             | with_reducible refine bcase_intro (fun _ => ?_) (fun _ => ?_)
             | with_reducible refine len_kids (fun _ => ?_)
             | with_reducible refine at_known (by assumption) (by omega) ?_
             | with_reducible refine at_kid (by omega) (by omega) (fun _ _ _ => ?_)
             | with_reducible refine tail_kids (by omega) (by omega) ?_
             | with_reducible refine slice_kids (by omega) (by omega) (by omega) ?_
             | with_reducible refine ex_wrap (by omega) (by omega) ?_
             | with_reducible refine quo_step (by decide) (by omega) (by omega) ?_
             | with_reducible refine rem_step (by decide) ?_
             | with_reducible refine nil_row (fun _ => ?_) ?_
             | with_reducible refine nil_row2 (fun _ => ?_) ?_
             | with_reducible refine len_toks (fun _ => ?_)
             | with_reducible refine len_ints (fun _ => ?_)
             | with_reducible refine tok_known (by assumption) (by omega) ?_
             | with_reducible refine at_tok (by omega) (by omega) (fun _ _ => ?_)
             | with_reducible refine at_int (by omega) (by omega) (fun _ _ => ?_)
             | with_reducible refine slice_ints (by omega) (by omega) (by omega) ?_
             | refine top_c (s := s) ?_
             | refine opened_c (s := s) hb ?_
             | refine closed_c (s := s) (ne_of_len (by assumption)) hb ?_
             | refine ex_wrap (a := s.pos + 1) (by omega) (by omega) ?_
             | with_reducible refine draw_head ?_)
  all_goals unfold braceF at h
  all_goals first
    | (rw [if_pos ⟨by assumption, by assumption⟩] at h; exact finw rfl h)
    | (rw [if_neg (fun e => absurd e.2 (by assumption)), if_pos ⟨by assumption, by assumption⟩, if_pos (.inl (of_len (by assumption)))] at h; exact finw rfl h)
    | (rw [if_neg (fun e => absurd e.2 (by assumption)), if_pos ⟨by assumption, by assumption⟩, if_pos (.inr (by assumption))] at h; exact finw rfl h)
    | (rw [if_neg (fun e => absurd e.2 (by assumption)), if_pos ⟨by assumption, by assumption⟩, if_neg (fun e => e.elim (ne_of_len (by assumption)) (fun e => e (by assumption)))] at h; exact finw rfl h)
    | (rw [if_neg (fun e => absurd e.1 (by assumption)), if_neg (fun e => absurd e.1 (by assumption))] at h; exact finw rfl h)
    | (rw [if_neg (fun e => absurd e.2 (by assumption)), if_neg (fun e => absurd e.2 (by assumption))] at h; exact finw rfl h)
  all_goals trace_state

def endF (s : Sta) : Tk × Sta × Int :=
  if s.opn = [] then (⟨21, [], 0, 0⟩, s, 0) else if 0 < topF s then (⟨20, [], 0, 0⟩, closedF s, 0) else (tk0, s, 90)
theorem end_c {s : Sta} (hb : s.opn.length ≤ 500000000) (h : R (.ret (encTSE (endF s))) st) : PC 63 [encS s] st R := by
  refine pcalls_of_body tys_ok [] Try.func63 rfl (by decide) ?_
  repeat' (conv => whnf
           first
             | with_reducible exact quiet_same
             | with_reducible exact quiet_bool
             | with_reducible exact quiet_not
             | with_reducible refine draw_step (by kernel_rfl) ?_
             | with_reducible refine quiet_go ?_ ?_ ?_
             | with_reducible refine bcase_yes (by first | assumption | omega) ?_
             | with_reducible refine bcase_no (by first | assumption | omega) ?_
             | with_reducible refine bcase_dyes (by omega) ?_
             | with_reducible refine bcase_dno (by omega) ?_
             | with_reducible refine bcase_len (by decide) (fun _ => ?_) (fun _ => ?_)
             | with_reducible refine bcase_eq (fun _ => ?_) (fun _ => ?_)
             | with_reducible refine bcase_dec (fun _ => ?_) (fun _ => ?_)
             | with_reducible refine bcase_true ?_
             | with_reducible refine bcase_false ?_
             | with_reducible refine bcase_intro (fun _ => ?_) (fun _ => ?_)
             | with_reducible refine len_kids (fun _ => ?_)
             | with_reducible refine at_known (by assumption) (by omega) ?_
             | with_reducible refine at_kid (by omega) (by omega) (fun _ _ _ => ?_)
             | with_reducible refine tail_kids (by omega) (by omega) ?_
             | with_reducible refine slice_kids (by omega) (by omega) (by omega) ?_
             | with_reducible refine ex_wrap (by omega) (by omega) ?_
             | with_reducible refine quo_step (by decide) (by omega) (by omega) ?_
             | with_reducible refine rem_step (by decide) ?_
             | with_reducible refine nil_row (fun _ => ?_) ?_
             | with_reducible refine nil_row2 (fun _ => ?_) ?_
             | with_reducible refine len_toks (fun _ => ?_)
             | with_reducible refine len_ints (fun _ => ?_)
             | with_reducible refine tok_known (by assumption) (by omega) ?_
             | with_reducible refine at_tok (by omega) (by omega) (fun _ _ => ?_)
             | with_reducible refine at_int (by omega) (by omega) (fun _ _ => ?_)
             | with_reducible refine slice_ints (by omega) (by omega) (by omega) ?_
             | refine top_c (s := s) ?_
             | refine closed_c (s := s) (ne_of_len (by assumption)) hb ?_
             | with_reducible refine draw_head ?_)
  all_goals unfold endF at h
  all_goals first
    | (rw [if_pos (of_len (by assumption))] at h; exact finw rfl h)
    | (rw [if_neg (ne_of_len (by assumption)), if_pos (by assumption)] at h; exact finw rfl h)
    | (rw [if_neg (ne_of_len (by assumption)), if_neg (by assumption)] at h; exact finw rfl h)
  all_goals trace_state
end
end Go.Proofs.Ytngbihfihdheoaa
