/-
  LAYOUT: tokens and states as plain data; what the small functions of the layers 'layout' and 'ref09' come to.
-/
import Derived.Test.YtngbihfihdheoaaTy
import Derived.Test.YtngbihfihdheoaaNode
import Derived.Test.YtngbihfihdheoaaAw18
import Derived.IntWalk
set_option linter.unusedVariables false
set_option pp.maxSteps 400
namespace Go.Aw
theorem bcase_yes {α : Type} [BEq α] [LawfulBEq α] {a b : α} {p q : Prop} (e : a = b) (h : p) : bcase (a == b) p q := bcase_eq (fun _ => h) (fun n => absurd e n)
theorem bcase_no {α : Type} [BEq α] [LawfulBEq α] {a b : α} {p q : Prop} (e : ¬ a = b) (h : q) : bcase (a == b) p q := bcase_eq (fun n => absurd n e) (fun _ => h)
theorem bcase_dyes {c : Prop} [Decidable c] {p q : Prop} (e : c) (h : p) : bcase (decide c) p q := bcase_dec (fun _ => h) (fun n => absurd e n)
theorem bcase_dno {c : Prop} [Decidable c] {p q : Prop} (e : ¬ c) (h : q) : bcase (decide c) p q := bcase_dec (fun n => absurd n e) (fun _ => h)
end Go.Aw
namespace Go.Proofs.Ytngbihfihdheoaa
open Go Go.Aw

abbrev PC (f : FuncId) (args : List V) (st : St) (R : Res → St → Prop) : Prop := PCalls Try.prog f args st R

structure Tk where
  kind : Int
  text : List UInt8
  line : Int
  col : Int
structure Sta where
  toks : List Tk
  pos : Int
  opn : List Int
  wait : Int
/-- a token's cells -/
def Tk.cells (t : Tk) : List V := [.int .i64 t.kind, .str t.text, .int .i64 t.line, .int .i64 t.col]
def encT (t : Tk) : V := .agg t.cells
def encTs (l : List Tk) : List (List V) := l.map Tk.cells
/-- a state's cells -/
def Sta.cells (s : Sta) : List V := [.slice 4 (encTs s.toks) .any, .int .i64 s.pos, .slice 1 (ints s.opn) .any, .int .i64 s.wait]
def encS (s : Sta) : V := .agg s.cells
def tk0 : Tk := ⟨0, [], 0, 0⟩
def sta0 : Sta := ⟨[], 0, [], 0⟩

theorem toks_length (l : List Tk) : (encTs l).length = l.length := by simp [encTs]
theorem ints_length (l : List Int) : (ints l).length = l.length := by simp [ints]
theorem len_toks {l : List Tk} {K : Nat → Prop} (k : l.length < 4611686018427387904 → K l.length) : ∀ m, m = (encTs l).length → m < lim → K m := fun m hm h => by
  rw [toks_length] at hm; subst hm; exact k h
theorem len_ints {l : List Int} {K : Nat → Prop} (k : l.length < 4611686018427387904 → K l.length) : ∀ m, m = (ints l).length → m < lim → K m := fun m hm h => by
  rw [ints_length] at hm; subst hm; exact k h
theorem at_tok {l : List Tk} {i : Int} {K : List V → Prop} (h0 : 0 ≤ i) (h1 : i < l.length) (k : ∀ x, l[i.toNat]? = some x → K x.cells) : 0 ≤ i ∧ ∃ e, (encTs l)[i.toNat]? = some e ∧ K e := by
  have hlt : i.toNat < l.length := by omega
  exact ⟨h0, l[i.toNat].cells, by simp [encTs, hlt], k _ (List.getElem?_eq_getElem hlt)⟩
theorem tok_known {l : List Tk} {i : Int} {x : Tk} {K : List V → Prop} (h : l[i.toNat]? = some x) (h0 : 0 ≤ i) (k : K x.cells) : 0 ≤ i ∧ ∃ e, (encTs l)[i.toNat]? = some e ∧ K e :=
  ⟨h0, x.cells, by simp [encTs, h], k⟩
theorem at_int {l : List Int} {i : Int} {K : List V → Prop} (h0 : 0 ≤ i) (h1 : i < l.length) (k : ∀ x, l[i.toNat]? = some x → K [.int .i64 x]) : 0 ≤ i ∧ ∃ e, (ints l)[i.toNat]? = some e ∧ K e := by
  have hlt : i.toNat < l.length := by omega
  exact ⟨h0, [.int .i64 l[i.toNat]], by simp [ints, hlt], k _ (List.getElem?_eq_getElem hlt)⟩
theorem slice_ints {l : List Int} {a b : Int} {K : List (List V) → Prop} (h0 : 0 ≤ a) (h1 : a ≤ b) (h2 : b ≤ l.length) (k : K (ints ((l.take b.toNat).drop a.toNat))) :
    (0 ≤ a ∧ a ≤ b ∧ b ≤ (ints l).length) ∧ ∀ es', es' = (((ints l).take b.toNat).drop a.toNat) → K es' := by
  refine ⟨⟨h0, h1, by rw [ints_length]; exact h2⟩, fun es' e => ?_⟩
  have : ((ints l).take b.toNat).drop a.toNat = ints ((l.take b.toNat).drop a.toNat) := by simp [ints, List.map_drop, List.map_take]
  rw [this] at e; subst e; exact k

theorem nil_row {es : List (List V)} {K : Bool → Prop} (h : es = [] → K true) (k : K false) : ∀ b, (b = true → es = []) → K b
  | true, e => h (e rfl)
  | false, _ => k
theorem nil_row2 {es : List (List V)} {K : Bool → Prop} (h : es = [] → K false) (k : K true) : ∀ b, (b = false → es = []) → K b
  | false, e => h (e rfl)
  | true, _ => k
theorem app_ints {l new : List Int} {own : Own} {st : St} {K : V → St → Prop} (h : own.good st) (hb : l.length + new.length ≤ 1000000000)
    (k : ∀ own' : Own, own'.good st → K (.slice 1 (ints (l ++ new)) own') (own'.st st (l ++ new).length)) : appendTo 1 8 (ints l) own (ints new) (own.st st l.length) K := by
  have hw : (ints new).map (·.map V.wk0) = ints new := by
    simp only [ints, List.map_map]
    exact List.map_congr_left fun x _ => rfl
  have hsc : ((ints new).all fun v => v.all V.sc) = true := by
    simp only [ints, List.all_map, List.all_eq_true]
    exact fun x _ => rfl
  have := appendTo_own (sz := 1) (bytes := 8) (es := ints l) (new := ints new) (K := K) h (by rw [ints_length, ints_length]; omega) (by rw [ints_length, ints_length]; simp only [lim]; omega) hsc (fun own' ho => by
    have := k own' ho
    rw [ints_length, ints_length, hw, ← show ints (l ++ new) = ints l ++ ints new from by simp [ints], ← List.length_append, Nat.mul_one]
    exact this)
  rw [ints_length, Nat.mul_one] at this
  exact this

theorem app_ints_e {l new new' : List Int} {own : Own} {st : St} {K : V → St → Prop} (e : new' = new) (h : own.good st) (hb : l.length + new.length ≤ 1000000000)
    (k : ∀ own' : Own, own'.good st → K (.slice 1 (ints (l ++ new)) own') (own'.st st (l ++ new).length)) : appendTo 1 8 (ints l) own (ints new') (own.st st l.length) K := e ▸ app_ints h hb k

/-- the innermost block's column -/
def topF (s : Sta) : Int := (s.opn.getLast?).getD 0
theorem topF_nil {s : Sta} (h : ¬ (s.opn.length : Int) > 0) : topF s = 0 := by
  have : s.opn = [] := List.length_eq_zero_iff.1 (by omega)
  simp [topF, this]
theorem topF_last {s : Sta} {x : Int} (h : s.opn[((s.opn.length : Int) - 1).toNat]? = some x) : topF s = x := by
  have e : ((s.opn.length : Int) - 1).toNat = s.opn.length - 1 := by omega
  rw [e] at h
  simp [topF, List.getLast?_eq_getElem?, h]

section
variable {st : St} {R : Res → St → Prop}

/-- the end of a walk that has made memory that nobody sees -/
theorem finl {r r' : Res} {st' : St} (hs : st.le st') (e : r = r'.wk) (h : R r st) : ∃ r2 st2, (r2 = r' ∨ r2 = r'.wk) ∧ St.le st2 st' ∧ R r2 st2 := ⟨r, st, .inr e, hs, h⟩

theorem top_c {s : Sta} (h : R (.ret (.int .i64 (topF s))) st) : PC 80 [encS s] st R := by
  refine pcalls_of_body tys_ok [] Try.func80 rfl (by decide) ?_
  repeat' (conv => whnf
           first
             | with_reducible exact quiet_same
             | with_reducible exact quiet_bool
             | with_reducible exact quiet_not
             | with_reducible refine draw_step (by kernel_rfl) ?_
             | with_reducible refine quiet_go ?_ ?_ ?_
             | with_reducible refine bcase_yes (by first | assumption | omega) ?_
             | with_reducible refine bcase_no (by first | assumption | omega) ?_
             | with_reducible refine bcase_dyes (by omega) ?_
             | with_reducible refine bcase_dno (by omega) ?_
             | with_reducible refine bcase_len (by decide) (fun _ => ?_) (fun _ => ?_)
             | with_reducible refine bcase_eq (fun _ => ?_) (fun _ => ?_)
             | with_reducible refine bcase_dec (fun _ => ?_) (fun _ => ?_)
             | with_reducible refine bcase_true ?_
             | with_reducible refine bcase_false ?_
             | with_reducible refine bcase_intro (fun _ => ?_) (fun _ => ?_)
             | with_reducible refine len_kids (fun _ => ?_)
             | with_reducible refine at_known (by assumption) (by omega) ?_
             | with_reducible refine at_kid (by omega) (by omega) (fun _ _ _ => ?_)
             | with_reducible refine tail_kids (by omega) (by omega) ?_
             | with_reducible refine slice_kids (by omega) (by omega) (by omega) ?_
             | with_reducible refine ex_wrap (by omega) (by omega) ?_
             | with_reducible refine quo_step (by decide) (by omega) (by omega) ?_
             | with_reducible refine rem_step (by decide) ?_
             | with_reducible refine nil_row (fun _ => ?_) ?_
             | with_reducible refine nil_row2 (fun _ => ?_) ?_
             | with_reducible refine len_toks (fun _ => ?_)
             | with_reducible refine len_ints (fun _ => ?_)
             | with_reducible refine tok_known (by assumption) (by omega) ?_
             | with_reducible refine at_tok (by omega) (by omega) (fun _ _ => ?_)
             | with_reducible refine at_int (by omega) (by omega) (fun _ _ => ?_)
             | with_reducible refine slice_ints (by omega) (by omega) (by omega) ?_
             | with_reducible refine draw_head ?_)
  · exact fin h (by rw [topF_last (by assumption)])
  · exact fin h (by rw [topF_nil (by omega)])

/-- a token that nobody wrote, where another one stands -/
def unwF (k : Int) (t : Tk) : Tk := ⟨k, [], t.line, t.col⟩
theorem unwritten_c {k : Int} {t : Tk} (h : R (.ret (encT (unwF k t))) st) : PC 79 [.int .i64 k, encT t] st R := by
  refine pcalls_of_body tys_ok [] Try.func79 rfl (by decide) ?_
  repeat' (conv => whnf
           first
             | with_reducible exact quiet_same
             | with_reducible exact quiet_bool
             | with_reducible exact quiet_not
             | with_reducible refine draw_step (by kernel_rfl) ?_
             | with_reducible refine quiet_go ?_ ?_ ?_
             | with_reducible refine bcase_yes (by first | assumption | omega) ?_
             | with_reducible refine bcase_no (by first | assumption | omega) ?_
             | with_reducible refine bcase_dyes (by omega) ?_
             | with_reducible refine bcase_dno (by omega) ?_
             | with_reducible refine bcase_len (by decide) (fun _ => ?_) (fun _ => ?_)
             | with_reducible refine bcase_eq (fun _ => ?_) (fun _ => ?_)
             | with_reducible refine bcase_dec (fun _ => ?_) (fun _ => ?_)
             | with_reducible refine bcase_true ?_
             | with_reducible refine bcase_false ?_
             | with_reducible refine bcase_intro (fun _ => ?_) (fun _ => ?_)
             | with_reducible refine len_kids (fun _ => ?_)
             | with_reducible refine at_known (by assumption) (by omega) ?_
             | with_reducible refine at_kid (by omega) (by omega) (fun _ _ _ => ?_)
             | with_reducible refine tail_kids (by omega) (by omega) ?_
             | with_reducible refine slice_kids (by omega) (by omega) (by omega) ?_
             | with_reducible refine ex_wrap (by omega) (by omega) ?_
             | with_reducible refine quo_step (by decide) (by omega) (by omega) ?_
             | with_reducible refine rem_step (by decide) ?_
             | with_reducible refine nil_row (fun _ => ?_) ?_
             | with_reducible refine nil_row2 (fun _ => ?_) ?_
             | with_reducible refine len_toks (fun _ => ?_)
             | with_reducible refine len_ints (fun _ => ?_)
             | with_reducible refine tok_known (by assumption) (by omega) ?_
             | with_reducible refine at_tok (by omega) (by omega) (fun _ _ => ?_)
             | with_reducible refine at_int (by omega) (by omega) (fun _ _ => ?_)
             | with_reducible refine slice_ints (by omega) (by omega) (by omega) ?_
             | with_reducible refine draw_head ?_)
  all_goals exact fin h rfl

attribute [local irreducible] Go.Aw.appendTo
theorem clone_c {l : List Int} {own : Own} (hb : l.length ≤ 1000000000) (h : ∀ own' : Own, own'.good st → R (.ret (.slice 1 (ints l) own')) (own'.st st l.length)) : PC 85 [.slice 1 (ints l) own] st R := by
  refine pcalls_of_body tys_ok [] Try.func85 rfl (by decide) ?_
  repeat' (conv => whnf
           first
             | with_reducible exact quiet_same
             | with_reducible exact quiet_bool
             | with_reducible exact quiet_not
             | with_reducible refine draw_step (by kernel_rfl) ?_
             | with_reducible refine quiet_go ?_ ?_ ?_
             | with_reducible refine bcase_yes (by first | assumption | omega) ?_
             | with_reducible refine bcase_no (by first | assumption | omega) ?_
             | with_reducible refine bcase_dyes (by omega) ?_
             | with_reducible refine bcase_dno (by omega) ?_
             | with_reducible refine bcase_len (by decide) (fun _ => ?_) (fun _ => ?_)
             | with_reducible refine bcase_eq (fun _ => ?_) (fun _ => ?_)
             | with_reducible refine bcase_dec (fun _ => ?_) (fun _ => ?_)
             | with_reducible refine bcase_true ?_
             | with_reducible refine bcase_false ?_
             | with_reducible refine bcase_intro (fun _ => ?_) (fun _ => ?_)
             | with_reducible refine len_kids (fun _ => ?_)
             | with_reducible refine at_known (by assumption) (by omega) ?_
             | with_reducible refine at_kid (by omega) (by omega) (fun _ _ _ => ?_)
             | with_reducible refine tail_kids (by omega) (by omega) ?_
             | with_reducible refine slice_kids (by omega) (by omega) (by omega) ?_
             | with_reducible refine ex_wrap (by omega) (by omega) ?_
             | with_reducible refine quo_step (by decide) (by omega) (by omega) ?_
             | with_reducible refine rem_step (by decide) ?_
             | with_reducible refine nil_row (fun _ => ?_) ?_
             | with_reducible refine nil_row2 (fun _ => ?_) ?_
             | with_reducible refine len_toks (fun _ => ?_)
             | with_reducible refine len_ints (fun _ => ?_)
             | with_reducible refine tok_known (by assumption) (by omega) ?_
             | with_reducible refine at_tok (by omega) (by omega) (fun _ _ => ?_)
             | with_reducible refine at_int (by omega) (by omega) (fun _ _ => ?_)
             | with_reducible refine slice_ints (by omega) (by omega) (by omega) ?_
             | with_reducible refine draw_head ?_)
  · have : l = [] := by simpa [ints] using ‹ints l = []›
    subst this
    exact fin (h .full trivial) rfl
  · exact app_ints (l := []) (own := .full) trivial (by simp only [List.length_nil]; omega) fun own' ho => fin (h own' ho) rfl

theorem clone_e {l l' : List Int} {own : Own} (e : l' = l) (hb : l.length ≤ 1000000000) (h : ∀ own' : Own, own'.good st → R (.ret (.slice 1 (ints l) own')) (own'.st st l.length)) : PC 85 [.slice 1 (ints l') own] st R := e ▸ clone_c hb h

def openedF (s : Sta) (c : Int) : Sta := { s with opn := s.opn ++ [c] }
theorem opened_c {s : Sta} {c : Int} (hb : s.opn.length ≤ 500000000) (h : R (.ret (encS (openedF s c))) st) : PC 81 [encS s, .int .i64 c] st R := by
  refine pcalls_of_body tys_ok [] Try.func81 rfl (by decide) ?_
  have hb2 : s.opn.length + [c].length ≤ 1000000000 := by simp only [List.length_singleton]; omega
  repeat' (conv => whnf
           first
             | with_reducible exact quiet_same
             | with_reducible exact quiet_bool
             | with_reducible exact quiet_not
             | with_reducible refine draw_step (by kernel_rfl) ?_
             | with_reducible refine quiet_go ?_ ?_ ?_
             | with_reducible refine bcase_yes (by first | assumption | omega) ?_
             | with_reducible refine bcase_no (by first | assumption | omega) ?_
             | with_reducible refine bcase_dyes (by omega) ?_
             | with_reducible refine bcase_dno (by omega) ?_
             | with_reducible refine bcase_len (by decide) (fun _ => ?_) (fun _ => ?_)
             | with_reducible refine bcase_eq (fun _ => ?_) (fun _ => ?_)
             | with_reducible refine bcase_dec (fun _ => ?_) (fun _ => ?_)
             | with_reducible refine bcase_true ?_
             | with_reducible refine bcase_false ?_
             | with_reducible refine bcase_intro (fun _ => ?_) (fun _ => ?_)
             | with_reducible refine len_kids (fun _ => ?_)
             | with_reducible refine at_known (by assumption) (by omega) ?_
             | with_reducible refine at_kid (by omega) (by omega) (fun _ _ _ => ?_)
             | with_reducible refine tail_kids (by omega) (by omega) ?_
             | with_reducible refine slice_kids (by omega) (by omega) (by omega) ?_
             | with_reducible refine ex_wrap (by omega) (by omega) ?_
             | with_reducible refine quo_step (by decide) (by omega) (by omega) ?_
             | with_reducible refine rem_step (by decide) ?_
             | with_reducible refine nil_row (fun _ => ?_) ?_
             | with_reducible refine nil_row2 (fun _ => ?_) ?_
             | with_reducible refine len_toks (fun _ => ?_)
             | with_reducible refine len_ints (fun _ => ?_)
             | with_reducible refine tok_known (by assumption) (by omega) ?_
             | with_reducible refine at_tok (by omega) (by omega) (fun _ _ => ?_)
             | with_reducible refine at_int (by omega) (by omega) (fun _ _ => ?_)
             | with_reducible refine slice_ints (by omega) (by omega) (by omega) ?_
             | refine clone_c (by omega) (fun own ho => ?_)
             | refine app_ints (new := [c]) ho hb2 (fun own' ho' => ?_)
             | with_reducible refine draw_head ?_)
  all_goals exact finl (Own.good_le ho') rfl h

def closedF (s : Sta) : Sta := { s with opn := s.opn.dropLast }
theorem closed_c {s : Sta} (h0 : s.opn ≠ []) (hb : s.opn.length ≤ 500000000) (h : R (.ret (encS (closedF s))) st) : PC 82 [encS s] st R := by
  refine pcalls_of_body tys_ok [] Try.func82 rfl (by decide) ?_
  have hl : 0 < s.opn.length := List.length_pos_iff.2 h0
  have hd : (s.opn.take (((s.opn.length : Int) - 1).toNat)).drop (0 : Int).toNat = s.opn.dropLast := by
    rw [show (0 : Int).toNat = 0 from rfl, List.drop_zero, List.dropLast_eq_take]
    congr 1
    omega
  have hb2 : s.opn.dropLast.length ≤ 1000000000 := by rw [List.length_dropLast]; omega
  repeat' (conv => whnf
           first
             | with_reducible exact quiet_same
             | with_reducible exact quiet_bool
             | with_reducible exact quiet_not
             | with_reducible refine draw_step (by kernel_rfl) ?_
             | with_reducible refine quiet_go ?_ ?_ ?_
             | with_reducible refine bcase_yes (by first | assumption | omega) ?_
             | with_reducible refine bcase_no (by first | assumption | omega) ?_
             | with_reducible refine bcase_dyes (by omega) ?_
             | with_reducible refine bcase_dno (by omega) ?_
             | with_reducible refine bcase_len (by decide) (fun _ => ?_) (fun _ => ?_)
             | with_reducible refine bcase_eq (fun _ => ?_) (fun _ => ?_)
             | with_reducible refine bcase_dec (fun _ => ?_) (fun _ => ?_)
             | with_reducible refine bcase_true ?_
             | with_reducible refine bcase_false ?_
             | with_reducible refine bcase_intro (fun _ => ?_) (fun _ => ?_)
             | with_reducible refine len_kids (fun _ => ?_)
             | with_reducible refine at_known (by assumption) (by omega) ?_
             | with_reducible refine at_kid (by omega) (by omega) (fun _ _ _ => ?_)
             | with_reducible refine tail_kids (by omega) (by omega) ?_
             | with_reducible refine slice_kids (by omega) (by omega) (by omega) ?_
             | with_reducible refine ex_wrap (by omega) (by omega) ?_
             | with_reducible refine quo_step (by decide) (by omega) (by omega) ?_
             | with_reducible refine rem_step (by decide) ?_
             | with_reducible refine nil_row (fun _ => ?_) ?_
             | with_reducible refine nil_row2 (fun _ => ?_) ?_
             | with_reducible refine len_toks (fun _ => ?_)
             | with_reducible refine len_ints (fun _ => ?_)
             | with_reducible refine tok_known (by assumption) (by omega) ?_
             | with_reducible refine at_tok (by omega) (by omega) (fun _ _ => ?_)
             | with_reducible refine at_int (by omega) (by omega) (fun _ _ => ?_)
             | with_reducible refine slice_ints (by omega) (by omega) (by omega) ?_
             | refine clone_e hd hb2 (fun own ho => ?_)
             | with_reducible refine draw_head ?_)
  all_goals exact finl (Own.good_le ho) rfl h
end
end Go.Proofs.Ytngbihfihdheoaa
