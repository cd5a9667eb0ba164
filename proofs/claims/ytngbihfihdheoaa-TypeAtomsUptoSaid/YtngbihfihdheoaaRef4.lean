/-
  TYPES: the document's round, atom.
-/
import Derived.Test.YtngbihfihdheoaaRef3
import Derived.Test.YtngbihfihdheoaaTyp10
set_option linter.unusedVariables false
set_option pp.maxSteps 400
namespace Go.Proofs.Ytngbihfihdheoaa
open Go Go.Aw
/-- the parts of a reading -/
def rn : Rs → Nd
  | .inr p => p.1
  | .inl _ => nd0
def rs : Rs → Sta
  | .inr p => p.2
  | .inl p => p.2
def re : Rs → Int
  | .inr _ => 0
  | .inl p => p.1
theorem encRs_eq (q : Rs) : encRs q = encQ (rn q) (rs q) (re q) := by cases q <;> rfl
theorem inr_of {A : Sta → Rs} (hB : Bads A) {s : Sta} (h : re (A s) = 0) : A s = .inr (rn (A s), rs (A s)) := by
  cases hq : A s with
  | inl p => obtain ⟨e, s'⟩ := p; rw [hq] at h; exact absurd h (hB _ _ _ hq)
  | inr p => rfl
theorem inl_of {q : Rs} (h : ¬ re q = 0) : q = .inl (re q, rs q) := by
  cases q with
  | inl p => rfl
  | inr p => exact absurd rfl h
theorem rn_bad {q : Rs} (h : ¬ re q = 0) : rn q = nd0 := by rw [inl_of h]; rfl
theorem mu_ok {A : Sta → Rs} (hB : Bads A) (hF : Falls A) {s : Sta} (h : re (A s) = 0) : mu (rs (A s)) < mu s := hF _ _ _ (inr_of hB h)

def typesQ (Y : Sta → Rs) (l : List Nd) (s : Sta) : Ls := match Y s with
  | .inl e => .inl e
  | .inr q => typesL Y (l ++ [q.1]) q.2
theorem typesQ_ok {Y : Sta → Rs} (hB : Bads Y) {l : List Nd} {s : Sta} (h : re (Y s) = 0) : typesQ Y l s = typesL Y (l ++ [rn (Y s)]) (rs (Y s)) := by
  unfold typesQ
  rw [inr_of hB h]
  rfl
theorem typesQ_bad {Y : Sta → Rs} {l : List Nd} {s : Sta} (h : ¬ re (Y s) = 0) : typesQ Y l s = .inl (re (Y s), rs (Y s)) := by
  unfold typesQ
  rw [inl_of h]
  rfl
def roundQ (Y : Sta → Rs) (n : Nd) (s : Sta) : Rs :=
  if isF s 10 [45, 62] then finP 3 [n, leafT (nextM s).1] (nextM s).2.1 [41]
  else if isF s 15 [41] then finP 3 [n] s [41]
  else if isF s 15 [44] then finP 3 (commaL [n] s).1 (commaL [n] s).2 [41]
  else match typesQ Y [n] s with
    | .inl e => .inl e
    | .inr r => finP (if 2 < r.1.length then 5 else 4) r.1 r.2 [41]
theorem roundP_q {Y : Sta → Rs} {s : Sta} : roundP Y s = match takeP s with
    | .inl e => .inl e
    | .inr p => roundQ Y p.1 p.2 := by
  unfold roundP roundQ typesQ
  cases takeP s with
  | inl e => rfl
  | inr p =>
    dsimp only
    cases Y p.2 <;> rfl
theorem typesL_q {Y : Sta → Rs} (hF : Falls Y) {l : List Nd} {s : Sta} (h : isF s 15 [44] = true) : typesL Y l s = typesQ Y (l ++ [leafT (nextM s).1]) (nextM s).2.1 := by
  rw [typesL, if_pos h]
  unfold typesQ
  cases hq : Y (nextM s).2.1 with
  | inl e => rfl
  | inr p =>
    have h1 := hF _ _ _ hq
    have h2 := isF_mu h (by decide) (by decide)
    dsimp only
    rw [if_pos (by omega), List.append_assoc]
    rfl
theorem typesL_n {Y : Sta → Rs} {l : List Nd} {s : Sta} (h : isF s 15 [44] = false) : typesL Y l s = .inr (l, s) := by
  rw [typesL, if_neg (by rw [h]; decide)]
theorem finP_ok {k : Int} {l : List Nd} {s : Sta} {x : List UInt8} (h : re (wantP s 15 x) = 0) : finP k l s x = .inr (nodeK k (l ++ [rn (wantP s 15 x)]), rs (wantP s 15 x)) := by
  unfold finP
  rw [inr_of bads_want h]
  rfl
theorem finP_bad {k : Int} {l : List Nd} {s : Sta} {x : List UInt8} (h : ¬ re (wantP s 15 x) = 0) : encRs (finP k l s x) = encQ (rn (wantP s 15 x)) (rs (wantP s 15 x)) (re (wantP s 15 x)) := by
  unfold finP
  rw [inl_of h]
  rfl

/-- the document's Type, so deep -/
def RCalls (f : FuncId) (d : Int) (A : Sta → Rs) : Prop := ∀ s, mu s ≤ 100000000 → ∀ (st : St) (R : Res → St → Prop), R (.ret (encRs (A s))) st → PC f [encS s, .int .i64 d] st R
theorem RCalls.e {f : FuncId} {d x : Int} {A : Sta → Rs} (h : RCalls f d A) (hx : x = d) {s : Sta} {q : Rs} (e : A s = q) (hm : mu s ≤ 100000000) {st : St} {R : Res → St → Prop} (k : R (.ret (encRs q)) st) : PC f [encS s, .int .i64 x] st R := by
  subst hx; subst e; exact h s hm st R k
theorem RCalls.q {f : FuncId} {d x : Int} {A : Sta → Rs} (h : RCalls f d A) (hx : x = d) {s : Sta} (hm : mu s ≤ 100000000) {st : St} {R : Res → St → Prop} (k : R (.ret (encQ (rn (A s)) (rs (A s)) (re (A s)))) st) : PC f [encS s, .int .i64 x] st R := by
  subst hx; exact h s hm st R (by rw [encRs_eq]; exact k)
section
variable {st : St} {R : Res → St → Prop}
attribute [local irreducible] Go.Aw.appendTo
theorem rtake_q {s : Sta} (hb : s.opn.length ≤ 500000000) (h : R (.ret (encQ (rn (takeP s)) (rs (takeP s)) (re (takeP s)))) st) : PC 36 [encS s] st R := rtakeP_c hb (by rw [encRs_eq]; exact h)
theorem rwant_q {s : Sta} {k : Int} {x : List UInt8} (hk : k ≠ 0) (hb : s.opn.length ≤ 500000000) (h : R (.ret (encQ (rn (wantP s k x)) (rs (wantP s k x)) (re (wantP s k x)))) st) : PC 58 [encS s, .int .i64 k, .str x] st R := rwant_c hk hb (by rw [encRs_eq]; exact h)

theorem commas0_q {l : List Nd} {own : Own} {s : Sta} (ho : own.good st) (hn : l.length + 1 ≤ 1000000000) (hb : s.opn.length ≤ 500000000) (h : R (.ret (encQ (rn (finP 3 l s [41])) (rs (finP 3 l s [41])) (re (finP 3 l s [41])))) st) :
    PC 76 [.slice 6 (l.map encN) own, encS s] (own.st st (l.length * 6)) R := commas0_c ho hn hb (by rw [encRs_eq]; exact h)
theorem commas_q {n1 : Nd} {s : Sta} {q : Rs} (hq : finP 3 (commaL [n1] s).1 (commaL [n1] s).2 [41] = q) (hm : mu s ≤ 100000000) (h : R (.ret (encQ (rn q) (rs q) (re q))) st) :
    PC 75 [.slice 6 [encN n1] .full, encS s] st R := commas_c hm (by rw [encRs_eq, hq]; exact h)

theorem rround_c {d : Nat} {x : Int} (hx : x = ((d + 1 : Nat) : Int)) (hd : d ≤ 1000000) {Y : Sta → Rs} (hY : RCalls 13 d Y) (hB : Bads Y) (hF : Falls Y) {n1 : Nd} {s : Sta} (hm : mu s ≤ 100000000) (h : R (.ret (encRs (roundQ Y n1 s))) st) :
    PC 57 [.slice 6 [encN n1] .full, encS s, .int .i64 x] st R := by
  refine pcalls_of_body tys_ok [] Try.func57 rfl (by decide) ?_
  have hb := opn_le hm
  have hn1 : [n1].length + 1 ≤ 1000000000 := by show 1 + 1 ≤ 1000000000; decide
  have hn3 : ∀ y : Nd, ([n1] ++ [y]).length + 1 ≤ 1000000000 := fun y => by show 2 + 1 ≤ 1000000000; decide
  unfold roundQ at h
  cases hA : isF s 10 [45, 62] with
  | true =>
    have hC : isF s 15 [41] = false := by unfold isF at hA ⊢; simp only [Bool.and_eq_true, beq_iff_eq] at hA; rw [hA.1]; rfl
    have hE : isF s 15 [44] = false := by unfold isF at hA ⊢; simp only [Bool.and_eq_true, beq_iff_eq] at hA; rw [hA.1]; rfl
    rw [if_pos hA] at h
    have hb2 : (nextM s).2.1.opn.length ≤ 500000000 := opn_le (by have := isF_mu hA (by decide) (by decide); omega)
    repeat' (conv => whnf
             first
               | with_reducible exact quiet_same
               | with_reducible exact quiet_bool
               | with_reducible exact quiet_not
               | with_reducible refine draw_step (by kernel_rfl) ?_
               | with_reducible refine quiet_go ?_ ?_ ?_
               | with_reducible refine bcase_yes (by first | assumption | omega) ?_
               | with_reducible refine bcase_no (by first | assumption | omega) ?_
               | with_reducible refine bcase_dyes (by omega) ?_
               | with_reducible refine bcase_dno (by omega) ?_
               | with_reducible refine bcase_len (by decide) (fun _ => ?_) (fun _ => ?_)
               | with_reducible refine bcase_eq (fun _ => ?_) (fun _ => ?_)
               | with_reducible refine bcase_dec (fun _ => ?_) (fun _ => ?_)
               | with_reducible refine bcase_true ?_
               | with_reducible refine bcase_false ?_
               | with_reducible refine bcase_intro (fun _ => ?_) (fun _ => ?_)
               | with_reducible refine len_kids (fun _ => ?_)
               | with_reducible refine at_known (by assumption) (by omega) ?_
               | with_reducible refine at_kid (by omega) (by omega) (fun _ _ _ => ?_)
               | with_reducible refine tail_kids (by omega) (by omega) ?_
               | with_reducible refine slice_kids (by omega) (by omega) (by omega) ?_
               | with_reducible refine ex_wrap (by omega) (by omega) ?_
               | with_reducible refine quo_step (by decide) (by omega) (by omega) ?_
               | with_reducible refine rem_step (by decide) ?_
               | with_reducible refine nil_row (fun _ => ?_) ?_
               | with_reducible refine nil_row2 (fun _ => ?_) ?_
               | with_reducible refine len_toks (fun _ => ?_)
               | with_reducible refine len_ints (fun _ => ?_)
               | with_reducible refine tok_known (by assumption) (by omega) ?_
               | with_reducible refine at_tok (by omega) (by omega) (fun _ _ => ?_)
               | with_reducible refine at_int (by omega) (by omega) (fun _ _ => ?_)
               | with_reducible refine slice_ints (by omega) (by omega) (by omega) ?_
               | refine ris_e hC (by decide) hb ?_
               | refine ris_e hE (by decide) hb ?_
               | refine ris_e hA (by decide) hb ?_
               | refine rtake_e (take_is hA (by decide)) hb ?_
               | refine app_m (l := [n1]) (x := leafT (nextM s).1) (own := .full) trivial hn1 (fun own1 ho1 => ?_)
               | refine commas0_q (own := own1) (l := [n1] ++ [leafT (nextM s).1]) ho1 (hn3 _) hb2 ?_
               | with_reducible refine draw_head ?_)
    rw [encRs_eq] at h
    all_goals exact finw rfl h
  | false =>
    rw [if_neg (by rw [hA]; decide)] at h
    cases hC : isF s 15 [41] with
    | true =>
      have hE : isF s 15 [44] = false := by unfold isF at hC ⊢; simp only [Bool.and_eq_true, beq_iff_eq] at hC; rw [hC.2]; simp
      rw [if_pos hC] at h
      rw [encRs_eq] at h
      have hq : finP 3 (commaL [n1] s).1 (commaL [n1] s).2 [41] = finP 3 [n1] s [41] := by rw [commaL_end hE]
      repeat' (conv => whnf
               first
                 | with_reducible exact quiet_same
                 | with_reducible exact quiet_bool
                 | with_reducible exact quiet_not
                 | with_reducible refine draw_step (by kernel_rfl) ?_
                 | with_reducible refine quiet_go ?_ ?_ ?_
                 | with_reducible refine bcase_yes (by first | assumption | omega) ?_
                 | with_reducible refine bcase_no (by first | assumption | omega) ?_
                 | with_reducible refine bcase_dyes (by omega) ?_
                 | with_reducible refine bcase_dno (by omega) ?_
                 | with_reducible refine bcase_len (by decide) (fun _ => ?_) (fun _ => ?_)
                 | with_reducible refine bcase_eq (fun _ => ?_) (fun _ => ?_)
                 | with_reducible refine bcase_dec (fun _ => ?_) (fun _ => ?_)
                 | with_reducible refine bcase_true ?_
                 | with_reducible refine bcase_false ?_
                 | with_reducible refine bcase_intro (fun _ => ?_) (fun _ => ?_)
                 | with_reducible refine len_kids (fun _ => ?_)
                 | with_reducible refine at_known (by assumption) (by omega) ?_
                 | with_reducible refine at_kid (by omega) (by omega) (fun _ _ _ => ?_)
                 | with_reducible refine tail_kids (by omega) (by omega) ?_
                 | with_reducible refine slice_kids (by omega) (by omega) (by omega) ?_
                 | with_reducible refine ex_wrap (by omega) (by omega) ?_
                 | with_reducible refine quo_step (by decide) (by omega) (by omega) ?_
                 | with_reducible refine rem_step (by decide) ?_
                 | with_reducible refine nil_row (fun _ => ?_) ?_
                 | with_reducible refine nil_row2 (fun _ => ?_) ?_
                 | with_reducible refine len_toks (fun _ => ?_)
                 | with_reducible refine len_ints (fun _ => ?_)
                 | with_reducible refine tok_known (by assumption) (by omega) ?_
                 | with_reducible refine at_tok (by omega) (by omega) (fun _ _ => ?_)
                 | with_reducible refine at_int (by omega) (by omega) (fun _ _ => ?_)
                 | with_reducible refine slice_ints (by omega) (by omega) (by omega) ?_
                 | refine ris_e hC (by decide) hb ?_
                 | refine commas_q hq hm ?_
                 | with_reducible refine draw_head ?_)
      all_goals exact finw rfl h
    | false =>
      rw [if_neg (by rw [hC]; decide)] at h
      cases hE : isF s 15 [44] with
      | true =>
        rw [if_pos hE] at h
        rw [encRs_eq] at h
        repeat' (conv => whnf
                 first
                   | with_reducible exact quiet_same
                   | with_reducible exact quiet_bool
                   | with_reducible exact quiet_not
                   | with_reducible refine draw_step (by kernel_rfl) ?_
                   | with_reducible refine quiet_go ?_ ?_ ?_
                   | with_reducible refine bcase_yes (by first | assumption | omega) ?_
                   | with_reducible refine bcase_no (by first | assumption | omega) ?_
                   | with_reducible refine bcase_dyes (by omega) ?_
                   | with_reducible refine bcase_dno (by omega) ?_
                   | with_reducible refine bcase_len (by decide) (fun _ => ?_) (fun _ => ?_)
                   | with_reducible refine bcase_eq (fun _ => ?_) (fun _ => ?_)
                   | with_reducible refine bcase_dec (fun _ => ?_) (fun _ => ?_)
                   | with_reducible refine bcase_true ?_
                   | with_reducible refine bcase_false ?_
                   | with_reducible refine bcase_intro (fun _ => ?_) (fun _ => ?_)
                   | with_reducible refine len_kids (fun _ => ?_)
                   | with_reducible refine at_known (by assumption) (by omega) ?_
                   | with_reducible refine at_kid (by omega) (by omega) (fun _ _ _ => ?_)
                   | with_reducible refine tail_kids (by omega) (by omega) ?_
                   | with_reducible refine slice_kids (by omega) (by omega) (by omega) ?_
                   | with_reducible refine ex_wrap (by omega) (by omega) ?_
                   | with_reducible refine quo_step (by decide) (by omega) (by omega) ?_
                   | with_reducible refine rem_step (by decide) ?_
                   | with_reducible refine nil_row (fun _ => ?_) ?_
                   | with_reducible refine nil_row2 (fun _ => ?_) ?_
                   | with_reducible refine len_toks (fun _ => ?_)
                   | with_reducible refine len_ints (fun _ => ?_)
                   | with_reducible refine tok_known (by assumption) (by omega) ?_
                   | with_reducible refine at_tok (by omega) (by omega) (fun _ _ => ?_)
                   | with_reducible refine at_int (by omega) (by omega) (fun _ _ => ?_)
                   | with_reducible refine slice_ints (by omega) (by omega) (by omega) ?_
                   | refine ris_e hC (by decide) hb ?_
                   | refine ris_e hE (by decide) hb ?_
                   | refine commas_q rfl hm ?_
                   | with_reducible refine draw_head ?_)
        all_goals exact finw rfl h
      | false =>
        rw [if_neg (by rw [hE]; decide)] at h
        repeat' (conv => whnf
                 first
                   | with_reducible exact quiet_same
                   | with_reducible exact quiet_bool
                   | with_reducible exact quiet_not
                   | with_reducible refine draw_step (by kernel_rfl) ?_
                   | with_reducible refine quiet_go ?_ ?_ ?_
                   | with_reducible refine bcase_yes (by first | assumption | omega) ?_
                   | with_reducible refine bcase_no (by first | assumption | omega) ?_
                   | with_reducible refine bcase_dyes (by omega) ?_
                   | with_reducible refine bcase_dno (by omega) ?_
                   | with_reducible refine bcase_len (by decide) (fun _ => ?_) (fun _ => ?_)
                   | with_reducible refine bcase_eq (fun _ => ?_) (fun _ => ?_)
                   | with_reducible refine bcase_dec (fun _ => ?_) (fun _ => ?_)
                   | with_reducible refine bcase_true ?_
                   | with_reducible refine bcase_false ?_
                   | with_reducible refine bcase_intro (fun _ => ?_) (fun _ => ?_)
                   | with_reducible refine len_kids (fun _ => ?_)
                   | with_reducible refine at_known (by assumption) (by omega) ?_
                   | with_reducible refine at_kid (by omega) (by omega) (fun _ _ _ => ?_)
                   | with_reducible refine tail_kids (by omega) (by omega) ?_
                   | with_reducible refine slice_kids (by omega) (by omega) (by omega) ?_
                   | with_reducible refine ex_wrap (by omega) (by omega) ?_
                   | with_reducible refine quo_step (by decide) (by omega) (by omega) ?_
                   | with_reducible refine rem_step (by decide) ?_
                   | with_reducible refine nil_row (fun _ => ?_) ?_
                   | with_reducible refine nil_row2 (fun _ => ?_) ?_
                   | with_reducible refine len_toks (fun _ => ?_)
                   | with_reducible refine len_ints (fun _ => ?_)
                   | with_reducible refine tok_known (by assumption) (by omega) ?_
                   | with_reducible refine at_tok (by omega) (by omega) (fun _ _ => ?_)
                   | with_reducible refine at_int (by omega) (by omega) (fun _ _ => ?_)
                   | with_reducible refine slice_ints (by omega) (by omega) (by omega) ?_
                   | refine ris_e hC (by decide) hb ?_
                   | refine ris_e hE (by decide) hb ?_
                   | refine ris_e hA (by decide) hb ?_
                   | with_reducible refine draw_head ?_)
        refine loop_h (α := List Nd × Sta × Own × Int) (fun x => [(0, .slice 6 (x.1.map encN) x.2.2.1), (8, .int .i64 x.2.2.2)]) [2, 4, 6] (fun x => [(0, x.2.1.cells)]) [1] (fun x => x.2.2.1.st st (x.1.length * 6))
          (fun x => x.2.2.1.good st ∧ mu x.2.1 ≤ mu s ∧ x.1.length + 2 * mu x.2.1 ≤ 400000000 ∧ 1 ≤ x.1.length ∧ x.2.2.2 = (if 1 < x.1.length then 5 else 4) ∧ typesQ Y x.1 x.2.1 = typesQ Y [n1] s) (fun x => mu x.2.1) ([n1], s, .full, 4)
          ⟨trivial, Nat.le_refl _, by show 1 + 2 * mu s ≤ _; omega, Nat.le_refl _, rfl, rfl⟩ (by refine ⟨rfl, ?_, ?_, rfl⟩ <;> repeat' (first | exact trivial | exact rfl | refine And.intro ?_ ?_)) (St.le_refl _) ?_
        rintro ⟨l, s3, own, kd⟩ ⟨j1, j2, j3, j4, j5, j6⟩
        dsimp only at j1 j2 j3 j4 j5 j6
        have hm3 : mu s3 ≤ 100000000 := by omega
        have hn : l.length + 1 ≤ 1000000000 := by omega
        have hn2 : ∀ y : Nd, (l ++ [y]).length + 1 ≤ 1000000000 := fun y => by rw [List.length_append, List.length_singleton]; omega
        have hd4 : re (Y s3) = 0 → mu (rs (Y s3)) < mu s3 := mu_ok hB hF
        have hm4 : re (Y s3) = 0 → mu (rs (Y s3)) ≤ 100000000 := fun e => by have := hd4 e; omega
        rw [← j6] at h
        repeat' (conv => whnf
                 first
                   | with_reducible exact quiet_same
                   | with_reducible exact quiet_bool
                   | with_reducible exact quiet_not
                   | with_reducible refine draw_step (by kernel_rfl) ?_
                   | with_reducible refine quiet_go ?_ ?_ ?_
                   | with_reducible refine bcase_yes (by first | assumption | omega) ?_
                   | with_reducible refine bcase_no (by first | assumption | omega) ?_
                   | with_reducible refine bcase_dyes (by omega) ?_
                   | with_reducible refine bcase_dno (by omega) ?_
                   | with_reducible refine bcase_len (by decide) (fun _ => ?_) (fun _ => ?_)
                   | with_reducible refine bcase_eq (fun _ => ?_) (fun _ => ?_)
                   | with_reducible refine bcase_dec (fun _ => ?_) (fun _ => ?_)
                   | with_reducible refine bcase_true ?_
                   | with_reducible refine bcase_false ?_
                   | with_reducible refine bcase_intro (fun _ => ?_) (fun _ => ?_)
                   | with_reducible refine len_kids (fun _ => ?_)
                   | with_reducible refine at_known (by assumption) (by omega) ?_
                   | with_reducible refine at_kid (by omega) (by omega) (fun _ _ _ => ?_)
                   | with_reducible refine tail_kids (by omega) (by omega) ?_
                   | with_reducible refine slice_kids (by omega) (by omega) (by omega) ?_
                   | with_reducible refine ex_wrap (by omega) (by omega) ?_
                   | with_reducible refine quo_step (by decide) (by omega) (by omega) ?_
                   | with_reducible refine rem_step (by decide) ?_
                   | with_reducible refine nil_row (fun _ => ?_) ?_
                   | with_reducible refine nil_row2 (fun _ => ?_) ?_
                   | with_reducible refine len_toks (fun _ => ?_)
                   | with_reducible refine len_ints (fun _ => ?_)
                   | with_reducible refine tok_known (by assumption) (by omega) ?_
                   | with_reducible refine at_tok (by omega) (by omega) (fun _ _ => ?_)
                   | with_reducible refine at_int (by omega) (by omega) (fun _ _ => ?_)
                   | with_reducible refine slice_ints (by omega) (by omega) (by omega) ?_
                   | refine hY.q (by omega) hm3 ?_
                   | refine app_m (l := l) (x := rn (Y s3)) j1 hn (fun own1 ho1 => ?_)
                   | refine ris_c (s := rs (Y s3)) (by decide) (opn_le (hm4 (by assumption))) ?_
                   | refine rtake_e (take_is (by assumption) (by decide)) (opn_le (hm4 (by assumption))) ?_
                   | refine app_m (l := l ++ [rn (Y s3)]) (x := leafT (nextM (rs (Y s3))).1) ho1 (hn2 _) (fun own2 ho2 => ?_)
                   | refine rwant_q (s := rs (Y s3)) (by decide) (opn_le (hm4 (by assumption))) ?_
                   | refine app_m (l := l ++ [rn (Y s3)]) (x := rn (wantP (rs (Y s3)) 15 [41])) ho1 (hn2 _) (fun own2 ho2 => ?_)
                   | with_reducible refine draw_head ?_)
        all_goals conv => whnf
        · have hp : isF (rs (Y s3)) 15 [44] = true := by assumption
          have hy : re (Y s3) = 0 := by assumption
          have k1 := hd4 hy
          have k2 := isF_mu hp (by decide) (by decide)
          refine ⟨(l ++ [rn (Y s3)] ++ [leafT (nextM (rs (Y s3))).1], (nextM (rs (Y s3))).2.1, own2, 5), ⟨ho2, by show mu (nextM (rs (Y s3))).2.1 ≤ _; omega, ?_, ?_, ?_, ?_⟩, by show mu (nextM (rs (Y s3))).2.1 < mu s3; omega, (by refine ⟨rfl, ?_, ?_, rfl⟩ <;> repeat' (first | exact trivial | exact rfl | refine And.intro ?_ ?_)), St.le_refl _⟩
          · show (l ++ [rn (Y s3)] ++ [leafT (nextM (rs (Y s3))).1]).length + 2 * mu (nextM (rs (Y s3))).2.1 ≤ _
            simp only [List.length_append, List.length_singleton]
            omega
          · show 1 ≤ (l ++ [rn (Y s3)] ++ [leafT (nextM (rs (Y s3))).1]).length
            simp only [List.length_append, List.length_singleton]
            omega
          · show (5 : Int) = if 1 < (l ++ [rn (Y s3)] ++ [leafT (nextM (rs (Y s3))).1]).length then 5 else 4
            rw [if_pos (by simp only [List.length_append, List.length_singleton]; omega)]
          · show typesQ Y (l ++ [rn (Y s3)] ++ [leafT (nextM (rs (Y s3))).1]) (nextM (rs (Y s3))).2.1 = _
            rw [← j6, typesQ_ok hB hy, typesL_q hF hp]
        · have hy : re (Y s3) = 0 := by assumption
          have hw : re (wantP (rs (Y s3)) 15 [41]) = 0 := by assumption
          rw [typesQ_ok hB hy, typesL_n (by assumption)] at h
          dsimp only at h
          rw [finP_ok hw] at h
          have hk : (if 2 < (l ++ [rn (Y s3)]).length then (5 : Int) else 4) = kd := by
            rw [j5, List.length_append, List.length_singleton]
            split <;> split <;> omega
          rw [hk] at h
          exact finl (Own.good_le ho2) fin_nodeQ h
        · have hy : re (Y s3) = 0 := by assumption
          rw [typesQ_ok hB hy, typesL_n (by assumption)] at h
          dsimp only at h
          rw [finP_bad (by assumption)] at h
          exact finl (Own.good_le ho1) rfl h
        · have hy : ¬ re (Y s3) = 0 := by assumption
          rw [typesQ_bad hy] at h
          have h : R (.ret (encQ nd0 (rs (Y s3)) (re (Y s3)))) st := h
          rw [← rn_bad hy] at h
          exact finl (Own.good_le j1) rfl h
end
end Go.Proofs.Ytngbihfihdheoaa
