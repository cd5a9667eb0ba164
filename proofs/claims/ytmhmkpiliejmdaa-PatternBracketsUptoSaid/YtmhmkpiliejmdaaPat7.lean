/-
  PATTERNS, PART 7: the document's answer (ref12), its trees.
-/
import Derived.Test.YtmhmkpiliejmdaaPat6
set_option linter.unusedVariables false
set_option linter.unusedSimpArgs false
set_option pp.maxSteps 400
namespace Go.Proofs.Ytmhmkpiliejmdaa
open Go Go.Aw
section
variable {st : St} {R : Res → St → Prop}

theorem bracketedF_eq {p : Nd → Bool} {n : Nd} {o s : List UInt8} {least : Int} {one : Bool} :
    bracketedF p n o s least one = (decide (2 ≤ n.kids.length) && firstF n o && lastF n s && (decide (2 * least - 1 ≤ ((n.kids.length - 2 : Nat) : Int)) && (!one || n.kids.length - 2 == 1) && ((n.kids.length - 2) % 2 == 1 && partedG p false (midF n)))) := by
  unfold bracketedF
  rw [framedF_eq]
  by_cases h2 : 2 ≤ n.kids.length
  · have hm := midF_length h2
    cases firstF n o <;> cases lastF n s <;> simp [h2, partedF, hm]
  · simp only [h2, false_and, if_false, decide_false, Bool.false_and]

theorem tmod2s_one {k : Nat} : ((k : Int) + 1).tmod 2 = 1 ↔ (k + 1) % 2 = 1 := tmod2_one (k := k + 1)
theorem tmod2s_zero {k : Nat} : ((k : Int) + 1).tmod 2 = 0 ↔ (k + 1) % 2 = 0 := tmod2_zero (k := k + 1)
theorem rbetween_c {p : Nd → Bool} {n : Nd} {o s : List UInt8} {least most : Int} {one : Bool} (hl : n.kids.length ≤ 1000000000) (h0 : 1 ≤ least) (h1 : least ≤ 10) (hm : most = 1 ∧ one = true ∨ most = 1099511627776 ∧ one = false)
    (hp : ∀ x ∈ n.kids, Tells 17 p x) (h : R (.ret (.bool (bracketedF p n o s least one))) st) : PC 34 [enc n, .str o, .str s, .int .i64 least, .int .i64 most] st R := by
  refine pcalls_of_body tys_ok [] Try.func34 rfl (by decide) ?_
  repeat' (conv => whnf
           first
             | with_reducible exact quiet_same
             | with_reducible exact quiet_bool
             | with_reducible exact quiet_not
             | with_reducible refine draw_step (by kernel_rfl) ?_
             | with_reducible refine quiet_go ?_ ?_ ?_
             | with_reducible refine bcase_len (by decide) (fun _ => ?_) (fun _ => ?_)
             | with_reducible refine bcase_eq (fun _ => ?_) (fun _ => ?_)
             | with_reducible refine bcase_dec (fun _ => ?_) (fun _ => ?_)
             | with_reducible refine bcase_true ?_
             | with_reducible refine bcase_false ?_
             | with_reducible refine bcase_intro (fun _ => ?_) (fun _ => ?_)
             | with_reducible refine len_kids (fun _ => ?_)
             | with_reducible refine at_known (by assumption) (by omega) ?_
             | with_reducible refine at_kid (by omega) (by omega) (fun _ _ _ => ?_)
             | with_reducible refine tail_kids (by omega) (by omega) ?_
             | with_reducible refine slice_kids (by omega) (by omega) (by omega) ?_
             | with_reducible refine ex_wrap (by omega) (by omega) ?_
             | with_reducible refine quo_step (by decide) (by omega) (by omega) ?_
             | with_reducible refine rem_step (by decide) ?_
             | refine rpunct_c ?_)
  all_goals try (refine loop_g (α := Nat) (fun j => [(12, .int .i64 ((j : Int) + 1))]) [5, 11] [0] (fun _ => st) (fun j => j + 2 ≤ n.kids.length ∧ partedG p false (midF n) = partedG p (j % 2 == 1) ((midF n).drop j)) (fun j => n.kids.length - j) 0 ⟨by omega, rfl⟩ (by refine ⟨rfl, ?_, ?_, rfl⟩ <;> repeat' (first | exact trivial | exact rfl | refine And.intro ?_ ?_)) (St.le_refl _) ?_; rintro j ⟨hj, hi⟩)
  repeat' (conv => whnf
           first
             | with_reducible exact quiet_same
             | with_reducible exact quiet_bool
             | with_reducible exact quiet_not
             | with_reducible refine draw_step (by kernel_rfl) ?_
             | with_reducible refine quiet_go ?_ ?_ ?_
             | with_reducible refine bcase_len (by decide) (fun _ => ?_) (fun _ => ?_)
             | with_reducible refine bcase_eq (fun _ => ?_) (fun _ => ?_)
             | with_reducible refine bcase_dec (fun _ => ?_) (fun _ => ?_)
             | with_reducible refine bcase_true ?_
             | with_reducible refine bcase_false ?_
             | with_reducible refine bcase_intro (fun _ => ?_) (fun _ => ?_)
             | with_reducible refine len_kids (fun _ => ?_)
             | with_reducible refine at_known (by assumption) (by omega) ?_
             | with_reducible refine at_kid (by omega) (by omega) (fun _ _ _ => ?_)
             | with_reducible refine tail_kids (by omega) (by omega) ?_
             | with_reducible refine slice_kids (by omega) (by omega) (by omega) ?_
             | with_reducible refine ex_wrap (by omega) (by omega) ?_
             | with_reducible refine quo_step (by decide) (by omega) (by omega) ?_
             | with_reducible refine rem_step (by decide) ?_
             | refine rpunct_c ?_
             | refine hp _ (by assumption) _ _ ?_)
  all_goals try conv => whnf
  all_goals try simp only [tmod2_zero, tmod2_one, tmod2s_zero, tmod2s_one, Int.toNat_zero, tn3] at *
  all_goals have hl : ((n.kids.length : Int) - 1).toNat = n.kids.length - 1 := by omega
  all_goals try simp only [hl] at *
  all_goals try (have ha := partedG_at (p := p) ((midF_get (by omega)).trans ‹n.kids[j + 1]? = _›); rw [ha] at hi; clear ha)
  all_goals try (rw [if_neg (by omega : ¬ j % 2 = 1)] at hi)
  all_goals try (rw [if_pos (by omega : j % 2 = 1)] at hi)
  all_goals try (exfalso; omega)
  all_goals first
    | refine ⟨j + 1, ⟨by omega, ?_⟩, by omega, (by refine ⟨rfl, ?_, ?_, rfl⟩ <;> repeat' (first | exact trivial | exact rfl | refine And.intro ?_ ?_)), St.le_refl _⟩
    | refine fin_bool h ?_
  all_goals clear h hp
  all_goals try rw [bracketedF_eq]
  all_goals try (rw [Bool.eq_false_iff]; intro hc; simp only [Bool.and_eq_true, decide_eq_true_eq, beq_iff_eq, Bool.or_eq_true, Bool.not_eq_true'] at hc; obtain ⟨⟨⟨c1, c2⟩, c3⟩, ⟨c4, c5⟩, c6, c7⟩ := hc; first | omega | (rcases hm with ⟨rfl, rfl⟩ | ⟨rfl, rfl⟩ <;> simp at c5 <;> omega) | (simp_all [firstF, lastF]; done))
  all_goals try (rw [hi]; simp_all; done)
  · rw [List.drop_eq_nil_of_le (by rw [midF_length (by omega)]; omega)] at hi
    simp only [Bool.and_eq_true, decide_eq_true_eq, beq_iff_eq, Bool.or_eq_true, Bool.not_eq_true']
    refine ⟨⟨⟨by omega, by simp_all [firstF]⟩, by simp_all [lastF]⟩, ⟨by omega, ?_⟩, by omega, by rw [hi]; rfl⟩
    rcases hm with ⟨rfl, rfl⟩ | ⟨rfl, rfl⟩
    · right; omega
    · left; rfl

theorem tmod2t_one {k : Nat} : ((k : Int) + 1 + 1).tmod 2 = 1 ↔ (k + 2) % 2 = 1 := tmod2_one (k := k + 2)
theorem tmod2t_zero {k : Nat} : ((k : Int) + 1 + 1).tmod 2 = 0 ↔ (k + 2) % 2 = 0 := tmod2_zero (k := k + 2)
theorem kids_mk {a b : Int} {t : List UInt8} {c d : Int} {ks : List Nd} : (Nd.mk a b t c d ks).kids = ks := rfl
theorem recordF_eq {p : Nd → Bool} {n : Nd} : recordF p n = (decide (3 ≤ n.kids.length) && n.kids[0]?.any makerF && n.kids[1]?.any (saidF · 15 [123]) && lastF n [125] && (n.kids.length == 3 || (n.kids.length % 2 == 0 && partedG (fieldF p) false ((midF n).drop 1)))) := by
  unfold recordF
  rw [framedF_eq]
  by_cases h3 : 3 ≤ n.kids.length
  · have e1 : firstF (.mk 0 0 [] 0 0 (n.kids.drop 1)) [123] = n.kids[1]?.any (saidF · 15 [123]) := by simp [firstF, kids_mk]
    have e2 : lastF (.mk 0 0 [] 0 0 (n.kids.drop 1)) [125] = lastF n [125] := by
      simp only [lastF, kids_mk, List.length_drop, List.getElem?_drop]
      rw [show 1 + (n.kids.length - 1 - 1) = n.kids.length - 1 by omega]
    have e3 : midF (.mk 0 0 [] 0 0 (n.kids.drop 1)) = (midF n).drop 1 := by
      simp only [midF, kids_mk, List.length_drop, List.drop_take, List.drop_drop]
    have e4 : (2 ≤ (Nd.kids (.mk 0 0 [] 0 0 (n.kids.drop 1))).length) := by simp only [kids_mk, List.length_drop]; omega
    have e5 : ((midF n).drop 1).length = n.kids.length - 3 := by rw [List.length_drop, midF_length (by omega)]; omega
    have e6 : ((midF n).drop 1).isEmpty = (n.kids.length == 3) := by
      have : ((midF n).drop 1).isEmpty = (((midF n).drop 1).length == 0) := by cases (midF n).drop 1 <;> rfl
      rw [this, e5]
      by_cases h : n.kids.length = 3
      · simp [h]
      · rw [beq_eq_false_iff_ne.2 (by omega : n.kids.length - 3 ≠ 0), beq_eq_false_iff_ne.2 h]
    have e7 : ((n.kids.length - 3) % 2 == 1) = (n.kids.length % 2 == 0) := by
      by_cases h : n.kids.length % 2 = 0
      · have : (n.kids.length - 3) % 2 = 1 := by omega
        simp [h, this]
      · rw [beq_eq_false_iff_ne.2 (by omega : (n.kids.length - 3) % 2 ≠ 1), beq_eq_false_iff_ne.2 h]
    rw [e1, e2, e3]
    cases n.kids[1]?.any (saidF · 15 [123]) <;> cases lastF n [125] <;> simp only [h3, e4, true_and, and_true, if_true, and_false, false_and, if_false, Bool.false_eq_true, decide_true, Bool.true_and, Bool.and_true, Bool.and_false, Bool.false_and, partedF, e5, e6, e7]
  · simp only [h3, decide_false, Bool.false_and]

theorem field_kid {p : Nd → Bool} {x : Nd} (h : fieldF p x = true) : x.kind = 13 ∧ x.kids.length = 3 := by
  simp only [fieldF, Bool.and_eq_true, beq_iff_eq] at h; exact ⟨h.1.1.1.1, h.1.1.1.2⟩
theorem rfields_c {p : Nd → Bool} {n : Nd} (hl : n.kids.length ≤ 1000000000)
    (hp : ∀ x ∈ n.kids, ∀ y ∈ x.kids, Tells 17 p y) (h : R (.ret (.bool (recordF p n))) st) : PC 35 [enc n] st R := by
  refine pcalls_of_body tys_ok [] Try.func35 rfl (by decide) ?_
  repeat' (conv => whnf
           first
             | with_reducible exact quiet_same
             | with_reducible exact quiet_bool
             | with_reducible exact quiet_not
             | with_reducible refine draw_step (by kernel_rfl) ?_
             | with_reducible refine quiet_go ?_ ?_ ?_
             | with_reducible refine bcase_len (by decide) (fun _ => ?_) (fun _ => ?_)
             | with_reducible refine bcase_eq (fun _ => ?_) (fun _ => ?_)
             | with_reducible refine bcase_dec (fun _ => ?_) (fun _ => ?_)
             | with_reducible refine bcase_true ?_
             | with_reducible refine bcase_false ?_
             | with_reducible refine bcase_intro (fun _ => ?_) (fun _ => ?_)
             | with_reducible refine len_kids (fun _ => ?_)
             | with_reducible refine at_known (by assumption) (by omega) ?_
             | with_reducible refine at_kid (by omega) (by omega) (fun _ _ _ => ?_)
             | with_reducible refine tail_kids (by omega) (by omega) ?_
             | with_reducible refine slice_kids (by omega) (by omega) (by omega) ?_
             | with_reducible refine ex_wrap (by omega) (by omega) ?_
             | with_reducible refine quo_step (by decide) (by omega) (by omega) ?_
             | with_reducible refine rem_step (by decide) ?_
             | refine rmaker_c ?_
             | refine rpunct_c ?_)
  all_goals try (refine loop_g (α := Nat) (fun j => [(4, .int .i64 ((j : Int) + 1 + 1))]) [1, 3] [0] (fun _ => st) (fun j => j + 3 ≤ n.kids.length ∧ partedG (fieldF p) false ((midF n).drop 1) = partedG (fieldF p) (j % 2 == 1) (((midF n).drop 1).drop j)) (fun j => n.kids.length - j) 0 ⟨by omega, rfl⟩ (by refine ⟨rfl, ?_, ?_, rfl⟩ <;> repeat' (first | exact trivial | exact rfl | refine And.intro ?_ ?_)) (St.le_refl _) ?_; rintro j ⟨hj, hi⟩)
  repeat' (conv => whnf
           first
             | with_reducible exact quiet_same
             | with_reducible exact quiet_bool
             | with_reducible exact quiet_not
             | with_reducible refine draw_step (by kernel_rfl) ?_
             | with_reducible refine quiet_go ?_ ?_ ?_
             | with_reducible refine bcase_len (by decide) (fun _ => ?_) (fun _ => ?_)
             | with_reducible refine bcase_eq (fun _ => ?_) (fun _ => ?_)
             | with_reducible refine bcase_dec (fun _ => ?_) (fun _ => ?_)
             | with_reducible refine bcase_true ?_
             | with_reducible refine bcase_false ?_
             | with_reducible refine bcase_intro (fun _ => ?_) (fun _ => ?_)
             | with_reducible refine len_kids (fun _ => ?_)
             | with_reducible refine at_known (by assumption) (by omega) ?_
             | with_reducible refine at_kid (by omega) (by omega) (fun _ _ _ => ?_)
             | with_reducible refine tail_kids (by omega) (by omega) ?_
             | with_reducible refine slice_kids (by omega) (by omega) (by omega) ?_
             | with_reducible refine ex_wrap (by omega) (by omega) ?_
             | with_reducible refine quo_step (by decide) (by omega) (by omega) ?_
             | with_reducible refine rem_step (by decide) ?_
             | refine rpunct_c ?_
             | refine rleaf_c ?_
             | refine hp _ (by assumption) _ (by assumption) _ _ ?_)
  all_goals try conv => whnf
  all_goals try simp only [tmod2_zero, tmod2_one, tmod2t_zero, tmod2t_one, Int.toNat_zero, Int.toNat_one, Int.reduceToNat, tn3, tn4] at *
  all_goals have hl : ((n.kids.length : Int) - 1).toNat = n.kids.length - 1 := by omega
  all_goals try simp only [hl] at *
  all_goals try (have hg : ((midF n).drop 1)[j]? = n.kids[j + 2]? := by (rw [List.getElem?_drop, midF_get (by omega)]; congr 1; omega))
  all_goals try (have ha := partedG_at (p := fieldF p) (hg.trans ‹n.kids[j + 2]? = _›); rw [ha] at hi; clear ha)
  all_goals try (rw [if_neg (by omega : ¬ j % 2 = 1)] at hi)
  all_goals try (rw [if_pos (by omega : j % 2 = 1)] at hi)
  all_goals try (exfalso; omega)
  all_goals first
    | refine ⟨j + 1, ⟨by omega, ?_⟩, by omega, (by refine ⟨rfl, ?_, ?_, rfl⟩ <;> repeat' (first | exact trivial | exact rfl | refine And.intro ?_ ?_)), St.le_refl _⟩
    | refine fin_bool h ?_
  all_goals clear h hp
  all_goals try rw [recordF_eq]
  all_goals try (rw [Bool.eq_false_iff]; intro hc; simp only [Bool.and_eq_true, decide_eq_true_eq, beq_iff_eq, Bool.or_eq_true, Bool.not_eq_true'] at hc; obtain ⟨⟨⟨⟨c1, c2⟩, c3⟩, c4⟩, c5⟩ := hc; first | omega | (simp_all [lastF]; done))
  all_goals try (rw [hi]; simp_all [fieldF, isF_two, saidF_eq]; done)
  all_goals try (simp_all [lastF]; done)
  all_goals try (rw [Bool.eq_false_iff]; intro hc; simp only [Bool.and_eq_true, decide_eq_true_eq, beq_iff_eq, Bool.or_eq_true, Bool.not_eq_true'] at hc; obtain ⟨⟨⟨⟨c1, c2⟩, c3⟩, c4⟩, c5⟩ := hc; rcases c5 with c5 | ⟨c5, c6⟩; omega; rw [hi] at c6; simp_all [fieldF, isF_two, saidF_eq]; done)
  rw [List.drop_eq_nil_of_le (i := j) (by rw [List.length_drop, midF_length (by omega)]; omega)] at hi
  have h2 : n.kids.length % 2 = 0 := by omega
  rw [hi]
  simp_all [lastF, partedG]
  omega

theorem sizes_len : ∀ {l : List Nd}, l.length ≤ sizes l
  | [] => Nat.le_refl _
  | x :: r => by have := sizes_len (l := r); have := size_pos x; rw [sizes, List.length_cons]; omega
theorem size_kids (n : Nd) : n.kids.length < n.size := by
  cases n with
  | mk a b c d e ks => rw [Nd.size]; have := sizes_len (l := ks); show ks.length < _; omega
theorem maker_leaf {n : Nd} (hk : n.kind = 1) : makerF n = isF n [2, 4] := by
  have : namedF n = none := by simp [namedF, hk]
  simp [makerF, this]
theorem headF_eq {n : Nd} : headF n = ((variableF n).isSome || makerF n || bareF n) := rfl
theorem isF_leaf {n : Nd} {l : List Int} (hk : n.kind = 1) : isF n l = l.contains n.form := by simp [isF, hk]
theorem leafF_leaf {n : Nd} {k : Int} (hk : n.kind = 1) : leafF n k = (n.form == k) := by simp [leafF, hk]

theorem rmay_step {p : Nd → Bool} {n : Nd} (hl : n.size ≤ 1000000000) (hp : ∀ x, x.size < n.size → Tells 17 p x) (hn : ∀ x, x.size < n.size → leafF x 11 = true ∨ leafF x 12 = true → p x = true) : Tells 17 (mayStep p) n := by
  intro st R h
  have hk : ∀ x ∈ n.kids, Tells 17 p x := fun x hx => hp x (size_kid hx)
  have hkk : ∀ x ∈ n.kids, ∀ y ∈ x.kids, Tells 17 p y := fun x hx y hy => hp y (Nat.lt_trans (size_kid hy) (size_kid hx))
  have hd : ∀ x ∈ n.kids.drop 1, Tells 17 p x := fun x hx => hk x (List.mem_of_mem_drop hx)
  have hnk : ∀ x ∈ n.kids, leafF x 11 = true ∨ leafF x 12 = true → p x = true := fun x hx => hn x (size_kid hx)
  have hkl : n.kids.length ≤ 1000000000 := by have := size_kids n; omega
  refine pcalls_of_body tys_ok [] Try.func17 rfl (by decide) ?_
  repeat' (conv => whnf
           first
             | with_reducible exact quiet_same
             | with_reducible exact quiet_bool
             | with_reducible exact quiet_not
             | with_reducible refine draw_step (by kernel_rfl) ?_
             | with_reducible refine quiet_go ?_ ?_ ?_
             | with_reducible refine bcase_len (by decide) (fun _ => ?_) (fun _ => ?_)
             | with_reducible refine bcase_eq (fun _ => ?_) (fun _ => ?_)
             | with_reducible refine bcase_dec (fun _ => ?_) (fun _ => ?_)
             | with_reducible refine bcase_true ?_
             | with_reducible refine bcase_false ?_
             | with_reducible refine bcase_intro (fun _ => ?_) (fun _ => ?_)
             | with_reducible refine len_kids (fun _ => ?_)
             | with_reducible refine at_known (by assumption) (by omega) ?_
             | with_reducible refine at_kid (by omega) (by omega) (fun _ _ _ => ?_)
             | with_reducible refine tail_kids (by omega) (by omega) ?_
             | with_reducible refine slice_kids (by omega) (by omega) (by omega) ?_
             | with_reducible refine ex_wrap (by omega) (by omega) ?_
             | with_reducible refine quo_step (by decide) (by omega) (by omega) ?_
             | with_reducible refine rem_step (by decide) ?_
             | refine rleaf_c ?_
             | refine rmaker_c ?_
             | refine rliteral_c ?_
             | refine rvariable_c (fun l hl => ?_) (fun hl => ?_)
             | refine rbare_c (by assumption) ?_
             | refine rbetween_c (one := true) (p := p) hkl (by decide) (by decide) (.inl ⟨rfl, rfl⟩) hk ?_
             | refine rbetween_c (one := false) (p := p) hkl (by decide) (by decide) (.inr ⟨rfl, rfl⟩) hk ?_
             | refine rfields_c hkl hkk ?_
             | refine rall_c hd ?_
             | refine rrow_c hk hnk ?_
             | refine hk _ (by assumption) _ _ ?_)
  all_goals conv => whnf
  all_goals (refine fin_bool h ?_; clear h hp hk hkk hd hn hnk; try simp only [Int.toNat_zero, Int.toNat_one, Int.reduceToNat] at *)
  all_goals first
    | (have g : n.kind = 1 := by assumption
       simp_all [mayStep, maker_leaf, isF_leaf, leafF_leaf]; done)
    | (simp_all [mayStep, headF_eq, isF_one, saidF_eq]; done)
    | (have : 1 < n.kids.length := by omega
       simp_all [mayStep, besideF]; done)
    | (have : ¬ 1 < n.kids.length := by omega
       simp_all [mayStep]; done)
    | skip
  · have g : n.kind = 1 := by assumption
    have hm : makerF n = true := by assumption
    rw [maker_leaf g, isF_leaf g] at hm
    simp only [List.contains_cons, List.contains_nil, Bool.or_false, Bool.or_eq_true, beq_iff_eq] at hm
    rcases hm with hm | hm <;> simp [mayStep, g, isF_leaf, hm]
  · have g : n.kind = 11 := by assumption
    have hb : besideF p (n.kids.drop 1) = false := by
      rw [besideF, decide_eq_false (by rw [List.length_drop]; omega), Bool.and_false]
    simp only [mayStep, g, hb, Bool.and_false]; rfl
  · have g : n.kind = 11 := by assumption
    have h2 : 0 < n.kids.length := by omega
    have hb : besideF p (n.kids.drop 1) = true := by
      rw [besideF, decide_eq_true (by rw [List.length_drop]; omega), Bool.and_true]
      assumption
    have hm : n.kids[0]?.any makerF = true := by simp_all
    simp only [mayStep, g, hb, hm, h2, decide_true, Bool.and_true]; rfl
  · have g : n.kind = 17 := by assumption
    have h2 : ¬ 1 < n.kids.length := by omega
    simp only [mayStep, g, h2, decide_false, Bool.false_and]; rfl

theorem mayK_num {k : Nat} {x : Nd} (h : leafF x 11 = true ∨ leafF x 12 = true) : mayK (k + 1) x = true := by
  have g : x.kind = 1 := by rcases h with h | h <;> exact leaf_kind h
  rw [leafF_leaf g, leafF_leaf g] at h
  simp only [beq_iff_eq] at h
  rw [mayK]
  rcases h with h | h <;> simp [mayStep, g, isF_leaf, h]
theorem rmay_c : ∀ (k : Nat) (n : Nd), n.size ≤ k → n.size ≤ 1000000000 → Tells 17 (mayK k) n
  | 0, n, h, _ => by have := size_pos n; omega
  | k + 1, n, h, hl => rmay_step hl (fun x hx => rmay_c k x (by omega) (by omega)) fun x hx h11 => by
    cases k with
    | zero => have := size_pos x; omega
    | succ k => exact mayK_num h11

theorem rpart_c {p : Nd → Bool} {l : List Nd} (hp : ∀ x ∈ l, Tells 17 p x) (hn : ∀ x ∈ l, leafF x 11 = true ∨ leafF x 12 = true → p x = true) (h : R (.ret (.bool (sideF p l))) st) : PC 44 [.slice 6 (encs l) .any] st R := by
  refine pcalls_of_body tys_ok [] Try.func44 rfl (by decide) ?_
  repeat' (conv => whnf
           first
             | with_reducible exact quiet_same
             | with_reducible exact quiet_bool
             | with_reducible exact quiet_not
             | with_reducible refine draw_step (by kernel_rfl) ?_
             | with_reducible refine quiet_go ?_ ?_ ?_
             | with_reducible refine bcase_len (by decide) (fun _ => ?_) (fun _ => ?_)
             | with_reducible refine bcase_eq (fun _ => ?_) (fun _ => ?_)
             | with_reducible refine bcase_dec (fun _ => ?_) (fun _ => ?_)
             | with_reducible refine bcase_true ?_
             | with_reducible refine bcase_false ?_
             | with_reducible refine bcase_intro (fun _ => ?_) (fun _ => ?_)
             | with_reducible refine len_kids (fun _ => ?_)
             | with_reducible refine at_known (by assumption) (by omega) ?_
             | with_reducible refine at_kid (by omega) (by omega) (fun _ _ _ => ?_)
             | with_reducible refine tail_kids (by omega) (by omega) ?_
             | with_reducible refine slice_kids (by omega) (by omega) (by omega) ?_
             | with_reducible refine ex_wrap (by omega) (by omega) ?_
             | with_reducible refine quo_step (by decide) (by omega) (by omega) ?_
             | with_reducible refine rem_step (by decide) ?_
             | refine hp _ (by assumption) _ _ ?_
             | refine rrow_c hp hn ?_)
  all_goals conv => whnf
  all_goals (refine fin_bool h ?_; clear h hp hn; try simp only [Int.toNat_zero, Int.toNat_one, Int.reduceToNat] at *)
  all_goals simp_all [sideF]

theorem roper_bound {n : Nd} {t : List UInt8} (h : boundF n = some t) : roperF n = (2, t) := by
  have hm : makesF n = false := by
    unfold boundF at h
    unfold makesF
    cases hq : (operatorF n).2 with
    | true =>
      rw [hq] at h
      simp only [if_true, isF_one, isF_two] at h ⊢
      cases hl : leafF (operatorF n).1 1 with
      | false => rw [hl] at h; simp at h
      | true =>
        have g := leaf_kind hl
        rw [leafF_leaf g] at hl
        rw [leafF_leaf g, leafF_leaf g, eq_of_beq hl]; rfl
    | false =>
      rw [hq] at h
      simp only [Bool.false_eq_true, if_false, isF_one] at h ⊢
      cases hl : leafF (operatorF n).1 5 with
      | false => rw [hl] at h; simp at h
      | true =>
        have g := leaf_kind hl
        rw [leafF_leaf g] at hl
        rw [makingF, saidF_eq, isF_two, leafF_leaf g, leafF_leaf g, leafF_leaf g, eq_of_beq hl]; rfl
  simp [roperF, hm, h]
theorem roper_unbound {n : Nd} (h : boundF n = none) : (roperF n).1 ≠ 2 := by
  unfold roperF
  split
  · simp
  · rw [h]; simp
theorem roper_two {n : Nd} (h : (roperF n).1 = 2) : boundF n = some (roperF n).2 := by
  cases hb : boundF n with
  | none => exact absurd h (roper_unbound hb)
  | some t => rw [roper_bound hb]
theorem roper_not {n : Nd} (h : ¬ (roperF n).1 = 2) : boundF n = none := by
  cases hb : boundF n with
  | none => rfl
  | some t => exact absurd (by rw [roper_bound hb]) h
theorem var_paren {f : Nd} (h : f.kind = 4) : variableF f = none := by
  simp [variableF, isF, namedF, h]
theorem framed3 {f x y z : Nd} {o s : List UInt8} (hl : f.kids.length = 3) (h0 : f.kids[0]? = some x) (h1 : f.kids[1]? = some y) (h2 : f.kids[2]? = some z) (ho : saidF x 15 o = true) (hs : saidF z 15 s = true) : framedF f o s = some [y] := by
  obtain ⟨_, e1⟩ := List.getElem?_eq_some_iff.1 h1
  have hm : midF f = [y] := by
    have h := midF_length (n := f) (by omega)
    have g := midF_get (n := f) (i := 0) (by omega)
    rw [hl] at h
    match hmm : midF f, h, g with
    | [z], h, g =>
      simp only [List.getElem?_cons_zero, h1, Option.some.injEq] at g
      rw [g]
  rw [framedF_eq, hm, if_pos]
  obtain ⟨_, e2⟩ := List.getElem?_eq_some_iff.1 h2
  exact ⟨by omega, by simp [firstF, h0, ho], by simp [lastF, hl, e2, hs]⟩
theorem unframed3 {f : Nd} {o s : List UInt8} (h : ¬ (firstF f o = true ∧ lastF f s = true)) : framedF f o s = none := by
  rw [framedF_eq, if_neg (fun x => h x.2)]
theorem framed_one {f : Nd} {o s : List UInt8} (h : ¬ f.kids.length = 3) : (match framedF f o s with | some l => l.length = 1 | none => False) → False := by
  cases hf : framedF f o s with
  | none => exact id
  | some l => have := framed_len hf; intro (e : l.length = 1); omega
def innerF (q : Nd → List UInt8 × Bool) (f : Nd) : List UInt8 × Bool :=
  if f.kind = 4 then (match framedF f [40] [41] with | some l => if l.length = 1 then (match l[0]? with | some x => q x | none => ([], false)) else ([], false) | none => ([], false))
        else match variableF f with | some t => (t, true) | none => ([], false)
theorem fs_app {p : Nd → Bool} {q : Nd → List UInt8 × Bool} {n f : Nd} (hk : n.kind = 11) (hl : 1 < (n.kids.length : Int)) (hb : allB (besideG p) (n.kids.drop 1) = true) (h0 : n.kids[0]? = some f) : functionStep p q n = innerF q f := by
  have g : 2 ≤ n.kids.length := by omega
  have hb : besideF p (n.kids.drop 1) = true := by
    rw [besideF, decide_eq_true (by rw [List.length_drop]; omega), hb]; rfl
  simp only [functionStep, hk, g, hb, h0, if_true]; rfl
theorem fs_ops {p : Nd → Bool} {q : Nd → List UInt8 × Bool} {n : Nd} (hk : n.kind = 17) : functionStep p q n = functionG p n.kids 0 n.kids := by
  simp [functionStep, hk]
theorem fs_not {p : Nd → Bool} {q : Nd → List UInt8 × Bool} {n : Nd} (h : ¬ n.kind = 17) (k : n.kind = 11 → 1 < (n.kids.length : Int) → allB (besideG p) (n.kids.drop 1) = false) : functionStep p q n = ([], false) := by
  unfold functionStep
  by_cases g : n.kind = 11
  · rw [if_pos g]
    split
    · rw [if_neg]
      rw [besideF, k g (by omega)]; simp
    · rfl
  · rw [if_neg g, if_neg h]
theorem inner_none {q : Nd → List UInt8 × Bool} {f : Nd} (h : f.kind = 4) (hf : framedF f [40] [41] = none) : innerF q f = ([], false) := by simp [innerF, h, hf]
theorem inner_long {q : Nd → List UInt8 × Bool} {f : Nd} (h : f.kind = 4) (hf : ¬ f.kids.length = 3) : innerF q f = ([], false) := by
  rw [innerF, if_pos h]
  cases hg : framedF f [40] [41] with
  | none => rfl
  | some l => exact if_neg (by have := framed_len hg; omega)
theorem inner_some {q : Nd → List UInt8 × Bool} {f y : Nd} (h : f.kind = 4) (hf : framedF f [40] [41] = some [y]) : innerF q f = q y := by simp [innerF, h, hf]
theorem inner_var {q : Nd → List UInt8 × Bool} {f : Nd} {t : List UInt8} (h : variableF f = some t) : innerF q f = (t, true) := by
  by_cases hk : f.kind = 4
  · rw [var_paren hk] at h; cases h
  · rw [innerF, if_neg hk, h]
theorem inner_unvar {q : Nd → List UInt8 × Bool} {f : Nd} (hk : ¬ f.kind = 4) (h : variableF f = none) : innerF q f = ([], false) := by
  rw [innerF, if_neg hk, h]
def TellsO (q : Nd → List UInt8 × Bool) (x : Nd) : Prop := ∀ (st : St) (R : Res → St → Prop), R (.ret (.tup [.str (q x).1, .bool (q x).2])) st → PC 19 [enc x] st R
theorem rowner_step {p : Nd → Bool} {q : Nd → List UInt8 × Bool} {n : Nd} (hp : ∀ x, x.size < n.size → Tells 17 p x) (hn : ∀ x, x.size < n.size → leafF x 11 = true ∨ leafF x 12 = true → p x = true)
    (hq : ∀ x, x.size < n.size → TellsO q x) : TellsO (functionStep p q) n := by
  intro st R h
  have hk : ∀ x ∈ n.kids, Tells 17 p x := fun x hx => hp x (size_kid hx)
  have hd : ∀ x ∈ n.kids.drop 1, Tells 17 p x := fun x hx => hk x (List.mem_of_mem_drop hx)
  have hnk : ∀ x ∈ n.kids, leafF x 11 = true ∨ leafF x 12 = true → p x = true := fun x hx => hn x (size_kid hx)
  refine pcalls_of_body tys_ok [] Try.func19 rfl (by decide) ?_
  repeat' (conv => whnf
           first
             | with_reducible exact quiet_same
             | with_reducible exact quiet_bool
             | with_reducible exact quiet_not
             | with_reducible refine draw_step (by kernel_rfl) ?_
             | with_reducible refine quiet_go ?_ ?_ ?_
             | with_reducible refine bcase_len (by decide) (fun _ => ?_) (fun _ => ?_)
             | with_reducible refine bcase_eq (fun _ => ?_) (fun _ => ?_)
             | with_reducible refine bcase_dec (fun _ => ?_) (fun _ => ?_)
             | with_reducible refine bcase_true ?_
             | with_reducible refine bcase_false ?_
             | with_reducible refine bcase_intro (fun _ => ?_) (fun _ => ?_)
             | with_reducible refine len_kids (fun _ => ?_)
             | with_reducible refine at_known (by assumption) (by omega) ?_
             | with_reducible refine at_kid (by omega) (by omega) (fun _ _ _ => ?_)
             | with_reducible refine tail_kids (by omega) (by omega) ?_
             | with_reducible refine slice_kids (by omega) (by omega) (by omega) ?_
             | with_reducible refine ex_wrap (by omega) (by omega) ?_
             | with_reducible refine quo_step (by decide) (by omega) (by omega) ?_
             | with_reducible refine rem_step (by decide) ?_
             | refine rall_c hd ?_
             | refine rpunct_c ?_
             | refine hq _ (Nat.lt_trans (size_kid (by assumption)) (size_kid (by assumption))) _ _ ?_
             | refine rvariable_c (fun l hl => ?_) (fun hl => ?_))
  all_goals try (refine loop_nb 5 [1] [0] n.kids.length (fun k => k ≤ n.kids.length ∧ functionG p n.kids 0 n.kids = functionG p n.kids k (n.kids.drop k)) ⟨Nat.zero_le _, rfl⟩ (by refine ⟨rfl, ?_, ?_, rfl⟩ <;> repeat' (first | exact trivial | exact rfl | refine And.intro ?_ ?_)) ?_; rintro k ⟨hkl, hi⟩)
  repeat' (conv => whnf
           first
             | with_reducible exact quiet_same
             | with_reducible exact quiet_bool
             | with_reducible exact quiet_not
             | with_reducible refine draw_step (by kernel_rfl) ?_
             | with_reducible refine quiet_go ?_ ?_ ?_
             | with_reducible refine bcase_len (by decide) (fun _ => ?_) (fun _ => ?_)
             | with_reducible refine bcase_eq (fun _ => ?_) (fun _ => ?_)
             | with_reducible refine bcase_dec (fun _ => ?_) (fun _ => ?_)
             | with_reducible refine bcase_true ?_
             | with_reducible refine bcase_false ?_
             | with_reducible refine bcase_intro (fun _ => ?_) (fun _ => ?_)
             | with_reducible refine len_kids (fun _ => ?_)
             | with_reducible refine at_known (by assumption) (by omega) ?_
             | with_reducible refine at_kid (by omega) (by omega) (fun _ _ _ => ?_)
             | with_reducible refine tail_kids (by omega) (by omega) ?_
             | with_reducible refine slice_kids (by omega) (by omega) (by omega) ?_
             | with_reducible refine ex_wrap (by omega) (by omega) ?_
             | with_reducible refine quo_step (by decide) (by omega) (by omega) ?_
             | with_reducible refine rem_step (by decide) ?_
             | refine roperator_c ?_
             | refine rpart_c (fun x hx => hk x (List.mem_of_mem_take (List.mem_of_mem_drop hx))) (fun x hx => hnk x (List.mem_of_mem_take (List.mem_of_mem_drop hx))) ?_
             | refine rpart_c (fun x hx => hk x (List.mem_of_mem_drop hx)) (fun x hx => hnk x (List.mem_of_mem_drop hx)) ?_)
  all_goals conv => whnf
  all_goals first
    | refine finw ?_ h
    | (refine ⟨k + 1, ⟨by omega, ?_⟩, by omega, (by refine ⟨rfl, ?_, ?_, rfl⟩ <;> repeat' (first | exact trivial | exact rfl | refine And.intro ?_ ?_)), St.le_refl _⟩)
    | skip
  all_goals clear h hp hq hk hd hn hnk
  all_goals try (have e := drop_at ‹n.kids[Int.toNat k]? = some _›; rw [Int.toNat_natCast] at e; rw [e, functionG] at hi; clear e)
  all_goals try (rw [roper_two (by assumption)] at hi)
  all_goals try (rw [roper_not (by assumption)] at hi)
  all_goals try simp only [Int.toNat_zero, Int.toNat_one, Int.reduceToNat, Int.toNat_natCast] at *
  all_goals first
    | (simp_all; done)
    | refine fin_pair ?_
  all_goals try (rw [fs_app (by assumption) (by assumption) (by assumption) (by assumption)])
  all_goals try (rw [inner_var (by assumption)]; done)
  all_goals try (rw [inner_unvar (by assumption) (by assumption)]; done)
  all_goals try (rw [inner_long (by assumption) (by assumption)]; done)
  all_goals try (rw [inner_some (by assumption) (framed3 (by assumption) (by assumption) (by assumption) (by assumption) (by assumption) (by assumption))]; exact Prod.ext rfl (by assumption))
  all_goals try (rw [inner_none (by assumption) (unframed3 (by rintro ⟨g1, g2⟩; simp_all [firstF, lastF]))]; done)
  all_goals try simp only [tn3, List.drop_zero] at *
  all_goals try (rw [List.drop_eq_nil_of_le (by omega)] at hi)
  all_goals try (rw [fs_ops (by assumption), hi]; simp_all [functionG]; done)
  all_goals (refine fs_not ?_ ?_; all_goals intros; simp_all)

theorem rowner_c : ∀ (k : Nat) (n : Nd), n.size ≤ k → n.size ≤ 1000000000 → TellsO (funK k) n
  | 0, n, h, _ => by have := size_pos n; omega
  | k + 1, n, h, hl => rowner_step (fun x hx => rmay_c k x (by omega) (by omega)) (fun x hx h11 => by
    cases k with
    | zero => have := size_pos x; omega
    | succ k => exact mayK_num h11) fun x hx => rowner_c k x (by omega) (by omega)

theorem rcheck_c {n : Nd} (hl : n.size ≤ 1000000000) (h : R (.ret (.int .i64 (checkF n))) st) : PC 10 [enc n] st R := by
  refine pcalls_of_body tys_ok [] Try.func10 rfl (by decide) ?_
  repeat' (conv => whnf
           first
             | with_reducible exact quiet_same
             | with_reducible exact quiet_bool
             | with_reducible exact quiet_not
             | with_reducible refine draw_step (by kernel_rfl) ?_
             | with_reducible refine quiet_go ?_ ?_ ?_
             | with_reducible refine bcase_len (by decide) (fun _ => ?_) (fun _ => ?_)
             | with_reducible refine bcase_eq (fun _ => ?_) (fun _ => ?_)
             | with_reducible refine bcase_dec (fun _ => ?_) (fun _ => ?_)
             | with_reducible refine bcase_true ?_
             | with_reducible refine bcase_false ?_
             | with_reducible refine bcase_intro (fun _ => ?_) (fun _ => ?_)
             | with_reducible refine len_kids (fun _ => ?_)
             | with_reducible refine at_known (by assumption) (by omega) ?_
             | with_reducible refine at_kid (by omega) (by omega) (fun _ _ _ => ?_)
             | with_reducible refine tail_kids (by omega) (by omega) ?_
             | with_reducible refine slice_kids (by omega) (by omega) (by omega) ?_
             | with_reducible refine ex_wrap (by omega) (by omega) ?_
             | with_reducible refine quo_step (by decide) (by omega) (by omega) ?_
             | with_reducible refine rem_step (by decide) ?_
             | refine rmay_c _ _ (Nat.le_refl _) hl _ _ ?_)
  all_goals conv => whnf
  all_goals (refine fin h ?_; clear h; simp_all [checkF, mayF])
theorem rlhs_c {n : Nd} (hl : n.size ≤ 1000000000) (h : R (.ret (.tup [.int .i64 (lhsF n).1, .str (lhsF n).2.1, .int .i64 (lhsF n).2.2])) st) : PC 12 [enc n] st R := by
  refine pcalls_of_body tys_ok [] Try.func12 rfl (by decide) ?_
  repeat' (conv => whnf
           first
             | with_reducible exact quiet_same
             | with_reducible exact quiet_bool
             | with_reducible exact quiet_not
             | with_reducible refine draw_step (by kernel_rfl) ?_
             | with_reducible refine quiet_go ?_ ?_ ?_
             | with_reducible refine bcase_len (by decide) (fun _ => ?_) (fun _ => ?_)
             | with_reducible refine bcase_eq (fun _ => ?_) (fun _ => ?_)
             | with_reducible refine bcase_dec (fun _ => ?_) (fun _ => ?_)
             | with_reducible refine bcase_true ?_
             | with_reducible refine bcase_false ?_
             | with_reducible refine bcase_intro (fun _ => ?_) (fun _ => ?_)
             | with_reducible refine len_kids (fun _ => ?_)
             | with_reducible refine at_known (by assumption) (by omega) ?_
             | with_reducible refine at_kid (by omega) (by omega) (fun _ _ _ => ?_)
             | with_reducible refine tail_kids (by omega) (by omega) ?_
             | with_reducible refine slice_kids (by omega) (by omega) (by omega) ?_
             | with_reducible refine ex_wrap (by omega) (by omega) ?_
             | with_reducible refine quo_step (by decide) (by omega) (by omega) ?_
             | with_reducible refine rem_step (by decide) ?_
             | refine rowner_c _ _ (Nat.le_refl _) hl _ _ ?_
             | refine rmay_c _ _ (Nat.le_refl _) hl _ _ ?_)
  all_goals conv => whnf
  all_goals (refine finw ?_ h; clear h; refine fin_trip ?_; simp_all [lhsF, mayF])
end
end Go.Proofs.Ytmhmkpiliejmdaa
