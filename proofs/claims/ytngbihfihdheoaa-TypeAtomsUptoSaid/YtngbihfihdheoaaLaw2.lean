/-
  LAWS OF THE TYPES: awake.
-/
import Derived.Test.YtngbihfihdheoaaLaw1
set_option linter.unusedVariables false
set_option pp.maxSteps 400
namespace Go.Aw
theorem el_lit {es : List (List V)} {i : Int} {e : List V} {K : List V → Prop} (h0 : 0 ≤ i) (h : es[i.toNat]? = some e) (k : K e) : 0 ≤ i ∧ ∃ e, es[i.toNat]? = some e ∧ K e := ⟨h0, e, h, k⟩
end Go.Aw
namespace Go.Proofs.Ytngbihfihdheoaa
open Go Go.Aw
def awl : List Tk := [⟨2, [69, 113], 0, 0⟩, ⟨1, [97], 0, 0⟩, ⟨10, [61, 62], 0, 0⟩, ⟨15, [91], 0, 0⟩, ⟨1, [97], 0, 0⟩, ⟨15, [93], 0, 0⟩, ⟨10, [45, 62], 0, 0⟩, ⟨1, [98], 0, 0⟩]
def aws (i : Int) : Sta := ⟨awl, i, [], 0⟩
def awt (i : Nat) : Nd := leafT (awl.getD i tk0)
theorem rowP_two {A : Sta → Rs} {s s1 s2 : Sta} {n1 n2 : Nd} (h1 : A s = .inr (n1, s1)) (h2 : startsF (nextM s1).1 = true) (h3 : A s1 = .inr (n2, s2)) (h4 : mu s2 < mu s1) (h5 : startsF (nextM s2).1 = false) : rowP A s = .inr (nodeK 39 [n1, n2], s2) := by
  unfold rowP
  rw [h1]
  dsimp only
  rw [rowL_at h2 h3 h4, rowL_n h5]
  rfl
theorem rowP_one {A : Sta → Rs} {s s1 : Sta} {n1 : Nd} (h1 : A s = .inr (n1, s1)) (h5 : startsF (nextM s1).1 = false) : rowP A s = .inr (n1, s1) := by
  unfold rowP
  rw [h1]
  dsimp only
  rw [rowL_n h5]
  rfl
theorem row0 (d : Nat) : rowP (atomP (typeP d)) (aws 0) = .inr (nodeK 39 [awt 0, awt 1], aws 2) := rowP_two (s1 := aws 1) rfl rfl rfl (by decide) rfl
theorem whole_one {A : Sta → Rs} {s s1 : Sta} {n : Nd} (h1 : rowP A s = .inr (n, s1)) (h2 : isF s1 10 [45, 62] = false) : wholeP A s = .inr (n, s1) := by
  unfold wholeP
  rw [h1]
  dsimp only
  unfold arrowsP
  rw [arrL_n h2]
  rfl
theorem type4 : typeP 1 (aws 4) = .inr (awt 4, aws 5) := by
  show wholeP (atomP (typeP 0)) (aws 4) = _
  exact whole_one (rowP_one rfl rfl) rfl
theorem sq3 : atomP (typeP 1) (aws 3) = .inr (nodeK 6 [awt 3, awt 4, awt 5], aws 6) := by
  have e : atomP (typeP 1) (aws 3) = match typeP 1 (aws 4) with
      | .inl e => .inl e
      | .inr q => finP 6 [awt 3, q.1] q.2 [93] := rfl
  rw [e, type4]
  rfl
theorem sq3b : atomP (typeP 0) (aws 3) = .inl (2, aws 4) := rfl
theorem whole3 : wholeP (atomP (typeP 1)) (aws 3) = .inr (nodeK 37 [nodeK 6 [awt 3, awt 4, awt 5], awt 6, awt 7], aws 8) := by
  unfold wholeP
  rw [rowP_one sq3 rfl]
  dsimp only
  unfold arrowsP
  rw [arrL_at (n := awt 7) (s' := aws 8) rfl (rowP_one (s1 := aws 8) rfl rfl) (by decide), arrL_n rfl]
  rfl
theorem whole3b : wholeP (atomP (typeP 0)) (aws 3) = .inl (2, aws 4) := by
  unfold wholeP rowP
  rw [sq3b]
def awn : Nd := nodeK 38 [nodeK 39 [awt 0, awt 1], awt 2, nodeK 37 [nodeK 6 [awt 3, awt 4, awt 5], awt 6, awt 7]]
theorem full2 : docR (aws 0) 2 (fullP (atomP (typeP (depF 2 - 1))) (aws 0)) = .inr (awn, aws 8) := by
  show docR (aws 0) 2 (fullP (atomP (typeP 1)) (aws 0)) = .inr (awn, aws 8)
  unfold docR fullP
  rw [row0, if_neg (by decide)]
  dsimp only
  rw [if_pos (show isF (aws 2) 10 [61, 62] = true from rfl), show (nextM (aws 2)).2.1 = aws 3 from rfl, whole3]
  rfl
theorem full1 : docR (aws 0) 1 (fullP (atomP (typeP (depF 1 - 1))) (aws 0)) = .inl (2, aws 4) := by
  show docR (aws 0) 1 (fullP (atomP (typeP 0)) (aws 0)) = .inl (2, aws 4)
  unfold docR fullP
  rw [row0, if_neg (by decide)]
  dsimp only
  rw [if_pos (show isF (aws 2) 10 [61, 62] = true from rfl), show (nextM (aws 2)).2.1 = aws 3 from rfl, whole3b]

theorem catchR_doc (s : Sta) (deep : Int) (q : Rs) : encR (catchR s deep q) = .tup [enc (rn (docR s deep q)), encS (rs (docR s deep q)), .int .i64 (re (docR s deep q))] := by
  unfold catchR docR
  by_cases h : deep < 1
  · rw [if_pos h, if_pos h]; rfl
  · rw [if_neg h, if_neg h]
    cases q <;> rfl
section
variable {st : St} {R : Res → St → Prop}
attribute [local irreducible] Go.Aw.appendTo
theorem full_e {s : Sta} {deep : Int} {q : Rs} (hm : mu s ≤ 100000000) (hq : docR s deep (fullP (atomP (typeP (depF deep - 1))) s) = q) (h : R (.ret (.tup [enc (rn q), encS (rs q), .int .i64 (re q)])) st) : PC 14 [encS s, .int .i64 deep] st R :=
  fullX s hm st R (by rw [catchR_doc, hq]; exact h)
theorem type_e {s : Sta} {deep : Int} {q : Rs} (hm : mu s ≤ 100000000) (hq : docR s deep (wholeP (atomP (typeP (depF deep - 1))) s) = q) (h : R (.ret (.tup [enc (rn q), encS (rs q), .int .i64 (re q)])) st) : PC 11 [encS s, .int .i64 deep] st R :=
  typeX s hm st R (by rw [catchR_doc, hq]; exact h)
theorem atom_e {s : Sta} {deep : Int} {q : Rs} (hm : mu s ≤ 100000000) (hq : docR s deep (atomP (typeP (depF deep - 1)) s) = q) (h : R (.ret (.tup [enc (rn q), encS (rs q), .int .i64 (re q)])) st) : PC 18 [encS s, .int .i64 deep] st R :=
  atomX s hm st R (by rw [catchR_doc, hq]; exact h)
theorem row_e {s : Sta} {deep : Int} {q : Rs} (hm : mu s ≤ 100000000) (hq : docR s deep (rowP (atomP (typeP (depF deep - 1))) s) = q) (h : R (.ret (.tup [enc (rn q), encS (rs q), .int .i64 (re q)])) st) : PC 20 [encS s, .int .i64 deep] st R :=
  rowX s hm st R (by rw [catchR_doc, hq]; exact h)
theorem awake_c (h : R (.ret (.bool true)) st) : PC 10 [] st R := by
  refine pcalls_of_body tys_ok [] Try.func10 rfl (by decide) ?_
  repeat' (conv => whnf
           first
             | refine el_lit (by decide) rfl ?_
             | with_reducible refine bcase_yes (by decide) ?_
             | with_reducible refine bcase_yes rfl ?_
             | with_reducible refine bcase_tok ?_
             | with_reducible refine bcase_tokn ?_
             | with_reducible refine int_known (by assumption) (by omega) ?_
             | with_reducible exact quiet_same
             | with_reducible exact quiet_bool
             | with_reducible exact quiet_not
             | with_reducible refine draw_step (by kernel_rfl) ?_
             | with_reducible refine quiet_go ?_ ?_ ?_
             | with_reducible refine bcase_yes (by first | assumption | omega) ?_
             | with_reducible refine bcase_no (by first | assumption | omega) ?_
             | with_reducible refine bcase_dyes (by omega) ?_
             | with_reducible refine bcase_dno (by omega) ?_
             | with_reducible refine bcase_len (by decide) (fun _ => ?_) (fun _ => ?_)
             | with_reducible refine bcase_eq (fun _ => ?_) (fun _ => ?_)
             | with_reducible refine bcase_dec (fun _ => ?_) (fun _ => ?_)
             | with_reducible refine bcase_true ?_
             | with_reducible refine bcase_false ?_
             | with_reducible refine bcase_intro (fun _ => ?_) (fun _ => ?_)
             | with_reducible refine len_kids (fun _ => ?_)
             | with_reducible refine at_known (by assumption) (by omega) ?_
             | with_reducible refine at_kid (by omega) (by omega) (fun _ _ _ => ?_)
             | with_reducible refine tail_kids (by omega) (by omega) ?_
             | with_reducible refine slice_kids (by omega) (by omega) (by omega) ?_
             | with_reducible refine ex_wrap (by omega) (by omega) ?_
             | with_reducible refine quo_step (by decide) (by omega) (by omega) ?_
             | with_reducible refine rem_step (by decide) ?_
             | with_reducible refine nil_row (fun _ => ?_) ?_
             | with_reducible refine nil_row2 (fun _ => ?_) ?_
             | with_reducible refine len_toks (fun _ => ?_)
             | with_reducible refine len_ints (fun _ => ?_)
             | with_reducible refine tok_known (by assumption) (by omega) ?_
             | with_reducible refine at_tok (by omega) (by omega) (fun _ _ => ?_)
             | with_reducible refine at_int (by omega) (by omega) (fun _ _ => ?_)
             | with_reducible refine slice_ints (by omega) (by omega) (by omega) ?_
             | refine word_c ?_
             | refine pcalls_wk (args' := [encS (aws 0), .int .i64 2]) (by rfl) (full_e (by decide) full2 ?_)
             | refine pcalls_wk (args' := [encS (aws 0), .int .i64 1]) (by rfl) (full_e (by decide) full1 ?_)
             | with_reducible refine draw_head ?_)
  all_goals exact fin h rfl
end
end Go.Proofs.Ytngbihfihdheoaa
