/-
  PATTERNS, PART 12: the law of arguments; lists of trees as a statement reads them.
-/
import Derived.Test.YtmhmkpiliejmdaaPat11
import Derived.Test.YtmhmkpiliejmdaaTop2
set_option linter.unusedVariables false
set_option linter.unusedSimpArgs false
set_option pp.maxSteps 400
namespace Go.Proofs.Ytmhmkpiliejmdaa
open Go Go.Aw
def argsN (name : List UInt8) (l : List Nd) : Nd := .mk 11 0 [] 0 0 ([leafN 1 name] ++ l)
def besideAll (l : List Nd) : Bool := allB (besideG mayF) l
theorem size_args {name : List UInt8} {l : List Nd} : (argsN name l).size = 2 + sizes l := by
  simp only [argsN, Nd.size, sizes_append, sizes, leafN]; omega
theorem lhs_args {name : List UInt8} {l : List Nd} (hl : l ≠ []) : lhsF (argsN name l) = if besideAll l then (1, name, 0) else (0, [], 120) := by
  have hlen : 0 < l.length := List.length_pos_iff.2 hl
  have hkl : (argsN name l).kids.length = l.length + 1 := by simp [argsN, kids_mk]
  have hd : (argsN name l).kids.drop 1 = l := by simp [argsN, kids_mk]
  have h0 : (argsN name l).kids[0]? = some (leafN 1 name) := by simp [argsN, kids_mk]
  have hb : ∀ k, (argsN name l).size ≤ k + 1 → allB (besideG (mayK k)) l = besideAll l := fun k hk => allB_congr fun x hx => by
    have := size_mem hx
    rw [size_args] at hk
    have : mayK k x = mayF x := mayK_free (by omega) (Nat.le_refl _)
    simp only [besideG, this]
  have hv : variableF (leafN 1 name) = some name := rfl
  obtain ⟨k, hk⟩ : ∃ k, (argsN name l).size = k + 1 := ⟨(argsN name l).size - 1, by have := size_pos (argsN name l); omega⟩
  have hf : funK (argsN name l).size (argsN name l) = if besideAll l then (name, true) else ([], false) := by
    rw [hk, funK]
    cases hbl : besideAll l with
    | true =>
      rw [fs_app rfl (by rw [hkl]; omega) (by rw [hd, hb k (by omega), hbl]) h0, inner_var hv]; rfl
    | false =>
      rw [fs_not (by show ¬ (11 : Int) = 17; decide) fun _ _ => by rw [hd, hb k (by omega), hbl]]; rfl
  have hm : mayF (argsN name l) = false := by
    rw [mayF_step]
    have hmk : makerF (leafN 1 name) = false := by
      rw [maker_leaf rfl]; rfl
    have : mayStep mayF (argsN name l) = (decide (0 < (argsN name l).kids.length) && (argsN name l).kids[0]?.any makerF && besideF mayF ((argsN name l).kids.drop 1)) := rfl
    rw [this, h0]
    simp [hmk]
  unfold lhsF
  rw [hf, hm]
  cases besideAll l <;> rfl
def gotBad (l : List Nd) : Int := if besideAll l then 0 else 120
theorem allB_snoc {q : Nd → Bool} {x : Nd} : ∀ {l : List Nd}, allB q (l ++ [x]) = (allB q l && q x)
  | [] => by simp [allB]
  | y :: r => by rw [List.cons_append, allB, allB, allB_snoc, Bool.and_assoc]
theorem gotBad_snoc {l : List Nd} {x : Nd} : gotBad (l ++ [x]) = if besideG mayF x then gotBad l else 120 := by
  simp only [gotBad, besideAll, allB_snoc]
  by_cases hx : besideG mayF x = true
  · rw [hx, Bool.and_true, if_pos rfl]
    rfl
  · simp [hx]
section
variable {st : St} {R : Res → St → Prop}
attribute [local irreducible] Go.Aw.appendTo
theorem lhsA_c {name : List UInt8} {l : List Nd} {own : Own} (hl : l ≠ []) (h : R (.ret (if besideAll l then .tup [.int .i64 1, .str name, .int .i64 0] else .tup [.int .i64 0, .str [], .int .i64 120])) st) :
    PC 11 [.agg [.int .i64 11, .int .i64 0, .str [], .int .i64 0, .int .i64 0, .slice 6 (encs ([leafN 1 name] ++ l)) own]] st R := by
  refine pcalls_wk (args' := [enc (argsN name l)]) rfl (lhs_c ?_)
  rw [lhs_args hl]
  cases hb : besideAll l <;> rw [hb] at h <;> exact h

theorem lawArguments_c {name : List UInt8} {l : List Nd} (hl : sizes l ≤ 100000000) (h : R (.ret (.bool true)) st) : PC 7 [.str name, .slice 6 (encs l) .any] st R := by
  have hll : l.length ≤ sizes l := sizes_len
  refine pcalls_of_body tys_ok [] Try.func7 rfl (by decide) ?_
  repeat' (conv => whnf
           first
             | with_reducible exact quiet_same
             | with_reducible exact quiet_bool
             | with_reducible exact quiet_not
             | with_reducible refine draw_step (by kernel_rfl) ?_
             | with_reducible refine quiet_go ?_ ?_ ?_
             | with_reducible refine bcase_len (by decide) (fun _ => ?_) (fun _ => ?_)
             | with_reducible refine bcase_eq (fun _ => ?_) (fun _ => ?_)
             | with_reducible refine bcase_dec (fun _ => ?_) (fun _ => ?_)
             | with_reducible refine bcase_true ?_
             | with_reducible refine bcase_false ?_
             | with_reducible refine bcase_intro (fun _ => ?_) (fun _ => ?_)
             | with_reducible refine len_kids (fun _ => ?_)
             | with_reducible refine at_known (by assumption) (by omega) ?_
             | with_reducible refine at_kid (by omega) (by omega) (fun _ _ _ => ?_)
             | with_reducible refine tail_kids (by omega) (by omega) ?_
             | with_reducible refine slice_kids (by omega) (by omega) (by omega) ?_
             | with_reducible refine ex_wrap (by omega) (by omega) ?_
             | with_reducible refine quo_step (by decide) (by omega) (by omega) ?_
             | with_reducible refine rem_step (by decide) ?_
             | refine awake_c ?_
             | refine leaf_c ?_)
  · conv => whnf
    exact fin h rfl
  have hl1 : l ≠ [] := fun e => by
    subst e
    exact absurd rfl ‹¬ _ = Int.toNat 0›
  refine loop_g (α := Nat × Own) (fun x => [(8, .int .i64 (x.1 : Int)), (6, .slice 6 (encs ([leafN 1 name] ++ l.take x.1)) x.2), (7, .int .i64 (gotBad (l.take x.1)))]) [0, 1, 5] []
    (fun x => x.2.st st (([leafN 1 name] ++ l.take x.1).length * 6)) (fun x => x.1 ≤ l.length ∧ x.2.good st) (fun x => l.length - x.1) (0, .full)
    ⟨Nat.zero_le _, trivial⟩ (by refine ⟨rfl, ?_, ?_, rfl⟩ <;> repeat' (first | exact trivial | exact rfl | refine And.intro ?_ ?_)) (St.le_refl _) ?_
  rintro ⟨k, own⟩ ⟨hk, ho⟩
  simp only at hk ho
  have htl : (l.take k).length = k := by rw [List.length_take]; omega
  repeat' (conv => whnf
           first
             | with_reducible exact quiet_same
             | with_reducible exact quiet_bool
             | with_reducible exact quiet_not
             | with_reducible refine draw_step (by kernel_rfl) ?_
             | with_reducible refine quiet_go ?_ ?_ ?_
             | with_reducible refine bcase_len (by decide) (fun _ => ?_) (fun _ => ?_)
             | with_reducible refine bcase_eq (fun _ => ?_) (fun _ => ?_)
             | with_reducible refine bcase_dec (fun _ => ?_) (fun _ => ?_)
             | with_reducible refine bcase_true ?_
             | with_reducible refine bcase_false ?_
             | with_reducible refine bcase_intro (fun _ => ?_) (fun _ => ?_)
             | with_reducible refine len_kids (fun _ => ?_)
             | with_reducible refine at_known (by assumption) (by omega) ?_
             | with_reducible refine at_kid (by omega) (by omega) (fun _ _ _ => ?_)
             | with_reducible refine tail_kids (by omega) (by omega) ?_
             | with_reducible refine slice_kids (by omega) (by omega) (by omega) ?_
             | with_reducible refine ex_wrap (by omega) (by omega) ?_
             | with_reducible refine quo_step (by decide) (by omega) (by omega) ?_
             | with_reducible refine rem_step (by decide) ?_
             | refine leaf_c ?_)
  all_goals try conv => whnf
  · have hlt : (k : Int) < (l.length : Int) := ‹_›
    rename_i x hx' hmem
    have hx : l[k]? = some x := hx'
    refine app_node1 (x := x) (l := [leafN 1 name] ++ l.take k) (own := own) (st := st) ho (by simp; omega) (fun owna hoa => ?_)
    have hs := take_snoc hx
    have e3 : gotBad (l.take (k + 1)) = if besideG mayF x then gotBad (l.take k) else 120 := by rw [hs, gotBad_snoc]
    rw [List.append_assoc, ← hs]
    repeat' (conv => whnf
             first
               | with_reducible exact quiet_same
               | with_reducible exact quiet_bool
               | with_reducible exact quiet_not
               | with_reducible refine draw_step (by kernel_rfl) ?_
               | with_reducible refine quiet_go ?_ ?_ ?_
               | with_reducible refine bcase_len (by decide) (fun _ => ?_) (fun _ => ?_)
               | with_reducible refine bcase_eq (fun _ => ?_) (fun _ => ?_)
               | with_reducible refine bcase_dec (fun _ => ?_) (fun _ => ?_)
               | with_reducible refine bcase_true ?_
               | with_reducible refine bcase_false ?_
               | with_reducible refine bcase_intro (fun _ => ?_) (fun _ => ?_)
               | with_reducible refine len_kids (fun _ => ?_)
               | with_reducible refine at_known (by assumption) (by omega) ?_
               | with_reducible refine at_kid (by omega) (by omega) (fun _ _ _ => ?_)
               | with_reducible refine tail_kids (by omega) (by omega) ?_
               | with_reducible refine slice_kids (by omega) (by omega) (by omega) ?_
               | with_reducible refine ex_wrap (by omega) (by omega) ?_
               | with_reducible refine quo_step (by decide) (by omega) (by omega) ?_
               | with_reducible refine rem_step (by decide) ?_
               | refine pcalls_wk (args' := [enc x]) (by rfl) (check_c (n := x) ?_))
    all_goals try conv => whnf
    all_goals first
      | (have hb : besideG mayF x = false := by (simp_all [besideG, checkF])
         rw [hb] at e3
         have e3 : gotBad (l.take (k + 1)) = 120 := e3
         rw [← e3]
         exact ⟨(k + 1, owna), ⟨by show k + 1 ≤ _; omega, hoa⟩, by show _ - (k + 1) < _ - k; omega, (by refine ⟨rfl, ?_, ?_, rfl⟩ <;> repeat' (first | exact trivial | exact rfl | refine And.intro ?_ ?_)), St.le_refl _⟩)
      | (have hb : besideG mayF x = true := by (simp_all [besideG, checkF])
         rw [hb, if_pos rfl] at e3
         rw [← e3]
         exact ⟨(k + 1, owna), ⟨by show k + 1 ≤ _; omega, hoa⟩, by show _ - (k + 1) < _ - k; omega, (by refine ⟨rfl, ?_, ?_, rfl⟩ <;> repeat' (first | exact trivial | exact rfl | refine And.intro ?_ ?_)), St.le_refl _⟩)
  · have hge : ¬ (k : Int) < (l.length : Int) := ‹_›
    obtain rfl : k = l.length := by omega
    rw [List.take_length] at *
    have done : ∃ r2 st2, (r2 = Res.ret (V.bool true) ∨ r2 = (Res.ret (V.bool true)).wk) ∧ st2.le (own.st st (([leafN 1 name] ++ l).length * 6)) ∧ R r2 st2 := ⟨_, st, .inl rfl, Own.good_le ho, h⟩
    cases hb : besideAll l with
    | true =>
      have e : gotBad l = 0 := by rw [gotBad, if_pos hb]
      rw [e]
      refine lhsA_c hl1 ?_
      rw [if_pos hb]
      repeat' (conv => whnf
               first
                 | with_reducible exact quiet_same
                 | with_reducible exact quiet_bool
                 | with_reducible exact quiet_not
                 | with_reducible refine draw_step (by kernel_rfl) ?_
                 | with_reducible refine quiet_go ?_ ?_ ?_
                 | with_reducible refine bcase_len (by decide) (fun _ => ?_) (fun _ => ?_)
                 | with_reducible refine bcase_eq (fun _ => ?_) (fun _ => ?_)
                 | with_reducible refine bcase_dec (fun _ => ?_) (fun _ => ?_)
                 | with_reducible refine bcase_true ?_
                 | with_reducible refine bcase_false ?_
                 | with_reducible refine bcase_intro (fun _ => ?_) (fun _ => ?_)
                 | with_reducible refine len_kids (fun _ => ?_)
                 | with_reducible refine at_known (by assumption) (by omega) ?_
                 | with_reducible refine at_kid (by omega) (by omega) (fun _ _ _ => ?_)
                 | with_reducible refine tail_kids (by omega) (by omega) ?_
                 | with_reducible refine slice_kids (by omega) (by omega) (by omega) ?_
                 | with_reducible refine ex_wrap (by omega) (by omega) ?_
                 | with_reducible refine quo_step (by decide) (by omega) (by omega) ?_
                 | with_reducible refine rem_step (by decide) ?_
                 | refine leaf_c ?_)
      all_goals try conv => whnf
      all_goals first | exact done | (exfalso; simp_all; done)
    | false =>
      have e : gotBad l = 120 := by rw [gotBad, hb]; rfl
      rw [e]
      refine lhsA_c hl1 ?_
      rw [hb]
      repeat' (conv => whnf
               first
                 | with_reducible exact quiet_same
                 | with_reducible exact quiet_bool
                 | with_reducible exact quiet_not
                 | with_reducible refine draw_step (by kernel_rfl) ?_
                 | with_reducible refine quiet_go ?_ ?_ ?_
                 | with_reducible refine bcase_len (by decide) (fun _ => ?_) (fun _ => ?_)
                 | with_reducible refine bcase_eq (fun _ => ?_) (fun _ => ?_)
                 | with_reducible refine bcase_dec (fun _ => ?_) (fun _ => ?_)
                 | with_reducible refine bcase_true ?_
                 | with_reducible refine bcase_false ?_
                 | with_reducible refine bcase_intro (fun _ => ?_) (fun _ => ?_)
                 | with_reducible refine len_kids (fun _ => ?_)
                 | with_reducible refine at_known (by assumption) (by omega) ?_
                 | with_reducible refine at_kid (by omega) (by omega) (fun _ _ _ => ?_)
                 | with_reducible refine tail_kids (by omega) (by omega) ?_
                 | with_reducible refine slice_kids (by omega) (by omega) (by omega) ?_
                 | with_reducible refine ex_wrap (by omega) (by omega) ?_
                 | with_reducible refine quo_step (by decide) (by omega) (by omega) ?_
                 | with_reducible refine rem_step (by decide) ?_
                 | refine leaf_c ?_)
      all_goals try conv => whnf
      all_goals first | exact done | (exfalso; simp_all; done)
theorem dec_nodes {H : Type} {n : Nat} {d : DataW H} {vs : List V} (h : dec Try.prog n 22 d = some vs) : ∃ l : List Nd, vs = [.slice 6 (encs l) .any] ∧ sizes l + 1 ≤ Rows.uptoBulk d := by
  obtain ⟨m, es, ds, rfl, rfl, h1, h2⟩ := dec_slice Try.underlying22 h
  obtain ⟨ks, rfl, hks⟩ := dec_rows (f := encN) (w := Nd.size) (fun d vs => dec_node m d vs) h1
  refine ⟨ks, ?_, ?_⟩
  · rw [cells_node, encs_map]
  · rw [sizes_sum]; omega
end
end Go.Proofs.Ytmhmkpiliejmdaa
