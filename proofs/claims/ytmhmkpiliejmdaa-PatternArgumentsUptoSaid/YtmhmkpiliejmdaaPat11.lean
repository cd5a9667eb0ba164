/-
  PATTERNS, PART 11: the laws of tuples and of arguments.
-/
import Derived.Test.YtmhmkpiliejmdaaPat10
set_option linter.unusedVariables false
set_option linter.unusedSimpArgs false
set_option pp.maxSteps 400
namespace Go.Proofs.Ytmhmkpiliejmdaa
open Go Go.Aw
section
variable {st : St} {R : Res → St → Prop}
attribute [local irreducible] Go.Aw.appendTo

theorem namesT_c {kind : Int} {o s : List UInt8} {l : List Nd} {own : Own} (hk : kind = 5 ∧ o = [40] ∧ s = [41] ∨ kind = 6 ∧ o = [91] ∧ s = [93]) (hl : 2 ≤ l.length) (hz : (tupN kind o s l).size ≤ 1000000000)
    (h : R (.ret (.tup [.slice 1 (strs (tupE l).1) .any, .int .i64 (tupE l).2])) st) :
    PC 14 [.agg [.int .i64 kind, .int .i64 0, .str [], .int .i64 0, .int .i64 0, .slice 6 (encs (([leafN 15 o] ++ kidsOf l) ++ [leafN 15 s])) own]] st R := by
  refine pcalls_wk (args' := [enc (tupN kind o s l)]) rfl (namesA_c hz ?_)
  rw [namesE_tup hk hl]; exact h

theorem strs_append2 {l new : List (List UInt8)} {a b : Own} {m : Nat} {K : V → St → Prop} (hb : b.good st) (ha : a.good (b.st st l.length)) (hl : l.length + new.length ≤ 1000000000)
    (k : ∀ b' : Own, b'.good st → a.good (b'.st st (l ++ new).length) → K (.slice 1 (strs (l ++ new)) b') (a.st (b'.st st (l ++ new).length) m)) : appendTo 1 16 (strs l) b (strs new) (a.st (b.st st l.length) m) K := by
  obtain ⟨e, h1, h2⟩ := Own.comm (m := m) hb ha
  rw [e]
  refine strs_append (st := a.st st m) h2 hl fun b' hb' => ?_
  obtain ⟨e', h3, h4⟩ := Own.comm (m := (l ++ new).length) (n := m) (a := b') (b := a) h1 hb'
  rw [e']
  exact k b' h3 h4
theorem sizes_append {a b : List Nd} : sizes (a ++ b) = sizes a + sizes b := by
  induction a with
  | nil => simp [sizes]
  | cons x r ih => rw [List.cons_append, sizes, sizes, ih]; omega
theorem sizes_tail : ∀ {l : List Nd}, sizes (tailK l) ≤ 2 * sizes l
  | [] => Nat.zero_le _
  | x :: r => by
    have := sizes_tail (l := r)
    have := size_pos x
    rw [tailK, sizes, sizes, sizes]
    simp only [leafN, Nd.size, sizes]; omega
theorem sizes_kids {l : List Nd} : sizes (kidsOf l) ≤ 2 * sizes l := by
  cases l with
  | nil => simp [kidsOf, sizes]
  | cons x r => have := sizes_tail (l := r); rw [kidsOf, sizes, sizes]; omega
theorem len_none {K : Nat → Prop} (k : K 0) : ∀ m, m = (strs []).length → m < lim → K m := fun m hm _ => by subst hm; exact k
theorem lawTuples_c {l : List Nd} (hl : sizes l ≤ 100000000) (h : R (.ret (.bool true)) st) : PC 6 [.slice 6 (encs l) .any] st R := by
  have hll : l.length ≤ sizes l := sizes_len
  refine pcalls_of_body tys_ok [] Try.func6 rfl (by decide) ?_
  repeat' (conv => whnf
           first
             | with_reducible exact quiet_same
             | with_reducible exact quiet_bool
             | with_reducible exact quiet_not
             | with_reducible refine draw_step (by kernel_rfl) ?_
             | with_reducible refine quiet_go ?_ ?_ ?_
             | with_reducible refine bcase_len (by decide) (fun _ => ?_) (fun _ => ?_)
             | with_reducible refine bcase_eq (fun _ => ?_) (fun _ => ?_)
             | with_reducible refine bcase_dec (fun _ => ?_) (fun _ => ?_)
             | with_reducible refine bcase_true ?_
             | with_reducible refine bcase_false ?_
             | with_reducible refine bcase_intro (fun _ => ?_) (fun _ => ?_)
             | with_reducible refine len_kids (fun _ => ?_)
             | with_reducible refine at_known (by assumption) (by omega) ?_
             | with_reducible refine at_kid (by omega) (by omega) (fun _ _ _ => ?_)
             | with_reducible refine tail_kids (by omega) (by omega) ?_
             | with_reducible refine slice_kids (by omega) (by omega) (by omega) ?_
             | with_reducible refine ex_wrap (by omega) (by omega) ?_
             | with_reducible refine quo_step (by decide) (by omega) (by omega) ?_
             | with_reducible refine rem_step (by decide) ?_
             | refine awake_c ?_)
  · conv => whnf
    exact fin h rfl
  have hl2 : 2 ≤ l.length := by omega
  refine loop_g (α := Nat × Own × Own) (fun x => [(7, .int .i64 (x.1 : Int)), (4, .slice 6 (encs (kidsOf (l.take x.1))) x.2.1), (5, .slice 1 (strs (gotNames (l.take x.1))) x.2.2), (6, .int .i64 (gotErr (l.take x.1)))]) [0, 3] []
    (fun x => x.2.1.st (x.2.2.st st (gotNames (l.take x.1)).length) ((kidsOf (l.take x.1)).length * 6)) (fun x => x.1 ≤ l.length ∧ x.2.2.good st ∧ x.2.1.good (x.2.2.st st (gotNames (l.take x.1)).length)) (fun x => l.length - x.1) (0, .full, .full)
    ⟨Nat.zero_le _, trivial, trivial⟩ (by refine ⟨rfl, ?_, ?_, rfl⟩ <;> repeat' (first | exact trivial | exact rfl | refine And.intro ?_ ?_)) (St.le_refl _) ?_
  rintro ⟨k, own1, own2⟩ ⟨hk, ho2, ho1⟩
  simp only at hk ho1 ho2
  have hgl := gotNames_len (l := l.take k)
  have hsl := sizes_take (l := l) (k := k)
  have hkl := kidsOf_len (l := l.take k)
  have htl : (l.take k).length = k := by rw [List.length_take]; omega
  rw [htl] at hkl
  repeat' (conv => whnf
           first
             | with_reducible exact quiet_same
             | with_reducible exact quiet_bool
             | with_reducible exact quiet_not
             | with_reducible refine draw_step (by kernel_rfl) ?_
             | with_reducible refine quiet_go ?_ ?_ ?_
             | with_reducible refine bcase_len (by decide) (fun _ => ?_) (fun _ => ?_)
             | with_reducible refine bcase_eq (fun _ => ?_) (fun _ => ?_)
             | with_reducible refine bcase_dec (fun _ => ?_) (fun _ => ?_)
             | with_reducible refine bcase_true ?_
             | with_reducible refine bcase_false ?_
             | with_reducible refine bcase_intro (fun _ => ?_) (fun _ => ?_)
             | with_reducible refine len_kids (fun _ => ?_)
             | with_reducible refine at_known (by assumption) (by omega) ?_
             | with_reducible refine at_kid (by omega) (by omega) (fun _ _ _ => ?_)
             | with_reducible refine tail_kids (by omega) (by omega) ?_
             | with_reducible refine slice_kids (by omega) (by omega) (by omega) ?_
             | with_reducible refine ex_wrap (by omega) (by omega) ?_
             | with_reducible refine quo_step (by decide) (by omega) (by omega) ?_
             | with_reducible refine rem_step (by decide) ?_
             | refine leaf_c ?_)
  all_goals try conv => whnf
  · -- behind a comma
    have hlt : (k : Int) < (l.length : Int) := ‹_›
    have hk0 : (0 : Int) < (k : Int) := ‹_›
    refine app_node1 (x := leafN 15 [44]) (l := kidsOf (l.take k)) (own := own1) (st := own2.st st (gotNames (l.take k)).length) ho1 (by omega) (fun owna hoa => ?_)
    conv => whnf
    obtain ⟨x, hx⟩ : ∃ x, l[k]? = some x := ⟨_, List.getElem?_eq_getElem (by omega)⟩
    have hx' : l[(k : Int).toNat]? = some x := hx
    refine at_known hx' (by omega) ?_
    conv => whnf
    refine app_node1 (x := x) (l := (kidsOf (l.take k) ++ [leafN 15 [44]])) (own := owna) (st := own2.st st (gotNames (l.take k)).length) hoa (by (try simp only [List.length_append, List.length_cons, List.length_nil]); omega) (fun ownb hob => ?_)
    conv => whnf
    refine at_known hx' (by omega) ?_
    conv => whnf
    refine pcalls_wk (args' := [enc x]) (by rfl) (namesA_c (n := x) (by have := size_mem (List.mem_of_getElem? hx); omega) ?_)
    conv => whnf
    refine strs_append2 (l := gotNames (l.take k)) (new := (namesE x).1) (a := ownb) (b := own2) (m := ((kidsOf (l.take k) ++ [leafN 15 [44]]) ++ [x]).length * 6) ho2 hob (by rw [← List.length_append, ← gotNames_snoc, ← take_snoc hx]; have := gotNames_len (l := l.take (k + 1)); have := sizes_take (l := l) (k := k + 1); omega) (fun ownc hoc hod => ?_)
    conv => whnf
    have hs := take_snoc hx
    have e1 : kidsOf (l.take (k + 1)) = (kidsOf (l.take k) ++ [leafN 15 [44]]) ++ [x] := by rw [hs, kidsOf_snoc (fun e => by rw [e] at htl; simp at htl; omega)]
    have e2 : gotNames (l.take (k + 1)) = gotNames (l.take k) ++ (namesE x).1 := by rw [hs, gotNames_snoc]
    have e3 : gotErr (l.take (k + 1)) = if (namesE x).2 = 0 then gotErr (l.take k) else (namesE x).2 := by rw [hs, gotErr_snoc]
    rw [← e1, ← e2]
    rw [← e2] at hod
    refine bcase_eq (fun he => ?_) (fun he => ?_)
    · rw [if_pos he] at e3
      rw [← e3]
      repeat' (conv => whnf
               first
                 | with_reducible exact quiet_same
                 | with_reducible exact quiet_bool
                 | with_reducible exact quiet_not
                 | with_reducible refine draw_step (by kernel_rfl) ?_
                 | with_reducible refine quiet_go ?_ ?_ ?_
                 | with_reducible refine bcase_len (by decide) (fun _ => ?_) (fun _ => ?_)
                 | with_reducible refine bcase_eq (fun _ => ?_) (fun _ => ?_)
                 | with_reducible refine bcase_dec (fun _ => ?_) (fun _ => ?_)
                 | with_reducible refine bcase_true ?_
                 | with_reducible refine bcase_false ?_
                 | with_reducible refine bcase_intro (fun _ => ?_) (fun _ => ?_)
                 | with_reducible refine len_kids (fun _ => ?_)
                 | with_reducible refine at_known (by assumption) (by omega) ?_
                 | with_reducible refine at_kid (by omega) (by omega) (fun _ _ _ => ?_)
                 | with_reducible refine tail_kids (by omega) (by omega) ?_
                 | with_reducible refine slice_kids (by omega) (by omega) (by omega) ?_
                 | with_reducible refine ex_wrap (by omega) (by omega) ?_
                 | with_reducible refine quo_step (by decide) (by omega) (by omega) ?_
                 | with_reducible refine rem_step (by decide) ?_
                 | refine leaf_c ?_)
      conv => whnf
      exact ⟨(k + 1, ownb, ownc), ⟨by show k + 1 ≤ _; omega, hoc, hod⟩, by show _ - (k + 1) < _ - k; omega, (by refine ⟨rfl, ?_, ?_, rfl⟩ <;> repeat' (first | exact trivial | exact rfl | refine And.intro ?_ ?_)), St.le_refl _⟩
    · rw [if_neg he] at e3
      rw [← e3]
      repeat' (conv => whnf
               first
                 | with_reducible exact quiet_same
                 | with_reducible exact quiet_bool
                 | with_reducible exact quiet_not
                 | with_reducible refine draw_step (by kernel_rfl) ?_
                 | with_reducible refine quiet_go ?_ ?_ ?_
                 | with_reducible refine bcase_len (by decide) (fun _ => ?_) (fun _ => ?_)
                 | with_reducible refine bcase_eq (fun _ => ?_) (fun _ => ?_)
                 | with_reducible refine bcase_dec (fun _ => ?_) (fun _ => ?_)
                 | with_reducible refine bcase_true ?_
                 | with_reducible refine bcase_false ?_
                 | with_reducible refine bcase_intro (fun _ => ?_) (fun _ => ?_)
                 | with_reducible refine len_kids (fun _ => ?_)
                 | with_reducible refine at_known (by assumption) (by omega) ?_
                 | with_reducible refine at_kid (by omega) (by omega) (fun _ _ _ => ?_)
                 | with_reducible refine tail_kids (by omega) (by omega) ?_
                 | with_reducible refine slice_kids (by omega) (by omega) (by omega) ?_
                 | with_reducible refine ex_wrap (by omega) (by omega) ?_
                 | with_reducible refine quo_step (by decide) (by omega) (by omega) ?_
                 | with_reducible refine rem_step (by decide) ?_
                 | refine leaf_c ?_)
      conv => whnf
      exact ⟨(k + 1, ownb, ownc), ⟨by show k + 1 ≤ _; omega, hoc, hod⟩, by show _ - (k + 1) < _ - k; omega, (by refine ⟨rfl, ?_, ?_, rfl⟩ <;> repeat' (first | exact trivial | exact rfl | refine And.intro ?_ ?_)), St.le_refl _⟩
  · -- the first one
    rename_i x hx' hmem
    have hlt : (k : Int) < (l.length : Int) := ‹_›
    have hk0 : ¬ (0 : Int) < (k : Int) := ‹_›
    have hx : l[k]? = some x := hx'
    have hk00 : k = 0 := by omega
    refine app_node1 (x := x) (l := kidsOf (l.take k)) (own := own1) (st := own2.st st (gotNames (l.take k)).length) ho1 (by (try simp only [List.length_append, List.length_cons, List.length_nil]); omega) (fun ownb hob => ?_)
    conv => whnf
    refine at_known hx' (by omega) ?_
    conv => whnf
    refine pcalls_wk (args' := [enc x]) (by rfl) (namesA_c (n := x) (by have := size_mem (List.mem_of_getElem? hx); omega) ?_)
    conv => whnf
    refine strs_append2 (l := gotNames (l.take k)) (new := (namesE x).1) (a := ownb) (b := own2) (m := (kidsOf (l.take k) ++ [x]).length * 6) ho2 hob (by rw [← List.length_append, ← gotNames_snoc, ← take_snoc hx]; have := gotNames_len (l := l.take (k + 1)); have := sizes_take (l := l) (k := k + 1); omega) (fun ownc hoc hod => ?_)
    conv => whnf
    have hs := take_snoc hx
    have e1 : kidsOf (l.take (k + 1)) = kidsOf (l.take k) ++ [x] := by rw [hs, hk00]; rfl
    have e2 : gotNames (l.take (k + 1)) = gotNames (l.take k) ++ (namesE x).1 := by rw [hs, gotNames_snoc]
    have e3 : gotErr (l.take (k + 1)) = if (namesE x).2 = 0 then gotErr (l.take k) else (namesE x).2 := by rw [hs, gotErr_snoc]
    rw [← e1, ← e2]
    rw [← e2] at hod
    refine bcase_eq (fun he => ?_) (fun he => ?_)
    · rw [if_pos he] at e3
      rw [← e3]
      repeat' (conv => whnf
               first
                 | with_reducible exact quiet_same
                 | with_reducible exact quiet_bool
                 | with_reducible exact quiet_not
                 | with_reducible refine draw_step (by kernel_rfl) ?_
                 | with_reducible refine quiet_go ?_ ?_ ?_
                 | with_reducible refine bcase_len (by decide) (fun _ => ?_) (fun _ => ?_)
                 | with_reducible refine bcase_eq (fun _ => ?_) (fun _ => ?_)
                 | with_reducible refine bcase_dec (fun _ => ?_) (fun _ => ?_)
                 | with_reducible refine bcase_true ?_
                 | with_reducible refine bcase_false ?_
                 | with_reducible refine bcase_intro (fun _ => ?_) (fun _ => ?_)
                 | with_reducible refine len_kids (fun _ => ?_)
                 | with_reducible refine at_known (by assumption) (by omega) ?_
                 | with_reducible refine at_kid (by omega) (by omega) (fun _ _ _ => ?_)
                 | with_reducible refine tail_kids (by omega) (by omega) ?_
                 | with_reducible refine slice_kids (by omega) (by omega) (by omega) ?_
                 | with_reducible refine ex_wrap (by omega) (by omega) ?_
                 | with_reducible refine quo_step (by decide) (by omega) (by omega) ?_
                 | with_reducible refine rem_step (by decide) ?_
                 | refine leaf_c ?_)
      conv => whnf
      exact ⟨(k + 1, ownb, ownc), ⟨by show k + 1 ≤ _; omega, hoc, hod⟩, by show _ - (k + 1) < _ - k; omega, (by refine ⟨rfl, ?_, ?_, rfl⟩ <;> repeat' (first | exact trivial | exact rfl | refine And.intro ?_ ?_)), St.le_refl _⟩
    · rw [if_neg he] at e3
      rw [← e3]
      repeat' (conv => whnf
               first
                 | with_reducible exact quiet_same
                 | with_reducible exact quiet_bool
                 | with_reducible exact quiet_not
                 | with_reducible refine draw_step (by kernel_rfl) ?_
                 | with_reducible refine quiet_go ?_ ?_ ?_
                 | with_reducible refine bcase_len (by decide) (fun _ => ?_) (fun _ => ?_)
                 | with_reducible refine bcase_eq (fun _ => ?_) (fun _ => ?_)
                 | with_reducible refine bcase_dec (fun _ => ?_) (fun _ => ?_)
                 | with_reducible refine bcase_true ?_
                 | with_reducible refine bcase_false ?_
                 | with_reducible refine bcase_intro (fun _ => ?_) (fun _ => ?_)
                 | with_reducible refine len_kids (fun _ => ?_)
                 | with_reducible refine at_known (by assumption) (by omega) ?_
                 | with_reducible refine at_kid (by omega) (by omega) (fun _ _ _ => ?_)
                 | with_reducible refine tail_kids (by omega) (by omega) ?_
                 | with_reducible refine slice_kids (by omega) (by omega) (by omega) ?_
                 | with_reducible refine ex_wrap (by omega) (by omega) ?_
                 | with_reducible refine quo_step (by decide) (by omega) (by omega) ?_
                 | with_reducible refine rem_step (by decide) ?_
                 | refine leaf_c ?_)
      conv => whnf
      exact ⟨(k + 1, ownb, ownc), ⟨by show k + 1 ≤ _; omega, hoc, hod⟩, by show _ - (k + 1) < _ - k; omega, (by refine ⟨rfl, ?_, ?_, rfl⟩ <;> repeat' (first | exact trivial | exact rfl | refine And.intro ?_ ?_)), St.le_refl _⟩
  · -- behind the loop
    have hge : ¬ (k : Int) < (l.length : Int) := ‹_›
    obtain rfl : k = l.length := by omega
    rw [List.take_length] at *
    conv => whnf
    have hz : ∀ kind o s, o = [40] ∨ o = [91] → s = [41] ∨ s = [93] → (tupN kind o s l).size ≤ 1000000000 := fun kind o s h1 h2 => by
      have : sizes (kidsOf l) ≤ 2 * sizes l := sizes_kids
      simp only [tupN, Nd.size, sizes_append, sizes, leafN]; omega
    have hS0 : St.le st (own1.st (own2.st st (gotNames l).length) ((kidsOf l).length * 6)) := St.le_trans (Own.good_le ho2) (Own.good_le ho1)
    generalize hSS : own1.st (own2.st st (gotNames l).length) ((kidsOf l).length * 6) = S0 at hS0
    refine app_node1 (l := []) (x := leafN 15 [40]) (own := .full) (st := S0) trivial (by simp) (fun owna hoa => ?_)
    conv => whnf
    refine app_nodes (l := [] ++ [leafN 15 [40]]) (new := kidsOf l) (own := owna) (st := S0) hoa (by simp; omega) (fun ownb hob => ?_)
    repeat' (conv => whnf
             first
               | with_reducible exact quiet_same
               | with_reducible exact quiet_bool
               | with_reducible exact quiet_not
               | with_reducible refine draw_step (by kernel_rfl) ?_
               | with_reducible refine quiet_go ?_ ?_ ?_
               | with_reducible refine bcase_len (by decide) (fun _ => ?_) (fun _ => ?_)
               | with_reducible refine bcase_eq (fun _ => ?_) (fun _ => ?_)
               | with_reducible refine bcase_dec (fun _ => ?_) (fun _ => ?_)
               | with_reducible refine bcase_true ?_
               | with_reducible refine bcase_false ?_
               | with_reducible refine bcase_intro (fun _ => ?_) (fun _ => ?_)
               | with_reducible refine len_kids (fun _ => ?_)
               | with_reducible refine at_known (by assumption) (by omega) ?_
               | with_reducible refine at_kid (by omega) (by omega) (fun _ _ _ => ?_)
               | with_reducible refine tail_kids (by omega) (by omega) ?_
               | with_reducible refine slice_kids (by omega) (by omega) (by omega) ?_
               | with_reducible refine ex_wrap (by omega) (by omega) ?_
               | with_reducible refine quo_step (by decide) (by omega) (by omega) ?_
               | with_reducible refine rem_step (by decide) ?_
               | refine leaf_c ?_)
    conv => whnf
    refine app_node1 (l := ([] ++ [leafN 15 [40]]) ++ kidsOf l) (x := leafN 15 [41]) (own := ownb) (st := S0) hob (by simp; omega) (fun ownc hoc => ?_)
    have hS1 := St.le_trans hS0 (Own.good_le (n := (((([] : List Nd) ++ [leafN 15 [40]]) ++ kidsOf l) ++ [leafN 15 [41]]).length * 6) hoc)
    generalize ownc.st S0 (((([] ++ [leafN 15 [40]]) ++ kidsOf l) ++ [leafN 15 [41]]).length * 6) = S1 at hS1 ⊢
    repeat' (conv => whnf
             first
               | with_reducible exact quiet_same
               | with_reducible exact quiet_bool
               | with_reducible exact quiet_not
               | with_reducible refine draw_step (by kernel_rfl) ?_
               | with_reducible refine quiet_go ?_ ?_ ?_
               | with_reducible refine bcase_len (by decide) (fun _ => ?_) (fun _ => ?_)
               | with_reducible refine bcase_eq (fun _ => ?_) (fun _ => ?_)
               | with_reducible refine bcase_dec (fun _ => ?_) (fun _ => ?_)
               | with_reducible refine bcase_true ?_
               | with_reducible refine bcase_false ?_
               | with_reducible refine bcase_intro (fun _ => ?_) (fun _ => ?_)
               | with_reducible refine len_kids (fun _ => ?_)
               | with_reducible refine at_known (by assumption) (by omega) ?_
               | with_reducible refine at_kid (by omega) (by omega) (fun _ _ _ => ?_)
               | with_reducible refine tail_kids (by omega) (by omega) ?_
               | with_reducible refine slice_kids (by omega) (by omega) (by omega) ?_
               | with_reducible refine ex_wrap (by omega) (by omega) ?_
               | with_reducible refine quo_step (by decide) (by omega) (by omega) ?_
               | with_reducible refine rem_step (by decide) ?_
               | refine leaf_c ?_)
    conv => whnf
    refine app_node1 (l := []) (x := leafN 15 [91]) (own := .full) (st := S1) trivial (by simp) (fun owna hoa => ?_)
    conv => whnf
    refine app_nodes (l := [] ++ [leafN 15 [91]]) (new := kidsOf l) (own := owna) (st := S1) hoa (by simp; omega) (fun ownb hob => ?_)
    repeat' (conv => whnf
             first
               | with_reducible exact quiet_same
               | with_reducible exact quiet_bool
               | with_reducible exact quiet_not
               | with_reducible refine draw_step (by kernel_rfl) ?_
               | with_reducible refine quiet_go ?_ ?_ ?_
               | with_reducible refine bcase_len (by decide) (fun _ => ?_) (fun _ => ?_)
               | with_reducible refine bcase_eq (fun _ => ?_) (fun _ => ?_)
               | with_reducible refine bcase_dec (fun _ => ?_) (fun _ => ?_)
               | with_reducible refine bcase_true ?_
               | with_reducible refine bcase_false ?_
               | with_reducible refine bcase_intro (fun _ => ?_) (fun _ => ?_)
               | with_reducible refine len_kids (fun _ => ?_)
               | with_reducible refine at_known (by assumption) (by omega) ?_
               | with_reducible refine at_kid (by omega) (by omega) (fun _ _ _ => ?_)
               | with_reducible refine tail_kids (by omega) (by omega) ?_
               | with_reducible refine slice_kids (by omega) (by omega) (by omega) ?_
               | with_reducible refine ex_wrap (by omega) (by omega) ?_
               | with_reducible refine quo_step (by decide) (by omega) (by omega) ?_
               | with_reducible refine rem_step (by decide) ?_
               | refine leaf_c ?_)
    conv => whnf
    refine app_node1 (l := ([] ++ [leafN 15 [91]]) ++ kidsOf l) (x := leafN 15 [93]) (own := ownb) (st := S1) hob (by simp; omega) (fun ownd hod => ?_)
    have hS2 := St.le_trans hS1 (Own.good_le (n := (((([] : List Nd) ++ [leafN 15 [91]]) ++ kidsOf l) ++ [leafN 15 [93]]).length * 6) hod)
    generalize ownd.st S1 (((([] ++ [leafN 15 [91]]) ++ kidsOf l) ++ [leafN 15 [93]]).length * 6) = S2 at hS2 ⊢
    conv => whnf
    refine namesT_c (kind := 5) (o := [40]) (s := [41]) (l := l) (.inl ⟨rfl, rfl, rfl⟩) hl2 (hz _ _ _ (.inl rfl) (.inl rfl)) ?_
    conv => whnf
    refine namesT_c (kind := 6) (o := [91]) (s := [93]) (l := l) (.inr ⟨rfl, rfl, rfl⟩) hl2 (hz _ _ _ (.inr rfl) (.inr rfl)) ?_
    have done : ∀ b : Bool, b = true → ∃ r2 st2, (r2 = Res.ret (V.bool b) ∨ r2 = (Res.ret (V.bool b)).wk) ∧ st2.le S2 ∧ R r2 st2 := fun b hb => by subst hb; exact ⟨_, st, .inl rfl, hS2, h⟩
    cases hall : allMay l with
    | true =>
      have t1 : tupE l = (gotNames l, 0) := by rw [tupE, if_pos hall, gotNames_all hall]
      have t2 : gotErr l = 0 := by rw [gotErr, if_pos hall]
      rw [t1, t2]
      repeat' (conv => whnf
               first
                 | with_reducible exact quiet_same
                 | with_reducible exact quiet_bool
                 | with_reducible exact quiet_not
                 | with_reducible refine draw_step (by kernel_rfl) ?_
                 | with_reducible refine quiet_go ?_ ?_ ?_
                 | with_reducible refine bcase_len (by decide) (fun _ => ?_) (fun _ => ?_)
                 | with_reducible refine bcase_eq (fun _ => ?_) (fun _ => ?_)
                 | with_reducible refine bcase_dec (fun _ => ?_) (fun _ => ?_)
                 | with_reducible refine bcase_true ?_
                 | with_reducible refine bcase_false ?_
                 | with_reducible refine bcase_intro (fun _ => ?_) (fun _ => ?_)
                 | with_reducible refine len_kids (fun _ => ?_)
                 | with_reducible refine at_known (by assumption) (by omega) ?_
                 | with_reducible refine at_kid (by omega) (by omega) (fun _ _ _ => ?_)
                 | with_reducible refine tail_kids (by omega) (by omega) ?_
                 | with_reducible refine slice_kids (by omega) (by omega) (by omega) ?_
                 | with_reducible refine ex_wrap (by omega) (by omega) ?_
                 | with_reducible refine quo_step (by decide) (by omega) (by omega) ?_
                 | with_reducible refine rem_step (by decide) ?_
                 | refine same_true (a := gotNames l) ?_)
      all_goals try conv => whnf
      all_goals first | exact done true rfl | (exfalso; simp_all; done)
    | false =>
      have t1 : tupE l = ([], 120) := by rw [tupE, hall]; rfl
      have t2 : gotErr l = 120 := by rw [gotErr, hall]; rfl
      rw [t1, t2]
      repeat' (conv => whnf
               first
                 | with_reducible exact quiet_same
                 | with_reducible exact quiet_bool
                 | with_reducible exact quiet_not
                 | with_reducible refine draw_step (by kernel_rfl) ?_
                 | with_reducible refine quiet_go ?_ ?_ ?_
                 | with_reducible refine bcase_len (by decide) (fun _ => ?_) (fun _ => ?_)
                 | with_reducible refine bcase_eq (fun _ => ?_) (fun _ => ?_)
                 | with_reducible refine bcase_dec (fun _ => ?_) (fun _ => ?_)
                 | with_reducible refine bcase_true ?_
                 | with_reducible refine bcase_false ?_
                 | with_reducible refine bcase_intro (fun _ => ?_) (fun _ => ?_)
                 | with_reducible refine len_kids (fun _ => ?_)
                 | with_reducible refine at_known (by assumption) (by omega) ?_
                 | with_reducible refine at_kid (by omega) (by omega) (fun _ _ _ => ?_)
                 | with_reducible refine tail_kids (by omega) (by omega) ?_
                 | with_reducible refine slice_kids (by omega) (by omega) (by omega) ?_
                 | with_reducible refine ex_wrap (by omega) (by omega) ?_
                 | with_reducible refine quo_step (by decide) (by omega) (by omega) ?_
                 | with_reducible refine rem_step (by decide) ?_
                 | refine len_none ?_)
      all_goals try conv => whnf
      all_goals first | exact done true rfl | (exfalso; simp_all; done)
end
end Go.Proofs.Ytmhmkpiliejmdaa
