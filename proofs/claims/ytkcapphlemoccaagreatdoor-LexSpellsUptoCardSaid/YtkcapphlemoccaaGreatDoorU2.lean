/-
  Parts of a proof: lemmas that the last text uses.
-/
import Derived.Test.YtkcapphlemoccaaGreatDoorU1
set_option linter.unusedVariables false
namespace Go.Aw
open Go
def nlF (l : List UInt8) : Nat := if hdF l = 13 ∧ hdF (l.drop 1) = 10 then 2 else if hdF l = 13 ∨ hdF l = 10 ∨ hdF l = 12 then 1 else 0
def stopF (col : Int) : Int := (col - 1) / 8 * 8 + 9
def stepN (l : List UInt8) : Nat := if 0 < nlF l then nlF l else (decR l).2
def stepL (l : List UInt8) (line : Int) : Int := if 0 < nlF l then line + 1 else line
def stepC (l : List UInt8) (col : Int) : Int := if 0 < nlF l then 1 else if hdF l = 9 then stopF col else col + 1
theorem hdF_at {s : List UInt8} {i : Nat} {e : UInt8} (h : s[i]? = some e) : hdF (s.drop i) = (e.toNat : Nat) := by rw [drop_at h]; rfl
theorem hdF_none {s : List UInt8} {i : Nat} (h : s.length ≤ i) : hdF (s.drop i) = -1 := by rw [List.drop_eq_nil_iff.2 h]; rfl
theorem nlF_le (l : List UInt8) : nlF l ≤ l.length := by
  rcases l with _ | ⟨a, _ | ⟨b, r⟩⟩
  · decide
  · have e : ¬ (hdF [a] = 13 ∧ hdF ([a].drop 1) = 10) := fun h => absurd (show (-1 : Int) = 10 from h.2) (by decide)
    unfold nlF
    rw [if_neg e, List.length_singleton]
    by_cases h : hdF [a] = 13 ∨ hdF [a] = 10 ∨ hdF [a] = 12
    · rw [if_pos h]; omega
    · rw [if_neg h]; omega
  · unfold nlF
    simp only [List.length_cons]
    by_cases h1 : hdF (a :: b :: r) = 13 ∧ hdF ((a :: b :: r).drop 1) = 10
    · rw [if_pos h1]; omega
    · rw [if_neg h1]
      by_cases h : hdF (a :: b :: r) = 13 ∨ hdF (a :: b :: r) = 10 ∨ hdF (a :: b :: r) = 12
      · rw [if_pos h]; omega
      · rw [if_neg h]; omega
theorem stepN_le {l : List UInt8} (h : l ≠ []) : stepN l ≤ l.length ∧ 1 ≤ stepN l := by
  unfold stepN
  split
  · exact ⟨nlF_le l, by assumption⟩
  · exact ⟨decR_le h, decR_pos l⟩
theorem step_or (s : List UInt8) (pos : Nat) : ¬ pos < s.length ∨ (pos + stepN (s.drop pos) ≤ s.length ∧ 1 ≤ stepN (s.drop pos)) := by
  by_cases h : pos < s.length
  · have := stepN_le (l := s.drop pos) (fun e => by have := congrArg List.length e; rw [List.length_drop, List.length_nil] at this; omega)
    rw [List.length_drop] at this
    exact .inr ⟨by omega, this.2⟩
  · exact .inl h
end Go.Aw
namespace Go.Proofs.YtkcapphlemoccaaGreatDoor
open Go Go.Aw
def spot (pos : Nat) (line col : Int) : V := .agg [.int .i64 pos, .int .i64 line, .int .i64 col]
theorem spot_ret {p : Nat} {p' l l' c c' : Int} (e1 : (p : Int) = p') (e2 : l = l') (e3 : c = c') : Res.ret (spot p l c) = Res.ret (.agg [.int .i64 p', .int .i64 l', .int .i64 c']) := by subst e1; subst e2; subst e3; rfl
section
variable {st : St} {R : Res → St → Prop}
theorem next_at {s : List UInt8} {i : Int} {c m : Nat} (hl : s.length < 4611686018427387904) (hx : nextF s i = ((c : Int), (m : Int))) (h : R (.ret (.tup [.int .i32 c, .int .i64 m])) st) : PC 99 [.str s, .int .i64 i] st R := next_c hl (by rw [hx]; exact h)
theorem newline_c {s : List UInt8} {pos : Nat} (hl : s.length < 4611686018427387904) (hp : pos < s.length) (h : R (.ret (.int .i64 (nlF (s.drop pos) : Nat))) st) : PC 85 [.str s, .int .i64 pos] st R := by
  obtain ⟨e, he⟩ : ∃ e, s[pos]? = some e := ⟨s[pos], List.getElem?_eq_getElem hp⟩
  have he' : s[(pos : Int).toNat]? = some e := he
  have h0 := hdF_at he
  have h1 : hdF ((s.drop pos).drop 1) = hdF (s.drop (pos + 1)) := by rw [List.drop_drop]
  refine pcalls_of_body tys_ok [] Tryz.func85 rfl (by decide) ?_
  repeat' ((conv => whnf); first
    | (with_reducible first | exact Wa | exact Wb | exact Wc | refine Wd (by kernel_rfl) ?_ | refine We ?_ ?_ ?_ | refine W8 (by decide +kernel) ?_ ?_ ?_ | refine W9 ?_ ?_ ?_ | refine Wt (by first | assumption | omega) ?_ | refine Wu (by first | assumption | omega) ?_ | refine Wv (by omega) ?_ | refine Ww (by omega) ?_ | refine Wf (by decide) (fun _ => ?_) (fun _ => ?_) | refine Wg (fun _ => ?_) (fun _ => ?_) | refine Wh (fun _ => ?_) (fun _ => ?_) | refine Wi ?_ | refine Wj ?_ | refine Wk (fun _ => ?_) (fun _ => ?_) | refine Wl (fun _ => ?_) | refine Wm (by assumption) (by omega) ?_ | refine Wn (by omega) (by omega) (fun _ _ _ => ?_) | refine Wo (by omega) (by omega) ?_ | refine Wp (by omega) (by omega) (by omega) ?_ | refine Wq (by omega) (by omega) ?_ | refine Wr (by decide) (by omega) (by omega) ?_ | refine Ws (by decide) ?_ | refine Wx (fun _ => ?_) ?_ | refine Wy (fun _ => ?_) ?_ | refine Wz (fun _ => ?_) | refine WA (fun _ => ?_) | refine WB (by assumption) (by omega) ?_ | refine WC (by omega) (by omega) (fun _ _ => ?_) | refine WD (by omega) (by omega) (fun _ _ => ?_) | refine WE (by omega) (by omega) (by omega) ?_ | refine WJ (fun _ => ?_) | refine WK (fun _ _ _ => ?_) | refine WL (by assumption) (by omega) ?_ | refine WM (by omega) (by omega) (fun _ _ => ?_) | refine WN (by omega) (by omega) ?_ | refine WO (by omega) (by omega) ?_ | refine WP (by omega) (by omega) (by omega) ?_)
    | with_reducible refine WF ?_)
  all_goals try have h2 := hdF_at (show s[pos + 1]? = some _ by assumption)
  all_goals try have h3 := hdF_none (s := s) (i := pos + 1) (by omega)
  all_goals exact fin h (int_ret (by unfold nlF; rw [h1]; (repeat' split) <;> omega))
theorem stop_c {col : Int} (h0 : 1 ≤ col) (h1 : col ≤ 4000000000000000000) (h : R (.ret (.int .i64 (stopF col))) st) : PC 100 [.int .i64 col] st R := by
  refine pcalls_of_body tys_ok [] Tryz.func100 rfl (by decide) ?_
  repeat' ((conv => whnf); first
    | (with_reducible first | exact Wa | exact Wb | exact Wc | refine Wd (by kernel_rfl) ?_ | refine We ?_ ?_ ?_ | refine W8 (by decide +kernel) ?_ ?_ ?_ | refine W9 ?_ ?_ ?_ | refine Wt (by first | assumption | omega) ?_ | refine Wu (by first | assumption | omega) ?_ | refine Wv (by omega) ?_ | refine Ww (by omega) ?_ | refine Wf (by decide) (fun _ => ?_) (fun _ => ?_) | refine Wg (fun _ => ?_) (fun _ => ?_) | refine Wh (fun _ => ?_) (fun _ => ?_) | refine Wi ?_ | refine Wj ?_ | refine Wk (fun _ => ?_) (fun _ => ?_) | refine Wl (fun _ => ?_) | refine Wm (by assumption) (by omega) ?_ | refine Wn (by omega) (by omega) (fun _ _ _ => ?_) | refine Wo (by omega) (by omega) ?_ | refine Wp (by omega) (by omega) (by omega) ?_ | refine Wq (by omega) (by omega) ?_ | refine Wr (by decide) (by omega) (by omega) ?_ | refine Ws (by decide) ?_ | refine Wx (fun _ => ?_) ?_ | refine Wy (fun _ => ?_) ?_ | refine Wz (fun _ => ?_) | refine WA (fun _ => ?_) | refine WB (by assumption) (by omega) ?_ | refine WC (by omega) (by omega) (fun _ _ => ?_) | refine WD (by omega) (by omega) (fun _ _ => ?_) | refine WE (by omega) (by omega) (by omega) ?_ | refine WJ (fun _ => ?_) | refine WK (fun _ _ _ => ?_) | refine WL (by assumption) (by omega) ?_ | refine WM (by omega) (by omega) (fun _ _ => ?_) | refine WN (by omega) (by omega) ?_ | refine WO (by omega) (by omega) ?_ | refine WP (by omega) (by omega) (by omega) ?_)
    | with_reducible refine WF ?_)
  exact fin h (int_ret (by unfold stopF; omega))
theorem pnext_c {s : List UInt8} {pos : Nat} {line col : Int} (hl : s.length < 4611686018427387904) (hp : pos < s.length) (h0 : 1 ≤ line) (h1 : line ≤ 4000000000000000000) (h2 : 1 ≤ col) (h3 : col ≤ 4000000000000000000)
    (h : R (.ret (spot (pos + stepN (s.drop pos)) (stepL (s.drop pos) line) (stepC (s.drop pos) col))) st) : PC 86 [.str s, spot pos line col] st R := by
  obtain ⟨e, he⟩ : ∃ e, s[pos]? = some e := ⟨s[pos], List.getElem?_eq_getElem hp⟩
  have he' : s[(pos : Int).toNat]? = some e := he
  have hh := hdF_at he
  have hn := nlF_le (s.drop pos)
  rw [List.length_drop] at hn
  rcases hd : decR (s.drop pos) with ⟨c, m⟩
  have hr := rune_le hp hd.symm
  have hx : nextF s pos = ((c : Int), (m : Int)) := by rw [nextF_in (by omega) (by omega), decF_hd hp hd.symm]
  refine pcalls_of_body tys_ok [] Tryz.func86 rfl (by decide) ?_
  repeat' ((conv => whnf); first
    | (with_reducible first | exact Wa | exact Wb | exact Wc | refine Wd (by kernel_rfl) ?_ | refine We ?_ ?_ ?_ | refine W8 (by decide +kernel) ?_ ?_ ?_ | refine W9 ?_ ?_ ?_ | refine Wt (by first | assumption | omega) ?_ | refine Wu (by first | assumption | omega) ?_ | refine Wv (by omega) ?_ | refine Ww (by omega) ?_ | refine Wf (by decide) (fun _ => ?_) (fun _ => ?_) | refine Wg (fun _ => ?_) (fun _ => ?_) | refine Wh (fun _ => ?_) (fun _ => ?_) | refine Wi ?_ | refine Wj ?_ | refine Wk (fun _ => ?_) (fun _ => ?_) | refine Wl (fun _ => ?_) | refine Wm (by assumption) (by omega) ?_ | refine Wn (by omega) (by omega) (fun _ _ _ => ?_) | refine Wo (by omega) (by omega) ?_ | refine Wp (by omega) (by omega) (by omega) ?_ | refine Wq (by omega) (by omega) ?_ | refine Wr (by decide) (by omega) (by omega) ?_ | refine Ws (by decide) ?_ | refine Wx (fun _ => ?_) ?_ | refine Wy (fun _ => ?_) ?_ | refine Wz (fun _ => ?_) | refine WA (fun _ => ?_) | refine WB (by assumption) (by omega) ?_ | refine WC (by omega) (by omega) (fun _ _ => ?_) | refine WD (by omega) (by omega) (fun _ _ => ?_) | refine WE (by omega) (by omega) (by omega) ?_ | refine WJ (fun _ => ?_) | refine WK (fun _ _ _ => ?_) | refine WL (by assumption) (by omega) ?_ | refine WM (by omega) (by omega) (fun _ _ => ?_) | refine WN (by omega) (by omega) ?_ | refine WO (by omega) (by omega) ?_ | refine WP (by omega) (by omega) (by omega) ?_)
    | refine newline_c hl hp ?_
    | refine next_at hl hx ?_
    | refine stop_c h2 h3 ?_
    | with_reducible refine WF ?_)
  · have hz : 0 < nlF (s.drop pos) := by omega
    exact fin h (spot_ret (by unfold stepN; rw [if_pos hz]; omega) (by unfold stepL; rw [if_pos hz]) (by unfold stepC; rw [if_pos hz]))
  · have hz : ¬ 0 < nlF (s.drop pos) := by omega
    exact fin h (spot_ret (by unfold stepN; rw [if_neg hz, hd]; omega) (by unfold stepL; rw [if_neg hz]) (by unfold stepC; rw [if_neg hz, if_pos (by omega)]))
  · have hz : ¬ 0 < nlF (s.drop pos) := by omega
    exact fin h (spot_ret (by unfold stepN; rw [if_neg hz, hd]; omega) (by unfold stepL; rw [if_neg hz]) (by unfold stepC; rw [if_neg hz, if_neg (by omega)]))
end
end Go.Proofs.YtkcapphlemoccaaGreatDoor
set_option linter.unusedVariables false
namespace Go.Aw
open Go
def walkP (l : List UInt8) (k : Nat) (p : Int × Int) : Int × Int :=
  match l with
  | [] => p
  | a :: r => if k < stepN (a :: r) then p else walkP ((a :: r).drop (stepN (a :: r))) (k - stepN (a :: r)) (stepL (a :: r) p.1, stepC (a :: r) p.2)
termination_by l.length
decreasing_by
  have := stepN_le (l := a :: r) (by simp)
  simp only [List.length_drop, List.length_cons]
  omega
theorem walkP_nil (k : Nat) (p : Int × Int) : walkP [] k p = p := by rw [walkP]
theorem walkP_stop {l : List UInt8} {k : Nat} {p : Int × Int} (h : k < stepN l) : walkP l k p = p := by
  cases l with
  | nil => exact walkP_nil k p
  | cons a r => rw [walkP, if_pos h]
theorem walkP_go {l : List UInt8} {k : Nat} {p : Int × Int} (h0 : l ≠ []) (h : ¬ k < stepN l) : walkP l k p = walkP (l.drop (stepN l)) (k - stepN l) (stepL l p.1, stepC l p.2) := by
  cases l with
  | nil => exact absurd rfl h0
  | cons a r => rw [walkP, if_neg h]
theorem walkP_zero {l : List UInt8} {p : Int × Int} : walkP l 0 p = p := by
  cases l with
  | nil => exact walkP_nil 0 p
  | cons a r => exact walkP_stop (stepN_le (by simp)).2
theorem drop_ne {s : List UInt8} {pos : Nat} (h : pos < s.length) : s.drop pos ≠ [] := fun e => by
  have := congrArg List.length e; rw [List.length_drop, List.length_nil] at this; omega
theorem walkP_step {s : List UInt8} {pos k : Nat} {line col : Int} (h : pos < s.length) (hk : ¬ pos + k < pos + stepN (s.drop pos)) :
    walkP (s.drop pos) k (line, col) = walkP (s.drop (pos + stepN (s.drop pos))) (k - stepN (s.drop pos)) (stepL (s.drop pos) line, stepC (s.drop pos) col) := by
  rw [walkP_go (drop_ne h) (by omega), List.drop_drop]
theorem stepL_b (l : List UInt8) (line : Int) : line ≤ stepL l line ∧ stepL l line ≤ line + 1 := by unfold stepL; split <;> omega
theorem stepC_b (l : List UInt8) {col : Int} (h : 1 ≤ col) : 1 ≤ stepC l col ∧ stepC l col ≤ col + 8 := by
  unfold stepC stopF
  by_cases h1 : 0 < nlF l
  · rw [if_pos h1]; omega
  · rw [if_neg h1]
    by_cases h2 : hdF l = 9
    · rw [if_pos h2]; omega
    · rw [if_neg h2]; omega
end Go.Aw
namespace Go.Proofs.YtkcapphlemoccaaGreatDoor
open Go Go.Aw
section
variable {st : St} {R : Res → St → Prop}
theorem of_c {s : List UInt8} {k : Nat} (hl : s.length ≤ 100000000) (hk : k ≤ s.length) (h : R (.ret (.tup [.int .i64 (walkP s k (1, 1)).1, .int .i64 (walkP s k (1, 1)).2, .int .i64 0])) st) : PC 60 [.str s, .int .i64 k] st R := by
  refine pcalls_of_body tys_ok [] Tryz.func60 rfl (by decide) ?_
  repeat' ((conv => whnf); first
    | (with_reducible first | exact Wa | exact Wb | exact Wc | refine Wd (by kernel_rfl) ?_ | refine We ?_ ?_ ?_ | refine W8 (by decide +kernel) ?_ ?_ ?_ | refine W9 ?_ ?_ ?_ | refine Wt (by first | assumption | omega) ?_ | refine Wu (by first | assumption | omega) ?_ | refine Wv (by omega) ?_ | refine Ww (by omega) ?_ | refine Wf (by decide) (fun _ => ?_) (fun _ => ?_) | refine Wg (fun _ => ?_) (fun _ => ?_) | refine Wh (fun _ => ?_) (fun _ => ?_) | refine Wi ?_ | refine Wj ?_ | refine Wk (fun _ => ?_) (fun _ => ?_) | refine Wl (fun _ => ?_) | refine Wm (by assumption) (by omega) ?_ | refine Wn (by omega) (by omega) (fun _ _ _ => ?_) | refine Wo (by omega) (by omega) ?_ | refine Wp (by omega) (by omega) (by omega) ?_ | refine Wq (by omega) (by omega) ?_ | refine Wr (by decide) (by omega) (by omega) ?_ | refine Ws (by decide) ?_ | refine Wx (fun _ => ?_) ?_ | refine Wy (fun _ => ?_) ?_ | refine Wz (fun _ => ?_) | refine WA (fun _ => ?_) | refine WB (by assumption) (by omega) ?_ | refine WC (by omega) (by omega) (fun _ _ => ?_) | refine WD (by omega) (by omega) (fun _ _ => ?_) | refine WE (by omega) (by omega) (by omega) ?_ | refine WJ (fun _ => ?_) | refine WK (fun _ _ _ => ?_) | refine WL (by assumption) (by omega) ?_ | refine WM (by omega) (by omega) (fun _ _ => ?_) | refine WN (by omega) (by omega) ?_ | refine WO (by omega) (by omega) ?_ | refine WP (by omega) (by omega) (by omega) ?_)
    | with_reducible refine WF ?_)
  refine loop_3 (α := Nat) (β := Int) (γ := Int) (fun _ _ _ => []) (fun pos line col => [(0, [.int .i64 (pos : Int), .int .i64 line, .int .i64 col])]) [0, 1, 7] [] (fun _ _ _ => st)
    (fun pos line col => pos ≤ k ∧ 1 ≤ line ∧ line ≤ 1 + (pos : Int) ∧ 1 ≤ col ∧ col ≤ 1 + 8 * (pos : Int) ∧ walkP s k (1, 1) = walkP (s.drop pos) (k - pos) (line, col)) (fun pos _ _ => k - pos) 0 1 1 ⟨by omega, by omega, by omega, by omega, by omega, rfl⟩ (by refine ⟨rfl, ?_, ?_, rfl⟩ <;> repeat' (first | exact trivial | exact rfl | refine And.intro ?_ ?_)) (St.le_refl _) ?_
  rintro pos line col ⟨h1, h2, h3, h4, h5, h6⟩
  have hr := step_or s pos
  have hL := stepL_b (s.drop pos) line
  have hC := stepC_b (s.drop pos) h4
  repeat' ((conv => whnf); first
    | (with_reducible first | exact Wa | exact Wb | exact Wc | refine Wd (by kernel_rfl) ?_ | refine We ?_ ?_ ?_ | refine W8 (by decide +kernel) ?_ ?_ ?_ | refine W9 ?_ ?_ ?_ | refine Wt (by first | assumption | omega) ?_ | refine Wu (by first | assumption | omega) ?_ | refine Wv (by omega) ?_ | refine Ww (by omega) ?_ | refine Wf (by decide) (fun _ => ?_) (fun _ => ?_) | refine Wg (fun _ => ?_) (fun _ => ?_) | refine Wh (fun _ => ?_) (fun _ => ?_) | refine Wi ?_ | refine Wj ?_ | refine Wk (fun _ => ?_) (fun _ => ?_) | refine Wl (fun _ => ?_) | refine Wm (by assumption) (by omega) ?_ | refine Wn (by omega) (by omega) (fun _ _ _ => ?_) | refine Wo (by omega) (by omega) ?_ | refine Wp (by omega) (by omega) (by omega) ?_ | refine Wq (by omega) (by omega) ?_ | refine Wr (by decide) (by omega) (by omega) ?_ | refine Ws (by decide) ?_ | refine Wx (fun _ => ?_) ?_ | refine Wy (fun _ => ?_) ?_ | refine Wz (fun _ => ?_) | refine WA (fun _ => ?_) | refine WB (by assumption) (by omega) ?_ | refine WC (by omega) (by omega) (fun _ _ => ?_) | refine WD (by omega) (by omega) (fun _ _ => ?_) | refine WE (by omega) (by omega) (by omega) ?_ | refine WJ (fun _ => ?_) | refine WK (fun _ _ _ => ?_) | refine WL (by assumption) (by omega) ?_ | refine WM (by omega) (by omega) (fun _ _ => ?_) | refine WN (by omega) (by omega) ?_ | refine WO (by omega) (by omega) ?_ | refine WP (by omega) (by omega) (by omega) ?_)
    | refine pnext_c (by omega) (by omega) (by omega) (by omega) (by omega) (by omega) ?_
    | with_reducible refine WF ?_)
  · exact fin h (by rw [h6, walkP_stop (by omega)])
  · conv => whnf
    exact ⟨(pos + stepN (s.drop pos), stepL (s.drop pos) line, stepC (s.drop pos) col), ⟨by dsimp only; omega, by dsimp only; omega, by dsimp only; omega, by dsimp only; omega, by dsimp only; omega, by dsimp only; rw [h6, walkP_step (by omega) (by omega), Nat.sub_sub]⟩, by dsimp only; omega, (by refine ⟨rfl, ?_, ?_, rfl⟩ <;> repeat' (first | exact trivial | exact rfl | refine And.intro ?_ ?_)), St.le_refl _⟩
  · have hz : k - pos = 0 := by omega
    exact fin h (by rw [h6, hz, walkP_zero])
theorem width_c {s : List UInt8} {c0 : Int} (hl : s.length ≤ 100000000) (h0 : 1 ≤ c0) (h1 : c0 ≤ 2147483648) (h : R (.ret (.tup [.int .i64 (walkP s s.length (1, c0)).2, .int .i64 0])) st) : PC 61 [.str s, .int .i64 c0] st R := by
  refine pcalls_of_body tys_ok [] Tryz.func61 rfl (by decide) ?_
  repeat' ((conv => whnf); first
    | (with_reducible first | exact Wa | exact Wb | exact Wc | refine Wd (by kernel_rfl) ?_ | refine We ?_ ?_ ?_ | refine W8 (by decide +kernel) ?_ ?_ ?_ | refine W9 ?_ ?_ ?_ | refine Wt (by first | assumption | omega) ?_ | refine Wu (by first | assumption | omega) ?_ | refine Wv (by omega) ?_ | refine Ww (by omega) ?_ | refine Wf (by decide) (fun _ => ?_) (fun _ => ?_) | refine Wg (fun _ => ?_) (fun _ => ?_) | refine Wh (fun _ => ?_) (fun _ => ?_) | refine Wi ?_ | refine Wj ?_ | refine Wk (fun _ => ?_) (fun _ => ?_) | refine Wl (fun _ => ?_) | refine Wm (by assumption) (by omega) ?_ | refine Wn (by omega) (by omega) (fun _ _ _ => ?_) | refine Wo (by omega) (by omega) ?_ | refine Wp (by omega) (by omega) (by omega) ?_ | refine Wq (by omega) (by omega) ?_ | refine Wr (by decide) (by omega) (by omega) ?_ | refine Ws (by decide) ?_ | refine Wx (fun _ => ?_) ?_ | refine Wy (fun _ => ?_) ?_ | refine Wz (fun _ => ?_) | refine WA (fun _ => ?_) | refine WB (by assumption) (by omega) ?_ | refine WC (by omega) (by omega) (fun _ _ => ?_) | refine WD (by omega) (by omega) (fun _ _ => ?_) | refine WE (by omega) (by omega) (by omega) ?_ | refine WJ (fun _ => ?_) | refine WK (fun _ _ _ => ?_) | refine WL (by assumption) (by omega) ?_ | refine WM (by omega) (by omega) (fun _ _ => ?_) | refine WN (by omega) (by omega) ?_ | refine WO (by omega) (by omega) ?_ | refine WP (by omega) (by omega) (by omega) ?_)
    | with_reducible refine WF ?_)
  refine loop_3 (α := Nat) (β := Int) (γ := Int) (fun _ _ _ => []) (fun pos line col => [(0, [.int .i64 (pos : Int), .int .i64 line, .int .i64 col])]) [0, 6] [] (fun _ _ _ => st)
    (fun pos line col => pos ≤ s.length ∧ 1 ≤ line ∧ line ≤ 1 + (pos : Int) ∧ 1 ≤ col ∧ col ≤ c0 + 8 * (pos : Int) ∧ walkP s s.length (1, c0) = walkP (s.drop pos) (s.length - pos) (line, col)) (fun pos _ _ => s.length - pos) 0 1 c0 ⟨by omega, by omega, by omega, by omega, by omega, rfl⟩ (by refine ⟨rfl, ?_, ?_, rfl⟩ <;> repeat' (first | exact trivial | exact rfl | refine And.intro ?_ ?_)) (St.le_refl _) ?_
  rintro pos line col ⟨h1, h2, h3, h4, h5, h6⟩
  have hr := step_or s pos
  have hL := stepL_b (s.drop pos) line
  have hC := stepC_b (s.drop pos) h4
  repeat' ((conv => whnf); first
    | (with_reducible first | exact Wa | exact Wb | exact Wc | refine Wd (by kernel_rfl) ?_ | refine We ?_ ?_ ?_ | refine W8 (by decide +kernel) ?_ ?_ ?_ | refine W9 ?_ ?_ ?_ | refine Wt (by first | assumption | omega) ?_ | refine Wu (by first | assumption | omega) ?_ | refine Wv (by omega) ?_ | refine Ww (by omega) ?_ | refine Wf (by decide) (fun _ => ?_) (fun _ => ?_) | refine Wg (fun _ => ?_) (fun _ => ?_) | refine Wh (fun _ => ?_) (fun _ => ?_) | refine Wi ?_ | refine Wj ?_ | refine Wk (fun _ => ?_) (fun _ => ?_) | refine Wl (fun _ => ?_) | refine Wm (by assumption) (by omega) ?_ | refine Wn (by omega) (by omega) (fun _ _ _ => ?_) | refine Wo (by omega) (by omega) ?_ | refine Wp (by omega) (by omega) (by omega) ?_ | refine Wq (by omega) (by omega) ?_ | refine Wr (by decide) (by omega) (by omega) ?_ | refine Ws (by decide) ?_ | refine Wx (fun _ => ?_) ?_ | refine Wy (fun _ => ?_) ?_ | refine Wz (fun _ => ?_) | refine WA (fun _ => ?_) | refine WB (by assumption) (by omega) ?_ | refine WC (by omega) (by omega) (fun _ _ => ?_) | refine WD (by omega) (by omega) (fun _ _ => ?_) | refine WE (by omega) (by omega) (by omega) ?_ | refine WJ (fun _ => ?_) | refine WK (fun _ _ _ => ?_) | refine WL (by assumption) (by omega) ?_ | refine WM (by omega) (by omega) (fun _ _ => ?_) | refine WN (by omega) (by omega) ?_ | refine WO (by omega) (by omega) ?_ | refine WP (by omega) (by omega) (by omega) ?_)
    | refine pnext_c (by omega) (by omega) (by omega) (by omega) (by omega) (by omega) ?_
    | with_reducible refine WF ?_)
  · conv => whnf
    exact ⟨(pos + stepN (s.drop pos), stepL (s.drop pos) line, stepC (s.drop pos) col), ⟨by dsimp only; omega, by dsimp only; omega, by dsimp only; omega, by dsimp only; omega, by dsimp only; omega, by dsimp only; rw [h6, walkP_step (by omega) (by omega), Nat.sub_sub]⟩, by dsimp only; omega, (by refine ⟨rfl, ?_, ?_, rfl⟩ <;> repeat' (first | exact trivial | exact rfl | refine And.intro ?_ ?_)), St.le_refl _⟩
  · have hz : s.length - pos = 0 := by omega
    exact fin h (by rw [h6, hz, walkP_zero])
end
end Go.Proofs.YtkcapphlemoccaaGreatDoor
set_option linter.unusedVariables false
set_option linter.unusedSimpArgs false
namespace Go.Aw
open Go
def Vd (l : List UInt8) : Prop := spanD goodD l = l.length
theorem Vd.rune {l : List UInt8} (h : Vd l) (hne : l ≠ []) : goodD (decR l) = true ∧ Vd (l.drop (decR l).2) := by
  have hg : goodD (decR l) = true := by
    cases hg : goodD (decR l) with
    | true => rfl
    | false =>
      unfold Vd at h
      rw [spanD_no hg] at h
      have := List.length_pos_iff.2 hne
      omega
  refine ⟨hg, ?_⟩
  unfold Vd at h ⊢
  rw [spanD_yes hne hg] at h
  have := decR_le hne
  rw [List.length_drop]; omega
theorem Vd.nil : Vd [] := spanD_nil _
theorem Vd.app {l t : List UInt8} (h : Vd l) (k : Vd t) : Vd (l ++ t) := by
  unfold Vd at *
  rw [spanD_app l t h, if_pos h, k, List.length_append]
inductive Bd : List UInt8 → Nat → Prop
  | zero (l : List UInt8) : Bd l 0
  | step {l : List UInt8} {k : Nat} : l ≠ [] → Bd (l.drop (decR l).2) k → Bd l ((decR l).2 + k)
theorem Bd.add {l : List UInt8} {i j : Nat} (h : Bd l i) (k : Bd (l.drop i) j) : Bd l (i + j) := by
  induction h with
  | zero l => rw [Nat.zero_add]; exact k
  | step hne h ih =>
    rw [Nat.add_assoc]
    refine .step hne (ih ?_)
    rw [List.drop_drop]; exact k
theorem Bd.vd {l : List UInt8} {i : Nat} (h : Bd l i) (k : Vd l) : Vd (l.drop i) := by
  induction h with
  | zero l => exact k
  | step hne h ih =>
    have := ih (k.rune hne).2
    rwa [List.drop_drop] at this
theorem Bd.span (p : Nat × Nat → Bool) (l : List UInt8) : Bd l (spanD p l) := by
  fun_induction spanD p l with
  | case1 => exact .zero _
  | case2 a r hp ih => exact .step (by simp) ih
  | case3 a r hp => exact .zero _
theorem Bd.one {l : List UInt8} (h : l ≠ []) : Bd l (decR l).2 := by
  have := Bd.step h (.zero (l.drop (decR l).2))
  rwa [Nat.add_zero] at this
theorem decR_cont {l : List UInt8} (h : l ≠ []) (g : goodD (decR l) = true) (k : Nat) (hk : 1 ≤ k) (hm : k < (decR l).2) : ∃ b, l[k]? = some b ∧ 128 ≤ b.toNat := by
  rcases l with _ | ⟨a, r⟩
  · exact absurd rfl h
  revert g hm
  generalize hx : decR (a :: r) = x
  unfold decR at hx
  dsimp only at hx
  intro g hm
  have d2 : ∀ b : UInt8, (b.toNat / 64 == 2) = true → 128 ≤ b.toNat := fun b hb => by
    have := beq_iff_eq.1 hb; omega
  rcases r with _ | ⟨b, _ | ⟨c, _ | ⟨d, r⟩⟩⟩
  all_goals simp only [List.getElem?_nil, List.getElem?_cons_zero, List.getElem?_cons_succ, List.getD_cons_zero, List.getD_cons_succ, Bool.and_false, Bool.false_eq_true, if_false] at hx
  all_goals repeat' split at hx
  all_goals subst hx
  all_goals first
    | (exfalso; revert g; simp [goodD]; done)
    | skip
  all_goals first
    | (exfalso; have hm : k < 1 := hm; omega)
    | skip
  all_goals simp only [Bool.and_eq_true] at *
  all_goals have hk' : k = 1 ∨ k = 2 ∨ k = 3 := by first | omega | (dsimp only at hm; omega)
  all_goals rcases hk' with rfl | rfl | rfl
  all_goals first
    | (exfalso; omega)
    | (exfalso; dsimp only at hm; omega)
    | skip
  all_goals refine ⟨_, rfl, d2 _ ?_⟩
  all_goals simp only [beq_iff_eq] at *
  all_goals omega
theorem Bd.ascii {l : List UInt8} {k : Nat} {b : UInt8} (hv : Vd l) (hb : l[k]? = some b) (h : b.toNat < 128) : Bd l k ∧ Bd l (k + 1) := by
  induction hn : l.length using Nat.strongRecOn generalizing l k with
  | _ n ih =>
    have hne : l ≠ [] := fun e => by rw [e] at hb; cases hb
    obtain ⟨g, hv'⟩ := hv.rune hne
    have hp := decR_pos l
    have hle := decR_le hne
    by_cases hk : k < (decR l).2
    · by_cases h0 : k = 0
      · subst h0
        refine ⟨.zero l, ?_⟩
        cases l with
        | nil => exact absurd rfl hne
        | cons a r =>
          simp only [List.getElem?_cons_zero, Option.some.injEq] at hb
          subst hb
          have e : decR (a :: r) = (a.toNat, 1) := by unfold decR; dsimp only; rw [if_pos (by simpa using h)]
          have := Bd.one hne
          rwa [e] at this
      · obtain ⟨b', h1, h2⟩ := decR_cont hne g k (by omega) hk
        rw [hb] at h1
        injection h1 with h1
        subst h1
        omega
    · obtain ⟨j, rfl⟩ : ∃ j, k = (decR l).2 + j := ⟨k - (decR l).2, by omega⟩
      have := ih (l.drop (decR l).2).length (by rw [List.length_drop]; omega) hv' (k := j) (by rw [List.getElem?_drop]; exact hb) rfl
      exact ⟨.step hne this.1, by rw [Nat.add_assoc]; exact .step hne this.2⟩
inductive Cut : List UInt8 → Nat → Prop
  | zero (l : List UInt8) : Cut l 0
  | step {l : List UInt8} {k : Nat} : l ≠ [] → Cut (l.drop (stepN l)) k → Cut l (stepN l + k)
theorem nlF_cases (l : List UInt8) : (nlF l = 0 ∧ ¬ (hdF l = 13 ∨ hdF l = 10 ∨ hdF l = 12)) ∨ (nlF l = 1 ∧ (hdF l = 13 ∨ hdF l = 10 ∨ hdF l = 12) ∧ ¬ (hdF l = 13 ∧ hdF (l.drop 1) = 10)) ∨ (nlF l = 2 ∧ hdF l = 13 ∧ hdF (l.drop 1) = 10) := by
  unfold nlF
  by_cases h1 : hdF l = 13 ∧ hdF (l.drop 1) = 10
  · rw [if_pos h1]; exact .inr (.inr ⟨rfl, h1⟩)
  · rw [if_neg h1]
    by_cases h2 : hdF l = 13 ∨ hdF l = 10 ∨ hdF l = 12
    · rw [if_pos h2]; exact .inr (.inl ⟨rfl, h2, h1⟩)
    · rw [if_neg h2]; exact .inl ⟨rfl, h2⟩
theorem decR_hd {l : List UInt8} (h0 : 0 ≤ hdF l) (h : hdF l < 128) : (decR l).2 = 1 ∧ (((decR l).1 : Nat) : Int) = hdF l := by
  cases l with
  | nil => exact absurd h0 (by decide)
  | cons a r =>
    have h : ((a.toNat : Nat) : Int) < 128 := h
    have e : decR (a :: r) = (a.toNat, 1) := by unfold decR; dsimp only; rw [if_pos (by omega)]
    rw [e]; exact ⟨rfl, rfl⟩
theorem Bd.cut {l : List UInt8} {k : Nat} (h : Bd l k) (hn : ¬ (0 < k ∧ hdF (l.drop (k - 1)) = 13 ∧ hdF (l.drop k) = 10)) : Cut l k := by
  induction hm : l.length using Nat.strongRecOn generalizing l k with
  | _ n ih =>
    cases h with
    | zero => exact .zero l
    | @step _ j hne h =>
      have hp := decR_pos l
      have hle := decR_le hne
      rcases nlF_cases l with ⟨e, h1⟩ | ⟨e, h1, h2⟩ | ⟨e, h1, h2⟩
      · have es : stepN l = (decR l).2 := by unfold stepN; rw [if_neg (by omega)]
        rw [← es]
        refine .step hne ?_
        rw [es]
        refine ih _ (by rw [List.length_drop]; omega) h (fun hc => hn ⟨by omega, ?_, ?_⟩) rfl
        · have := hc.2.1; rw [List.drop_drop] at this; rwa [show (decR l).2 + j - 1 = (decR l).2 + (j - 1) by omega]
        · have := hc.2.2; rwa [List.drop_drop] at this
      · have ed := decR_hd (l := l) (by omega) (by omega)
        have es : stepN l = (decR l).2 := by unfold stepN; rw [if_pos (by omega), e, ed.1]
        rw [← es]
        refine .step hne ?_
        rw [es]
        refine ih _ (by rw [List.length_drop]; omega) h (fun hc => hn ⟨by omega, ?_, ?_⟩) rfl
        · have := hc.2.1; rw [List.drop_drop] at this; rwa [show (decR l).2 + j - 1 = (decR l).2 + (j - 1) by omega]
        · have := hc.2.2; rwa [List.drop_drop] at this
      · have ed := decR_hd (l := l) (by omega) (by omega)
        rw [ed.1] at h hn ⊢
        have es : stepN l = 2 := by unfold stepN; rw [if_pos (by omega), e]
        cases h with
        | zero => exact absurd ⟨by omega, by simpa using h1, by simpa using h2⟩ hn
        | @step _ j hne' h =>
          have ed' := decR_hd (l := l.drop 1) (by omega) (by omega)
          rw [ed'.1] at h hn ⊢
          rw [show 1 + (1 + j) = stepN l + j by omega]
          refine .step hne ?_
          rw [es]
          rw [List.drop_drop] at h
          have hl2 : l.length ≠ 0 := by have := List.length_pos_iff.2 hne; omega
          refine ih _ (by rw [List.length_drop]; omega) h (fun hc => hn ⟨by omega, ?_, ?_⟩) rfl
          · have := hc.2.1; rw [List.drop_drop] at this; rwa [show 1 + (1 + j) - 1 = 1 + 1 + (j - 1) by omega]
          · have := hc.2.2; rw [List.drop_drop] at this; rwa [show 1 + (1 + j) = 1 + 1 + j by omega]
end Go.Aw
set_option linter.unusedVariables false
namespace Go.Aw
open Go
theorem walk_b : ∀ (n : Nat) (l : List UInt8) (k : Nat) (p : Int × Int), l.length ≤ n → 1 ≤ p.2 → p.1 ≤ (walkP l k p).1 ∧ (walkP l k p).1 ≤ p.1 + l.length ∧ 1 ≤ (walkP l k p).2 ∧ (walkP l k p).2 ≤ p.2 + 8 * l.length
  | n, [], k, p, _, h => by rw [walkP_nil]; simp only [List.length_nil]; omega
  | 0, a :: r, k, p, hn, h => by simp at hn
  | n + 1, a :: r, k, p, hn, h => by
    by_cases hk : k < stepN (a :: r)
    · rw [walkP_stop hk]; omega
    · rw [walkP_go (by simp) hk]
      have h1 := stepN_le (l := a :: r) (by simp)
      have h2 := stepL_b (a :: r) p.1
      have h3 := stepC_b (a :: r) h
      have hd : ((a :: r).drop (stepN (a :: r))).length = (a :: r).length - stepN (a :: r) := List.length_drop
      have ih := walk_b n ((a :: r).drop (stepN (a :: r))) (k - stepN (a :: r)) (stepL (a :: r) p.1, stepC (a :: r) p.2) (by omega) h3.1
      dsimp only at ih
      omega
theorem walk_line : ∀ (n : Nat) (l : List UInt8) (k : Nat) (x c c' y : Int), l.length ≤ n → (walkP l k (x, c)).1 - x = (walkP l k (y, c')).1 - y
  | n, [], k, x, c, c', y, _ => by rw [walkP_nil, walkP_nil]; omega
  | 0, a :: r, k, x, c, c', y, hn => by simp at hn
  | n + 1, a :: r, k, x, c, c', y, hn => by
    by_cases hk : k < stepN (a :: r)
    · rw [walkP_stop hk, walkP_stop hk]; omega
    · rw [walkP_go (by simp) hk, walkP_go (by simp) hk]
      have h1 := stepN_le (l := a :: r) (by simp)
      have hd : ((a :: r).drop (stepN (a :: r))).length = (a :: r).length - stepN (a :: r) := List.length_drop
      have ih := walk_line n ((a :: r).drop (stepN (a :: r))) (k - stepN (a :: r)) (stepL (a :: r) x) (stepC (a :: r) c) (stepC (a :: r) c') (stepL (a :: r) y) (by omega)
      have e : stepL (a :: r) x - x = stepL (a :: r) y - y := by unfold stepL; split <;> omega
      dsimp only
      omega
theorem walk_col : ∀ (n : Nat) (l : List UInt8) (k : Nat) (x c y : Int), l.length ≤ n → (walkP l k (x, c)).2 = (walkP l k (y, c)).2
  | n, [], k, x, c, y, _ => by rw [walkP_nil, walkP_nil]
  | 0, a :: r, k, x, c, y, hn => by simp at hn
  | n + 1, a :: r, k, x, c, y, hn => by
    by_cases hk : k < stepN (a :: r)
    · rw [walkP_stop hk, walkP_stop hk]
    · rw [walkP_go (by simp) hk, walkP_go (by simp) hk]
      have h1 := stepN_le (l := a :: r) (by simp)
      have hd : ((a :: r).drop (stepN (a :: r))).length = (a :: r).length - stepN (a :: r) := List.length_drop
      exact walk_col n _ _ _ _ _ (by omega)
end Go.Aw
set_option linter.unusedVariables false
set_option linter.unusedVariables false
namespace Go.Aw
open Go
theorem loop_4 {ih : (AExit → Env → St → Prop) → Env → St → Prop} {Q : AExit → Env → St → Prop} {env : Env} {st : St} {α β γ δ : Type} (f : α → β → γ → δ → List (Nat × V)) (g : α → β → γ → δ → List (Nat × List V)) (keep kb : List Nat) (S : α → β → γ → δ → St) (J : α → β → γ → δ → Prop) (μ : α → β → γ → δ → Nat) (x0 : α) (y0 : β) (z0 : γ) (u0 : δ) (h0 : J x0 y0 z0 u0)
    (he : (env.atx (f x0 y0 z0 u0) (g x0 y0 z0 u0) keep kb).leC env) (hs : St.le (S x0 y0 z0 u0) st)
    (hb : ∀ x y z u, J x y z u → ih (thenQ (fun env' st' => ∃ p : α × β × γ × δ, J p.1 p.2.1 p.2.2.1 p.2.2.2 ∧ μ p.1 p.2.1 p.2.2.1 p.2.2.2 < μ x y z u ∧ (env.atx (f p.1 p.2.1 p.2.2.1 p.2.2.2) (g p.1 p.2.1 p.2.2.1 p.2.2.2) keep kb).leC env' ∧ St.le (S p.1 p.2.1 p.2.2.1 p.2.2.2) st') Q) (env.atx (f x y z u) (g x y z u) keep kb) (S x y z u)) :
    ∃ (α : Type) (E : α → Env) (S : α → St) (J : α → Prop) (μ : α → Nat) (x0 : α), J x0 ∧ (E x0).leC env ∧ St.le (S x0) st ∧
      ∀ x, J x → ih (thenQ (fun env' st' => ∃ y, J y ∧ μ y < μ x ∧ (E y).leC env' ∧ St.le (S y) st') Q) (E x) (S x) :=
  ⟨α × β × γ × δ, fun p => env.atx (f p.1 p.2.1 p.2.2.1 p.2.2.2) (g p.1 p.2.1 p.2.2.1 p.2.2.2) keep kb, fun p => S p.1 p.2.1 p.2.2.1 p.2.2.2, fun p => J p.1 p.2.1 p.2.2.1 p.2.2.2, fun p => μ p.1 p.2.1 p.2.2.1 p.2.2.2, (x0, y0, z0, u0), h0, he, hs, fun p h => hb p.1 p.2.1 p.2.2.1 p.2.2.2 h⟩
def linesG (s : List UInt8) (frm pos : Nat) : List (List UInt8) :=
  if h : pos < s.length then
    if 0 < nlF (s.drop pos) then (s.take pos).drop frm :: linesG s (pos + nlF (s.drop pos)) (pos + nlF (s.drop pos)) else linesG s frm (pos + 1)
  else [s.drop frm]
termination_by s.length - pos
decreasing_by all_goals omega
theorem max_l {a b : Int} {K : Int → Prop} (h : ¬ a < b) (k : K a) : ∃ r, r = (if a < b then b else a) ∧ K r := ⟨a, (if_neg h).symm, k⟩
theorem max_r {a b : Int} {K : Int → Prop} (h : a < b) (k : K b) : ∃ r, r = (if a < b then b else a) ∧ K r := ⟨b, (if_pos h).symm, k⟩
theorem app_str1 {l : List (List UInt8)} {x : List UInt8} {own : Own} {st : St} {K : V → St → Prop} (h : own.good st) (hb : l.length ≤ 999999999)
    (k : ∀ own' : Own, own'.good st → K (.slice 1 (strs (l ++ [x])) own') (own'.st st (l ++ [x]).length)) : appendTo 1 16 (strs l) own [[.str x]] (own.st st l.length) K :=
  strs_append (new := [x]) h (by rw [List.length_singleton]; omega) k
theorem linesG_nl {s : List UInt8} {frm pos : Nat} (h : pos < s.length) (k : 0 < nlF (s.drop pos)) : linesG s frm pos = (s.take pos).drop frm :: linesG s (pos + nlF (s.drop pos)) (pos + nlF (s.drop pos)) := by
  rw [linesG, dif_pos h, if_pos k]
theorem linesG_go {s : List UInt8} {frm pos : Nat} (h : pos < s.length) (k : ¬ 0 < nlF (s.drop pos)) : linesG s frm pos = linesG s frm (pos + 1) := by
  rw [linesG, dif_pos h, if_neg k]
theorem linesG_end {s : List UInt8} {frm pos : Nat} (h : ¬ pos < s.length) : linesG s frm pos = [s.drop frm] := by
  rw [linesG, dif_neg h]
end Go.Aw
namespace Go.Proofs.YtkcapphlemoccaaGreatDoor
open Go Go.Aw
section
variable {st : St} {R : Res → St → Prop}
attribute [local irreducible] Go.Aw.appendTo
theorem lines_c {s : List UInt8} (hl : s.length ≤ 100000000) (h : ∀ own : Own, own.good st → R (.ret (.slice 1 (strs (linesG s 0 0)) own)) (own.st st (linesG s 0 0).length)) : PC 59 [.str s] st R := by
  refine pcalls_of_body tys_ok [] Tryz.func59 rfl (by decide) ?_
  repeat' ((conv => whnf); first
    | (with_reducible first | exact Wa | exact Wb | exact Wc | refine Wd (by kernel_rfl) ?_ | refine We ?_ ?_ ?_ | refine W8 (by decide +kernel) ?_ ?_ ?_ | refine W9 ?_ ?_ ?_ | refine Wt (by first | assumption | omega) ?_ | refine Wu (by first | assumption | omega) ?_ | refine Wv (by omega) ?_ | refine Ww (by omega) ?_ | refine Wf (by decide) (fun _ => ?_) (fun _ => ?_) | refine Wg (fun _ => ?_) (fun _ => ?_) | refine Wh (fun _ => ?_) (fun _ => ?_) | refine Wi ?_ | refine Wj ?_ | refine Wk (fun _ => ?_) (fun _ => ?_) | refine Wl (fun _ => ?_) | refine Wm (by assumption) (by omega) ?_ | refine Wn (by omega) (by omega) (fun _ _ _ => ?_) | refine Wo (by omega) (by omega) ?_ | refine Wp (by omega) (by omega) (by omega) ?_ | refine Wq (by omega) (by omega) ?_ | refine Wr (by decide) (by omega) (by omega) ?_ | refine Ws (by decide) ?_ | refine Wx (fun _ => ?_) ?_ | refine Wy (fun _ => ?_) ?_ | refine Wz (fun _ => ?_) | refine WA (fun _ => ?_) | refine WB (by assumption) (by omega) ?_ | refine WC (by omega) (by omega) (fun _ _ => ?_) | refine WD (by omega) (by omega) (fun _ _ => ?_) | refine WE (by omega) (by omega) (by omega) ?_ | refine WJ (fun _ => ?_) | refine WK (fun _ _ _ => ?_) | refine WL (by assumption) (by omega) ?_ | refine WM (by omega) (by omega) (fun _ _ => ?_) | refine WN (by omega) (by omega) ?_ | refine WO (by omega) (by omega) ?_ | refine WP (by omega) (by omega) (by omega) ?_)
    | with_reducible refine WF ?_)
  refine loop_4 (α := Nat) (β := Nat) (γ := List (List UInt8)) (δ := Own) (fun pos frm l own => [(5, .int .i64 (pos : Int)), (4, .int .i64 (frm : Int)), (3, .slice 1 (strs l) own)]) (fun _ _ _ _ => []) [0] [] (fun _ _ l own => own.st st l.length)
    (fun pos frm l own => frm ≤ pos ∧ pos ≤ s.length ∧ l.length ≤ pos ∧ own.good st ∧ linesG s 0 0 = l ++ linesG s frm pos) (fun pos _ _ _ => s.length - pos) 0 0 [] .full ⟨by omega, by omega, by simp, trivial, rfl⟩ (by refine ⟨rfl, ?_, ?_, rfl⟩ <;> repeat' (first | exact trivial | exact rfl | refine And.intro ?_ ?_)) (St.le_refl _) ?_
  rintro pos frm l own ⟨h1, h2, h3, h4, h5⟩
  have hn := nlF_le (s.drop pos)
  rw [List.length_drop] at hn
  repeat' ((conv => whnf); first
    | (with_reducible first | exact Wa | exact Wb | exact Wc | refine Wd (by kernel_rfl) ?_ | refine We ?_ ?_ ?_ | refine W8 (by decide +kernel) ?_ ?_ ?_ | refine W9 ?_ ?_ ?_ | refine Wt (by first | assumption | omega) ?_ | refine Wu (by first | assumption | omega) ?_ | refine Wv (by omega) ?_ | refine Ww (by omega) ?_ | refine Wf (by decide) (fun _ => ?_) (fun _ => ?_) | refine Wg (fun _ => ?_) (fun _ => ?_) | refine Wh (fun _ => ?_) (fun _ => ?_) | refine Wi ?_ | refine Wj ?_ | refine Wk (fun _ => ?_) (fun _ => ?_) | refine Wl (fun _ => ?_) | refine Wm (by assumption) (by omega) ?_ | refine Wn (by omega) (by omega) (fun _ _ _ => ?_) | refine Wo (by omega) (by omega) ?_ | refine Wp (by omega) (by omega) (by omega) ?_ | refine Wq (by omega) (by omega) ?_ | refine Wr (by decide) (by omega) (by omega) ?_ | refine Ws (by decide) ?_ | refine Wx (fun _ => ?_) ?_ | refine Wy (fun _ => ?_) ?_ | refine Wz (fun _ => ?_) | refine WA (fun _ => ?_) | refine WB (by assumption) (by omega) ?_ | refine WC (by omega) (by omega) (fun _ _ => ?_) | refine WD (by omega) (by omega) (fun _ _ => ?_) | refine WE (by omega) (by omega) (by omega) ?_ | refine WJ (fun _ => ?_) | refine WK (fun _ _ _ => ?_) | refine WL (by assumption) (by omega) ?_ | refine WM (by omega) (by omega) (fun _ _ => ?_) | refine WN (by omega) (by omega) ?_ | refine WO (by omega) (by omega) ?_ | refine WP (by omega) (by omega) (by omega) ?_)
    | refine newline_c (by omega) (by omega) ?_
    | refine max_l (by omega) ?_
    | refine max_r (by omega) ?_
    | refine app_str1 h4 (by omega) (fun own' ho => ?_)
    | with_reducible refine WF ?_)
  · conv => whnf
    exact ⟨(pos + nlF (s.drop pos), pos + nlF (s.drop pos), l ++ [(s.take pos).drop frm], own'), ⟨Nat.le_refl _, by dsimp only; omega, by dsimp only; rw [List.length_append, List.length_singleton]; omega, ho, by dsimp only; rw [h5, linesG_nl (by omega) (by omega), List.append_assoc]; rfl⟩, by dsimp only; omega, (by refine ⟨rfl, ?_, ?_, rfl⟩ <;> repeat' (first | exact trivial | exact rfl | refine And.intro ?_ ?_)), St.le_refl _⟩
  · conv => whnf
    exact ⟨(pos + 1, frm, l, own), ⟨by dsimp only; omega, by dsimp only; omega, by dsimp only; omega, h4, by dsimp only; rw [h5, linesG_go (by omega) (by omega)]⟩, by dsimp only; omega, (by refine ⟨rfl, ?_, ?_, rfl⟩ <;> repeat' (first | exact trivial | exact rfl | refine And.intro ?_ ?_)), St.le_refl _⟩
  · exact fin (by have := h own' ho; rw [h5, linesG_end (by omega)] at this; exact this) rfl
end
end Go.Proofs.YtkcapphlemoccaaGreatDoor
set_option linter.unusedVariables false
namespace Go.Aw
open Go
def resW : List (List UInt8) := [[95], [99, 97, 115, 101], [99, 108, 97, 115, 115], [100, 97, 116, 97], [100, 101, 102, 97, 117, 108, 116], [100, 101, 114, 105, 118, 105, 110, 103], [100, 111], [101, 108, 115, 101], [102, 111, 114, 101, 105, 103, 110], [105, 102], [105, 109, 112, 111, 114, 116], [105, 110], [105, 110, 102, 105, 120], [105, 110, 102, 105, 120, 108], [105, 110, 102, 105, 120, 114], [105, 110, 115, 116, 97, 110, 99, 101], [108, 101, 116], [109, 111, 100, 117, 108, 101], [110, 101, 119, 116, 121, 112, 101], [111, 102], [116, 104, 101, 110], [116, 121, 112, 101], [119, 104, 101, 114, 101]]
def markW : List (List UInt8) := [[46, 46], [58], [58, 58], [61], [92], [124], [60, 45], [45, 62], [64], [126], [61, 62]]
def resF (w : List UInt8) : Bool := resW.contains w
def symF (w : List UInt8) : Int := if markW.contains w then 10 else if hdF w = 58 then 6 else 5
def inName (c : Int) : Bool := classF c == 2 || classF c == 3 || classF c == 4 || c == 39
def nameN (l : List UInt8) : Nat := spanR inName l
def firstF (l : List UInt8) : Int := match l with
  | [] => 0
  | a :: r => classF ((decR (a :: r)).1 : Nat)
def plainF (l : List UInt8) : Int × Nat :=
  if firstF l = 6 then (15, 1)
  else if firstF l = 5 then (symF (l.take (spanR (fun c => classF c == 5) l)), spanR (fun c => classF c == 5) l)
  else if firstF l = 3 then (2, nameN l)
  else if firstF l = 2 then (if resF (l.take (nameN l)) then 9 else 1, nameN l)
  else (0, 0)
def qualF (k : Int) : Int := if k = 1 then 3 else if k = 2 then 4 else if k = 5 then 7 else if k = 6 then 8 else 0
theorem pre1 (c : UInt8) (l : List UInt8) : [c].isPrefixOf l = decide (hdF l = (c.toNat : Nat)) := by
  cases l with
  | nil => exact (decide_eq_false (fun e => by have h : (-1 : Int) = (c.toNat : Nat) := e; omega)).symm
  | cons a r =>
    show (c == a && true) = decide (((a.toNat : Nat) : Int) = (c.toNat : Nat))
    rw [Bool.and_true, Bool.eq_iff_iff, beq_iff_eq, decide_eq_true_iff]
    exact ⟨fun e => by rw [e], fun e => UInt8.toNat_inj.1 (by omega)⟩
end Go.Aw
namespace Go.Proofs.YtkcapphlemoccaaGreatDoor
open Go Go.Aw
section
variable {st : St} {R : Res → St → Prop}
theorem reserved_c {w : List UInt8} (h : R (.ret (.bool (resF w))) st) : PC 120 [.str w] st R := by
  refine pcalls_of_body tys_ok [] Tryz.func120 rfl (by decide) ?_
  repeat' ((conv => whnf); first
    | (with_reducible first | exact Wa | exact Wb | exact Wc | refine Wd (by kernel_rfl) ?_ | refine We ?_ ?_ ?_ | refine W8 (by decide +kernel) ?_ ?_ ?_ | refine W9 ?_ ?_ ?_ | refine Wt (by first | assumption | omega) ?_ | refine Wu (by first | assumption | omega) ?_ | refine Wv (by omega) ?_ | refine Ww (by omega) ?_ | refine Wf (by decide) (fun _ => ?_) (fun _ => ?_) | refine Wg (fun _ => ?_) (fun _ => ?_) | refine Wh (fun _ => ?_) (fun _ => ?_) | refine Wi ?_ | refine Wj ?_ | refine Wk (fun _ => ?_) (fun _ => ?_) | refine Wl (fun _ => ?_) | refine Wm (by assumption) (by omega) ?_ | refine Wn (by omega) (by omega) (fun _ _ _ => ?_) | refine Wo (by omega) (by omega) ?_ | refine Wp (by omega) (by omega) (by omega) ?_ | refine Wq (by omega) (by omega) ?_ | refine Wr (by decide) (by omega) (by omega) ?_ | refine Ws (by decide) ?_ | refine Wx (fun _ => ?_) ?_ | refine Wy (fun _ => ?_) ?_ | refine Wz (fun _ => ?_) | refine WA (fun _ => ?_) | refine WB (by assumption) (by omega) ?_ | refine WC (by omega) (by omega) (fun _ _ => ?_) | refine WD (by omega) (by omega) (fun _ _ => ?_) | refine WE (by omega) (by omega) (by omega) ?_ | refine WJ (fun _ => ?_) | refine WK (fun _ _ _ => ?_) | refine WL (by assumption) (by omega) ?_ | refine WM (by omega) (by omega) (fun _ _ => ?_) | refine WN (by omega) (by omega) ?_ | refine WO (by omega) (by omega) ?_ | refine WP (by omega) (by omega) (by omega) ?_)
    | with_reducible refine WF ?_)
  all_goals exact fin h (congrArg (fun b => Res.ret (V.bool b)) (by first | (subst_vars; decide) | (simp only [resF, resW]; simp_all)))
theorem symbols_c {w : List UInt8} (h : R (.ret (.int .i64 (symF w))) st) : PC 118 [.str w] st R := by
  refine pcalls_of_body tys_ok [] Tryz.func118 rfl (by decide) ?_
  repeat' ((conv => whnf); first
    | (with_reducible first | exact Wa | exact Wb | exact Wc | refine Wd (by kernel_rfl) ?_ | refine We ?_ ?_ ?_ | refine W8 (by decide +kernel) ?_ ?_ ?_ | refine W9 ?_ ?_ ?_ | refine Wt (by first | assumption | omega) ?_ | refine Wu (by first | assumption | omega) ?_ | refine Wv (by omega) ?_ | refine Ww (by omega) ?_ | refine Wf (by decide) (fun _ => ?_) (fun _ => ?_) | refine Wg (fun _ => ?_) (fun _ => ?_) | refine Wh (fun _ => ?_) (fun _ => ?_) | refine Wi ?_ | refine Wj ?_ | refine Wk (fun _ => ?_) (fun _ => ?_) | refine Wl (fun _ => ?_) | refine Wm (by assumption) (by omega) ?_ | refine Wn (by omega) (by omega) (fun _ _ _ => ?_) | refine Wo (by omega) (by omega) ?_ | refine Wp (by omega) (by omega) (by omega) ?_ | refine Wq (by omega) (by omega) ?_ | refine Wr (by decide) (by omega) (by omega) ?_ | refine Ws (by decide) ?_ | refine Wx (fun _ => ?_) ?_ | refine Wy (fun _ => ?_) ?_ | refine Wz (fun _ => ?_) | refine WA (fun _ => ?_) | refine WB (by assumption) (by omega) ?_ | refine WC (by omega) (by omega) (fun _ _ => ?_) | refine WD (by omega) (by omega) (fun _ _ => ?_) | refine WE (by omega) (by omega) (by omega) ?_ | refine WJ (fun _ => ?_) | refine WK (fun _ _ _ => ?_) | refine WL (by assumption) (by omega) ?_ | refine WM (by omega) (by omega) (fun _ _ => ?_) | refine WN (by omega) (by omega) ?_ | refine WO (by omega) (by omega) ?_ | refine WP (by omega) (by omega) (by omega) ?_)
    | refine prefix_c ?_
    | with_reducible refine WF ?_)
  all_goals try rename_i hp
  all_goals try rw [pre1, decide_eq_true_eq] at hp
  all_goals try rw [pre1, decide_eq_false_iff_not] at hp
  all_goals exact fin h (int_ret (by first | (subst_vars; decide) | (have hp : hdF w = 58 := hp; simp only [symF, markW]; simp_all) | (have hp : ¬ hdF w = 58 := hp; simp only [symF, markW]; simp_all)))
theorem within_c {c : Int} (h : R (.ret (.bool (inName c))) st) : PC 133 [.int .i32 c] st R := by
  refine pcalls_of_body tys_ok [] Tryz.func133 rfl (by decide) ?_
  repeat' ((conv => whnf); first
    | (with_reducible first | exact Wa | exact Wb | exact Wc | refine Wd (by kernel_rfl) ?_ | refine We ?_ ?_ ?_ | refine W8 (by decide +kernel) ?_ ?_ ?_ | refine W9 ?_ ?_ ?_ | refine Wt (by first | assumption | omega) ?_ | refine Wu (by first | assumption | omega) ?_ | refine Wv (by omega) ?_ | refine Ww (by omega) ?_ | refine Wf (by decide) (fun _ => ?_) (fun _ => ?_) | refine Wg (fun _ => ?_) (fun _ => ?_) | refine Wh (fun _ => ?_) (fun _ => ?_) | refine Wi ?_ | refine Wj ?_ | refine Wk (fun _ => ?_) (fun _ => ?_) | refine Wl (fun _ => ?_) | refine Wm (by assumption) (by omega) ?_ | refine Wn (by omega) (by omega) (fun _ _ _ => ?_) | refine Wo (by omega) (by omega) ?_ | refine Wp (by omega) (by omega) (by omega) ?_ | refine Wq (by omega) (by omega) ?_ | refine Wr (by decide) (by omega) (by omega) ?_ | refine Ws (by decide) ?_ | refine Wx (fun _ => ?_) ?_ | refine Wy (fun _ => ?_) ?_ | refine Wz (fun _ => ?_) | refine WA (fun _ => ?_) | refine WB (by assumption) (by omega) ?_ | refine WC (by omega) (by omega) (fun _ _ => ?_) | refine WD (by omega) (by omega) (fun _ _ => ?_) | refine WE (by omega) (by omega) (by omega) ?_ | refine WJ (fun _ => ?_) | refine WK (fun _ _ _ => ?_) | refine WL (by assumption) (by omega) ?_ | refine WM (by omega) (by omega) (fun _ _ => ?_) | refine WN (by omega) (by omega) ?_ | refine WO (by omega) (by omega) ?_ | refine WP (by omega) (by omega) (by omega) ?_)
    | refine class_c ?_
    | with_reducible refine WF ?_)
  all_goals exact fin h (congrArg (fun b => Res.ret (V.bool b)) (by simp only [inName]; simp_all))
theorem qualified_c {k : Int} (h : R (.ret (.int .i64 (qualF k))) st) : PC 107 [.int .i64 k] st R := by
  refine pcalls_of_body tys_ok [] Tryz.func107 rfl (by decide) ?_
  repeat' ((conv => whnf); first
    | (with_reducible first | exact Wa | exact Wb | exact Wc | refine Wd (by kernel_rfl) ?_ | refine We ?_ ?_ ?_ | refine W8 (by decide +kernel) ?_ ?_ ?_ | refine W9 ?_ ?_ ?_ | refine Wt (by first | assumption | omega) ?_ | refine Wu (by first | assumption | omega) ?_ | refine Wv (by omega) ?_ | refine Ww (by omega) ?_ | refine Wf (by decide) (fun _ => ?_) (fun _ => ?_) | refine Wg (fun _ => ?_) (fun _ => ?_) | refine Wh (fun _ => ?_) (fun _ => ?_) | refine Wi ?_ | refine Wj ?_ | refine Wk (fun _ => ?_) (fun _ => ?_) | refine Wl (fun _ => ?_) | refine Wm (by assumption) (by omega) ?_ | refine Wn (by omega) (by omega) (fun _ _ _ => ?_) | refine Wo (by omega) (by omega) ?_ | refine Wp (by omega) (by omega) (by omega) ?_ | refine Wq (by omega) (by omega) ?_ | refine Wr (by decide) (by omega) (by omega) ?_ | refine Ws (by decide) ?_ | refine Wx (fun _ => ?_) ?_ | refine Wy (fun _ => ?_) ?_ | refine Wz (fun _ => ?_) | refine WA (fun _ => ?_) | refine WB (by assumption) (by omega) ?_ | refine WC (by omega) (by omega) (fun _ _ => ?_) | refine WD (by omega) (by omega) (fun _ _ => ?_) | refine WE (by omega) (by omega) (by omega) ?_ | refine WJ (fun _ => ?_) | refine WK (fun _ _ _ => ?_) | refine WL (by assumption) (by omega) ?_ | refine WM (by omega) (by omega) (fun _ _ => ?_) | refine WN (by omega) (by omega) ?_ | refine WO (by omega) (by omega) ?_ | refine WP (by omega) (by omega) (by omega) ?_)
    | with_reducible refine WF ?_)
  all_goals exact fin h (int_ret (by unfold qualF; (repeat' split) <;> omega))
end
end Go.Proofs.YtkcapphlemoccaaGreatDoor
set_option linter.unusedVariables false
namespace Go.Proofs.YtkcapphlemoccaaGreatDoor
open Go Go.Aw
theorem firstF_next (s : List UInt8) : firstF s = if (nextF s 0).2 = 0 then 0 else classF (nextF s 0).1 := by
  cases s with
  | nil => rw [nextF_out (by simp)]; rfl
  | cons a r =>
    have h1 := decR_pos (a :: r)
    rw [nextF_in (by omega) (by simp), show (0 : Int).toNat = 0 from rfl, List.drop_zero, decF_of (by simp), if_neg (by dsimp only; omega)]
    rfl
section
variable {st : St} {R : Res → St → Prop}
theorem name_c {s : List UInt8} (hl : s.length < 4611686018427387904) (h : R (.ret (.str (s.take (nameN s)))) st) : PC 119 [.str s] st R := by
  refine pcalls_of_body tys_ok [] Tryz.func119 rfl (by decide) ?_
  repeat' ((conv => whnf); first
    | (with_reducible first | exact Wa | exact Wb | exact Wc | refine Wd (by kernel_rfl) ?_ | refine We ?_ ?_ ?_ | refine W8 (by decide +kernel) ?_ ?_ ?_ | refine W9 ?_ ?_ ?_ | refine Wt (by first | assumption | omega) ?_ | refine Wu (by first | assumption | omega) ?_ | refine Wv (by omega) ?_ | refine Ww (by omega) ?_ | refine Wf (by decide) (fun _ => ?_) (fun _ => ?_) | refine Wg (fun _ => ?_) (fun _ => ?_) | refine Wh (fun _ => ?_) (fun _ => ?_) | refine Wi ?_ | refine Wj ?_ | refine Wk (fun _ => ?_) (fun _ => ?_) | refine Wl (fun _ => ?_) | refine Wm (by assumption) (by omega) ?_ | refine Wn (by omega) (by omega) (fun _ _ _ => ?_) | refine Wo (by omega) (by omega) ?_ | refine Wp (by omega) (by omega) (by omega) ?_ | refine Wq (by omega) (by omega) ?_ | refine Wr (by decide) (by omega) (by omega) ?_ | refine Ws (by decide) ?_ | refine Wx (fun _ => ?_) ?_ | refine Wy (fun _ => ?_) ?_ | refine Wz (fun _ => ?_) | refine WA (fun _ => ?_) | refine WB (by assumption) (by omega) ?_ | refine WC (by omega) (by omega) (fun _ _ => ?_) | refine WD (by omega) (by omega) (fun _ _ => ?_) | refine WE (by omega) (by omega) (by omega) ?_ | refine WJ (fun _ => ?_) | refine WK (fun _ _ _ => ?_) | refine WL (by assumption) (by omega) ?_ | refine WM (by omega) (by omega) (fun _ _ => ?_) | refine WN (by omega) (by omega) ?_ | refine WO (by omega) (by omega) ?_ | refine WP (by omega) (by omega) (by omega) ?_)
    | with_reducible refine WF ?_)
  refine loop_x (α := Nat) (fun _ => []) (fun pos => [(0, [.sit s pos])]) [0, 6] [] (fun _ => st) (fun pos => pos ≤ s.length ∧ nameN s = pos + spanR inName (s.drop pos)) (fun pos => s.length - pos) 0 ⟨Nat.zero_le _, by simp [nameN]⟩ (by refine ⟨rfl, ?_, ?_, rfl⟩ <;> repeat' (first | exact trivial | exact rfl | refine And.intro ?_ ?_)) (St.le_refl _) ?_
  rintro pos ⟨hp, hi⟩
  repeat' ((conv => whnf); first
    | (with_reducible first | exact Wa | exact Wb | exact Wc | refine Wd (by kernel_rfl) ?_ | refine We ?_ ?_ ?_ | refine W8 (by decide +kernel) ?_ ?_ ?_ | refine W9 ?_ ?_ ?_ | refine Wt (by first | assumption | omega) ?_ | refine Wu (by first | assumption | omega) ?_ | refine Wv (by omega) ?_ | refine Ww (by omega) ?_ | refine Wf (by decide) (fun _ => ?_) (fun _ => ?_) | refine Wg (fun _ => ?_) (fun _ => ?_) | refine Wh (fun _ => ?_) (fun _ => ?_) | refine Wi ?_ | refine Wj ?_ | refine Wk (fun _ => ?_) (fun _ => ?_) | refine Wl (fun _ => ?_) | refine Wm (by assumption) (by omega) ?_ | refine Wn (by omega) (by omega) (fun _ _ _ => ?_) | refine Wo (by omega) (by omega) ?_ | refine Wp (by omega) (by omega) (by omega) ?_ | refine Wq (by omega) (by omega) ?_ | refine Wr (by decide) (by omega) (by omega) ?_ | refine Ws (by decide) ?_ | refine Wx (fun _ => ?_) ?_ | refine Wy (fun _ => ?_) ?_ | refine Wz (fun _ => ?_) | refine WA (fun _ => ?_) | refine WB (by assumption) (by omega) ?_ | refine WC (by omega) (by omega) (fun _ _ => ?_) | refine WD (by omega) (by omega) (fun _ _ => ?_) | refine WE (by omega) (by omega) (by omega) ?_ | refine WJ (fun _ => ?_) | refine WK (fun _ _ _ => ?_) | refine WL (by assumption) (by omega) ?_ | refine WM (by omega) (by omega) (fun _ _ => ?_) | refine WN (by omega) (by omega) ?_ | refine WO (by omega) (by omega) ?_ | refine WP (by omega) (by omega) (by omega) ?_)
    | refine within_c ?_
    | with_reducible refine WF ?_)
  · rename_i hlt c m hd hk
    have hr := rune_le hlt hd
    conv => whnf
    exact ⟨pos + m, ⟨hr.1, span_go hlt hd hk hi⟩, by omega, (by refine ⟨rfl, ?_, ?_, rfl⟩ <;> repeat' (first | exact trivial | exact rfl | refine And.intro ?_ ?_)), St.le_refl _⟩
  · rename_i hlt c m hd hk
    have := span_no (p := fun d => inName (d.1 : Nat)) hd hk hi
    exact fin h (by rw [this]; rfl)
  · rename_i hlt
    have := span_end hlt hi
    exact fin h (by rw [this, List.take_of_length_le (by omega)])
theorem first_c {s : List UInt8} (hl : s.length < 4611686018427387904) (h : R (.ret (.int .i64 (firstF s))) st) : PC 117 [.str s] st R := by
  refine pcalls_of_body tys_ok [] Tryz.func117 rfl (by decide) ?_
  repeat' ((conv => whnf); first
    | (with_reducible first | exact Wa | exact Wb | exact Wc | refine Wd (by kernel_rfl) ?_ | refine We ?_ ?_ ?_ | refine W8 (by decide +kernel) ?_ ?_ ?_ | refine W9 ?_ ?_ ?_ | refine Wt (by first | assumption | omega) ?_ | refine Wu (by first | assumption | omega) ?_ | refine Wv (by omega) ?_ | refine Ww (by omega) ?_ | refine Wf (by decide) (fun _ => ?_) (fun _ => ?_) | refine Wg (fun _ => ?_) (fun _ => ?_) | refine Wh (fun _ => ?_) (fun _ => ?_) | refine Wi ?_ | refine Wj ?_ | refine Wk (fun _ => ?_) (fun _ => ?_) | refine Wl (fun _ => ?_) | refine Wm (by assumption) (by omega) ?_ | refine Wn (by omega) (by omega) (fun _ _ _ => ?_) | refine Wo (by omega) (by omega) ?_ | refine Wp (by omega) (by omega) (by omega) ?_ | refine Wq (by omega) (by omega) ?_ | refine Wr (by decide) (by omega) (by omega) ?_ | refine Ws (by decide) ?_ | refine Wx (fun _ => ?_) ?_ | refine Wy (fun _ => ?_) ?_ | refine Wz (fun _ => ?_) | refine WA (fun _ => ?_) | refine WB (by assumption) (by omega) ?_ | refine WC (by omega) (by omega) (fun _ _ => ?_) | refine WD (by omega) (by omega) (fun _ _ => ?_) | refine WE (by omega) (by omega) (by omega) ?_ | refine WJ (fun _ => ?_) | refine WK (fun _ _ _ => ?_) | refine WL (by assumption) (by omega) ?_ | refine WM (by omega) (by omega) (fun _ _ => ?_) | refine WN (by omega) (by omega) ?_ | refine WO (by omega) (by omega) ?_ | refine WP (by omega) (by omega) (by omega) ?_)
    | refine next_c hl ?_
    | refine class_c ?_
    | with_reducible refine WF ?_)
  · exact fin h (int_ret (by rw [firstF_next, if_pos (by assumption)]))
  · exact fin h (int_ret (by rw [firstF_next, if_neg (by assumption)]))
end
end Go.Proofs.YtkcapphlemoccaaGreatDoor
set_option linter.unusedVariables false
namespace Go.Proofs.YtkcapphlemoccaaGreatDoor
open Go Go.Aw
theorem run0 {s : List UInt8} {k : Int} : runF s 0 k = (spanR (fun c => classF c == k) s : Nat) := by
  rw [runF_in (by omega) (by omega)]; simp
theorem firstF_ne {s : List UInt8} (h : ¬ firstF s = 0) : 0 < s.length := by
  cases s with
  | nil => exact absurd rfl h
  | cons a r => simp
section
variable {st : St} {R : Res → St → Prop}
theorem run_k {s : List UInt8} {k : Int} (hl : s.length < 4611686018427387904) (h : R (.ret (.int .i64 (spanR (fun c => classF c == k) s : Nat))) st) : PC 35 [.str s, .int .i64 0, .int .i64 k] st R := run_c hl (by rw [run0]; exact h)
theorem plain_c {s : List UInt8} (hl : s.length < 4611686018427387904) (h : R (.ret (.tup [.int .i64 (plainF s).1, .str (s.take (plainF s).2)])) st) : PC 106 [.str s] st R := by
  have hr := spanR_le (fun c => classF c == 5) s
  have hne : firstF s = 0 ∨ 0 < s.length := by
    by_cases h0 : firstF s = 0
    · exact .inl h0
    · exact .inr (firstF_ne h0)
  refine pcalls_of_body tys_ok [] Tryz.func106 rfl (by decide) ?_
  repeat' ((conv => whnf); first
    | (with_reducible first | exact Wa | exact Wb | exact Wc | refine Wd (by kernel_rfl) ?_ | refine We ?_ ?_ ?_ | refine W8 (by decide +kernel) ?_ ?_ ?_ | refine W9 ?_ ?_ ?_ | refine Wt (by first | assumption | omega) ?_ | refine Wu (by first | assumption | omega) ?_ | refine Wv (by omega) ?_ | refine Ww (by omega) ?_ | refine Wf (by decide) (fun _ => ?_) (fun _ => ?_) | refine Wg (fun _ => ?_) (fun _ => ?_) | refine Wh (fun _ => ?_) (fun _ => ?_) | refine Wi ?_ | refine Wj ?_ | refine Wk (fun _ => ?_) (fun _ => ?_) | refine Wl (fun _ => ?_) | refine Wm (by assumption) (by omega) ?_ | refine Wn (by omega) (by omega) (fun _ _ _ => ?_) | refine Wo (by omega) (by omega) ?_ | refine Wp (by omega) (by omega) (by omega) ?_ | refine Wq (by omega) (by omega) ?_ | refine Wr (by decide) (by omega) (by omega) ?_ | refine Ws (by decide) ?_ | refine Wx (fun _ => ?_) ?_ | refine Wy (fun _ => ?_) ?_ | refine Wz (fun _ => ?_) | refine WA (fun _ => ?_) | refine WB (by assumption) (by omega) ?_ | refine WC (by omega) (by omega) (fun _ _ => ?_) | refine WD (by omega) (by omega) (fun _ _ => ?_) | refine WE (by omega) (by omega) (by omega) ?_ | refine WJ (fun _ => ?_) | refine WK (fun _ _ _ => ?_) | refine WL (by assumption) (by omega) ?_ | refine WM (by omega) (by omega) (fun _ _ => ?_) | refine WN (by omega) (by omega) ?_ | refine WO (by omega) (by omega) ?_ | refine WP (by omega) (by omega) (by omega) ?_)
    | refine first_c hl ?_
    | refine run_k hl ?_
    | refine symbols_c ?_
    | refine name_c hl ?_
    | refine reserved_c ?_
    | with_reducible refine WF ?_)
  · exact fin h (by unfold plainF; rw [if_pos (by assumption)]; rfl)
  · exact fin h (by unfold plainF; rw [if_neg (by omega), if_pos (by omega)]; rfl)
  · exact fin h (by unfold plainF; rw [if_neg (by omega), if_neg (by omega), if_pos (by omega)])
  · exact fin h (by unfold plainF; rw [if_neg (by omega), if_neg (by omega), if_neg (by omega), if_pos (by omega), if_pos (by assumption)])
  · exact fin h (by unfold plainF; rw [if_neg (by omega), if_neg (by omega), if_neg (by omega), if_pos (by omega), if_neg (by simp_all)])
  · exact fin h (by unfold plainF; rw [if_neg (by omega), if_neg (by omega), if_neg (by omega), if_neg (by omega)]; rfl)
end
end Go.Proofs.YtkcapphlemoccaaGreatDoor
set_option linter.unusedVariables false
namespace Go.Aw
open Go
def scanG (s : List UInt8) (n : Nat) (k : Int) : Int × Nat :=
  if h : n < s.length then
    if (k = 2 ∨ k = 4) ∧ hdF (s.drop n) = 46 ∧ qualF (plainF (s.drop (n + 1))).1 ≠ 0 then scanG s (n + 1 + (plainF (s.drop (n + 1))).2) (qualF (plainF (s.drop (n + 1))).1) else (k, n)
  else (k, n)
termination_by s.length - n
decreasing_by omega
def wordF (s : List UInt8) : Int × Nat := scanG s (plainF s).2 (plainF s).1
theorem scanG_no {s : List UInt8} {n : Nat} {k : Int} (h : ¬ (n < s.length ∧ (k = 2 ∨ k = 4) ∧ hdF (s.drop n) = 46 ∧ qualF (plainF (s.drop (n + 1))).1 ≠ 0)) : scanG s n k = (k, n) := by
  rw [scanG]
  split
  · rw [if_neg (fun e => h ⟨by assumption, e⟩)]
  · rfl
theorem scanG_go {s : List UInt8} {n : Nat} {k : Int} (h : n < s.length) (e : (k = 2 ∨ k = 4) ∧ hdF (s.drop n) = 46 ∧ qualF (plainF (s.drop (n + 1))).1 ≠ 0) : scanG s n k = scanG s (n + 1 + (plainF (s.drop (n + 1))).2) (qualF (plainF (s.drop (n + 1))).1) := by
  rw [scanG, dif_pos h, if_pos e]
theorem plainF_le (s : List UInt8) : (plainF s).2 ≤ s.length := by
  have hf : firstF s = 0 ∨ 0 < s.length := by
    cases s with
    | nil => exact .inl rfl
    | cons a r => exact .inr (by simp)
  have h1 := spanR_le (fun c => classF c == 5) s
  have h2 : nameN s ≤ s.length := spanR_le _ s
  unfold plainF
  (repeat' split) <;> first | omega | (dsimp only; omega)
end Go.Aw
namespace Go.Proofs.YtkcapphlemoccaaGreatDoor
open Go Go.Aw
section
variable {st : St} {R : Res → St → Prop}
theorem dot_c {s w : List UInt8} {n : Nat} (ht : w.length = n) (h : R (.ret (.bool (decide (hdF (s.drop n) = 46)))) st) : PC 36 [.str (s.drop ((w.length : Nat) : Int).toNat), .str [46]] st R := by
  refine prefix_c ?_
  rw [pre1, ht, show ((n : Nat) : Int).toNat = n by omega]
  exact h
theorem plain_at {s w : List UInt8} {n : Nat} (hl : s.length ≤ 100000000) (ht : w.length = n) (h : R (.ret (.tup [.int .i64 (plainF (s.drop (n + 1))).1, .str ((s.drop (n + 1)).take (plainF (s.drop (n + 1))).2)])) st) : PC 106 [.str (s.drop (((w.length : Nat) : Int) + 1).toNat)] st R := by
  rw [ht, show (((n : Nat) : Int) + 1).toNat = n + 1 by omega]
  exact plain_c (by rw [List.length_drop]; omega) h
theorem slice_w {s w v : List UInt8} {n m : Nat} {K : List UInt8 → Prop} (h1 : w.length = n) (h2 : v.length = m) (h : n + 1 + m ≤ s.length) (k : K (s.take (n + 1 + m))) :
    ((0 : Int) ≤ 0 ∧ 0 ≤ ((w.length : Nat) : Int) + 1 + ((v.length : Nat) : Int) ∧ ((w.length : Nat) : Int) + 1 + ((v.length : Nat) : Int) ≤ s.length) ∧ ∀ s', s' = (s.take (((w.length : Nat) : Int) + 1 + ((v.length : Nat) : Int)).toNat).drop (0 : Int).toNat → K s' := by
  subst h1; subst h2
  refine WO (by omega) (by omega) ?_
  rw [show (((w.length : Nat) : Int) + 1 + ((v.length : Nat) : Int)).toNat = w.length + 1 + v.length by omega]
  exact k
theorem dot_lt (s : List UInt8) (n : Nat) : ¬ hdF (s.drop n) = 46 ∨ n < s.length := by
  by_cases h : n < s.length
  · exact .inr h
  · rw [hdF_none (by omega)]; exact .inl (by decide)
theorem wscan_c {s : List UInt8} (hl : s.length ≤ 100000000) (h : ∀ ahead : Int, R (.ret (.tup [.int .i64 (wordF s).1, .str (s.take (wordF s).2), .int .i64 ahead])) st) : PC 89 [.str s] st R := by
  refine pcalls_of_body tys_ok [] Tryz.func89 rfl (by decide) ?_
  repeat' ((conv => whnf); first
    | (with_reducible first | exact Wa | exact Wb | exact Wc | refine Wd (by kernel_rfl) ?_ | refine We ?_ ?_ ?_ | refine W8 (by decide +kernel) ?_ ?_ ?_ | refine W9 ?_ ?_ ?_ | refine Wt (by first | assumption | omega) ?_ | refine Wu (by first | assumption | omega) ?_ | refine Wv (by omega) ?_ | refine Ww (by omega) ?_ | refine Wf (by decide) (fun _ => ?_) (fun _ => ?_) | refine Wg (fun _ => ?_) (fun _ => ?_) | refine Wh (fun _ => ?_) (fun _ => ?_) | refine Wi ?_ | refine Wj ?_ | refine Wk (fun _ => ?_) (fun _ => ?_) | refine Wl (fun _ => ?_) | refine Wm (by assumption) (by omega) ?_ | refine Wn (by omega) (by omega) (fun _ _ _ => ?_) | refine Wo (by omega) (by omega) ?_ | refine Wp (by omega) (by omega) (by omega) ?_ | refine Wq (by omega) (by omega) ?_ | refine Wr (by decide) (by omega) (by omega) ?_ | refine Ws (by decide) ?_ | refine Wx (fun _ => ?_) ?_ | refine Wy (fun _ => ?_) ?_ | refine Wz (fun _ => ?_) | refine WA (fun _ => ?_) | refine WB (by assumption) (by omega) ?_ | refine WC (by omega) (by omega) (fun _ _ => ?_) | refine WD (by omega) (by omega) (fun _ _ => ?_) | refine WE (by omega) (by omega) (by omega) ?_ | refine WJ (fun _ => ?_) | refine WK (fun _ _ _ => ?_) | refine WL (by assumption) (by omega) ?_ | refine WM (by omega) (by omega) (fun _ _ => ?_) | refine WN (by omega) (by omega) ?_ | refine WO (by omega) (by omega) ?_ | refine WP (by omega) (by omega) (by omega) ?_)
    | refine plain_c (by omega) ?_
    | with_reducible refine WF ?_)
  refine loop_3 (α := Nat) (β := Int) (γ := Int) (fun n k a => [(2, .int .i64 k), (3, .str (s.take n)), (4, .int .i64 a)]) (fun _ _ _ => []) [0] [] (fun _ _ _ => st) (fun n k _ => n ≤ s.length ∧ wordF s = scanG s n k) (fun n _ _ => s.length - n) (plainF s).2 (plainF s).1 0 ⟨plainF_le s, rfl⟩ (by refine ⟨rfl, ?_, ?_, rfl⟩ <;> repeat' (first | exact trivial | exact rfl | refine And.intro ?_ ?_)) (St.le_refl _) ?_
  rintro n k a ⟨h1, h2⟩
  have ht : (s.take n).length = n := by rw [List.length_take]; omega
  have hp := plainF_le (s.drop (n + 1))
  rw [List.length_drop] at hp
  have hdl := dot_lt s n
  have ht2 : ((s.drop (n + 1)).take (plainF (s.drop (n + 1))).2).length = (plainF (s.drop (n + 1))).2 := by rw [List.length_take, List.length_drop]; omega
  repeat' ((conv => whnf); first
    | with_reducible refine slice_w ht ht2 (by omega) ?_
    | (with_reducible first | exact Wa | exact Wb | exact Wc | refine Wd (by kernel_rfl) ?_ | refine We ?_ ?_ ?_ | refine W8 (by decide +kernel) ?_ ?_ ?_ | refine W9 ?_ ?_ ?_ | refine Wt (by first | assumption | omega) ?_ | refine Wu (by first | assumption | omega) ?_ | refine Wv (by omega) ?_ | refine Ww (by omega) ?_ | refine Wf (by decide) (fun _ => ?_) (fun _ => ?_) | refine Wg (fun _ => ?_) (fun _ => ?_) | refine Wh (fun _ => ?_) (fun _ => ?_) | refine Wi ?_ | refine Wj ?_ | refine Wk (fun _ => ?_) (fun _ => ?_) | refine Wl (fun _ => ?_) | refine Wm (by assumption) (by omega) ?_ | refine Wn (by omega) (by omega) (fun _ _ _ => ?_) | refine Wo (by omega) (by omega) ?_ | refine Wp (by omega) (by omega) (by omega) ?_ | refine Wq (by omega) (by omega) ?_ | refine Wr (by decide) (by omega) (by omega) ?_ | refine Ws (by decide) ?_ | refine Wx (fun _ => ?_) ?_ | refine Wy (fun _ => ?_) ?_ | refine Wz (fun _ => ?_) | refine WA (fun _ => ?_) | refine WB (by assumption) (by omega) ?_ | refine WC (by omega) (by omega) (fun _ _ => ?_) | refine WD (by omega) (by omega) (fun _ _ => ?_) | refine WE (by omega) (by omega) (by omega) ?_ | refine WJ (fun _ => ?_) | refine WK (fun _ _ _ => ?_) | refine WL (by assumption) (by omega) ?_ | refine WM (by omega) (by omega) (fun _ _ => ?_) | refine WN (by omega) (by omega) ?_ | refine WO (by omega) (by omega) ?_ | refine WP (by omega) (by omega) (by omega) ?_)
    | refine dot_c ht ?_
    | refine plain_at hl ht ?_
    | refine qualified_c ?_
    | with_reducible refine WF ?_)
  all_goals first
    | exact fin (by have := h a; rw [h2, scanG_no (by omega)] at this; exact this) rfl
    | (conv => whnf
       exact ⟨(n + 1 + (plainF (s.drop (n + 1))).2, qualF (plainF (s.drop (n + 1))).1, (((s.take n).length : Nat) : Int) + 1), ⟨by dsimp only; omega, by dsimp only; rw [h2, scanG_go (by omega) ⟨by omega, by omega, by omega⟩]⟩, by dsimp only; omega, (by refine ⟨rfl, ?_, ?_, rfl⟩ <;> repeat' (first | exact trivial | exact rfl | refine And.intro ?_ ?_)), St.le_refl _⟩)
end
end Go.Proofs.YtkcapphlemoccaaGreatDoor
set_option linter.unusedVariables false
namespace Go.Aw
open Go
def wscanF (s : List UInt8) (pos : Nat) : Int × Int := if (wordF (s.drop pos)).1 = 0 then (0, 0) else ((wordF (s.drop pos)).1, (pos + (wordF (s.drop pos)).2 : Nat))
theorem scanG_le {s : List UInt8} {n : Nat} {k : Int} (h : n ≤ s.length) : (scanG s n k).2 ≤ s.length := by
  fun_induction scanG s n k with
  | case1 n k hn hc ih =>
    have := plainF_le (s.drop (n + 1))
    rw [List.length_drop] at this
    exact ih (by omega)
  | case2 n k hn hc => exact h
  | case3 n k hn => exact h
theorem wordF_le (s : List UInt8) : (wordF s).2 ≤ s.length := scanG_le (plainF_le s)
end Go.Aw
namespace Go.Proofs.YtkcapphlemoccaaGreatDoor
open Go Go.Aw
section
variable {st : St} {R : Res → St → Prop}
theorem wscanX_c {s : List UInt8} {pos : Nat} (hl : s.length ≤ 100000000) (hp : pos < s.length) (h : R (.ret (.tup [.int .i64 (wscanF s pos).1, .int .i64 (wscanF s pos).2])) st) : PC 64 [.str s, .int .i64 pos] st R := by
  have ht : ((s.drop pos).take (wordF (s.drop pos)).2).length = (wordF (s.drop pos)).2 := by rw [List.length_take]; have := wordF_le (s.drop pos); omega
  have hw := wordF_le (s.drop pos)
  rw [List.length_drop] at hw
  have hld : (s.drop pos).length ≤ 100000000 := by rw [List.length_drop]; omega
  refine pcalls_of_body tys_ok [] Tryz.func64 rfl (by decide) ?_
  repeat' ((conv => whnf); first
    | (with_reducible first | exact Wa | exact Wb | exact Wc | refine Wd (by kernel_rfl) ?_ | refine We ?_ ?_ ?_ | refine W8 (by decide +kernel) ?_ ?_ ?_ | refine W9 ?_ ?_ ?_ | refine Wt (by first | assumption | omega) ?_ | refine Wu (by first | assumption | omega) ?_ | refine Wv (by omega) ?_ | refine Ww (by omega) ?_ | refine Wf (by decide) (fun _ => ?_) (fun _ => ?_) | refine Wg (fun _ => ?_) (fun _ => ?_) | refine Wh (fun _ => ?_) (fun _ => ?_) | refine Wi ?_ | refine Wj ?_ | refine Wk (fun _ => ?_) (fun _ => ?_) | refine Wl (fun _ => ?_) | refine Wm (by assumption) (by omega) ?_ | refine Wn (by omega) (by omega) (fun _ _ _ => ?_) | refine Wo (by omega) (by omega) ?_ | refine Wp (by omega) (by omega) (by omega) ?_ | refine Wq (by omega) (by omega) ?_ | refine Wr (by decide) (by omega) (by omega) ?_ | refine Ws (by decide) ?_ | refine Wx (fun _ => ?_) ?_ | refine Wy (fun _ => ?_) ?_ | refine Wz (fun _ => ?_) | refine WA (fun _ => ?_) | refine WB (by assumption) (by omega) ?_ | refine WC (by omega) (by omega) (fun _ _ => ?_) | refine WD (by omega) (by omega) (fun _ _ => ?_) | refine WE (by omega) (by omega) (by omega) ?_ | refine WJ (fun _ => ?_) | refine WK (fun _ _ _ => ?_) | refine WL (by assumption) (by omega) ?_ | refine WM (by omega) (by omega) (fun _ _ => ?_) | refine WN (by omega) (by omega) ?_ | refine WO (by omega) (by omega) ?_ | refine WP (by omega) (by omega) (by omega) ?_)
    | refine wscan_c hld (fun _ => ?_)
    | with_reducible refine WF ?_)
  · exact fin h (by unfold wscanF; rw [if_pos (by assumption)]; simp_all)
  · exact fin h (by unfold wscanF; rw [if_neg (by assumption)]; simp only []; rw [show (pos : Int).toNat = pos by omega] at *; rw [ht]; rfl)
end
end Go.Proofs.YtkcapphlemoccaaGreatDoor
set_option linter.unusedVariables false
namespace Go.Aw
open Go
def rowN (base : Int) : List UInt8 → Nat
  | [] => 0
  | a :: r => if digitF ((a.toNat : Nat) : Int) base < 0 then 0 else rowN base r + 1
def baseF (l : List UInt8) : Int := if hdF (l.drop 1) = 111 ∨ hdF (l.drop 1) = 79 then 8 else if hdF (l.drop 1) = 120 ∨ hdF (l.drop 1) = 88 then 16 else 10
def prefF (l : List UInt8) : Int × Nat := if hdF l = 48 ∧ baseF l ≠ 10 ∧ rowN (baseF l) (l.drop 2) ≠ 0 then (baseF l, 2) else (10, 0)
def signN (l : List UInt8) : Nat := if hdF l = 43 ∨ hdF l = 45 then 1 else 0
def expN (l : List UInt8) : Nat :=
  if (hdF l = 101 ∨ hdF l = 69) ∧ rowN 10 (l.drop (1 + signN (l.drop 1))) ≠ 0 then 1 + signN (l.drop 1) + rowN 10 (l.drop (1 + signN (l.drop 1))) else 0
def fracN (l : List UInt8) : Nat := if hdF l = 46 ∧ rowN 10 (l.drop 1) ≠ 0 then 1 + rowN 10 (l.drop 1) else 0
def numF (l : List UInt8) : Int × Nat :=
  if (prefF l).1 ≠ 10 then (11, 2 + rowN (prefF l).1 (l.drop 2))
  else if rowN 10 l = 0 then (0, 0)
  else
    (if 0 < fracN (l.drop (rowN 10 l)) ∨ 0 < expN (l.drop (rowN 10 l + fracN (l.drop (rowN 10 l)))) then 12 else 11,
      rowN 10 l + fracN (l.drop (rowN 10 l)) + expN (l.drop (rowN 10 l + fracN (l.drop (rowN 10 l)))))
theorem hdF_lt_len {l : List UInt8} {k : Nat} (h : 0 ≤ hdF (l.drop k)) : k < l.length := by
  by_cases hk : k < l.length
  · exact hk
  · rw [List.drop_eq_nil_iff.2 (by omega)] at h; exact absurd h (by decide)
theorem decR_lo {a : UInt8} {r : List UInt8} (h : a.toNat < 128) : decR (a :: r) = (a.toNat, 1) := by
  unfold decR; dsimp only; rw [if_pos (by simpa using h)]
theorem decR_hi {a : UInt8} {r : List UInt8} (h : ¬ a.toNat < 128) : 128 ≤ (decR (a :: r)).1 := by
  unfold decR; dsimp only; rw [if_neg (by simpa using h)]
  have ha := a.toNat_lt
  repeat' split
  all_goals simp_all
  all_goals omega
theorem digitF_hi {c base : Int} (h : 128 ≤ c) : digitF c base < 0 := by
  have hv : (if 48 ≤ c ∧ c ≤ 57 then c - 48 else if 97 ≤ c ∧ c ≤ 102 then c - 87 else if 65 ≤ c ∧ c ≤ 70 then c - 55 else 16) = 16 := by
    rw [if_neg (by omega), if_neg (by omega), if_neg (by omega)]
  unfold digitF; dsimp only
  rw [hv, if_pos (by omega)]; omega
theorem rowN_le (base : Int) (l : List UInt8) : rowN base l ≤ l.length := by
  induction l with
  | nil => exact Nat.le_refl _
  | cons a r ih => unfold rowN; split <;> simp only [List.length_cons] <;> omega
theorem rowN_go {base : Int} {s : List UInt8} {pos c m : Nat} (h : pos < s.length) (hd : (c, m) = decR (s.drop pos)) (k : ¬ digitF (c : Int) base < 0) : m = 1 ∧ rowN base (s.drop pos) = rowN base (s.drop (pos + 1)) + 1 := by
  rw [List.drop_eq_getElem_cons h] at hd ⊢
  by_cases hb : s[pos].toNat < 128
  · rw [decR_lo hb] at hd
    injection hd with h1 h2
    subst h1; subst h2
    exact ⟨rfl, by rw [rowN, if_neg k]⟩
  · have := decR_hi (r := s.drop (pos + 1)) hb
    rw [← hd] at this
    exact absurd (digitF_hi (c := (c : Int)) (base := base) (by dsimp only at this; omega)) k
theorem rowN_no {base : Int} {s : List UInt8} {pos c m : Nat} (h : pos < s.length) (hd : (c, m) = decR (s.drop pos)) (k : digitF (c : Int) base < 0) : rowN base (s.drop pos) = 0 := by
  rw [List.drop_eq_getElem_cons h] at hd ⊢
  by_cases hb : s[pos].toNat < 128
  · rw [decR_lo hb] at hd
    injection hd with h1 h2
    subst h1
    rw [rowN, if_pos k]
  · rw [rowN, if_pos (digitF_hi (by omega))]
theorem rowN_none {base : Int} {s : List UInt8} {pos : Nat} (h : s.length ≤ pos) : rowN base (s.drop pos) = 0 := by rw [List.drop_eq_nil_iff.2 h]; rfl
theorem fracN_le (l : List UInt8) : fracN l ≤ l.length := by
  have := rowN_le 10 (l.drop 1)
  rw [List.length_drop] at this
  unfold fracN; split <;> omega
theorem expN_le (l : List UInt8) : expN l ≤ l.length := by
  have := rowN_le 10 (l.drop (1 + signN (l.drop 1)))
  rw [List.length_drop] at this
  unfold expN; split <;> omega
theorem numF_le (l : List UInt8) : (numF l).2 ≤ l.length := by
  have h1 := rowN_le 10 l
  have h2 := rowN_le (prefF l).1 (l.drop 2)
  have h3 := fracN_le (l.drop (rowN 10 l))
  have h4 := expN_le (l.drop (rowN 10 l + fracN (l.drop (rowN 10 l))))
  rw [List.length_drop] at h2 h3 h4
  have h5 : (prefF l).1 ≠ 10 → 2 ≤ l.length := fun e => by
    unfold prefF at e
    split at e
    · rename_i hc
      have := rowN_le (baseF l) (l.drop 2)
      rw [List.length_drop] at this
      omega
    · exact absurd rfl e
  unfold numF
  split
  · have := h5 (by assumption); dsimp only; omega
  · split
    · exact Nat.zero_le _
    · dsimp only; omega
theorem ex_wrap32 {a : Int} {K : Int → Prop} (h1 : -2147483648 ≤ a) (h2 : a ≤ 2147483647) (k : K a) : ∃ r, r = IntKind.i32.wrap a ∧ K r := ⟨a, (IntWalk.i32_in _ ⟨h1, h2⟩).symm, k⟩
end Go.Aw
namespace Go.Proofs.YtkcapphlemoccaaGreatDoor
open Go Go.Aw
section
variable {st : St} {R : Res → St → Prop}
theorem digit_c {c b : Int} (h : R (.ret (.int .i64 (digitF c b))) st) : PC 113 [.int .i32 c, .int .i64 b] st R := by
  refine pcalls_of_body tys_ok [] Tryz.func113 rfl (by decide) ?_
  repeat' ((conv => whnf); first
    | (with_reducible first | exact Wa | exact Wb | exact Wc | refine Wd (by kernel_rfl) ?_ | refine We ?_ ?_ ?_ | refine W8 (by decide +kernel) ?_ ?_ ?_ | refine W9 ?_ ?_ ?_ | refine Wt (by first | assumption | omega) ?_ | refine Wu (by first | assumption | omega) ?_ | refine Wv (by omega) ?_ | refine Ww (by omega) ?_ | refine Wf (by decide) (fun _ => ?_) (fun _ => ?_) | refine Wg (fun _ => ?_) (fun _ => ?_) | refine Wh (fun _ => ?_) (fun _ => ?_) | refine Wi ?_ | refine Wj ?_ | refine Wk (fun _ => ?_) (fun _ => ?_) | refine Wl (fun _ => ?_) | refine Wm (by assumption) (by omega) ?_ | refine Wn (by omega) (by omega) (fun _ _ _ => ?_) | refine Wo (by omega) (by omega) ?_ | refine Wp (by omega) (by omega) (by omega) ?_ | refine Wq (by omega) (by omega) ?_ | refine Wr (by decide) (by omega) (by omega) ?_ | refine Ws (by decide) ?_ | refine Wx (fun _ => ?_) ?_ | refine Wy (fun _ => ?_) ?_ | refine Wz (fun _ => ?_) | refine WA (fun _ => ?_) | refine WB (by assumption) (by omega) ?_ | refine WC (by omega) (by omega) (fun _ _ => ?_) | refine WD (by omega) (by omega) (fun _ _ => ?_) | refine WE (by omega) (by omega) (by omega) ?_ | refine WJ (fun _ => ?_) | refine WK (fun _ _ _ => ?_) | refine WL (by assumption) (by omega) ?_ | refine WM (by omega) (by omega) (fun _ _ => ?_) | refine WN (by omega) (by omega) ?_ | refine WO (by omega) (by omega) ?_ | refine WP (by omega) (by omega) (by omega) ?_)
    | refine ex_wrap32 (by omega) (by omega) ?_
    | with_reducible refine WF ?_)
  all_goals exact fin h (int_ret (by unfold digitF; dsimp only; (repeat' split) <;> omega))
theorem row_c {s : List UInt8} {b : Int} (hl : s.length < 4611686018427387904) (h : R (.ret (.int .i64 (rowN b s : Nat))) st) : PC 102 [.str s, .int .i64 b] st R := by
  refine pcalls_of_body tys_ok [] Tryz.func102 rfl (by decide) ?_
  repeat' ((conv => whnf); first
    | (with_reducible first | exact Wa | exact Wb | exact Wc | refine Wd (by kernel_rfl) ?_ | refine We ?_ ?_ ?_ | refine W8 (by decide +kernel) ?_ ?_ ?_ | refine W9 ?_ ?_ ?_ | refine Wt (by first | assumption | omega) ?_ | refine Wu (by first | assumption | omega) ?_ | refine Wv (by omega) ?_ | refine Ww (by omega) ?_ | refine Wf (by decide) (fun _ => ?_) (fun _ => ?_) | refine Wg (fun _ => ?_) (fun _ => ?_) | refine Wh (fun _ => ?_) (fun _ => ?_) | refine Wi ?_ | refine Wj ?_ | refine Wk (fun _ => ?_) (fun _ => ?_) | refine Wl (fun _ => ?_) | refine Wm (by assumption) (by omega) ?_ | refine Wn (by omega) (by omega) (fun _ _ _ => ?_) | refine Wo (by omega) (by omega) ?_ | refine Wp (by omega) (by omega) (by omega) ?_ | refine Wq (by omega) (by omega) ?_ | refine Wr (by decide) (by omega) (by omega) ?_ | refine Ws (by decide) ?_ | refine Wx (fun _ => ?_) ?_ | refine Wy (fun _ => ?_) ?_ | refine Wz (fun _ => ?_) | refine WA (fun _ => ?_) | refine WB (by assumption) (by omega) ?_ | refine WC (by omega) (by omega) (fun _ _ => ?_) | refine WD (by omega) (by omega) (fun _ _ => ?_) | refine WE (by omega) (by omega) (by omega) ?_ | refine WJ (fun _ => ?_) | refine WK (fun _ _ _ => ?_) | refine WL (by assumption) (by omega) ?_ | refine WM (by omega) (by omega) (fun _ _ => ?_) | refine WN (by omega) (by omega) ?_ | refine WO (by omega) (by omega) ?_ | refine WP (by omega) (by omega) (by omega) ?_)
    | with_reducible refine WF ?_)
  refine loop_x (α := Nat) (fun _ => []) (fun pos => [(0, [.sit s pos])]) [0, 1, 8] [] (fun _ => st) (fun pos => pos ≤ s.length ∧ rowN b s = pos + rowN b (s.drop pos)) (fun pos => s.length - pos) 0 ⟨Nat.zero_le _, by simp⟩ (by refine ⟨rfl, ?_, ?_, rfl⟩ <;> repeat' (first | exact trivial | exact rfl | refine And.intro ?_ ?_)) (St.le_refl _) ?_
  rintro pos ⟨hp, hi⟩
  repeat' ((conv => whnf); first
    | (with_reducible first | exact Wa | exact Wb | exact Wc | refine Wd (by kernel_rfl) ?_ | refine We ?_ ?_ ?_ | refine W8 (by decide +kernel) ?_ ?_ ?_ | refine W9 ?_ ?_ ?_ | refine Wt (by first | assumption | omega) ?_ | refine Wu (by first | assumption | omega) ?_ | refine Wv (by omega) ?_ | refine Ww (by omega) ?_ | refine Wf (by decide) (fun _ => ?_) (fun _ => ?_) | refine Wg (fun _ => ?_) (fun _ => ?_) | refine Wh (fun _ => ?_) (fun _ => ?_) | refine Wi ?_ | refine Wj ?_ | refine Wk (fun _ => ?_) (fun _ => ?_) | refine Wl (fun _ => ?_) | refine Wm (by assumption) (by omega) ?_ | refine Wn (by omega) (by omega) (fun _ _ _ => ?_) | refine Wo (by omega) (by omega) ?_ | refine Wp (by omega) (by omega) (by omega) ?_ | refine Wq (by omega) (by omega) ?_ | refine Wr (by decide) (by omega) (by omega) ?_ | refine Ws (by decide) ?_ | refine Wx (fun _ => ?_) ?_ | refine Wy (fun _ => ?_) ?_ | refine Wz (fun _ => ?_) | refine WA (fun _ => ?_) | refine WB (by assumption) (by omega) ?_ | refine WC (by omega) (by omega) (fun _ _ => ?_) | refine WD (by omega) (by omega) (fun _ _ => ?_) | refine WE (by omega) (by omega) (by omega) ?_ | refine WJ (fun _ => ?_) | refine WK (fun _ _ _ => ?_) | refine WL (by assumption) (by omega) ?_ | refine WM (by omega) (by omega) (fun _ _ => ?_) | refine WN (by omega) (by omega) ?_ | refine WO (by omega) (by omega) ?_ | refine WP (by omega) (by omega) (by omega) ?_)
    | refine digit_c ?_
    | with_reducible refine WF ?_)
  · rename_i hlt c m hd hk
    have := rowN_no hlt hd hk
    exact fin h (int_ret (by omega))
  · rename_i hlt c m hd hk
    obtain ⟨e1, e2⟩ := rowN_go hlt hd hk
    conv => whnf
    exact ⟨pos + m, ⟨by omega, by rw [e1]; omega⟩, by omega, (by refine ⟨rfl, ?_, ?_, rfl⟩ <;> repeat' (first | exact trivial | exact rfl | refine And.intro ?_ ?_)), St.le_refl _⟩
  · rename_i hlt hls
    have := rowN_none (base := b) (s := s) (pos := pos) (by omega)
    exact fin h (int_ret (by omega))
end
end Go.Proofs.YtkcapphlemoccaaGreatDoor
set_option linter.unusedVariables false
namespace Go.Aw
open Go
def nestN (d : Nat) (l : List UInt8) : Option Nat :=
  match l with
  | [] => none
  | a :: r =>
    if (a.toNat : Int) = 123 ∧ hdF r = 45 then (nestN (d + 1) (r.drop 1)).map (· + 2)
    else if (a.toNat : Int) = 45 ∧ hdF r = 125 then (if d ≤ 1 then some 2 else (nestN (d - 1) (r.drop 1)).map (· + 2))
    else (nestN d r).map (· + 1)
termination_by l.length
decreasing_by all_goals simp only [List.length_drop, List.length_cons]; omega
def endAt (pos : Nat) (o : Option Nat) : Int := match o with
  | none => -1
  | some n => (pos + n : Nat)
theorem endAt_map {pos k : Nat} {o : Option Nat} : endAt pos (o.map (· + k)) = endAt (pos + k) o := by
  cases o with
  | none => rfl
  | some n => simp only [endAt, Option.map_some]; omega
theorem nest_out {s : List UInt8} {d pos : Nat} (h : ¬ pos < s.length) : endAt pos (nestN d (s.drop pos)) = -1 := by
  rw [List.drop_eq_nil_iff.2 (by omega), nestN]; rfl
theorem nest_open {s : List UInt8} {d pos : Nat} (h1 : hdF (s.drop pos) = 123) (h2 : hdF (s.drop (pos + 1)) = 45) : endAt pos (nestN d (s.drop pos)) = endAt (pos + 2) (nestN (d + 1) (s.drop (pos + 2))) := by
  have hp : pos < s.length := by
    by_cases hp : pos < s.length
    · exact hp
    · rw [hdF_none (by omega)] at h1; exact absurd h1 (by decide)
  rw [List.drop_eq_getElem_cons hp] at h1 ⊢
  rw [nestN, if_pos ⟨h1, h2⟩, endAt_map, List.drop_drop]
theorem nest_close {s : List UInt8} {d pos : Nat} (h1 : hdF (s.drop pos) = 45) (h2 : hdF (s.drop (pos + 1)) = 125) : endAt pos (nestN d (s.drop pos)) = if d ≤ 1 then ((pos + 2 : Nat) : Int) else endAt (pos + 2) (nestN (d - 1) (s.drop (pos + 2))) := by
  have hp : pos < s.length := by
    by_cases hp : pos < s.length
    · exact hp
    · rw [hdF_none (by omega)] at h1; exact absurd h1 (by decide)
  rw [List.drop_eq_getElem_cons hp] at h1 ⊢
  have h1 : ((s[pos].toNat : Nat) : Int) = 45 := h1
  rw [nestN, if_neg (fun e => by omega), if_pos ⟨h1, h2⟩]
  by_cases hd : d ≤ 1
  · rw [if_pos hd, if_pos hd]; rfl
  · rw [if_neg hd, if_neg hd, endAt_map, List.drop_drop]
theorem nest_go {s : List UInt8} {d pos : Nat} (hp : pos < s.length) (h1 : ¬ (hdF (s.drop pos) = 123 ∧ hdF (s.drop (pos + 1)) = 45)) (h2 : ¬ (hdF (s.drop pos) = 45 ∧ hdF (s.drop (pos + 1)) = 125)) : endAt pos (nestN d (s.drop pos)) = endAt (pos + 1) (nestN d (s.drop (pos + 1))) := by
  rw [List.drop_eq_getElem_cons hp] at h1 h2 ⊢
  have h1 : ¬ (((s[pos].toNat : Nat) : Int) = 123 ∧ hdF (s.drop (pos + 1)) = 45) := h1
  have h2 : ¬ (((s[pos].toNat : Nat) : Int) = 45 ∧ hdF (s.drop (pos + 1)) = 125) := h2
  rw [nestN, if_neg h1, if_neg h2, endAt_map]
def eolN : List UInt8 → Nat
  | [] => 0
  | a :: r => if 0 < nlF (a :: r) then 0 else eolN r + 1
theorem eolN_le (l : List UInt8) : eolN l ≤ l.length := by
  induction l with
  | nil => exact Nat.le_refl _
  | cons a r ih => unfold eolN; split <;> simp only [List.length_cons] <;> omega
theorem eolN_no {s : List UInt8} {pos : Nat} (h : 0 < nlF (s.drop pos)) : eolN (s.drop pos) = 0 := by
  cases hs : s.drop pos with
  | nil => rfl
  | cons a r => rw [hs] at h; rw [eolN, if_pos h]
theorem eolN_go {s : List UInt8} {pos : Nat} (hp : pos < s.length) (h : ¬ 0 < nlF (s.drop pos)) : eolN (s.drop pos) = eolN (s.drop (pos + 1)) + 1 := by
  rw [List.drop_eq_getElem_cons hp] at h ⊢
  rw [eolN, if_neg h]
theorem eolN_end {s : List UInt8} {pos : Nat} (hp : ¬ pos < s.length) : eolN (s.drop pos) = 0 := by
  rw [List.drop_eq_nil_iff.2 (by omega)]; rfl
theorem linesG_hd (s : List UInt8) (frm pos : Nat) (h : frm ≤ pos) (hpl : pos ≤ s.length) : ∃ r, linesG s frm pos = (s.take (pos + eolN (s.drop pos))).drop frm :: r := by
  fun_induction linesG s frm pos with
  | case1 frm pos hp hn ih => rw [eolN_no hn]; exact ⟨_, rfl⟩
  | case2 frm pos hp hn ih =>
    obtain ⟨r, e⟩ := ih (by omega) (by omega)
    rw [eolN_go hp hn]
    exact ⟨r, by rw [e, show pos + 1 + eolN (s.drop (pos + 1)) = pos + (eolN (s.drop (pos + 1)) + 1) by omega]⟩
  | case3 frm pos hp =>
    rw [eolN_end hp, List.take_of_length_le (by omega)]; exact ⟨[], rfl⟩
def rowLen (l : List UInt8) : Nat :=
  let n := spanR (fun c => classF c == 5) l
  if 2 ≤ n ∧ (l.take n).all (fun b => b == 45) = true then n + eolN (l.drop n) else 0
def noteN (l : List UInt8) : Int :=
  if hdF l = 123 ∧ hdF (l.drop 1) = 45 then endAt 2 (nestN 1 (l.drop 2))
  else if hdF l = 45 then (rowLen l : Nat) else 0
def noteF (s : List UInt8) (pos : Nat) : Int × Int :=
  if noteN (s.drop pos) < 0 then (0, 60) else if noteN (s.drop pos) = 0 then (0, 0) else (pos + noteN (s.drop pos), 0)
theorem nestN_le (d : Nat) (l : List UInt8) (n : Nat) (h : nestN d l = some n) : n ≤ l.length := by
  fun_induction nestN d l generalizing n with
  | case1 => cases h
  | case2 d a r hc ih =>
    obtain ⟨m, hm, rfl⟩ := Option.map_eq_some_iff.1 h
    have := ih m hm
    have hr : r ≠ [] := fun e => by rw [e] at hc; exact absurd hc.2 (by decide)
    have := List.length_pos_iff.2 hr
    simp only [List.length_drop, List.length_cons] at *; omega
  | case3 d a r hc hk hd =>
    have hr : r ≠ [] := fun e => by rw [e] at hk; exact absurd hk.2 (by decide)
    have := List.length_pos_iff.2 hr
    injection h with h
    simp only [List.length_cons] at *; omega
  | case4 d a r hc hk hd ih =>
    obtain ⟨m, hm, rfl⟩ := Option.map_eq_some_iff.1 h
    have := ih m hm
    have hr : r ≠ [] := fun e => by rw [e] at hk; exact absurd hk.2 (by decide)
    have := List.length_pos_iff.2 hr
    simp only [List.length_drop, List.length_cons] at *; omega
  | case5 d a r hc hk ih =>
    obtain ⟨m, hm, rfl⟩ := Option.map_eq_some_iff.1 h
    have := ih m hm
    simp only [List.length_cons] at *; omega
theorem rowLen_le (l : List UInt8) : rowLen l ≤ l.length := by
  have h1 := spanR_le (fun c => classF c == 5) l
  have h2 := eolN_le (l.drop (spanR (fun c => classF c == 5) l))
  rw [List.length_drop] at h2
  unfold rowLen
  dsimp only
  split <;> omega
theorem noteN_le (l : List UInt8) : noteN l ≤ l.length := by
  have h1 := rowLen_le l
  unfold noteN
  split
  · rename_i hc
    cases h : nestN 1 (l.drop 2) with
    | none => simp only [endAt]; omega
    | some n =>
      have := nestN_le _ _ _ h
      have hr : l.drop 1 ≠ [] := fun e => by rw [e] at hc; exact absurd hc.2 (by decide)
      have := List.length_pos_iff.2 hr
      simp only [List.length_drop, endAt] at *; omega
  · split <;> omega
end Go.Aw
set_option linter.unusedVariables false
namespace Go.Aw
open Go
def sgnF (c : Int) : Option Int :=
  if c = 92 ∨ c = 34 ∨ c = 39 then some c
  else if c = 97 then some 7 else if c = 98 then some 8 else if c = 116 then some 9 else if c = 110 then some 10
  else if c = 118 then some 11 else if c = 102 then some 12 else if c = 114 then some 13 else none
def valF (base : Int) : Int → List UInt8 → Int
  | v, [] => v
  | v, a :: r => if digitF ((a.toNat : Nat) : Int) base < 0 then v else valF base (min (v * base + digitF ((a.toNat : Nat) : Int) base) 1114112) r
def numV (base : Int) (l : List UInt8) : Option (Int × Nat) := if rowN base l = 0 ∨ 1114111 < valF base 0 l then none else some (valF base 0 l, rowN base l)
def nameT : List (List UInt8) := [[78, 85, 76], [83, 79, 72], [83, 84, 88], [69, 84, 88], [69, 79, 84], [69, 78, 81], [65, 67, 75], [66, 69, 76], [66, 83], [72, 84], [76, 70], [86, 84], [70, 70], [67, 82], [83, 79], [83, 73], [68, 76, 69], [68, 67, 49], [68, 67, 50], [68, 67, 51], [68, 67, 52], [78, 65, 75], [83, 89, 78], [69, 84, 66], [67, 65, 78], [69, 77], [83, 85, 66], [69, 83, 67], [70, 83], [71, 83], [82, 83], [85, 83], [83, 80], [68, 69, 76]]
def namG (l : List UInt8) : List (List UInt8) → Nat → Nat × Nat → Nat × Nat
  | [], _, p => p
  | w :: ws, i, p => namG l ws (i + 1) (if p.2 < w.length ∧ w.isPrefixOf l = true then (i, w.length) else p)
def namF (l : List UInt8) : Int × Nat := (if (namG l nameT 0 (0, 0)).1 = 33 then 127 else (namG l nameT 0 (0, 0)).1, (namG l nameT 0 (0, 0)).2)
def escF (text : Bool) (l : List UInt8) : Option (Int × Nat) :=
  match sgnF (hdF (l.drop 1)) with
  | some v => some (v, 2)
  | none =>
    if hdF (l.drop 1) = 38 ∧ text = true then some (-1, 2)
    else if hdF (l.drop 1) = 94 ∧ 64 ≤ hdF (l.drop 2) ∧ hdF (l.drop 2) ≤ 95 then some (hdF (l.drop 2) - 64, 3)
    else if hdF (l.drop 1) = 111 then (numV 8 (l.drop 2)).map fun p => (p.1, 2 + p.2)
    else if hdF (l.drop 1) = 120 then (numV 16 (l.drop 2)).map fun p => (p.1, 2 + p.2)
    else if 48 ≤ hdF (l.drop 1) ∧ hdF (l.drop 1) ≤ 57 then (numV 10 (l.drop 1)).map fun p => (p.1, 1 + p.2)
    else if 0 < (namF (l.drop 1)).2 then some ((namF (l.drop 1)).1, 1 + (namF (l.drop 1)).2) else none
def gapN (l : List UInt8) : Nat :=
  if hdF l = 92 ∧ spanR (fun c => classF c == 1) (l.drop 1) ≠ 0 ∧ hdF (l.drop (1 + spanR (fun c => classF c == 1) (l.drop 1))) = 92 then spanR (fun c => classF c == 1) (l.drop 1) + 2 else 0
def badRune (d : Nat × Nat) : Bool := classF (d.1 : Nat) == 0 || (classF (d.1 : Nat) == 1 && !(d.1 == 32)) || (d.1 == 65533 && d.2 == 1)
def oneF (text : Bool) (l : List UInt8) : Sum Int (Int × Nat) :=
  match l with
  | [] => .inl 50
  | a :: r =>
    if hdF (a :: r) = 92 then
      if text = true ∧ 0 < gapN (a :: r) then .inr (-1, gapN (a :: r))
      else match escF text (a :: r) with
        | none => .inl 51
        | some p => .inr p
    else if badRune (decR (a :: r)) then .inl 50 else .inr (((decR (a :: r)).1 : Nat), (decR (a :: r)).2)
theorem namG_le (l : List UInt8) : ∀ (ws : List (List UInt8)) (i : Nat) (p : Nat × Nat), p.2 ≤ l.length → (namG l ws i p).2 ≤ l.length
  | [], _, p, h => h
  | w :: ws, i, p, h => by
    unfold namG
    refine namG_le l ws _ _ ?_
    split
    · rename_i hc
      have := List.isPrefixOf_iff_prefix.1 hc.2
      exact this.length_le
    · exact h
theorem namG_0 (l : List UInt8) (h : ¬ (65 ≤ hdF l ∧ hdF l ≤ 90)) : ∀ (ws : List (List UInt8)) (i : Nat) (p : Nat × Nat), (∀ w ∈ ws, 65 ≤ hdF w ∧ hdF w ≤ 90) → namG l ws i p = p
  | [], _, p, _ => rfl
  | w :: ws, i, p, hw => by
    unfold namG
    rw [if_neg, namG_0 l h ws _ _ (fun x hx => hw x (List.mem_cons_of_mem _ hx))]
    rintro ⟨_, hc⟩
    have h1 := hw w List.mem_cons_self
    obtain ⟨t, rfl⟩ := List.isPrefixOf_iff_prefix.1 hc
    cases w with
    | nil => exact absurd h1.1 (by decide)
    | cons a w => exact h h1
theorem nameT_hd : ∀ w ∈ nameT, 65 ≤ hdF w ∧ hdF w ≤ 90 := by
  have h : nameT.all (fun w => decide (65 ≤ hdF w) && decide (hdF w ≤ 90)) = true := by decide +kernel
  intro w hw
  have := List.all_eq_true.1 h w hw
  simpa using this
theorem namF_0 {l : List UInt8} (h : ¬ (65 ≤ hdF l ∧ hdF l ≤ 90)) : namF l = (0, 0) := by
  have e := namG_0 l h nameT 0 (0, 0) nameT_hd
  have key : ∀ p : Nat × Nat, p = (0, 0) → ((if p.1 = 33 then 127 else (p.1 : Int), p.2) : Int × Nat) = (0, 0) := fun p hp => by subst hp; rfl
  exact key _ e
theorem gapN_le (l : List UInt8) : gapN l ≤ l.length := by
  unfold gapN
  split
  · rename_i h
    have h1 := spanR_le (fun c => classF c == 1) (l.drop 1)
    rw [List.length_drop] at h1
    have h2 : l.drop (1 + spanR (fun c => classF c == 1) (l.drop 1)) ≠ [] := fun e => by rw [e] at h; exact absurd h.2.2 (by decide)
    have := List.length_pos_iff.2 h2
    rw [List.length_drop] at this
    omega
  · exact Nat.zero_le _
theorem sgnF_pos {c v : Int} (h : sgnF c = some v) : 0 ≤ c ∧ 0 ≤ v := by
  unfold sgnF at h
  repeat' split at h
  all_goals first | (injection h with h; omega) | cases h
theorem numV_le {base : Int} {l : List UInt8} {p : Int × Nat} (h : numV base l = some p) : 1 ≤ p.2 ∧ p.2 ≤ l.length := by
  unfold numV at h
  split at h
  · cases h
  · injection h with h
    subst h
    exact ⟨by dsimp only; omega, rowN_le base l⟩
theorem escF_le {text : Bool} {l : List UInt8} {p : Int × Nat} (h : escF text l = some p) : 1 ≤ p.2 ∧ p.2 ≤ l.length := by
  unfold escF at h
  split at h
  · rename_i v hs
    have := hdF_lt_len (l := l) (k := 1) (sgnF_pos hs).1
    injection h with h
    subst h
    exact ⟨by dsimp only; omega, by dsimp only; omega⟩
  · rename_i hs
    have e1 : ∀ k, 0 ≤ hdF (l.drop k) → k < l.length := fun k => hdF_lt_len
    have e2 := e1 1
    have e3 := e1 2
    repeat' split at h
    · injection h with h; subst h; exact ⟨by dsimp only; omega, by dsimp only; omega⟩
    · injection h with h; subst h; exact ⟨by dsimp only; omega, by dsimp only; omega⟩
    · obtain ⟨q, hq, rfl⟩ := Option.map_eq_some_iff.1 h
      have := numV_le hq
      rw [List.length_drop] at this
      exact ⟨by dsimp only; omega, by dsimp only; omega⟩
    · obtain ⟨q, hq, rfl⟩ := Option.map_eq_some_iff.1 h
      have := numV_le hq
      rw [List.length_drop] at this
      exact ⟨by dsimp only; omega, by dsimp only; omega⟩
    · obtain ⟨q, hq, rfl⟩ := Option.map_eq_some_iff.1 h
      have := numV_le hq
      rw [List.length_drop] at this
      exact ⟨by dsimp only; omega, by dsimp only; omega⟩
    · injection h with h; subst h
      have := namG_le (l.drop 1) nameT 0 (0, 0) (Nat.zero_le _)
      rw [List.length_drop] at this
      have h7 : (namF (l.drop 1)).2 = (namG (l.drop 1) nameT 0 (0, 0)).2 := by simp only [namF]
      exact ⟨by dsimp only; omega, by dsimp only; omega⟩
    · cases h
theorem oneF_le {text : Bool} {l : List UInt8} {p : Int × Nat} (h : oneF text l = .inr p) : 1 ≤ p.2 ∧ p.2 ≤ l.length := by
  unfold oneF at h
  split at h
  · cases h
  · rename_i a r
    have h1 := decR_pos (a :: r)
    have h2 := decR_le (l := a :: r) (by simp)
    have h3 := gapN_le (a :: r)
    split at h
    · split at h
      · injection h with h; subst h; exact ⟨by dsimp only; omega, by dsimp only; omega⟩
      · split at h
        · cases h
        · rename_i q hq
          injection h with h; subst h; exact escF_le hq
    · split at h
      · cases h
      · injection h with h; subst h; exact ⟨h1, h2⟩
def textN (l : List UInt8) : Sum (Nat × Int) Nat :=
  if hdF l = 34 then .inr 1
  else match h : oneF true l with
    | .inl e => .inl (0, e)
    | .inr p => match textN (l.drop p.2) with
      | .inl q => .inl (q.1 + p.2, q.2)
      | .inr n => .inr (n + p.2)
termination_by l.length
decreasing_by
  have := oneF_le h
  rw [List.length_drop]; omega
def textO (l : List UInt8) : List Int :=
  if hdF l = 34 then []
  else match h : oneF true l with
    | .inl e => []
    | .inr p => if p.1 = -1 then textO (l.drop p.2) else p.1 :: textO (l.drop p.2)
termination_by l.length
decreasing_by
  all_goals
    have := oneF_le h
    rw [List.length_drop]; omega
def textP (pos : Nat) (l : List UInt8) : List (Nat × Nat) :=
  if hdF l = 34 then []
  else match h : oneF true l with
    | .inl e => []
    | .inr p => if 0 < gapN l then (pos, pos + p.2) :: textP (pos + p.2) (l.drop p.2) else textP (pos + p.2) (l.drop p.2)
termination_by l.length
decreasing_by
  all_goals
    have := oneF_le h
    rw [List.length_drop]; omega
def charN (l : List UInt8) : Sum (Nat × Int) Nat :=
  if hdF l = 39 then .inl (0, 50)
  else match oneF false l with
    | .inl e => .inl (0, e)
    | .inr p => if hdF (l.drop p.2) = 39 then .inr (p.2 + 1) else .inl (p.2, 50)
def quoF (s : List UInt8) (pos : Nat) : Int × Int × Int :=
  if hdF (s.drop pos) = 34 then match textN (s.drop (pos + 1)) with
    | .inl q => (0, (pos + 1 + q.1 : Nat), q.2)
    | .inr n => (14, (pos + 1 + n : Nat), 0)
  else if hdF (s.drop pos) = 39 then match charN (s.drop (pos + 1)) with
    | .inl q => (0, (pos + 1 + q.1 : Nat), q.2)
    | .inr n => (13, (pos + 1 + n : Nat), 0)
  else (0, 0, 0)
end Go.Aw
set_option linter.unusedVariables false
set_option linter.unusedSimpArgs false
namespace Go.Aw
open Go
theorem Cut.add {l : List UInt8} {i j : Nat} (h : Cut l i) (k : Cut (l.drop i) j) : Cut l (i + j) := by
  induction h with
  | zero l => rw [Nat.zero_add]; exact k
  | step hne h ih =>
    rw [Nat.add_assoc]
    refine .step hne (ih ?_)
    rw [List.drop_drop]; exact k
theorem Cut.bd {l : List UInt8} {k : Nat} (h : Cut l k) : Bd l k := by
  induction h with
  | zero l => exact .zero l
  | @step l k hne h ih =>
    rcases nlF_cases l with ⟨e, h1⟩ | ⟨e, h1, h2⟩ | ⟨e, h1, h2⟩
    · have es : stepN l = (decR l).2 := by unfold stepN; rw [if_neg (by omega)]
      rw [es] at ih ⊢; exact .step hne ih
    · have ed := decR_hd (l := l) (by omega) (by omega)
      have es : stepN l = (decR l).2 := by unfold stepN; rw [if_pos (by omega), e, ed.1]
      rw [es] at ih ⊢; exact .step hne ih
    · have ed := decR_hd (l := l) (by omega) (by omega)
      have ed' := decR_hd (l := l.drop 1) (by omega) (by omega)
      have es : stepN l = 2 := by unfold stepN; rw [if_pos (by omega), e]
      have hne' : l.drop 1 ≠ [] := fun e => by rw [e] at h2; exact absurd h2 (by decide)
      rw [es] at ih ⊢
      have b1 : Bd (l.drop 1) (1 + k) := by
        have := Bd.step hne' (k := k) (by rw [ed'.1, List.drop_drop]; exact ih)
        rwa [ed'.1] at this
      have := Bd.step hne (k := 1 + k) (by rw [ed.1]; exact b1)
      rwa [ed.1, show 1 + (1 + k) = 2 + k by omega] at this
theorem Cut.one {l : List UInt8} (h0 : 0 ≤ hdF l) (h1 : hdF l < 128) (h : ¬ (hdF l = 13 ∨ hdF l = 10 ∨ hdF l = 12)) : Cut l 1 := by
  have hne : l ≠ [] := fun e => by rw [e] at h0; exact absurd h0 (by decide)
  have ed := decR_hd h0 h1
  have es : stepN l = 1 := by
    rcases nlF_cases l with ⟨e, _⟩ | ⟨_, h2, _⟩ | ⟨_, h2, _⟩
    · unfold stepN; rw [if_neg (by omega), ed.1]
    · exact absurd h2 h
    · exact absurd (.inl h2) h
  have := Cut.step hne (.zero (l.drop (stepN l)))
  rwa [es] at this
theorem Cut.span {p : Nat × Nat → Bool} (hp : ∀ d, p d = true → d.1 ≠ 10 ∧ d.1 ≠ 12 ∧ d.1 ≠ 13) (l : List UInt8) : Cut l (spanD p l) := by
  fun_induction spanD p l with
  | case1 => exact .zero _
  | case2 a r hc ih =>
    have h1 := hp _ hc
    have es : stepN (a :: r) = (decR (a :: r)).2 := by
      unfold stepN
      rw [if_neg]
      rcases nlF_cases (a :: r) with ⟨e, _⟩ | ⟨_, h2, _⟩ | ⟨_, h2, _⟩
      · omega
      · have := decR_hd (l := a :: r) (by omega) (by omega); omega
      · have := decR_hd (l := a :: r) (by omega) (by omega); omega
    have := Cut.step (l := a :: r) (k := spanD p ((a :: r).drop (decR (a :: r)).2)) (by simp) (by rw [es]; exact ih)
    rwa [es] at this
  | case3 a r hc => exact .zero _
theorem class_nl {c : Int} {k : Int} (h : classF c = k) (hk : k ≠ 1) : c ≠ 10 ∧ c ≠ 12 ∧ c ≠ 13 := by
  refine ⟨?_, ?_, ?_⟩ <;> (rintro rfl; exact hk (h.symm.trans (by decide)))
theorem Cut.kind {k : Int} (hk : k ≠ 1) (l : List UInt8) : Cut l (spanR (fun c => classF c == k) l) := by
  refine Cut.span (fun d hd => ?_) l
  have := class_nl (beq_iff_eq.1 hd) hk
  omega
theorem Cut.name (l : List UInt8) : Cut l (nameN l) := by
  refine Cut.span (fun d hd => ?_) l
  have hd : inName ((d.1 : Nat) : Int) = true := hd
  refine ⟨?_, ?_, ?_⟩ <;> (intro e; rw [e] at hd; revert hd; decide)
theorem digit_lo {a : UInt8} {base : Int} (h : ¬ digitF ((a.toNat : Nat) : Int) base < 0) : 48 ≤ a.toNat ∧ a.toNat < 128 := by
  unfold digitF at h
  dsimp only at h
  by_cases h1 : 48 ≤ ((a.toNat : Nat) : Int) ∧ ((a.toNat : Nat) : Int) ≤ 57
  · omega
  · rw [if_neg h1] at h
    by_cases h2 : 97 ≤ ((a.toNat : Nat) : Int) ∧ ((a.toNat : Nat) : Int) ≤ 102
    · omega
    · rw [if_neg h2] at h
      by_cases h3 : 65 ≤ ((a.toNat : Nat) : Int) ∧ ((a.toNat : Nat) : Int) ≤ 70
      · omega
      · rw [if_neg h3] at h
        exfalso; apply h
        rw [if_pos (by omega)]; omega
theorem Cut.row (base : Int) (l : List UInt8) : Cut l (rowN base l) := by
  induction l with
  | nil => exact .zero _
  | cons a r ih =>
    unfold rowN
    split
    · exact .zero _
    · rename_i h
      have := digit_lo h
      rw [Nat.add_comm]
      exact Cut.add (Cut.one (l := a :: r) (show (0 : Int) ≤ ((a.toNat : Nat) : Int) by omega) (show ((a.toNat : Nat) : Int) < 128 by omega) (show ¬ (((a.toNat : Nat) : Int) = 13 ∨ ((a.toNat : Nat) : Int) = 10 ∨ ((a.toNat : Nat) : Int) = 12) by omega)) ih
theorem Cut.frac (l : List UInt8) : Cut l (fracN l) := by
  unfold fracN
  split
  · exact Cut.add (Cut.one (by omega) (by omega) (by omega)) (Cut.row _ _)
  · exact .zero _
theorem Cut.sign (l : List UInt8) : Cut l (signN l) := by
  unfold signN
  split
  · exact Cut.one (by omega) (by omega) (by omega)
  · exact .zero _
theorem Cut.exp (l : List UInt8) : Cut l (expN l) := by
  unfold expN
  split
  · rw [Nat.add_assoc]
    refine Cut.add (Cut.one (by omega) (by omega) (by omega)) (Cut.add (Cut.sign _) ?_)
    rw [List.drop_drop]
    exact Cut.row _ _
  · exact .zero _
theorem Cut.num (l : List UInt8) : Cut l (numF l).2 := by
  unfold numF
  split
  · rename_i h
    unfold prefF at h
    split at h
    · rename_i hc
      have hb := hc.2.1
      unfold baseF at hb
      have h1 : 65 ≤ hdF (l.drop 1) ∧ hdF (l.drop 1) < 128 := by
        split at hb
        · omega
        · split at hb
          · omega
          · exact absurd rfl hb
      have c2 : Cut l 2 := Cut.add (i := 1) (j := 1) (Cut.one (by omega) (by omega) (by omega)) (Cut.one (by omega) (by omega) (by omega))
      exact Cut.add c2 (Cut.row _ _)
    · exact absurd rfl h
  · split
    · exact .zero _
    · refine Cut.add (Cut.add (Cut.row _ _) (Cut.frac _)) (Cut.exp _)
theorem class_6 {c : Int} (h : classF c = 6) : 32 < c ∧ c < 128 := by
  unfold classF at h
  split at h
  · omega
  · split at h
    · omega
    · split at h
      · omega
      · split at h
        · omega
        · split at h
          · unfold markF at h
            split at h
            · omega
            · split at h
              · omega
              · split at h <;> omega
          · unfold beyondF at h
            repeat' split at h
            all_goals omega
theorem first_6 {l : List UInt8} (h : firstF l = 6) : 32 < hdF l ∧ hdF l < 128 := by
  cases l with
  | nil => exact absurd h (by decide)
  | cons a r =>
    have h : classF ((decR (a :: r)).1 : Nat) = 6 := h
    have h6 := class_6 h
    by_cases ha : a.toNat < 128
    · rw [decR_lo ha] at h6
      exact h6
    · have := decR_hi (r := r) ha
      omega
theorem Cut.plain (l : List UInt8) : Cut l (plainF l).2 := by
  unfold plainF
  split
  · rename_i h
    have := first_6 h
    exact Cut.one (by omega) (by omega) (by omega)
  · split
    · exact Cut.kind (by decide) l
    · split
      · exact Cut.name l
      · split
        · exact Cut.name l
        · exact .zero _
theorem Cut.scan (s : List UInt8) (n : Nat) (k : Int) (h : Cut s n) : Cut s (scanG s n k).2 := by
  fun_induction scanG s n k with
  | case1 n k hn hc ih =>
    have hd : hdF (s.drop n) = 46 := hc.2.1
    have c1 := Cut.one (l := s.drop n) (by omega) (by omega) (by omega)
    exact ih (Cut.add (Cut.add h c1) (Cut.plain _))
  | case2 n k hn hc => exact h
  | case3 n k hn => exact h
theorem Cut.word (l : List UInt8) : Cut l (wordF l).2 := Cut.scan l _ _ (Cut.plain l)
theorem Vd.end {l : List UInt8} (h : Vd l) : Bd l l.length := by
  have := Bd.span goodD l
  rwa [show spanD goodD l = l.length from h] at this
theorem Cut.behind {l : List UInt8} {k : Nat} (hv : Vd l) (h0 : 0 < hdF (l.drop k)) (h : hdF (l.drop k) < 128) (hn : hdF (l.drop k) ≠ 13) : Cut l (k + 1) := by
  have hk := hdF_lt_len (l := l) (k := k) (by omega)
  have he := List.getElem?_eq_getElem hk
  have e := hdF_at he
  refine ((Bd.ascii hv he (by omega)).2).cut (fun hc => hn ?_)
  exact hc.2.1
theorem nestN_last (d : Nat) (l : List UInt8) (n : Nat) (h : nestN d l = some n) : 2 ≤ n ∧ hdF (l.drop (n - 1)) = 125 := by
  fun_induction nestN d l generalizing n with
  | case1 => cases h
  | case2 d a r hc ih =>
    obtain ⟨m, hm, rfl⟩ := Option.map_eq_some_iff.1 h
    have := ih m hm
    refine ⟨by omega, ?_⟩
    rw [show m + 2 - 1 = (m - 1) + 1 + 1 by omega, List.drop_succ_cons]
    have h2 := this.2
    rwa [List.drop_drop, Nat.add_comm] at h2
  | case3 d a r hc hk hd =>
    injection h with h
    subst h
    exact ⟨Nat.le_refl _, hk.2⟩
  | case4 d a r hc hk hd ih =>
    obtain ⟨m, hm, rfl⟩ := Option.map_eq_some_iff.1 h
    have := ih m hm
    refine ⟨by omega, ?_⟩
    rw [show m + 2 - 1 = (m - 1) + 1 + 1 by omega, List.drop_succ_cons]
    have h2 := this.2
    rwa [List.drop_drop, Nat.add_comm] at h2
  | case5 d a r hc hk ih =>
    obtain ⟨m, hm, rfl⟩ := Option.map_eq_some_iff.1 h
    have := ih m hm
    refine ⟨by omega, ?_⟩
    rw [show m + 1 - 1 = (m - 1) + 1 by omega, List.drop_succ_cons]
    exact this.2
theorem Cut.eol {l : List UInt8} (hv : Vd l) : Cut l (eolN l) := by
  have hb : Bd l (eolN l) ∧ ¬ (0 < eolN l ∧ hdF (l.drop (eolN l - 1)) = 13 ∧ hdF (l.drop (eolN l)) = 10) := by
    have key : ∀ l : List UInt8, (eolN l = l.length ∨ ∃ b, l[eolN l]? = some b ∧ b.toNat < 128) ∧ ¬ (0 < eolN l ∧ hdF (l.drop (eolN l - 1)) = 13) := by
      intro l
      induction l with
      | nil => exact ⟨.inl rfl, fun h => absurd h.1 (by decide)⟩
      | cons a r ih =>
        by_cases hn : 0 < nlF (a :: r)
        · rw [eolN, if_pos hn]
          refine ⟨.inr ⟨a, rfl, ?_⟩, fun h => absurd h.1 (by decide)⟩
          rcases nlF_cases (a :: r) with ⟨e, _⟩ | ⟨_, h2, _⟩ | ⟨_, h2, _⟩
          · omega
          · simp only [hdF] at h2; omega
          · simp only [hdF] at h2; omega
        · rw [eolN, if_neg hn]
          refine ⟨?_, ?_⟩
          · rcases ih.1 with h | ⟨b, h1, h2⟩
            · exact .inl (by rw [h]; rfl)
            · exact .inr ⟨b, by rw [List.getElem?_cons_succ]; exact h1, h2⟩
          · rintro ⟨_, h⟩
            by_cases h0 : 0 < eolN r
            · refine ih.2 ⟨h0, ?_⟩
              rwa [show eolN r + 1 - 1 = (eolN r - 1) + 1 by omega, List.drop_succ_cons] at h
            · rw [show eolN r + 1 - 1 = 0 by omega, List.drop_zero] at h
              rcases nlF_cases (a :: r) with ⟨_, e⟩ | ⟨e, _⟩ | ⟨e, _⟩
              · exact e (.inl h)
              · omega
              · omega
    refine ⟨?_, fun h => (key l).2 ⟨h.1, h.2.1⟩⟩
    rcases (key l).1 with h | ⟨b, h1, h2⟩
    · rw [h]; exact hv.end
    · exact (Bd.ascii hv h1 h2).1
  exact hb.1.cut hb.2
theorem Cut.note {l : List UInt8} (hv : Vd l) {n : Nat} (h : noteN l = n) : Cut l n := by
  unfold noteN at h
  split at h
  · rename_i hc
    cases hn : nestN 1 (l.drop 2) with
    | none => rw [hn] at h; simp only [endAt] at h; omega
    | some m =>
      rw [hn] at h
      simp only [endAt] at h
      have := nestN_last _ _ _ hn
      rw [List.drop_drop] at this
      have e : n = (2 + (m - 1)) + 1 := by omega
      rw [e]
      exact Cut.behind hv (by omega) (by omega) (by omega)
  · split at h
    · have e : n = rowLen l := by omega
      rw [e]
      unfold rowLen
      dsimp only
      split
      · exact Cut.add (Cut.kind (by decide) l) (Cut.eol ((Bd.span _ l).vd hv))
      · exact .zero _
    · have e : n = 0 := by omega
      rw [e]; exact .zero _
theorem textN_last (l : List UInt8) (n : Nat) (h : textN l = .inr n) : 1 ≤ n ∧ hdF (l.drop (n - 1)) = 34 := by
  fun_induction textN l generalizing n with
  | case1 l hc => injection h with h; subst h; exact ⟨Nat.le_refl _, hc⟩
  | case2 l hc e he => cases h
  | case3 l hc p hp q hq ih => cases h
  | case4 l hc p hp m hm ih =>
    injection h with h
    subst h
    have := ih m hm
    refine ⟨by omega, ?_⟩
    have h2 := this.2
    rwa [List.drop_drop, show p.2 + (m - 1) = m + p.2 - 1 by omega] at h2
theorem Cut.quote {s : List UInt8} {p : Nat} (hv : Vd (s.drop p)) (h : (quoF s p).1 ≠ 0) : ∃ n, (quoF s p).2.1 = (p + n : Nat) ∧ 2 ≤ n ∧ Cut (s.drop p) n := by
  unfold quoF at h ⊢
  split
  · rename_i hq
    rw [if_pos hq] at h
    cases ht : textN (s.drop (p + 1)) with
    | inl q => rw [ht] at h; exact absurd rfl h
    | inr n =>
      have := textN_last _ _ ht
      refine ⟨n + 1, by dsimp only; omega, by omega, ?_⟩
      have h2 := this.2
      rw [show s.drop (p + 1) = (s.drop p).drop 1 by rw [List.drop_drop], List.drop_drop, show 1 + (n - 1) = n by omega] at h2
      exact Cut.behind hv (by omega) (by omega) (by omega)
  · rename_i hq
    rw [if_neg hq] at h
    split
    · rename_i hq'
      rw [if_pos hq'] at h
      cases ht : charN (s.drop (p + 1)) with
      | inl q => rw [ht] at h; exact absurd rfl h
      | inr n =>
        have : 1 ≤ n ∧ hdF ((s.drop (p + 1)).drop (n - 1)) = 39 := by
          unfold charN at ht
          split at ht
          · cases ht
          · split at ht
            · cases ht
            · split at ht
              · rename_i hx
                injection ht with ht
                subst ht
                exact ⟨by omega, hx⟩
              · cases ht
        refine ⟨n + 1, by dsimp only; omega, by omega, ?_⟩
        have h2 := this.2
        rw [show s.drop (p + 1) = (s.drop p).drop 1 by rw [List.drop_drop], List.drop_drop, show 1 + (n - 1) = n by omega] at h2
        exact Cut.behind hv (by omega) (by omega) (by omega)
    · rename_i hq'
      rw [if_neg hq'] at h
      exact absurd rfl h
end Go.Aw
set_option linter.unusedVariables false
namespace Go.Aw
open Go
section
variable {P : Program}
theorem AW_seq2 {x y : Code} {Q : AExit → Env → St → Prop} {env : Env} {st : St} (h : AW P x (thenQ (fun env st => AW P y Q env st) Q) env st) : AW P (.seq x y) Q env st := fun D I0 st0 w0 I β a w hr => by
    refine wp_seq (wp_mono (h D I0 st0 w0 I β a w hr) ?_)
    rintro e a w ⟨I, β, env, st, ae, h1, h2, h3⟩
    cases ae with
    | normal => cases e <;> first | exact h3 D I0 st0 w0 I β a w h1 | exact h2.elim
    | exit i => cases e <;> first | exact ⟨I, β, env, st, .exit i, h1, h2, h3⟩ | exact h2.elim
    | goto i => cases e <;> first | exact ⟨I, β, env, st, .goto i, h1, h2, h3⟩ | exact h2.elim
    | ret => cases e <;> first | exact ⟨I, β, env, st, .ret, h1, h2, h3⟩ | exact h2.elim
    | pan v => cases e <;> first | exact ⟨I, β, env, st, .pan v, h1, h2, h3⟩ | exact h2.elim
theorem aw_of {T : List (Nat × Ty)} (hP : POk P T) {c : Code} {Q : AExit → Env → St → Prop} {env : Env} {st : St} (h : awp T (PCalls P) c Q env st) : AW P c Q env st :=
  awp_sound hP (pcalls_sound P) (fun _ _ _ _ _ h k => k.mono h) c h
def Ends (R : Res → St → Prop) (r : Res) (st : St) : Prop := ∃ r2 st2, (r2 = r ∨ r2 = r.wk) ∧ St.le st2 st ∧ R r2 st2
theorem PCalls.ends {f : FuncId} {args : List V} {st : St} {R : Res → St → Prop} (h : PCalls P f args st (Ends R)) : PCalls P f args st R := by
  refine ⟨fun I w cargs hs ha => (h.a I w cargs hs ha).mono ?_, h.b⟩
  rintro e w' ⟨I', st', r, k1, k2, k3, r2, st2, k4, k5, k6⟩
  have hr : Rel [] I st w I' (fun _ => none) { tmps := [], boxes := [], nxt := 0, sz := 0, gl := [] } st' { tmps := #[], defers := [] } w' :=
    ⟨k1, k2, ⟨rfl, fun t v e => (by cases e), fun id cs e => (by cases e), fun id b e => (by cases e), fun i j b e => (by cases e), fun id b e => (by cases e), rfl⟩⟩
  have hr' := hr.stLe k5
  refine ⟨I', st2, r2, hr'.fr, hr'.s, ?_, k6⟩
  rcases k4 with rfl | rfl
  · exact k3
  · cases e with
    | returned c =>
      cases r with
      | ret v => exact Rep.wk k3
      | pan v => exact k3.elim
    | panicked chain =>
      cases r with
      | ret v => exact k3.elim
      | pan v =>
        obtain ⟨c, h1, h2⟩ := k3
        exact ⟨c, h1, Rep.wk h2⟩
    | outgrown => cases r <;> exact k3.elim
end
end Go.Aw
set_option linter.unusedVariables false
set_option linter.unusedSimpArgs false
namespace Go.Aw
open Go
def St.dropBox (st : St) (b : Nat) : St := { st with box := fun x => if x = b then none else st.box x }
theorem RepR.of_flat {I : Mem} {sz : Nat} : ∀ {es : List (List V)} {vs : List Value}, (∀ e ∈ es, e.length = sz) → RepL I es.flatten vs → RepR I sz es vs
  | [], vs, _, h => by simpa only [List.flatten_nil, RepL, RepR] using h
  | e :: r, vs, hl, h => by
    rw [List.flatten_cons] at h
    have h1 := RepL.take e.length h
    have h2 := RepL.drop e.length h
    rw [List.take_left' rfl] at h1
    rw [List.drop_left' rfl] at h2
    simp only [RepR]
    exact ⟨_, _, (List.take_append_drop e.length vs).symm, hl e List.mem_cons_self, h1, RepR.of_flat (fun x hx => hl x (List.mem_cons_of_mem _ hx)) h2⟩
section
variable {P : Program} {D : List Deferred} {I0 I : Mem} {st0 st : St} {w0 w : World} {β : Nat → Option Nat} {env : Env} {a : Act}
theorem Rel.freeze (h : Rel D I0 st0 w0 I β env st a w) {b : Nat} {cs : List V} (hb : st.box b = some cs) :
    ∃ vs : List Value, RepL I cs vs ∧ I.le (I.add b 0 vs vs.length) ∧ Rel D I0 st0 w0 (I.add b 0 vs vs.length) β env (st.dropBox b) a w := by
  obtain ⟨vs, ty, hw, hv⟩ := h.s.box b cs hb
  obtain ⟨i1, i2, i3⟩ := h.s.boxI b (by rw [hb]; simp)
  have hl : I.le (I.add b 0 vs vs.length) := Mem.le_add (fun o _ => i1 o) (.inl i3)
  have hd := h.fr.dom b (.inl (by rw [hb]; simp))
  have nb : ∀ x, (st.dropBox b).box x ≠ none → x ≠ b ∧ st.box x ≠ none := fun x e => by
    by_cases hx : x = b
    · subst hx; exact absurd (if_pos rfl) e
    · refine ⟨hx, ?_⟩
      have e' : (if x = b then none else st.box x) ≠ none := e
      rwa [if_neg hx] at e'
  refine ⟨vs, hv, hl, ⟨⟨h.fr.os, h.fr.tape, h.fr.output, h.fr.size, h.fr.old, Mem.le_trans h.fr.le hl, ?_, ?_, fun x e => h.fr.dom x (e.imp (fun e => (nb x e).2) id)⟩, ⟨?_, ?_, ?_, ?_, ?_, gtab_le hl.1 hl.2 h.s.tab⟩, RelF.mem h.f hl ?_⟩⟩
  · intro x o h1 h2
    by_cases e : x = b
    · subst e; exact hd
    · exact h.fr.new x o h1 (by simpa [Mem.add, e] using h2)
  · intro x h1 h2
    by_cases e : x = b
    · subst e; exact hd
    · exact h.fr.newS x h1 (by simpa [Mem.add, e] using h2)
  · intro x o v e
    simp only [Mem.add] at e
    split at e
    · rename_i hx
      obtain ⟨rfl, h1, h2⟩ := hx
      simp only [World.cell?, hw, Option.isSome_none, Bool.false_eq_true, if_false, List.getElem?_toArray]
      exact e
    · exact h.s.cell x o v e
  · intro x n e
    simp only [Mem.add] at e
    split at e
    · rename_i hx; subst hx; injection e with e; subst e; exact ⟨_, ty, hw, by simp⟩
    · exact h.s.shape x n e
  · intro x c e
    have hx := (nb x (by rw [e]; simp)).1
    have e' : st.box x = some c := by
      have : (if x = b then none else st.box x) = some c := e
      rwa [if_neg hx] at this
    obtain ⟨us, ty', h1, h2⟩ := h.s.box x c e'
    exact ⟨us, ty', h1, RepL.mono hl _ _ h2⟩
  · intro x e
    obtain ⟨hx, e'⟩ := nb x e
    obtain ⟨h1, h2, h3⟩ := h.s.boxI x e'
    exact ⟨fun o => by simp [Mem.add, hx, h1 o], h2, by simp [Mem.add, hx, h3]⟩
  · intro x n e
    have hx : x ≠ b := fun hx => by subst hx; rw [show (st.dropBox x).hw x = st.hw x from rfl, i2] at e; cases e
    exact ⟨(h.s.hw x n e).1, fun o ho => by simp only [Mem.add]; rw [if_neg (by simp [hx])]; exact (h.s.hw x n e).2 o ho⟩
  · intro id x e
    obtain ⟨h1, h2, h3, h4, h5, h6⟩ := h.f.sep id x e
    have hx : x ≠ b := fun hx => by subst hx; rw [hb] at h5; cases h5
    exact ⟨fun o => by simp [Mem.add, hx, h3 o], by simp [Mem.add, hx, h4], by show (if x = b then none else st.box x) = none; rw [if_neg hx]; exact h5, h6⟩
theorem rep_frozen {b sz n cap : Nat} {es : List (List V)} {rest : List V} {vs : List Value} (hv : RepL I (es.flatten ++ rest) vs) (hl : I.le (I.add b 0 vs vs.length)) (hz : ∀ e ∈ es, e.length = sz) (hn : es.length = n) {c : Value} (h : Rep I (.mrow sz b n cap) c) :
    Rep (I.add b 0 vs vs.length) (.slice sz es .any) c := by
  simp only [Rep] at h ⊢
  obtain ⟨rfl, h1, h2, h3⟩ := h
  subst hn
  refine ⟨_, cap, rfl, h1, h2, h3, trivial, .inr rfl, ?_⟩
  have hr := RepL.take es.flatten.length hv
  rw [List.take_left' rfl] at hr
  refine RepE.add es _ 0 (RepR.of_flat hz hr) hl fun j c e => ?_
  rw [Nat.zero_add]
  have e' : vs[j]? = some c := by
    rw [List.getElem?_take] at e
    split at e
    · exact e
    · cases e
  have := Mem.add_at (I := I) (b := b) (h := 0) (n := vs.length) e'
  rwa [Nat.zero_add] at this
inductive Frz (o n : V) : V → V → Prop
  | same (v : V) : Frz o n v v
  | here : Frz o n o n
inductive FrzL (o n : V) : List V → List V → Prop
  | nil : FrzL o n [] []
  | cons {v v' : V} {l l' : List V} : Frz o n v v' → FrzL o n l l' → FrzL o n (v :: l) (v' :: l')
theorem Frz.rep {J : Mem} {o n v v' : V} (h : Frz o n v v') (hl : I.le J) (k : ∀ c, Rep I o c → Rep J n c) {c : Value} (r : Rep I v c) : Rep J v' c := by
  cases h with
  | same => exact Rep.mono hl _ _ r
  | here => exact k c r
theorem FrzL.rep {J : Mem} {o n : V} : ∀ {l l' : List V} {vs : List Value}, FrzL o n l l' → I.le J → (∀ c, Rep I o c → Rep J n c) → RepL I l vs → RepL J l' vs
  | _, _, vs, .nil, hl, k, r => by simpa only [RepL] using r
  | _, _, vs, .cons h1 h2, hl, k, r => by
    simp only [RepL] at r ⊢
    obtain ⟨c, s, rfl, r1, r2⟩ := r
    exact ⟨c, s, rfl, h1.rep hl k r1, h2.rep hl k r2⟩
inductive FrzR (o n : V) : Res → Res → Prop
  | val {v v' : V} : Frz o n v v' → FrzR o n (.ret v) (.ret v')
  | agg {l l' : List V} : FrzL o n l l' → FrzR o n (.ret (.agg l)) (.ret (.agg l'))
  | tup {l l' : List V} : FrzL o n l l' → FrzR o n (.ret (.tup l)) (.ret (.tup l'))
theorem FrzR.rep {J : Mem} {o n : V} {r r' : Res} (h : FrzR o n r r') (hl : I.le J) (k : ∀ c, Rep I o c → Rep J n c) {e : Ending} (m : resM I e r) : resM J e r' := by
  cases e with
  | returned c =>
    cases h with
    | val h => exact Frz.rep h hl k m
    | agg h => have m2 : Rep I _ c := m; simp only [Rep] at m2; obtain ⟨vs, e, m3⟩ := m2; show Rep J _ _; simp only [Rep]; exact ⟨vs, e, h.rep hl k m3⟩
    | tup h => have m2 : Rep I _ c := m; simp only [Rep] at m2; obtain ⟨vs, e, m3⟩ := m2; show Rep J _ _; simp only [Rep]; exact ⟨vs, e, h.rep hl k m3⟩
  | panicked chain => cases h <;> exact m.elim
  | outgrown => cases h <;> exact m.elim
theorem PCalls.freeze {f : FuncId} {args : List V} {R R' : Res → St → Prop} (h : PCalls P f args st R')
    (k : ∀ r s, R' r s → R r s ∨ ∃ b sz n cap es rest r', s.box b = some (es.flatten ++ rest) ∧ (∀ e ∈ es, e.length = sz) ∧ es.length = n ∧ FrzR (.mrow sz b n cap) (.slice sz es .any) r r' ∧ R r' (s.dropBox b)) : PCalls P f args st R := by
  refine ⟨fun I w cargs hs ha => (h.a I w cargs hs ha).mono ?_, h.b⟩
  rintro e w' ⟨I', st', r, k1, k2, k3, k4⟩
  rcases k r st' k4 with k4 | ⟨b, sz, n, cap, es, rest, r', g1, g2, g3, g4, g5⟩
  · exact ⟨I', st', r, k1, k2, k3, k4⟩
  have hr : Rel [] I st w I' (fun _ => none) { tmps := [], boxes := [], nxt := 0, sz := 0, gl := [] } st' { tmps := #[], defers := [] } w' :=
    ⟨k1, k2, ⟨rfl, fun t v e => (by cases e), fun id cs e => (by cases e), fun id b e => (by cases e), fun i j b e => (by cases e), fun id b e => (by cases e), rfl⟩⟩
  obtain ⟨vs, hv, hl, hr'⟩ := hr.freeze g1
  exact ⟨_, _, r', hr'.fr, hr'.s, g4.rep hl (fun c hc => rep_frozen hv hl g2 g3 hc) k3, g5⟩
theorem AW_weak {c : Code} {Q : AExit → Env → St → Prop} {env env' : Env} {st st' : St} (h : AW P c Q env' st') (he : env'.leC env) (hs : St.le st' st) : AW P c Q env st :=
  fun D I0 st0 w0 I β a w hr => h D I0 st0 w0 I _ a w ((hr.envLe (Env.le_of he)).stLe hs)
theorem AW_st {c : Code} {Q : AExit → Env → St → Prop} {env : Env} {st st' : St} (e : st' = st) (h : AW P c Q env st') : AW P c Q env st := e ▸ h
theorem AW_join {x y : Code} {Q : AExit → Env → St → Prop} {env : Env} {st : St} {α : Type} (E : α → Env) (S : α → St) (J : α → Prop) (hy : ∀ p, J p → AW P y Q (E p) (S p))
    (hx : AW P x (thenQ (fun env' st' => ∃ p, J p ∧ (E p).leC env' ∧ St.le (S p) st') Q) env st) : AW P (.seq x y) Q env st :=
  AW_seq2 (AW_mono hx fun e env st h => by
    cases e with
    | normal => obtain ⟨p, h1, h2, h3⟩ := h; exact AW_weak (hy p h1) h2 h3
    | exit i => exact h
    | goto i => exact h
    | ret => exact h
    | pan v => exact h)
theorem AW_freeze {c : Code} {Q : AExit → Env → St → Prop} {env : Env} {st : St} (t : Nat) {b sz n cap : Nat} {es : List (List V)} (rest : List V) (ht : env.get t = .mrow sz b n cap) (hts : t < env.sz) (hb : st.box b = some (es.flatten ++ rest)) (hz : ∀ e ∈ es, e.length = sz) (hn : es.length = n)
    (h : AW P c Q { env with tmps := (t, .slice sz es .any) :: env.tmps } (st.dropBox b)) : AW P c Q env st := fun D I0 st0 w0 I β a w hr => by
  obtain ⟨vs, hv, hl, hr'⟩ := hr.freeze hb
  have h1 := hr.f.get t
  rw [ht] at h1
  have h2 := rep_frozen hv hl hz hn (show Rep I (.mrow sz b n cap) _ from h1)
  refine h D I0 st0 w0 _ β a w ⟨hr'.fr, hr'.s, { hr'.f with tmps := ?_ }⟩
  intro t' v e
  rw [assoc_cons] at e
  cases hbq : Nat.beq t t' with
  | true =>
    rw [hbq] at e
    have := Nat.eq_of_beq_eq_true hbq
    subst this
    simp only [cond_true, Option.some.injEq] at e
    subst e
    exact h2
  | false =>
    rw [hbq] at e
    exact hr'.f.tmps t' v e
theorem pcalls_of_aw {T : List (Nat × Ty)} (hP : POk P T) {f : FuncId} {fn : Func} (gl : List Nat) {args : List V} {R : Res → St → Prop} (hf : P.funcs[f]? = some fn) {c : Code} (hb : fn.body = some c) (hn : (fn.name == "runtime.NumGoroutine") = false) (hle : Nat.ble args.length fn.ntmps = true)
    (h : AW P c (resPost T fn (Ends R)) { tmps := args0 0 args, boxes := [], nxt := 0, sz := fn.ntmps, gl } st) : PCalls P f args st R := by
  refine ⟨?_, fn, hf, by rw [hb]; rfl, hn⟩
  intro I w cargs hs hargs
  refine calls_of_wp hf hb ?_
  refine wp_mono (h [] I st w I _ _ w (start_rel gl hs hargs hle)) ?_
  rintro e a w' ⟨I1, β1, env1, st1, ae, h1, h2, h3⟩
  have hret : (forceRet T env1 st1 fn.results.toList fun vs => match vs with
      | [v] => Ends R (.ret v) st1
      | vs => Ends R (.ret (.tup vs)) st1) →
      a.defers = [] ∧ ∃ v, (results fn a.tmps).run P w' = .ok v w' ∧ ∃ I' st' r, Fr I st w I' st' w' ∧ RelS I' st' w' ∧ resM I' (.returned v) r ∧ R r st' := by
    intro h3
    obtain ⟨v, c, g1, g2, r2, st2, g3, g4, g5⟩ := results_sound (P := P) (R := Ends R) hP.t h1 h3
    have h1' := h1.stLe g4
    refine ⟨h1.f.defers, c, g1, I1, st2, r2, h1'.fr, h1'.s, ?_, g5⟩
    rcases g3 with rfl | rfl
    · exact g2
    · exact g2.wk
  cases ae with
  | normal => cases e <;> first | exact hret h3 | exact h2.elim
  | exit i => exact h3.elim
  | goto i => exact h3.elim
  | ret => cases e <;> first | exact hret h3 | exact h2.elim
  | pan v =>
    cases e <;> try exact h2.elim
    obtain ⟨r2, st2, g3, g4, g5⟩ := h3
    obtain ⟨c', rfl, h2⟩ := h2
    have h1' := h1.stLe g4
    refine ⟨h1.f.defers, I1, st2, r2, h1'.fr, h1'.s, ?_, g5⟩
    rcases g3 with rfl | rfl
    · exact ⟨c', rfl, h2⟩
    · exact ⟨c', rfl, h2.wk⟩
end
end Go.Aw
set_option linter.unusedVariables false
namespace Go.Aw
open Go
theorem strs_length (l : List (List UInt8)) : (strs l).length = l.length := by simp [strs]
theorem at_strs {l : List (List UInt8)} {i : Int} {x : List UInt8} {K : List V → Prop} (h : l[i.toNat]? = some x) (h0 : 0 ≤ i) (k : K [V.str x]) : 0 ≤ i ∧ ∃ e, (strs l)[i.toNat]? = some e ∧ K e :=
  ⟨h0, [V.str x], by simp [strs, h], k⟩
theorem len_strs {l : List (List UInt8)} {K : Nat → Prop} (k : l.length < 4611686018427387904 → K l.length) : ∀ m, m = (strs l).length → m < lim → K m := fun m hm h => by
  rw [strs_length] at hm; subst hm; exact k h
end Go.Aw
set_option linter.unusedVariables false
namespace Go.Aw
open Go
theorem all_dropWhile {p : UInt8 → Bool} : ∀ (l : List UInt8), (l.dropWhile p).all p = true → l.all p = true
  | [], _ => rfl
  | a :: r, h => by
    rw [List.dropWhile_cons] at h
    by_cases hp : p a = true
    · rw [if_pos hp] at h; rw [List.all_cons, hp, Bool.true_and]; exact all_dropWhile r h
    · rw [if_neg hp] at h; exact h
theorem dropWhile_nil {p : UInt8 → Bool} : ∀ (l : List UInt8), l.dropWhile p = [] ↔ l.all p = true
  | [] => by simp
  | a :: r => by
    rw [List.dropWhile_cons, List.all_cons]
    by_cases hp : p a = true
    · rw [if_pos hp, hp, Bool.true_and]; exact dropWhile_nil r
    · rw [if_neg hp]; simp only [Bool.not_eq_true] at hp; rw [hp]; simp
theorem trimB_nil (l : List UInt8) : Lib.trimB l 45 = [] ↔ l.all (fun b => b == 45) = true := by
  unfold Lib.trimB Lib.trimLeftB Lib.trimRightB
  rw [dropWhile_nil, List.all_reverse]
  refine ⟨fun h => ?_, fun h => ?_⟩
  · have := all_dropWhile _ h
    rwa [List.all_reverse] at this
  · have : l.reverse.dropWhile (fun b => b == 45) = [] := (dropWhile_nil _).2 (by rw [List.all_reverse]; exact h)
    rw [this]; rfl
theorem pre2 (a b : UInt8) (l : List UInt8) : [a, b].isPrefixOf l = decide (hdF l = (a.toNat : Nat) ∧ hdF (l.drop 1) = (b.toNat : Nat)) := by
  rcases l with _ | ⟨x, _ | ⟨y, r⟩⟩
  · refine (decide_eq_false fun e => ?_).symm
    have h : (-1 : Int) = (a.toNat : Nat) := e.1; omega
  · show (a == x && false) = _
    rw [Bool.and_false]
    refine (decide_eq_false fun e => ?_).symm
    have h : (-1 : Int) = (b.toNat : Nat) := e.2; omega
  · show (a == x && (b == y && true)) = decide (((x.toNat : Nat) : Int) = (a.toNat : Nat) ∧ ((y.toNat : Nat) : Int) = (b.toNat : Nat))
    rw [Bool.and_true, Bool.eq_iff_iff, Bool.and_eq_true, beq_iff_eq, beq_iff_eq, decide_eq_true_iff]
    exact ⟨fun e => by rw [e.1, e.2]; exact ⟨rfl, rfl⟩, fun e => ⟨UInt8.toNat_inj.1 (by omega), UInt8.toNat_inj.1 (by omega)⟩⟩
theorem scope_none {w : (AExit → Env → St → Prop) → Env → St → Prop} {lw : Nat → Option ((AExit → Env → St → Prop) → Env → St → Prop)} {Q : AExit → Env → St → Prop} {env : Env} {st : St}
    (h : w (gotoQ (fun l env' st' => ∃ y : Empty, (fun e : Empty => (e.elim : Nat)) y = l ∧ (fun _ : Empty => True) y ∧ ((fun e : Empty => (e.elim : Env)) y).leC env' ∧ St.le ((fun e : Empty => (e.elim : St)) y) st') Q) env st) : scopeWp w lw Q env st :=
  ⟨Empty, fun e => e.elim, fun e => e.elim, fun e => e.elim, fun _ => True, fun e => e.elim, h, fun x => x.elim⟩
theorem fin_le {R : Res → St → Prop} {r r' : Res} {st st' : St} (hle : St.le st st') (h : R r st) (e : r = r') : ∃ r2 st2, (r2 = r' ∨ r2 = r'.wk) ∧ St.le st2 st' ∧ R r2 st2 := ⟨r, st, .inl e, hle, h⟩
end Go.Aw
namespace Go.Proofs.YtkcapphlemoccaaGreatDoor
open Go Go.Aw
section
variable {st : St} {R : Res → St → Prop}
theorem open_e {s : List UInt8} {i : Int} {n : Nat} (e : i.toNat = n) (h : R (.ret (.bool (decide (hdF (s.drop n) = 123 ∧ hdF (s.drop (n + 1)) = 45)))) st) : PC 36 [.str (s.drop i.toNat), .str [123, 45]] st R := by
  refine prefix_c ?_
  rw [pre2, e, List.drop_drop]
  exact h
theorem close_e {s : List UInt8} {i : Int} {n : Nat} (e : i.toNat = n) (h : R (.ret (.bool (decide (hdF (s.drop n) = 45 ∧ hdF (s.drop (n + 1)) = 125)))) st) : PC 36 [.str (s.drop i.toNat), .str [45, 125]] st R := by
  refine prefix_c ?_
  rw [pre2, e, List.drop_drop]
  exact h
theorem nested_c {s : List UInt8} (hl : s.length ≤ 100000000) (hs : hdF s = 123 ∧ hdF (s.drop 1) = 45) (h : R (.ret (.int .i64 (endAt 2 (nestN 1 (s.drop 2))))) st) : PC 37 [.str s] st R := by
  have hs0 : hdF (s.drop 0) = 123 := hs.1
  refine pcalls_of_body tys_ok [] Tryz.func37 rfl (by decide) ?_
  repeat' ((conv => whnf); first
    | (with_reducible first | exact Wa | exact Wb | exact Wc | refine Wd (by kernel_rfl) ?_ | refine We ?_ ?_ ?_ | refine W8 (by decide +kernel) ?_ ?_ ?_ | refine W9 ?_ ?_ ?_ | refine Wt (by first | assumption | omega) ?_ | refine Wu (by first | assumption | omega) ?_ | refine Wv (by omega) ?_ | refine Ww (by omega) ?_ | refine Wf (by decide) (fun _ => ?_) (fun _ => ?_) | refine Wg (fun _ => ?_) (fun _ => ?_) | refine Wh (fun _ => ?_) (fun _ => ?_) | refine Wi ?_ | refine Wj ?_ | refine Wk (fun _ => ?_) (fun _ => ?_) | refine Wl (fun _ => ?_) | refine Wm (by assumption) (by omega) ?_ | refine Wn (by omega) (by omega) (fun _ _ _ => ?_) | refine Wo (by omega) (by omega) ?_ | refine Wp (by omega) (by omega) (by omega) ?_ | refine Wq (by omega) (by omega) ?_ | refine Wr (by decide) (by omega) (by omega) ?_ | refine Ws (by decide) ?_ | refine Wx (fun _ => ?_) ?_ | refine Wy (fun _ => ?_) ?_ | refine Wz (fun _ => ?_) | refine WA (fun _ => ?_) | refine WB (by assumption) (by omega) ?_ | refine WC (by omega) (by omega) (fun _ _ => ?_) | refine WD (by omega) (by omega) (fun _ _ => ?_) | refine WE (by omega) (by omega) (by omega) ?_ | refine WJ (fun _ => ?_) | refine WK (fun _ _ _ => ?_) | refine WL (by assumption) (by omega) ?_ | refine WM (by omega) (by omega) (fun _ _ => ?_) | refine WN (by omega) (by omega) ?_ | refine WO (by omega) (by omega) ?_ | refine WP (by omega) (by omega) (by omega) ?_)
    | refine scope_none ?_
    | with_reducible refine WF ?_)
  refine loop_2 (α := Nat) (β := Nat) (fun pos d => [(3, .int .i64 (d : Int)), (4, .int .i64 (pos : Int))]) (fun _ _ => []) [0] [] (fun _ _ => st)
    (fun pos d => pos ≤ s.length ∧ d ≤ pos ∧ ((pos = 0 ∧ d = 0) ∨ (1 ≤ d ∧ 2 ≤ pos ∧ endAt 2 (nestN 1 (s.drop 2)) = endAt pos (nestN d (s.drop pos))))) (fun pos _ => s.length - pos) 0 0 ⟨Nat.zero_le _, Nat.le_refl _, .inl ⟨rfl, rfl⟩⟩ (by refine ⟨rfl, ?_, ?_, rfl⟩ <;> repeat' (first | exact trivial | exact rfl | refine And.intro ?_ ?_)) (St.le_refl _) ?_
  rintro pos d ⟨h1, h2, h3⟩
  have q1 := fun h => hdF_lt_len (l := s) (k := pos + 1) h
  rcases h3 with ⟨rfl, rfl⟩ | ⟨h3, h4, h5⟩
  · have hs1 : hdF (s.drop (0 + 1)) = 45 := hs.2
    repeat' ((conv => whnf); first
      | (with_reducible first | exact Wa | exact Wb | exact Wc | refine Wd (by kernel_rfl) ?_ | refine We ?_ ?_ ?_ | refine W8 (by decide +kernel) ?_ ?_ ?_ | refine W9 ?_ ?_ ?_ | refine Wt (by first | assumption | omega) ?_ | refine Wu (by first | assumption | omega) ?_ | refine Wv (by omega) ?_ | refine Ww (by omega) ?_ | refine Wf (by decide) (fun _ => ?_) (fun _ => ?_) | refine Wg (fun _ => ?_) (fun _ => ?_) | refine Wh (fun _ => ?_) (fun _ => ?_) | refine Wi ?_ | refine Wj ?_ | refine Wk (fun _ => ?_) (fun _ => ?_) | refine Wl (fun _ => ?_) | refine Wm (by assumption) (by omega) ?_ | refine Wn (by omega) (by omega) (fun _ _ _ => ?_) | refine Wo (by omega) (by omega) ?_ | refine Wp (by omega) (by omega) (by omega) ?_ | refine Wq (by omega) (by omega) ?_ | refine Wr (by decide) (by omega) (by omega) ?_ | refine Ws (by decide) ?_ | refine Wx (fun _ => ?_) ?_ | refine Wy (fun _ => ?_) ?_ | refine Wz (fun _ => ?_) | refine WA (fun _ => ?_) | refine WB (by assumption) (by omega) ?_ | refine WC (by omega) (by omega) (fun _ _ => ?_) | refine WD (by omega) (by omega) (fun _ _ => ?_) | refine WE (by omega) (by omega) (by omega) ?_ | refine WJ (fun _ => ?_) | refine WK (fun _ _ _ => ?_) | refine WL (by assumption) (by omega) ?_ | refine WM (by omega) (by omega) (fun _ _ => ?_) | refine WN (by omega) (by omega) ?_ | refine WO (by omega) (by omega) ?_ | refine WP (by omega) (by omega) (by omega) ?_)
      | refine open_e (n := 0) (by omega) ?_
      | with_reducible refine WF ?_)
    · conv => whnf
      exact ⟨(2, 1), ⟨by dsimp only; omega, by dsimp only; omega, .inr ⟨Nat.le_refl _, Nat.le_refl _, rfl⟩⟩, by dsimp only; omega, (by refine ⟨rfl, ?_, ?_, rfl⟩ <;> repeat' (first | exact trivial | exact rfl | refine And.intro ?_ ?_)), St.le_refl _⟩
  repeat' ((conv => whnf); first
    | (with_reducible first | exact Wa | exact Wb | exact Wc | refine Wd (by kernel_rfl) ?_ | refine We ?_ ?_ ?_ | refine W8 (by decide +kernel) ?_ ?_ ?_ | refine W9 ?_ ?_ ?_ | refine Wt (by first | assumption | omega) ?_ | refine Wu (by first | assumption | omega) ?_ | refine Wv (by omega) ?_ | refine Ww (by omega) ?_ | refine Wf (by decide) (fun _ => ?_) (fun _ => ?_) | refine Wg (fun _ => ?_) (fun _ => ?_) | refine Wh (fun _ => ?_) (fun _ => ?_) | refine Wi ?_ | refine Wj ?_ | refine Wk (fun _ => ?_) (fun _ => ?_) | refine Wl (fun _ => ?_) | refine Wm (by assumption) (by omega) ?_ | refine Wn (by omega) (by omega) (fun _ _ _ => ?_) | refine Wo (by omega) (by omega) ?_ | refine Wp (by omega) (by omega) (by omega) ?_ | refine Wq (by omega) (by omega) ?_ | refine Wr (by decide) (by omega) (by omega) ?_ | refine Ws (by decide) ?_ | refine Wx (fun _ => ?_) ?_ | refine Wy (fun _ => ?_) ?_ | refine Wz (fun _ => ?_) | refine WA (fun _ => ?_) | refine WB (by assumption) (by omega) ?_ | refine WC (by omega) (by omega) (fun _ _ => ?_) | refine WD (by omega) (by omega) (fun _ _ => ?_) | refine WE (by omega) (by omega) (by omega) ?_ | refine WJ (fun _ => ?_) | refine WK (fun _ _ _ => ?_) | refine WL (by assumption) (by omega) ?_ | refine WM (by omega) (by omega) (fun _ _ => ?_) | refine WN (by omega) (by omega) ?_ | refine WO (by omega) (by omega) ?_ | refine WP (by omega) (by omega) (by omega) ?_)
    | refine open_e (n := pos) (by omega) ?_
    | refine close_e (n := pos) (by omega) ?_
    | with_reducible refine WF ?_)
  · have k : hdF (s.drop pos) = 123 ∧ hdF (s.drop (pos + 1)) = 45 := by assumption
    conv => whnf
    exact ⟨(pos + 2, d + 1), ⟨by dsimp only; omega, by dsimp only; omega, .inr ⟨by dsimp only; omega, by dsimp only; omega, h5.trans (nest_open k.1 k.2)⟩⟩, by dsimp only; omega, (by refine ⟨rfl, ?_, ?_, rfl⟩ <;> repeat' (first | exact trivial | exact rfl | refine And.intro ?_ ?_)), St.le_refl _⟩
  · have k : hdF (s.drop pos) = 45 ∧ hdF (s.drop (pos + 1)) = 125 := by assumption
    have e := nest_close (d := d) k.1 k.2
    rw [if_pos (by omega)] at e
    exact fin h (int_ret (by rw [h5, e]; rfl))
  · have k : hdF (s.drop pos) = 45 ∧ hdF (s.drop (pos + 1)) = 125 := by assumption
    have e := nest_close (d := d) k.1 k.2
    rw [if_neg (by omega)] at e
    obtain ⟨d', rfl⟩ : ∃ d', d = d' + 1 := ⟨d - 1, by omega⟩
    rw [Nat.add_sub_cancel] at e
    have e2 : ((d' + 1 : Nat) : Int) - 1 = (d' : Int) := by omega
    refine ⟨(pos + 2, d'), ⟨by dsimp only; omega, by dsimp only; omega, .inr ⟨by dsimp only; omega, by dsimp only; omega, h5.trans e⟩⟩, by dsimp only; omega, ?_, St.le_refl _⟩
    rw [← e2]
    exact (by refine ⟨rfl, ?_, ?_, rfl⟩ <;> repeat' (first | exact trivial | exact rfl | refine And.intro ?_ ?_))
  · conv => whnf
    exact ⟨(pos + 1, d), ⟨by dsimp only; omega, by dsimp only; omega, .inr ⟨by dsimp only; omega, by dsimp only; omega, h5.trans (nest_go (by omega) (by omega) (by omega))⟩⟩, by dsimp only; omega, (by refine ⟨rfl, ?_, ?_, rfl⟩ <;> repeat' (first | exact trivial | exact rfl | refine And.intro ?_ ?_)), St.le_refl _⟩
  · exact fin h (int_ret (by rw [h5, nest_out (by omega)]))
theorem nrow_c {s : List UInt8} (hl : s.length ≤ 100000000) (h : R (.ret (.int .i64 (rowLen s : Nat))) st) : PC 38 [.str s] st R := by
  have hr := spanR_le (fun c => classF c == 5) s
  generalize hn : spanR (fun c => classF c == 5) s = n at hr
  have hrun : ∀ {R : Res → St → Prop}, R (.ret (.int .i64 (n : Nat))) st → PC 35 [.str s, .int .i64 0, .int .i64 5] st R := fun h => run_k (by omega) (by rw [hn]; exact h)
  obtain ⟨rest, hg⟩ := linesG_hd (s.drop n) 0 0 (Nat.le_refl _) (Nat.zero_le _)
  rw [List.drop_zero, List.drop_zero, Nat.zero_add] at hg
  have hlines : ∀ {R : Res → St → Prop}, (∀ own : Own, own.good st → R (.ret (.slice 1 (strs (((s.drop n).take (eolN (s.drop n))) :: rest)) own)) (own.st st (((s.drop n).take (eolN (s.drop n))) :: rest).length)) → PC 59 [.str (s.drop (n : Int).toNat)] st R :=
    fun h => lines_c (by rw [List.length_drop]; omega) (by rw [show (n : Int).toNat = n by omega, hg]; exact h)
  refine pcalls_of_body tys_ok [] Tryz.func38 rfl (by decide) ?_
  have hel := eolN_le (s.drop n)
  have hlt : ((s.drop n).take (eolN (s.drop n))).length = eolN (s.drop n) := by rw [List.length_take]; omega
  rw [List.length_drop] at hel
  have hrl : rowLen s = if 2 ≤ n ∧ (s.take n).all (fun b => b == 45) = true then n + eolN (s.drop n) else 0 := by unfold rowLen; rw [hn]
  repeat' ((conv => whnf); first
    | (with_reducible first | exact Wa | exact Wb | exact Wc | refine Wd (by kernel_rfl) ?_ | refine We ?_ ?_ ?_ | refine W8 (by decide +kernel) ?_ ?_ ?_ | refine W9 ?_ ?_ ?_ | refine Wt (by first | assumption | omega) ?_ | refine Wu (by first | assumption | omega) ?_ | refine Wv (by omega) ?_ | refine Ww (by omega) ?_ | refine Wf (by decide) (fun _ => ?_) (fun _ => ?_) | refine Wg (fun _ => ?_) (fun _ => ?_) | refine Wh (fun _ => ?_) (fun _ => ?_) | refine Wi ?_ | refine Wj ?_ | refine Wk (fun _ => ?_) (fun _ => ?_) | refine Wl (fun _ => ?_) | refine Wm (by assumption) (by omega) ?_ | refine Wn (by omega) (by omega) (fun _ _ _ => ?_) | refine Wo (by omega) (by omega) ?_ | refine Wp (by omega) (by omega) (by omega) ?_ | refine Wq (by omega) (by omega) ?_ | refine Wr (by decide) (by omega) (by omega) ?_ | refine Ws (by decide) ?_ | refine Wx (fun _ => ?_) ?_ | refine Wy (fun _ => ?_) ?_ | refine Wz (fun _ => ?_) | refine WA (fun _ => ?_) | refine WB (by assumption) (by omega) ?_ | refine WC (by omega) (by omega) (fun _ _ => ?_) | refine WD (by omega) (by omega) (fun _ _ => ?_) | refine WE (by omega) (by omega) (by omega) ?_ | refine WJ (fun _ => ?_) | refine WK (fun _ _ _ => ?_) | refine WL (by assumption) (by omega) ?_ | refine WM (by omega) (by omega) (fun _ _ => ?_) | refine WN (by omega) (by omega) ?_ | refine WO (by omega) (by omega) ?_ | refine WP (by omega) (by omega) (by omega) ?_)
    | refine hrun ?_
    | refine trim_c (by decide) ?_
    | refine hlines (fun own ho => ?_)
    | refine at_strs (l := ((s.drop n).take (eolN (s.drop n))) :: rest) rfl (by omega) ?_
    | with_reducible refine WF ?_)
  · rw [if_neg (by omega)] at hrl
    exact fin h (int_ret (by rw [hrl]; rfl))
  · have ht := (trimB_nil (s.take n)).1 (by assumption)
    rw [if_pos ⟨by omega, ht⟩] at hrl
    exact fin_le (Own.good_le (by assumption)) h (int_ret (by rw [hrl]; omega))
  · have ht : ¬ (s.take n).all (fun b => b == 45) = true := fun e => absurd ((trimB_nil (s.take n)).2 e) (by assumption)
    rw [if_neg (fun e => ht e.2)] at hrl
    exact fin h (int_ret (by rw [hrl]; rfl))
theorem noteF_neg {s : List UInt8} {pos : Nat} (h : noteN (s.drop pos) < 0) : noteF s pos = (0, 60) := if_pos h
theorem noteF_0 {s : List UInt8} {pos : Nat} (h : noteN (s.drop pos) = 0) : noteF s pos = (0, 0) := by unfold noteF; rw [if_neg (by omega), if_pos h]
theorem noteF_pos {s : List UInt8} {pos : Nat} {n i : Int} (h : noteN (s.drop pos) = n) (h0 : 0 < n) (e : i = pos + n) : noteF s pos = (i, 0) := by unfold noteF; rw [if_neg (by omega), if_neg (by omega), h, e]
theorem note_ret {s : List UInt8} {pos : Nat} {n i : Int} (h : noteN (s.drop pos) = n) (h0 : 0 < n) (e : i = pos + n) : Res.ret (.tup [.int .i64 (noteF s pos).1, .int .i64 (noteF s pos).2]) = Res.ret (.tup [.int .i64 i, .int .i64 0]) := by rw [noteF_pos h h0 e]
theorem noteX_c {s : List UInt8} {pos : Nat} (hl : s.length ≤ 100000000) (hp : pos < s.length) (h : R (.ret (.tup [.int .i64 (noteF s pos).1, .int .i64 (noteF s pos).2])) st) : PC 20 [.str s, .int .i64 pos] st R := by
  have hle := noteN_le (s.drop pos)
  rw [List.length_drop] at hle
  have hdl : (s.drop pos).length ≤ 100000000 := by rw [List.length_drop]; omega
  have d1 : (s.drop pos).drop 1 = s.drop (pos + 1) := List.drop_drop
  obtain ⟨e, he⟩ : ∃ e, s[pos]? = some e := ⟨s[pos], List.getElem?_eq_getElem hp⟩
  have he' : s[(pos : Int).toNat]? = some e := he
  have hh := hdF_at he
  refine pcalls_of_body tys_ok [] Tryz.func20 rfl (by decide) ?_
  by_cases hk : hdF (s.drop pos) = 123 ∧ hdF (s.drop (pos + 1)) = 45
  · have hN : noteN (s.drop pos) = endAt 2 (nestN 1 ((s.drop pos).drop 2)) := if_pos ⟨hk.1, by rw [d1]; exact hk.2⟩
    have hc : ∀ {R : Res → St → Prop}, R (.ret (.int .i64 (noteN (s.drop pos)))) st → PC 37 [.str (s.drop (pos : Int).toNat)] st R := fun h => nested_c hdl ⟨hk.1, by rw [show (pos : Int).toNat = pos by omega, d1]; exact hk.2⟩ (by rw [show (pos : Int).toNat = pos by omega, ← hN]; exact h)
    repeat' ((conv => whnf); first
      | (with_reducible first | exact Wa | exact Wb | exact Wc | refine Wd (by kernel_rfl) ?_ | refine We ?_ ?_ ?_ | refine W8 (by decide +kernel) ?_ ?_ ?_ | refine W9 ?_ ?_ ?_ | refine Wt (by first | assumption | omega) ?_ | refine Wu (by first | assumption | omega) ?_ | refine Wv (by omega) ?_ | refine Ww (by omega) ?_ | refine Wf (by decide) (fun _ => ?_) (fun _ => ?_) | refine Wg (fun _ => ?_) (fun _ => ?_) | refine Wh (fun _ => ?_) (fun _ => ?_) | refine Wi ?_ | refine Wj ?_ | refine Wk (fun _ => ?_) (fun _ => ?_) | refine Wl (fun _ => ?_) | refine Wm (by assumption) (by omega) ?_ | refine Wn (by omega) (by omega) (fun _ _ _ => ?_) | refine Wo (by omega) (by omega) ?_ | refine Wp (by omega) (by omega) (by omega) ?_ | refine Wq (by omega) (by omega) ?_ | refine Wr (by decide) (by omega) (by omega) ?_ | refine Ws (by decide) ?_ | refine Wx (fun _ => ?_) ?_ | refine Wy (fun _ => ?_) ?_ | refine Wz (fun _ => ?_) | refine WA (fun _ => ?_) | refine WB (by assumption) (by omega) ?_ | refine WC (by omega) (by omega) (fun _ _ => ?_) | refine WD (by omega) (by omega) (fun _ _ => ?_) | refine WE (by omega) (by omega) (by omega) ?_ | refine WJ (fun _ => ?_) | refine WK (fun _ _ _ => ?_) | refine WL (by assumption) (by omega) ?_ | refine WM (by omega) (by omega) (fun _ _ => ?_) | refine WN (by omega) (by omega) ?_ | refine WO (by omega) (by omega) ?_ | refine WP (by omega) (by omega) (by omega) ?_)
      | refine open_e (n := pos) (by omega) ?_
      | refine hc ?_
      | with_reducible refine WF ?_)
    all_goals first
      | exact fin h (by rw [noteF_neg (by omega)])
      | exact fin h (by rw [noteF_0 (by omega)])
      | exact fin h (note_ret rfl (by omega) (by omega))
      | exact fin h (note_ret (hN (by omega)) (by omega) (by omega))
  · have hN : hdF (s.drop pos) = 45 → noteN (s.drop pos) = (rowLen (s.drop pos) : Nat) := fun e => by unfold noteN; rw [if_neg (by rw [d1]; exact hk), if_pos e]
    have hN0 : ¬ hdF (s.drop pos) = 45 → noteN (s.drop pos) = 0 := fun e => by unfold noteN; rw [if_neg (by rw [d1]; exact hk), if_neg e]
    have hc : ∀ {R : Res → St → Prop}, R (.ret (.int .i64 (rowLen (s.drop pos) : Nat))) st → PC 38 [.str (s.drop (pos : Int).toNat)] st R := fun h => nrow_c hdl h
    repeat' ((conv => whnf); first
      | (with_reducible first | exact Wa | exact Wb | exact Wc | refine Wd (by kernel_rfl) ?_ | refine We ?_ ?_ ?_ | refine W8 (by decide +kernel) ?_ ?_ ?_ | refine W9 ?_ ?_ ?_ | refine Wt (by first | assumption | omega) ?_ | refine Wu (by first | assumption | omega) ?_ | refine Wv (by omega) ?_ | refine Ww (by omega) ?_ | refine Wf (by decide) (fun _ => ?_) (fun _ => ?_) | refine Wg (fun _ => ?_) (fun _ => ?_) | refine Wh (fun _ => ?_) (fun _ => ?_) | refine Wi ?_ | refine Wj ?_ | refine Wk (fun _ => ?_) (fun _ => ?_) | refine Wl (fun _ => ?_) | refine Wm (by assumption) (by omega) ?_ | refine Wn (by omega) (by omega) (fun _ _ _ => ?_) | refine Wo (by omega) (by omega) ?_ | refine Wp (by omega) (by omega) (by omega) ?_ | refine Wq (by omega) (by omega) ?_ | refine Wr (by decide) (by omega) (by omega) ?_ | refine Ws (by decide) ?_ | refine Wx (fun _ => ?_) ?_ | refine Wy (fun _ => ?_) ?_ | refine Wz (fun _ => ?_) | refine WA (fun _ => ?_) | refine WB (by assumption) (by omega) ?_ | refine WC (by omega) (by omega) (fun _ _ => ?_) | refine WD (by omega) (by omega) (fun _ _ => ?_) | refine WE (by omega) (by omega) (by omega) ?_ | refine WJ (fun _ => ?_) | refine WK (fun _ _ _ => ?_) | refine WL (by assumption) (by omega) ?_ | refine WM (by omega) (by omega) (fun _ _ => ?_) | refine WN (by omega) (by omega) ?_ | refine WO (by omega) (by omega) ?_ | refine WP (by omega) (by omega) (by omega) ?_)
      | refine open_e (n := pos) (by omega) ?_
      | refine hc ?_
      | with_reducible refine WF ?_)
    all_goals first
      | exact fin h (by rw [noteF_neg (by omega)])
      | exact fin h (by rw [noteF_0 (by omega)])
      | exact fin h (note_ret rfl (by omega) (by omega))
      | exact fin h (note_ret (hN (by omega)) (by omega) (by omega))
end
end Go.Proofs.YtkcapphlemoccaaGreatDoor
set_option linter.unusedVariables false
namespace Go.Aw
open Go
def byF (l : List UInt8) : Int := if hdF l < 0 then 0 else hdF l
theorem byF_at {s : List UInt8} {i : Nat} {e : UInt8} (h : s[i]? = some e) : byF (s.drop i) = (e.toNat : Nat) := by unfold byF; rw [hdF_at h, if_neg (by omega)]
theorem byF_none {s : List UInt8} {i : Nat} (h : s.length ≤ i) : byF (s.drop i) = 0 := by unfold byF; rw [hdF_none h]; rfl
theorem byF_hd (l : List UInt8) : (hdF l = -1 ∧ byF l = 0) ∨ (0 ≤ hdF l ∧ byF l = hdF l) := by
  have := hdF_lt l
  unfold byF
  split
  · exact .inl ⟨by omega, rfl⟩
  · exact .inr ⟨by omega, rfl⟩
def prs (l : List (Nat × Nat)) : List (List V) := l.map fun p => [V.int .i64 (p.1 : Int), V.int .i64 (p.2 : Int)]
def OwnAt (st : St) (n : Nat) : Own → Prop
  | .full => True
  | .tok b => st.hw b = some n
  | .any => False
def OwnNew (st0 : St) : Own → Prop
  | .tok b => st0.fresh b
  | _ => True
def OwnNe : Own → Own → Prop
  | .tok b, .tok c => b ≠ c
  | _, _ => True
structure Rows2 (st0 st : St) (w1 : Own) (n1 : Nat) (w2 : Own) (n2 : Nat) : Prop where
  o1 : OwnAt st n1 w1
  o2 : OwnAt st n2 w2
  f1 : OwnNew st0 w1
  f2 : OwnNew st0 w2
  ne : OwnNe w1 w2
  le : st0.le st
theorem OwnNe.symm {a b : Own} (h : OwnNe a b) : OwnNe b a := by
  cases a <;> cases b <;> first | exact h | exact Ne.symm h
theorem Rows2.swap {st0 st : St} {w1 w2 : Own} {n1 n2 : Nat} (h : Rows2 st0 st w1 n1 w2 n2) : Rows2 st0 st w2 n2 w1 n1 := ⟨h.o2, h.o1, h.f2, h.f1, h.ne.symm, h.le⟩
theorem Rows2.set {st0 st : St} {w1 w2 : Own} {n1 n2 b : Nat} (h : Rows2 st0 st w1 n1 w2 n2) (hb : st0.box b = none) (cs : List V) : Rows2 st0 (st.setBox b cs) w1 n1 w2 n2 :=
  ⟨by have := h.o1; cases w1 <;> exact this, by have := h.o2; cases w2 <;> exact this, h.f1, h.f2, h.ne, St.le_setBox h.le hb cs⟩
theorem rows2_app {st0 st : St} {w1 w2 : Own} {n1 n2 sz bytes : Nat} {es new : List (List V)} {K : V → St → Prop} (h : Rows2 st0 st w1 n1 w2 n2) (hn : n1 = es.length * sz)
    (h1 : (es.length + new.length) * bytes ≤ 140737488355328) (h2 : es.length + new.length < lim) (h3 : (new.all fun v => v.all V.sc) = true) (hne : new ≠ [])
    (k : ∀ w1' st', Rows2 st0 st' w1' ((es.length + new.length) * sz) w2 n2 → st'.box = st.box → K (.slice sz (es ++ new.map (·.map V.wk0)) w1') st') : appendTo sz bytes es w1 new st K := by
  subst hn
  have frs : ∀ {x : Nat}, st.fresh x → st0.fresh x := fun {x} hx => by
    refine ⟨?_, ?_⟩
    · cases e : st0.box x with
      | none => rfl
      | some c => have := h.le.1 _ _ e; rw [hx.1] at this; cases this
    · cases e : st0.hw x with
      | none => rfl
      | some c => have := h.le.2 _ _ e; rw [hx.2] at this; cases this
  refine ⟨h1, h2, chk_intro h3 ?_⟩
  cases hw : w1 with
  | any => have := h.o1; rw [hw] at this; exact this
  | full =>
    refine ⟨fun e => absurd e hne, fun _ => .inl fun b hb => k (.tok b) _ ⟨?_, ?_, frs hb, h.f2, ?_, St.le_setHw h.le (frs hb).2 _⟩ rfl⟩
    · simp [OwnAt, St.setHw]
    · have := h.o2
      cases w2 with
      | tok c =>
        have hc : st.hw c = some n2 := this
        have : c ≠ b := fun e => by subst e; rw [hb.2] at hc; cases hc
        simp [OwnAt, St.setHw, this, hc]
      | _ => exact this
    · cases w2 with
      | tok c =>
        have hc : st.hw c = some n2 := h.o2
        exact fun e => by subst e; rw [hb.2] at hc; cases hc
      | _ => trivial
  | tok b =>
    subst hw
    have hb : st.hw b = some (es.length * sz) := h.o1
    have hb0 : st0.fresh b := h.f1
    refine ⟨hb, fun b' hb' => k (.tok b') _ ⟨?_, ?_, ?_, h.f2, ?_, ?_⟩ rfl⟩
    · simp [OwnAt, St.setHw]
    · have := h.o2
      cases w2 with
      | tok c =>
        have hc : st.hw c = some n2 := this
        have hcb : b ≠ c := h.ne
        have hcb' : c ≠ b' := fun e => by
          subst e
          rcases hb' with e | hb'
          · exact hcb e.symm
          · rw [hb'.2] at hc; cases hc
        simp [OwnAt, St.setHw, St.dropHw, hcb', hcb.symm, hc]
      | _ => exact this
    · rcases hb' with rfl | hb'
      · exact hb0
      · exact frs hb'
    · cases w2 with
      | tok c =>
        have hc : st.hw c = some n2 := h.o2
        have hcb : b ≠ c := h.ne
        refine fun (e : b' = c) => ?_
        subst e
        rcases hb' with e | hb'
        · exact hcb e.symm
        · rw [hb'.2] at hc; cases hc
      | _ => trivial
    · refine ⟨fun x cs e => h.le.1 x cs e, fun x n e => ?_⟩
      have e1 := h.le.2 x n e
      have hx : x ≠ b := fun hx => by subst hx; rw [hb0.2] at e; cases e
      have hx' : x ≠ b' := fun hx => by
        subst hx
        rcases hb' with e' | hb'
        · exact hx e'
        · rw [hb'.2] at e1; cases e1
      simp [St.setHw, St.dropHw, hx, hx', e1]
theorem ints_length (l : List Int) : (ints l).length = l.length := by simp [ints]
theorem prs_length (l : List (Nat × Nat)) : (prs l).length = l.length := by simp [prs]
theorem rows_int {st0 st : St} {w1 w2 : Own} {n2 : Nat} {o : List Int} {v : Int} {K : V → St → Prop} (h : Rows2 st0 st w1 o.length w2 n2) (hl : o.length ≤ 1000000000)
    (k : ∀ w1' st', Rows2 st0 st' w1' (o ++ [v]).length w2 n2 → st'.box = st.box → K (.slice 1 (ints (o ++ [v])) w1') st') : appendTo 1 8 (ints o) w1 [[.int .i64 v]] st K := by
  refine rows2_app h (by rw [ints_length]; omega) (by rw [ints_length, List.length_singleton]; omega) (by rw [ints_length, List.length_singleton]; unfold lim; omega) rfl (by simp) (fun w1' st' hr hb => ?_)
  have := k w1' st' (by rw [ints_length] at hr; rw [List.length_append]; simpa using hr) hb
  rwa [show ints (o ++ [v]) = ints o ++ ([[V.int .i64 v]] : List (List V)).map (·.map V.wk0) by simp [ints, V.wk0]] at this
theorem rows_pair {st0 st : St} {w1 w2 : Own} {n1 : Nat} {g : List (Nat × Nat)} {p : Nat × Nat} {a b : Int} {K : V → St → Prop} (h : Rows2 st0 st w1 n1 w2 (2 * g.length)) (hl : g.length ≤ 1000000000) (ha : a = (p.1 : Int)) (hb : b = (p.2 : Int))
    (k : ∀ w2' st', Rows2 st0 st' w1 n1 w2' (2 * (g ++ [p]).length) → st'.box = st.box → K (.slice 2 (prs (g ++ [p])) w2') st') : appendTo 2 16 (prs g) w2 [[.int .i64 a, .int .i64 b]] st K := by
  subst ha; subst hb
  refine rows2_app h.swap (by rw [prs_length]; omega) (by rw [prs_length, List.length_singleton]; omega) (by rw [prs_length, List.length_singleton]; unfold lim; omega) rfl (by simp) (fun w1' st' hr hb => ?_)
  have := k w1' st' (by rw [prs_length] at hr; rw [List.length_append]; have := hr.swap; simpa [Nat.mul_comm] using this) hb
  rwa [show prs (g ++ [p]) = prs g ++ ([[V.int .i64 (p.1 : Int), V.int .i64 (p.2 : Int)]] : List (List V)).map (·.map V.wk0) by simp [prs, V.wk0]] at this
theorem St.box_at (st : St) (b : Nat) (cs : List V) : (st.setBox b cs).box b = some cs := by simp [St.setBox]
theorem on_box {st : St} {b : Nat} {cs : List V} {K : List V → Prop} (h : st.box b = some cs) (k : K cs) : ∃ cs, st.box b = some cs ∧ K cs := ⟨cs, h, k⟩
end Go.Aw
namespace Go.Proofs.YtkcapphlemoccaaGreatDoor
open Go Go.Aw
def abtF (c : Int) : Int := if c = 97 then 0 else if c = 98 then 1 else if c = 116 then 2 else if c = 110 then 3 else if c = 118 then 4 else if c = 102 then 5 else if c = 114 then 6 else -1
theorem abt_eq (u : UInt8) : Lib.indexByte [97, 98, 116, 110, 118, 102, 114] u = abtF (u.toNat : Nat) := by
  have key : ∀ k : UInt8, ((u.toNat : Nat) : Int) = ((k.toNat : Nat) : Int) → u = k := fun k e => UInt8.toNat_inj.1 (by omega)
  unfold abtF
  by_cases h1 : ((u.toNat : Nat) : Int) = 97
  · rw [key 97 h1]; rfl
  by_cases h2 : ((u.toNat : Nat) : Int) = 98
  · rw [key 98 h2]; rfl
  by_cases h3 : ((u.toNat : Nat) : Int) = 116
  · rw [key 116 h3]; rfl
  by_cases h4 : ((u.toNat : Nat) : Int) = 110
  · rw [key 110 h4]; rfl
  by_cases h5 : ((u.toNat : Nat) : Int) = 118
  · rw [key 118 h5]; rfl
  by_cases h6 : ((u.toNat : Nat) : Int) = 102
  · rw [key 102 h6]; rfl
  by_cases h7 : ((u.toNat : Nat) : Int) = 114
  · rw [key 114 h7]; rfl
  rw [if_neg h1, if_neg h2, if_neg h3, if_neg h4, if_neg h5, if_neg h6, if_neg h7]
  have ne : ∀ k : UInt8, ¬ ((u.toNat : Nat) : Int) = ((k.toNat : Nat) : Int) → (k == u) = false := fun k e => beq_eq_false_iff_ne.2 (fun x => e (by rw [x]))
  simp only [Lib.indexByte, ne 97 h1, ne 98 h2, ne 116 h3, ne 110 h4, ne 118 h5, ne 102 h6, ne 114 h7]
  rfl
def qC (s : List UInt8) (p : Nat) (tx : Bool) (o : List Int) (w1 : Own) (g : List (Nat × Nat)) (w2 : Own) : List V := [.str s, .int .i64 (p : Int), .bool tx, .slice 1 (ints o) w1, .slice 2 (prs g) w2]
def qfault (p : Int) (e : Int) : V := .iface 128 (.agg [.int .i64 p, .int .i64 e])
section
variable {st : St} {R : Res → St → Prop}
theorem qfail_c {v : V} {p e : Int} (h : R (.pan (qfault p e)) st) : PC 116 [v, .int .i64 p, .int .i64 e] st R := by
  refine pcalls_of_body tys_ok [] Tryz.func116 rfl (by decide) ?_
  repeat' ((conv => whnf); first
    | (with_reducible first | exact Wa | exact Wb | exact Wc | refine Wd (by kernel_rfl) ?_ | refine We ?_ ?_ ?_ | refine W8 (by decide +kernel) ?_ ?_ ?_ | refine W9 ?_ ?_ ?_ | refine Wt (by first | assumption | omega) ?_ | refine Wu (by first | assumption | omega) ?_ | refine Wv (by omega) ?_ | refine Ww (by omega) ?_ | refine Wf (by decide) (fun _ => ?_) (fun _ => ?_) | refine Wg (fun _ => ?_) (fun _ => ?_) | refine Wh (fun _ => ?_) (fun _ => ?_) | refine Wi ?_ | refine Wj ?_ | refine Wk (fun _ => ?_) (fun _ => ?_) | refine Wl (fun _ => ?_) | refine Wm (by assumption) (by omega) ?_ | refine Wn (by omega) (by omega) (fun _ _ _ => ?_) | refine Wo (by omega) (by omega) ?_ | refine Wp (by omega) (by omega) (by omega) ?_ | refine Wq (by omega) (by omega) ?_ | refine Wr (by decide) (by omega) (by omega) ?_ | refine Ws (by decide) ?_ | refine Wx (fun _ => ?_) ?_ | refine Wy (fun _ => ?_) ?_ | refine Wz (fun _ => ?_) | refine WA (fun _ => ?_) | refine WB (by assumption) (by omega) ?_ | refine WC (by omega) (by omega) (fun _ _ => ?_) | refine WD (by omega) (by omega) (fun _ _ => ?_) | refine WE (by omega) (by omega) (by omega) ?_ | refine WJ (fun _ => ?_) | refine WK (fun _ _ _ => ?_) | refine WL (by assumption) (by omega) ?_ | refine WM (by omega) (by omega) (fun _ _ => ?_) | refine WN (by omega) (by omega) ?_ | refine WO (by omega) (by omega) ?_ | refine WP (by omega) (by omega) (by omega) ?_)
    | with_reducible refine WF ?_)
  all_goals exact fin h rfl
theorem byteAt_c {b p k : Nat} {s : List UInt8} {tx : Bool} {o : List Int} {w1 w2 : Own} {g : List (Nat × Nat)} (hl : s.length ≤ 100000000) (hp : p ≤ s.length) (hk : k ≤ 10) (hb : st.box b = some (qC s p tx o w1 g w2))
    (h : R (.ret (.int .u8 (byF (s.drop (p + k))))) st) : PC 114 [.ptr b 0, .int .i64 k] st R := by
  refine pcalls_of_body tys_ok [] Tryz.func114 rfl (by decide) ?_
  have e0 : ((p : Int) + (k : Int)).toNat = p + k := by omega
  by_cases hlt : p + k < s.length
  · obtain ⟨e, he⟩ : ∃ e, s[p + k]? = some e := ⟨s[p + k], List.getElem?_eq_getElem hlt⟩
    have he' : s[((p : Int) + (k : Int)).toNat]? = some e := by rw [e0]; exact he
    rw [byF_at he] at h
    repeat' ((conv => whnf); first
      | (with_reducible first | exact Wa | exact Wb | exact Wc | refine Wd (by kernel_rfl) ?_ | refine We ?_ ?_ ?_ | refine W8 (by decide +kernel) ?_ ?_ ?_ | refine W9 ?_ ?_ ?_ | refine Wt (by first | assumption | omega) ?_ | refine Wu (by first | assumption | omega) ?_ | refine Wv (by omega) ?_ | refine Ww (by omega) ?_ | refine Wf (by decide) (fun _ => ?_) (fun _ => ?_) | refine Wg (fun _ => ?_) (fun _ => ?_) | refine Wh (fun _ => ?_) (fun _ => ?_) | refine Wi ?_ | refine Wj ?_ | refine Wk (fun _ => ?_) (fun _ => ?_) | refine Wl (fun _ => ?_) | refine Wm (by assumption) (by omega) ?_ | refine Wn (by omega) (by omega) (fun _ _ _ => ?_) | refine Wo (by omega) (by omega) ?_ | refine Wp (by omega) (by omega) (by omega) ?_ | refine Wq (by omega) (by omega) ?_ | refine Wr (by decide) (by omega) (by omega) ?_ | refine Ws (by decide) ?_ | refine Wx (fun _ => ?_) ?_ | refine Wy (fun _ => ?_) ?_ | refine Wz (fun _ => ?_) | refine WA (fun _ => ?_) | refine WB (by assumption) (by omega) ?_ | refine WC (by omega) (by omega) (fun _ _ => ?_) | refine WD (by omega) (by omega) (fun _ _ => ?_) | refine WE (by omega) (by omega) (by omega) ?_ | refine WJ (fun _ => ?_) | refine WK (fun _ _ _ => ?_) | refine WL (by assumption) (by omega) ?_ | refine WM (by omega) (by omega) (fun _ _ => ?_) | refine WN (by omega) (by omega) ?_ | refine WO (by omega) (by omega) ?_ | refine WP (by omega) (by omega) (by omega) ?_)
      | refine on_box hb ?_
      | with_reducible refine WF ?_)
    all_goals exact fin h rfl
  · rw [byF_none (by omega)] at h
    repeat' ((conv => whnf); first
      | (with_reducible first | exact Wa | exact Wb | exact Wc | refine Wd (by kernel_rfl) ?_ | refine We ?_ ?_ ?_ | refine W8 (by decide +kernel) ?_ ?_ ?_ | refine W9 ?_ ?_ ?_ | refine Wt (by first | assumption | omega) ?_ | refine Wu (by first | assumption | omega) ?_ | refine Wv (by omega) ?_ | refine Ww (by omega) ?_ | refine Wf (by decide) (fun _ => ?_) (fun _ => ?_) | refine Wg (fun _ => ?_) (fun _ => ?_) | refine Wh (fun _ => ?_) (fun _ => ?_) | refine Wi ?_ | refine Wj ?_ | refine Wk (fun _ => ?_) (fun _ => ?_) | refine Wl (fun _ => ?_) | refine Wm (by assumption) (by omega) ?_ | refine Wn (by omega) (by omega) (fun _ _ _ => ?_) | refine Wo (by omega) (by omega) ?_ | refine Wp (by omega) (by omega) (by omega) ?_ | refine Wq (by omega) (by omega) ?_ | refine Wr (by decide) (by omega) (by omega) ?_ | refine Ws (by decide) ?_ | refine Wx (fun _ => ?_) ?_ | refine Wy (fun _ => ?_) ?_ | refine Wz (fun _ => ?_) | refine WA (fun _ => ?_) | refine WB (by assumption) (by omega) ?_ | refine WC (by omega) (by omega) (fun _ _ => ?_) | refine WD (by omega) (by omega) (fun _ _ => ?_) | refine WE (by omega) (by omega) (by omega) ?_ | refine WJ (fun _ => ?_) | refine WK (fun _ _ _ => ?_) | refine WL (by assumption) (by omega) ?_ | refine WM (by omega) (by omega) (fun _ _ => ?_) | refine WN (by omega) (by omega) ?_ | refine WO (by omega) (by omega) ?_ | refine WP (by omega) (by omega) (by omega) ?_)
      | refine on_box hb ?_
      | with_reducible refine WF ?_)
    all_goals exact fin h rfl
theorem abt_c {c : Int} (h0 : 0 ≤ c) (h1 : c ≤ 255) (h : R (.ret (.int .i64 (abtF c))) st) : PC 129 [.str [97, 98, 116, 110, 118, 102, 114], .int .u8 c] st R := by
  obtain ⟨u, rfl⟩ : ∃ u : UInt8, c = ((u.toNat : Nat) : Int) := ⟨UInt8.ofNat c.toNat, by rw [UInt8.toNat_ofNat']; omega⟩
  exact byte_c (by rw [abt_eq]; exact h)
def sgnR : Option Int → V
  | some v => .tup [.int .i64 v, .bool true]
  | none => .tup [.int .i64 0, .bool false]
theorem sign_c {c : Int} (h0 : 0 ≤ c) (h1 : c ≤ 255) (h : R (.ret (sgnR (sgnF c))) st) : PC 136 [.int .u8 c] st R := by
  have ha : (abtF c = -1 ∧ ¬ (c = 97 ∨ c = 98 ∨ c = 116 ∨ c = 110 ∨ c = 118 ∨ c = 102 ∨ c = 114)) ∨ (0 ≤ abtF c ∧ abtF c ≤ 6 ∧ ((c = 97 ∧ abtF c = 0) ∨ (c = 98 ∧ abtF c = 1) ∨ (c = 116 ∧ abtF c = 2) ∨ (c = 110 ∧ abtF c = 3) ∨ (c = 118 ∧ abtF c = 4) ∨ (c = 102 ∧ abtF c = 5) ∨ (c = 114 ∧ abtF c = 6))) := by
    unfold abtF
    (repeat' split) <;> first | (left; omega) | (right; omega)
  refine pcalls_of_body tys_ok [] Tryz.func136 rfl (by decide) ?_
  repeat' ((conv => whnf); first
    | (with_reducible first | exact Wa | exact Wb | exact Wc | refine Wd (by kernel_rfl) ?_ | refine We ?_ ?_ ?_ | refine W8 (by decide +kernel) ?_ ?_ ?_ | refine W9 ?_ ?_ ?_ | refine Wt (by first | assumption | omega) ?_ | refine Wu (by first | assumption | omega) ?_ | refine Wv (by omega) ?_ | refine Ww (by omega) ?_ | refine Wf (by decide) (fun _ => ?_) (fun _ => ?_) | refine Wg (fun _ => ?_) (fun _ => ?_) | refine Wh (fun _ => ?_) (fun _ => ?_) | refine Wi ?_ | refine Wj ?_ | refine Wk (fun _ => ?_) (fun _ => ?_) | refine Wl (fun _ => ?_) | refine Wm (by assumption) (by omega) ?_ | refine Wn (by omega) (by omega) (fun _ _ _ => ?_) | refine Wo (by omega) (by omega) ?_ | refine Wp (by omega) (by omega) (by omega) ?_ | refine Wq (by omega) (by omega) ?_ | refine Wr (by decide) (by omega) (by omega) ?_ | refine Ws (by decide) ?_ | refine Wx (fun _ => ?_) ?_ | refine Wy (fun _ => ?_) ?_ | refine Wz (fun _ => ?_) | refine WA (fun _ => ?_) | refine WB (by assumption) (by omega) ?_ | refine WC (by omega) (by omega) (fun _ _ => ?_) | refine WD (by omega) (by omega) (fun _ _ => ?_) | refine WE (by omega) (by omega) (by omega) ?_ | refine WJ (fun _ => ?_) | refine WK (fun _ _ _ => ?_) | refine WL (by assumption) (by omega) ?_ | refine WM (by omega) (by omega) (fun _ _ => ?_) | refine WN (by omega) (by omega) ?_ | refine WO (by omega) (by omega) ?_ | refine WP (by omega) (by omega) (by omega) ?_)
    | refine abt_c h0 h1 ?_
    | with_reducible refine WF ?_)
  all_goals first
    | exact fin h (by rw [show sgnF c = some c by unfold sgnF; rw [if_pos (by omega)]]; rfl)
    | (have e : sgnF c = some (7 + abtF c) := by
         unfold sgnF
         rw [if_neg (by omega)]
         (repeat' split) <;> first | (congr 1; omega) | (exfalso; omega)
       exact fin h (by rw [e]; rfl))
    | (have e : sgnF c = none := by
         unfold sgnF
         rw [if_neg (by omega)]
         (repeat' split) <;> first | rfl | (exfalso; omega)
       exact fin h (by rw [e]; rfl))
end
end Go.Proofs.YtkcapphlemoccaaGreatDoor
set_option linter.unusedVariables false
namespace Go.Proofs.YtkcapphlemoccaaGreatDoor
open Go Go.Aw Go.Shelf
theorem space_tab {I : Mem} {st : St} {w : World} (hs : RelS I st w) : Lib.TabIs Tryz.prog w "strings.asciiSpace" .u8 Lib.asciiSpaceTab := by
  obtain ⟨c, ty, h1, h2⟩ := hs.shape 3 256 hs.tab.spaceN
  have hg : Tryz.prog.globalNamed "strings.asciiSpace" = some 3 := by kernel_rfl
  unfold Lib.TabIs World.var?
  rw [hg]
  simp only [Option.bind_some, h1, Option.some.injEq]
  have hlen : Lib.asciiSpaceTab.length = 256 := by decide +kernel
  refine Array.ext (by rw [h2]; simp [hlen]) fun i hi hi' => ?_
  have h3 := hs.cell _ _ _ (hs.tab.space i (by omega))
  simp only [World.cell?, h1, Option.isSome_none, Bool.false_eq_true, if_false] at h3
  rw [Array.getElem?_eq_getElem hi] at h3
  injection h3 with h3
  rw [h3]
  have hi2 : i < Lib.asciiSpaceTab.length := by rw [hlen]; omega
  simp [List.getD_eq_getElem?_getD, List.getElem?_eq_getElem hi2]
section
variable {st : St} {R : Res → St → Prop}
theorem fields_c {s : List UInt8} (hz : s.length < 4294967281) (ha : ∀ b ∈ s, b.toNat < 128) (h : R (.ret (.slice 1 (strs (Lib.fields s)) .any)) st) (hl : ∀ x ∈ Lib.fields s, x.length < lim) (hn : (Lib.fields s).length < lim) : PC 140 [.str s] st R := by
  refine ⟨fun I w cargs hs hc => ?_, ⟨_, Tryz.func140, by decide, by decide⟩⟩
  simp only [RepL, Rep] at hc
  obtain ⟨c, r, rfl, ⟨rfl, _⟩, rfl⟩ := hc
  refine (Tryz.strings_Fields ⟨s.toArray⟩ w (by show s.toArray.size < _; simpa using hz) (fun j b e => ha b (List.mem_of_getElem? (by simpa using e))) (space_tab hs)).mono fun e w' ⟨he, hw⟩ => ?_
  subst hw
  obtain ⟨h1, h2, h3⟩ := hs.row ((Lib.fields s).map fun l => Value.string ⟨l.toArray⟩) 9
  refine ⟨_, _, .ret _, h1, h2, ?_, h⟩
  subst he
  exact rep_strs (Lib.fields s) hl hn h3
theorem join_c {xs : List (List UInt8)} {own : Own} {sep : List UInt8} (hx : xs.length ≤ 140737488355328) (hj : (Lib.join xs sep).length ≤ 140737488355328) (h : R (.ret (.str (Lib.join xs sep))) st) : PC 30 [.slice 1 (strs xs) own, .str sep] st R := by
  refine pcalls_of_calls ⟨_, Tryz.func30, by decide, by decide⟩ _ (fun I w cargs hs hc => ?_) h
  simp only [RepL] at hc
  obtain ⟨c1, r1, rfl, hc1, c2, r2, rfl, hc2, rfl⟩ := hc
  simp only [Rep] at hc2
  obtain ⟨rfl, _⟩ := hc2
  obtain ⟨ad, cap, rfl, e2, e3, e4, e5, e6⟩ := rep_slice (β := fun _ => none) (show RepT I _ (.slice 1 (strs xs) own) c1 from hc1)
  have hlen : (strs xs).length = xs.length := by simp [strs]
  rw [hlen] at e2 e3 ⊢
  by_cases h0 : xs = []
  · subst h0
    refine (Tryz.strings_Join_none ad cap ⟨sep.toArray⟩ w).mono fun e w' ⟨he, hw⟩ => ⟨⟨_, he, ?_⟩, hw ▸ RowKit.Below.refl _ _⟩
    simp only [Rep]
    exact ⟨by trivial, by show (Lib.join [] sep).length < lim; rw [Lib.join_nil]; decide⟩
  · have hpos := List.length_pos_iff.2 h0
    cases ad with
    | none => simp only at e6; omega
    | some ad =>
      obtain ⟨bk, o, spot⟩ := ad
      simp only at e6
      obtain ⟨f1, f2⟩ := e6
      obtain rfl : spot = none := f1.resolve_left (by omega)
      have hcell : ∀ (j : Nat) x, xs[j]? = some x → w.cell? ⟨bk, o + j, none⟩ = some (.string ⟨x.toArray⟩) := fun j x hj => by
        obtain ⟨_, g2⟩ := RepE.get f2 (i := j) (e := [V.str x]) (by simp [strs, hj])
        simp only [RepC, Rep, and_true] at g2
        obtain ⟨c, g2, rfl, _⟩ := g2
        have := hs.cell _ _ _ g2
        rwa [Nat.mul_one] at this
      have hmap : (xs.map fun x => (⟨x.toArray⟩ : ByteArray)).map (·.data.toList) = xs := by simp [Function.comp_def]
      have hbk : bk < w.heap.size := by
        obtain ⟨x, hx⟩ : ∃ x, xs[0]? = some x := ⟨xs[0], List.getElem?_eq_getElem hpos⟩
        exact lt_of_cell (hcell 0 x hx)
      have := Tryz.strings_Join bk o cap (xs.map fun x => (⟨x.toArray⟩ : ByteArray)) ⟨sep.toArray⟩ w (fun j x hj => by
        rw [List.getElem?_map] at hj
        cases hq : xs[j]? with
        | none => rw [hq] at hj; cases hj
        | some y => rw [hq] at hj; injection hj with hj; subst hj; exact hcell j y hq) hbk (by rw [List.length_map]; exact hx) (by rw [List.length_map]; exact e2) (by rw [hmap]; exact hj)
      rw [List.length_map, hmap] at this
      refine this.mono fun e w' ⟨he, hb⟩ => ⟨⟨_, he, ?_⟩, hb⟩
      simp only [Rep]
      exact ⟨by trivial, by unfold lim; omega⟩
end
def idxF (p : Nat → Bool) (s : List UInt8) : Int := if spanD (fun d => !(p d.1)) s < s.length then (spanD (fun d => !(p d.1)) s : Nat) else -1
theorem idx_eq (p : Nat → Bool) (s : List UInt8) : ∀ (f pos : Nat), pos ≤ s.length → s.length - pos ≤ f → Lib.idxFuncFrom p true ⟨s.toArray⟩ f pos = if spanD (fun d => !(p d.1)) (s.drop pos) < s.length - pos then ((pos + spanD (fun d => !(p d.1)) (s.drop pos) : Nat) : Int) else -1
  | 0, pos, h1, h2 => by
    rw [if_neg (by omega)]; rfl
  | f + 1, pos, h1, h2 => by
    unfold Lib.idxFuncFrom
    have hz : (⟨s.toArray⟩ : ByteArray).size = s.length := by simp [ByteArray.size]
    rw [hz]
    by_cases hp : pos < s.length
    · rw [if_pos hp, decR_of hp]
      rcases hd : decR (s.drop pos) with ⟨c, m⟩
      have hr := rune_le hp hd.symm
      dsimp only
      by_cases hc : p c = true
      · rw [if_pos hc, spanD_no (p := fun d => !(p d.1)) (by rw [hd]; simp [hc]), if_pos (by omega)]; rfl
      · rw [if_neg hc, idx_eq p s f (pos + m) hr.1 (by omega)]
        have e := spanD_yes (p := fun d => !(p d.1)) (drop_ne hp) (by rw [hd]; simpa using hc)
        rw [hd, List.drop_drop] at e
        dsimp only at e
        rw [e]
        by_cases hk : spanD (fun d => !(p d.1)) (s.drop (pos + m)) < s.length - (pos + m)
        · rw [if_pos hk, if_pos (by omega)]; congr 1; omega
        · rw [if_neg hk, if_neg (by omega)]
    · rw [if_neg hp, if_neg (by omega)]
section
variable {st : St} {R : Res → St → Prop}
def noSt : St := ⟨fun _ => none, fun _ => none⟩
theorem index_c {g : FuncId} {p : Nat → Bool} {s : List UInt8} (hg : ∀ c : Nat, c ≤ 1114111 → PC g [.int .i32 (c : Int)] noSt fun r _ => r = .ret (.bool (p c))) (h : R (.ret (.int .i64 (idxF p s))) st) : PC 16 [.str s, .func g [] []] st R := by
  refine pcalls_of_calls ⟨_, Tryz.func16, by decide, by decide⟩ _ (fun I w cargs hs hc => ?_) h
  simp only [RepL, Rep] at hc
  obtain ⟨c1, r1, rfl, ⟨rfl, hl⟩, c2, r2, rfl, ⟨az, cs, rfl, rfl, rfl⟩, rfl⟩ := hc
  obtain ⟨fn, p1, p2, p3⟩ := (hg 0 (by decide)).b
  have eg : ∀ args w, (callFunc g args).run Tryz.prog w = .ok (.enter g args) w := fun args w => by
    have hb : fn.body.isNone = false := by cases hb : fn.body <;> simp_all
    simp only [callFunc, Sem.run_bind, Result.andThen_ok, run_program, p1]
    rw [p3]
    simp [hb]
  have hp : PredGrows Tryz.prog g #[] p w := fun W x hx hb => by
    obtain ⟨_, hW⟩ := hs.below hb
    have hW0 : RelS I noSt W := ⟨hW.cell, hW.shape, fun b cs e => (by cases e), fun b e => absurd rfl e, fun b n e => (by cases e), hW.tab⟩
    refine ((hg x hx).a I W [.int .i32 x] hW0 (by simp only [RepL, Rep]; exact ⟨_, _, rfl, rfl, rfl⟩)).mono ?_
    rintro e w' ⟨I', st', r, k1, k2, k3, rfl⟩
    refine ⟨?_, ⟨k1.os, k1.tape, k1.output, k1.size, fun k hk => k1.old k hk rfl rfl⟩⟩
    cases e with
    | returned c =>
      have k3 : Rep I' (.bool (p x)) c := k3
      simp only [Rep] at k3
      rw [k3]
    | panicked _ => exact k3.elim
    | outgrown => exact k3.elim
  refine (Tryz.strings_IndexFunc_grows g #[] eg p ⟨s.toArray⟩ w hp).mono fun e w' ⟨he, hb⟩ => ⟨⟨_, he, ?_⟩, hb⟩
  simp only [Rep]
  unfold Lib.idxFunc idxF
  rw [idx_eq p s _ 0 (Nat.zero_le _) (by simp [ByteArray.size]), List.drop_zero, Nat.sub_zero, Nat.zero_add]
end
end Go.Proofs.YtkcapphlemoccaaGreatDoor
set_option linter.unusedVariables false
namespace Go.Aw
open Go
def namesL : List UInt8 := [78, 85, 76, 32, 83, 79, 72, 32, 83, 84, 88, 32, 69, 84, 88, 32, 69, 79, 84, 32, 69, 78, 81, 32, 65, 67, 75, 32, 66, 69, 76, 32, 66, 83, 32, 72, 84, 32, 76, 70, 32, 86, 84, 32, 70, 70, 32, 67, 82, 32, 83, 79, 32, 83, 73, 32, 68, 76, 69, 32, 68, 67, 49, 32, 68, 67, 50, 32, 68, 67, 51, 32, 68, 67, 52, 32, 78, 65, 75, 32, 83, 89, 78, 32, 69, 84, 66, 32, 67, 65, 78, 32, 69, 77, 32, 83, 85, 66, 32, 69, 83, 67, 32, 70, 83, 32, 71, 83, 32, 82, 83, 32, 85, 83, 32, 83, 80, 32, 68, 69, 76]
theorem fields_names : Lib.fields namesL = nameT := by decide +kernel
theorem names_lo : ∀ b ∈ namesL, b.toNat < 128 := by
  have h : namesL.all (fun b => decide (b.toNat < 128)) = true := by decide +kernel
  intro b hb
  simpa using List.all_eq_true.1 h b hb
theorem nameT_len : ∀ w ∈ nameT, 1 ≤ w.length ∧ w.length ≤ 3 := by
  have h : nameT.all (fun w => decide (1 ≤ w.length) && decide (w.length ≤ 3)) = true := by decide +kernel
  intro w hw
  simpa using List.all_eq_true.1 h w hw
theorem nameT_n : nameT.length = 34 := by decide +kernel
theorem valF_go {base v : Int} {s : List UInt8} {pos c m : Nat} (h : pos < s.length) (hd : (c, m) = decR (s.drop pos)) (k : ¬ digitF (c : Int) base < 0) : valF base v (s.drop pos) = valF base (min (v * base + digitF (c : Int) base) 1114112) (s.drop (pos + 1)) := by
  rw [List.drop_eq_getElem_cons h] at hd ⊢
  by_cases hb : s[pos].toNat < 128
  · rw [decR_lo hb] at hd
    injection hd with h1 h2
    subst h1
    rw [valF, if_neg k]
  · have := decR_hi (r := s.drop (pos + 1)) hb
    rw [← hd] at this
    exact absurd (digitF_hi (c := (c : Int)) (base := base) (by dsimp only at this; omega)) k
theorem valF_no {base v : Int} {s : List UInt8} {pos c m : Nat} (h : pos < s.length) (hd : (c, m) = decR (s.drop pos)) (k : digitF (c : Int) base < 0) : valF base v (s.drop pos) = v := by
  rw [List.drop_eq_getElem_cons h] at hd ⊢
  by_cases hb : s[pos].toNat < 128
  · rw [decR_lo hb] at hd
    injection hd with h1 h2
    subst h1
    rw [valF, if_pos k]
  · rw [valF, if_pos (digitF_hi (by omega))]
theorem valF_none {base v : Int} {s : List UInt8} {pos : Nat} (h : s.length ≤ pos) : valF base v (s.drop pos) = v := by rw [List.drop_eq_nil_iff.2 h]; rfl
theorem digitF_lt {c b : Int} : digitF c b < 0 ∨ digitF c b < b := by
  unfold digitF
  dsimp only
  generalize (if 48 ≤ c ∧ c ≤ 57 then c - 48 else if 97 ≤ c ∧ c ≤ 102 then c - 87 else if 65 ≤ c ∧ c ≤ 70 then c - 55 else 16) = v
  split
  · exact .inl (by decide)
  · exact .inr (by omega)
theorem ex_dig {v c b : Int} {K : Int → Prop} (h0 : 0 ≤ v) (h1 : v ≤ 1114112) (hb : 0 ≤ b) (hb' : b ≤ 16) (hk : ¬ digitF c b < 0) (k : K (v * b + digitF c b)) : ∃ r, r = IntKind.i64.wrap (v * b + digitF c b) ∧ K r := by
  have h2 : 0 ≤ v * b := Int.mul_nonneg h0 hb
  have h3 : v * b ≤ 1114112 * 16 := Int.mul_le_mul h1 hb' hb (by decide)
  have h4 := digitF_lt (c := c) (b := b)
  exact Wq (by omega) (by omega) k
theorem namesL_n : namesL.length < 1000 := by decide +kernel
theorem min_k {a b : Int} {K : Int → Prop} (k : K (min a b)) : ∃ r, r = (if b < a then b else a) ∧ K r := ⟨min a b, by rw [Int.min_def]; split <;> split <;> omega, k⟩
theorem namG_step {l x : List UInt8} {i c n : Nat} (h : nameT[i]? = some x) : namG l (nameT.drop i) i (c, n) = namG l (nameT.drop (i + 1)) (i + 1) (if n < x.length ∧ x.isPrefixOf l = true then (i, x.length) else (c, n)) := by
  rw [drop_at h, namG]
theorem namF_of {l : List UInt8} {c n : Nat} (h : namG l nameT 0 (0, 0) = (c, n)) : namF l = (if c = 33 then 127 else (c : Int), n) := by
  have key : ∀ p : Nat × Nat, p = (c, n) → ((if p.1 = 33 then 127 else (p.1 : Int), p.2) : Int × Nat) = (if c = 33 then 127 else (c : Int), n) := fun p hp => by subst hp; rfl
  exact key _ h
end Go.Aw
namespace Go.Proofs.YtkcapphlemoccaaGreatDoor
open Go Go.Aw
theorem num3_ret {s : List UInt8} {b v : Int} {n : Nat} {t : Bool} (e1 : rowN b s = n) (e2 : valF b 0 s = v) (e3 : decide (n ≠ 0 ∧ v ≤ 1114111) = t) : Res.ret (.tup [.int .i64 (valF b 0 s), .int .i64 (rowN b s : Nat), .bool (decide (rowN b s ≠ 0 ∧ valF b 0 s ≤ 1114111))]) = Res.ret (.tup [.int .i64 v, .int .i64 (n : Int), .bool t]) := by rw [e1, e2, e3]
section
variable {st : St} {R : Res → St → Prop}
theorem fields_v {s : List UInt8} {l : List (List UInt8)} (e : Lib.fields s = l) (hz : s.length < 1000) (ha : ∀ b ∈ s, b.toNat < 128) (hl : ∀ x ∈ l, x.length ≤ 3) (hn : l.length ≤ 1000) (h : R (.ret (.slice 1 (strs l) .any)) st) : PC 140 [.str s] st R := by
  subst e
  exact fields_c (by omega) ha h (fun x hx => by have := hl x hx; unfold lim; omega) (by unfold lim; omega)
theorem names_c (h : R (.ret (.slice 1 (strs nameT) .any)) st) : PC 140 [.str namesL] st R :=
  fields_v fields_names namesL_n names_lo (fun x hx => (nameT_len x hx).2) (Nat.le_trans (Nat.le_of_eq nameT_n) (by decide)) h
set_option maxRecDepth 100000 in
theorem named_c {s : List UInt8} (hl : s.length ≤ 100000000) (h : R (.ret (.tup [.int .i64 (namF s).1, .int .i64 (namF s).2])) st) : PC 138 [.str s] st R := by
  refine pcalls_of_body tys_ok [] Tryz.func138 rfl (by decide) ?_
  repeat' ((conv => whnf); first
    | (with_reducible first | exact Wa | exact Wb | exact Wc | refine Wd (by kernel_rfl) ?_ | refine We ?_ ?_ ?_ | refine W8 (by decide +kernel) ?_ ?_ ?_ | refine W9 ?_ ?_ ?_ | refine Wt (by first | assumption | omega) ?_ | refine Wu (by first | assumption | omega) ?_ | refine Wv (by omega) ?_ | refine Ww (by omega) ?_ | refine Wf (by decide) (fun _ => ?_) (fun _ => ?_) | refine Wg (fun _ => ?_) (fun _ => ?_) | refine Wh (fun _ => ?_) (fun _ => ?_) | refine Wi ?_ | refine Wj ?_ | refine Wk (fun _ => ?_) (fun _ => ?_) | refine Wl (fun _ => ?_) | refine Wm (by assumption) (by omega) ?_ | refine Wn (by omega) (by omega) (fun _ _ _ => ?_) | refine Wo (by omega) (by omega) ?_ | refine Wp (by omega) (by omega) (by omega) ?_ | refine Wq (by omega) (by omega) ?_ | refine Wr (by decide) (by omega) (by omega) ?_ | refine Ws (by decide) ?_ | refine Wx (fun _ => ?_) ?_ | refine Wy (fun _ => ?_) ?_ | refine Wz (fun _ => ?_) | refine WA (fun _ => ?_) | refine WB (by assumption) (by omega) ?_ | refine WC (by omega) (by omega) (fun _ _ => ?_) | refine WD (by omega) (by omega) (fun _ _ => ?_) | refine WE (by omega) (by omega) (by omega) ?_ | refine WJ (fun _ => ?_) | refine WK (fun _ _ _ => ?_) | refine WL (by assumption) (by omega) ?_ | refine WM (by omega) (by omega) (fun _ _ => ?_) | refine WN (by omega) (by omega) ?_ | refine WO (by omega) (by omega) ?_ | refine WP (by omega) (by omega) (by omega) ?_)
    | refine names_c ?_
    | refine len_strs (fun _ => ?_)
    | with_reducible refine WF ?_)
  refine loop_3 (α := Nat) (β := Nat) (γ := Nat) (fun i c n => [(8, .int .i64 (i : Int)), (2, .int .i64 (c : Int)), (3, .int .i64 (n : Int))]) (fun _ _ _ => []) [0, 6, 7] [] (fun _ _ _ => st)
    (fun i c n => i ≤ nameT.length ∧ n ≤ 3 ∧ namG s nameT 0 (0, 0) = namG s (nameT.drop i) i (c, n)) (fun i _ _ => nameT.length - i) 0 0 0 ⟨Nat.zero_le _, by decide, rfl⟩ (by refine ⟨rfl, ?_, ?_, rfl⟩ <;> repeat' (first | exact trivial | exact rfl | refine And.intro ?_ ?_)) (St.le_refl _) ?_
  rintro i c n ⟨h1, h2, h3⟩
  rcases hx : nameT[i]? with _ | x
  · have hge := List.getElem?_eq_none_iff.1 hx
    rw [List.drop_eq_nil_iff.2 hge] at h3
    have e := namF_of h3
    repeat' ((conv => whnf); first
      | (with_reducible first | exact Wa | exact Wb | exact Wc | refine Wd (by kernel_rfl) ?_ | refine We ?_ ?_ ?_ | refine W8 (by decide +kernel) ?_ ?_ ?_ | refine W9 ?_ ?_ ?_ | refine Wt (by first | assumption | omega) ?_ | refine Wu (by first | assumption | omega) ?_ | refine Wv (by omega) ?_ | refine Ww (by omega) ?_ | refine Wf (by decide) (fun _ => ?_) (fun _ => ?_) | refine Wg (fun _ => ?_) (fun _ => ?_) | refine Wh (fun _ => ?_) (fun _ => ?_) | refine Wi ?_ | refine Wj ?_ | refine Wk (fun _ => ?_) (fun _ => ?_) | refine Wl (fun _ => ?_) | refine Wm (by assumption) (by omega) ?_ | refine Wn (by omega) (by omega) (fun _ _ _ => ?_) | refine Wo (by omega) (by omega) ?_ | refine Wp (by omega) (by omega) (by omega) ?_ | refine Wq (by omega) (by omega) ?_ | refine Wr (by decide) (by omega) (by omega) ?_ | refine Ws (by decide) ?_ | refine Wx (fun _ => ?_) ?_ | refine Wy (fun _ => ?_) ?_ | refine Wz (fun _ => ?_) | refine WA (fun _ => ?_) | refine WB (by assumption) (by omega) ?_ | refine WC (by omega) (by omega) (fun _ _ => ?_) | refine WD (by omega) (by omega) (fun _ _ => ?_) | refine WE (by omega) (by omega) (by omega) ?_ | refine WJ (fun _ => ?_) | refine WK (fun _ _ _ => ?_) | refine WL (by assumption) (by omega) ?_ | refine WM (by omega) (by omega) (fun _ _ => ?_) | refine WN (by omega) (by omega) ?_ | refine WO (by omega) (by omega) ?_ | refine WP (by omega) (by omega) (by omega) ?_)
      | with_reducible refine WF ?_)
    all_goals first
      | exact fin h (by rw [e, if_pos (by omega)])
      | exact fin h (by rw [e, if_neg (by omega)])
  · have hlt := (List.getElem?_eq_some_iff.1 hx).1
    have hm := nameT_len x (List.mem_of_getElem? hx)
    rw [namG_step hx] at h3
    have hx' : nameT[((i : Int)).toNat]? = some x := hx
    repeat' ((conv => whnf); first
      | (with_reducible first | exact Wa | exact Wb | exact Wc | refine Wd (by kernel_rfl) ?_ | refine We ?_ ?_ ?_ | refine W8 (by decide +kernel) ?_ ?_ ?_ | refine W9 ?_ ?_ ?_ | refine Wt (by first | assumption | omega) ?_ | refine Wu (by first | assumption | omega) ?_ | refine Wv (by omega) ?_ | refine Ww (by omega) ?_ | refine Wf (by decide) (fun _ => ?_) (fun _ => ?_) | refine Wg (fun _ => ?_) (fun _ => ?_) | refine Wh (fun _ => ?_) (fun _ => ?_) | refine Wi ?_ | refine Wj ?_ | refine Wk (fun _ => ?_) (fun _ => ?_) | refine Wl (fun _ => ?_) | refine Wm (by assumption) (by omega) ?_ | refine Wn (by omega) (by omega) (fun _ _ _ => ?_) | refine Wo (by omega) (by omega) ?_ | refine Wp (by omega) (by omega) (by omega) ?_ | refine Wq (by omega) (by omega) ?_ | refine Wr (by decide) (by omega) (by omega) ?_ | refine Ws (by decide) ?_ | refine Wx (fun _ => ?_) ?_ | refine Wy (fun _ => ?_) ?_ | refine Wz (fun _ => ?_) | refine WA (fun _ => ?_) | refine WB (by assumption) (by omega) ?_ | refine WC (by omega) (by omega) (fun _ _ => ?_) | refine WD (by omega) (by omega) (fun _ _ => ?_) | refine WE (by omega) (by omega) (by omega) ?_ | refine WJ (fun _ => ?_) | refine WK (fun _ _ _ => ?_) | refine WL (by assumption) (by omega) ?_ | refine WM (by omega) (by omega) (fun _ _ => ?_) | refine WN (by omega) (by omega) ?_ | refine WO (by omega) (by omega) ?_ | refine WP (by omega) (by omega) (by omega) ?_)
      | refine at_strs hx' (by omega) ?_
      | refine prefix_c ?_
      | with_reducible refine WF ?_)
    · rw [if_pos ⟨by omega, by assumption⟩] at h3
      conv => whnf
      exact ⟨(i + 1, i, x.length), ⟨by dsimp only; omega, by dsimp only; omega, h3⟩, by dsimp only; omega, (by refine ⟨rfl, ?_, ?_, rfl⟩ <;> repeat' (first | exact trivial | exact rfl | refine And.intro ?_ ?_)), St.le_refl _⟩
    · have hp : x.isPrefixOf s = false := by assumption
      rw [if_neg (fun y => by rw [hp] at y; cases y.2)] at h3
      conv => whnf
      exact ⟨(i + 1, c, n), ⟨by dsimp only; omega, by dsimp only; omega, h3⟩, by dsimp only; omega, (by refine ⟨rfl, ?_, ?_, rfl⟩ <;> repeat' (first | exact trivial | exact rfl | refine And.intro ?_ ?_)), St.le_refl _⟩
    · rw [if_neg (fun y => by omega)] at h3
      conv => whnf
      exact ⟨(i + 1, c, n), ⟨by dsimp only; omega, by dsimp only; omega, h3⟩, by dsimp only; omega, (by refine ⟨rfl, ?_, ?_, rfl⟩ <;> repeat' (first | exact trivial | exact rfl | refine And.intro ?_ ?_)), St.le_refl _⟩
theorem number_c {s : List UInt8} {b : Int} (hl : s.length ≤ 100000000) (hb : b = 8 ∨ b = 10 ∨ b = 16) (h : R (.ret (.tup [.int .i64 (valF b 0 s), .int .i64 (rowN b s : Nat), .bool (decide (rowN b s ≠ 0 ∧ valF b 0 s ≤ 1114111))])) st) : PC 139 [.str s, .int .i64 b] st R := by
  refine pcalls_of_body tys_ok [] Tryz.func139 rfl (by decide) ?_
  repeat' ((conv => whnf); first
    | (with_reducible first | exact Wa | exact Wb | exact Wc | refine Wd (by kernel_rfl) ?_ | refine We ?_ ?_ ?_ | refine W8 (by decide +kernel) ?_ ?_ ?_ | refine W9 ?_ ?_ ?_ | refine Wt (by first | assumption | omega) ?_ | refine Wu (by first | assumption | omega) ?_ | refine Wv (by omega) ?_ | refine Ww (by omega) ?_ | refine Wf (by decide) (fun _ => ?_) (fun _ => ?_) | refine Wg (fun _ => ?_) (fun _ => ?_) | refine Wh (fun _ => ?_) (fun _ => ?_) | refine Wi ?_ | refine Wj ?_ | refine Wk (fun _ => ?_) (fun _ => ?_) | refine Wl (fun _ => ?_) | refine Wm (by assumption) (by omega) ?_ | refine Wn (by omega) (by omega) (fun _ _ _ => ?_) | refine Wo (by omega) (by omega) ?_ | refine Wp (by omega) (by omega) (by omega) ?_ | refine Wq (by omega) (by omega) ?_ | refine Wr (by decide) (by omega) (by omega) ?_ | refine Ws (by decide) ?_ | refine Wx (fun _ => ?_) ?_ | refine Wy (fun _ => ?_) ?_ | refine Wz (fun _ => ?_) | refine WA (fun _ => ?_) | refine WB (by assumption) (by omega) ?_ | refine WC (by omega) (by omega) (fun _ _ => ?_) | refine WD (by omega) (by omega) (fun _ _ => ?_) | refine WE (by omega) (by omega) (by omega) ?_ | refine WJ (fun _ => ?_) | refine WK (fun _ _ _ => ?_) | refine WL (by assumption) (by omega) ?_ | refine WM (by omega) (by omega) (fun _ _ => ?_) | refine WN (by omega) (by omega) ?_ | refine WO (by omega) (by omega) ?_ | refine WP (by omega) (by omega) (by omega) ?_)
    | with_reducible refine WF ?_)
  refine loop_2 (α := Nat) (β := Int) (fun pos v => [(4, .int .i64 v), (5, .int .i64 (pos : Int))]) (fun pos _ => [(0, [.sit s pos])]) [0, 1, 11] [] (fun _ _ => st)
    (fun pos v => pos ≤ s.length ∧ 0 ≤ v ∧ v ≤ 1114112 ∧ rowN b s = pos + rowN b (s.drop pos) ∧ valF b 0 s = valF b v (s.drop pos)) (fun pos _ => s.length - pos) 0 0 ⟨Nat.zero_le _, by decide, by decide, by simp, rfl⟩ (by refine ⟨rfl, ?_, ?_, rfl⟩ <;> repeat' (first | exact trivial | exact rfl | refine And.intro ?_ ?_)) (St.le_refl _) ?_
  rintro pos v ⟨h1, h2, h3, h4, h5⟩
  rcases hb with rfl | rfl | rfl
  · skip
    have hdl := fun c => digitF_lt (c := c) (b := 8)
    repeat' ((conv => whnf); first
      | (with_reducible first | exact Wa | exact Wb | exact Wc | refine Wd (by kernel_rfl) ?_ | refine We ?_ ?_ ?_ | refine W8 (by decide +kernel) ?_ ?_ ?_ | refine W9 ?_ ?_ ?_ | refine Wt (by first | assumption | omega) ?_ | refine Wu (by first | assumption | omega) ?_ | refine Wv (by omega) ?_ | refine Ww (by omega) ?_ | refine Wf (by decide) (fun _ => ?_) (fun _ => ?_) | refine Wg (fun _ => ?_) (fun _ => ?_) | refine Wh (fun _ => ?_) (fun _ => ?_) | refine Wi ?_ | refine Wj ?_ | refine Wk (fun _ => ?_) (fun _ => ?_) | refine Wl (fun _ => ?_) | refine Wm (by assumption) (by omega) ?_ | refine Wn (by omega) (by omega) (fun _ _ _ => ?_) | refine Wo (by omega) (by omega) ?_ | refine Wp (by omega) (by omega) (by omega) ?_ | refine Wq (by omega) (by omega) ?_ | refine Wr (by decide) (by omega) (by omega) ?_ | refine Ws (by decide) ?_ | refine Wx (fun _ => ?_) ?_ | refine Wy (fun _ => ?_) ?_ | refine Wz (fun _ => ?_) | refine WA (fun _ => ?_) | refine WB (by assumption) (by omega) ?_ | refine WC (by omega) (by omega) (fun _ _ => ?_) | refine WD (by omega) (by omega) (fun _ _ => ?_) | refine WE (by omega) (by omega) (by omega) ?_ | refine WJ (fun _ => ?_) | refine WK (fun _ _ _ => ?_) | refine WL (by assumption) (by omega) ?_ | refine WM (by omega) (by omega) (fun _ _ => ?_) | refine WN (by omega) (by omega) ?_ | refine WO (by omega) (by omega) ?_ | refine WP (by omega) (by omega) (by omega) ?_)
      | refine digit_c ?_
      | refine min_k ?_
      | refine ex_dig h2 h3 (by decide) (by decide) (by assumption) ?_
      | with_reducible refine WF ?_)
    all_goals first
      | (rename_i hlt c m hd hk _ _
         have e1 := rowN_no hlt hd hk
         have e2 := valF_no (v := v) hlt hd hk
         exact fin h (num3_ret (by omega) (h5.trans e2) (by first | exact decide_eq_true ⟨by omega, by omega⟩ | exact decide_eq_false (by omega))))
      | (rename_i hlt c m hd hk _
         have e1 := rowN_no hlt hd hk
         have e2 := valF_no (v := v) hlt hd hk
         exact fin h (num3_ret (by omega) (h5.trans e2) (by first | exact decide_eq_true ⟨by omega, by omega⟩ | exact decide_eq_false (by omega))))
      | (have e1 := rowN_none (base := 8) (s := s) (pos := pos) (by omega)
         have e2 := valF_none (base := 8) (v := v) (s := s) (pos := pos) (by omega)
         exact fin h (num3_ret (by omega) (h5.trans e2) (by first | exact decide_eq_true ⟨by omega, by omega⟩ | exact decide_eq_false (by omega))))
      | (rename_i hlt c m hd hk
         obtain ⟨e1, e2⟩ := rowN_go hlt hd hk
         have e3 := valF_go (v := v) hlt hd hk
         have e4 := hdl (c : Int)
         subst e1
         conv => whnf
         exact ⟨(pos + 1, min (v * 8 + digitF (c : Int) 8) 1114112), ⟨by dsimp only; omega, by dsimp only; omega, by dsimp only; omega, by dsimp only; omega, h5.trans e3⟩, by dsimp only; omega, (by refine ⟨rfl, ?_, ?_, rfl⟩ <;> repeat' (first | exact trivial | exact rfl | refine And.intro ?_ ?_)), St.le_refl _⟩)
  · skip
    have hdl := fun c => digitF_lt (c := c) (b := 10)
    repeat' ((conv => whnf); first
      | (with_reducible first | exact Wa | exact Wb | exact Wc | refine Wd (by kernel_rfl) ?_ | refine We ?_ ?_ ?_ | refine W8 (by decide +kernel) ?_ ?_ ?_ | refine W9 ?_ ?_ ?_ | refine Wt (by first | assumption | omega) ?_ | refine Wu (by first | assumption | omega) ?_ | refine Wv (by omega) ?_ | refine Ww (by omega) ?_ | refine Wf (by decide) (fun _ => ?_) (fun _ => ?_) | refine Wg (fun _ => ?_) (fun _ => ?_) | refine Wh (fun _ => ?_) (fun _ => ?_) | refine Wi ?_ | refine Wj ?_ | refine Wk (fun _ => ?_) (fun _ => ?_) | refine Wl (fun _ => ?_) | refine Wm (by assumption) (by omega) ?_ | refine Wn (by omega) (by omega) (fun _ _ _ => ?_) | refine Wo (by omega) (by omega) ?_ | refine Wp (by omega) (by omega) (by omega) ?_ | refine Wq (by omega) (by omega) ?_ | refine Wr (by decide) (by omega) (by omega) ?_ | refine Ws (by decide) ?_ | refine Wx (fun _ => ?_) ?_ | refine Wy (fun _ => ?_) ?_ | refine Wz (fun _ => ?_) | refine WA (fun _ => ?_) | refine WB (by assumption) (by omega) ?_ | refine WC (by omega) (by omega) (fun _ _ => ?_) | refine WD (by omega) (by omega) (fun _ _ => ?_) | refine WE (by omega) (by omega) (by omega) ?_ | refine WJ (fun _ => ?_) | refine WK (fun _ _ _ => ?_) | refine WL (by assumption) (by omega) ?_ | refine WM (by omega) (by omega) (fun _ _ => ?_) | refine WN (by omega) (by omega) ?_ | refine WO (by omega) (by omega) ?_ | refine WP (by omega) (by omega) (by omega) ?_)
      | refine digit_c ?_
      | refine min_k ?_
      | refine ex_dig h2 h3 (by decide) (by decide) (by assumption) ?_
      | with_reducible refine WF ?_)
    all_goals first
      | (rename_i hlt c m hd hk _ _
         have e1 := rowN_no hlt hd hk
         have e2 := valF_no (v := v) hlt hd hk
         exact fin h (num3_ret (by omega) (h5.trans e2) (by first | exact decide_eq_true ⟨by omega, by omega⟩ | exact decide_eq_false (by omega))))
      | (rename_i hlt c m hd hk _
         have e1 := rowN_no hlt hd hk
         have e2 := valF_no (v := v) hlt hd hk
         exact fin h (num3_ret (by omega) (h5.trans e2) (by first | exact decide_eq_true ⟨by omega, by omega⟩ | exact decide_eq_false (by omega))))
      | (have e1 := rowN_none (base := 10) (s := s) (pos := pos) (by omega)
         have e2 := valF_none (base := 10) (v := v) (s := s) (pos := pos) (by omega)
         exact fin h (num3_ret (by omega) (h5.trans e2) (by first | exact decide_eq_true ⟨by omega, by omega⟩ | exact decide_eq_false (by omega))))
      | (rename_i hlt c m hd hk
         obtain ⟨e1, e2⟩ := rowN_go hlt hd hk
         have e3 := valF_go (v := v) hlt hd hk
         have e4 := hdl (c : Int)
         subst e1
         conv => whnf
         exact ⟨(pos + 1, min (v * 10 + digitF (c : Int) 10) 1114112), ⟨by dsimp only; omega, by dsimp only; omega, by dsimp only; omega, by dsimp only; omega, h5.trans e3⟩, by dsimp only; omega, (by refine ⟨rfl, ?_, ?_, rfl⟩ <;> repeat' (first | exact trivial | exact rfl | refine And.intro ?_ ?_)), St.le_refl _⟩)
  · skip
    have hdl := fun c => digitF_lt (c := c) (b := 16)
    repeat' ((conv => whnf); first
      | (with_reducible first | exact Wa | exact Wb | exact Wc | refine Wd (by kernel_rfl) ?_ | refine We ?_ ?_ ?_ | refine W8 (by decide +kernel) ?_ ?_ ?_ | refine W9 ?_ ?_ ?_ | refine Wt (by first | assumption | omega) ?_ | refine Wu (by first | assumption | omega) ?_ | refine Wv (by omega) ?_ | refine Ww (by omega) ?_ | refine Wf (by decide) (fun _ => ?_) (fun _ => ?_) | refine Wg (fun _ => ?_) (fun _ => ?_) | refine Wh (fun _ => ?_) (fun _ => ?_) | refine Wi ?_ | refine Wj ?_ | refine Wk (fun _ => ?_) (fun _ => ?_) | refine Wl (fun _ => ?_) | refine Wm (by assumption) (by omega) ?_ | refine Wn (by omega) (by omega) (fun _ _ _ => ?_) | refine Wo (by omega) (by omega) ?_ | refine Wp (by omega) (by omega) (by omega) ?_ | refine Wq (by omega) (by omega) ?_ | refine Wr (by decide) (by omega) (by omega) ?_ | refine Ws (by decide) ?_ | refine Wx (fun _ => ?_) ?_ | refine Wy (fun _ => ?_) ?_ | refine Wz (fun _ => ?_) | refine WA (fun _ => ?_) | refine WB (by assumption) (by omega) ?_ | refine WC (by omega) (by omega) (fun _ _ => ?_) | refine WD (by omega) (by omega) (fun _ _ => ?_) | refine WE (by omega) (by omega) (by omega) ?_ | refine WJ (fun _ => ?_) | refine WK (fun _ _ _ => ?_) | refine WL (by assumption) (by omega) ?_ | refine WM (by omega) (by omega) (fun _ _ => ?_) | refine WN (by omega) (by omega) ?_ | refine WO (by omega) (by omega) ?_ | refine WP (by omega) (by omega) (by omega) ?_)
      | refine digit_c ?_
      | refine min_k ?_
      | refine ex_dig h2 h3 (by decide) (by decide) (by assumption) ?_
      | with_reducible refine WF ?_)
    all_goals first
      | (rename_i hlt c m hd hk _ _
         have e1 := rowN_no hlt hd hk
         have e2 := valF_no (v := v) hlt hd hk
         exact fin h (num3_ret (by omega) (h5.trans e2) (by first | exact decide_eq_true ⟨by omega, by omega⟩ | exact decide_eq_false (by omega))))
      | (rename_i hlt c m hd hk _
         have e1 := rowN_no hlt hd hk
         have e2 := valF_no (v := v) hlt hd hk
         exact fin h (num3_ret (by omega) (h5.trans e2) (by first | exact decide_eq_true ⟨by omega, by omega⟩ | exact decide_eq_false (by omega))))
      | (have e1 := rowN_none (base := 16) (s := s) (pos := pos) (by omega)
         have e2 := valF_none (base := 16) (v := v) (s := s) (pos := pos) (by omega)
         exact fin h (num3_ret (by omega) (h5.trans e2) (by first | exact decide_eq_true ⟨by omega, by omega⟩ | exact decide_eq_false (by omega))))
      | (rename_i hlt c m hd hk
         obtain ⟨e1, e2⟩ := rowN_go hlt hd hk
         have e3 := valF_go (v := v) hlt hd hk
         have e4 := hdl (c : Int)
         subst e1
         conv => whnf
         exact ⟨(pos + 1, min (v * 16 + digitF (c : Int) 16) 1114112), ⟨by dsimp only; omega, by dsimp only; omega, by dsimp only; omega, by dsimp only; omega, h5.trans e3⟩, by dsimp only; omega, (by refine ⟨rfl, ?_, ?_, rfl⟩ <;> repeat' (first | exact trivial | exact rfl | refine And.intro ?_ ?_)), St.le_refl _⟩)
end
end Go.Proofs.YtkcapphlemoccaaGreatDoor
set_option linter.unusedVariables false
namespace Go.Aw
open Go
theorem numV_some {b : Int} {l : List UInt8} {v : Int} {n : Nat} (h : numV b l = some (v, n)) : valF b 0 l = v ∧ rowN b l = n ∧ n ≠ 0 ∧ v ≤ 1114111 := by
  unfold numV at h
  split at h
  · cases h
  · injection h with h; injection h with h1 h2
    exact ⟨h1, h2, by omega, by omega⟩
theorem numV_none {b : Int} {l : List UInt8} (h : numV b l = none) : decide (rowN b l ≠ 0 ∧ valF b 0 l ≤ 1114111) = false := by
  unfold numV at h
  split at h
  · exact decide_eq_false (by omega)
  · cases h
theorem fin_eq {R : Res → St → Prop} {r r' : Res} {st st' : St} (es : st' = st) (h : R r st) (e : r = r') : ∃ r2 st2, (r2 = r' ∨ r2 = r'.wk) ∧ St.le st2 st' ∧ R r2 st2 := by subst es; exact ⟨r, st', .inl e, St.le_refl _, h⟩
theorem St.set_set' (st : St) (b : Nat) (cs cs' : List V) : (st.setBox b cs).setBox b cs' = st.setBox b cs' := by
  simp only [St.setBox, St.mk.injEq, and_true]
  funext x
  split <;> rfl
end Go.Aw
namespace Go.Proofs.YtkcapphlemoccaaGreatDoor
open Go Go.Aw
theorem qC_at {q : Nat} {i : Int} {s : List UInt8} {tx : Bool} {o : List Int} {w1 w2 : Own} {g : List (Nat × Nat)} (e : i = (q : Int)) : [V.str s, .int .i64 i, .bool tx, .slice 1 (ints o) w1, .slice 2 (prs g) w2] = qC s q tx o w1 g w2 := by subst e; rfl
section
variable {st : St} {R : Res → St → Prop}
theorem number_v {s : List UInt8} {i b v : Int} {n m : Nat} (e : i.toNat = m) (hn : numV b (s.drop m) = some (v, n)) (hl : s.length ≤ 100000000) (hb : b = 8 ∨ b = 10 ∨ b = 16) (h : R (.ret (.tup [.int .i64 v, .int .i64 n, .bool true])) st) : PC 139 [.str (s.drop i.toNat), .int .i64 b] st R := by
  rw [e]
  obtain ⟨e1, e2, e3, e4⟩ := numV_some hn
  exact number_c (by rw [List.length_drop]; omega) hb (by rw [e1, e2, decide_eq_true ⟨e3, e4⟩]; exact h)
theorem number_x {s : List UInt8} {i b : Int} {m : Nat} (e : i.toNat = m) (hn : numV b (s.drop m) = none) (hl : s.length ≤ 100000000) (hb : b = 8 ∨ b = 10 ∨ b = 16) (h : R (.ret (.tup [.int .i64 (valF b 0 (s.drop m)), .int .i64 (rowN b (s.drop m) : Nat), .bool false])) st) : PC 139 [.str (s.drop i.toNat), .int .i64 b] st R := by
  rw [e]
  exact number_c (by rw [List.length_drop]; omega) hb (by rw [numV_none hn]; exact h)
theorem digits_c {b p k : Nat} {frm base : Int} {s : List UInt8} {tx : Bool} {o : List Int} {w1 w2 : Own} {g : List (Nat × Nat)} (hl : s.length ≤ 100000000) (hp : p + k ≤ s.length) (hbase : base = 8 ∨ base = 10 ∨ base = 16) (hb : st.box b = some (qC s p tx o w1 g w2))
    (h : ∀ v n, numV base (s.drop (p + k)) = some (v, n) → R (.ret (.int .i64 v)) (st.setBox b (qC s (p + k + n) tx o w1 g w2))) (h0 : numV base (s.drop (p + k)) = none → R (.pan (qfault frm 51)) st) :
    PC 137 [.ptr b 0, .int .i64 frm, .int .i64 k, .int .i64 base] st R := by
  refine pcalls_of_body tys_ok [] Tryz.func137 rfl (by decide) ?_
  rcases hn : numV base (s.drop (p + k)) with _ | ⟨v, n⟩
  · have h0 := h0 hn
    repeat' ((conv => whnf); first
      | (with_reducible first | exact Wa | exact Wb | exact Wc | refine Wd (by kernel_rfl) ?_ | refine We ?_ ?_ ?_ | refine W8 (by decide +kernel) ?_ ?_ ?_ | refine W9 ?_ ?_ ?_ | refine Wt (by first | assumption | omega) ?_ | refine Wu (by first | assumption | omega) ?_ | refine Wv (by omega) ?_ | refine Ww (by omega) ?_ | refine Wf (by decide) (fun _ => ?_) (fun _ => ?_) | refine Wg (fun _ => ?_) (fun _ => ?_) | refine Wh (fun _ => ?_) (fun _ => ?_) | refine Wi ?_ | refine Wj ?_ | refine Wk (fun _ => ?_) (fun _ => ?_) | refine Wl (fun _ => ?_) | refine Wm (by assumption) (by omega) ?_ | refine Wn (by omega) (by omega) (fun _ _ _ => ?_) | refine Wo (by omega) (by omega) ?_ | refine Wp (by omega) (by omega) (by omega) ?_ | refine Wq (by omega) (by omega) ?_ | refine Wr (by decide) (by omega) (by omega) ?_ | refine Ws (by decide) ?_ | refine Wx (fun _ => ?_) ?_ | refine Wy (fun _ => ?_) ?_ | refine Wz (fun _ => ?_) | refine WA (fun _ => ?_) | refine WB (by assumption) (by omega) ?_ | refine WC (by omega) (by omega) (fun _ _ => ?_) | refine WD (by omega) (by omega) (fun _ _ => ?_) | refine WE (by omega) (by omega) (by omega) ?_ | refine WJ (fun _ => ?_) | refine WK (fun _ _ _ => ?_) | refine WL (by assumption) (by omega) ?_ | refine WM (by omega) (by omega) (fun _ _ => ?_) | refine WN (by omega) (by omega) ?_ | refine WO (by omega) (by omega) ?_ | refine WP (by omega) (by omega) (by omega) ?_)
      | refine on_box hb ?_
      | refine number_x (m := p + k) (by omega) hn hl hbase ?_
      | refine qfail_c ?_
      | with_reducible refine WF ?_)
    all_goals exact fin h0 rfl
  · have h := h v n hn
    have hle := numV_le hn
    rw [List.length_drop] at hle
    dsimp only at hle
    repeat' ((conv => whnf); first
      | (with_reducible first | exact Wa | exact Wb | exact Wc | refine Wd (by kernel_rfl) ?_ | refine We ?_ ?_ ?_ | refine W8 (by decide +kernel) ?_ ?_ ?_ | refine W9 ?_ ?_ ?_ | refine Wt (by first | assumption | omega) ?_ | refine Wu (by first | assumption | omega) ?_ | refine Wv (by omega) ?_ | refine Ww (by omega) ?_ | refine Wf (by decide) (fun _ => ?_) (fun _ => ?_) | refine Wg (fun _ => ?_) (fun _ => ?_) | refine Wh (fun _ => ?_) (fun _ => ?_) | refine Wi ?_ | refine Wj ?_ | refine Wk (fun _ => ?_) (fun _ => ?_) | refine Wl (fun _ => ?_) | refine Wm (by assumption) (by omega) ?_ | refine Wn (by omega) (by omega) (fun _ _ _ => ?_) | refine Wo (by omega) (by omega) ?_ | refine Wp (by omega) (by omega) (by omega) ?_ | refine Wq (by omega) (by omega) ?_ | refine Wr (by decide) (by omega) (by omega) ?_ | refine Ws (by decide) ?_ | refine Wx (fun _ => ?_) ?_ | refine Wy (fun _ => ?_) ?_ | refine Wz (fun _ => ?_) | refine WA (fun _ => ?_) | refine WB (by assumption) (by omega) ?_ | refine WC (by omega) (by omega) (fun _ _ => ?_) | refine WD (by omega) (by omega) (fun _ _ => ?_) | refine WE (by omega) (by omega) (by omega) ?_ | refine WJ (fun _ => ?_) | refine WK (fun _ _ _ => ?_) | refine WL (by assumption) (by omega) ?_ | refine WM (by omega) (by omega) (fun _ _ => ?_) | refine WN (by omega) (by omega) ?_ | refine WO (by omega) (by omega) ?_ | refine WP (by omega) (by omega) (by omega) ?_)
      | refine on_box hb ?_
      | refine number_v (m := p + k) (by omega) hn hl hbase ?_
      | refine qfail_c ?_
      | with_reducible refine WF ?_)
    exact fin_eq (congrArg (st.setBox b) (qC_at (by omega))) h rfl
theorem gapN_at {s : List UInt8} {p : Nat} : gapN (s.drop p) = if hdF (s.drop p) = 92 ∧ spanR (fun c => classF c == 1) (s.drop (p + 1)) ≠ 0 ∧ hdF (s.drop (p + 1 + spanR (fun c => classF c == 1) (s.drop (p + 1)))) = 92 then spanR (fun c => classF c == 1) (s.drop (p + 1)) + 2 else 0 := by
  have hd1 : (s.drop p).drop 1 = s.drop (p + 1) := List.drop_drop
  unfold gapN; rw [hd1, List.drop_drop, Nat.add_assoc]
theorem run_blank {s : List UInt8} {i : Int} {q k : Nat} (hl : s.length ≤ 100000000) (hq : q ≤ s.length) (hk : spanR (fun c => classF c == 1) (s.drop q) = k) (e : i = (q : Int)) (h : R (.ret (.int .i64 (q + k : Nat))) st) : PC 35 [.str s, .int .i64 i, .int .i64 1] st R := by
  subst e; exact run_c (by omega) (by rw [runF_in (by omega) (by omega), show (q : Int).toNat = q by omega, hk]; exact h)
theorem gap_no {b p : Nat} {s : List UInt8} {tx : Bool} {o : List Int} {w1 w2 : Own} {g : List (Nat × Nat)} (hl : s.length ≤ 100000000) (hp : p ≤ s.length) (hb : st.box b = some (qC s p tx o w1 g w2)) (hg : tx = false ∨ gapN (s.drop p) = 0) (h : R (.ret (.bool false)) st) : PC 131 [.ptr b 0] st R := by
  refine pcalls_of_body tys_ok [] Tryz.func131 rfl (by decide) ?_
  have hby := byF_hd (s.drop p)
  cases tx with
  | false =>
    repeat' ((conv => whnf); first
      | (with_reducible first | exact Wa | exact Wb | exact Wc | refine Wd (by kernel_rfl) ?_ | refine We ?_ ?_ ?_ | refine W8 (by decide +kernel) ?_ ?_ ?_ | refine W9 ?_ ?_ ?_ | refine Wt (by first | assumption | omega) ?_ | refine Wu (by first | assumption | omega) ?_ | refine Wv (by omega) ?_ | refine Ww (by omega) ?_ | refine Wf (by decide) (fun _ => ?_) (fun _ => ?_) | refine Wg (fun _ => ?_) (fun _ => ?_) | refine Wh (fun _ => ?_) (fun _ => ?_) | refine Wi ?_ | refine Wj ?_ | refine Wk (fun _ => ?_) (fun _ => ?_) | refine Wl (fun _ => ?_) | refine Wm (by assumption) (by omega) ?_ | refine Wn (by omega) (by omega) (fun _ _ _ => ?_) | refine Wo (by omega) (by omega) ?_ | refine Wp (by omega) (by omega) (by omega) ?_ | refine Wq (by omega) (by omega) ?_ | refine Wr (by decide) (by omega) (by omega) ?_ | refine Ws (by decide) ?_ | refine Wx (fun _ => ?_) ?_ | refine Wy (fun _ => ?_) ?_ | refine Wz (fun _ => ?_) | refine WA (fun _ => ?_) | refine WB (by assumption) (by omega) ?_ | refine WC (by omega) (by omega) (fun _ _ => ?_) | refine WD (by omega) (by omega) (fun _ _ => ?_) | refine WE (by omega) (by omega) (by omega) ?_ | refine WJ (fun _ => ?_) | refine WK (fun _ _ _ => ?_) | refine WL (by assumption) (by omega) ?_ | refine WM (by omega) (by omega) (fun _ _ => ?_) | refine WN (by omega) (by omega) ?_ | refine WO (by omega) (by omega) ?_ | refine WP (by omega) (by omega) (by omega) ?_)
      | refine on_box hb ?_
      | refine byteAt_c (k := 0) hl hp (by decide) hb ?_
      | with_reducible refine WF ?_)
    all_goals exact fin h rfl
  | true =>
    have hg : gapN (s.drop p) = 0 := hg.resolve_left (by decide)
    by_cases h1 : hdF (s.drop p) = 92
    · have hp1 : p < s.length := hdF_lt_len (k := p) (by omega)
      have hr := spanR_le (fun c => classF c == 1) (s.drop (p + 1))
      have hgn := gapN_at (s := s) (p := p)
      rw [List.length_drop] at hr
      generalize hk : spanR (fun c => classF c == 1) (s.drop (p + 1)) = k at hr hgn
      have hno : k ≠ 0 → ¬ hdF (s.drop (p + 1 + k)) = 92 := fun e1 e2 => by rw [if_pos ⟨h1, e1, e2⟩] at hgn; omega
      have hb0 : byF (s.drop p) = 92 := by omega
      by_cases hlt : p + 1 + k < s.length
      · obtain ⟨e, he⟩ : ∃ e, s[p + 1 + k]? = some e := ⟨s[p + 1 + k], List.getElem?_eq_getElem hlt⟩
        have he' : s[((p + 1 + k : Nat) : Int).toNat]? = some e := he
        have hv := hdF_at he
        repeat' ((conv => whnf); first
          | (with_reducible first | exact Wa | exact Wb | exact Wc | refine Wd (by kernel_rfl) ?_ | refine We ?_ ?_ ?_ | refine W8 (by decide +kernel) ?_ ?_ ?_ | refine W9 ?_ ?_ ?_ | refine Wt (by first | assumption | omega) ?_ | refine Wu (by first | assumption | omega) ?_ | refine Wv (by omega) ?_ | refine Ww (by omega) ?_ | refine Wf (by decide) (fun _ => ?_) (fun _ => ?_) | refine Wg (fun _ => ?_) (fun _ => ?_) | refine Wh (fun _ => ?_) (fun _ => ?_) | refine Wi ?_ | refine Wj ?_ | refine Wk (fun _ => ?_) (fun _ => ?_) | refine Wl (fun _ => ?_) | refine Wm (by assumption) (by omega) ?_ | refine Wn (by omega) (by omega) (fun _ _ _ => ?_) | refine Wo (by omega) (by omega) ?_ | refine Wp (by omega) (by omega) (by omega) ?_ | refine Wq (by omega) (by omega) ?_ | refine Wr (by decide) (by omega) (by omega) ?_ | refine Ws (by decide) ?_ | refine Wx (fun _ => ?_) ?_ | refine Wy (fun _ => ?_) ?_ | refine Wz (fun _ => ?_) | refine WA (fun _ => ?_) | refine WB (by assumption) (by omega) ?_ | refine WC (by omega) (by omega) (fun _ _ => ?_) | refine WD (by omega) (by omega) (fun _ _ => ?_) | refine WE (by omega) (by omega) (by omega) ?_ | refine WJ (fun _ => ?_) | refine WK (fun _ _ _ => ?_) | refine WL (by assumption) (by omega) ?_ | refine WM (by omega) (by omega) (fun _ _ => ?_) | refine WN (by omega) (by omega) ?_ | refine WO (by omega) (by omega) ?_ | refine WP (by omega) (by omega) (by omega) ?_)
          | refine on_box hb ?_
          | refine byteAt_c (k := 0) hl hp (by decide) hb ?_
          | refine run_blank (q := p + 1) hl (by omega) hk (by omega) ?_
          | with_reducible refine WF ?_)
        all_goals exact fin h rfl
      · skip
        repeat' ((conv => whnf); first
          | (with_reducible first | exact Wa | exact Wb | exact Wc | refine Wd (by kernel_rfl) ?_ | refine We ?_ ?_ ?_ | refine W8 (by decide +kernel) ?_ ?_ ?_ | refine W9 ?_ ?_ ?_ | refine Wt (by first | assumption | omega) ?_ | refine Wu (by first | assumption | omega) ?_ | refine Wv (by omega) ?_ | refine Ww (by omega) ?_ | refine Wf (by decide) (fun _ => ?_) (fun _ => ?_) | refine Wg (fun _ => ?_) (fun _ => ?_) | refine Wh (fun _ => ?_) (fun _ => ?_) | refine Wi ?_ | refine Wj ?_ | refine Wk (fun _ => ?_) (fun _ => ?_) | refine Wl (fun _ => ?_) | refine Wm (by assumption) (by omega) ?_ | refine Wn (by omega) (by omega) (fun _ _ _ => ?_) | refine Wo (by omega) (by omega) ?_ | refine Wp (by omega) (by omega) (by omega) ?_ | refine Wq (by omega) (by omega) ?_ | refine Wr (by decide) (by omega) (by omega) ?_ | refine Ws (by decide) ?_ | refine Wx (fun _ => ?_) ?_ | refine Wy (fun _ => ?_) ?_ | refine Wz (fun _ => ?_) | refine WA (fun _ => ?_) | refine WB (by assumption) (by omega) ?_ | refine WC (by omega) (by omega) (fun _ _ => ?_) | refine WD (by omega) (by omega) (fun _ _ => ?_) | refine WE (by omega) (by omega) (by omega) ?_ | refine WJ (fun _ => ?_) | refine WK (fun _ _ _ => ?_) | refine WL (by assumption) (by omega) ?_ | refine WM (by omega) (by omega) (fun _ _ => ?_) | refine WN (by omega) (by omega) ?_ | refine WO (by omega) (by omega) ?_ | refine WP (by omega) (by omega) (by omega) ?_)
          | refine on_box hb ?_
          | refine byteAt_c (k := 0) hl hp (by decide) hb ?_
          | refine run_blank (q := p + 1) hl (by omega) hk (by omega) ?_
          | with_reducible refine WF ?_)
        all_goals exact fin h rfl
    · have hb0 : ¬ byF (s.drop p) = 92 := by omega
      repeat' ((conv => whnf); first
        | (with_reducible first | exact Wa | exact Wb | exact Wc | refine Wd (by kernel_rfl) ?_ | refine We ?_ ?_ ?_ | refine W8 (by decide +kernel) ?_ ?_ ?_ | refine W9 ?_ ?_ ?_ | refine Wt (by first | assumption | omega) ?_ | refine Wu (by first | assumption | omega) ?_ | refine Wv (by omega) ?_ | refine Ww (by omega) ?_ | refine Wf (by decide) (fun _ => ?_) (fun _ => ?_) | refine Wg (fun _ => ?_) (fun _ => ?_) | refine Wh (fun _ => ?_) (fun _ => ?_) | refine Wi ?_ | refine Wj ?_ | refine Wk (fun _ => ?_) (fun _ => ?_) | refine Wl (fun _ => ?_) | refine Wm (by assumption) (by omega) ?_ | refine Wn (by omega) (by omega) (fun _ _ _ => ?_) | refine Wo (by omega) (by omega) ?_ | refine Wp (by omega) (by omega) (by omega) ?_ | refine Wq (by omega) (by omega) ?_ | refine Wr (by decide) (by omega) (by omega) ?_ | refine Ws (by decide) ?_ | refine Wx (fun _ => ?_) ?_ | refine Wy (fun _ => ?_) ?_ | refine Wz (fun _ => ?_) | refine WA (fun _ => ?_) | refine WB (by assumption) (by omega) ?_ | refine WC (by omega) (by omega) (fun _ _ => ?_) | refine WD (by omega) (by omega) (fun _ _ => ?_) | refine WE (by omega) (by omega) (by omega) ?_ | refine WJ (fun _ => ?_) | refine WK (fun _ _ _ => ?_) | refine WL (by assumption) (by omega) ?_ | refine WM (by omega) (by omega) (fun _ _ => ?_) | refine WN (by omega) (by omega) ?_ | refine WO (by omega) (by omega) ?_ | refine WP (by omega) (by omega) (by omega) ?_)
        | refine on_box hb ?_
        | refine byteAt_c (k := 0) hl hp (by decide) hb ?_
        | with_reducible refine WF ?_)
      all_goals exact fin h rfl
attribute [local irreducible] Go.Aw.appendTo
theorem gap_yes {st0 : St} {b p : Nat} {s : List UInt8} {o : List Int} {w1 w2 : Own} {g : List (Nat × Nat)} (hl : s.length ≤ 100000000) (hb : st.box b = some (qC s p true o w1 g w2)) (hg : 0 < gapN (s.drop p)) (hr2 : Rows2 st0 st w1 o.length w2 (2 * g.length)) (hgl : g.length ≤ 100000000)
    (h : ∀ w2' st', Rows2 st0 st' w1 o.length w2' (2 * (g ++ [(p, p + gapN (s.drop p))]).length) → st'.box = st.box → R (.ret (.bool true)) (st'.setBox b (qC s (p + gapN (s.drop p)) true o w1 (g ++ [(p, p + gapN (s.drop p))]) w2'))) : PC 131 [.ptr b 0] st R := by
  have hby := byF_hd (s.drop p)
  have hgn := gapN_at (s := s) (p := p)
  have hr := spanR_le (fun c => classF c == 1) (s.drop (p + 1))
  rw [List.length_drop] at hr
  generalize hk : spanR (fun c => classF c == 1) (s.drop (p + 1)) = k at hr hgn
  have hc : hdF (s.drop p) = 92 ∧ k ≠ 0 ∧ hdF (s.drop (p + 1 + k)) = 92 := by
    by_cases hc : hdF (s.drop p) = 92 ∧ k ≠ 0 ∧ hdF (s.drop (p + 1 + k)) = 92
    · exact hc
    · rw [if_neg hc] at hgn; omega
  rw [if_pos hc] at hgn
  obtain ⟨h1, h2, h3⟩ := hc
  have hp1 : p < s.length := hdF_lt_len (k := p) (by omega)
  have hp2 : p + 1 + k < s.length := hdF_lt_len (k := p + 1 + k) (by omega)
  obtain ⟨e, he⟩ : ∃ e, s[p + 1 + k]? = some e := ⟨s[p + 1 + k], List.getElem?_eq_getElem hp2⟩
  have he' : s[((p + 1 + k : Nat) : Int).toNat]? = some e := he
  have hv := hdF_at he
  have hb0 : byF (s.drop p) = 92 := by omega
  have hpk : ((p + 1 + k : Nat) : Int) + 1 = ((p + (k + 2) : Nat) : Int) := by omega
  rw [hgn] at h
  refine pcalls_of_body tys_ok [] Tryz.func131 rfl (by decide) ?_
  repeat' ((conv => whnf); first
    | refine draw_mix [(0, true), (1, true), (2, true), (3, true), (4, true), (5, true), (6, true), (7, true), (8, true), (9, true), (10, true), (11, true), (12, true), (13, false), (14, true), (15, true), (16, false)] [] (by decide +kernel) ?_
    | (with_reducible first | exact Wa | exact Wb | exact Wc | refine Wd (by kernel_rfl) ?_ | refine We ?_ ?_ ?_ | refine W8 (by decide +kernel) ?_ ?_ ?_ | refine W9 ?_ ?_ ?_ | refine Wt (by first | assumption | omega) ?_ | refine Wu (by first | assumption | omega) ?_ | refine Wv (by omega) ?_ | refine Ww (by omega) ?_ | refine Wf (by decide) (fun _ => ?_) (fun _ => ?_) | refine Wg (fun _ => ?_) (fun _ => ?_) | refine Wh (fun _ => ?_) (fun _ => ?_) | refine Wi ?_ | refine Wj ?_ | refine Wk (fun _ => ?_) (fun _ => ?_) | refine Wl (fun _ => ?_) | refine Wm (by assumption) (by omega) ?_ | refine Wn (by omega) (by omega) (fun _ _ _ => ?_) | refine Wo (by omega) (by omega) ?_ | refine Wp (by omega) (by omega) (by omega) ?_ | refine Wq (by omega) (by omega) ?_ | refine Wr (by decide) (by omega) (by omega) ?_ | refine Ws (by decide) ?_ | refine Wx (fun _ => ?_) ?_ | refine Wy (fun _ => ?_) ?_ | refine Wz (fun _ => ?_) | refine WA (fun _ => ?_) | refine WB (by assumption) (by omega) ?_ | refine WC (by omega) (by omega) (fun _ _ => ?_) | refine WD (by omega) (by omega) (fun _ _ => ?_) | refine WE (by omega) (by omega) (by omega) ?_ | refine WJ (fun _ => ?_) | refine WK (fun _ _ _ => ?_) | refine WL (by assumption) (by omega) ?_ | refine WM (by omega) (by omega) (fun _ _ => ?_) | refine WN (by omega) (by omega) ?_ | refine WO (by omega) (by omega) ?_ | refine WP (by omega) (by omega) (by omega) ?_)
    | refine on_box hb ?_
    | refine byteAt_c (k := 0) hl (by omega) (by decide) hb ?_
    | refine run_blank (q := p + 1) hl (by omega) hk (by omega) ?_
    | refine rows_pair (p := (p, p + (k + 2))) hr2 (by omega) rfl hpk (fun w2' st1 hr3 hb3 => ?_)
    | refine on_box ((congrFun hb3 b).trans hb) ?_
    | refine on_box (St.box_at _ _ _) ?_
    | with_reducible refine WF ?_)
  exact fin_eq ((St.set_set' _ _ _ _).trans (congrArg (st1.setBox b) (qC_at (by omega)))) (h w2' st1 hr3 hb3) rfl
end
end Go.Proofs.YtkcapphlemoccaaGreatDoor
set_option linter.unusedVariables false
namespace Go.Aw
open Go
theorem sgnF_by (l : List UInt8) : sgnF (byF l) = sgnF (hdF l) := by
  rcases byF_hd l with ⟨h1, h2⟩ | ⟨h1, h2⟩
  · rw [h1, h2]; rfl
  · rw [h2]
theorem sgnF_no {c : Int} (h : sgnF c = none) : c ≠ 92 ∧ c ≠ 34 ∧ c ≠ 39 := by
  refine ⟨fun e => ?_, fun e => ?_, fun e => ?_⟩ <;> (subst e; cases h)
theorem u8_in {a : Int} (h1 : 0 ≤ a) (h2 : a ≤ 255) : IntKind.u8.wrap a = a := IntWalk.u8_in _ ⟨h1, h2⟩
theorem escF_sgn {tx : Bool} {l : List UInt8} {v : Int} (h : sgnF (hdF (l.drop 1)) = some v) : escF tx l = some (v, 2) := by unfold escF; rw [h]
theorem escF_amp {l : List UInt8} (h : hdF (l.drop 1) = 38) : escF true l = some (-1, 2) := by
  unfold escF; rw [show sgnF (hdF (l.drop 1)) = none by rw [h]; rfl]
  exact if_pos ⟨h, rfl⟩
theorem escF_ctl {tx : Bool} {l : List UInt8} (h : hdF (l.drop 1) = 94) (h1 : 64 ≤ hdF (l.drop 2)) (h2 : hdF (l.drop 2) ≤ 95) : escF tx l = some (hdF (l.drop 2) - 64, 3) := by
  unfold escF; rw [show sgnF (hdF (l.drop 1)) = none by rw [h]; rfl]
  dsimp only
  rw [if_neg (by omega), if_pos ⟨h, h1, h2⟩]
theorem escF_oct {tx : Bool} {l : List UInt8} (h : hdF (l.drop 1) = 111) : escF tx l = (numV 8 (l.drop 2)).map fun p => (p.1, 2 + p.2) := by
  unfold escF; rw [show sgnF (hdF (l.drop 1)) = none by rw [h]; rfl]
  dsimp only
  rw [if_neg (by omega), if_neg (by omega), if_pos h]
theorem escF_hex {tx : Bool} {l : List UInt8} (h : hdF (l.drop 1) = 120) : escF tx l = (numV 16 (l.drop 2)).map fun p => (p.1, 2 + p.2) := by
  unfold escF; rw [show sgnF (hdF (l.drop 1)) = none by rw [h]; rfl]
  dsimp only
  rw [if_neg (by omega), if_neg (by omega), if_neg (by omega), if_pos h]
theorem escF_dec {tx : Bool} {l : List UInt8} (h : 48 ≤ hdF (l.drop 1)) (h1 : hdF (l.drop 1) ≤ 57) : escF tx l = (numV 10 (l.drop 1)).map fun p => (p.1, 1 + p.2) := by
  have hs : sgnF (hdF (l.drop 1)) = none := by
    unfold sgnF
    (repeat' split) <;> first | rfl | (exfalso; omega)
  unfold escF; rw [hs]
  dsimp only
  rw [if_neg (by omega), if_neg (by omega), if_neg (by omega), if_neg (by omega), if_pos ⟨h, h1⟩]
theorem escF_nam {tx : Bool} {l : List UInt8} (h : sgnF (hdF (l.drop 1)) = none) (h1 : ¬ (hdF (l.drop 1) = 38 ∧ tx = true)) (h2 : ¬ (hdF (l.drop 1) = 94 ∧ 64 ≤ hdF (l.drop 2) ∧ hdF (l.drop 2) ≤ 95)) (h3 : hdF (l.drop 1) ≠ 111) (h4 : hdF (l.drop 1) ≠ 120) (h5 : ¬ (48 ≤ hdF (l.drop 1) ∧ hdF (l.drop 1) ≤ 57)) :
    escF tx l = if 0 < (namF (l.drop 1)).2 then some ((namF (l.drop 1)).1, 1 + (namF (l.drop 1)).2) else none := by
  unfold escF; rw [h]
  dsimp only
  rw [if_neg h1, if_neg h2, if_neg h3, if_neg h4, if_neg h5]
end Go.Aw
namespace Go.Proofs.YtkcapphlemoccaaGreatDoor
open Go Go.Aw
section
variable {st : St} {R : Res → St → Prop}
theorem named_e {s : List UInt8} {i : Int} {n : Nat} (e : i.toNat = n) (hl : s.length ≤ 100000000) (h : R (.ret (.tup [.int .i64 (namF (s.drop n)).1, .int .i64 (namF (s.drop n)).2])) st) : PC 138 [.str (s.drop i.toNat)] st R := by
  rw [e]; exact named_c (by rw [List.length_drop]; omega) h
set_option maxHeartbeats 1200000 in
theorem escape_c {b p : Nat} {s : List UInt8} {tx : Bool} {o : List Int} {w1 w2 : Own} {g : List (Nat × Nat)} (hl : s.length ≤ 100000000) (hp : p < s.length) (hb : st.box b = some (qC s p tx o w1 g w2))
    (h : ∀ v n, escF tx (s.drop p) = some (v, n) → R (.ret (.int .i64 v)) (st.setBox b (qC s (p + n) tx o w1 g w2))) (h0 : escF tx (s.drop p) = none → ∀ q, R (.pan (qfault p 51)) (st.setBox b (qC s q tx o w1 g w2))) :
    PC 132 [.ptr b 0] st R := by
  have d1 : (s.drop p).drop 1 = s.drop (p + 1) := List.drop_drop
  have d2 : (s.drop p).drop 2 = s.drop (p + 1 + 1) := List.drop_drop
  refine pcalls_of_aw tys_ok [] Tryz.func132 rfl (by decide) rfl ?_
  refine AW_seq2 (aw_of tys_ok ?_)
  repeat' ((conv => whnf); first
    | (with_reducible first | exact Wa | exact Wb | exact Wc | refine Wd (by kernel_rfl) ?_ | refine We ?_ ?_ ?_ | refine W8 (by decide +kernel) ?_ ?_ ?_ | refine W9 ?_ ?_ ?_ | refine Wt (by first | assumption | omega) ?_ | refine Wu (by first | assumption | omega) ?_ | refine Wv (by omega) ?_ | refine Ww (by omega) ?_ | refine Wf (by decide) (fun _ => ?_) (fun _ => ?_) | refine Wg (fun _ => ?_) (fun _ => ?_) | refine Wh (fun _ => ?_) (fun _ => ?_) | refine Wi ?_ | refine Wj ?_ | refine Wk (fun _ => ?_) (fun _ => ?_) | refine Wl (fun _ => ?_) | refine Wm (by assumption) (by omega) ?_ | refine Wn (by omega) (by omega) (fun _ _ _ => ?_) | refine Wo (by omega) (by omega) ?_ | refine Wp (by omega) (by omega) (by omega) ?_ | refine Wq (by omega) (by omega) ?_ | refine Wr (by decide) (by omega) (by omega) ?_ | refine Ws (by decide) ?_ | refine Wx (fun _ => ?_) ?_ | refine Wy (fun _ => ?_) ?_ | refine Wz (fun _ => ?_) | refine WA (fun _ => ?_) | refine WB (by assumption) (by omega) ?_ | refine WC (by omega) (by omega) (fun _ _ => ?_) | refine WD (by omega) (by omega) (fun _ _ => ?_) | refine WE (by omega) (by omega) (by omega) ?_ | refine WJ (fun _ => ?_) | refine WK (fun _ _ _ => ?_) | refine WL (by assumption) (by omega) ?_ | refine WM (by omega) (by omega) (fun _ _ => ?_) | refine WN (by omega) (by omega) ?_ | refine WO (by omega) (by omega) ?_ | refine WP (by omega) (by omega) (by omega) ?_)
    | with_reducible refine WF ?_)
  refine AW_seq2 (aw_of tys_ok ?_)
  repeat' ((conv => whnf); first
    | (with_reducible first | exact Wa | exact Wb | exact Wc | refine Wd (by kernel_rfl) ?_ | refine We ?_ ?_ ?_ | refine W8 (by decide +kernel) ?_ ?_ ?_ | refine W9 ?_ ?_ ?_ | refine Wt (by first | assumption | omega) ?_ | refine Wu (by first | assumption | omega) ?_ | refine Wv (by omega) ?_ | refine Ww (by omega) ?_ | refine Wf (by decide) (fun _ => ?_) (fun _ => ?_) | refine Wg (fun _ => ?_) (fun _ => ?_) | refine Wh (fun _ => ?_) (fun _ => ?_) | refine Wi ?_ | refine Wj ?_ | refine Wk (fun _ => ?_) (fun _ => ?_) | refine Wl (fun _ => ?_) | refine Wm (by assumption) (by omega) ?_ | refine Wn (by omega) (by omega) (fun _ _ _ => ?_) | refine Wo (by omega) (by omega) ?_ | refine Wp (by omega) (by omega) (by omega) ?_ | refine Wq (by omega) (by omega) ?_ | refine Wr (by decide) (by omega) (by omega) ?_ | refine Ws (by decide) ?_ | refine Wx (fun _ => ?_) ?_ | refine Wy (fun _ => ?_) ?_ | refine Wz (fun _ => ?_) | refine WA (fun _ => ?_) | refine WB (by assumption) (by omega) ?_ | refine WC (by omega) (by omega) (fun _ _ => ?_) | refine WD (by omega) (by omega) (fun _ _ => ?_) | refine WE (by omega) (by omega) (by omega) ?_ | refine WJ (fun _ => ?_) | refine WK (fun _ _ _ => ?_) | refine WL (by assumption) (by omega) ?_ | refine WM (by omega) (by omega) (fun _ _ => ?_) | refine WN (by omega) (by omega) ?_ | refine WO (by omega) (by omega) ?_ | refine WP (by omega) (by omega) (by omega) ?_)
    | refine on_box hb ?_
    | with_reducible refine WF ?_)
  refine AW_seq2 (aw_of tys_ok ?_)
  repeat' ((conv => whnf); first
    | (with_reducible first | exact Wa | exact Wb | exact Wc | refine Wd (by kernel_rfl) ?_ | refine We ?_ ?_ ?_ | refine W8 (by decide +kernel) ?_ ?_ ?_ | refine W9 ?_ ?_ ?_ | refine Wt (by first | assumption | omega) ?_ | refine Wu (by first | assumption | omega) ?_ | refine Wv (by omega) ?_ | refine Ww (by omega) ?_ | refine Wf (by decide) (fun _ => ?_) (fun _ => ?_) | refine Wg (fun _ => ?_) (fun _ => ?_) | refine Wh (fun _ => ?_) (fun _ => ?_) | refine Wi ?_ | refine Wj ?_ | refine Wk (fun _ => ?_) (fun _ => ?_) | refine Wl (fun _ => ?_) | refine Wm (by assumption) (by omega) ?_ | refine Wn (by omega) (by omega) (fun _ _ _ => ?_) | refine Wo (by omega) (by omega) ?_ | refine Wp (by omega) (by omega) (by omega) ?_ | refine Wq (by omega) (by omega) ?_ | refine Wr (by decide) (by omega) (by omega) ?_ | refine Ws (by decide) ?_ | refine Wx (fun _ => ?_) ?_ | refine Wy (fun _ => ?_) ?_ | refine Wz (fun _ => ?_) | refine WA (fun _ => ?_) | refine WB (by assumption) (by omega) ?_ | refine WC (by omega) (by omega) (fun _ _ => ?_) | refine WD (by omega) (by omega) (fun _ _ => ?_) | refine WE (by omega) (by omega) (by omega) ?_ | refine WJ (fun _ => ?_) | refine WK (fun _ _ _ => ?_) | refine WL (by assumption) (by omega) ?_ | refine WM (by omega) (by omega) (fun _ _ => ?_) | refine WN (by omega) (by omega) ?_ | refine WO (by omega) (by omega) ?_ | refine WP (by omega) (by omega) (by omega) ?_)
    | refine on_box hb ?_
    | with_reducible refine WF ?_)
  refine AW_st (st' := st.setBox b (qC s (p + 1) tx o w1 g w2)) rfl ?_
  have endq : ∀ {i : Int} {q : Nat}, i = (q : Int) → (st.setBox b (qC s (p + 1) tx o w1 g w2)).setBox b [V.str s, .int .i64 i, .bool tx, .slice 1 (ints o) w1, .slice 2 (prs g) w2] = st.setBox b (qC s q tx o w1 g w2) := fun e => by rw [St.set_set', qC_at e]
  have endp : ∀ {q : Nat}, (st.setBox b (qC s (p + 1) tx o w1 g w2)).setBox b (qC s q tx o w1 g w2) = st.setBox b (qC s q tx o w1 g w2) := St.set_set' _ _ _ _
  have hb1 : (st.setBox b (qC s (p + 1) tx o w1 g w2)).box b = some (qC s (p + 1) tx o w1 g w2) := St.box_at _ _ _
  have h0' := fun e => h0 e (p + 1)
  generalize hst : st.setBox b (qC s (p + 1) tx o w1 g w2) = st1 at hb1 endq endp h0'
  have hx1 := byF_hd (s.drop (p + 1))
  have hx2 := byF_hd (s.drop (p + 1 + 1))
  have hxl := hdF_lt (s.drop (p + 1))
  have hby0 : ∀ {R : Res → St → Prop}, R (.ret (.int .u8 (byF (s.drop (p + 1))))) st1 → PC 114 [.ptr b 0, .int .i64 0] st1 R := fun h => byteAt_c (k := 0) hl (by omega) (by decide) hb1 h
  have hby1 : ∀ {R : Res → St → Prop}, R (.ret (.int .u8 (byF (s.drop (p + 1 + 1))))) st1 → PC 114 [.ptr b 0, .int .i64 1] st1 R := fun h => byteAt_c (k := 1) hl (by omega) (by decide) hb1 h
  have l1 := fun h => hdF_lt_len (l := s) (k := p + 1) h
  have l2 := fun h => hdF_lt_len (l := s) (k := p + 1 + 1) h
  cases hsg : sgnF (hdF (s.drop (p + 1))) with
  | some v =>
    have hv := sgnF_pos hsg
    have h1 := h v 2 (escF_sgn (by rw [d1]; exact hsg))
    have hsn : ∀ {R : Res → St → Prop}, R (.ret (sgnR (some v))) st1 → PC 136 [.int .u8 (byF (s.drop (p + 1)))] st1 R := fun h => sign_c (by omega) (by omega) (by rw [sgnF_by, hsg]; exact h)
    refine aw_of tys_ok ?_
    repeat' ((conv => whnf); first
      | (with_reducible first | exact Wa | exact Wb | exact Wc | refine Wd (by kernel_rfl) ?_ | refine We ?_ ?_ ?_ | refine W8 (by decide +kernel) ?_ ?_ ?_ | refine W9 ?_ ?_ ?_ | refine Wt (by first | assumption | omega) ?_ | refine Wu (by first | assumption | omega) ?_ | refine Wv (by omega) ?_ | refine Ww (by omega) ?_ | refine Wf (by decide) (fun _ => ?_) (fun _ => ?_) | refine Wg (fun _ => ?_) (fun _ => ?_) | refine Wh (fun _ => ?_) (fun _ => ?_) | refine Wi ?_ | refine Wj ?_ | refine Wk (fun _ => ?_) (fun _ => ?_) | refine Wl (fun _ => ?_) | refine Wm (by assumption) (by omega) ?_ | refine Wn (by omega) (by omega) (fun _ _ _ => ?_) | refine Wo (by omega) (by omega) ?_ | refine Wp (by omega) (by omega) (by omega) ?_ | refine Wq (by omega) (by omega) ?_ | refine Wr (by decide) (by omega) (by omega) ?_ | refine Ws (by decide) ?_ | refine Wx (fun _ => ?_) ?_ | refine Wy (fun _ => ?_) ?_ | refine Wz (fun _ => ?_) | refine WA (fun _ => ?_) | refine WB (by assumption) (by omega) ?_ | refine WC (by omega) (by omega) (fun _ _ => ?_) | refine WD (by omega) (by omega) (fun _ _ => ?_) | refine WE (by omega) (by omega) (by omega) ?_ | refine WJ (fun _ => ?_) | refine WK (fun _ _ _ => ?_) | refine WL (by assumption) (by omega) ?_ | refine WM (by omega) (by omega) (fun _ _ => ?_) | refine WN (by omega) (by omega) ?_ | refine WO (by omega) (by omega) ?_ | refine WP (by omega) (by omega) (by omega) ?_)
      | refine hby0 ?_
      | refine hsn ?_
      | refine on_box hb1 ?_
      | with_reducible refine WF ?_)
    exact fin_eq (endq (by omega)) h1 rfl
  | none =>
    have hne := sgnF_no hsg
    have hsn : ∀ {R : Res → St → Prop}, R (.ret (sgnR none)) st1 → PC 136 [.int .u8 (byF (s.drop (p + 1)))] st1 R := fun h => sign_c (by omega) (by omega) (by rw [sgnF_by, hsg]; exact h)
    refine AW_seq2 (aw_of tys_ok ?_)
    repeat' ((conv => whnf); first
      | (with_reducible first | exact Wa | exact Wb | exact Wc | refine Wd (by kernel_rfl) ?_ | refine We ?_ ?_ ?_ | refine W8 (by decide +kernel) ?_ ?_ ?_ | refine W9 ?_ ?_ ?_ | refine Wt (by first | assumption | omega) ?_ | refine Wu (by first | assumption | omega) ?_ | refine Wv (by omega) ?_ | refine Ww (by omega) ?_ | refine Wf (by decide) (fun _ => ?_) (fun _ => ?_) | refine Wg (fun _ => ?_) (fun _ => ?_) | refine Wh (fun _ => ?_) (fun _ => ?_) | refine Wi ?_ | refine Wj ?_ | refine Wk (fun _ => ?_) (fun _ => ?_) | refine Wl (fun _ => ?_) | refine Wm (by assumption) (by omega) ?_ | refine Wn (by omega) (by omega) (fun _ _ _ => ?_) | refine Wo (by omega) (by omega) ?_ | refine Wp (by omega) (by omega) (by omega) ?_ | refine Wq (by omega) (by omega) ?_ | refine Wr (by decide) (by omega) (by omega) ?_ | refine Ws (by decide) ?_ | refine Wx (fun _ => ?_) ?_ | refine Wy (fun _ => ?_) ?_ | refine Wz (fun _ => ?_) | refine WA (fun _ => ?_) | refine WB (by assumption) (by omega) ?_ | refine WC (by omega) (by omega) (fun _ _ => ?_) | refine WD (by omega) (by omega) (fun _ _ => ?_) | refine WE (by omega) (by omega) (by omega) ?_ | refine WJ (fun _ => ?_) | refine WK (fun _ _ _ => ?_) | refine WL (by assumption) (by omega) ?_ | refine WM (by omega) (by omega) (fun _ _ => ?_) | refine WN (by omega) (by omega) ?_ | refine WO (by omega) (by omega) ?_ | refine WP (by omega) (by omega) (by omega) ?_)
      | refine hby0 ?_
      | with_reducible refine WF ?_)
    refine AW_seq2 (aw_of tys_ok ?_)
    repeat' ((conv => whnf); first
      | (with_reducible first | exact Wa | exact Wb | exact Wc | refine Wd (by kernel_rfl) ?_ | refine We ?_ ?_ ?_ | refine W8 (by decide +kernel) ?_ ?_ ?_ | refine W9 ?_ ?_ ?_ | refine Wt (by first | assumption | omega) ?_ | refine Wu (by first | assumption | omega) ?_ | refine Wv (by omega) ?_ | refine Ww (by omega) ?_ | refine Wf (by decide) (fun _ => ?_) (fun _ => ?_) | refine Wg (fun _ => ?_) (fun _ => ?_) | refine Wh (fun _ => ?_) (fun _ => ?_) | refine Wi ?_ | refine Wj ?_ | refine Wk (fun _ => ?_) (fun _ => ?_) | refine Wl (fun _ => ?_) | refine Wm (by assumption) (by omega) ?_ | refine Wn (by omega) (by omega) (fun _ _ _ => ?_) | refine Wo (by omega) (by omega) ?_ | refine Wp (by omega) (by omega) (by omega) ?_ | refine Wq (by omega) (by omega) ?_ | refine Wr (by decide) (by omega) (by omega) ?_ | refine Ws (by decide) ?_ | refine Wx (fun _ => ?_) ?_ | refine Wy (fun _ => ?_) ?_ | refine Wz (fun _ => ?_) | refine WA (fun _ => ?_) | refine WB (by assumption) (by omega) ?_ | refine WC (by omega) (by omega) (fun _ _ => ?_) | refine WD (by omega) (by omega) (fun _ _ => ?_) | refine WE (by omega) (by omega) (by omega) ?_ | refine WJ (fun _ => ?_) | refine WK (fun _ _ _ => ?_) | refine WL (by assumption) (by omega) ?_ | refine WM (by omega) (by omega) (fun _ _ => ?_) | refine WN (by omega) (by omega) ?_ | refine WO (by omega) (by omega) ?_ | refine WP (by omega) (by omega) (by omega) ?_)
      | refine hsn ?_
      | with_reducible refine WF ?_)
    by_cases c1 : hdF (s.drop (p + 1)) = 38 ∧ tx = true
    · obtain ⟨c1, rfl⟩ := c1
      have h1 := h (-1) 2 (escF_amp (by rw [d1]; exact c1))
      refine aw_of tys_ok ?_
      repeat' ((conv => whnf); first
        | (with_reducible first | exact Wa | exact Wb | exact Wc | refine Wd (by kernel_rfl) ?_ | refine We ?_ ?_ ?_ | refine W8 (by decide +kernel) ?_ ?_ ?_ | refine W9 ?_ ?_ ?_ | refine Wt (by first | assumption | omega) ?_ | refine Wu (by first | assumption | omega) ?_ | refine Wv (by omega) ?_ | refine Ww (by omega) ?_ | refine Wf (by decide) (fun _ => ?_) (fun _ => ?_) | refine Wg (fun _ => ?_) (fun _ => ?_) | refine Wh (fun _ => ?_) (fun _ => ?_) | refine Wi ?_ | refine Wj ?_ | refine Wk (fun _ => ?_) (fun _ => ?_) | refine Wl (fun _ => ?_) | refine Wm (by assumption) (by omega) ?_ | refine Wn (by omega) (by omega) (fun _ _ _ => ?_) | refine Wo (by omega) (by omega) ?_ | refine Wp (by omega) (by omega) (by omega) ?_ | refine Wq (by omega) (by omega) ?_ | refine Wr (by decide) (by omega) (by omega) ?_ | refine Ws (by decide) ?_ | refine Wx (fun _ => ?_) ?_ | refine Wy (fun _ => ?_) ?_ | refine Wz (fun _ => ?_) | refine WA (fun _ => ?_) | refine WB (by assumption) (by omega) ?_ | refine WC (by omega) (by omega) (fun _ _ => ?_) | refine WD (by omega) (by omega) (fun _ _ => ?_) | refine WE (by omega) (by omega) (by omega) ?_ | refine WJ (fun _ => ?_) | refine WK (fun _ _ _ => ?_) | refine WL (by assumption) (by omega) ?_ | refine WM (by omega) (by omega) (fun _ _ => ?_) | refine WN (by omega) (by omega) ?_ | refine WO (by omega) (by omega) ?_ | refine WP (by omega) (by omega) (by omega) ?_)
        | refine on_box hb1 ?_
        | with_reducible refine WF ?_)
      exact fin_eq (endq (by omega)) h1 rfl
    by_cases c2 : hdF (s.drop (p + 1)) = 94 ∧ 64 ≤ hdF (s.drop (p + 1 + 1)) ∧ hdF (s.drop (p + 1 + 1)) ≤ 95
    · obtain ⟨c2, c3, c4⟩ := c2
      have h1 := h _ 3 (escF_ctl (by rw [d1]; exact c2) (by rw [d2]; exact c3) (by rw [d2]; exact c4))
      rw [d2] at h1
      have hp2 := l2 (by omega)
      obtain ⟨e, he⟩ : ∃ e, s[p + 1 + 1]? = some e := ⟨s[p + 1 + 1], List.getElem?_eq_getElem hp2⟩
      have he' : s[(((p + 1 : Nat) : Int) + 2 - 1).toNat]? = some e := by rw [show (((p + 1 : Nat) : Int) + 2 - 1).toNat = p + 1 + 1 by omega]; exact he
      have hv := hdF_at he
      have hew : ∀ {K : Int → Prop}, K (hdF (s.drop (p + 1 + 1)) - 64) → ∃ r, r = IntKind.u8.wrap ((e.toNat : Nat) - 64 : Int) ∧ K r := fun k => ⟨_, by rw [hv]; exact (u8_in (by omega) (by omega)).symm, k⟩
      refine aw_of tys_ok ?_
      repeat' ((conv => whnf); first
        | (with_reducible first | exact Wa | exact Wb | exact Wc | refine Wd (by kernel_rfl) ?_ | refine We ?_ ?_ ?_ | refine W8 (by decide +kernel) ?_ ?_ ?_ | refine W9 ?_ ?_ ?_ | refine Wt (by first | assumption | omega) ?_ | refine Wu (by first | assumption | omega) ?_ | refine Wv (by omega) ?_ | refine Ww (by omega) ?_ | refine Wf (by decide) (fun _ => ?_) (fun _ => ?_) | refine Wg (fun _ => ?_) (fun _ => ?_) | refine Wh (fun _ => ?_) (fun _ => ?_) | refine Wi ?_ | refine Wj ?_ | refine Wk (fun _ => ?_) (fun _ => ?_) | refine Wl (fun _ => ?_) | refine Wm (by assumption) (by omega) ?_ | refine Wn (by omega) (by omega) (fun _ _ _ => ?_) | refine Wo (by omega) (by omega) ?_ | refine Wp (by omega) (by omega) (by omega) ?_ | refine Wq (by omega) (by omega) ?_ | refine Wr (by decide) (by omega) (by omega) ?_ | refine Ws (by decide) ?_ | refine Wx (fun _ => ?_) ?_ | refine Wy (fun _ => ?_) ?_ | refine Wz (fun _ => ?_) | refine WA (fun _ => ?_) | refine WB (by assumption) (by omega) ?_ | refine WC (by omega) (by omega) (fun _ _ => ?_) | refine WD (by omega) (by omega) (fun _ _ => ?_) | refine WE (by omega) (by omega) (by omega) ?_ | refine WJ (fun _ => ?_) | refine WK (fun _ _ _ => ?_) | refine WL (by assumption) (by omega) ?_ | refine WM (by omega) (by omega) (fun _ _ => ?_) | refine WN (by omega) (by omega) ?_ | refine WO (by omega) (by omega) ?_ | refine WP (by omega) (by omega) (by omega) ?_)
        | refine hby1 ?_
        | refine on_box hb1 ?_
        | refine on_box (St.box_at _ _ _) ?_
        | refine hew ?_
        | with_reducible refine WF ?_)
      exact fin_eq (endq (by omega)) h1 rfl
    by_cases c3 : hdF (s.drop (p + 1)) = 111
    · have he := escF_oct (tx := tx) (l := s.drop p) (by rw [d1]; exact c3)
      rw [d2] at he
      have hp1 := l1 (by omega)
      refine aw_of tys_ok ?_
      repeat' ((conv => whnf); first
        | (with_reducible first | exact Wa | exact Wb | exact Wc | refine Wd (by kernel_rfl) ?_ | refine We ?_ ?_ ?_ | refine W8 (by decide +kernel) ?_ ?_ ?_ | refine W9 ?_ ?_ ?_ | refine Wt (by first | assumption | omega) ?_ | refine Wu (by first | assumption | omega) ?_ | refine Wv (by omega) ?_ | refine Ww (by omega) ?_ | refine Wf (by decide) (fun _ => ?_) (fun _ => ?_) | refine Wg (fun _ => ?_) (fun _ => ?_) | refine Wh (fun _ => ?_) (fun _ => ?_) | refine Wi ?_ | refine Wj ?_ | refine Wk (fun _ => ?_) (fun _ => ?_) | refine Wl (fun _ => ?_) | refine Wm (by assumption) (by omega) ?_ | refine Wn (by omega) (by omega) (fun _ _ _ => ?_) | refine Wo (by omega) (by omega) ?_ | refine Wp (by omega) (by omega) (by omega) ?_ | refine Wq (by omega) (by omega) ?_ | refine Wr (by decide) (by omega) (by omega) ?_ | refine Ws (by decide) ?_ | refine Wx (fun _ => ?_) ?_ | refine Wy (fun _ => ?_) ?_ | refine Wz (fun _ => ?_) | refine WA (fun _ => ?_) | refine WB (by assumption) (by omega) ?_ | refine WC (by omega) (by omega) (fun _ _ => ?_) | refine WD (by omega) (by omega) (fun _ _ => ?_) | refine WE (by omega) (by omega) (by omega) ?_ | refine WJ (fun _ => ?_) | refine WK (fun _ _ _ => ?_) | refine WL (by assumption) (by omega) ?_ | refine WM (by omega) (by omega) (fun _ _ => ?_) | refine WN (by omega) (by omega) ?_ | refine WO (by omega) (by omega) ?_ | refine WP (by omega) (by omega) (by omega) ?_)
        | refine on_box hb1 ?_
        | refine digits_c (k := 1) hl (by omega) (.inl rfl) hb1 (fun v n hv => ?_) (fun hv => ?_)
        | with_reducible refine WF ?_)
      all_goals try rw [hv] at he
      · have h1 := h v (2 + n) he
        exact fin_eq (endp.trans (by rw [show p + 1 + 1 + n = p + (2 + n) by omega])) h1 rfl
      · exact fin (h0' he) rfl
    by_cases c4 : hdF (s.drop (p + 1)) = 120
    · have he := escF_hex (tx := tx) (l := s.drop p) (by rw [d1]; exact c4)
      rw [d2] at he
      have hp1 := l1 (by omega)
      refine aw_of tys_ok ?_
      repeat' ((conv => whnf); first
        | (with_reducible first | exact Wa | exact Wb | exact Wc | refine Wd (by kernel_rfl) ?_ | refine We ?_ ?_ ?_ | refine W8 (by decide +kernel) ?_ ?_ ?_ | refine W9 ?_ ?_ ?_ | refine Wt (by first | assumption | omega) ?_ | refine Wu (by first | assumption | omega) ?_ | refine Wv (by omega) ?_ | refine Ww (by omega) ?_ | refine Wf (by decide) (fun _ => ?_) (fun _ => ?_) | refine Wg (fun _ => ?_) (fun _ => ?_) | refine Wh (fun _ => ?_) (fun _ => ?_) | refine Wi ?_ | refine Wj ?_ | refine Wk (fun _ => ?_) (fun _ => ?_) | refine Wl (fun _ => ?_) | refine Wm (by assumption) (by omega) ?_ | refine Wn (by omega) (by omega) (fun _ _ _ => ?_) | refine Wo (by omega) (by omega) ?_ | refine Wp (by omega) (by omega) (by omega) ?_ | refine Wq (by omega) (by omega) ?_ | refine Wr (by decide) (by omega) (by omega) ?_ | refine Ws (by decide) ?_ | refine Wx (fun _ => ?_) ?_ | refine Wy (fun _ => ?_) ?_ | refine Wz (fun _ => ?_) | refine WA (fun _ => ?_) | refine WB (by assumption) (by omega) ?_ | refine WC (by omega) (by omega) (fun _ _ => ?_) | refine WD (by omega) (by omega) (fun _ _ => ?_) | refine WE (by omega) (by omega) (by omega) ?_ | refine WJ (fun _ => ?_) | refine WK (fun _ _ _ => ?_) | refine WL (by assumption) (by omega) ?_ | refine WM (by omega) (by omega) (fun _ _ => ?_) | refine WN (by omega) (by omega) ?_ | refine WO (by omega) (by omega) ?_ | refine WP (by omega) (by omega) (by omega) ?_)
        | refine on_box hb1 ?_
        | refine digits_c (k := 1) hl (by omega) (.inr (.inr rfl)) hb1 (fun v n hv => ?_) (fun hv => ?_)
        | with_reducible refine WF ?_)
      all_goals try rw [hv] at he
      · have h1 := h v (2 + n) he
        exact fin_eq (endp.trans (by rw [show p + 1 + 1 + n = p + (2 + n) by omega])) h1 rfl
      · exact fin (h0' he) rfl
    by_cases c5 : 48 ≤ hdF (s.drop (p + 1)) ∧ hdF (s.drop (p + 1)) ≤ 57
    · have he := escF_dec (tx := tx) (l := s.drop p) (by rw [d1]; exact c5.1) (by rw [d1]; exact c5.2)
      rw [d1] at he
      have hp1 := l1 (by omega)
      refine aw_of tys_ok ?_
      repeat' ((conv => whnf); first
        | (with_reducible first | exact Wa | exact Wb | exact Wc | refine Wd (by kernel_rfl) ?_ | refine We ?_ ?_ ?_ | refine W8 (by decide +kernel) ?_ ?_ ?_ | refine W9 ?_ ?_ ?_ | refine Wt (by first | assumption | omega) ?_ | refine Wu (by first | assumption | omega) ?_ | refine Wv (by omega) ?_ | refine Ww (by omega) ?_ | refine Wf (by decide) (fun _ => ?_) (fun _ => ?_) | refine Wg (fun _ => ?_) (fun _ => ?_) | refine Wh (fun _ => ?_) (fun _ => ?_) | refine Wi ?_ | refine Wj ?_ | refine Wk (fun _ => ?_) (fun _ => ?_) | refine Wl (fun _ => ?_) | refine Wm (by assumption) (by omega) ?_ | refine Wn (by omega) (by omega) (fun _ _ _ => ?_) | refine Wo (by omega) (by omega) ?_ | refine Wp (by omega) (by omega) (by omega) ?_ | refine Wq (by omega) (by omega) ?_ | refine Wr (by decide) (by omega) (by omega) ?_ | refine Ws (by decide) ?_ | refine Wx (fun _ => ?_) ?_ | refine Wy (fun _ => ?_) ?_ | refine Wz (fun _ => ?_) | refine WA (fun _ => ?_) | refine WB (by assumption) (by omega) ?_ | refine WC (by omega) (by omega) (fun _ _ => ?_) | refine WD (by omega) (by omega) (fun _ _ => ?_) | refine WE (by omega) (by omega) (by omega) ?_ | refine WJ (fun _ => ?_) | refine WK (fun _ _ _ => ?_) | refine WL (by assumption) (by omega) ?_ | refine WM (by omega) (by omega) (fun _ _ => ?_) | refine WN (by omega) (by omega) ?_ | refine WO (by omega) (by omega) ?_ | refine WP (by omega) (by omega) (by omega) ?_)
        | refine on_box hb1 ?_
        | refine digits_c (k := 0) hl (by omega) (.inr (.inl rfl)) hb1 (fun v n hv => ?_) (fun hv => ?_)
        | with_reducible refine WF ?_)
      all_goals try rw [show numV 10 (s.drop (p + 1)) = _ from hv] at he
      · have h1 := h v (1 + n) he
        exact fin_eq (endp.trans (by rw [show p + 1 + 0 + n = p + (1 + n) by omega])) h1 rfl
      · exact fin (h0' he) rfl
    · have he := escF_nam (tx := tx) (l := s.drop p) (by rw [d1]; exact hsg) (by rw [d1]; exact c1) (by rw [d1, d2]; exact c2) (by rw [d1]; exact c3) (by rw [d1]; exact c4) (by rw [d1]; exact c5)
      rw [d1] at he
      have hc1 : byF (s.drop (p + 1)) = 38 → tx = false := fun e => by
        cases tx with
        | false => rfl
        | true => exact absurd ⟨by omega, rfl⟩ c1
      have hnl := namG_le (s.drop (p + 1)) nameT 0 (0, 0) (Nat.zero_le _)
      have hnn : (namF (s.drop (p + 1))).2 ≤ s.length - (p + 1) := by simp only [namF]; rw [List.length_drop] at hnl; omega
      have f2 : ¬ (byF (s.drop (p + 1)) = 94 ∧ 64 ≤ byF (s.drop (p + 1 + 1)) ∧ byF (s.drop (p + 1 + 1)) ≤ 95) := fun e => c2 ⟨by omega, by omega, by omega⟩
      have f3 : ¬ byF (s.drop (p + 1)) = 111 := by omega
      have f4 : ¬ byF (s.drop (p + 1)) = 120 := by omega
      have f5 : ¬ (48 ≤ byF (s.drop (p + 1)) ∧ byF (s.drop (p + 1)) ≤ 57) := by omega
      have e1 := fun (n : Nat) (hn : (namF (s.drop (p + 1))).2 = n) (h0 : 0 < n) => h _ (1 + n) (by rw [he, hn, if_pos h0])
      have e2 := fun (h0 : ¬ 0 < (namF (s.drop (p + 1))).2) => h0' (by rw [he, if_neg h0])
      generalize byF (s.drop (p + 1)) = x1 at hby0 hc1 f2 f3 f4 f5 hx1 hsn
      generalize byF (s.drop (p + 1 + 1)) = x2 at hby1 f2 hx2
      generalize hN : namF (s.drop (p + 1)) = N at e1 e2 hnn
      obtain ⟨v, n⟩ := N
      have e1 := e1 n rfl
      dsimp only at e1 e2 hnn
      have hnam : ∀ {i : Int} {R : Res → St → Prop}, i.toNat = p + 1 → R (.ret (.tup [.int .i64 v, .int .i64 (n : Int)])) st1 → PC 138 [.str (s.drop i.toNat)] st1 R := fun e h => named_e e hl (by rw [hN]; exact h)
      clear he h h0 h0' hsg hne hsn c1 c2 c3 c4 c5 hx1 hx2 hxl l1 l2 d1 d2 hnl hby0 endp hb hN
      by_cases h38 : x1 = 38
      · have e := hc1 h38
        subst e
        refine aw_of tys_ok ?_
        repeat' ((conv => whnf); first
          | (with_reducible first | exact Wa | exact Wb | exact Wc | refine Wd (by kernel_rfl) ?_ | refine We ?_ ?_ ?_ | refine W8 (by decide +kernel) ?_ ?_ ?_ | refine W9 ?_ ?_ ?_ | refine Wt (by first | assumption | omega) ?_ | refine Wu (by first | assumption | omega) ?_ | refine Wv (by omega) ?_ | refine Ww (by omega) ?_ | refine Wf (by decide) (fun _ => ?_) (fun _ => ?_) | refine Wg (fun _ => ?_) (fun _ => ?_) | refine Wh (fun _ => ?_) (fun _ => ?_) | refine Wi ?_ | refine Wj ?_ | refine Wk (fun _ => ?_) (fun _ => ?_) | refine Wl (fun _ => ?_) | refine Wm (by assumption) (by omega) ?_ | refine Wn (by omega) (by omega) (fun _ _ _ => ?_) | refine Wo (by omega) (by omega) ?_ | refine Wp (by omega) (by omega) (by omega) ?_ | refine Wq (by omega) (by omega) ?_ | refine Wr (by decide) (by omega) (by omega) ?_ | refine Ws (by decide) ?_ | refine Wx (fun _ => ?_) ?_ | refine Wy (fun _ => ?_) ?_ | refine Wz (fun _ => ?_) | refine WA (fun _ => ?_) | refine WB (by assumption) (by omega) ?_ | refine WC (by omega) (by omega) (fun _ _ => ?_) | refine WD (by omega) (by omega) (fun _ _ => ?_) | refine WE (by omega) (by omega) (by omega) ?_ | refine WJ (fun _ => ?_) | refine WK (fun _ _ _ => ?_) | refine WL (by assumption) (by omega) ?_ | refine WM (by omega) (by omega) (fun _ _ => ?_) | refine WN (by omega) (by omega) ?_ | refine WO (by omega) (by omega) ?_ | refine WP (by omega) (by omega) (by omega) ?_)
          | refine hby1 ?_
          | refine on_box hb1 ?_
          | refine hnam (by omega) ?_
          | refine qfail_c ?_
          | with_reducible refine WF ?_)
        all_goals first
          | exact fin_eq (endq (by omega)) (e1 (by omega)) rfl
          | exact fin (e2 (by omega)) rfl
      · clear hc1
        refine aw_of tys_ok ?_
        repeat' ((conv => whnf); first
          | (with_reducible first | exact Wa | exact Wb | exact Wc | refine Wd (by kernel_rfl) ?_ | refine We ?_ ?_ ?_ | refine W8 (by decide +kernel) ?_ ?_ ?_ | refine W9 ?_ ?_ ?_ | refine Wt (by first | assumption | omega) ?_ | refine Wu (by first | assumption | omega) ?_ | refine Wv (by omega) ?_ | refine Ww (by omega) ?_ | refine Wf (by decide) (fun _ => ?_) (fun _ => ?_) | refine Wg (fun _ => ?_) (fun _ => ?_) | refine Wh (fun _ => ?_) (fun _ => ?_) | refine Wi ?_ | refine Wj ?_ | refine Wk (fun _ => ?_) (fun _ => ?_) | refine Wl (fun _ => ?_) | refine Wm (by assumption) (by omega) ?_ | refine Wn (by omega) (by omega) (fun _ _ _ => ?_) | refine Wo (by omega) (by omega) ?_ | refine Wp (by omega) (by omega) (by omega) ?_ | refine Wq (by omega) (by omega) ?_ | refine Wr (by decide) (by omega) (by omega) ?_ | refine Ws (by decide) ?_ | refine Wx (fun _ => ?_) ?_ | refine Wy (fun _ => ?_) ?_ | refine Wz (fun _ => ?_) | refine WA (fun _ => ?_) | refine WB (by assumption) (by omega) ?_ | refine WC (by omega) (by omega) (fun _ _ => ?_) | refine WD (by omega) (by omega) (fun _ _ => ?_) | refine WE (by omega) (by omega) (by omega) ?_ | refine WJ (fun _ => ?_) | refine WK (fun _ _ _ => ?_) | refine WL (by assumption) (by omega) ?_ | refine WM (by omega) (by omega) (fun _ _ => ?_) | refine WN (by omega) (by omega) ?_ | refine WO (by omega) (by omega) ?_ | refine WP (by omega) (by omega) (by omega) ?_)
          | refine hby1 ?_
          | refine on_box hb1 ?_
          | refine hnam (by omega) ?_
          | refine qfail_c ?_
          | with_reducible refine WF ?_)
        all_goals first
          | exact fin_eq (endq (by omega)) (e1 (by omega)) rfl
          | exact fin (e2 (by omega)) rfl
end
end Go.Proofs.YtkcapphlemoccaaGreatDoor
