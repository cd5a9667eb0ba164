/-
  Parts of a proof: lemmas that the last text uses.
-/
import Derived.Test.YtkcapphlemoccaaGreatDoorS2
set_option linter.unusedVariables false
namespace Go.Aw
open Go
theorem numV_some {b : Int} {l : List UInt8} {v : Int} {n : Nat} (h : numV b l = some (v, n)) : valF b 0 l = v ∧ rowN b l = n ∧ n ≠ 0 ∧ v ≤ 1114111 := by
  unfold numV at h
  split at h
  · cases h
  · injection h with h; injection h with h1 h2
    exact ⟨h1, h2, by omega, by omega⟩
theorem numV_none {b : Int} {l : List UInt8} (h : numV b l = none) : decide (rowN b l ≠ 0 ∧ valF b 0 l ≤ 1114111) = false := by
  unfold numV at h
  split at h
  · exact decide_eq_false (by omega)
  · cases h
theorem fin_eq {R : Res → St → Prop} {r r' : Res} {st st' : St} (es : st' = st) (h : R r st) (e : r = r') : ∃ r2 st2, (r2 = r' ∨ r2 = r'.wk) ∧ St.le st2 st' ∧ R r2 st2 := by subst es; exact ⟨r, st', .inl e, St.le_refl _, h⟩
theorem St.set_set' (st : St) (b : Nat) (cs cs' : List V) : (st.setBox b cs).setBox b cs' = st.setBox b cs' := by
  simp only [St.setBox, St.mk.injEq, and_true]
  funext x
  split <;> rfl
end Go.Aw
namespace Go.Proofs.YtkcapphlemoccaaGreatDoor
open Go Go.Aw
theorem qC_at {q : Nat} {i : Int} {s : List UInt8} {tx : Bool} {o : List Int} {w1 w2 : Own} {g : List (Nat × Nat)} (e : i = (q : Int)) : [V.str s, .int .i64 i, .bool tx, .slice 1 (ints o) w1, .slice 2 (prs g) w2] = qC s q tx o w1 g w2 := by subst e; rfl
section
variable {st : St} {R : Res → St → Prop}
theorem number_v {s : List UInt8} {i b v : Int} {n m : Nat} (e : i.toNat = m) (hn : numV b (s.drop m) = some (v, n)) (hl : s.length ≤ 100000000) (hb : b = 8 ∨ b = 10 ∨ b = 16) (h : R (.ret (.tup [.int .i64 v, .int .i64 n, .bool true])) st) : PC 139 [.str (s.drop i.toNat), .int .i64 b] st R := by
  rw [e]
  obtain ⟨e1, e2, e3, e4⟩ := numV_some hn
  exact number_c (by rw [List.length_drop]; omega) hb (by rw [e1, e2, decide_eq_true ⟨e3, e4⟩]; exact h)
theorem number_x {s : List UInt8} {i b : Int} {m : Nat} (e : i.toNat = m) (hn : numV b (s.drop m) = none) (hl : s.length ≤ 100000000) (hb : b = 8 ∨ b = 10 ∨ b = 16) (h : R (.ret (.tup [.int .i64 (valF b 0 (s.drop m)), .int .i64 (rowN b (s.drop m) : Nat), .bool false])) st) : PC 139 [.str (s.drop i.toNat), .int .i64 b] st R := by
  rw [e]
  exact number_c (by rw [List.length_drop]; omega) hb (by rw [numV_none hn]; exact h)
theorem digits_c {b p k : Nat} {frm base : Int} {s : List UInt8} {tx : Bool} {o : List Int} {w1 w2 : Own} {g : List (Nat × Nat)} (hl : s.length ≤ 100000000) (hp : p + k ≤ s.length) (hbase : base = 8 ∨ base = 10 ∨ base = 16) (hb : st.box b = some (qC s p tx o w1 g w2))
    (h : ∀ v n, numV base (s.drop (p + k)) = some (v, n) → R (.ret (.int .i64 v)) (st.setBox b (qC s (p + k + n) tx o w1 g w2))) (h0 : numV base (s.drop (p + k)) = none → R (.pan (qfault frm 51)) st) :
    PC 137 [.ptr b 0, .int .i64 frm, .int .i64 k, .int .i64 base] st R := by
  refine pcalls_of_body tys_ok [] Tryz.func137 rfl (by decide) ?_
  rcases hn : numV base (s.drop (p + k)) with _ | ⟨v, n⟩
  · have h0 := h0 hn
    repeat' ((conv => whnf); first
      | (with_reducible first | exact Wa | exact Wb | exact Wc | refine Wd (by kernel_rfl) ?_ | refine We ?_ ?_ ?_ | refine W8 (by decide +kernel) ?_ ?_ ?_ | refine W9 ?_ ?_ ?_ | refine Wt (by first | assumption | omega) ?_ | refine Wu (by first | assumption | omega) ?_ | refine Wv (by omega) ?_ | refine Ww (by omega) ?_ | refine Wf (by decide) (fun _ => ?_) (fun _ => ?_) | refine Wg (fun _ => ?_) (fun _ => ?_) | refine Wh (fun _ => ?_) (fun _ => ?_) | refine Wi ?_ | refine Wj ?_ | refine Wk (fun _ => ?_) (fun _ => ?_) | refine Wl (fun _ => ?_) | refine Wm (by assumption) (by omega) ?_ | refine Wn (by omega) (by omega) (fun _ _ _ => ?_) | refine Wo (by omega) (by omega) ?_ | refine Wp (by omega) (by omega) (by omega) ?_ | refine Wq (by omega) (by omega) ?_ | refine Wr (by decide) (by omega) (by omega) ?_ | refine Ws (by decide) ?_ | refine Wx (fun _ => ?_) ?_ | refine Wy (fun _ => ?_) ?_ | refine Wz (fun _ => ?_) | refine WA (fun _ => ?_) | refine WB (by assumption) (by omega) ?_ | refine WC (by omega) (by omega) (fun _ _ => ?_) | refine WD (by omega) (by omega) (fun _ _ => ?_) | refine WE (by omega) (by omega) (by omega) ?_ | refine WJ (fun _ => ?_) | refine WK (fun _ _ _ => ?_) | refine WL (by assumption) (by omega) ?_ | refine WM (by omega) (by omega) (fun _ _ => ?_) | refine WN (by omega) (by omega) ?_ | refine WO (by omega) (by omega) ?_ | refine WP (by omega) (by omega) (by omega) ?_)
      | refine on_box hb ?_
      | refine number_x (m := p + k) (by omega) hn hl hbase ?_
      | refine qfail_c ?_
      | with_reducible refine WF ?_)
    all_goals exact fin h0 rfl
  · have h := h v n hn
    have hle := numV_le hn
    rw [List.length_drop] at hle
    dsimp only at hle
    repeat' ((conv => whnf); first
      | (with_reducible first | exact Wa | exact Wb | exact Wc | refine Wd (by kernel_rfl) ?_ | refine We ?_ ?_ ?_ | refine W8 (by decide +kernel) ?_ ?_ ?_ | refine W9 ?_ ?_ ?_ | refine Wt (by first | assumption | omega) ?_ | refine Wu (by first | assumption | omega) ?_ | refine Wv (by omega) ?_ | refine Ww (by omega) ?_ | refine Wf (by decide) (fun _ => ?_) (fun _ => ?_) | refine Wg (fun _ => ?_) (fun _ => ?_) | refine Wh (fun _ => ?_) (fun _ => ?_) | refine Wi ?_ | refine Wj ?_ | refine Wk (fun _ => ?_) (fun _ => ?_) | refine Wl (fun _ => ?_) | refine Wm (by assumption) (by omega) ?_ | refine Wn (by omega) (by omega) (fun _ _ _ => ?_) | refine Wo (by omega) (by omega) ?_ | refine Wp (by omega) (by omega) (by omega) ?_ | refine Wq (by omega) (by omega) ?_ | refine Wr (by decide) (by omega) (by omega) ?_ | refine Ws (by decide) ?_ | refine Wx (fun _ => ?_) ?_ | refine Wy (fun _ => ?_) ?_ | refine Wz (fun _ => ?_) | refine WA (fun _ => ?_) | refine WB (by assumption) (by omega) ?_ | refine WC (by omega) (by omega) (fun _ _ => ?_) | refine WD (by omega) (by omega) (fun _ _ => ?_) | refine WE (by omega) (by omega) (by omega) ?_ | refine WJ (fun _ => ?_) | refine WK (fun _ _ _ => ?_) | refine WL (by assumption) (by omega) ?_ | refine WM (by omega) (by omega) (fun _ _ => ?_) | refine WN (by omega) (by omega) ?_ | refine WO (by omega) (by omega) ?_ | refine WP (by omega) (by omega) (by omega) ?_)
      | refine on_box hb ?_
      | refine number_v (m := p + k) (by omega) hn hl hbase ?_
      | refine qfail_c ?_
      | with_reducible refine WF ?_)
    exact fin_eq (congrArg (st.setBox b) (qC_at (by omega))) h rfl
theorem gapN_at {s : List UInt8} {p : Nat} : gapN (s.drop p) = if hdF (s.drop p) = 92 ∧ spanR (fun c => classF c == 1) (s.drop (p + 1)) ≠ 0 ∧ hdF (s.drop (p + 1 + spanR (fun c => classF c == 1) (s.drop (p + 1)))) = 92 then spanR (fun c => classF c == 1) (s.drop (p + 1)) + 2 else 0 := by
  have hd1 : (s.drop p).drop 1 = s.drop (p + 1) := List.drop_drop
  unfold gapN; rw [hd1, List.drop_drop, Nat.add_assoc]
theorem run_blank {s : List UInt8} {i : Int} {q k : Nat} (hl : s.length ≤ 100000000) (hq : q ≤ s.length) (hk : spanR (fun c => classF c == 1) (s.drop q) = k) (e : i = (q : Int)) (h : R (.ret (.int .i64 (q + k : Nat))) st) : PC 35 [.str s, .int .i64 i, .int .i64 1] st R := by
  subst e; exact run_c (by omega) (by rw [runF_in (by omega) (by omega), show (q : Int).toNat = q by omega, hk]; exact h)
theorem gap_no {b p : Nat} {s : List UInt8} {tx : Bool} {o : List Int} {w1 w2 : Own} {g : List (Nat × Nat)} (hl : s.length ≤ 100000000) (hp : p ≤ s.length) (hb : st.box b = some (qC s p tx o w1 g w2)) (hg : tx = false ∨ gapN (s.drop p) = 0) (h : R (.ret (.bool false)) st) : PC 131 [.ptr b 0] st R := by
  refine pcalls_of_body tys_ok [] Tryz.func131 rfl (by decide) ?_
  have hby := byF_hd (s.drop p)
  cases tx with
  | false =>
    repeat' ((conv => whnf); first
      | (with_reducible first | exact Wa | exact Wb | exact Wc | refine Wd (by kernel_rfl) ?_ | refine We ?_ ?_ ?_ | refine W8 (by decide +kernel) ?_ ?_ ?_ | refine W9 ?_ ?_ ?_ | refine Wt (by first | assumption | omega) ?_ | refine Wu (by first | assumption | omega) ?_ | refine Wv (by omega) ?_ | refine Ww (by omega) ?_ | refine Wf (by decide) (fun _ => ?_) (fun _ => ?_) | refine Wg (fun _ => ?_) (fun _ => ?_) | refine Wh (fun _ => ?_) (fun _ => ?_) | refine Wi ?_ | refine Wj ?_ | refine Wk (fun _ => ?_) (fun _ => ?_) | refine Wl (fun _ => ?_) | refine Wm (by assumption) (by omega) ?_ | refine Wn (by omega) (by omega) (fun _ _ _ => ?_) | refine Wo (by omega) (by omega) ?_ | refine Wp (by omega) (by omega) (by omega) ?_ | refine Wq (by omega) (by omega) ?_ | refine Wr (by decide) (by omega) (by omega) ?_ | refine Ws (by decide) ?_ | refine Wx (fun _ => ?_) ?_ | refine Wy (fun _ => ?_) ?_ | refine Wz (fun _ => ?_) | refine WA (fun _ => ?_) | refine WB (by assumption) (by omega) ?_ | refine WC (by omega) (by omega) (fun _ _ => ?_) | refine WD (by omega) (by omega) (fun _ _ => ?_) | refine WE (by omega) (by omega) (by omega) ?_ | refine WJ (fun _ => ?_) | refine WK (fun _ _ _ => ?_) | refine WL (by assumption) (by omega) ?_ | refine WM (by omega) (by omega) (fun _ _ => ?_) | refine WN (by omega) (by omega) ?_ | refine WO (by omega) (by omega) ?_ | refine WP (by omega) (by omega) (by omega) ?_)
      | refine on_box hb ?_
      | refine byteAt_c (k := 0) hl hp (by decide) hb ?_
      | with_reducible refine WF ?_)
    all_goals exact fin h rfl
  | true =>
    have hg : gapN (s.drop p) = 0 := hg.resolve_left (by decide)
    by_cases h1 : hdF (s.drop p) = 92
    · have hp1 : p < s.length := hdF_lt_len (k := p) (by omega)
      have hr := spanR_le (fun c => classF c == 1) (s.drop (p + 1))
      have hgn := gapN_at (s := s) (p := p)
      rw [List.length_drop] at hr
      generalize hk : spanR (fun c => classF c == 1) (s.drop (p + 1)) = k at hr hgn
      have hno : k ≠ 0 → ¬ hdF (s.drop (p + 1 + k)) = 92 := fun e1 e2 => by rw [if_pos ⟨h1, e1, e2⟩] at hgn; omega
      have hb0 : byF (s.drop p) = 92 := by omega
      by_cases hlt : p + 1 + k < s.length
      · obtain ⟨e, he⟩ : ∃ e, s[p + 1 + k]? = some e := ⟨s[p + 1 + k], List.getElem?_eq_getElem hlt⟩
        have he' : s[((p + 1 + k : Nat) : Int).toNat]? = some e := he
        have hv := hdF_at he
        repeat' ((conv => whnf); first
          | (with_reducible first | exact Wa | exact Wb | exact Wc | refine Wd (by kernel_rfl) ?_ | refine We ?_ ?_ ?_ | refine W8 (by decide +kernel) ?_ ?_ ?_ | refine W9 ?_ ?_ ?_ | refine Wt (by first | assumption | omega) ?_ | refine Wu (by first | assumption | omega) ?_ | refine Wv (by omega) ?_ | refine Ww (by omega) ?_ | refine Wf (by decide) (fun _ => ?_) (fun _ => ?_) | refine Wg (fun _ => ?_) (fun _ => ?_) | refine Wh (fun _ => ?_) (fun _ => ?_) | refine Wi ?_ | refine Wj ?_ | refine Wk (fun _ => ?_) (fun _ => ?_) | refine Wl (fun _ => ?_) | refine Wm (by assumption) (by omega) ?_ | refine Wn (by omega) (by omega) (fun _ _ _ => ?_) | refine Wo (by omega) (by omega) ?_ | refine Wp (by omega) (by omega) (by omega) ?_ | refine Wq (by omega) (by omega) ?_ | refine Wr (by decide) (by omega) (by omega) ?_ | refine Ws (by decide) ?_ | refine Wx (fun _ => ?_) ?_ | refine Wy (fun _ => ?_) ?_ | refine Wz (fun _ => ?_) | refine WA (fun _ => ?_) | refine WB (by assumption) (by omega) ?_ | refine WC (by omega) (by omega) (fun _ _ => ?_) | refine WD (by omega) (by omega) (fun _ _ => ?_) | refine WE (by omega) (by omega) (by omega) ?_ | refine WJ (fun _ => ?_) | refine WK (fun _ _ _ => ?_) | refine WL (by assumption) (by omega) ?_ | refine WM (by omega) (by omega) (fun _ _ => ?_) | refine WN (by omega) (by omega) ?_ | refine WO (by omega) (by omega) ?_ | refine WP (by omega) (by omega) (by omega) ?_)
          | refine on_box hb ?_
          | refine byteAt_c (k := 0) hl hp (by decide) hb ?_
          | refine run_blank (q := p + 1) hl (by omega) hk (by omega) ?_
          | with_reducible refine WF ?_)
        all_goals exact fin h rfl
      · skip
        repeat' ((conv => whnf); first
          | (with_reducible first | exact Wa | exact Wb | exact Wc | refine Wd (by kernel_rfl) ?_ | refine We ?_ ?_ ?_ | refine W8 (by decide +kernel) ?_ ?_ ?_ | refine W9 ?_ ?_ ?_ | refine Wt (by first | assumption | omega) ?_ | refine Wu (by first | assumption | omega) ?_ | refine Wv (by omega) ?_ | refine Ww (by omega) ?_ | refine Wf (by decide) (fun _ => ?_) (fun _ => ?_) | refine Wg (fun _ => ?_) (fun _ => ?_) | refine Wh (fun _ => ?_) (fun _ => ?_) | refine Wi ?_ | refine Wj ?_ | refine Wk (fun _ => ?_) (fun _ => ?_) | refine Wl (fun _ => ?_) | refine Wm (by assumption) (by omega) ?_ | refine Wn (by omega) (by omega) (fun _ _ _ => ?_) | refine Wo (by omega) (by omega) ?_ | refine Wp (by omega) (by omega) (by omega) ?_ | refine Wq (by omega) (by omega) ?_ | refine Wr (by decide) (by omega) (by omega) ?_ | refine Ws (by decide) ?_ | refine Wx (fun _ => ?_) ?_ | refine Wy (fun _ => ?_) ?_ | refine Wz (fun _ => ?_) | refine WA (fun _ => ?_) | refine WB (by assumption) (by omega) ?_ | refine WC (by omega) (by omega) (fun _ _ => ?_) | refine WD (by omega) (by omega) (fun _ _ => ?_) | refine WE (by omega) (by omega) (by omega) ?_ | refine WJ (fun _ => ?_) | refine WK (fun _ _ _ => ?_) | refine WL (by assumption) (by omega) ?_ | refine WM (by omega) (by omega) (fun _ _ => ?_) | refine WN (by omega) (by omega) ?_ | refine WO (by omega) (by omega) ?_ | refine WP (by omega) (by omega) (by omega) ?_)
          | refine on_box hb ?_
          | refine byteAt_c (k := 0) hl hp (by decide) hb ?_
          | refine run_blank (q := p + 1) hl (by omega) hk (by omega) ?_
          | with_reducible refine WF ?_)
        all_goals exact fin h rfl
    · have hb0 : ¬ byF (s.drop p) = 92 := by omega
      repeat' ((conv => whnf); first
        | (with_reducible first | exact Wa | exact Wb | exact Wc | refine Wd (by kernel_rfl) ?_ | refine We ?_ ?_ ?_ | refine W8 (by decide +kernel) ?_ ?_ ?_ | refine W9 ?_ ?_ ?_ | refine Wt (by first | assumption | omega) ?_ | refine Wu (by first | assumption | omega) ?_ | refine Wv (by omega) ?_ | refine Ww (by omega) ?_ | refine Wf (by decide) (fun _ => ?_) (fun _ => ?_) | refine Wg (fun _ => ?_) (fun _ => ?_) | refine Wh (fun _ => ?_) (fun _ => ?_) | refine Wi ?_ | refine Wj ?_ | refine Wk (fun _ => ?_) (fun _ => ?_) | refine Wl (fun _ => ?_) | refine Wm (by assumption) (by omega) ?_ | refine Wn (by omega) (by omega) (fun _ _ _ => ?_) | refine Wo (by omega) (by omega) ?_ | refine Wp (by omega) (by omega) (by omega) ?_ | refine Wq (by omega) (by omega) ?_ | refine Wr (by decide) (by omega) (by omega) ?_ | refine Ws (by decide) ?_ | refine Wx (fun _ => ?_) ?_ | refine Wy (fun _ => ?_) ?_ | refine Wz (fun _ => ?_) | refine WA (fun _ => ?_) | refine WB (by assumption) (by omega) ?_ | refine WC (by omega) (by omega) (fun _ _ => ?_) | refine WD (by omega) (by omega) (fun _ _ => ?_) | refine WE (by omega) (by omega) (by omega) ?_ | refine WJ (fun _ => ?_) | refine WK (fun _ _ _ => ?_) | refine WL (by assumption) (by omega) ?_ | refine WM (by omega) (by omega) (fun _ _ => ?_) | refine WN (by omega) (by omega) ?_ | refine WO (by omega) (by omega) ?_ | refine WP (by omega) (by omega) (by omega) ?_)
        | refine on_box hb ?_
        | refine byteAt_c (k := 0) hl hp (by decide) hb ?_
        | with_reducible refine WF ?_)
      all_goals exact fin h rfl
attribute [local irreducible] Go.Aw.appendTo
theorem gap_yes {st0 : St} {b p : Nat} {s : List UInt8} {o : List Int} {w1 w2 : Own} {g : List (Nat × Nat)} (hl : s.length ≤ 100000000) (hb : st.box b = some (qC s p true o w1 g w2)) (hg : 0 < gapN (s.drop p)) (hr2 : Rows2 st0 st w1 o.length w2 (2 * g.length)) (hgl : g.length ≤ 100000000)
    (h : ∀ w2' st', Rows2 st0 st' w1 o.length w2' (2 * (g ++ [(p, p + gapN (s.drop p))]).length) → st'.box = st.box → R (.ret (.bool true)) (st'.setBox b (qC s (p + gapN (s.drop p)) true o w1 (g ++ [(p, p + gapN (s.drop p))]) w2'))) : PC 131 [.ptr b 0] st R := by
  have hby := byF_hd (s.drop p)
  have hgn := gapN_at (s := s) (p := p)
  have hr := spanR_le (fun c => classF c == 1) (s.drop (p + 1))
  rw [List.length_drop] at hr
  generalize hk : spanR (fun c => classF c == 1) (s.drop (p + 1)) = k at hr hgn
  have hc : hdF (s.drop p) = 92 ∧ k ≠ 0 ∧ hdF (s.drop (p + 1 + k)) = 92 := by
    by_cases hc : hdF (s.drop p) = 92 ∧ k ≠ 0 ∧ hdF (s.drop (p + 1 + k)) = 92
    · exact hc
    · rw [if_neg hc] at hgn; omega
  rw [if_pos hc] at hgn
  obtain ⟨h1, h2, h3⟩ := hc
  have hp1 : p < s.length := hdF_lt_len (k := p) (by omega)
  have hp2 : p + 1 + k < s.length := hdF_lt_len (k := p + 1 + k) (by omega)
  obtain ⟨e, he⟩ : ∃ e, s[p + 1 + k]? = some e := ⟨s[p + 1 + k], List.getElem?_eq_getElem hp2⟩
  have he' : s[((p + 1 + k : Nat) : Int).toNat]? = some e := he
  have hv := hdF_at he
  have hb0 : byF (s.drop p) = 92 := by omega
  have hpk : ((p + 1 + k : Nat) : Int) + 1 = ((p + (k + 2) : Nat) : Int) := by omega
  rw [hgn] at h
  refine pcalls_of_body tys_ok [] Tryz.func131 rfl (by decide) ?_
  repeat' ((conv => whnf); first
    | refine draw_mix [(0, true), (1, true), (2, true), (3, true), (4, true), (5, true), (6, true), (7, true), (8, true), (9, true), (10, true), (11, true), (12, true), (13, false), (14, true), (15, true), (16, false)] [] (by decide +kernel) ?_
    | (with_reducible first | exact Wa | exact Wb | exact Wc | refine Wd (by kernel_rfl) ?_ | refine We ?_ ?_ ?_ | refine W8 (by decide +kernel) ?_ ?_ ?_ | refine W9 ?_ ?_ ?_ | refine Wt (by first | assumption | omega) ?_ | refine Wu (by first | assumption | omega) ?_ | refine Wv (by omega) ?_ | refine Ww (by omega) ?_ | refine Wf (by decide) (fun _ => ?_) (fun _ => ?_) | refine Wg (fun _ => ?_) (fun _ => ?_) | refine Wh (fun _ => ?_) (fun _ => ?_) | refine Wi ?_ | refine Wj ?_ | refine Wk (fun _ => ?_) (fun _ => ?_) | refine Wl (fun _ => ?_) | refine Wm (by assumption) (by omega) ?_ | refine Wn (by omega) (by omega) (fun _ _ _ => ?_) | refine Wo (by omega) (by omega) ?_ | refine Wp (by omega) (by omega) (by omega) ?_ | refine Wq (by omega) (by omega) ?_ | refine Wr (by decide) (by omega) (by omega) ?_ | refine Ws (by decide) ?_ | refine Wx (fun _ => ?_) ?_ | refine Wy (fun _ => ?_) ?_ | refine Wz (fun _ => ?_) | refine WA (fun _ => ?_) | refine WB (by assumption) (by omega) ?_ | refine WC (by omega) (by omega) (fun _ _ => ?_) | refine WD (by omega) (by omega) (fun _ _ => ?_) | refine WE (by omega) (by omega) (by omega) ?_ | refine WJ (fun _ => ?_) | refine WK (fun _ _ _ => ?_) | refine WL (by assumption) (by omega) ?_ | refine WM (by omega) (by omega) (fun _ _ => ?_) | refine WN (by omega) (by omega) ?_ | refine WO (by omega) (by omega) ?_ | refine WP (by omega) (by omega) (by omega) ?_)
    | refine on_box hb ?_
    | refine byteAt_c (k := 0) hl (by omega) (by decide) hb ?_
    | refine run_blank (q := p + 1) hl (by omega) hk (by omega) ?_
    | refine rows_pair (p := (p, p + (k + 2))) hr2 (by omega) rfl hpk (fun w2' st1 hr3 hb3 => ?_)
    | refine on_box ((congrFun hb3 b).trans hb) ?_
    | refine on_box (St.box_at _ _ _) ?_
    | with_reducible refine WF ?_)
  exact fin_eq ((St.set_set' _ _ _ _).trans (congrArg (st1.setBox b) (qC_at (by omega)))) (h w2' st1 hr3 hb3) rfl
end
end Go.Proofs.YtkcapphlemoccaaGreatDoor
set_option linter.unusedVariables false
namespace Go.Aw
open Go
theorem sgnF_by (l : List UInt8) : sgnF (byF l) = sgnF (hdF l) := by
  rcases byF_hd l with ⟨h1, h2⟩ | ⟨h1, h2⟩
  · rw [h1, h2]; rfl
  · rw [h2]
theorem sgnF_no {c : Int} (h : sgnF c = none) : c ≠ 92 ∧ c ≠ 34 ∧ c ≠ 39 := by
  refine ⟨fun e => ?_, fun e => ?_, fun e => ?_⟩ <;> (subst e; cases h)
theorem u8_in {a : Int} (h1 : 0 ≤ a) (h2 : a ≤ 255) : IntKind.u8.wrap a = a := IntWalk.u8_in _ ⟨h1, h2⟩
theorem escF_sgn {tx : Bool} {l : List UInt8} {v : Int} (h : sgnF (hdF (l.drop 1)) = some v) : escF tx l = some (v, 2) := by unfold escF; rw [h]
theorem escF_amp {l : List UInt8} (h : hdF (l.drop 1) = 38) : escF true l = some (-1, 2) := by
  unfold escF; rw [show sgnF (hdF (l.drop 1)) = none by rw [h]; rfl]
  exact if_pos ⟨h, rfl⟩
theorem escF_ctl {tx : Bool} {l : List UInt8} (h : hdF (l.drop 1) = 94) (h1 : 64 ≤ hdF (l.drop 2)) (h2 : hdF (l.drop 2) ≤ 95) : escF tx l = some (hdF (l.drop 2) - 64, 3) := by
  unfold escF; rw [show sgnF (hdF (l.drop 1)) = none by rw [h]; rfl]
  dsimp only
  rw [if_neg (by omega), if_pos ⟨h, h1, h2⟩]
theorem escF_oct {tx : Bool} {l : List UInt8} (h : hdF (l.drop 1) = 111) : escF tx l = (numV 8 (l.drop 2)).map fun p => (p.1, 2 + p.2) := by
  unfold escF; rw [show sgnF (hdF (l.drop 1)) = none by rw [h]; rfl]
  dsimp only
  rw [if_neg (by omega), if_neg (by omega), if_pos h]
theorem escF_hex {tx : Bool} {l : List UInt8} (h : hdF (l.drop 1) = 120) : escF tx l = (numV 16 (l.drop 2)).map fun p => (p.1, 2 + p.2) := by
  unfold escF; rw [show sgnF (hdF (l.drop 1)) = none by rw [h]; rfl]
  dsimp only
  rw [if_neg (by omega), if_neg (by omega), if_neg (by omega), if_pos h]
theorem escF_dec {tx : Bool} {l : List UInt8} (h : 48 ≤ hdF (l.drop 1)) (h1 : hdF (l.drop 1) ≤ 57) : escF tx l = (numV 10 (l.drop 1)).map fun p => (p.1, 1 + p.2) := by
  have hs : sgnF (hdF (l.drop 1)) = none := by
    unfold sgnF
    (repeat' split) <;> first | rfl | (exfalso; omega)
  unfold escF; rw [hs]
  dsimp only
  rw [if_neg (by omega), if_neg (by omega), if_neg (by omega), if_neg (by omega), if_pos ⟨h, h1⟩]
theorem escF_nam {tx : Bool} {l : List UInt8} (h : sgnF (hdF (l.drop 1)) = none) (h1 : ¬ (hdF (l.drop 1) = 38 ∧ tx = true)) (h2 : ¬ (hdF (l.drop 1) = 94 ∧ 64 ≤ hdF (l.drop 2) ∧ hdF (l.drop 2) ≤ 95)) (h3 : hdF (l.drop 1) ≠ 111) (h4 : hdF (l.drop 1) ≠ 120) (h5 : ¬ (48 ≤ hdF (l.drop 1) ∧ hdF (l.drop 1) ≤ 57)) :
    escF tx l = if 0 < (namF (l.drop 1)).2 then some ((namF (l.drop 1)).1, 1 + (namF (l.drop 1)).2) else none := by
  unfold escF; rw [h]
  dsimp only
  rw [if_neg h1, if_neg h2, if_neg h3, if_neg h4, if_neg h5]
end Go.Aw
namespace Go.Proofs.YtkcapphlemoccaaGreatDoor
open Go Go.Aw
section
variable {st : St} {R : Res → St → Prop}
theorem named_e {s : List UInt8} {i : Int} {n : Nat} (e : i.toNat = n) (hl : s.length ≤ 100000000) (h : R (.ret (.tup [.int .i64 (namF (s.drop n)).1, .int .i64 (namF (s.drop n)).2])) st) : PC 138 [.str (s.drop i.toNat)] st R := by
  rw [e]; exact named_c (by rw [List.length_drop]; omega) h
set_option maxHeartbeats 1200000 in
theorem escape_c {b p : Nat} {s : List UInt8} {tx : Bool} {o : List Int} {w1 w2 : Own} {g : List (Nat × Nat)} (hl : s.length ≤ 100000000) (hp : p < s.length) (hb : st.box b = some (qC s p tx o w1 g w2))
    (h : ∀ v n, escF tx (s.drop p) = some (v, n) → R (.ret (.int .i64 v)) (st.setBox b (qC s (p + n) tx o w1 g w2))) (h0 : escF tx (s.drop p) = none → ∀ q, R (.pan (qfault p 51)) (st.setBox b (qC s q tx o w1 g w2))) :
    PC 132 [.ptr b 0] st R := by
  have d1 : (s.drop p).drop 1 = s.drop (p + 1) := List.drop_drop
  have d2 : (s.drop p).drop 2 = s.drop (p + 1 + 1) := List.drop_drop
  refine pcalls_of_aw tys_ok [] Tryz.func132 rfl (by decide) rfl ?_
  refine AW_seq2 (aw_of tys_ok ?_)
  repeat' ((conv => whnf); first
    | (with_reducible first | exact Wa | exact Wb | exact Wc | refine Wd (by kernel_rfl) ?_ | refine We ?_ ?_ ?_ | refine W8 (by decide +kernel) ?_ ?_ ?_ | refine W9 ?_ ?_ ?_ | refine Wt (by first | assumption | omega) ?_ | refine Wu (by first | assumption | omega) ?_ | refine Wv (by omega) ?_ | refine Ww (by omega) ?_ | refine Wf (by decide) (fun _ => ?_) (fun _ => ?_) | refine Wg (fun _ => ?_) (fun _ => ?_) | refine Wh (fun _ => ?_) (fun _ => ?_) | refine Wi ?_ | refine Wj ?_ | refine Wk (fun _ => ?_) (fun _ => ?_) | refine Wl (fun _ => ?_) | refine Wm (by assumption) (by omega) ?_ | refine Wn (by omega) (by omega) (fun _ _ _ => ?_) | refine Wo (by omega) (by omega) ?_ | refine Wp (by omega) (by omega) (by omega) ?_ | refine Wq (by omega) (by omega) ?_ | refine Wr (by decide) (by omega) (by omega) ?_ | refine Ws (by decide) ?_ | refine Wx (fun _ => ?_) ?_ | refine Wy (fun _ => ?_) ?_ | refine Wz (fun _ => ?_) | refine WA (fun _ => ?_) | refine WB (by assumption) (by omega) ?_ | refine WC (by omega) (by omega) (fun _ _ => ?_) | refine WD (by omega) (by omega) (fun _ _ => ?_) | refine WE (by omega) (by omega) (by omega) ?_ | refine WJ (fun _ => ?_) | refine WK (fun _ _ _ => ?_) | refine WL (by assumption) (by omega) ?_ | refine WM (by omega) (by omega) (fun _ _ => ?_) | refine WN (by omega) (by omega) ?_ | refine WO (by omega) (by omega) ?_ | refine WP (by omega) (by omega) (by omega) ?_)
    | with_reducible refine WF ?_)
  refine AW_seq2 (aw_of tys_ok ?_)
  repeat' ((conv => whnf); first
    | (with_reducible first | exact Wa | exact Wb | exact Wc | refine Wd (by kernel_rfl) ?_ | refine We ?_ ?_ ?_ | refine W8 (by decide +kernel) ?_ ?_ ?_ | refine W9 ?_ ?_ ?_ | refine Wt (by first | assumption | omega) ?_ | refine Wu (by first | assumption | omega) ?_ | refine Wv (by omega) ?_ | refine Ww (by omega) ?_ | refine Wf (by decide) (fun _ => ?_) (fun _ => ?_) | refine Wg (fun _ => ?_) (fun _ => ?_) | refine Wh (fun _ => ?_) (fun _ => ?_) | refine Wi ?_ | refine Wj ?_ | refine Wk (fun _ => ?_) (fun _ => ?_) | refine Wl (fun _ => ?_) | refine Wm (by assumption) (by omega) ?_ | refine Wn (by omega) (by omega) (fun _ _ _ => ?_) | refine Wo (by omega) (by omega) ?_ | refine Wp (by omega) (by omega) (by omega) ?_ | refine Wq (by omega) (by omega) ?_ | refine Wr (by decide) (by omega) (by omega) ?_ | refine Ws (by decide) ?_ | refine Wx (fun _ => ?_) ?_ | refine Wy (fun _ => ?_) ?_ | refine Wz (fun _ => ?_) | refine WA (fun _ => ?_) | refine WB (by assumption) (by omega) ?_ | refine WC (by omega) (by omega) (fun _ _ => ?_) | refine WD (by omega) (by omega) (fun _ _ => ?_) | refine WE (by omega) (by omega) (by omega) ?_ | refine WJ (fun _ => ?_) | refine WK (fun _ _ _ => ?_) | refine WL (by assumption) (by omega) ?_ | refine WM (by omega) (by omega) (fun _ _ => ?_) | refine WN (by omega) (by omega) ?_ | refine WO (by omega) (by omega) ?_ | refine WP (by omega) (by omega) (by omega) ?_)
    | refine on_box hb ?_
    | with_reducible refine WF ?_)
  refine AW_seq2 (aw_of tys_ok ?_)
  repeat' ((conv => whnf); first
    | (with_reducible first | exact Wa | exact Wb | exact Wc | refine Wd (by kernel_rfl) ?_ | refine We ?_ ?_ ?_ | refine W8 (by decide +kernel) ?_ ?_ ?_ | refine W9 ?_ ?_ ?_ | refine Wt (by first | assumption | omega) ?_ | refine Wu (by first | assumption | omega) ?_ | refine Wv (by omega) ?_ | refine Ww (by omega) ?_ | refine Wf (by decide) (fun _ => ?_) (fun _ => ?_) | refine Wg (fun _ => ?_) (fun _ => ?_) | refine Wh (fun _ => ?_) (fun _ => ?_) | refine Wi ?_ | refine Wj ?_ | refine Wk (fun _ => ?_) (fun _ => ?_) | refine Wl (fun _ => ?_) | refine Wm (by assumption) (by omega) ?_ | refine Wn (by omega) (by omega) (fun _ _ _ => ?_) | refine Wo (by omega) (by omega) ?_ | refine Wp (by omega) (by omega) (by omega) ?_ | refine Wq (by omega) (by omega) ?_ | refine Wr (by decide) (by omega) (by omega) ?_ | refine Ws (by decide) ?_ | refine Wx (fun _ => ?_) ?_ | refine Wy (fun _ => ?_) ?_ | refine Wz (fun _ => ?_) | refine WA (fun _ => ?_) | refine WB (by assumption) (by omega) ?_ | refine WC (by omega) (by omega) (fun _ _ => ?_) | refine WD (by omega) (by omega) (fun _ _ => ?_) | refine WE (by omega) (by omega) (by omega) ?_ | refine WJ (fun _ => ?_) | refine WK (fun _ _ _ => ?_) | refine WL (by assumption) (by omega) ?_ | refine WM (by omega) (by omega) (fun _ _ => ?_) | refine WN (by omega) (by omega) ?_ | refine WO (by omega) (by omega) ?_ | refine WP (by omega) (by omega) (by omega) ?_)
    | refine on_box hb ?_
    | with_reducible refine WF ?_)
  refine AW_st (st' := st.setBox b (qC s (p + 1) tx o w1 g w2)) rfl ?_
  have endq : ∀ {i : Int} {q : Nat}, i = (q : Int) → (st.setBox b (qC s (p + 1) tx o w1 g w2)).setBox b [V.str s, .int .i64 i, .bool tx, .slice 1 (ints o) w1, .slice 2 (prs g) w2] = st.setBox b (qC s q tx o w1 g w2) := fun e => by rw [St.set_set', qC_at e]
  have endp : ∀ {q : Nat}, (st.setBox b (qC s (p + 1) tx o w1 g w2)).setBox b (qC s q tx o w1 g w2) = st.setBox b (qC s q tx o w1 g w2) := St.set_set' _ _ _ _
  have hb1 : (st.setBox b (qC s (p + 1) tx o w1 g w2)).box b = some (qC s (p + 1) tx o w1 g w2) := St.box_at _ _ _
  have h0' := fun e => h0 e (p + 1)
  generalize hst : st.setBox b (qC s (p + 1) tx o w1 g w2) = st1 at hb1 endq endp h0'
  have hx1 := byF_hd (s.drop (p + 1))
  have hx2 := byF_hd (s.drop (p + 1 + 1))
  have hxl := hdF_lt (s.drop (p + 1))
  have hby0 : ∀ {R : Res → St → Prop}, R (.ret (.int .u8 (byF (s.drop (p + 1))))) st1 → PC 114 [.ptr b 0, .int .i64 0] st1 R := fun h => byteAt_c (k := 0) hl (by omega) (by decide) hb1 h
  have hby1 : ∀ {R : Res → St → Prop}, R (.ret (.int .u8 (byF (s.drop (p + 1 + 1))))) st1 → PC 114 [.ptr b 0, .int .i64 1] st1 R := fun h => byteAt_c (k := 1) hl (by omega) (by decide) hb1 h
  have l1 := fun h => hdF_lt_len (l := s) (k := p + 1) h
  have l2 := fun h => hdF_lt_len (l := s) (k := p + 1 + 1) h
  cases hsg : sgnF (hdF (s.drop (p + 1))) with
  | some v =>
    have hv := sgnF_pos hsg
    have h1 := h v 2 (escF_sgn (by rw [d1]; exact hsg))
    have hsn : ∀ {R : Res → St → Prop}, R (.ret (sgnR (some v))) st1 → PC 136 [.int .u8 (byF (s.drop (p + 1)))] st1 R := fun h => sign_c (by omega) (by omega) (by rw [sgnF_by, hsg]; exact h)
    refine aw_of tys_ok ?_
    repeat' ((conv => whnf); first
      | (with_reducible first | exact Wa | exact Wb | exact Wc | refine Wd (by kernel_rfl) ?_ | refine We ?_ ?_ ?_ | refine W8 (by decide +kernel) ?_ ?_ ?_ | refine W9 ?_ ?_ ?_ | refine Wt (by first | assumption | omega) ?_ | refine Wu (by first | assumption | omega) ?_ | refine Wv (by omega) ?_ | refine Ww (by omega) ?_ | refine Wf (by decide) (fun _ => ?_) (fun _ => ?_) | refine Wg (fun _ => ?_) (fun _ => ?_) | refine Wh (fun _ => ?_) (fun _ => ?_) | refine Wi ?_ | refine Wj ?_ | refine Wk (fun _ => ?_) (fun _ => ?_) | refine Wl (fun _ => ?_) | refine Wm (by assumption) (by omega) ?_ | refine Wn (by omega) (by omega) (fun _ _ _ => ?_) | refine Wo (by omega) (by omega) ?_ | refine Wp (by omega) (by omega) (by omega) ?_ | refine Wq (by omega) (by omega) ?_ | refine Wr (by decide) (by omega) (by omega) ?_ | refine Ws (by decide) ?_ | refine Wx (fun _ => ?_) ?_ | refine Wy (fun _ => ?_) ?_ | refine Wz (fun _ => ?_) | refine WA (fun _ => ?_) | refine WB (by assumption) (by omega) ?_ | refine WC (by omega) (by omega) (fun _ _ => ?_) | refine WD (by omega) (by omega) (fun _ _ => ?_) | refine WE (by omega) (by omega) (by omega) ?_ | refine WJ (fun _ => ?_) | refine WK (fun _ _ _ => ?_) | refine WL (by assumption) (by omega) ?_ | refine WM (by omega) (by omega) (fun _ _ => ?_) | refine WN (by omega) (by omega) ?_ | refine WO (by omega) (by omega) ?_ | refine WP (by omega) (by omega) (by omega) ?_)
      | refine hby0 ?_
      | refine hsn ?_
      | refine on_box hb1 ?_
      | with_reducible refine WF ?_)
    exact fin_eq (endq (by omega)) h1 rfl
  | none =>
    have hne := sgnF_no hsg
    have hsn : ∀ {R : Res → St → Prop}, R (.ret (sgnR none)) st1 → PC 136 [.int .u8 (byF (s.drop (p + 1)))] st1 R := fun h => sign_c (by omega) (by omega) (by rw [sgnF_by, hsg]; exact h)
    refine AW_seq2 (aw_of tys_ok ?_)
    repeat' ((conv => whnf); first
      | (with_reducible first | exact Wa | exact Wb | exact Wc | refine Wd (by kernel_rfl) ?_ | refine We ?_ ?_ ?_ | refine W8 (by decide +kernel) ?_ ?_ ?_ | refine W9 ?_ ?_ ?_ | refine Wt (by first | assumption | omega) ?_ | refine Wu (by first | assumption | omega) ?_ | refine Wv (by omega) ?_ | refine Ww (by omega) ?_ | refine Wf (by decide) (fun _ => ?_) (fun _ => ?_) | refine Wg (fun _ => ?_) (fun _ => ?_) | refine Wh (fun _ => ?_) (fun _ => ?_) | refine Wi ?_ | refine Wj ?_ | refine Wk (fun _ => ?_) (fun _ => ?_) | refine Wl (fun _ => ?_) | refine Wm (by assumption) (by omega) ?_ | refine Wn (by omega) (by omega) (fun _ _ _ => ?_) | refine Wo (by omega) (by omega) ?_ | refine Wp (by omega) (by omega) (by omega) ?_ | refine Wq (by omega) (by omega) ?_ | refine Wr (by decide) (by omega) (by omega) ?_ | refine Ws (by decide) ?_ | refine Wx (fun _ => ?_) ?_ | refine Wy (fun _ => ?_) ?_ | refine Wz (fun _ => ?_) | refine WA (fun _ => ?_) | refine WB (by assumption) (by omega) ?_ | refine WC (by omega) (by omega) (fun _ _ => ?_) | refine WD (by omega) (by omega) (fun _ _ => ?_) | refine WE (by omega) (by omega) (by omega) ?_ | refine WJ (fun _ => ?_) | refine WK (fun _ _ _ => ?_) | refine WL (by assumption) (by omega) ?_ | refine WM (by omega) (by omega) (fun _ _ => ?_) | refine WN (by omega) (by omega) ?_ | refine WO (by omega) (by omega) ?_ | refine WP (by omega) (by omega) (by omega) ?_)
      | refine hby0 ?_
      | with_reducible refine WF ?_)
    refine AW_seq2 (aw_of tys_ok ?_)
    repeat' ((conv => whnf); first
      | (with_reducible first | exact Wa | exact Wb | exact Wc | refine Wd (by kernel_rfl) ?_ | refine We ?_ ?_ ?_ | refine W8 (by decide +kernel) ?_ ?_ ?_ | refine W9 ?_ ?_ ?_ | refine Wt (by first | assumption | omega) ?_ | refine Wu (by first | assumption | omega) ?_ | refine Wv (by omega) ?_ | refine Ww (by omega) ?_ | refine Wf (by decide) (fun _ => ?_) (fun _ => ?_) | refine Wg (fun _ => ?_) (fun _ => ?_) | refine Wh (fun _ => ?_) (fun _ => ?_) | refine Wi ?_ | refine Wj ?_ | refine Wk (fun _ => ?_) (fun _ => ?_) | refine Wl (fun _ => ?_) | refine Wm (by assumption) (by omega) ?_ | refine Wn (by omega) (by omega) (fun _ _ _ => ?_) | refine Wo (by omega) (by omega) ?_ | refine Wp (by omega) (by omega) (by omega) ?_ | refine Wq (by omega) (by omega) ?_ | refine Wr (by decide) (by omega) (by omega) ?_ | refine Ws (by decide) ?_ | refine Wx (fun _ => ?_) ?_ | refine Wy (fun _ => ?_) ?_ | refine Wz (fun _ => ?_) | refine WA (fun _ => ?_) | refine WB (by assumption) (by omega) ?_ | refine WC (by omega) (by omega) (fun _ _ => ?_) | refine WD (by omega) (by omega) (fun _ _ => ?_) | refine WE (by omega) (by omega) (by omega) ?_ | refine WJ (fun _ => ?_) | refine WK (fun _ _ _ => ?_) | refine WL (by assumption) (by omega) ?_ | refine WM (by omega) (by omega) (fun _ _ => ?_) | refine WN (by omega) (by omega) ?_ | refine WO (by omega) (by omega) ?_ | refine WP (by omega) (by omega) (by omega) ?_)
      | refine hsn ?_
      | with_reducible refine WF ?_)
    by_cases c1 : hdF (s.drop (p + 1)) = 38 ∧ tx = true
    · obtain ⟨c1, rfl⟩ := c1
      have h1 := h (-1) 2 (escF_amp (by rw [d1]; exact c1))
      refine aw_of tys_ok ?_
      repeat' ((conv => whnf); first
        | (with_reducible first | exact Wa | exact Wb | exact Wc | refine Wd (by kernel_rfl) ?_ | refine We ?_ ?_ ?_ | refine W8 (by decide +kernel) ?_ ?_ ?_ | refine W9 ?_ ?_ ?_ | refine Wt (by first | assumption | omega) ?_ | refine Wu (by first | assumption | omega) ?_ | refine Wv (by omega) ?_ | refine Ww (by omega) ?_ | refine Wf (by decide) (fun _ => ?_) (fun _ => ?_) | refine Wg (fun _ => ?_) (fun _ => ?_) | refine Wh (fun _ => ?_) (fun _ => ?_) | refine Wi ?_ | refine Wj ?_ | refine Wk (fun _ => ?_) (fun _ => ?_) | refine Wl (fun _ => ?_) | refine Wm (by assumption) (by omega) ?_ | refine Wn (by omega) (by omega) (fun _ _ _ => ?_) | refine Wo (by omega) (by omega) ?_ | refine Wp (by omega) (by omega) (by omega) ?_ | refine Wq (by omega) (by omega) ?_ | refine Wr (by decide) (by omega) (by omega) ?_ | refine Ws (by decide) ?_ | refine Wx (fun _ => ?_) ?_ | refine Wy (fun _ => ?_) ?_ | refine Wz (fun _ => ?_) | refine WA (fun _ => ?_) | refine WB (by assumption) (by omega) ?_ | refine WC (by omega) (by omega) (fun _ _ => ?_) | refine WD (by omega) (by omega) (fun _ _ => ?_) | refine WE (by omega) (by omega) (by omega) ?_ | refine WJ (fun _ => ?_) | refine WK (fun _ _ _ => ?_) | refine WL (by assumption) (by omega) ?_ | refine WM (by omega) (by omega) (fun _ _ => ?_) | refine WN (by omega) (by omega) ?_ | refine WO (by omega) (by omega) ?_ | refine WP (by omega) (by omega) (by omega) ?_)
        | refine on_box hb1 ?_
        | with_reducible refine WF ?_)
      exact fin_eq (endq (by omega)) h1 rfl
    by_cases c2 : hdF (s.drop (p + 1)) = 94 ∧ 64 ≤ hdF (s.drop (p + 1 + 1)) ∧ hdF (s.drop (p + 1 + 1)) ≤ 95
    · obtain ⟨c2, c3, c4⟩ := c2
      have h1 := h _ 3 (escF_ctl (by rw [d1]; exact c2) (by rw [d2]; exact c3) (by rw [d2]; exact c4))
      rw [d2] at h1
      have hp2 := l2 (by omega)
      obtain ⟨e, he⟩ : ∃ e, s[p + 1 + 1]? = some e := ⟨s[p + 1 + 1], List.getElem?_eq_getElem hp2⟩
      have he' : s[(((p + 1 : Nat) : Int) + 2 - 1).toNat]? = some e := by rw [show (((p + 1 : Nat) : Int) + 2 - 1).toNat = p + 1 + 1 by omega]; exact he
      have hv := hdF_at he
      have hew : ∀ {K : Int → Prop}, K (hdF (s.drop (p + 1 + 1)) - 64) → ∃ r, r = IntKind.u8.wrap ((e.toNat : Nat) - 64 : Int) ∧ K r := fun k => ⟨_, by rw [hv]; exact (u8_in (by omega) (by omega)).symm, k⟩
      refine aw_of tys_ok ?_
      repeat' ((conv => whnf); first
        | (with_reducible first | exact Wa | exact Wb | exact Wc | refine Wd (by kernel_rfl) ?_ | refine We ?_ ?_ ?_ | refine W8 (by decide +kernel) ?_ ?_ ?_ | refine W9 ?_ ?_ ?_ | refine Wt (by first | assumption | omega) ?_ | refine Wu (by first | assumption | omega) ?_ | refine Wv (by omega) ?_ | refine Ww (by omega) ?_ | refine Wf (by decide) (fun _ => ?_) (fun _ => ?_) | refine Wg (fun _ => ?_) (fun _ => ?_) | refine Wh (fun _ => ?_) (fun _ => ?_) | refine Wi ?_ | refine Wj ?_ | refine Wk (fun _ => ?_) (fun _ => ?_) | refine Wl (fun _ => ?_) | refine Wm (by assumption) (by omega) ?_ | refine Wn (by omega) (by omega) (fun _ _ _ => ?_) | refine Wo (by omega) (by omega) ?_ | refine Wp (by omega) (by omega) (by omega) ?_ | refine Wq (by omega) (by omega) ?_ | refine Wr (by decide) (by omega) (by omega) ?_ | refine Ws (by decide) ?_ | refine Wx (fun _ => ?_) ?_ | refine Wy (fun _ => ?_) ?_ | refine Wz (fun _ => ?_) | refine WA (fun _ => ?_) | refine WB (by assumption) (by omega) ?_ | refine WC (by omega) (by omega) (fun _ _ => ?_) | refine WD (by omega) (by omega) (fun _ _ => ?_) | refine WE (by omega) (by omega) (by omega) ?_ | refine WJ (fun _ => ?_) | refine WK (fun _ _ _ => ?_) | refine WL (by assumption) (by omega) ?_ | refine WM (by omega) (by omega) (fun _ _ => ?_) | refine WN (by omega) (by omega) ?_ | refine WO (by omega) (by omega) ?_ | refine WP (by omega) (by omega) (by omega) ?_)
        | refine hby1 ?_
        | refine on_box hb1 ?_
        | refine on_box (St.box_at _ _ _) ?_
        | refine hew ?_
        | with_reducible refine WF ?_)
      exact fin_eq (endq (by omega)) h1 rfl
    by_cases c3 : hdF (s.drop (p + 1)) = 111
    · have he := escF_oct (tx := tx) (l := s.drop p) (by rw [d1]; exact c3)
      rw [d2] at he
      have hp1 := l1 (by omega)
      refine aw_of tys_ok ?_
      repeat' ((conv => whnf); first
        | (with_reducible first | exact Wa | exact Wb | exact Wc | refine Wd (by kernel_rfl) ?_ | refine We ?_ ?_ ?_ | refine W8 (by decide +kernel) ?_ ?_ ?_ | refine W9 ?_ ?_ ?_ | refine Wt (by first | assumption | omega) ?_ | refine Wu (by first | assumption | omega) ?_ | refine Wv (by omega) ?_ | refine Ww (by omega) ?_ | refine Wf (by decide) (fun _ => ?_) (fun _ => ?_) | refine Wg (fun _ => ?_) (fun _ => ?_) | refine Wh (fun _ => ?_) (fun _ => ?_) | refine Wi ?_ | refine Wj ?_ | refine Wk (fun _ => ?_) (fun _ => ?_) | refine Wl (fun _ => ?_) | refine Wm (by assumption) (by omega) ?_ | refine Wn (by omega) (by omega) (fun _ _ _ => ?_) | refine Wo (by omega) (by omega) ?_ | refine Wp (by omega) (by omega) (by omega) ?_ | refine Wq (by omega) (by omega) ?_ | refine Wr (by decide) (by omega) (by omega) ?_ | refine Ws (by decide) ?_ | refine Wx (fun _ => ?_) ?_ | refine Wy (fun _ => ?_) ?_ | refine Wz (fun _ => ?_) | refine WA (fun _ => ?_) | refine WB (by assumption) (by omega) ?_ | refine WC (by omega) (by omega) (fun _ _ => ?_) | refine WD (by omega) (by omega) (fun _ _ => ?_) | refine WE (by omega) (by omega) (by omega) ?_ | refine WJ (fun _ => ?_) | refine WK (fun _ _ _ => ?_) | refine WL (by assumption) (by omega) ?_ | refine WM (by omega) (by omega) (fun _ _ => ?_) | refine WN (by omega) (by omega) ?_ | refine WO (by omega) (by omega) ?_ | refine WP (by omega) (by omega) (by omega) ?_)
        | refine on_box hb1 ?_
        | refine digits_c (k := 1) hl (by omega) (.inl rfl) hb1 (fun v n hv => ?_) (fun hv => ?_)
        | with_reducible refine WF ?_)
      all_goals try rw [hv] at he
      · have h1 := h v (2 + n) he
        exact fin_eq (endp.trans (by rw [show p + 1 + 1 + n = p + (2 + n) by omega])) h1 rfl
      · exact fin (h0' he) rfl
    by_cases c4 : hdF (s.drop (p + 1)) = 120
    · have he := escF_hex (tx := tx) (l := s.drop p) (by rw [d1]; exact c4)
      rw [d2] at he
      have hp1 := l1 (by omega)
      refine aw_of tys_ok ?_
      repeat' ((conv => whnf); first
        | (with_reducible first | exact Wa | exact Wb | exact Wc | refine Wd (by kernel_rfl) ?_ | refine We ?_ ?_ ?_ | refine W8 (by decide +kernel) ?_ ?_ ?_ | refine W9 ?_ ?_ ?_ | refine Wt (by first | assumption | omega) ?_ | refine Wu (by first | assumption | omega) ?_ | refine Wv (by omega) ?_ | refine Ww (by omega) ?_ | refine Wf (by decide) (fun _ => ?_) (fun _ => ?_) | refine Wg (fun _ => ?_) (fun _ => ?_) | refine Wh (fun _ => ?_) (fun _ => ?_) | refine Wi ?_ | refine Wj ?_ | refine Wk (fun _ => ?_) (fun _ => ?_) | refine Wl (fun _ => ?_) | refine Wm (by assumption) (by omega) ?_ | refine Wn (by omega) (by omega) (fun _ _ _ => ?_) | refine Wo (by omega) (by omega) ?_ | refine Wp (by omega) (by omega) (by omega) ?_ | refine Wq (by omega) (by omega) ?_ | refine Wr (by decide) (by omega) (by omega) ?_ | refine Ws (by decide) ?_ | refine Wx (fun _ => ?_) ?_ | refine Wy (fun _ => ?_) ?_ | refine Wz (fun _ => ?_) | refine WA (fun _ => ?_) | refine WB (by assumption) (by omega) ?_ | refine WC (by omega) (by omega) (fun _ _ => ?_) | refine WD (by omega) (by omega) (fun _ _ => ?_) | refine WE (by omega) (by omega) (by omega) ?_ | refine WJ (fun _ => ?_) | refine WK (fun _ _ _ => ?_) | refine WL (by assumption) (by omega) ?_ | refine WM (by omega) (by omega) (fun _ _ => ?_) | refine WN (by omega) (by omega) ?_ | refine WO (by omega) (by omega) ?_ | refine WP (by omega) (by omega) (by omega) ?_)
        | refine on_box hb1 ?_
        | refine digits_c (k := 1) hl (by omega) (.inr (.inr rfl)) hb1 (fun v n hv => ?_) (fun hv => ?_)
        | with_reducible refine WF ?_)
      all_goals try rw [hv] at he
      · have h1 := h v (2 + n) he
        exact fin_eq (endp.trans (by rw [show p + 1 + 1 + n = p + (2 + n) by omega])) h1 rfl
      · exact fin (h0' he) rfl
    by_cases c5 : 48 ≤ hdF (s.drop (p + 1)) ∧ hdF (s.drop (p + 1)) ≤ 57
    · have he := escF_dec (tx := tx) (l := s.drop p) (by rw [d1]; exact c5.1) (by rw [d1]; exact c5.2)
      rw [d1] at he
      have hp1 := l1 (by omega)
      refine aw_of tys_ok ?_
      repeat' ((conv => whnf); first
        | (with_reducible first | exact Wa | exact Wb | exact Wc | refine Wd (by kernel_rfl) ?_ | refine We ?_ ?_ ?_ | refine W8 (by decide +kernel) ?_ ?_ ?_ | refine W9 ?_ ?_ ?_ | refine Wt (by first | assumption | omega) ?_ | refine Wu (by first | assumption | omega) ?_ | refine Wv (by omega) ?_ | refine Ww (by omega) ?_ | refine Wf (by decide) (fun _ => ?_) (fun _ => ?_) | refine Wg (fun _ => ?_) (fun _ => ?_) | refine Wh (fun _ => ?_) (fun _ => ?_) | refine Wi ?_ | refine Wj ?_ | refine Wk (fun _ => ?_) (fun _ => ?_) | refine Wl (fun _ => ?_) | refine Wm (by assumption) (by omega) ?_ | refine Wn (by omega) (by omega) (fun _ _ _ => ?_) | refine Wo (by omega) (by omega) ?_ | refine Wp (by omega) (by omega) (by omega) ?_ | refine Wq (by omega) (by omega) ?_ | refine Wr (by decide) (by omega) (by omega) ?_ | refine Ws (by decide) ?_ | refine Wx (fun _ => ?_) ?_ | refine Wy (fun _ => ?_) ?_ | refine Wz (fun _ => ?_) | refine WA (fun _ => ?_) | refine WB (by assumption) (by omega) ?_ | refine WC (by omega) (by omega) (fun _ _ => ?_) | refine WD (by omega) (by omega) (fun _ _ => ?_) | refine WE (by omega) (by omega) (by omega) ?_ | refine WJ (fun _ => ?_) | refine WK (fun _ _ _ => ?_) | refine WL (by assumption) (by omega) ?_ | refine WM (by omega) (by omega) (fun _ _ => ?_) | refine WN (by omega) (by omega) ?_ | refine WO (by omega) (by omega) ?_ | refine WP (by omega) (by omega) (by omega) ?_)
        | refine on_box hb1 ?_
        | refine digits_c (k := 0) hl (by omega) (.inr (.inl rfl)) hb1 (fun v n hv => ?_) (fun hv => ?_)
        | with_reducible refine WF ?_)
      all_goals try rw [show numV 10 (s.drop (p + 1)) = _ from hv] at he
      · have h1 := h v (1 + n) he
        exact fin_eq (endp.trans (by rw [show p + 1 + 0 + n = p + (1 + n) by omega])) h1 rfl
      · exact fin (h0' he) rfl
    · have he := escF_nam (tx := tx) (l := s.drop p) (by rw [d1]; exact hsg) (by rw [d1]; exact c1) (by rw [d1, d2]; exact c2) (by rw [d1]; exact c3) (by rw [d1]; exact c4) (by rw [d1]; exact c5)
      rw [d1] at he
      have hc1 : byF (s.drop (p + 1)) = 38 → tx = false := fun e => by
        cases tx with
        | false => rfl
        | true => exact absurd ⟨by omega, rfl⟩ c1
      have hnl := namG_le (s.drop (p + 1)) nameT 0 (0, 0) (Nat.zero_le _)
      have hnn : (namF (s.drop (p + 1))).2 ≤ s.length - (p + 1) := by simp only [namF]; rw [List.length_drop] at hnl; omega
      have f2 : ¬ (byF (s.drop (p + 1)) = 94 ∧ 64 ≤ byF (s.drop (p + 1 + 1)) ∧ byF (s.drop (p + 1 + 1)) ≤ 95) := fun e => c2 ⟨by omega, by omega, by omega⟩
      have f3 : ¬ byF (s.drop (p + 1)) = 111 := by omega
      have f4 : ¬ byF (s.drop (p + 1)) = 120 := by omega
      have f5 : ¬ (48 ≤ byF (s.drop (p + 1)) ∧ byF (s.drop (p + 1)) ≤ 57) := by omega
      have e1 := fun (n : Nat) (hn : (namF (s.drop (p + 1))).2 = n) (h0 : 0 < n) => h _ (1 + n) (by rw [he, hn, if_pos h0])
      have e2 := fun (h0 : ¬ 0 < (namF (s.drop (p + 1))).2) => h0' (by rw [he, if_neg h0])
      generalize byF (s.drop (p + 1)) = x1 at hby0 hc1 f2 f3 f4 f5 hx1 hsn
      generalize byF (s.drop (p + 1 + 1)) = x2 at hby1 f2 hx2
      generalize hN : namF (s.drop (p + 1)) = N at e1 e2 hnn
      obtain ⟨v, n⟩ := N
      have e1 := e1 n rfl
      dsimp only at e1 e2 hnn
      have hnam : ∀ {i : Int} {R : Res → St → Prop}, i.toNat = p + 1 → R (.ret (.tup [.int .i64 v, .int .i64 (n : Int)])) st1 → PC 138 [.str (s.drop i.toNat)] st1 R := fun e h => named_e e hl (by rw [hN]; exact h)
      clear he h h0 h0' hsg hne hsn c1 c2 c3 c4 c5 hx1 hx2 hxl l1 l2 d1 d2 hnl hby0 endp hb hN
      by_cases h38 : x1 = 38
      · have e := hc1 h38
        subst e
        refine aw_of tys_ok ?_
        repeat' ((conv => whnf); first
          | (with_reducible first | exact Wa | exact Wb | exact Wc | refine Wd (by kernel_rfl) ?_ | refine We ?_ ?_ ?_ | refine W8 (by decide +kernel) ?_ ?_ ?_ | refine W9 ?_ ?_ ?_ | refine Wt (by first | assumption | omega) ?_ | refine Wu (by first | assumption | omega) ?_ | refine Wv (by omega) ?_ | refine Ww (by omega) ?_ | refine Wf (by decide) (fun _ => ?_) (fun _ => ?_) | refine Wg (fun _ => ?_) (fun _ => ?_) | refine Wh (fun _ => ?_) (fun _ => ?_) | refine Wi ?_ | refine Wj ?_ | refine Wk (fun _ => ?_) (fun _ => ?_) | refine Wl (fun _ => ?_) | refine Wm (by assumption) (by omega) ?_ | refine Wn (by omega) (by omega) (fun _ _ _ => ?_) | refine Wo (by omega) (by omega) ?_ | refine Wp (by omega) (by omega) (by omega) ?_ | refine Wq (by omega) (by omega) ?_ | refine Wr (by decide) (by omega) (by omega) ?_ | refine Ws (by decide) ?_ | refine Wx (fun _ => ?_) ?_ | refine Wy (fun _ => ?_) ?_ | refine Wz (fun _ => ?_) | refine WA (fun _ => ?_) | refine WB (by assumption) (by omega) ?_ | refine WC (by omega) (by omega) (fun _ _ => ?_) | refine WD (by omega) (by omega) (fun _ _ => ?_) | refine WE (by omega) (by omega) (by omega) ?_ | refine WJ (fun _ => ?_) | refine WK (fun _ _ _ => ?_) | refine WL (by assumption) (by omega) ?_ | refine WM (by omega) (by omega) (fun _ _ => ?_) | refine WN (by omega) (by omega) ?_ | refine WO (by omega) (by omega) ?_ | refine WP (by omega) (by omega) (by omega) ?_)
          | refine hby1 ?_
          | refine on_box hb1 ?_
          | refine hnam (by omega) ?_
          | refine qfail_c ?_
          | with_reducible refine WF ?_)
        all_goals first
          | exact fin_eq (endq (by omega)) (e1 (by omega)) rfl
          | exact fin (e2 (by omega)) rfl
      · clear hc1
        refine aw_of tys_ok ?_
        repeat' ((conv => whnf); first
          | (with_reducible first | exact Wa | exact Wb | exact Wc | refine Wd (by kernel_rfl) ?_ | refine We ?_ ?_ ?_ | refine W8 (by decide +kernel) ?_ ?_ ?_ | refine W9 ?_ ?_ ?_ | refine Wt (by first | assumption | omega) ?_ | refine Wu (by first | assumption | omega) ?_ | refine Wv (by omega) ?_ | refine Ww (by omega) ?_ | refine Wf (by decide) (fun _ => ?_) (fun _ => ?_) | refine Wg (fun _ => ?_) (fun _ => ?_) | refine Wh (fun _ => ?_) (fun _ => ?_) | refine Wi ?_ | refine Wj ?_ | refine Wk (fun _ => ?_) (fun _ => ?_) | refine Wl (fun _ => ?_) | refine Wm (by assumption) (by omega) ?_ | refine Wn (by omega) (by omega) (fun _ _ _ => ?_) | refine Wo (by omega) (by omega) ?_ | refine Wp (by omega) (by omega) (by omega) ?_ | refine Wq (by omega) (by omega) ?_ | refine Wr (by decide) (by omega) (by omega) ?_ | refine Ws (by decide) ?_ | refine Wx (fun _ => ?_) ?_ | refine Wy (fun _ => ?_) ?_ | refine Wz (fun _ => ?_) | refine WA (fun _ => ?_) | refine WB (by assumption) (by omega) ?_ | refine WC (by omega) (by omega) (fun _ _ => ?_) | refine WD (by omega) (by omega) (fun _ _ => ?_) | refine WE (by omega) (by omega) (by omega) ?_ | refine WJ (fun _ => ?_) | refine WK (fun _ _ _ => ?_) | refine WL (by assumption) (by omega) ?_ | refine WM (by omega) (by omega) (fun _ _ => ?_) | refine WN (by omega) (by omega) ?_ | refine WO (by omega) (by omega) ?_ | refine WP (by omega) (by omega) (by omega) ?_)
          | refine hby1 ?_
          | refine on_box hb1 ?_
          | refine hnam (by omega) ?_
          | refine qfail_c ?_
          | with_reducible refine WF ?_)
        all_goals first
          | exact fin_eq (endq (by omega)) (e1 (by omega)) rfl
          | exact fin (e2 (by omega)) rfl
end
end Go.Proofs.YtkcapphlemoccaaGreatDoor
set_option linter.unusedVariables false
namespace Go.Aw
open Go
theorem oneF_gap {l : List UInt8} (h : 0 < gapN l) : oneF true l = .inr (-1, gapN l) := by
  cases l with
  | nil => exact absurd h (by decide)
  | cons a r =>
    have h1 : hdF (a :: r) = 92 := by
      by_cases h1 : hdF (a :: r) = 92
      · exact h1
      · unfold gapN at h; rw [if_neg (fun e => h1 e.1)] at h; omega
    unfold oneF
    dsimp only
    rw [if_pos h1, if_pos ⟨rfl, h⟩]
theorem oneF_esc {tx : Bool} {l : List UInt8} (h1 : hdF l = 92) (h : tx = false ∨ gapN l = 0) : oneF tx l = match escF tx l with | none => .inl 51 | some p => .inr p := by
  cases l with
  | nil => exact absurd h1 (by decide)
  | cons a r =>
    unfold oneF
    dsimp only
    have hn : ¬ (tx = true ∧ 0 < gapN (a :: r)) := fun x => by
      rcases h with h | h
      · rw [h] at x; cases x.1
      · omega
    rw [if_pos h1, if_neg hn]
    cases escF tx (a :: r) <;> rfl
theorem oneF_rune {tx : Bool} {l : List UInt8} (hne : l ≠ []) (h1 : hdF l ≠ 92) : oneF tx l = if badRune (decR l) then .inl 50 else .inr (((decR l).1 : Nat), (decR l).2) := by
  cases l with
  | nil => exact absurd rfl hne
  | cons a r =>
    unfold oneF
    dsimp only
    rw [if_neg h1]
theorem classF_max {c : Int} (h : classF c ≠ 0) : c ≤ 1114111 := by
  by_cases hc : c ≤ 1114111
  · exact hc
  · refine absurd ?_ h
    unfold classF beyondF
    rw [if_neg (by omega), if_neg (by omega), if_neg (by omega), if_neg (by omega), if_neg (by omega), if_neg (by omega), if_neg (by omega), if_neg (by omega), if_pos (by omega)]
theorem bad_iff {c m : Nat} : badRune (c, m) = true ↔ classF (c : Int) = 0 ∨ (classF (c : Int) = 1 ∧ ¬ c = 32) ∨ (c = 65533 ∧ m = 1) := by
  simp only [badRune, Bool.or_eq_true, Bool.and_eq_true, Bool.not_eq_true', beq_iff_eq, beq_eq_false_iff_ne, ne_eq]
  omega
def outF (o : List Int) (v : Int) : List Int := if v = -1 then o else o ++ [v]
end Go.Aw
namespace Go.Proofs.YtkcapphlemoccaaGreatDoor
open Go Go.Aw
def QB (st0 st : St) (b : Nat) (s : List UInt8) (tx : Bool) : Prop := ∃ q o w1 g w2, st.box b = some (qC s q tx o w1 g w2) ∧ Rows2 st0 st w1 o.length w2 (2 * g.length)
section
variable {st : St} {R : Res → St → Prop}
attribute [local irreducible] Go.Aw.appendTo
theorem gap_k {st0 : St} {b p : Nat} {s : List UInt8} {tx : Bool} {o : List Int} {w1 w2 : Own} {g : List (Nat × Nat)} (hl : s.length ≤ 100000000) (hp : p ≤ s.length) (hb : st.box b = some (qC s p tx o w1 g w2)) (hr : Rows2 st0 st w1 o.length w2 (2 * g.length)) (hgl : g.length ≤ 100000000)
    (h0 : (tx = false ∨ gapN (s.drop p) = 0) → R (.ret (.bool false)) st)
    (h : tx = true → 0 < gapN (s.drop p) → ∀ w2' st', Rows2 st0 st' w1 o.length w2' (2 * (g ++ [(p, p + gapN (s.drop p))]).length) → st'.box = st.box → R (.ret (.bool true)) (st'.setBox b (qC s (p + gapN (s.drop p)) true o w1 (g ++ [(p, p + gapN (s.drop p))]) w2'))) : PC 131 [.ptr b 0] st R := by
  by_cases hg : tx = false ∨ gapN (s.drop p) = 0
  · exact gap_no hl hp hb hg (h0 hg)
  · have ht : tx = true := by cases tx; · exact absurd (.inl rfl) hg
                              rfl
    subst ht
    have hg' : 0 < gapN (s.drop p) := by
      rcases Nat.eq_zero_or_pos (gapN (s.drop p)) with e | e
      · exact absurd (.inr e) hg
      · exact e
    exact gap_yes hl hb hg' hr hgl (h rfl hg')
set_option maxHeartbeats 2000000 in
theorem one_c {st0 : St} {b p : Nat} {s : List UInt8} {tx : Bool} {o : List Int} {w1 w2 : Own} {g : List (Nat × Nat)} (hl : s.length ≤ 100000000) (hp : p ≤ s.length) (hb0 : st0.box b = none) (hb : st.box b = some (qC s p tx o w1 g w2)) (hr : Rows2 st0 st w1 o.length w2 (2 * g.length))
    (ho : o.length ≤ 100000000) (hgl : g.length ≤ 100000000)
    (h0 : ∀ e, oneF tx (s.drop p) = .inl e → ∀ st', QB st0 st' b s tx → R (.pan (qfault p e)) st')
    (h : ∀ v n, oneF tx (s.drop p) = .inr (v, n) → ∀ w1' w2' st' g', Rows2 st0 st' w1' (outF o v).length w2' (2 * g'.length) → st'.box b = some (qC s (p + n) tx (outF o v) w1' g' w2') → g' = (if tx = true ∧ 0 < gapN (s.drop p) then g ++ [(p, p + n)] else g) → R (.ret (.tup [])) st') :
    PC 115 [.ptr b 0] st R := by
  have hqb : QB st0 st b s tx := ⟨p, o, w1, g, w2, hb, hr⟩
  refine pcalls_of_aw tys_ok [] Tryz.func115 rfl (by decide) rfl ?_
  by_cases hpl : s.length ≤ p
  · have hd : s.drop p = [] := List.drop_eq_nil_iff.2 (by omega)
    have h0 := h0 50 (by rw [hd]; rfl) st hqb
    refine aw_of tys_ok ?_
    repeat' ((conv => whnf); first
      | (with_reducible first | exact Wa | exact Wb | exact Wc | refine Wd (by kernel_rfl) ?_ | refine We ?_ ?_ ?_ | refine W8 (by decide +kernel) ?_ ?_ ?_ | refine W9 ?_ ?_ ?_ | refine Wt (by first | assumption | omega) ?_ | refine Wu (by first | assumption | omega) ?_ | refine Wv (by omega) ?_ | refine Ww (by omega) ?_ | refine Wf (by decide) (fun _ => ?_) (fun _ => ?_) | refine Wg (fun _ => ?_) (fun _ => ?_) | refine Wh (fun _ => ?_) (fun _ => ?_) | refine Wi ?_ | refine Wj ?_ | refine Wk (fun _ => ?_) (fun _ => ?_) | refine Wl (fun _ => ?_) | refine Wm (by assumption) (by omega) ?_ | refine Wn (by omega) (by omega) (fun _ _ _ => ?_) | refine Wo (by omega) (by omega) ?_ | refine Wp (by omega) (by omega) (by omega) ?_ | refine Wq (by omega) (by omega) ?_ | refine Wr (by decide) (by omega) (by omega) ?_ | refine Ws (by decide) ?_ | refine Wx (fun _ => ?_) ?_ | refine Wy (fun _ => ?_) ?_ | refine Wz (fun _ => ?_) | refine WA (fun _ => ?_) | refine WB (by assumption) (by omega) ?_ | refine WC (by omega) (by omega) (fun _ _ => ?_) | refine WD (by omega) (by omega) (fun _ _ => ?_) | refine WE (by omega) (by omega) (by omega) ?_ | refine WJ (fun _ => ?_) | refine WK (fun _ _ _ => ?_) | refine WL (by assumption) (by omega) ?_ | refine WM (by omega) (by omega) (fun _ _ => ?_) | refine WN (by omega) (by omega) ?_ | refine WO (by omega) (by omega) ?_ | refine WP (by omega) (by omega) (by omega) ?_)
      | refine on_box hb ?_
      | refine qfail_c ?_
      | with_reducible refine WF ?_)
    exact fin h0 rfl
  have hpl : p < s.length := by omega
  obtain ⟨e, he⟩ : ∃ e, s[p]? = some e := ⟨s[p], List.getElem?_eq_getElem hpl⟩
  have he' : s[(p : Int).toNat]? = some e := he
  have hv := hdF_at he
  refine AW_seq2 (aw_of tys_ok ?_)
  repeat' ((conv => whnf); first
    | (with_reducible first | exact Wa | exact Wb | exact Wc | refine Wd (by kernel_rfl) ?_ | refine We ?_ ?_ ?_ | refine W8 (by decide +kernel) ?_ ?_ ?_ | refine W9 ?_ ?_ ?_ | refine Wt (by first | assumption | omega) ?_ | refine Wu (by first | assumption | omega) ?_ | refine Wv (by omega) ?_ | refine Ww (by omega) ?_ | refine Wf (by decide) (fun _ => ?_) (fun _ => ?_) | refine Wg (fun _ => ?_) (fun _ => ?_) | refine Wh (fun _ => ?_) (fun _ => ?_) | refine Wi ?_ | refine Wj ?_ | refine Wk (fun _ => ?_) (fun _ => ?_) | refine Wl (fun _ => ?_) | refine Wm (by assumption) (by omega) ?_ | refine Wn (by omega) (by omega) (fun _ _ _ => ?_) | refine Wo (by omega) (by omega) ?_ | refine Wp (by omega) (by omega) (by omega) ?_ | refine Wq (by omega) (by omega) ?_ | refine Wr (by decide) (by omega) (by omega) ?_ | refine Ws (by decide) ?_ | refine Wx (fun _ => ?_) ?_ | refine Wy (fun _ => ?_) ?_ | refine Wz (fun _ => ?_) | refine WA (fun _ => ?_) | refine WB (by assumption) (by omega) ?_ | refine WC (by omega) (by omega) (fun _ _ => ?_) | refine WD (by omega) (by omega) (fun _ _ => ?_) | refine WE (by omega) (by omega) (by omega) ?_ | refine WJ (fun _ => ?_) | refine WK (fun _ _ _ => ?_) | refine WL (by assumption) (by omega) ?_ | refine WM (by omega) (by omega) (fun _ _ => ?_) | refine WN (by omega) (by omega) ?_ | refine WO (by omega) (by omega) ?_ | refine WP (by omega) (by omega) (by omega) ?_)
    | refine on_box hb ?_
    | refine qfail_c ?_
    | with_reducible refine WF ?_)
  refine AW_seq2 (aw_of tys_ok ?_)
  repeat' ((conv => whnf); first
    | (with_reducible first | exact Wa | exact Wb | exact Wc | refine Wd (by kernel_rfl) ?_ | refine We ?_ ?_ ?_ | refine W8 (by decide +kernel) ?_ ?_ ?_ | refine W9 ?_ ?_ ?_ | refine Wt (by first | assumption | omega) ?_ | refine Wu (by first | assumption | omega) ?_ | refine Wv (by omega) ?_ | refine Ww (by omega) ?_ | refine Wf (by decide) (fun _ => ?_) (fun _ => ?_) | refine Wg (fun _ => ?_) (fun _ => ?_) | refine Wh (fun _ => ?_) (fun _ => ?_) | refine Wi ?_ | refine Wj ?_ | refine Wk (fun _ => ?_) (fun _ => ?_) | refine Wl (fun _ => ?_) | refine Wm (by assumption) (by omega) ?_ | refine Wn (by omega) (by omega) (fun _ _ _ => ?_) | refine Wo (by omega) (by omega) ?_ | refine Wp (by omega) (by omega) (by omega) ?_ | refine Wq (by omega) (by omega) ?_ | refine Wr (by decide) (by omega) (by omega) ?_ | refine Ws (by decide) ?_ | refine Wx (fun _ => ?_) ?_ | refine Wy (fun _ => ?_) ?_ | refine Wz (fun _ => ?_) | refine WA (fun _ => ?_) | refine WB (by assumption) (by omega) ?_ | refine WC (by omega) (by omega) (fun _ _ => ?_) | refine WD (by omega) (by omega) (fun _ _ => ?_) | refine WE (by omega) (by omega) (by omega) ?_ | refine WJ (fun _ => ?_) | refine WK (fun _ _ _ => ?_) | refine WL (by assumption) (by omega) ?_ | refine WM (by omega) (by omega) (fun _ _ => ?_) | refine WN (by omega) (by omega) ?_ | refine WO (by omega) (by omega) ?_ | refine WP (by omega) (by omega) (by omega) ?_)
    | refine gap_k hl hp hb hr hgl (fun hg => ?_) (fun ht hg w2' st1 hr1 hb1 => ?_)
    | with_reducible refine WF ?_)
  · by_cases h92 : hdF (s.drop p) = 92
    · have h1 := oneF_esc h92 hg
      have hng : ¬ (tx = true ∧ 0 < gapN (s.drop p)) := fun x => by
        rcases hg with h | h
        · rw [h] at x; cases x.1
        · omega
      rcases hesc : escF tx (s.drop p) with _ | ⟨v, n⟩
      · rw [hesc] at h1
        have h0 := h0 51 h1
        have hE : ∀ {R : Res → St → Prop}, (∀ q, R (.pan (qfault p 51)) (st.setBox b (qC s q tx o w1 g w2))) → PC 132 [.ptr b 0] st R := fun h => escape_c hl hpl hb (fun v n x => by rw [hesc] at x; cases x) (fun _ => h)
        refine aw_of tys_ok ?_
        repeat' ((conv => whnf); first
          | (with_reducible first | exact Wa | exact Wb | exact Wc | refine Wd (by kernel_rfl) ?_ | refine We ?_ ?_ ?_ | refine W8 (by decide +kernel) ?_ ?_ ?_ | refine W9 ?_ ?_ ?_ | refine Wt (by first | assumption | omega) ?_ | refine Wu (by first | assumption | omega) ?_ | refine Wv (by omega) ?_ | refine Ww (by omega) ?_ | refine Wf (by decide) (fun _ => ?_) (fun _ => ?_) | refine Wg (fun _ => ?_) (fun _ => ?_) | refine Wh (fun _ => ?_) (fun _ => ?_) | refine Wi ?_ | refine Wj ?_ | refine Wk (fun _ => ?_) (fun _ => ?_) | refine Wl (fun _ => ?_) | refine Wm (by assumption) (by omega) ?_ | refine Wn (by omega) (by omega) (fun _ _ _ => ?_) | refine Wo (by omega) (by omega) ?_ | refine Wp (by omega) (by omega) (by omega) ?_ | refine Wq (by omega) (by omega) ?_ | refine Wr (by decide) (by omega) (by omega) ?_ | refine Ws (by decide) ?_ | refine Wx (fun _ => ?_) ?_ | refine Wy (fun _ => ?_) ?_ | refine Wz (fun _ => ?_) | refine WA (fun _ => ?_) | refine WB (by assumption) (by omega) ?_ | refine WC (by omega) (by omega) (fun _ _ => ?_) | refine WD (by omega) (by omega) (fun _ _ => ?_) | refine WE (by omega) (by omega) (by omega) ?_ | refine WJ (fun _ => ?_) | refine WK (fun _ _ _ => ?_) | refine WL (by assumption) (by omega) ?_ | refine WM (by omega) (by omega) (fun _ _ => ?_) | refine WN (by omega) (by omega) ?_ | refine WO (by omega) (by omega) ?_ | refine WP (by omega) (by omega) (by omega) ?_)
          | refine on_box hb ?_
          | refine hE (fun q => ?_)
          | with_reducible refine WF ?_)
        exact fin (h0 _ ⟨_, _, _, _, _, St.box_at _ _ _, hr.set hb0 _⟩) rfl
      · rw [hesc] at h1
        have hn := escF_le hesc
        rw [List.length_drop] at hn
        dsimp only at hn
        have h := h v n h1
        rw [if_neg hng] at h
        have hb2 := St.box_at st b (qC s (p + n) tx o w1 g w2)
        have hr2 := hr.set hb0 (qC s (p + n) tx o w1 g w2)
        have hE : ∀ {R : Res → St → Prop}, R (.ret (.int .i64 v)) (st.setBox b (qC s (p + n) tx o w1 g w2)) → PC 132 [.ptr b 0] st R := fun h => escape_c hl hpl hb (fun v' n' x => by rw [hesc] at x; cases x; exact h) (fun x => by rw [hesc] at x; cases x)
        generalize st.setBox b (qC s (p + n) tx o w1 g w2) = st2 at hb2 hr2 hE
        unfold outF at h
        by_cases hv1 : v = -1
        · rw [if_pos hv1] at h
          refine aw_of tys_ok ?_
          repeat' ((conv => whnf); first
            | (with_reducible first | exact Wa | exact Wb | exact Wc | refine Wd (by kernel_rfl) ?_ | refine We ?_ ?_ ?_ | refine W8 (by decide +kernel) ?_ ?_ ?_ | refine W9 ?_ ?_ ?_ | refine Wt (by first | assumption | omega) ?_ | refine Wu (by first | assumption | omega) ?_ | refine Wv (by omega) ?_ | refine Ww (by omega) ?_ | refine Wf (by decide) (fun _ => ?_) (fun _ => ?_) | refine Wg (fun _ => ?_) (fun _ => ?_) | refine Wh (fun _ => ?_) (fun _ => ?_) | refine Wi ?_ | refine Wj ?_ | refine Wk (fun _ => ?_) (fun _ => ?_) | refine Wl (fun _ => ?_) | refine Wm (by assumption) (by omega) ?_ | refine Wn (by omega) (by omega) (fun _ _ _ => ?_) | refine Wo (by omega) (by omega) ?_ | refine Wp (by omega) (by omega) (by omega) ?_ | refine Wq (by omega) (by omega) ?_ | refine Wr (by decide) (by omega) (by omega) ?_ | refine Ws (by decide) ?_ | refine Wx (fun _ => ?_) ?_ | refine Wy (fun _ => ?_) ?_ | refine Wz (fun _ => ?_) | refine WA (fun _ => ?_) | refine WB (by assumption) (by omega) ?_ | refine WC (by omega) (by omega) (fun _ _ => ?_) | refine WD (by omega) (by omega) (fun _ _ => ?_) | refine WE (by omega) (by omega) (by omega) ?_ | refine WJ (fun _ => ?_) | refine WK (fun _ _ _ => ?_) | refine WL (by assumption) (by omega) ?_ | refine WM (by omega) (by omega) (fun _ _ => ?_) | refine WN (by omega) (by omega) ?_ | refine WO (by omega) (by omega) ?_ | refine WP (by omega) (by omega) (by omega) ?_)
            | refine on_box hb ?_
            | refine hE ?_
            | with_reducible refine WF ?_)
          all_goals first
            | exact fin (h w1 w2 st2 g hr2 hb2 rfl) rfl
            | (exfalso; omega)
        · rw [if_neg hv1] at h
          refine aw_of tys_ok ?_
          repeat' ((conv => whnf); first
            | (with_reducible first | exact Wa | exact Wb | exact Wc | refine Wd (by kernel_rfl) ?_ | refine We ?_ ?_ ?_ | refine W8 (by decide +kernel) ?_ ?_ ?_ | refine W9 ?_ ?_ ?_ | refine Wt (by first | assumption | omega) ?_ | refine Wu (by first | assumption | omega) ?_ | refine Wv (by omega) ?_ | refine Ww (by omega) ?_ | refine Wf (by decide) (fun _ => ?_) (fun _ => ?_) | refine Wg (fun _ => ?_) (fun _ => ?_) | refine Wh (fun _ => ?_) (fun _ => ?_) | refine Wi ?_ | refine Wj ?_ | refine Wk (fun _ => ?_) (fun _ => ?_) | refine Wl (fun _ => ?_) | refine Wm (by assumption) (by omega) ?_ | refine Wn (by omega) (by omega) (fun _ _ _ => ?_) | refine Wo (by omega) (by omega) ?_ | refine Wp (by omega) (by omega) (by omega) ?_ | refine Wq (by omega) (by omega) ?_ | refine Wr (by decide) (by omega) (by omega) ?_ | refine Ws (by decide) ?_ | refine Wx (fun _ => ?_) ?_ | refine Wy (fun _ => ?_) ?_ | refine Wz (fun _ => ?_) | refine WA (fun _ => ?_) | refine WB (by assumption) (by omega) ?_ | refine WC (by omega) (by omega) (fun _ _ => ?_) | refine WD (by omega) (by omega) (fun _ _ => ?_) | refine WE (by omega) (by omega) (by omega) ?_ | refine WJ (fun _ => ?_) | refine WK (fun _ _ _ => ?_) | refine WL (by assumption) (by omega) ?_ | refine WM (by omega) (by omega) (fun _ _ => ?_) | refine WN (by omega) (by omega) ?_ | refine WO (by omega) (by omega) ?_ | refine WP (by omega) (by omega) (by omega) ?_)
            | refine on_box hb ?_
            | refine on_box hb2 ?_
            | refine hE ?_
            | refine rows_int hr2 (by omega) (fun w1' st3 hr3 hb3 => ?_)
            | refine on_box ((congrFun hb3 b).trans hb2) ?_
            | with_reducible refine WF ?_)
          exact fin (h w1' w2 _ g (hr3.set hb0 _) (St.box_at _ _ _) rfl) rfl
    · have h1 := oneF_rune (tx := tx) (drop_ne hpl) h92
      have hng : ¬ (tx = true ∧ 0 < gapN (s.drop p)) := fun x => by
        have := x.2
        unfold gapN at this; rw [if_neg (fun y => h92 y.1)] at this; omega
      rcases hd : decR (s.drop p) with ⟨c, m⟩
      have hrn := rune_le hpl hd.symm
      have hx : nextF s p = ((c : Int), (m : Int)) := by rw [nextF_in (by omega) (by omega), decF_hd hpl hd.symm]
      rw [hd] at h1
      refine AW_seq2 (aw_of tys_ok ?_)
      repeat' ((conv => whnf); first
        | (with_reducible first | exact Wa | exact Wb | exact Wc | refine Wd (by kernel_rfl) ?_ | refine We ?_ ?_ ?_ | refine W8 (by decide +kernel) ?_ ?_ ?_ | refine W9 ?_ ?_ ?_ | refine Wt (by first | assumption | omega) ?_ | refine Wu (by first | assumption | omega) ?_ | refine Wv (by omega) ?_ | refine Ww (by omega) ?_ | refine Wf (by decide) (fun _ => ?_) (fun _ => ?_) | refine Wg (fun _ => ?_) (fun _ => ?_) | refine Wh (fun _ => ?_) (fun _ => ?_) | refine Wi ?_ | refine Wj ?_ | refine Wk (fun _ => ?_) (fun _ => ?_) | refine Wl (fun _ => ?_) | refine Wm (by assumption) (by omega) ?_ | refine Wn (by omega) (by omega) (fun _ _ _ => ?_) | refine Wo (by omega) (by omega) ?_ | refine Wp (by omega) (by omega) (by omega) ?_ | refine Wq (by omega) (by omega) ?_ | refine Wr (by decide) (by omega) (by omega) ?_ | refine Ws (by decide) ?_ | refine Wx (fun _ => ?_) ?_ | refine Wy (fun _ => ?_) ?_ | refine Wz (fun _ => ?_) | refine WA (fun _ => ?_) | refine WB (by assumption) (by omega) ?_ | refine WC (by omega) (by omega) (fun _ _ => ?_) | refine WD (by omega) (by omega) (fun _ _ => ?_) | refine WE (by omega) (by omega) (by omega) ?_ | refine WJ (fun _ => ?_) | refine WK (fun _ _ _ => ?_) | refine WL (by assumption) (by omega) ?_ | refine WM (by omega) (by omega) (fun _ _ => ?_) | refine WN (by omega) (by omega) ?_ | refine WO (by omega) (by omega) ?_ | refine WP (by omega) (by omega) (by omega) ?_)
        | refine on_box hb ?_
        | with_reducible refine WF ?_)
      refine AW_seq2 (aw_of tys_ok ?_)
      repeat' ((conv => whnf); first
        | (with_reducible first | exact Wa | exact Wb | exact Wc | refine Wd (by kernel_rfl) ?_ | refine We ?_ ?_ ?_ | refine W8 (by decide +kernel) ?_ ?_ ?_ | refine W9 ?_ ?_ ?_ | refine Wt (by first | assumption | omega) ?_ | refine Wu (by first | assumption | omega) ?_ | refine Wv (by omega) ?_ | refine Ww (by omega) ?_ | refine Wf (by decide) (fun _ => ?_) (fun _ => ?_) | refine Wg (fun _ => ?_) (fun _ => ?_) | refine Wh (fun _ => ?_) (fun _ => ?_) | refine Wi ?_ | refine Wj ?_ | refine Wk (fun _ => ?_) (fun _ => ?_) | refine Wl (fun _ => ?_) | refine Wm (by assumption) (by omega) ?_ | refine Wn (by omega) (by omega) (fun _ _ _ => ?_) | refine Wo (by omega) (by omega) ?_ | refine Wp (by omega) (by omega) (by omega) ?_ | refine Wq (by omega) (by omega) ?_ | refine Wr (by decide) (by omega) (by omega) ?_ | refine Ws (by decide) ?_ | refine Wx (fun _ => ?_) ?_ | refine Wy (fun _ => ?_) ?_ | refine Wz (fun _ => ?_) | refine WA (fun _ => ?_) | refine WB (by assumption) (by omega) ?_ | refine WC (by omega) (by omega) (fun _ _ => ?_) | refine WD (by omega) (by omega) (fun _ _ => ?_) | refine WE (by omega) (by omega) (by omega) ?_ | refine WJ (fun _ => ?_) | refine WK (fun _ _ _ => ?_) | refine WL (by assumption) (by omega) ?_ | refine WM (by omega) (by omega) (fun _ _ => ?_) | refine WN (by omega) (by omega) ?_ | refine WO (by omega) (by omega) ?_ | refine WP (by omega) (by omega) (by omega) ?_)
        | refine on_box hb ?_
        | refine next_at (by omega) hx ?_
        | with_reducible refine WF ?_)
      refine AW_seq2 (aw_of tys_ok ?_)
      repeat' ((conv => whnf); first
        | (with_reducible first | exact Wa | exact Wb | exact Wc | refine Wd (by kernel_rfl) ?_ | refine We ?_ ?_ ?_ | refine W8 (by decide +kernel) ?_ ?_ ?_ | refine W9 ?_ ?_ ?_ | refine Wt (by first | assumption | omega) ?_ | refine Wu (by first | assumption | omega) ?_ | refine Wv (by omega) ?_ | refine Ww (by omega) ?_ | refine Wf (by decide) (fun _ => ?_) (fun _ => ?_) | refine Wg (fun _ => ?_) (fun _ => ?_) | refine Wh (fun _ => ?_) (fun _ => ?_) | refine Wi ?_ | refine Wj ?_ | refine Wk (fun _ => ?_) (fun _ => ?_) | refine Wl (fun _ => ?_) | refine Wm (by assumption) (by omega) ?_ | refine Wn (by omega) (by omega) (fun _ _ _ => ?_) | refine Wo (by omega) (by omega) ?_ | refine Wp (by omega) (by omega) (by omega) ?_ | refine Wq (by omega) (by omega) ?_ | refine Wr (by decide) (by omega) (by omega) ?_ | refine Ws (by decide) ?_ | refine Wx (fun _ => ?_) ?_ | refine Wy (fun _ => ?_) ?_ | refine Wz (fun _ => ?_) | refine WA (fun _ => ?_) | refine WB (by assumption) (by omega) ?_ | refine WC (by omega) (by omega) (fun _ _ => ?_) | refine WD (by omega) (by omega) (fun _ _ => ?_) | refine WE (by omega) (by omega) (by omega) ?_ | refine WJ (fun _ => ?_) | refine WK (fun _ _ _ => ?_) | refine WL (by assumption) (by omega) ?_ | refine WM (by omega) (by omega) (fun _ _ => ?_) | refine WN (by omega) (by omega) ?_ | refine WO (by omega) (by omega) ?_ | refine WP (by omega) (by omega) (by omega) ?_)
        | refine class_c ?_
        | with_reducible refine WF ?_)
      cases hbad : badRune (c, m) with
      | true =>
        rw [if_pos hbad] at h1
        have h0 := h0 50 h1 st hqb
        refine aw_of tys_ok ?_
        have hbi := bad_iff.1 hbad
        repeat' ((conv => whnf); first
          | (with_reducible first | exact Wa | exact Wb | exact Wc | refine Wd (by kernel_rfl) ?_ | refine We ?_ ?_ ?_ | refine W8 (by decide +kernel) ?_ ?_ ?_ | refine W9 ?_ ?_ ?_ | refine Wt (by first | assumption | omega) ?_ | refine Wu (by first | assumption | omega) ?_ | refine Wv (by omega) ?_ | refine Ww (by omega) ?_ | refine Wf (by decide) (fun _ => ?_) (fun _ => ?_) | refine Wg (fun _ => ?_) (fun _ => ?_) | refine Wh (fun _ => ?_) (fun _ => ?_) | refine Wi ?_ | refine Wj ?_ | refine Wk (fun _ => ?_) (fun _ => ?_) | refine Wl (fun _ => ?_) | refine Wm (by assumption) (by omega) ?_ | refine Wn (by omega) (by omega) (fun _ _ _ => ?_) | refine Wo (by omega) (by omega) ?_ | refine Wp (by omega) (by omega) (by omega) ?_ | refine Wq (by omega) (by omega) ?_ | refine Wr (by decide) (by omega) (by omega) ?_ | refine Ws (by decide) ?_ | refine Wx (fun _ => ?_) ?_ | refine Wy (fun _ => ?_) ?_ | refine Wz (fun _ => ?_) | refine WA (fun _ => ?_) | refine WB (by assumption) (by omega) ?_ | refine WC (by omega) (by omega) (fun _ _ => ?_) | refine WD (by omega) (by omega) (fun _ _ => ?_) | refine WE (by omega) (by omega) (by omega) ?_ | refine WJ (fun _ => ?_) | refine WK (fun _ _ _ => ?_) | refine WL (by assumption) (by omega) ?_ | refine WM (by omega) (by omega) (fun _ _ => ?_) | refine WN (by omega) (by omega) ?_ | refine WO (by omega) (by omega) ?_ | refine WP (by omega) (by omega) (by omega) ?_)
          | refine on_box hb ?_
          | refine qfail_c ?_
          | with_reducible refine WF ?_)
        all_goals first | exact fin h0 rfl | (exfalso; omega)
      | false =>
        rw [if_neg (by rw [hbad]; decide)] at h1
        have h := h (c : Int) m h1
        rw [if_neg hng] at h
        unfold outF at h
        rw [if_neg (by omega)] at h
        have hbi : ¬ (classF (c : Int) = 0 ∨ (classF (c : Int) = 1 ∧ ¬ c = 32) ∨ (c = 65533 ∧ m = 1)) := fun x => by rw [bad_iff.2 x] at hbad; cases hbad
        have hcm := classF_max (c := (c : Int)) (by omega)
        refine aw_of tys_ok ?_
        repeat' ((conv => whnf); first
          | (with_reducible first | exact Wa | exact Wb | exact Wc | refine Wd (by kernel_rfl) ?_ | refine We ?_ ?_ ?_ | refine W8 (by decide +kernel) ?_ ?_ ?_ | refine W9 ?_ ?_ ?_ | refine Wt (by first | assumption | omega) ?_ | refine Wu (by first | assumption | omega) ?_ | refine Wv (by omega) ?_ | refine Ww (by omega) ?_ | refine Wf (by decide) (fun _ => ?_) (fun _ => ?_) | refine Wg (fun _ => ?_) (fun _ => ?_) | refine Wh (fun _ => ?_) (fun _ => ?_) | refine Wi ?_ | refine Wj ?_ | refine Wk (fun _ => ?_) (fun _ => ?_) | refine Wl (fun _ => ?_) | refine Wm (by assumption) (by omega) ?_ | refine Wn (by omega) (by omega) (fun _ _ _ => ?_) | refine Wo (by omega) (by omega) ?_ | refine Wp (by omega) (by omega) (by omega) ?_ | refine Wq (by omega) (by omega) ?_ | refine Wr (by decide) (by omega) (by omega) ?_ | refine Ws (by decide) ?_ | refine Wx (fun _ => ?_) ?_ | refine Wy (fun _ => ?_) ?_ | refine Wz (fun _ => ?_) | refine WA (fun _ => ?_) | refine WB (by assumption) (by omega) ?_ | refine WC (by omega) (by omega) (fun _ _ => ?_) | refine WD (by omega) (by omega) (fun _ _ => ?_) | refine WE (by omega) (by omega) (by omega) ?_ | refine WJ (fun _ => ?_) | refine WK (fun _ _ _ => ?_) | refine WL (by assumption) (by omega) ?_ | refine WM (by omega) (by omega) (fun _ _ => ?_) | refine WN (by omega) (by omega) ?_ | refine WO (by omega) (by omega) ?_ | refine WP (by omega) (by omega) (by omega) ?_)
          | refine on_box hb ?_
          | refine qfail_c ?_
          | refine rows_int hr (by omega) (fun w1' st3 hr3 hb3 => ?_)
          | refine on_box ((congrFun hb3 b).trans hb) ?_
          | refine on_box (St.box_at _ _ _) ?_
          | with_reducible refine WF ?_)
        all_goals exact fin (h w1' w2 _ g ((hr3.set hb0 _).set hb0 _) ((St.box_at _ _ _).trans (congrArg some (qC_at (by omega)))) rfl) rfl
  · subst ht
    have h1 := oneF_gap hg
    have h := h _ _ h1 w1 w2' (st1.setBox b (qC s (p + gapN (s.drop p)) true o w1 (g ++ [(p, p + gapN (s.drop p))]) w2')) _ (hr1.set hb0 _) (St.box_at _ _ _) (if_pos ⟨rfl, hg⟩).symm
    repeat' ((conv => whnf); first
      | (with_reducible first | exact Wa | exact Wb | exact Wc | refine Wd (by kernel_rfl) ?_ | refine We ?_ ?_ ?_ | refine W8 (by decide +kernel) ?_ ?_ ?_ | refine W9 ?_ ?_ ?_ | refine Wt (by first | assumption | omega) ?_ | refine Wu (by first | assumption | omega) ?_ | refine Wv (by omega) ?_ | refine Ww (by omega) ?_ | refine Wf (by decide) (fun _ => ?_) (fun _ => ?_) | refine Wg (fun _ => ?_) (fun _ => ?_) | refine Wh (fun _ => ?_) (fun _ => ?_) | refine Wi ?_ | refine Wj ?_ | refine Wk (fun _ => ?_) (fun _ => ?_) | refine Wl (fun _ => ?_) | refine Wm (by assumption) (by omega) ?_ | refine Wn (by omega) (by omega) (fun _ _ _ => ?_) | refine Wo (by omega) (by omega) ?_ | refine Wp (by omega) (by omega) (by omega) ?_ | refine Wq (by omega) (by omega) ?_ | refine Wr (by decide) (by omega) (by omega) ?_ | refine Ws (by decide) ?_ | refine Wx (fun _ => ?_) ?_ | refine Wy (fun _ => ?_) ?_ | refine Wz (fun _ => ?_) | refine WA (fun _ => ?_) | refine WB (by assumption) (by omega) ?_ | refine WC (by omega) (by omega) (fun _ _ => ?_) | refine WD (by omega) (by omega) (fun _ _ => ?_) | refine WE (by omega) (by omega) (by omega) ?_ | refine WJ (fun _ => ?_) | refine WK (fun _ _ _ => ?_) | refine WL (by assumption) (by omega) ?_ | refine WM (by omega) (by omega) (fun _ _ => ?_) | refine WN (by omega) (by omega) ?_ | refine WO (by omega) (by omega) ?_ | refine WP (by omega) (by omega) (by omega) ?_)
      | with_reducible refine WF ?_)
    exact fin h rfl
end
end Go.Proofs.YtkcapphlemoccaaGreatDoor
set_option linter.unusedVariables false
namespace Go.Aw
open Go
theorem bc_f {b : Bool} {p q : Prop} (h : b = false) (k : q) : bcase b p q := by subst h; exact Wj k
theorem bc_t {b : Bool} {p q : Prop} (h : b = true) (k : p) : bcase b p q := by subst h; exact Wi k
theorem textN_end {l : List UInt8} (h : hdF l = 34) : textN l = .inr 1 := by rw [textN, if_pos h]
theorem textN_bad {l : List UInt8} {e : Int} (h : hdF l ≠ 34) (k : oneF true l = .inl e) : textN l = .inl (0, e) := by
  rw [textN, if_neg h]
  split
  · rename_i e' he; rw [k] at he; injection he with he; rw [he]
  · rename_i p hp; rw [k] at hp; cases hp
theorem textN_go {l : List UInt8} {v : Int} {n : Nat} (h : hdF l ≠ 34) (k : oneF true l = .inr (v, n)) : textN l = match textN (l.drop n) with | .inl q => .inl (q.1 + n, q.2) | .inr m => .inr (m + n) := by
  rw [textN, if_neg h]
  split
  · rename_i e' he; rw [k] at he; cases he
  · rename_i p hp; rw [k] at hp; injection hp with hp; subst hp; rfl
theorem textO_end {l : List UInt8} (h : hdF l = 34) : textO l = [] := by rw [textO, if_pos h]
theorem textO_go {l : List UInt8} {v : Int} {n : Nat} (h : hdF l ≠ 34) (k : oneF true l = .inr (v, n)) : textO l = if v = -1 then textO (l.drop n) else v :: textO (l.drop n) := by
  rw [textO, if_neg h]
  split
  · rename_i e' he; rw [k] at he; cases he
  · rename_i p hp; rw [k] at hp; injection hp with hp; subst hp; rfl
theorem textP_end {q : Nat} {l : List UInt8} (h : hdF l = 34) : textP q l = [] := by rw [textP, if_pos h]
theorem textP_go {q : Nat} {l : List UInt8} {v : Int} {n : Nat} (h : hdF l ≠ 34) (k : oneF true l = .inr (v, n)) : textP q l = if 0 < gapN l then (q, q + n) :: textP (q + n) (l.drop n) else textP (q + n) (l.drop n) := by
  rw [textP, if_neg h]
  split
  · rename_i e' he; rw [k] at he; cases he
  · rename_i p hp; rw [k] at hp; injection hp with hp; subst hp; rfl
def absN (q : Nat) : Sum (Nat × Int) Nat → Sum (Nat × Int) Nat
  | .inl k => .inl (q + k.1, k.2)
  | .inr n => .inr (q + n)
theorem absN_go {q n : Nat} {l : List UInt8} {v : Int} (h : hdF l ≠ 34) (k : oneF true l = .inr (v, n)) : absN q (textN l) = absN (q + n) (textN (l.drop n)) := by
  rw [textN_go h k]
  cases textN (l.drop n) with
  | inl k => simp only [absN]; congr 2; omega
  | inr m => simp only [absN]; congr 1; omega
structure LS where
  q : Nat
  o : List Int
  g : List (Nat × Nat)
  w1 : Own
  w2 : Own
  m : St
end Go.Aw
namespace Go.Proofs.YtkcapphlemoccaaGreatDoor
open Go Go.Aw
section
variable {st : St} {R : Res → St → Prop}
set_option maxHeartbeats 2000000 in
theorem literal_t {st0 : St} {b p : Nat} {s : List UInt8} {tx : Bool} {w1 w2 : Own} (hl : s.length ≤ 100000000) (hp : hdF (s.drop p) = 34) (hb0 : st0.box b = none) (hb : st.box b = some (qC s p tx [] w1 [] w2)) (hr : Rows2 st0 st w1 0 w2 0)
    (h0 : ∀ k e, textN (s.drop (p + 1)) = .inl (k, e) → ∀ st', QB st0 st' b s true → R (.pan (qfault (p + 1 + k : Nat) e)) st')
    (h : ∀ n, textN (s.drop (p + 1)) = .inr n → ∀ w1' w2' st', Rows2 st0 st' w1' (textO (s.drop (p + 1))).length w2' (2 * (textP (p + 1) (s.drop (p + 1))).length) → st'.box b = some (qC s (p + 1 + n) true (textO (s.drop (p + 1))) w1' (textP (p + 1) (s.drop (p + 1))) w2') → R (.ret (.int .i64 14)) st') :
    PC 105 [.ptr b 0] st R := by
  have hpl : p < s.length := hdF_lt_len (k := p) (by omega)
  obtain ⟨e, he⟩ : ∃ e, s[p]? = some e := ⟨s[p], List.getElem?_eq_getElem hpl⟩
  have he' : s[(p : Int).toNat]? = some e := he
  have hv := hdF_at he
  have hv34 : ((e.toNat : Nat) : Int) = 34 := by omega
  refine pcalls_of_aw tys_ok [] Tryz.func105 rfl (by decide) rfl ?_
  refine AW_seq2 (aw_of tys_ok ?_)
  repeat' ((conv => whnf); first
    | (with_reducible first | exact Wa | exact Wb | exact Wc | refine Wd (by kernel_rfl) ?_ | refine We ?_ ?_ ?_ | refine W8 (by decide +kernel) ?_ ?_ ?_ | refine W9 ?_ ?_ ?_ | refine Wt (by first | assumption | omega) ?_ | refine Wu (by first | assumption | omega) ?_ | refine Wv (by omega) ?_ | refine Ww (by omega) ?_ | refine Wf (by decide) (fun _ => ?_) (fun _ => ?_) | refine Wg (fun _ => ?_) (fun _ => ?_) | refine Wh (fun _ => ?_) (fun _ => ?_) | refine Wi ?_ | refine Wj ?_ | refine Wk (fun _ => ?_) (fun _ => ?_) | refine Wl (fun _ => ?_) | refine Wm (by assumption) (by omega) ?_ | refine Wn (by omega) (by omega) (fun _ _ _ => ?_) | refine Wo (by omega) (by omega) ?_ | refine Wp (by omega) (by omega) (by omega) ?_ | refine Wq (by omega) (by omega) ?_ | refine Wr (by decide) (by omega) (by omega) ?_ | refine Ws (by decide) ?_ | refine Wx (fun _ => ?_) ?_ | refine Wy (fun _ => ?_) ?_ | refine Wz (fun _ => ?_) | refine WA (fun _ => ?_) | refine WB (by assumption) (by omega) ?_ | refine WC (by omega) (by omega) (fun _ _ => ?_) | refine WD (by omega) (by omega) (fun _ _ => ?_) | refine WE (by omega) (by omega) (by omega) ?_ | refine WJ (fun _ => ?_) | refine WK (fun _ _ _ => ?_) | refine WL (by assumption) (by omega) ?_ | refine WM (by omega) (by omega) (fun _ _ => ?_) | refine WN (by omega) (by omega) ?_ | refine WO (by omega) (by omega) ?_ | refine WP (by omega) (by omega) (by omega) ?_)
    | with_reducible refine WF ?_)
  refine AW_seq2 (aw_of tys_ok ?_)
  repeat' ((conv => whnf); first
    | (with_reducible first | exact Wa | exact Wb | exact Wc | refine Wd (by kernel_rfl) ?_ | refine We ?_ ?_ ?_ | refine W8 (by decide +kernel) ?_ ?_ ?_ | refine W9 ?_ ?_ ?_ | refine Wt (by first | assumption | omega) ?_ | refine Wu (by first | assumption | omega) ?_ | refine Wv (by omega) ?_ | refine Ww (by omega) ?_ | refine Wf (by decide) (fun _ => ?_) (fun _ => ?_) | refine Wg (fun _ => ?_) (fun _ => ?_) | refine Wh (fun _ => ?_) (fun _ => ?_) | refine Wi ?_ | refine Wj ?_ | refine Wk (fun _ => ?_) (fun _ => ?_) | refine Wl (fun _ => ?_) | refine Wm (by assumption) (by omega) ?_ | refine Wn (by omega) (by omega) (fun _ _ _ => ?_) | refine Wo (by omega) (by omega) ?_ | refine Wp (by omega) (by omega) (by omega) ?_ | refine Wq (by omega) (by omega) ?_ | refine Wr (by decide) (by omega) (by omega) ?_ | refine Ws (by decide) ?_ | refine Wx (fun _ => ?_) ?_ | refine Wy (fun _ => ?_) ?_ | refine Wz (fun _ => ?_) | refine WA (fun _ => ?_) | refine WB (by assumption) (by omega) ?_ | refine WC (by omega) (by omega) (fun _ _ => ?_) | refine WD (by omega) (by omega) (fun _ _ => ?_) | refine WE (by omega) (by omega) (by omega) ?_ | refine WJ (fun _ => ?_) | refine WK (fun _ _ _ => ?_) | refine WL (by assumption) (by omega) ?_ | refine WM (by omega) (by omega) (fun _ _ => ?_) | refine WN (by omega) (by omega) ?_ | refine WO (by omega) (by omega) ?_ | refine WP (by omega) (by omega) (by omega) ?_)
    | refine on_box hb ?_
    | with_reducible refine WF ?_)
  refine AW_seq2 (aw_of tys_ok ?_)
  repeat' ((conv => whnf); first
    | (with_reducible first | exact Wa | exact Wb | exact Wc | refine Wd (by kernel_rfl) ?_ | refine We ?_ ?_ ?_ | refine W8 (by decide +kernel) ?_ ?_ ?_ | refine W9 ?_ ?_ ?_ | refine Wt (by first | assumption | omega) ?_ | refine Wu (by first | assumption | omega) ?_ | refine Wv (by omega) ?_ | refine Ww (by omega) ?_ | refine Wf (by decide) (fun _ => ?_) (fun _ => ?_) | refine Wg (fun _ => ?_) (fun _ => ?_) | refine Wh (fun _ => ?_) (fun _ => ?_) | refine Wi ?_ | refine Wj ?_ | refine Wk (fun _ => ?_) (fun _ => ?_) | refine Wl (fun _ => ?_) | refine Wm (by assumption) (by omega) ?_ | refine Wn (by omega) (by omega) (fun _ _ _ => ?_) | refine Wo (by omega) (by omega) ?_ | refine Wp (by omega) (by omega) (by omega) ?_ | refine Wq (by omega) (by omega) ?_ | refine Wr (by decide) (by omega) (by omega) ?_ | refine Ws (by decide) ?_ | refine Wx (fun _ => ?_) ?_ | refine Wy (fun _ => ?_) ?_ | refine Wz (fun _ => ?_) | refine WA (fun _ => ?_) | refine WB (by assumption) (by omega) ?_ | refine WC (by omega) (by omega) (fun _ _ => ?_) | refine WD (by omega) (by omega) (fun _ _ => ?_) | refine WE (by omega) (by omega) (by omega) ?_ | refine WJ (fun _ => ?_) | refine WK (fun _ _ _ => ?_) | refine WL (by assumption) (by omega) ?_ | refine WM (by omega) (by omega) (fun _ _ => ?_) | refine WN (by omega) (by omega) ?_ | refine WO (by omega) (by omega) ?_ | refine WP (by omega) (by omega) (by omega) ?_)
    | refine on_box hb ?_
    | with_reducible refine WF ?_)
  refine AW_seq2 (aw_of tys_ok ?_)
  repeat' ((conv => whnf); first
    | (with_reducible first | exact Wa | exact Wb | exact Wc | refine Wd (by kernel_rfl) ?_ | refine We ?_ ?_ ?_ | refine W8 (by decide +kernel) ?_ ?_ ?_ | refine W9 ?_ ?_ ?_ | refine Wt (by first | assumption | omega) ?_ | refine Wu (by first | assumption | omega) ?_ | refine Wv (by omega) ?_ | refine Ww (by omega) ?_ | refine Wf (by decide) (fun _ => ?_) (fun _ => ?_) | refine Wg (fun _ => ?_) (fun _ => ?_) | refine Wh (fun _ => ?_) (fun _ => ?_) | refine Wi ?_ | refine Wj ?_ | refine Wk (fun _ => ?_) (fun _ => ?_) | refine Wl (fun _ => ?_) | refine Wm (by assumption) (by omega) ?_ | refine Wn (by omega) (by omega) (fun _ _ _ => ?_) | refine Wo (by omega) (by omega) ?_ | refine Wp (by omega) (by omega) (by omega) ?_ | refine Wq (by omega) (by omega) ?_ | refine Wr (by decide) (by omega) (by omega) ?_ | refine Ws (by decide) ?_ | refine Wx (fun _ => ?_) ?_ | refine Wy (fun _ => ?_) ?_ | refine Wz (fun _ => ?_) | refine WA (fun _ => ?_) | refine WB (by assumption) (by omega) ?_ | refine WC (by omega) (by omega) (fun _ _ => ?_) | refine WD (by omega) (by omega) (fun _ _ => ?_) | refine WE (by omega) (by omega) (by omega) ?_ | refine WJ (fun _ => ?_) | refine WK (fun _ _ _ => ?_) | refine WL (by assumption) (by omega) ?_ | refine WM (by omega) (by omega) (fun _ _ => ?_) | refine WN (by omega) (by omega) ?_ | refine WO (by omega) (by omega) ?_ | refine WP (by omega) (by omega) (by omega) ?_)
    | refine on_box (St.box_at _ _ _) ?_
    | with_reducible refine WF ?_)
  refine AW_st (st' := st.setBox b (qC s (p + 1) true [] w1 [] w2)) (St.set_set' _ _ _ _).symm ?_
  have hb1 := St.box_at st b (qC s (p + 1) true [] w1 [] w2)
  have hr1 := hr.set hb0 (qC s (p + 1) true [] w1 [] w2)
  generalize st.setBox b (qC s (p + 1) true [] w1 [] w2) = st1 at hb1 hr1
  refine aw_of tys_ok ?_
  repeat' ((conv => whnf); first
    | (with_reducible first | exact Wa | exact Wb | exact Wc | refine Wd (by kernel_rfl) ?_ | refine We ?_ ?_ ?_ | refine W8 (by decide +kernel) ?_ ?_ ?_ | refine W9 ?_ ?_ ?_ | refine Wt (by first | assumption | omega) ?_ | refine Wu (by first | assumption | omega) ?_ | refine Wv (by omega) ?_ | refine Ww (by omega) ?_ | refine Wf (by decide) (fun _ => ?_) (fun _ => ?_) | refine Wg (fun _ => ?_) (fun _ => ?_) | refine Wh (fun _ => ?_) (fun _ => ?_) | refine Wi ?_ | refine Wj ?_ | refine Wk (fun _ => ?_) (fun _ => ?_) | refine Wl (fun _ => ?_) | refine Wm (by assumption) (by omega) ?_ | refine Wn (by omega) (by omega) (fun _ _ _ => ?_) | refine Wo (by omega) (by omega) ?_ | refine Wp (by omega) (by omega) (by omega) ?_ | refine Wq (by omega) (by omega) ?_ | refine Wr (by decide) (by omega) (by omega) ?_ | refine Ws (by decide) ?_ | refine Wx (fun _ => ?_) ?_ | refine Wy (fun _ => ?_) ?_ | refine Wz (fun _ => ?_) | refine WA (fun _ => ?_) | refine WB (by assumption) (by omega) ?_ | refine WC (by omega) (by omega) (fun _ _ => ?_) | refine WD (by omega) (by omega) (fun _ _ => ?_) | refine WE (by omega) (by omega) (by omega) ?_ | refine WJ (fun _ => ?_) | refine WK (fun _ _ _ => ?_) | refine WL (by assumption) (by omega) ?_ | refine WM (by omega) (by omega) (fun _ _ => ?_) | refine WN (by omega) (by omega) ?_ | refine WO (by omega) (by omega) ?_ | refine WP (by omega) (by omega) (by omega) ?_)
    | refine on_box hb1 ?_
    | with_reducible refine WF ?_)
  refine loop_g (α := LS) (fun _ => []) [0, 3] [] (fun x => x.m) (fun x => x.m.box b = some (qC s x.q true x.o x.w1 x.g x.w2) ∧ Rows2 st0 x.m x.w1 x.o.length x.w2 (2 * x.g.length) ∧ x.q ≤ s.length ∧ p + 1 ≤ x.q ∧ x.o.length ≤ x.q ∧ x.g.length ≤ x.q ∧
      absN (p + 1) (textN (s.drop (p + 1))) = absN x.q (textN (s.drop x.q)) ∧ textO (s.drop (p + 1)) = x.o ++ textO (s.drop x.q) ∧ textP (p + 1) (s.drop (p + 1)) = x.g ++ textP x.q (s.drop x.q))
    (fun x => s.length - x.q) ⟨p + 1, [], [], w1, w2, st1⟩ ⟨hb1, hr1, by simp only []; omega, Nat.le_refl _, by simp, by simp, rfl, rfl, rfl⟩ (by refine ⟨rfl, ?_, ?_, rfl⟩ <;> repeat' (first | exact trivial | exact rfl | refine And.intro ?_ ?_)) (St.le_refl _) ?_
  rintro ⟨q, o, g, v1, v2, m⟩ ⟨j1, j2, j3, j4, j5, j6, j7, j8, j9⟩
  dsimp only at j1 j2 j3 j4 j5 j6 j7 j8 j9 ⊢
  have hx := byF_hd (s.drop q)
  have hbt : ∀ {R : Res → St → Prop}, R (.ret (.int .u8 (byF (s.drop q)))) m → PC 114 [.ptr b 0, .int .i64 0] m R := fun h => byteAt_c (k := 0) hl j3 (by decide) j1 h
  by_cases hq : hdF (s.drop q) = 34
  · have hql : q < s.length := hdF_lt_len (k := q) (by omega)
    rw [textN_end hq] at j7
    rw [textO_end hq, List.append_nil] at j8
    rw [textP_end hq, List.append_nil] at j9
    clear h0
    have hcd : (!byF (s.drop q) == ((e.toNat : Nat) : Int)) = false := by rw [show byF (s.drop q) = ((e.toNat : Nat) : Int) by omega]; simp
    repeat' ((conv => whnf); first
      | refine bc_f hcd ?_
      | (with_reducible first | exact Wa | exact Wb | exact Wc | refine Wd (by kernel_rfl) ?_ | refine We ?_ ?_ ?_ | refine W8 (by decide +kernel) ?_ ?_ ?_ | refine W9 ?_ ?_ ?_ | refine Wt (by first | assumption | omega) ?_ | refine Wu (by first | assumption | omega) ?_ | refine Wv (by omega) ?_ | refine Ww (by omega) ?_ | refine Wf (by decide) (fun _ => ?_) (fun _ => ?_) | refine Wg (fun _ => ?_) (fun _ => ?_) | refine Wh (fun _ => ?_) (fun _ => ?_) | refine Wi ?_ | refine Wj ?_ | refine Wk (fun _ => ?_) (fun _ => ?_) | refine Wl (fun _ => ?_) | refine Wm (by assumption) (by omega) ?_ | refine Wn (by omega) (by omega) (fun _ _ _ => ?_) | refine Wo (by omega) (by omega) ?_ | refine Wp (by omega) (by omega) (by omega) ?_ | refine Wq (by omega) (by omega) ?_ | refine Wr (by decide) (by omega) (by omega) ?_ | refine Ws (by decide) ?_ | refine Wx (fun _ => ?_) ?_ | refine Wy (fun _ => ?_) ?_ | refine Wz (fun _ => ?_) | refine WA (fun _ => ?_) | refine WB (by assumption) (by omega) ?_ | refine WC (by omega) (by omega) (fun _ _ => ?_) | refine WD (by omega) (by omega) (fun _ _ => ?_) | refine WE (by omega) (by omega) (by omega) ?_ | refine WJ (fun _ => ?_) | refine WK (fun _ _ _ => ?_) | refine WL (by assumption) (by omega) ?_ | refine WM (by omega) (by omega) (fun _ _ => ?_) | refine WN (by omega) (by omega) ?_ | refine WO (by omega) (by omega) ?_ | refine WP (by omega) (by omega) (by omega) ?_)
      | refine hbt ?_
      | refine on_box j1 ?_
      | with_reducible refine WF ?_)
    rw [j8, j9] at h
    cases hT : textN (s.drop (p + 1)) with
    | inl k => rw [hT] at j7; cases j7
    | inr n =>
      rw [hT] at j7
      have e7 : p + 1 + n = q + 1 := by injection j7
      exact fin (h n hT v1 v2 _ (j2.set hb0 _) ((St.box_at _ _ _).trans (congrArg some (qC_at (by omega))))) rfl
  · have hne : ¬ byF (s.drop q) = ((e.toNat : Nat) : Int) := by omega
    have hcd : (!byF (s.drop q) == ((e.toNat : Nat) : Int)) = true := by rw [beq_eq_false_iff_ne.2 hne]; rfl
    repeat' ((conv => whnf); first
      | refine bc_t hcd ?_
      | (with_reducible first | exact Wa | exact Wb | exact Wc | refine Wd (by kernel_rfl) ?_ | refine We ?_ ?_ ?_ | refine W8 (by decide +kernel) ?_ ?_ ?_ | refine W9 ?_ ?_ ?_ | refine Wt (by first | assumption | omega) ?_ | refine Wu (by first | assumption | omega) ?_ | refine Wv (by omega) ?_ | refine Ww (by omega) ?_ | refine Wf (by decide) (fun _ => ?_) (fun _ => ?_) | refine Wg (fun _ => ?_) (fun _ => ?_) | refine Wh (fun _ => ?_) (fun _ => ?_) | refine Wi ?_ | refine Wj ?_ | refine Wk (fun _ => ?_) (fun _ => ?_) | refine Wl (fun _ => ?_) | refine Wm (by assumption) (by omega) ?_ | refine Wn (by omega) (by omega) (fun _ _ _ => ?_) | refine Wo (by omega) (by omega) ?_ | refine Wp (by omega) (by omega) (by omega) ?_ | refine Wq (by omega) (by omega) ?_ | refine Wr (by decide) (by omega) (by omega) ?_ | refine Ws (by decide) ?_ | refine Wx (fun _ => ?_) ?_ | refine Wy (fun _ => ?_) ?_ | refine Wz (fun _ => ?_) | refine WA (fun _ => ?_) | refine WB (by assumption) (by omega) ?_ | refine WC (by omega) (by omega) (fun _ _ => ?_) | refine WD (by omega) (by omega) (fun _ _ => ?_) | refine WE (by omega) (by omega) (by omega) ?_ | refine WJ (fun _ => ?_) | refine WK (fun _ _ _ => ?_) | refine WL (by assumption) (by omega) ?_ | refine WM (by omega) (by omega) (fun _ _ => ?_) | refine WN (by omega) (by omega) ?_ | refine WO (by omega) (by omega) ?_ | refine WP (by omega) (by omega) (by omega) ?_)
      | refine hbt ?_
      | refine one_c hl j3 hb0 j1 j2 (by omega) (by omega) (fun e' hE st' hQ => ?_) (fun v n hO u1 u2 st' g' hR hB hG => ?_)
      | with_reducible refine WF ?_)
    · rw [textN_bad hq hE] at j7
      cases hT : textN (s.drop (p + 1)) with
      | inl k =>
        rw [hT] at j7
        injection j7 with j7
        injection j7 with e7 e8
        have := h0 k.1 k.2 hT st' hQ
        rw [show p + 1 + k.1 = q by simpa using e7, e8] at this
        exact fin this rfl
      | inr n => rw [hT] at j7; cases j7
    · have hle := oneF_le hO
      rw [List.length_drop] at hle
      dsimp only at hle
      rw [absN_go hq hO, List.drop_drop] at j7
      rw [textO_go hq hO, List.drop_drop] at j8
      rw [textP_go hq hO, List.drop_drop] at j9
      have ho : (outF o v).length ≤ o.length + 1 := by unfold outF; split <;> simp
      have hg : g'.length ≤ g.length + 1 := by rw [hG]; split <;> simp
      conv => whnf
      refine ⟨⟨q + n, outF o v, g', u1, u2, st'⟩, ⟨hB, hR, by simp only []; omega, by simp only []; omega, by simp only []; omega, by simp only []; omega, j7, ?_, ?_⟩, by simp only []; omega, (by refine ⟨rfl, ?_, ?_, rfl⟩ <;> repeat' (first | exact trivial | exact rfl | refine And.intro ?_ ?_)), St.le_refl _⟩
      · rw [j8]
        unfold outF
        by_cases hv1 : v = -1
        · rw [if_pos hv1, if_pos hv1]
        · rw [if_neg hv1, if_neg hv1]; simp
      · rw [j9, hG]
        by_cases hg0 : 0 < gapN (s.drop q)
        · rw [if_pos hg0, if_pos ⟨rfl, hg0⟩]; simp
        · rw [if_neg hg0, if_neg (fun x => hg0 x.2)]
end
end Go.Proofs.YtkcapphlemoccaaGreatDoor
set_option linter.unusedVariables false
namespace Go.Proofs.YtkcapphlemoccaaGreatDoor
open Go Go.Aw
section
variable {st : St} {R : Res → St → Prop}
set_option maxHeartbeats 2000000 in
theorem literal_h {st0 : St} {b p : Nat} {s : List UInt8} {tx : Bool} {w1 w2 : Own} (hl : s.length ≤ 100000000) (hp : hdF (s.drop p) = 39) (hb0 : st0.box b = none) (hb : st.box b = some (qC s p tx [] w1 [] w2)) (hr : Rows2 st0 st w1 0 w2 0)
    (h0 : ∀ k e, charN (s.drop (p + 1)) = .inl (k, e) → ∀ st', QB st0 st' b s false → R (.pan (qfault (p + 1 + k : Nat) e)) st')
    (h : ∀ n, charN (s.drop (p + 1)) = .inr n → ∀ o' w1' w2' st', Rows2 st0 st' w1' (List.length o') w2' 0 → st'.box b = some (qC s (p + 1 + n) false o' w1' [] w2') → R (.ret (.int .i64 13)) st') :
    PC 105 [.ptr b 0] st R := by
  have hpl : p < s.length := hdF_lt_len (k := p) (by omega)
  obtain ⟨e, he⟩ : ∃ e, s[p]? = some e := ⟨s[p], List.getElem?_eq_getElem hpl⟩
  have he' : s[(p : Int).toNat]? = some e := he
  have hv := hdF_at he
  have hv34 : ((e.toNat : Nat) : Int) = 39 := by omega
  refine pcalls_of_aw tys_ok [] Tryz.func105 rfl (by decide) rfl ?_
  refine AW_seq2 (aw_of tys_ok ?_)
  repeat' ((conv => whnf); first
    | (with_reducible first | exact Wa | exact Wb | exact Wc | refine Wd (by kernel_rfl) ?_ | refine We ?_ ?_ ?_ | refine W8 (by decide +kernel) ?_ ?_ ?_ | refine W9 ?_ ?_ ?_ | refine Wt (by first | assumption | omega) ?_ | refine Wu (by first | assumption | omega) ?_ | refine Wv (by omega) ?_ | refine Ww (by omega) ?_ | refine Wf (by decide) (fun _ => ?_) (fun _ => ?_) | refine Wg (fun _ => ?_) (fun _ => ?_) | refine Wh (fun _ => ?_) (fun _ => ?_) | refine Wi ?_ | refine Wj ?_ | refine Wk (fun _ => ?_) (fun _ => ?_) | refine Wl (fun _ => ?_) | refine Wm (by assumption) (by omega) ?_ | refine Wn (by omega) (by omega) (fun _ _ _ => ?_) | refine Wo (by omega) (by omega) ?_ | refine Wp (by omega) (by omega) (by omega) ?_ | refine Wq (by omega) (by omega) ?_ | refine Wr (by decide) (by omega) (by omega) ?_ | refine Ws (by decide) ?_ | refine Wx (fun _ => ?_) ?_ | refine Wy (fun _ => ?_) ?_ | refine Wz (fun _ => ?_) | refine WA (fun _ => ?_) | refine WB (by assumption) (by omega) ?_ | refine WC (by omega) (by omega) (fun _ _ => ?_) | refine WD (by omega) (by omega) (fun _ _ => ?_) | refine WE (by omega) (by omega) (by omega) ?_ | refine WJ (fun _ => ?_) | refine WK (fun _ _ _ => ?_) | refine WL (by assumption) (by omega) ?_ | refine WM (by omega) (by omega) (fun _ _ => ?_) | refine WN (by omega) (by omega) ?_ | refine WO (by omega) (by omega) ?_ | refine WP (by omega) (by omega) (by omega) ?_)
    | with_reducible refine WF ?_)
  refine AW_seq2 (aw_of tys_ok ?_)
  repeat' ((conv => whnf); first
    | (with_reducible first | exact Wa | exact Wb | exact Wc | refine Wd (by kernel_rfl) ?_ | refine We ?_ ?_ ?_ | refine W8 (by decide +kernel) ?_ ?_ ?_ | refine W9 ?_ ?_ ?_ | refine Wt (by first | assumption | omega) ?_ | refine Wu (by first | assumption | omega) ?_ | refine Wv (by omega) ?_ | refine Ww (by omega) ?_ | refine Wf (by decide) (fun _ => ?_) (fun _ => ?_) | refine Wg (fun _ => ?_) (fun _ => ?_) | refine Wh (fun _ => ?_) (fun _ => ?_) | refine Wi ?_ | refine Wj ?_ | refine Wk (fun _ => ?_) (fun _ => ?_) | refine Wl (fun _ => ?_) | refine Wm (by assumption) (by omega) ?_ | refine Wn (by omega) (by omega) (fun _ _ _ => ?_) | refine Wo (by omega) (by omega) ?_ | refine Wp (by omega) (by omega) (by omega) ?_ | refine Wq (by omega) (by omega) ?_ | refine Wr (by decide) (by omega) (by omega) ?_ | refine Ws (by decide) ?_ | refine Wx (fun _ => ?_) ?_ | refine Wy (fun _ => ?_) ?_ | refine Wz (fun _ => ?_) | refine WA (fun _ => ?_) | refine WB (by assumption) (by omega) ?_ | refine WC (by omega) (by omega) (fun _ _ => ?_) | refine WD (by omega) (by omega) (fun _ _ => ?_) | refine WE (by omega) (by omega) (by omega) ?_ | refine WJ (fun _ => ?_) | refine WK (fun _ _ _ => ?_) | refine WL (by assumption) (by omega) ?_ | refine WM (by omega) (by omega) (fun _ _ => ?_) | refine WN (by omega) (by omega) ?_ | refine WO (by omega) (by omega) ?_ | refine WP (by omega) (by omega) (by omega) ?_)
    | refine on_box hb ?_
    | with_reducible refine WF ?_)
  refine AW_seq2 (aw_of tys_ok ?_)
  repeat' ((conv => whnf); first
    | (with_reducible first | exact Wa | exact Wb | exact Wc | refine Wd (by kernel_rfl) ?_ | refine We ?_ ?_ ?_ | refine W8 (by decide +kernel) ?_ ?_ ?_ | refine W9 ?_ ?_ ?_ | refine Wt (by first | assumption | omega) ?_ | refine Wu (by first | assumption | omega) ?_ | refine Wv (by omega) ?_ | refine Ww (by omega) ?_ | refine Wf (by decide) (fun _ => ?_) (fun _ => ?_) | refine Wg (fun _ => ?_) (fun _ => ?_) | refine Wh (fun _ => ?_) (fun _ => ?_) | refine Wi ?_ | refine Wj ?_ | refine Wk (fun _ => ?_) (fun _ => ?_) | refine Wl (fun _ => ?_) | refine Wm (by assumption) (by omega) ?_ | refine Wn (by omega) (by omega) (fun _ _ _ => ?_) | refine Wo (by omega) (by omega) ?_ | refine Wp (by omega) (by omega) (by omega) ?_ | refine Wq (by omega) (by omega) ?_ | refine Wr (by decide) (by omega) (by omega) ?_ | refine Ws (by decide) ?_ | refine Wx (fun _ => ?_) ?_ | refine Wy (fun _ => ?_) ?_ | refine Wz (fun _ => ?_) | refine WA (fun _ => ?_) | refine WB (by assumption) (by omega) ?_ | refine WC (by omega) (by omega) (fun _ _ => ?_) | refine WD (by omega) (by omega) (fun _ _ => ?_) | refine WE (by omega) (by omega) (by omega) ?_ | refine WJ (fun _ => ?_) | refine WK (fun _ _ _ => ?_) | refine WL (by assumption) (by omega) ?_ | refine WM (by omega) (by omega) (fun _ _ => ?_) | refine WN (by omega) (by omega) ?_ | refine WO (by omega) (by omega) ?_ | refine WP (by omega) (by omega) (by omega) ?_)
    | refine on_box hb ?_
    | with_reducible refine WF ?_)
  refine AW_seq2 (aw_of tys_ok ?_)
  repeat' ((conv => whnf); first
    | (with_reducible first | exact Wa | exact Wb | exact Wc | refine Wd (by kernel_rfl) ?_ | refine We ?_ ?_ ?_ | refine W8 (by decide +kernel) ?_ ?_ ?_ | refine W9 ?_ ?_ ?_ | refine Wt (by first | assumption | omega) ?_ | refine Wu (by first | assumption | omega) ?_ | refine Wv (by omega) ?_ | refine Ww (by omega) ?_ | refine Wf (by decide) (fun _ => ?_) (fun _ => ?_) | refine Wg (fun _ => ?_) (fun _ => ?_) | refine Wh (fun _ => ?_) (fun _ => ?_) | refine Wi ?_ | refine Wj ?_ | refine Wk (fun _ => ?_) (fun _ => ?_) | refine Wl (fun _ => ?_) | refine Wm (by assumption) (by omega) ?_ | refine Wn (by omega) (by omega) (fun _ _ _ => ?_) | refine Wo (by omega) (by omega) ?_ | refine Wp (by omega) (by omega) (by omega) ?_ | refine Wq (by omega) (by omega) ?_ | refine Wr (by decide) (by omega) (by omega) ?_ | refine Ws (by decide) ?_ | refine Wx (fun _ => ?_) ?_ | refine Wy (fun _ => ?_) ?_ | refine Wz (fun _ => ?_) | refine WA (fun _ => ?_) | refine WB (by assumption) (by omega) ?_ | refine WC (by omega) (by omega) (fun _ _ => ?_) | refine WD (by omega) (by omega) (fun _ _ => ?_) | refine WE (by omega) (by omega) (by omega) ?_ | refine WJ (fun _ => ?_) | refine WK (fun _ _ _ => ?_) | refine WL (by assumption) (by omega) ?_ | refine WM (by omega) (by omega) (fun _ _ => ?_) | refine WN (by omega) (by omega) ?_ | refine WO (by omega) (by omega) ?_ | refine WP (by omega) (by omega) (by omega) ?_)
    | refine on_box (St.box_at _ _ _) ?_
    | with_reducible refine WF ?_)
  refine AW_st (st' := st.setBox b (qC s (p + 1) false [] w1 [] w2)) (St.set_set' _ _ _ _).symm ?_
  have hb1 := St.box_at st b (qC s (p + 1) false [] w1 [] w2)
  have hr1 := hr.set hb0 (qC s (p + 1) false [] w1 [] w2)
  generalize st.setBox b (qC s (p + 1) false [] w1 [] w2) = st1 at hb1 hr1
  have hx := byF_hd (s.drop (p + 1))
  have hbt : ∀ {R : Res → St → Prop}, R (.ret (.int .u8 (byF (s.drop (p + 1))))) st1 → PC 114 [.ptr b 0, .int .i64 0] st1 R := fun h => byteAt_c (k := 0) hl (by omega) (by decide) hb1 h
  have hqb : QB st0 st1 b s false := ⟨_, [], w1, [], w2, hb1, hr1⟩
  by_cases hq : hdF (s.drop (p + 1)) = 39
  · have h0 := h0 0 50 (if_pos hq) st1 hqb
    clear h
    refine aw_of tys_ok ?_
    repeat' ((conv => whnf); first
      | (with_reducible first | exact Wa | exact Wb | exact Wc | refine Wd (by kernel_rfl) ?_ | refine We ?_ ?_ ?_ | refine W8 (by decide +kernel) ?_ ?_ ?_ | refine W9 ?_ ?_ ?_ | refine Wt (by first | assumption | omega) ?_ | refine Wu (by first | assumption | omega) ?_ | refine Wv (by omega) ?_ | refine Ww (by omega) ?_ | refine Wf (by decide) (fun _ => ?_) (fun _ => ?_) | refine Wg (fun _ => ?_) (fun _ => ?_) | refine Wh (fun _ => ?_) (fun _ => ?_) | refine Wi ?_ | refine Wj ?_ | refine Wk (fun _ => ?_) (fun _ => ?_) | refine Wl (fun _ => ?_) | refine Wm (by assumption) (by omega) ?_ | refine Wn (by omega) (by omega) (fun _ _ _ => ?_) | refine Wo (by omega) (by omega) ?_ | refine Wp (by omega) (by omega) (by omega) ?_ | refine Wq (by omega) (by omega) ?_ | refine Wr (by decide) (by omega) (by omega) ?_ | refine Ws (by decide) ?_ | refine Wx (fun _ => ?_) ?_ | refine Wy (fun _ => ?_) ?_ | refine Wz (fun _ => ?_) | refine WA (fun _ => ?_) | refine WB (by assumption) (by omega) ?_ | refine WC (by omega) (by omega) (fun _ _ => ?_) | refine WD (by omega) (by omega) (fun _ _ => ?_) | refine WE (by omega) (by omega) (by omega) ?_ | refine WJ (fun _ => ?_) | refine WK (fun _ _ _ => ?_) | refine WL (by assumption) (by omega) ?_ | refine WM (by omega) (by omega) (fun _ _ => ?_) | refine WN (by omega) (by omega) ?_ | refine WO (by omega) (by omega) ?_ | refine WP (by omega) (by omega) (by omega) ?_)
      | refine on_box hb1 ?_
      | refine hbt ?_
      | refine qfail_c ?_
      | with_reducible refine WF ?_)
    exact fin h0 rfl
  refine AW_seq2 (aw_of tys_ok ?_)
  repeat' ((conv => whnf); first
    | (with_reducible first | exact Wa | exact Wb | exact Wc | refine Wd (by kernel_rfl) ?_ | refine We ?_ ?_ ?_ | refine W8 (by decide +kernel) ?_ ?_ ?_ | refine W9 ?_ ?_ ?_ | refine Wt (by first | assumption | omega) ?_ | refine Wu (by first | assumption | omega) ?_ | refine Wv (by omega) ?_ | refine Ww (by omega) ?_ | refine Wf (by decide) (fun _ => ?_) (fun _ => ?_) | refine Wg (fun _ => ?_) (fun _ => ?_) | refine Wh (fun _ => ?_) (fun _ => ?_) | refine Wi ?_ | refine Wj ?_ | refine Wk (fun _ => ?_) (fun _ => ?_) | refine Wl (fun _ => ?_) | refine Wm (by assumption) (by omega) ?_ | refine Wn (by omega) (by omega) (fun _ _ _ => ?_) | refine Wo (by omega) (by omega) ?_ | refine Wp (by omega) (by omega) (by omega) ?_ | refine Wq (by omega) (by omega) ?_ | refine Wr (by decide) (by omega) (by omega) ?_ | refine Ws (by decide) ?_ | refine Wx (fun _ => ?_) ?_ | refine Wy (fun _ => ?_) ?_ | refine Wz (fun _ => ?_) | refine WA (fun _ => ?_) | refine WB (by assumption) (by omega) ?_ | refine WC (by omega) (by omega) (fun _ _ => ?_) | refine WD (by omega) (by omega) (fun _ _ => ?_) | refine WE (by omega) (by omega) (by omega) ?_ | refine WJ (fun _ => ?_) | refine WK (fun _ _ _ => ?_) | refine WL (by assumption) (by omega) ?_ | refine WM (by omega) (by omega) (fun _ _ => ?_) | refine WN (by omega) (by omega) ?_ | refine WO (by omega) (by omega) ?_ | refine WP (by omega) (by omega) (by omega) ?_)
    | refine on_box hb1 ?_
    | with_reducible refine WF ?_)
  refine AW_seq2 (aw_of tys_ok ?_)
  repeat' ((conv => whnf); first
    | (with_reducible first | exact Wa | exact Wb | exact Wc | refine Wd (by kernel_rfl) ?_ | refine We ?_ ?_ ?_ | refine W8 (by decide +kernel) ?_ ?_ ?_ | refine W9 ?_ ?_ ?_ | refine Wt (by first | assumption | omega) ?_ | refine Wu (by first | assumption | omega) ?_ | refine Wv (by omega) ?_ | refine Ww (by omega) ?_ | refine Wf (by decide) (fun _ => ?_) (fun _ => ?_) | refine Wg (fun _ => ?_) (fun _ => ?_) | refine Wh (fun _ => ?_) (fun _ => ?_) | refine Wi ?_ | refine Wj ?_ | refine Wk (fun _ => ?_) (fun _ => ?_) | refine Wl (fun _ => ?_) | refine Wm (by assumption) (by omega) ?_ | refine Wn (by omega) (by omega) (fun _ _ _ => ?_) | refine Wo (by omega) (by omega) ?_ | refine Wp (by omega) (by omega) (by omega) ?_ | refine Wq (by omega) (by omega) ?_ | refine Wr (by decide) (by omega) (by omega) ?_ | refine Ws (by decide) ?_ | refine Wx (fun _ => ?_) ?_ | refine Wy (fun _ => ?_) ?_ | refine Wz (fun _ => ?_) | refine WA (fun _ => ?_) | refine WB (by assumption) (by omega) ?_ | refine WC (by omega) (by omega) (fun _ _ => ?_) | refine WD (by omega) (by omega) (fun _ _ => ?_) | refine WE (by omega) (by omega) (by omega) ?_ | refine WJ (fun _ => ?_) | refine WK (fun _ _ _ => ?_) | refine WL (by assumption) (by omega) ?_ | refine WM (by omega) (by omega) (fun _ _ => ?_) | refine WN (by omega) (by omega) ?_ | refine WO (by omega) (by omega) ?_ | refine WP (by omega) (by omega) (by omega) ?_)
    | refine hbt ?_
    | with_reducible refine WF ?_)
  refine AW_seq2 (aw_of tys_ok ?_)
  repeat' ((conv => whnf); first
    | (with_reducible first | exact Wa | exact Wb | exact Wc | refine Wd (by kernel_rfl) ?_ | refine We ?_ ?_ ?_ | refine W8 (by decide +kernel) ?_ ?_ ?_ | refine W9 ?_ ?_ ?_ | refine Wt (by first | assumption | omega) ?_ | refine Wu (by first | assumption | omega) ?_ | refine Wv (by omega) ?_ | refine Ww (by omega) ?_ | refine Wf (by decide) (fun _ => ?_) (fun _ => ?_) | refine Wg (fun _ => ?_) (fun _ => ?_) | refine Wh (fun _ => ?_) (fun _ => ?_) | refine Wi ?_ | refine Wj ?_ | refine Wk (fun _ => ?_) (fun _ => ?_) | refine Wl (fun _ => ?_) | refine Wm (by assumption) (by omega) ?_ | refine Wn (by omega) (by omega) (fun _ _ _ => ?_) | refine Wo (by omega) (by omega) ?_ | refine Wp (by omega) (by omega) (by omega) ?_ | refine Wq (by omega) (by omega) ?_ | refine Wr (by decide) (by omega) (by omega) ?_ | refine Ws (by decide) ?_ | refine Wx (fun _ => ?_) ?_ | refine Wy (fun _ => ?_) ?_ | refine Wz (fun _ => ?_) | refine WA (fun _ => ?_) | refine WB (by assumption) (by omega) ?_ | refine WC (by omega) (by omega) (fun _ _ => ?_) | refine WD (by omega) (by omega) (fun _ _ => ?_) | refine WE (by omega) (by omega) (by omega) ?_ | refine WJ (fun _ => ?_) | refine WK (fun _ _ _ => ?_) | refine WL (by assumption) (by omega) ?_ | refine WM (by omega) (by omega) (fun _ _ => ?_) | refine WN (by omega) (by omega) ?_ | refine WO (by omega) (by omega) ?_ | refine WP (by omega) (by omega) (by omega) ?_)
    | refine one_c (st0 := st0) hl (by omega) hb0 hb1 hr1 (by simp) (by simp) (fun e' hE st' hQ => ?_) (fun v n hO u1 u2 st' g' hR hB hG => ?_)
    | with_reducible refine WF ?_)
  · exact fin (h0 0 e' (by unfold charN; rw [if_neg hq, hE]) st' hQ) rfl
  · have hle := oneF_le hO
    rw [List.length_drop] at hle
    dsimp only at hle
    rw [if_neg (fun x => by cases x.1)] at hG
    subst hG
    have hc : charN (s.drop (p + 1)) = if hdF (s.drop (p + 1 + n)) = 39 then .inr (n + 1) else .inl (n, 50) := by
      unfold charN
      rw [if_neg hq, hO]
      show (if hdF ((s.drop (p + 1)).drop n) = 39 then _ else _) = _
      rw [List.drop_drop]
    have hx2 := byF_hd (s.drop (p + 1 + n))
    have hbt2 : ∀ {R : Res → St → Prop}, R (.ret (.int .u8 (byF (s.drop (p + 1 + n))))) st' → PC 114 [.ptr b 0, .int .i64 0] st' R := fun h => byteAt_c (k := 0) hl (by omega) (by decide) hB h
    clear hbt hb1 hr1 hqb hb hr
    by_cases hq2 : hdF (s.drop (p + 1 + n)) = 39
    · rw [if_pos hq2] at hc
      have h := fun st' => h _ hc (outF [] v) u1 u2 st'
      refine aw_of tys_ok ?_
      repeat' ((conv => whnf); first
        | (with_reducible first | exact Wa | exact Wb | exact Wc | refine Wd (by kernel_rfl) ?_ | refine We ?_ ?_ ?_ | refine W8 (by decide +kernel) ?_ ?_ ?_ | refine W9 ?_ ?_ ?_ | refine Wt (by first | assumption | omega) ?_ | refine Wu (by first | assumption | omega) ?_ | refine Wv (by omega) ?_ | refine Ww (by omega) ?_ | refine Wf (by decide) (fun _ => ?_) (fun _ => ?_) | refine Wg (fun _ => ?_) (fun _ => ?_) | refine Wh (fun _ => ?_) (fun _ => ?_) | refine Wi ?_ | refine Wj ?_ | refine Wk (fun _ => ?_) (fun _ => ?_) | refine Wl (fun _ => ?_) | refine Wm (by assumption) (by omega) ?_ | refine Wn (by omega) (by omega) (fun _ _ _ => ?_) | refine Wo (by omega) (by omega) ?_ | refine Wp (by omega) (by omega) (by omega) ?_ | refine Wq (by omega) (by omega) ?_ | refine Wr (by decide) (by omega) (by omega) ?_ | refine Ws (by decide) ?_ | refine Wx (fun _ => ?_) ?_ | refine Wy (fun _ => ?_) ?_ | refine Wz (fun _ => ?_) | refine WA (fun _ => ?_) | refine WB (by assumption) (by omega) ?_ | refine WC (by omega) (by omega) (fun _ _ => ?_) | refine WD (by omega) (by omega) (fun _ _ => ?_) | refine WE (by omega) (by omega) (by omega) ?_ | refine WJ (fun _ => ?_) | refine WK (fun _ _ _ => ?_) | refine WL (by assumption) (by omega) ?_ | refine WM (by omega) (by omega) (fun _ _ => ?_) | refine WN (by omega) (by omega) ?_ | refine WO (by omega) (by omega) ?_ | refine WP (by omega) (by omega) (by omega) ?_)
        | refine hbt2 ?_
        | refine on_box hB ?_
        | with_reducible refine WF ?_)
      exact fin (h _ (hR.set hb0 _) ((St.box_at _ _ _).trans (congrArg some (qC_at (by omega))))) rfl
    · rw [if_neg hq2] at hc
      have h0 := h0 _ _ hc st' ⟨_, _, _, _, _, hB, hR⟩
      refine aw_of tys_ok ?_
      repeat' ((conv => whnf); first
        | (with_reducible first | exact Wa | exact Wb | exact Wc | refine Wd (by kernel_rfl) ?_ | refine We ?_ ?_ ?_ | refine W8 (by decide +kernel) ?_ ?_ ?_ | refine W9 ?_ ?_ ?_ | refine Wt (by first | assumption | omega) ?_ | refine Wu (by first | assumption | omega) ?_ | refine Wv (by omega) ?_ | refine Ww (by omega) ?_ | refine Wf (by decide) (fun _ => ?_) (fun _ => ?_) | refine Wg (fun _ => ?_) (fun _ => ?_) | refine Wh (fun _ => ?_) (fun _ => ?_) | refine Wi ?_ | refine Wj ?_ | refine Wk (fun _ => ?_) (fun _ => ?_) | refine Wl (fun _ => ?_) | refine Wm (by assumption) (by omega) ?_ | refine Wn (by omega) (by omega) (fun _ _ _ => ?_) | refine Wo (by omega) (by omega) ?_ | refine Wp (by omega) (by omega) (by omega) ?_ | refine Wq (by omega) (by omega) ?_ | refine Wr (by decide) (by omega) (by omega) ?_ | refine Ws (by decide) ?_ | refine Wx (fun _ => ?_) ?_ | refine Wy (fun _ => ?_) ?_ | refine Wz (fun _ => ?_) | refine WA (fun _ => ?_) | refine WB (by assumption) (by omega) ?_ | refine WC (by omega) (by omega) (fun _ _ => ?_) | refine WD (by omega) (by omega) (fun _ _ => ?_) | refine WE (by omega) (by omega) (by omega) ?_ | refine WJ (fun _ => ?_) | refine WK (fun _ _ _ => ?_) | refine WL (by assumption) (by omega) ?_ | refine WM (by omega) (by omega) (fun _ _ => ?_) | refine WN (by omega) (by omega) ?_ | refine WO (by omega) (by omega) ?_ | refine WP (by omega) (by omega) (by omega) ?_)
        | refine hbt2 ?_
        | refine on_box hB ?_
        | refine qfail_c ?_
        | with_reducible refine WF ?_)
      exact fin h0 rfl
end
end Go.Proofs.YtkcapphlemoccaaGreatDoor
set_option linter.unusedVariables false
set_option linter.unusedSimpArgs false
namespace Go.Aw
open Go
section
variable {D : List Deferred} {P : Program} {T : List (Nat × Ty)} {I0 I : Mem} {st0 st : St} {w0 w : World} {β : Nat → Option Nat} {env : Env} {a : Act}
theorem pcalls_defer3 (hP : POk P T) {f : FuncId} {fn : Func} (gl : List Nat) {args : List V} {R : Res → St → Prop} (hf : P.funcs[f]? = some fn) {c0 c1 c2 rest : Code} {rid : Nat} {mk df : Oper}
    (hb : fn.body = some (.seq c0 (.seq c1 (.seq c2 (.seq (.region rid #[mk, df] false) rest))))) (hn : (fn.name == "runtime.NumGoroutine") = false) {g : FuncId} {cap : Array Operand} {tf : Nat}
    (h1 : mk.op = .makeFunc (.func g) #[] cap) (h2 : mk.dst = some tf) (h3 : mk.guard = none) (h4 : df.op = .defer { callee := .value (.tmp tf), args := #[], argTypes := #[] }) (h5 : df.guard = none) (h6 : df.dst = none)
    (hg : Plain P g) (hle : Nat.ble args.length fn.ntmps = true)
    (h : AW P c0 (thenQ (fun env st => AW P c1 (thenQ (fun env st => AW P c2 (fun ae env st => match ae with
      | .normal => evs env cap.toList fun vs => vs.all V.isPtr = true ∧ env.go (some tf) (.func g [] vs) fun env => AW P rest (leaveQ P T g vs fn R) env st
      | .ret => retQ T fn R env st
      | _ => False) env st) noQ) env st) noQ) { tmps := args0 0 args, boxes := [], nxt := 0, sz := fn.ntmps, gl } st) : PCalls P f args st R := by
  refine ⟨?_, fn, hf, by rw [hb]; rfl, hn⟩
  intro I w cargs hs hargs
  refine calls_of_wp_defers hf hb ?_
  refine wp_seq (wp_mono (h [] I st w I _ _ w (start_rel gl hs hargs hle)) ?_)
  rintro e a w1 ⟨I1, β1, env1, st1, ae, r1, x1, k1⟩
  cases ae with
  | exit _ | goto _ | ret | pan _ => exact k1.elim
  | normal =>
  cases e with
  | exit _ | goto _ | ret | panic _ | outgrown => exact x1.elim
  | normal =>
  refine wp_seq (wp_mono (k1 [] I st w I1 _ _ w1 r1) ?_)
  rintro e a w2 ⟨I2, β2, env2, st2, ae, r2, x2, k2⟩
  cases ae with
  | exit _ | goto _ | ret | pan _ => exact k2.elim
  | normal =>
  cases e with
  | exit _ | goto _ | ret | panic _ | outgrown => exact x2.elim
  | normal =>
  refine wp_seq (wp_mono (k2 [] I st w I2 _ _ w2 r2) ?_)
  clear k2 r2 x2
  rintro e a w2 ⟨I2, β2, env2, st2, ae, r2, x2, k2⟩
  cases ae with
  | exit _ | goto _ | pan _ => exact k2.elim
  | ret =>
    cases e with
    | normal | exit _ | goto _ | panic _ | outgrown => exact x2.elim
    | ret =>
      obtain ⟨v, c, g1, g2, g3⟩ := results_sound (P := P) hP.t r2 k2
      show Leaves P fn a.tmps _ a.defers _ w2
      rw [r2.f.defers]
      exact ⟨c, g1, I2, st2, .ret v, r2.fr, r2.s, g2, g3⟩
  | normal =>
  cases e with
  | exit _ | goto _ | ret | panic _ | outgrown => exact x2.elim
  | normal =>
  refine wp_seq (wp_region_list ?_)
  show wpList P #[mk, df] _ [mk, df] a w2
  unfold wpList
  rw [if_pos (by simp [Region.wanted, h3])]
  left
  obtain ⟨vs, hv, kp, kg⟩ := evs_sound r2.f (show evs env2 cap.toList _ from k2)
  have hcv : Rep I2 (.func g [] vs) (.func (.func g) #[] (cap.map a.eval)) := by
    simp only [Rep]
    exact ⟨[], cap.toList.map a.eval, by congr 1; apply Array.ext'; simp, by simp only [RepL], hv⟩
  obtain ⟨env3, r3, k3⟩ := env_go_sound r2 (RepT.of hcv) kg
  have htf : tf < a.tmps.size := by
    rw [r2.f.size]
    exact (go_out kg).1 tf rfl
  unfold Oper.wp
  rw [show (execOp a.eval mk).run P w2 = .ok (.value (.func (.func g) #[] (cap.map a.eval))) w2 by simp only [execOp, h1, Array.map_empty]; rfl]
  show wpList P #[mk, df] _ [df] (a.put mk.dst _) w2
  rw [h2]
  unfold wpList
  rw [if_pos (by simp [Region.wanted, h5])]
  left
  have hev : (a.put (some tf) (.func (.func g) #[] (cap.map a.eval))).eval (.tmp tf) = .func (.func g) #[] (cap.map a.eval) := by
    simp [Act.put, Act.eval, htf]
  unfold Oper.wp
  rw [show (execOp (a.put (some tf) (.func (.func g) #[] (cap.map a.eval))).eval df).run P w2 = .ok (.defer { target := .fn (.func g) (cap.map a.eval), args := #[] }) w2 by
    simp only [execOp, h4, resolve, hev, Deferred.ofValue, Array.map_empty, Array.empty_append]; rfl]
  rw [Oper.upon_defer]
  rw [h6]
  unfold wpList
  show rest.wp P _ _ _
  have r4 := r3.defer { target := .fn (.func g) (cap.map a.eval), args := #[] }
  refine wp_mono (k3 _ I st w I2 _ _ w2 r4) ?_
  rintro e a5 w5 ⟨I5, β5, env5, st5, ae, r5, x5, k5⟩
  have hd := r5.f.defers
  obtain ⟨fn2, p1, p2, p3⟩ := hg
  have hinv : (invoke (.fn (.func g) (cap.map a.eval)) #[]).run P w5 = .ok (.enter g (cap.toList.map a.eval).toArray) w5 := by
    have hb : fn2.body.isNone = false := by cases hb : fn2.body <;> simp_all
    simp only [invoke, callFunc, Sem.run_bind, Sem.run_pure, Result.andThen_ok, run_program, p1]
    rw [p3]
    simp [hb]
    apply Array.ext'; simp
  have last : ∀ {u : FrameMode} {x : Option V}, u ≠ .run → (match x with | none => u = .returning | some v => ∃ c, u = .panicking [{ v := c, recovered := false }] ∧ Rep I5 v c) → DCalls P g vs x st5 (fun st' => retQ T fn R env5 st') →
      Leaves P fn a5.tmps (fun e w' => ∃ I' st' r, Fr I st w I' st' w' ∧ RelS I' st' w' ∧ resM I' e r ∧ R r st') a5.defers u w5 := by
    intro u x hu hx k
    rw [hd]
    refine leaves_cons hu hinv ((k I5 w5 _ u r5.s (RepL.ptrs hv kp) hx).mono ?_)
    rintro e u' w6 ⟨⟨v, rfl⟩, hset, I6, st6, q1, q2, q3⟩
    show Leaves P fn a5.tmps _ [] (settle u') w6
    rw [hset]
    have r6 := r5.called q1 q2
    obtain ⟨v, c, g1, g2, g3⟩ := results_sound (P := P) hP.t r6 q3
    exact ⟨c, g1, I6, st6, .ret v, r6.fr, r6.s, g2, g3⟩
  cases ae with
  | normal =>
    cases e with
    | normal => exact last (x := none) (by simp) rfl k5
    | _ => exact x5.elim
  | ret =>
    cases e with
    | ret => exact last (x := none) (by simp) rfl k5
    | _ => exact x5.elim
  | pan v =>
    cases e with
    | panic chain =>
      obtain ⟨c, rfl, hc⟩ := x5
      exact last (x := some v) (by simp) ⟨c, rfl, hc⟩ k5
    | _ => exact x5.elim
  | exit _ => exact k5.elim
  | goto _ => exact k5.elim
end
end Go.Aw
set_option linter.unusedVariables false
set_option linter.unusedSimpArgs false
namespace Go.Aw
open Go
section
variable {D : List Deferred} {P : Program} {T : List (Nat × Ty)} {C : FuncId → List V → St → (Res → St → Prop) → Prop} {I0 I : Mem} {st0 st : St} {w0 w : World} {β : Nat → Option Nat} {env : Env} {a : Act}
def stepX {X : Type} (T : List (Nat × Ty)) (C : FuncId → List V → St → (Res → St → Prop) → Prop) (all : List Oper) (Q : AExit → Env → St → Prop) (E : X → List Bool → Env) (S : X → List Bool → St) (J : X → List Bool → Prop) (x : X) (p : List Bool × Nat) : Prop :=
  match all[p.2]? with
  | some o => guardWp all o (E x p.1) (opWp T C o (E x p.1) (S x p.1) (fun v env st => env.go o.dst v fun env => ∃ y, J y (p.1.set p.2 true) ∧ (E y (p.1.set p.2 true)).leC env ∧ St.le (S y (p.1.set p.2 true)) st) Q)
      ((E x p.1).go o.dst (.tup []) fun env => ∃ y, J y (p.1.set p.2 true) ∧ (E y (p.1.set p.2 true)).leC env ∧ St.le (S y (p.1.set p.2 true)) (S x p.1))
  | none => True
theorem any_soundX {X : Type} (hT : TOk P T) (hC : ∀ f args st R, C f args st R → ACalls P f args st R ∧ Plain P f) {all : List Oper} {Q : AExit → Env → St → Prop} {E : X → List Bool → Env} {S : X → List Bool → St} {J : X → List Bool → Prop} {PL : List (List Bool × Nat)}
    (hc : closedP all PL = true) (step : ∀ p ∈ PL, ∀ x, J x p.1 → stepX T C all Q E S J x p) (fin : ∀ x, J x (List.replicate all.length true) → Q .normal (E x (List.replicate all.length true)) (S x (List.replicate all.length true))) :
    ∀ (fuel : Nat) (bs : List Bool) (listed : Array Bool) (I : Mem) (β : Nat → Option Nat) (a : Act) (w : World), bs.length = all.length → listed.toList = bs → bs.count false ≤ fuel →
      (∀ j, j < all.length → readyL all bs j = true → (bs, j) ∈ PL) → (bs = List.replicate all.length true ∨ ∃ j, j < all.length ∧ readyL all bs j = true) →
      ∀ x, J x bs → Rel D I0 st0 w0 I β (E x bs) (S x bs) a w → wpAny P .any all.toArray (liftQ D I0 st0 w0 Q) fuel listed a w := by
  have full : ∀ {bs : List Bool}, bs.length = all.length → bs.count false = 0 → bs = List.replicate all.length true := fun {bs} hb h0 => by
    rw [List.eq_replicate_iff]
    refine ⟨hb, fun b hb => ?_⟩
    cases b with
    | true => rfl
    | false => have := List.count_pos_iff.2 hb; omega
  have noready : ∀ {j : Nat}, readyL all (List.replicate all.length true) j = true → j < all.length → False := fun {j} h hj => by
    unfold readyL at h
    simp only [Bool.and_eq_true, Bool.not_eq_true'] at h
    have := h.1
    rw [List.getD_eq_getElem?_getD, List.getElem?_replicate, if_pos hj] at this
    cases this
  simp only [closedP, Bool.and_eq_true, List.all_eq_true] at hc
  intro fuel
  induction fuel with
  | zero =>
    intro bs listed I β a w hb hl hf hp hr x hj h
    have := full hb (by omega)
    subst this
    refine ⟨?_, ⟨I, β, _, _, .normal, h, trivial, fin x hj⟩⟩
    rw [List.eq_nil_iff_forall_not_mem]
    intro j hj
    obtain ⟨h1, h2⟩ := (ready_iff hl hb).1 hj
    exact noready h2 h1
  | succ fuel ih =>
    intro bs listed I β a w hb hl hf hp hr x hj h
    refine ⟨fun h0 => ?_, fun i hi => ?_⟩
    · rcases hr with rfl | ⟨j, h1, h2⟩
      · exact ⟨I, β, _, _, .normal, h, trivial, fin x hj⟩
      · have := (ready_iff hl hb).2 ⟨h1, h2⟩
        rw [h0] at this; cases this
    · obtain ⟨h1, h2⟩ := (ready_iff hl hb).1 hi
      have hm := hp i h1 h2
      have hs := step _ hm x hj
      unfold stepX at hs
      have ho : all[i]? = some all[i] := List.getElem?_eq_getElem h1
      simp only [ho] at hs
      obtain ⟨⟨c1, c2⟩, c3⟩ := hc.2 _ hm
      refine wpOp_sound hT hC (Q := Q) ho (fun {I β env st a w} h k => ?_) h hs (K := fun env st => ∃ y, J y (bs.set i true) ∧ (E y (bs.set i true)).leC env ∧ St.le (S y (bs.set i true)) st)
      · obtain ⟨y, kj, k⟩ := k
        have hbi : i < bs.length := by omega
        refine ih (bs.set i true) _ I _ a w (by simpa using hb) (by simp [hl]) ?_ (fun j hj hr => ?_) ?_ y kj ((h.stLe k.2).envLe (Env.le_of k.1))
        · have := List.count_set (a := true) (i := i) (l := bs) (b := false) hbi
          unfold readyL at h2
          simp only [Bool.and_eq_true, Bool.not_eq_true'] at h2
          have hbi' := h2.1
          rw [List.getD_eq_getElem?_getD, List.getElem?_eq_getElem hbi] at hbi'
          simp only [Option.getD_some] at hbi'
          rw [hbi'] at this
          have hpos : 0 < bs.count false := List.count_pos_iff.2 (by rw [← hbi']; exact List.getElem_mem hbi)
          simp only [beq_self_eq_true, if_true, show (true == false) = false from rfl, Bool.false_eq_true, if_false] at this
          omega
        · have := c2 j (List.mem_range.2 hj)
          rw [hr] at this
          simpa using this
        · simp only [Bool.or_eq_true, beq_iff_eq, List.any_eq_true] at c3
          rcases c3 with c3 | ⟨j, hj, hr⟩
          · exact .inl c3
          · exact .inr ⟨j, List.mem_range.1 hj, hr⟩
theorem aw_anyX {X : Type} (hP : POk P T) (hC : ∀ f args st R, C f args st R → ACalls P f args st R ∧ Plain P f) {id : Nat} {ops : Array Oper} {Q : AExit → Env → St → Prop} (E : X → List Bool → Env) (S : X → List Bool → St) (J : X → List Bool → Prop) (x0 : X) (PL : List (List Bool × Nat))
    (hc : closedP ops.toList PL = true) (j0 : J x0 (List.replicate ops.toList.length false)) (h0 : (E x0 (List.replicate ops.toList.length false)).leC env) (s0 : St.le (S x0 (List.replicate ops.toList.length false)) st) (step : ∀ p ∈ PL, ∀ x, J x p.1 → stepX T C ops.toList Q E S J x p)
    (fin : ∀ x, J x (List.replicate ops.toList.length true) → Q .normal (E x (List.replicate ops.toList.length true)) (S x (List.replicate ops.toList.length true))) : AW P (.region id ops true) Q env st := fun D I0 st0 w0 I β a w h =>
  wp_region_any hP.m (by
    have hc' := hc
    simp only [closedP, Bool.and_eq_true, List.all_eq_true] at hc'
    have := any_soundX (D := D) hP.t hC hc step fin ops.size (List.replicate ops.toList.length false) (Array.replicate ops.size false) I _ a _ (by simp) (by simp) (by simp) (fun j hj hr => ?_) ?_ x0 j0 (((h.grew (Grew.drew w)).stLe s0).envLe (Env.le_of h0))
    · simpa using this
    · have := hc'.1.1 j (List.mem_range.2 hj)
      rw [hr] at this
      simpa using this
    · have := hc'.1.2
      simp only [Bool.or_eq_true, beq_iff_eq, List.any_eq_true] at this
      rcases this with h | ⟨j, hj, hr⟩
      · exact .inl h
      · exact .inr ⟨j, List.mem_range.1 hj, hr⟩)
end
end Go.Aw
set_option linter.unusedVariables false
namespace Go.Aw
open Go
theorem box_off {st : St} {b c : Nat} {cs : List V} (h : b ≠ c) : (st.setBox b cs).box c = st.box c := by simp [St.setBox, Ne.symm h]
theorem fresh_off {st : St} {b c : Nat} {cs : List V} (h : (st.setBox b cs).fresh c) : b ≠ c ∧ st.fresh c := by
  by_cases e : b = c
  · subst e
    have := h.1
    rw [St.box_at] at this
    cases this
  · refine ⟨e, ?_, h.2⟩
    have := h.1
    rw [box_off e] at this
    exact this
theorem box_new {st : St} {K : Nat → Prop} (h : ∀ b, st.fresh b → K b) : ∀ b, st.fresh b → K b := h
end Go.Aw
namespace Go.Proofs.YtkcapphlemoccaaGreatDoor
open Go Go.Aw
section
variable {st : St} {R : Res → St → Prop}
attribute [local irreducible] Go.Aw.appendTo
theorem qclose_none {b1 b2 b3 : Nat} {RS : St → Prop} (h : RS st) : DCalls Tryz.prog 104 [.ptr b1 0, .ptr b2 0, .ptr b3 0] none st RS := by
  refine dcalls_of_body tys_ok [] Tryz.func104 rfl rfl rfl rfl rfl rfl rfl rfl (fun env0 he => ?_)
  subst he
  conv => whnf
  refine AW_seq2 (aw_of tys_ok ?_)
  repeat' ((conv => whnf); first
    | (with_reducible first | exact Wa | exact Wb | exact Wc | refine Wd (by kernel_rfl) ?_ | refine We ?_ ?_ ?_ | refine W8 (by decide +kernel) ?_ ?_ ?_ | refine W9 ?_ ?_ ?_ | refine Wt (by first | assumption | omega) ?_ | refine Wu (by first | assumption | omega) ?_ | refine Wv (by omega) ?_ | refine Ww (by omega) ?_ | refine Wf (by decide) (fun _ => ?_) (fun _ => ?_) | refine Wg (fun _ => ?_) (fun _ => ?_) | refine Wh (fun _ => ?_) (fun _ => ?_) | refine Wi ?_ | refine Wj ?_ | refine Wk (fun _ => ?_) (fun _ => ?_) | refine Wl (fun _ => ?_) | refine Wm (by assumption) (by omega) ?_ | refine Wn (by omega) (by omega) (fun _ _ _ => ?_) | refine Wo (by omega) (by omega) ?_ | refine Wp (by omega) (by omega) (by omega) ?_ | refine Wq (by omega) (by omega) ?_ | refine Wr (by decide) (by omega) (by omega) ?_ | refine Ws (by decide) ?_ | refine Wx (fun _ => ?_) ?_ | refine Wy (fun _ => ?_) ?_ | refine Wz (fun _ => ?_) | refine WA (fun _ => ?_) | refine WB (by assumption) (by omega) ?_ | refine WC (by omega) (by omega) (fun _ _ => ?_) | refine WD (by omega) (by omega) (fun _ _ => ?_) | refine WE (by omega) (by omega) (by omega) ?_ | refine WJ (fun _ => ?_) | refine WK (fun _ _ _ => ?_) | refine WL (by assumption) (by omega) ?_ | refine WM (by omega) (by omega) (fun _ _ => ?_) | refine WN (by omega) (by omega) ?_ | refine WO (by omega) (by omega) ?_ | refine WP (by omega) (by omega) (by omega) ?_)
    | with_reducible refine WF ?_)
  all_goals exact h
theorem qclose_some {b1 b2 b3 b4 p q : Nat} {s : List UInt8} {tx : Bool} {o : List Int} {w1 w2 : Own} {g : List (Nat × Nat)} {e k0 e0 : Int} {RS : St → Prop} (h1 : st.box b1 = some [.ptr b4 0]) (h4 : st.box b4 = some (qC s q tx o w1 g w2)) (h2 : st.box b2 = some [.int .i64 k0]) (h3 : st.box b3 = some [.int .i64 e0])
    (d2 : b4 ≠ b2) (d3 : b4 ≠ b3) (d5 : b2 ≠ b3) (h : RS (((st.setBox b4 (qC s p tx o w1 g w2)).setBox b2 [.int .i64 0]).setBox b3 [.int .i64 e])) : DCalls Tryz.prog 104 [.ptr b1 0, .ptr b2 0, .ptr b3 0] (some (qfault p e)) st RS := by
  refine dcalls_of_body tys_ok [] Tryz.func104 rfl rfl rfl rfl rfl rfl rfl rfl (fun env0 he => ?_)
  subst he
  conv => whnf
  refine AW_seq2 (aw_of tys_ok ?_)
  repeat' ((conv => whnf); first
    | (with_reducible first | exact Wa | exact Wb | exact Wc | refine Wd (by kernel_rfl) ?_ | refine We ?_ ?_ ?_ | refine W8 (by decide +kernel) ?_ ?_ ?_ | refine W9 ?_ ?_ ?_ | refine Wt (by first | assumption | omega) ?_ | refine Wu (by first | assumption | omega) ?_ | refine Wv (by omega) ?_ | refine Ww (by omega) ?_ | refine Wf (by decide) (fun _ => ?_) (fun _ => ?_) | refine Wg (fun _ => ?_) (fun _ => ?_) | refine Wh (fun _ => ?_) (fun _ => ?_) | refine Wi ?_ | refine Wj ?_ | refine Wk (fun _ => ?_) (fun _ => ?_) | refine Wl (fun _ => ?_) | refine Wm (by assumption) (by omega) ?_ | refine Wn (by omega) (by omega) (fun _ _ _ => ?_) | refine Wo (by omega) (by omega) ?_ | refine Wp (by omega) (by omega) (by omega) ?_ | refine Wq (by omega) (by omega) ?_ | refine Wr (by decide) (by omega) (by omega) ?_ | refine Ws (by decide) ?_ | refine Wx (fun _ => ?_) ?_ | refine Wy (fun _ => ?_) ?_ | refine Wz (fun _ => ?_) | refine WA (fun _ => ?_) | refine WB (by assumption) (by omega) ?_ | refine WC (by omega) (by omega) (fun _ _ => ?_) | refine WD (by omega) (by omega) (fun _ _ => ?_) | refine WE (by omega) (by omega) (by omega) ?_ | refine WJ (fun _ => ?_) | refine WK (fun _ _ _ => ?_) | refine WL (by assumption) (by omega) ?_ | refine WM (by omega) (by omega) (fun _ _ => ?_) | refine WN (by omega) (by omega) ?_ | refine WO (by omega) (by omega) ?_ | refine WP (by omega) (by omega) (by omega) ?_)
    | with_reducible refine WF ?_)
  refine AW_seq2 (aw_of tys_ok ?_)
  repeat' ((conv => whnf); first
    | (with_reducible first | exact Wa | exact Wb | exact Wc | refine Wd (by kernel_rfl) ?_ | refine We ?_ ?_ ?_ | refine W8 (by decide +kernel) ?_ ?_ ?_ | refine W9 ?_ ?_ ?_ | refine Wt (by first | assumption | omega) ?_ | refine Wu (by first | assumption | omega) ?_ | refine Wv (by omega) ?_ | refine Ww (by omega) ?_ | refine Wf (by decide) (fun _ => ?_) (fun _ => ?_) | refine Wg (fun _ => ?_) (fun _ => ?_) | refine Wh (fun _ => ?_) (fun _ => ?_) | refine Wi ?_ | refine Wj ?_ | refine Wk (fun _ => ?_) (fun _ => ?_) | refine Wl (fun _ => ?_) | refine Wm (by assumption) (by omega) ?_ | refine Wn (by omega) (by omega) (fun _ _ _ => ?_) | refine Wo (by omega) (by omega) ?_ | refine Wp (by omega) (by omega) (by omega) ?_ | refine Wq (by omega) (by omega) ?_ | refine Wr (by decide) (by omega) (by omega) ?_ | refine Ws (by decide) ?_ | refine Wx (fun _ => ?_) ?_ | refine Wy (fun _ => ?_) ?_ | refine Wz (fun _ => ?_) | refine WA (fun _ => ?_) | refine WB (by assumption) (by omega) ?_ | refine WC (by omega) (by omega) (fun _ _ => ?_) | refine WD (by omega) (by omega) (fun _ _ => ?_) | refine WE (by omega) (by omega) (by omega) ?_ | refine WJ (fun _ => ?_) | refine WK (fun _ _ _ => ?_) | refine WL (by assumption) (by omega) ?_ | refine WM (by omega) (by omega) (fun _ _ => ?_) | refine WN (by omega) (by omega) ?_ | refine WO (by omega) (by omega) ?_ | refine WP (by omega) (by omega) (by omega) ?_)
    | with_reducible refine WF ?_)
  refine AW_seq2 (aw_of tys_ok ?_)
  repeat' ((conv => whnf); first
    | (with_reducible first | exact Wa | exact Wb | exact Wc | refine Wd (by kernel_rfl) ?_ | refine We ?_ ?_ ?_ | refine W8 (by decide +kernel) ?_ ?_ ?_ | refine W9 ?_ ?_ ?_ | refine Wt (by first | assumption | omega) ?_ | refine Wu (by first | assumption | omega) ?_ | refine Wv (by omega) ?_ | refine Ww (by omega) ?_ | refine Wf (by decide) (fun _ => ?_) (fun _ => ?_) | refine Wg (fun _ => ?_) (fun _ => ?_) | refine Wh (fun _ => ?_) (fun _ => ?_) | refine Wi ?_ | refine Wj ?_ | refine Wk (fun _ => ?_) (fun _ => ?_) | refine Wl (fun _ => ?_) | refine Wm (by assumption) (by omega) ?_ | refine Wn (by omega) (by omega) (fun _ _ _ => ?_) | refine Wo (by omega) (by omega) ?_ | refine Wp (by omega) (by omega) (by omega) ?_ | refine Wq (by omega) (by omega) ?_ | refine Wr (by decide) (by omega) (by omega) ?_ | refine Ws (by decide) ?_ | refine Wx (fun _ => ?_) ?_ | refine Wy (fun _ => ?_) ?_ | refine Wz (fun _ => ?_) | refine WA (fun _ => ?_) | refine WB (by assumption) (by omega) ?_ | refine WC (by omega) (by omega) (fun _ _ => ?_) | refine WD (by omega) (by omega) (fun _ _ => ?_) | refine WE (by omega) (by omega) (by omega) ?_ | refine WJ (fun _ => ?_) | refine WK (fun _ _ _ => ?_) | refine WL (by assumption) (by omega) ?_ | refine WM (by omega) (by omega) (fun _ _ => ?_) | refine WN (by omega) (by omega) ?_ | refine WO (by omega) (by omega) ?_ | refine WP (by omega) (by omega) (by omega) ?_)
    | with_reducible refine WF ?_)
  have k2 : ∀ cs, (st.setBox b4 cs).box b2 = some [.int .i64 k0] := fun cs => (box_off d2).trans h2
  have k3 : ∀ cs cs', ((st.setBox b4 cs).setBox b2 cs').box b3 = some [.int .i64 e0] := fun cs cs' => (box_off d5).trans ((box_off d3).trans h3)
  refine aw_of tys_ok ?_
  repeat' ((conv => whnf); first
    | refine draw_mix [(0, true), (1, true), (2, true), (3, true), (4, true), (5, true), (6, true), (7, false), (8, false), (9, false)] [] (by decide +kernel) ?_
    | (with_reducible first | exact Wa | exact Wb | exact Wc | refine Wd (by kernel_rfl) ?_ | refine We ?_ ?_ ?_ | refine W8 (by decide +kernel) ?_ ?_ ?_ | refine W9 ?_ ?_ ?_ | refine Wt (by first | assumption | omega) ?_ | refine Wu (by first | assumption | omega) ?_ | refine Wv (by omega) ?_ | refine Ww (by omega) ?_ | refine Wf (by decide) (fun _ => ?_) (fun _ => ?_) | refine Wg (fun _ => ?_) (fun _ => ?_) | refine Wh (fun _ => ?_) (fun _ => ?_) | refine Wi ?_ | refine Wj ?_ | refine Wk (fun _ => ?_) (fun _ => ?_) | refine Wl (fun _ => ?_) | refine Wm (by assumption) (by omega) ?_ | refine Wn (by omega) (by omega) (fun _ _ _ => ?_) | refine Wo (by omega) (by omega) ?_ | refine Wp (by omega) (by omega) (by omega) ?_ | refine Wq (by omega) (by omega) ?_ | refine Wr (by decide) (by omega) (by omega) ?_ | refine Ws (by decide) ?_ | refine Wx (fun _ => ?_) ?_ | refine Wy (fun _ => ?_) ?_ | refine Wz (fun _ => ?_) | refine WA (fun _ => ?_) | refine WB (by assumption) (by omega) ?_ | refine WC (by omega) (by omega) (fun _ _ => ?_) | refine WD (by omega) (by omega) (fun _ _ => ?_) | refine WE (by omega) (by omega) (by omega) ?_ | refine WJ (fun _ => ?_) | refine WK (fun _ _ _ => ?_) | refine WL (by assumption) (by omega) ?_ | refine WM (by omega) (by omega) (fun _ _ => ?_) | refine WN (by omega) (by omega) ?_ | refine WO (by omega) (by omega) ?_ | refine WP (by omega) (by omega) (by omega) ?_)
    | refine on_box h1 ?_
    | refine on_box h4 ?_
    | refine on_box (k2 _) ?_
    | refine on_box (k3 _ _) ?_
    | with_reducible refine WF ?_)
  all_goals exact h
theorem lit_c {st0 : St} {b p : Nat} {s : List UInt8} {tx : Bool} {w1 w2 : Own} (hl : s.length ≤ 100000000) (hq : hdF (s.drop p) = 34 ∨ hdF (s.drop p) = 39) (hb0 : st0.box b = none) (hb : st.box b = some (qC s p tx [] w1 [] w2)) (hr : Rows2 st0 st w1 0 w2 0)
    (h0 : ∀ (q : Nat) e tx', quoF s p = (0, (q : Int), e) → ∀ st', QB st0 st' b s tx' → R (.pan (qfault q e)) st')
    (h : ∀ k (q : Nat), quoF s p = (k, (q : Int), 0) → ∀ tx' o u1 g u2 st', Rows2 st0 st' u1 (List.length o) u2 (2 * List.length g) → st'.box b = some (qC s q tx' o u1 g u2) → R (.ret (.int .i64 k)) st') : PC 105 [.ptr b 0] st R := by
  rcases hq with hq | hq
  · refine literal_t hl hq hb0 hb hr (fun k e hT st' hQ => h0 _ e true ?_ st' hQ) (fun n hT u1 u2 st' hR hB => h 14 _ ?_ _ _ _ _ _ st' hR hB)
    · unfold quoF; rw [if_pos hq, hT]
    · unfold quoF; rw [if_pos hq, hT]
  · refine literal_h hl hq hb0 hb hr (fun k e hT st' hQ => h0 _ e false ?_ st' hQ) (fun n hT o' u1 u2 st' hR hB => h 13 _ ?_ _ _ _ _ _ st' hR hB)
    · unfold quoF; rw [if_neg (by omega), if_pos hq, hT]
    · unfold quoF; rw [if_neg (by omega), if_pos hq, hT]
noncomputable def readOps : List Oper := match Tryz.f88.body with | some (.seq _ (.seq _ (.seq _ (.seq _ (.seq (.region _ ops _) _))))) => ops.toList | _ => []
noncomputable def readE (b1 b2 b3 b4 : Nat) (K : Int) (bs : List Bool) : Env :=
  { tmps := putT [(4, .ptr b1 0), (5, .ptr b2 0), (6, .ptr b3 0)] readOps [.ptr b4 0, .ptr b4 0, .int .i64 K, .junk, .junk, .junk] bs, boxes := [], nxt := 1, sz := 39, gl := [4, 5, 6, 10] }
def readS (b1 b2 b3 b4 : Nat) (K : Int) (m : St) (bs : List Bool) : St :=
  match bs[3]?, bs[4]?, bs[5]? with
  | _, _, some true => ((m.setBox b1 [.ptr b4 0]).setBox b2 [.int .i64 K]).setBox b3 [.int .i64 0]
  | _, some true, _ => (m.setBox b1 [.ptr b4 0]).setBox b2 [.int .i64 K]
  | some true, _, _ => m.setBox b1 [.ptr b4 0]
  | _, _, _ => m
def readJ (s0 A : St) (b4 : Nat) (s : List UInt8) (Q E0 : Int) (x : LS × Bool) (bs : List Bool) : Prop := match bs[2]? with
  | some true => Rows2 s0 x.1.m x.1.w1 x.1.o.length x.1.w2 (2 * x.1.g.length) ∧ x.1.m.box b4 = some (qC s x.1.q x.2 x.1.o x.1.w1 x.1.g x.1.w2) ∧ (x.1.q : Int) = Q ∧ E0 = 0
  | _ => x.1.m = A
def readPL : List (List Bool × Nat) := [([false, false, false, false, false, false], 0), ([false, false, false, false, false, false], 1), ([true, false, false, false, false, false], 1), ([false, true, false, false, false, false], 0), ([false, true, false, false, false, false], 2), ([true, true, false, false, false, false], 2), ([false, true, true, false, false, false], 0), ([true, true, true, false, false, false], 3), ([true, true, true, true, false, false], 4), ([true, true, true, true, true, false], 5)]
noncomputable def readRest : Code := match Tryz.f88.body with | some (.seq _ (.seq _ (.seq _ (.seq _ r)))) => r | _ => .skip
set_option maxHeartbeats 4000000 in
theorem read_rest {s0 : St} {s : List UInt8} {pos b1 b2 b3 b4 : Nat} (hl : s.length ≤ 100000000) (hq : hdF (s.drop pos) = 34 ∨ hdF (s.drop pos) = 39) (hs0 : s0.box b4 = none) (hsl : st.le s0) (n12 : b1 ≠ b2) (n13 : b1 ≠ b3) (n14 : b1 ≠ b4) (n23 : b2 ≠ b3) (n24 : b2 ≠ b4) (n34 : b3 ≠ b4) (k1 : st.box b1 = none) (k2 : st.box b2 = none) (k3 : st.box b3 = none) (k4 : st.box b4 = none)
    (m1 : s0.box b1 = some [.ptr b4 0]) (m2 : s0.box b2 = some [.int .i64 0]) (m3 : s0.box b3 = some [.int .i64 0])
    (h : ∀ b4 (q : Nat) tx o w1 g w2 st', st.le st' → st'.box b4 = some (qC s q tx o w1 g w2) → (q : Int) = (quoF s pos).2.1 → R (.ret (.tup [.ptr b4 0, .int .i64 (quoF s pos).1, .int .i64 (quoF s pos).2.2])) st') :
    AW Tryz.prog readRest (leaveQ Tryz.prog tys 104 [.ptr b1 0, .ptr b2 0, .ptr b3 0] Tryz.f88 (Go.Aw.Ends R)) (readE b1 b2 b3 b4 (quoF s pos).1 (List.replicate 6 false)) (s0.setBox b4 (qC s pos false [] .full [] .full)) := by
  have a1 : ∀ C, (s0.setBox b4 C).box b1 = some [.ptr b4 0] := fun C => (box_off n14.symm).trans m1
  have hr0 : Rows2 s0 (s0.setBox b4 (qC s pos false [] .full [] .full)) .full 0 .full 0 := ⟨trivial, trivial, trivial, trivial, trivial, St.le_setBox (St.le_refl _) hs0 _⟩
  refine AW_seq2 (aw_anyX tys_ok (pcalls_sound _) (fun _ bs => readE b1 b2 b3 b4 (quoF s pos).1 bs) (fun x bs => readS b1 b2 b3 b4 (quoF s pos).1 x.1.m bs) (fun x bs => readJ s0 (s0.setBox b4 (qC s pos false [] .full [] .full)) b4 s (quoF s pos).2.1 (quoF s pos).2.2 x bs) (⟨pos, [], [], .full, .full, s0.setBox b4 (qC s pos false [] .full [] .full)⟩, false) readPL (by decide +kernel) rfl (by refine ⟨rfl, ?_, ?_, rfl⟩ <;> repeat' (first | exact trivial | exact rfl | refine And.intro ?_ ?_)) (St.le_refl _) ?_ ?_)
  · unfold readPL
    repeat' (first | refine List.forall_mem_cons.2 ⟨?_, ?_⟩ | exact List.forall_mem_nil _)
    all_goals rintro ⟨⟨q, o, g, w1, w2, m⟩, tx⟩ hj
    all_goals dsimp only [readJ, List.getElem?_cons_zero, List.getElem?_cons_succ] at hj
    all_goals try subst hj
    · skip
      repeat' ((conv => whnf); first
        | (with_reducible first | exact Wa | exact Wb | exact Wc | refine Wd (by kernel_rfl) ?_ | refine We ?_ ?_ ?_ | refine W8 (by decide +kernel) ?_ ?_ ?_ | refine W9 ?_ ?_ ?_ | refine Wt (by first | assumption | omega) ?_ | refine Wu (by first | assumption | omega) ?_ | refine Wv (by omega) ?_ | refine Ww (by omega) ?_ | refine Wf (by decide) (fun _ => ?_) (fun _ => ?_) | refine Wg (fun _ => ?_) (fun _ => ?_) | refine Wh (fun _ => ?_) (fun _ => ?_) | refine Wi ?_ | refine Wj ?_ | refine Wk (fun _ => ?_) (fun _ => ?_) | refine Wl (fun _ => ?_) | refine Wm (by assumption) (by omega) ?_ | refine Wn (by omega) (by omega) (fun _ _ _ => ?_) | refine Wo (by omega) (by omega) ?_ | refine Wp (by omega) (by omega) (by omega) ?_ | refine Wq (by omega) (by omega) ?_ | refine Wr (by decide) (by omega) (by omega) ?_ | refine Ws (by decide) ?_ | refine Wx (fun _ => ?_) ?_ | refine Wy (fun _ => ?_) ?_ | refine Wz (fun _ => ?_) | refine WA (fun _ => ?_) | refine WB (by assumption) (by omega) ?_ | refine WC (by omega) (by omega) (fun _ _ => ?_) | refine WD (by omega) (by omega) (fun _ _ => ?_) | refine WE (by omega) (by omega) (by omega) ?_ | refine WJ (fun _ => ?_) | refine WK (fun _ _ _ => ?_) | refine WL (by assumption) (by omega) ?_ | refine WM (by omega) (by omega) (fun _ _ => ?_) | refine WN (by omega) (by omega) ?_ | refine WO (by omega) (by omega) ?_ | refine WP (by omega) (by omega) (by omega) ?_)
        | refine on_box (a1 _) ?_
        | with_reducible refine WF ?_)
      all_goals conv => whnf
      all_goals exact ⟨(⟨q, o, g, w1, w2, _⟩, tx), rfl, (by refine ⟨rfl, ?_, ?_, rfl⟩ <;> repeat' (first | exact trivial | exact rfl | refine And.intro ?_ ?_)), St.le_refl _⟩
    · skip
      repeat' ((conv => whnf); first
        | (with_reducible first | exact Wa | exact Wb | exact Wc | refine Wd (by kernel_rfl) ?_ | refine We ?_ ?_ ?_ | refine W8 (by decide +kernel) ?_ ?_ ?_ | refine W9 ?_ ?_ ?_ | refine Wt (by first | assumption | omega) ?_ | refine Wu (by first | assumption | omega) ?_ | refine Wv (by omega) ?_ | refine Ww (by omega) ?_ | refine Wf (by decide) (fun _ => ?_) (fun _ => ?_) | refine Wg (fun _ => ?_) (fun _ => ?_) | refine Wh (fun _ => ?_) (fun _ => ?_) | refine Wi ?_ | refine Wj ?_ | refine Wk (fun _ => ?_) (fun _ => ?_) | refine Wl (fun _ => ?_) | refine Wm (by assumption) (by omega) ?_ | refine Wn (by omega) (by omega) (fun _ _ _ => ?_) | refine Wo (by omega) (by omega) ?_ | refine Wp (by omega) (by omega) (by omega) ?_ | refine Wq (by omega) (by omega) ?_ | refine Wr (by decide) (by omega) (by omega) ?_ | refine Ws (by decide) ?_ | refine Wx (fun _ => ?_) ?_ | refine Wy (fun _ => ?_) ?_ | refine Wz (fun _ => ?_) | refine WA (fun _ => ?_) | refine WB (by assumption) (by omega) ?_ | refine WC (by omega) (by omega) (fun _ _ => ?_) | refine WD (by omega) (by omega) (fun _ _ => ?_) | refine WE (by omega) (by omega) (by omega) ?_ | refine WJ (fun _ => ?_) | refine WK (fun _ _ _ => ?_) | refine WL (by assumption) (by omega) ?_ | refine WM (by omega) (by omega) (fun _ _ => ?_) | refine WN (by omega) (by omega) ?_ | refine WO (by omega) (by omega) ?_ | refine WP (by omega) (by omega) (by omega) ?_)
        | refine on_box (a1 _) ?_
        | with_reducible refine WF ?_)
      all_goals conv => whnf
      all_goals exact ⟨(⟨q, o, g, w1, w2, _⟩, tx), rfl, (by refine ⟨rfl, ?_, ?_, rfl⟩ <;> repeat' (first | exact trivial | exact rfl | refine And.intro ?_ ?_)), St.le_refl _⟩
    · skip
      repeat' ((conv => whnf); first
        | (with_reducible first | exact Wa | exact Wb | exact Wc | refine Wd (by kernel_rfl) ?_ | refine We ?_ ?_ ?_ | refine W8 (by decide +kernel) ?_ ?_ ?_ | refine W9 ?_ ?_ ?_ | refine Wt (by first | assumption | omega) ?_ | refine Wu (by first | assumption | omega) ?_ | refine Wv (by omega) ?_ | refine Ww (by omega) ?_ | refine Wf (by decide) (fun _ => ?_) (fun _ => ?_) | refine Wg (fun _ => ?_) (fun _ => ?_) | refine Wh (fun _ => ?_) (fun _ => ?_) | refine Wi ?_ | refine Wj ?_ | refine Wk (fun _ => ?_) (fun _ => ?_) | refine Wl (fun _ => ?_) | refine Wm (by assumption) (by omega) ?_ | refine Wn (by omega) (by omega) (fun _ _ _ => ?_) | refine Wo (by omega) (by omega) ?_ | refine Wp (by omega) (by omega) (by omega) ?_ | refine Wq (by omega) (by omega) ?_ | refine Wr (by decide) (by omega) (by omega) ?_ | refine Ws (by decide) ?_ | refine Wx (fun _ => ?_) ?_ | refine Wy (fun _ => ?_) ?_ | refine Wz (fun _ => ?_) | refine WA (fun _ => ?_) | refine WB (by assumption) (by omega) ?_ | refine WC (by omega) (by omega) (fun _ _ => ?_) | refine WD (by omega) (by omega) (fun _ _ => ?_) | refine WE (by omega) (by omega) (by omega) ?_ | refine WJ (fun _ => ?_) | refine WK (fun _ _ _ => ?_) | refine WL (by assumption) (by omega) ?_ | refine WM (by omega) (by omega) (fun _ _ => ?_) | refine WN (by omega) (by omega) ?_ | refine WO (by omega) (by omega) ?_ | refine WP (by omega) (by omega) (by omega) ?_)
        | refine on_box (a1 _) ?_
        | with_reducible refine WF ?_)
      all_goals conv => whnf
      all_goals exact ⟨(⟨q, o, g, w1, w2, _⟩, tx), rfl, (by refine ⟨rfl, ?_, ?_, rfl⟩ <;> repeat' (first | exact trivial | exact rfl | refine And.intro ?_ ?_)), St.le_refl _⟩
    · skip
      repeat' ((conv => whnf); first
        | (with_reducible first | exact Wa | exact Wb | exact Wc | refine Wd (by kernel_rfl) ?_ | refine We ?_ ?_ ?_ | refine W8 (by decide +kernel) ?_ ?_ ?_ | refine W9 ?_ ?_ ?_ | refine Wt (by first | assumption | omega) ?_ | refine Wu (by first | assumption | omega) ?_ | refine Wv (by omega) ?_ | refine Ww (by omega) ?_ | refine Wf (by decide) (fun _ => ?_) (fun _ => ?_) | refine Wg (fun _ => ?_) (fun _ => ?_) | refine Wh (fun _ => ?_) (fun _ => ?_) | refine Wi ?_ | refine Wj ?_ | refine Wk (fun _ => ?_) (fun _ => ?_) | refine Wl (fun _ => ?_) | refine Wm (by assumption) (by omega) ?_ | refine Wn (by omega) (by omega) (fun _ _ _ => ?_) | refine Wo (by omega) (by omega) ?_ | refine Wp (by omega) (by omega) (by omega) ?_ | refine Wq (by omega) (by omega) ?_ | refine Wr (by decide) (by omega) (by omega) ?_ | refine Ws (by decide) ?_ | refine Wx (fun _ => ?_) ?_ | refine Wy (fun _ => ?_) ?_ | refine Wz (fun _ => ?_) | refine WA (fun _ => ?_) | refine WB (by assumption) (by omega) ?_ | refine WC (by omega) (by omega) (fun _ _ => ?_) | refine WD (by omega) (by omega) (fun _ _ => ?_) | refine WE (by omega) (by omega) (by omega) ?_ | refine WJ (fun _ => ?_) | refine WK (fun _ _ _ => ?_) | refine WL (by assumption) (by omega) ?_ | refine WM (by omega) (by omega) (fun _ _ => ?_) | refine WN (by omega) (by omega) ?_ | refine WO (by omega) (by omega) ?_ | refine WP (by omega) (by omega) (by omega) ?_)
        | refine on_box (a1 _) ?_
        | with_reducible refine WF ?_)
      all_goals conv => whnf
      all_goals exact ⟨(⟨q, o, g, w1, w2, _⟩, tx), rfl, (by refine ⟨rfl, ?_, ?_, rfl⟩ <;> repeat' (first | exact trivial | exact rfl | refine And.intro ?_ ?_)), St.le_refl _⟩
    · skip
      repeat' ((conv => whnf); first
        | (with_reducible first | exact Wa | exact Wb | exact Wc | refine Wd (by kernel_rfl) ?_ | refine We ?_ ?_ ?_ | refine W8 (by decide +kernel) ?_ ?_ ?_ | refine W9 ?_ ?_ ?_ | refine Wt (by first | assumption | omega) ?_ | refine Wu (by first | assumption | omega) ?_ | refine Wv (by omega) ?_ | refine Ww (by omega) ?_ | refine Wf (by decide) (fun _ => ?_) (fun _ => ?_) | refine Wg (fun _ => ?_) (fun _ => ?_) | refine Wh (fun _ => ?_) (fun _ => ?_) | refine Wi ?_ | refine Wj ?_ | refine Wk (fun _ => ?_) (fun _ => ?_) | refine Wl (fun _ => ?_) | refine Wm (by assumption) (by omega) ?_ | refine Wn (by omega) (by omega) (fun _ _ _ => ?_) | refine Wo (by omega) (by omega) ?_ | refine Wp (by omega) (by omega) (by omega) ?_ | refine Wq (by omega) (by omega) ?_ | refine Wr (by decide) (by omega) (by omega) ?_ | refine Ws (by decide) ?_ | refine Wx (fun _ => ?_) ?_ | refine Wy (fun _ => ?_) ?_ | refine Wz (fun _ => ?_) | refine WA (fun _ => ?_) | refine WB (by assumption) (by omega) ?_ | refine WC (by omega) (by omega) (fun _ _ => ?_) | refine WD (by omega) (by omega) (fun _ _ => ?_) | refine WE (by omega) (by omega) (by omega) ?_ | refine WJ (fun _ => ?_) | refine WK (fun _ _ _ => ?_) | refine WL (by assumption) (by omega) ?_ | refine WM (by omega) (by omega) (fun _ _ => ?_) | refine WN (by omega) (by omega) ?_ | refine WO (by omega) (by omega) ?_ | refine WP (by omega) (by omega) (by omega) ?_)
        | refine lit_c hl hq hs0 (St.box_at ..) hr0 (fun q' e' tx' hz st' hQ => ?_) (fun k q' hz tx' o' u1 g' u2 st' hR hB => ?_)
        | refine on_box (a1 _) ?_
        | with_reducible refine WF ?_)
      · obtain ⟨q1, o1, u1, g1, u2, hB, hR⟩ := hQ
        conv => whnf
        refine qclose_some (hR.le.1 _ _ m1) hB (hR.le.1 _ _ m2) (hR.le.1 _ _ m3) n24.symm n34.symm n23 ?_
        have c1 : (((st'.setBox b4 (qC s q' tx' o1 u1 g1 u2)).setBox b2 [.int .i64 0]).setBox b3 [.int .i64 e']).box b1 = some [.ptr b4 0] := (box_off n13.symm).trans ((box_off n12.symm).trans ((box_off n14.symm).trans (hR.le.1 _ _ m1)))
        have c2 : (((st'.setBox b4 (qC s q' tx' o1 u1 g1 u2)).setBox b2 [.int .i64 0]).setBox b3 [.int .i64 e']).box b2 = some [.int .i64 0] := (box_off n23.symm).trans (St.box_at _ _ _)
        have c3 : (((st'.setBox b4 (qC s q' tx' o1 u1 g1 u2)).setBox b2 [.int .i64 0]).setBox b3 [.int .i64 e']).box b3 = some [.int .i64 e'] := St.box_at _ _ _
        have c4 : (((st'.setBox b4 (qC s q' tx' o1 u1 g1 u2)).setBox b2 [.int .i64 0]).setBox b3 [.int .i64 e']).box b4 = some (qC s q' tx' o1 u1 g1 u2) := (box_off n34).trans ((box_off n24).trans (St.box_at _ _ _))
        have c5 : (quoF s pos).1 = 0 := by rw [hz]
        have c6 : (quoF s pos).2.1 = q' := by rw [hz]
        have c7 : (quoF s pos).2.2 = e' := by rw [hz]
        have gg := fun le => h b4 q' tx' o1 u1 g1 u2 _ le c4 c6.symm
        rw [c5, c7] at gg
        clear h hz c4 c5 c6 c7
        repeat' ((conv => whnf); first
          | (with_reducible first | exact Wa | exact Wb | exact Wc | refine Wd (by kernel_rfl) ?_ | refine We ?_ ?_ ?_ | refine W8 (by decide +kernel) ?_ ?_ ?_ | refine W9 ?_ ?_ ?_ | refine Wt (by first | assumption | omega) ?_ | refine Wu (by first | assumption | omega) ?_ | refine Wv (by omega) ?_ | refine Ww (by omega) ?_ | refine Wf (by decide) (fun _ => ?_) (fun _ => ?_) | refine Wg (fun _ => ?_) (fun _ => ?_) | refine Wh (fun _ => ?_) (fun _ => ?_) | refine Wi ?_ | refine Wj ?_ | refine Wk (fun _ => ?_) (fun _ => ?_) | refine Wl (fun _ => ?_) | refine Wm (by assumption) (by omega) ?_ | refine Wn (by omega) (by omega) (fun _ _ _ => ?_) | refine Wo (by omega) (by omega) ?_ | refine Wp (by omega) (by omega) (by omega) ?_ | refine Wq (by omega) (by omega) ?_ | refine Wr (by decide) (by omega) (by omega) ?_ | refine Ws (by decide) ?_ | refine Wx (fun _ => ?_) ?_ | refine Wy (fun _ => ?_) ?_ | refine Wz (fun _ => ?_) | refine WA (fun _ => ?_) | refine WB (by assumption) (by omega) ?_ | refine WC (by omega) (by omega) (fun _ _ => ?_) | refine WD (by omega) (by omega) (fun _ _ => ?_) | refine WE (by omega) (by omega) (by omega) ?_ | refine WJ (fun _ => ?_) | refine WK (fun _ _ _ => ?_) | refine WL (by assumption) (by omega) ?_ | refine WM (by omega) (by omega) (fun _ _ => ?_) | refine WN (by omega) (by omega) ?_ | refine WO (by omega) (by omega) ?_ | refine WP (by omega) (by omega) (by omega) ?_)
          | refine on_box c1 ?_
          | refine on_box c2 ?_
          | refine on_box c3 ?_
          | with_reducible refine WF ?_)
        exact fin (gg (St.le_setBox (St.le_setBox (St.le_setBox (St.le_trans hsl hR.le) k4 _) k2 _) k3 _)) rfl
      · have hz1 : (quoF s pos).1 = k := by rw [hz]
        have hz2 : (quoF s pos).2.1 = q' := by rw [hz]
        have hz3 : (quoF s pos).2.2 = 0 := by rw [hz]
        conv => whnf
        rw [hz1, hz2]
        exact ⟨(⟨q', o', g', u1, u2, st'⟩, tx'), ⟨hR, hB, rfl, hz3⟩, (by refine ⟨rfl, ?_, ?_, rfl⟩ <;> repeat' (first | exact trivial | exact rfl | refine And.intro ?_ ?_)), St.le_refl _⟩
    · skip
      repeat' ((conv => whnf); first
        | (with_reducible first | exact Wa | exact Wb | exact Wc | refine Wd (by kernel_rfl) ?_ | refine We ?_ ?_ ?_ | refine W8 (by decide +kernel) ?_ ?_ ?_ | refine W9 ?_ ?_ ?_ | refine Wt (by first | assumption | omega) ?_ | refine Wu (by first | assumption | omega) ?_ | refine Wv (by omega) ?_ | refine Ww (by omega) ?_ | refine Wf (by decide) (fun _ => ?_) (fun _ => ?_) | refine Wg (fun _ => ?_) (fun _ => ?_) | refine Wh (fun _ => ?_) (fun _ => ?_) | refine Wi ?_ | refine Wj ?_ | refine Wk (fun _ => ?_) (fun _ => ?_) | refine Wl (fun _ => ?_) | refine Wm (by assumption) (by omega) ?_ | refine Wn (by omega) (by omega) (fun _ _ _ => ?_) | refine Wo (by omega) (by omega) ?_ | refine Wp (by omega) (by omega) (by omega) ?_ | refine Wq (by omega) (by omega) ?_ | refine Wr (by decide) (by omega) (by omega) ?_ | refine Ws (by decide) ?_ | refine Wx (fun _ => ?_) ?_ | refine Wy (fun _ => ?_) ?_ | refine Wz (fun _ => ?_) | refine WA (fun _ => ?_) | refine WB (by assumption) (by omega) ?_ | refine WC (by omega) (by omega) (fun _ _ => ?_) | refine WD (by omega) (by omega) (fun _ _ => ?_) | refine WE (by omega) (by omega) (by omega) ?_ | refine WJ (fun _ => ?_) | refine WK (fun _ _ _ => ?_) | refine WL (by assumption) (by omega) ?_ | refine WM (by omega) (by omega) (fun _ _ => ?_) | refine WN (by omega) (by omega) ?_ | refine WO (by omega) (by omega) ?_ | refine WP (by omega) (by omega) (by omega) ?_)
        | refine lit_c hl hq hs0 (St.box_at ..) hr0 (fun q' e' tx' hz st' hQ => ?_) (fun k q' hz tx' o' u1 g' u2 st' hR hB => ?_)
        | refine on_box (a1 _) ?_
        | with_reducible refine WF ?_)
      · obtain ⟨q1, o1, u1, g1, u2, hB, hR⟩ := hQ
        conv => whnf
        refine qclose_some (hR.le.1 _ _ m1) hB (hR.le.1 _ _ m2) (hR.le.1 _ _ m3) n24.symm n34.symm n23 ?_
        have c1 : (((st'.setBox b4 (qC s q' tx' o1 u1 g1 u2)).setBox b2 [.int .i64 0]).setBox b3 [.int .i64 e']).box b1 = some [.ptr b4 0] := (box_off n13.symm).trans ((box_off n12.symm).trans ((box_off n14.symm).trans (hR.le.1 _ _ m1)))
        have c2 : (((st'.setBox b4 (qC s q' tx' o1 u1 g1 u2)).setBox b2 [.int .i64 0]).setBox b3 [.int .i64 e']).box b2 = some [.int .i64 0] := (box_off n23.symm).trans (St.box_at _ _ _)
        have c3 : (((st'.setBox b4 (qC s q' tx' o1 u1 g1 u2)).setBox b2 [.int .i64 0]).setBox b3 [.int .i64 e']).box b3 = some [.int .i64 e'] := St.box_at _ _ _
        have c4 : (((st'.setBox b4 (qC s q' tx' o1 u1 g1 u2)).setBox b2 [.int .i64 0]).setBox b3 [.int .i64 e']).box b4 = some (qC s q' tx' o1 u1 g1 u2) := (box_off n34).trans ((box_off n24).trans (St.box_at _ _ _))
        have c5 : (quoF s pos).1 = 0 := by rw [hz]
        have c6 : (quoF s pos).2.1 = q' := by rw [hz]
        have c7 : (quoF s pos).2.2 = e' := by rw [hz]
        have gg := fun le => h b4 q' tx' o1 u1 g1 u2 _ le c4 c6.symm
        rw [c5, c7] at gg
        clear h hz c4 c5 c6 c7
        repeat' ((conv => whnf); first
          | (with_reducible first | exact Wa | exact Wb | exact Wc | refine Wd (by kernel_rfl) ?_ | refine We ?_ ?_ ?_ | refine W8 (by decide +kernel) ?_ ?_ ?_ | refine W9 ?_ ?_ ?_ | refine Wt (by first | assumption | omega) ?_ | refine Wu (by first | assumption | omega) ?_ | refine Wv (by omega) ?_ | refine Ww (by omega) ?_ | refine Wf (by decide) (fun _ => ?_) (fun _ => ?_) | refine Wg (fun _ => ?_) (fun _ => ?_) | refine Wh (fun _ => ?_) (fun _ => ?_) | refine Wi ?_ | refine Wj ?_ | refine Wk (fun _ => ?_) (fun _ => ?_) | refine Wl (fun _ => ?_) | refine Wm (by assumption) (by omega) ?_ | refine Wn (by omega) (by omega) (fun _ _ _ => ?_) | refine Wo (by omega) (by omega) ?_ | refine Wp (by omega) (by omega) (by omega) ?_ | refine Wq (by omega) (by omega) ?_ | refine Wr (by decide) (by omega) (by omega) ?_ | refine Ws (by decide) ?_ | refine Wx (fun _ => ?_) ?_ | refine Wy (fun _ => ?_) ?_ | refine Wz (fun _ => ?_) | refine WA (fun _ => ?_) | refine WB (by assumption) (by omega) ?_ | refine WC (by omega) (by omega) (fun _ _ => ?_) | refine WD (by omega) (by omega) (fun _ _ => ?_) | refine WE (by omega) (by omega) (by omega) ?_ | refine WJ (fun _ => ?_) | refine WK (fun _ _ _ => ?_) | refine WL (by assumption) (by omega) ?_ | refine WM (by omega) (by omega) (fun _ _ => ?_) | refine WN (by omega) (by omega) ?_ | refine WO (by omega) (by omega) ?_ | refine WP (by omega) (by omega) (by omega) ?_)
          | refine on_box c1 ?_
          | refine on_box c2 ?_
          | refine on_box c3 ?_
          | with_reducible refine WF ?_)
        exact fin (gg (St.le_setBox (St.le_setBox (St.le_setBox (St.le_trans hsl hR.le) k4 _) k2 _) k3 _)) rfl
      · have hz1 : (quoF s pos).1 = k := by rw [hz]
        have hz2 : (quoF s pos).2.1 = q' := by rw [hz]
        have hz3 : (quoF s pos).2.2 = 0 := by rw [hz]
        conv => whnf
        rw [hz1, hz2]
        exact ⟨(⟨q', o', g', u1, u2, st'⟩, tx'), ⟨hR, hB, rfl, hz3⟩, (by refine ⟨rfl, ?_, ?_, rfl⟩ <;> repeat' (first | exact trivial | exact rfl | refine And.intro ?_ ?_)), St.le_refl _⟩
    · have b1' : m.box b1 = some [.ptr b4 0] := hj.1.le.1 _ _ m1
      repeat' ((conv => whnf); first
        | (with_reducible first | exact Wa | exact Wb | exact Wc | refine Wd (by kernel_rfl) ?_ | refine We ?_ ?_ ?_ | refine W8 (by decide +kernel) ?_ ?_ ?_ | refine W9 ?_ ?_ ?_ | refine Wt (by first | assumption | omega) ?_ | refine Wu (by first | assumption | omega) ?_ | refine Wv (by omega) ?_ | refine Ww (by omega) ?_ | refine Wf (by decide) (fun _ => ?_) (fun _ => ?_) | refine Wg (fun _ => ?_) (fun _ => ?_) | refine Wh (fun _ => ?_) (fun _ => ?_) | refine Wi ?_ | refine Wj ?_ | refine Wk (fun _ => ?_) (fun _ => ?_) | refine Wl (fun _ => ?_) | refine Wm (by assumption) (by omega) ?_ | refine Wn (by omega) (by omega) (fun _ _ _ => ?_) | refine Wo (by omega) (by omega) ?_ | refine Wp (by omega) (by omega) (by omega) ?_ | refine Wq (by omega) (by omega) ?_ | refine Wr (by decide) (by omega) (by omega) ?_ | refine Ws (by decide) ?_ | refine Wx (fun _ => ?_) ?_ | refine Wy (fun _ => ?_) ?_ | refine Wz (fun _ => ?_) | refine WA (fun _ => ?_) | refine WB (by assumption) (by omega) ?_ | refine WC (by omega) (by omega) (fun _ _ => ?_) | refine WD (by omega) (by omega) (fun _ _ => ?_) | refine WE (by omega) (by omega) (by omega) ?_ | refine WJ (fun _ => ?_) | refine WK (fun _ _ _ => ?_) | refine WL (by assumption) (by omega) ?_ | refine WM (by omega) (by omega) (fun _ _ => ?_) | refine WN (by omega) (by omega) ?_ | refine WO (by omega) (by omega) ?_ | refine WP (by omega) (by omega) (by omega) ?_)
        | refine on_box b1' ?_
        | with_reducible refine WF ?_)
      all_goals conv => whnf
      all_goals exact ⟨(⟨q, o, g, w1, w2, m⟩, tx), hj, (by refine ⟨rfl, ?_, ?_, rfl⟩ <;> repeat' (first | exact trivial | exact rfl | refine And.intro ?_ ?_)), St.le_refl _⟩
    · have b1' : m.box b1 = some [.ptr b4 0] := hj.1.le.1 _ _ m1
      repeat' ((conv => whnf); first
        | (with_reducible first | exact Wa | exact Wb | exact Wc | refine Wd (by kernel_rfl) ?_ | refine We ?_ ?_ ?_ | refine W8 (by decide +kernel) ?_ ?_ ?_ | refine W9 ?_ ?_ ?_ | refine Wt (by first | assumption | omega) ?_ | refine Wu (by first | assumption | omega) ?_ | refine Wv (by omega) ?_ | refine Ww (by omega) ?_ | refine Wf (by decide) (fun _ => ?_) (fun _ => ?_) | refine Wg (fun _ => ?_) (fun _ => ?_) | refine Wh (fun _ => ?_) (fun _ => ?_) | refine Wi ?_ | refine Wj ?_ | refine Wk (fun _ => ?_) (fun _ => ?_) | refine Wl (fun _ => ?_) | refine Wm (by assumption) (by omega) ?_ | refine Wn (by omega) (by omega) (fun _ _ _ => ?_) | refine Wo (by omega) (by omega) ?_ | refine Wp (by omega) (by omega) (by omega) ?_ | refine Wq (by omega) (by omega) ?_ | refine Wr (by decide) (by omega) (by omega) ?_ | refine Ws (by decide) ?_ | refine Wx (fun _ => ?_) ?_ | refine Wy (fun _ => ?_) ?_ | refine Wz (fun _ => ?_) | refine WA (fun _ => ?_) | refine WB (by assumption) (by omega) ?_ | refine WC (by omega) (by omega) (fun _ _ => ?_) | refine WD (by omega) (by omega) (fun _ _ => ?_) | refine WE (by omega) (by omega) (by omega) ?_ | refine WJ (fun _ => ?_) | refine WK (fun _ _ _ => ?_) | refine WL (by assumption) (by omega) ?_ | refine WM (by omega) (by omega) (fun _ _ => ?_) | refine WN (by omega) (by omega) ?_ | refine WO (by omega) (by omega) ?_ | refine WP (by omega) (by omega) (by omega) ?_)
        | refine on_box b1' ?_
        | with_reducible refine WF ?_)
      all_goals conv => whnf
      all_goals exact ⟨(⟨q, o, g, w1, w2, m⟩, tx), hj, (by refine ⟨rfl, ?_, ?_, rfl⟩ <;> repeat' (first | exact trivial | exact rfl | refine And.intro ?_ ?_)), St.le_refl _⟩
    · have b2' : (m.setBox b1 [.ptr b4 0]).box b2 = some [.int .i64 0] := (box_off n12).trans (hj.1.le.1 _ _ m2)
      repeat' ((conv => whnf); first
        | (with_reducible first | exact Wa | exact Wb | exact Wc | refine Wd (by kernel_rfl) ?_ | refine We ?_ ?_ ?_ | refine W8 (by decide +kernel) ?_ ?_ ?_ | refine W9 ?_ ?_ ?_ | refine Wt (by first | assumption | omega) ?_ | refine Wu (by first | assumption | omega) ?_ | refine Wv (by omega) ?_ | refine Ww (by omega) ?_ | refine Wf (by decide) (fun _ => ?_) (fun _ => ?_) | refine Wg (fun _ => ?_) (fun _ => ?_) | refine Wh (fun _ => ?_) (fun _ => ?_) | refine Wi ?_ | refine Wj ?_ | refine Wk (fun _ => ?_) (fun _ => ?_) | refine Wl (fun _ => ?_) | refine Wm (by assumption) (by omega) ?_ | refine Wn (by omega) (by omega) (fun _ _ _ => ?_) | refine Wo (by omega) (by omega) ?_ | refine Wp (by omega) (by omega) (by omega) ?_ | refine Wq (by omega) (by omega) ?_ | refine Wr (by decide) (by omega) (by omega) ?_ | refine Ws (by decide) ?_ | refine Wx (fun _ => ?_) ?_ | refine Wy (fun _ => ?_) ?_ | refine Wz (fun _ => ?_) | refine WA (fun _ => ?_) | refine WB (by assumption) (by omega) ?_ | refine WC (by omega) (by omega) (fun _ _ => ?_) | refine WD (by omega) (by omega) (fun _ _ => ?_) | refine WE (by omega) (by omega) (by omega) ?_ | refine WJ (fun _ => ?_) | refine WK (fun _ _ _ => ?_) | refine WL (by assumption) (by omega) ?_ | refine WM (by omega) (by omega) (fun _ _ => ?_) | refine WN (by omega) (by omega) ?_ | refine WO (by omega) (by omega) ?_ | refine WP (by omega) (by omega) (by omega) ?_)
        | refine on_box b2' ?_
        | with_reducible refine WF ?_)
      all_goals conv => whnf
      all_goals exact ⟨(⟨q, o, g, w1, w2, m⟩, tx), hj, (by refine ⟨rfl, ?_, ?_, rfl⟩ <;> repeat' (first | exact trivial | exact rfl | refine And.intro ?_ ?_)), St.le_refl _⟩
    · have b3' : ((m.setBox b1 [.ptr b4 0]).setBox b2 [.int .i64 (quoF s pos).1]).box b3 = some [.int .i64 0] := (box_off n23).trans ((box_off n13).trans (hj.1.le.1 _ _ m3))
      repeat' ((conv => whnf); first
        | (with_reducible first | exact Wa | exact Wb | exact Wc | refine Wd (by kernel_rfl) ?_ | refine We ?_ ?_ ?_ | refine W8 (by decide +kernel) ?_ ?_ ?_ | refine W9 ?_ ?_ ?_ | refine Wt (by first | assumption | omega) ?_ | refine Wu (by first | assumption | omega) ?_ | refine Wv (by omega) ?_ | refine Ww (by omega) ?_ | refine Wf (by decide) (fun _ => ?_) (fun _ => ?_) | refine Wg (fun _ => ?_) (fun _ => ?_) | refine Wh (fun _ => ?_) (fun _ => ?_) | refine Wi ?_ | refine Wj ?_ | refine Wk (fun _ => ?_) (fun _ => ?_) | refine Wl (fun _ => ?_) | refine Wm (by assumption) (by omega) ?_ | refine Wn (by omega) (by omega) (fun _ _ _ => ?_) | refine Wo (by omega) (by omega) ?_ | refine Wp (by omega) (by omega) (by omega) ?_ | refine Wq (by omega) (by omega) ?_ | refine Wr (by decide) (by omega) (by omega) ?_ | refine Ws (by decide) ?_ | refine Wx (fun _ => ?_) ?_ | refine Wy (fun _ => ?_) ?_ | refine Wz (fun _ => ?_) | refine WA (fun _ => ?_) | refine WB (by assumption) (by omega) ?_ | refine WC (by omega) (by omega) (fun _ _ => ?_) | refine WD (by omega) (by omega) (fun _ _ => ?_) | refine WE (by omega) (by omega) (by omega) ?_ | refine WJ (fun _ => ?_) | refine WK (fun _ _ _ => ?_) | refine WL (by assumption) (by omega) ?_ | refine WM (by omega) (by omega) (fun _ _ => ?_) | refine WN (by omega) (by omega) ?_ | refine WO (by omega) (by omega) ?_ | refine WP (by omega) (by omega) (by omega) ?_)
        | refine on_box b3' ?_
        | with_reducible refine WF ?_)
      all_goals conv => whnf
      all_goals exact ⟨(⟨q, o, g, w1, w2, m⟩, tx), hj, (by refine ⟨rfl, ?_, ?_, rfl⟩ <;> repeat' (first | exact trivial | exact rfl | refine And.intro ?_ ?_)), St.le_refl _⟩
  · rintro ⟨⟨q, o, g, w1, w2, m⟩, tx⟩ ⟨j1, j2, j3, j0⟩
    dsimp only at j1 j2 j3 j0
    have c1 : (((m.setBox b1 [.ptr b4 0]).setBox b2 [.int .i64 (quoF s pos).1]).setBox b3 [.int .i64 0]).box b1 = some [.ptr b4 0] := (box_off n13.symm).trans ((box_off n12.symm).trans (St.box_at _ _ _))
    have c2 : (((m.setBox b1 [.ptr b4 0]).setBox b2 [.int .i64 (quoF s pos).1]).setBox b3 [.int .i64 0]).box b2 = some [.int .i64 (quoF s pos).1] := (box_off n23.symm).trans (St.box_at _ _ _)
    have c3 : (((m.setBox b1 [.ptr b4 0]).setBox b2 [.int .i64 (quoF s pos).1]).setBox b3 [.int .i64 0]).box b3 = some [.int .i64 0] := St.box_at _ _ _
    have c4 : (((m.setBox b1 [.ptr b4 0]).setBox b2 [.int .i64 (quoF s pos).1]).setBox b3 [.int .i64 0]).box b4 = some (qC s q tx o w1 g w2) := (box_off n34).trans ((box_off n24).trans ((box_off n14).trans j2))
    have gg := fun le => h b4 q tx o w1 g w2 _ le c4 j3
    rw [j0] at gg
    clear h
    show AW _ _ _ _ _
    refine aw_of tys_ok (qclose_none ?_)
    repeat' ((conv => whnf); first
      | (with_reducible first | exact Wa | exact Wb | exact Wc | refine Wd (by kernel_rfl) ?_ | refine We ?_ ?_ ?_ | refine W8 (by decide +kernel) ?_ ?_ ?_ | refine W9 ?_ ?_ ?_ | refine Wt (by first | assumption | omega) ?_ | refine Wu (by first | assumption | omega) ?_ | refine Wv (by omega) ?_ | refine Ww (by omega) ?_ | refine Wf (by decide) (fun _ => ?_) (fun _ => ?_) | refine Wg (fun _ => ?_) (fun _ => ?_) | refine Wh (fun _ => ?_) (fun _ => ?_) | refine Wi ?_ | refine Wj ?_ | refine Wk (fun _ => ?_) (fun _ => ?_) | refine Wl (fun _ => ?_) | refine Wm (by assumption) (by omega) ?_ | refine Wn (by omega) (by omega) (fun _ _ _ => ?_) | refine Wo (by omega) (by omega) ?_ | refine Wp (by omega) (by omega) (by omega) ?_ | refine Wq (by omega) (by omega) ?_ | refine Wr (by decide) (by omega) (by omega) ?_ | refine Ws (by decide) ?_ | refine Wx (fun _ => ?_) ?_ | refine Wy (fun _ => ?_) ?_ | refine Wz (fun _ => ?_) | refine WA (fun _ => ?_) | refine WB (by assumption) (by omega) ?_ | refine WC (by omega) (by omega) (fun _ _ => ?_) | refine WD (by omega) (by omega) (fun _ _ => ?_) | refine WE (by omega) (by omega) (by omega) ?_ | refine WJ (fun _ => ?_) | refine WK (fun _ _ _ => ?_) | refine WL (by assumption) (by omega) ?_ | refine WM (by omega) (by omega) (fun _ _ => ?_) | refine WN (by omega) (by omega) ?_ | refine WO (by omega) (by omega) ?_ | refine WP (by omega) (by omega) (by omega) ?_)
      | refine on_box c1 ?_
      | refine on_box c2 ?_
      | refine on_box c3 ?_
      | with_reducible refine WF ?_)
    exact fin (gg (St.le_setBox (St.le_setBox (St.le_setBox (St.le_trans hsl j1.le) k1 _) k2 _) k3 _)) rfl
set_option maxHeartbeats 4000000 in
theorem read_c {s : List UInt8} {pos : Nat} (hl : s.length ≤ 100000000) (hp : pos < s.length)
    (h : ∀ b4 (q : Nat) tx o w1 g w2 st', st.le st' → st'.box b4 = some (qC s q tx o w1 g w2) → (q : Int) = (quoF s pos).2.1 → R (.ret (.tup [.ptr b4 0, .int .i64 (quoF s pos).1, .int .i64 (quoF s pos).2.2])) st') : PC 88 [.str s, .int .i64 pos] st R := by
  obtain ⟨e, he⟩ : ∃ e, s[pos]? = some e := ⟨s[pos], List.getElem?_eq_getElem hp⟩
  have he' : s[(pos : Int).toNat]? = some e := he
  have hv := hdF_at he
  refine PCalls.ends (pcalls_defer3 tys_ok [4, 5, 6, 10] Tryz.func88 rfl (by decide) rfl rfl rfl rfl rfl rfl ⟨_, Tryz.func104, rfl, by decide⟩ rfl ?_)
  refine aw_of tys_ok ?_
  repeat' ((conv => whnf); first
    | (with_reducible first | exact Wa | exact Wb | exact Wc | refine Wd (by kernel_rfl) ?_ | refine We ?_ ?_ ?_ | refine W8 (by decide +kernel) ?_ ?_ ?_ | refine W9 ?_ ?_ ?_ | refine Wt (by first | assumption | omega) ?_ | refine Wu (by first | assumption | omega) ?_ | refine Wv (by omega) ?_ | refine Ww (by omega) ?_ | refine Wf (by decide) (fun _ => ?_) (fun _ => ?_) | refine Wg (fun _ => ?_) (fun _ => ?_) | refine Wh (fun _ => ?_) (fun _ => ?_) | refine Wi ?_ | refine Wj ?_ | refine Wk (fun _ => ?_) (fun _ => ?_) | refine Wl (fun _ => ?_) | refine Wm (by assumption) (by omega) ?_ | refine Wn (by omega) (by omega) (fun _ _ _ => ?_) | refine Wo (by omega) (by omega) ?_ | refine Wp (by omega) (by omega) (by omega) ?_ | refine Wq (by omega) (by omega) ?_ | refine Wr (by decide) (by omega) (by omega) ?_ | refine Ws (by decide) ?_ | refine Wx (fun _ => ?_) ?_ | refine Wy (fun _ => ?_) ?_ | refine Wz (fun _ => ?_) | refine WA (fun _ => ?_) | refine WB (by assumption) (by omega) ?_ | refine WC (by omega) (by omega) (fun _ _ => ?_) | refine WD (by omega) (by omega) (fun _ _ => ?_) | refine WE (by omega) (by omega) (by omega) ?_ | refine WJ (fun _ => ?_) | refine WK (fun _ _ _ => ?_) | refine WL (by assumption) (by omega) ?_ | refine WM (by omega) (by omega) (fun _ _ => ?_) | refine WN (by omega) (by omega) ?_ | refine WO (by omega) (by omega) ?_ | refine WP (by omega) (by omega) (by omega) ?_)
    | refine box_new (fun b3 f3 => ?_)
    | with_reducible refine WF ?_)
  rename_i b1 f1 b2 f2
  obtain ⟨n12, f2a⟩ := fresh_off f2
  obtain ⟨n23, f3a⟩ := fresh_off f3
  obtain ⟨n13, f3b⟩ := fresh_off f3a
  refine aw_of tys_ok ?_
  have kk : ∀ b4 cs, ((((st.setBox b1 [V.nilp]).setBox b2 [V.int .i64 0]).setBox b3 [V.int .i64 0]).fresh b4) → ((((st.setBox b1 [V.nilp]).setBox b2 [V.int .i64 0]).setBox b3 [V.int .i64 0]).setBox b4 cs).box b1 = some [V.nilp] := fun b4 cs f4 => by
    obtain ⟨m3, f4a⟩ := fresh_off f4
    obtain ⟨m2, f4b⟩ := fresh_off f4a
    obtain ⟨m1, f4c⟩ := fresh_off f4b
    simp [St.setBox, m1, n12, n13]
  repeat' ((conv => whnf); first
    | (with_reducible first | exact Wa | exact Wb | exact Wc | refine Wd (by kernel_rfl) ?_ | refine We ?_ ?_ ?_ | refine W8 (by decide +kernel) ?_ ?_ ?_ | refine W9 ?_ ?_ ?_ | refine Wt (by first | assumption | omega) ?_ | refine Wu (by first | assumption | omega) ?_ | refine Wv (by omega) ?_ | refine Ww (by omega) ?_ | refine Wf (by decide) (fun _ => ?_) (fun _ => ?_) | refine Wg (fun _ => ?_) (fun _ => ?_) | refine Wh (fun _ => ?_) (fun _ => ?_) | refine Wi ?_ | refine Wj ?_ | refine Wk (fun _ => ?_) (fun _ => ?_) | refine Wl (fun _ => ?_) | refine Wm (by assumption) (by omega) ?_ | refine Wn (by omega) (by omega) (fun _ _ _ => ?_) | refine Wo (by omega) (by omega) ?_ | refine Wp (by omega) (by omega) (by omega) ?_ | refine Wq (by omega) (by omega) ?_ | refine Wr (by decide) (by omega) (by omega) ?_ | refine Ws (by decide) ?_ | refine Wx (fun _ => ?_) ?_ | refine Wy (fun _ => ?_) ?_ | refine Wz (fun _ => ?_) | refine WA (fun _ => ?_) | refine WB (by assumption) (by omega) ?_ | refine WC (by omega) (by omega) (fun _ _ => ?_) | refine WD (by omega) (by omega) (fun _ _ => ?_) | refine WE (by omega) (by omega) (by omega) ?_ | refine WJ (fun _ => ?_) | refine WK (fun _ _ _ => ?_) | refine WL (by assumption) (by omega) ?_ | refine WM (by omega) (by omega) (fun _ _ => ?_) | refine WN (by omega) (by omega) ?_ | refine WO (by omega) (by omega) ?_ | refine WP (by omega) (by omega) (by omega) ?_)
    | refine box_new (fun b4 f4 => ?_)
    | refine on_box (kk _ _ f4) ?_
    | with_reducible refine WF ?_)
  obtain ⟨n34, f4a⟩ := fresh_off f4
  obtain ⟨n24, f4b⟩ := fresh_off f4a
  obtain ⟨n14, f4c⟩ := fresh_off f4b
  obtain ⟨s0, hs0, hsl, m1, m2, m3, hst⟩ : ∃ s0 : St, s0.box b4 = none ∧ st.le s0 ∧ s0.box b1 = some [.ptr b4 0] ∧ s0.box b2 = some [.int .i64 0] ∧ s0.box b3 = some [.int .i64 0] ∧
      s0.setBox b4 (qC s pos false [] .full [] .full) = (((((st.setBox b1 [V.nilp]).setBox b2 [V.int .i64 0]).setBox b3 [V.int .i64 0]).setBox b4 (qC s pos false [] .full [] .full)).setBox b1 [.ptr b4 0]) := by
    refine ⟨((st.setBox b1 [.ptr b4 0]).setBox b2 [.int .i64 0]).setBox b3 [.int .i64 0], ?_, St.le_setBox (St.le_setBox (St.le_setBox (St.le_refl _) f1.1 _) f2a.1 _) f3b.1 _, ?_, ?_, ?_, ?_⟩
    · simp [St.setBox, n14.symm, n24.symm, n34.symm]; exact f4c.1
    · simp [St.setBox, n12, n13]
    · simp [St.setBox, n23]
    · simp [St.setBox]
    · simp only [St.setBox, St.mk.injEq, and_true]
      funext x
      by_cases x1 : x = b1
      · subst x1; simp [n12, n13, n14]
      · by_cases x4 : x = b4
        · subst x4; simp [x1]
        · simp [x1, x4]
  refine AW_st (st' := s0.setBox b4 (qC s pos false [] .full [] .full)) hst ?_
  clear kk f4 f4a f4b f3 f3a f2 hst
  have a1 : ∀ C, (s0.setBox b4 C).box b1 = some [.ptr b4 0] := fun C => (box_off n14.symm).trans m1
  by_cases hq : hdF (s.drop pos) = 34 ∨ hdF (s.drop pos) = 39
  · refine aw_of tys_ok ?_
    repeat' ((conv => whnf); first
      | (with_reducible first | exact Wa | exact Wb | exact Wc | refine Wd (by kernel_rfl) ?_ | refine We ?_ ?_ ?_ | refine W8 (by decide +kernel) ?_ ?_ ?_ | refine W9 ?_ ?_ ?_ | refine Wt (by first | assumption | omega) ?_ | refine Wu (by first | assumption | omega) ?_ | refine Wv (by omega) ?_ | refine Ww (by omega) ?_ | refine Wf (by decide) (fun _ => ?_) (fun _ => ?_) | refine Wg (fun _ => ?_) (fun _ => ?_) | refine Wh (fun _ => ?_) (fun _ => ?_) | refine Wi ?_ | refine Wj ?_ | refine Wk (fun _ => ?_) (fun _ => ?_) | refine Wl (fun _ => ?_) | refine Wm (by assumption) (by omega) ?_ | refine Wn (by omega) (by omega) (fun _ _ _ => ?_) | refine Wo (by omega) (by omega) ?_ | refine Wp (by omega) (by omega) (by omega) ?_ | refine Wq (by omega) (by omega) ?_ | refine Wr (by decide) (by omega) (by omega) ?_ | refine Ws (by decide) ?_ | refine Wx (fun _ => ?_) ?_ | refine Wy (fun _ => ?_) ?_ | refine Wz (fun _ => ?_) | refine WA (fun _ => ?_) | refine WB (by assumption) (by omega) ?_ | refine WC (by omega) (by omega) (fun _ _ => ?_) | refine WD (by omega) (by omega) (fun _ _ => ?_) | refine WE (by omega) (by omega) (by omega) ?_ | refine WJ (fun _ => ?_) | refine WK (fun _ _ _ => ?_) | refine WL (by assumption) (by omega) ?_ | refine WM (by omega) (by omega) (fun _ _ => ?_) | refine WN (by omega) (by omega) ?_ | refine WO (by omega) (by omega) ?_ | refine WP (by omega) (by omega) (by omega) ?_)
      | with_reducible refine WF ?_)
    all_goals conv => whnf
    all_goals refine ⟨rfl, chk_intro rfl ?_⟩
    all_goals exact AW_weak (read_rest hl hq hs0 (St.le_trans hsl (St.le_refl _)) n12 n13 n14 n23 n24 n34 f1.1 f2a.1 f3b.1 f4c.1 m1 m2 m3 h) (by refine ⟨rfl, ?_, ?_, rfl⟩ <;> repeat' (first | exact trivial | exact rfl | refine And.intro ?_ ?_)) (St.le_refl _)
  · have hz : quoF s pos = (0, 0, 0) := by unfold quoF; rw [if_neg (fun x => hq (.inl x)), if_neg (fun x => hq (.inr x))]
    rw [hz] at h
    have a1' : ∀ C C', ((s0.setBox b4 C).setBox b4 C').box b1 = some [.ptr b4 0] := fun C C' => (box_off n14.symm).trans (a1 C)
    have a2' : ∀ C C' D, (((s0.setBox b4 C).setBox b4 C').setBox b1 D).box b2 = some [.int .i64 0] := fun C C' D => (box_off n12).trans ((box_off n24.symm).trans ((box_off n24.symm).trans m2))
    have a3' : ∀ C C' D F, ((((s0.setBox b4 C).setBox b4 C').setBox b1 D).setBox b2 F).box b3 = some [.int .i64 0] := fun C C' D F => (box_off n23).trans ((box_off n13).trans ((box_off n34.symm).trans ((box_off n34.symm).trans m3)))
    have e3 : ∀ C C' D F G, (((((s0.setBox b4 C).setBox b4 C').setBox b1 D).setBox b2 F).setBox b3 G).box b3 = some G := fun C C' D F G => St.box_at _ _ _
    have e2 : ∀ C C' D F G, (((((s0.setBox b4 C).setBox b4 C').setBox b1 D).setBox b2 F).setBox b3 G).box b2 = some F := fun C C' D F G => (box_off n23.symm).trans (St.box_at _ _ _)
    have e1 : ∀ C C' D F G, (((((s0.setBox b4 C).setBox b4 C').setBox b1 D).setBox b2 F).setBox b3 G).box b1 = some D := fun C C' D F G => (box_off n13.symm).trans ((box_off n12.symm).trans (St.box_at _ _ _))
    have e4 : ∀ C C' D F G, (((((s0.setBox b4 C).setBox b4 C').setBox b1 D).setBox b2 F).setBox b3 G).box b4 = some C' := fun C C' D F G => (box_off n34).trans ((box_off n24).trans ((box_off n14).trans (St.box_at _ _ _)))
    refine aw_of tys_ok ?_
    repeat' ((conv => whnf); first
      | (with_reducible first | exact Wa | exact Wb | exact Wc | refine Wd (by kernel_rfl) ?_ | refine We ?_ ?_ ?_ | refine W8 (by decide +kernel) ?_ ?_ ?_ | refine W9 ?_ ?_ ?_ | refine Wt (by first | assumption | omega) ?_ | refine Wu (by first | assumption | omega) ?_ | refine Wv (by omega) ?_ | refine Ww (by omega) ?_ | refine Wf (by decide) (fun _ => ?_) (fun _ => ?_) | refine Wg (fun _ => ?_) (fun _ => ?_) | refine Wh (fun _ => ?_) (fun _ => ?_) | refine Wi ?_ | refine Wj ?_ | refine Wk (fun _ => ?_) (fun _ => ?_) | refine Wl (fun _ => ?_) | refine Wm (by assumption) (by omega) ?_ | refine Wn (by omega) (by omega) (fun _ _ _ => ?_) | refine Wo (by omega) (by omega) ?_ | refine Wp (by omega) (by omega) (by omega) ?_ | refine Wq (by omega) (by omega) ?_ | refine Wr (by decide) (by omega) (by omega) ?_ | refine Ws (by decide) ?_ | refine Wx (fun _ => ?_) ?_ | refine Wy (fun _ => ?_) ?_ | refine Wz (fun _ => ?_) | refine WA (fun _ => ?_) | refine WB (by assumption) (by omega) ?_ | refine WC (by omega) (by omega) (fun _ _ => ?_) | refine WD (by omega) (by omega) (fun _ _ => ?_) | refine WE (by omega) (by omega) (by omega) ?_ | refine WJ (fun _ => ?_) | refine WK (fun _ _ _ => ?_) | refine WL (by assumption) (by omega) ?_ | refine WM (by omega) (by omega) (fun _ _ => ?_) | refine WN (by omega) (by omega) ?_ | refine WO (by omega) (by omega) ?_ | refine WP (by omega) (by omega) (by omega) ?_)
      | refine on_box (a1 _) ?_
      | refine on_box (St.box_at _ _ _) ?_
      | refine on_box (a1' _ _) ?_
      | refine on_box (a2' _ _ _) ?_
      | refine on_box (a3' _ _ _ _) ?_
      | refine on_box (e1 _ _ _ _ _) ?_
      | refine on_box (e2 _ _ _ _ _) ?_
      | refine on_box (e3 _ _ _ _ _) ?_
      | with_reducible refine WF ?_)
    exact fin (h b4 0 false [] .full [] .full _ (St.le_setBox (St.le_setBox (St.le_setBox (St.le_setBox (St.le_setBox hsl f4c.1 _) f4c.1 _) f1.1 _) f2a.1 _) f3b.1 _) (e4 _ _ _ _ _) rfl) rfl
end
end Go.Proofs.YtkcapphlemoccaaGreatDoor
set_option linter.unusedVariables false
namespace Go.Proofs.YtkcapphlemoccaaGreatDoor
open Go Go.Aw
section
variable {st : St} {R : Res → St → Prop}
attribute [local irreducible] Go.Aw.appendTo
theorem qscan_c {s : List UInt8} {pos : Nat} (hl : s.length ≤ 100000000) (hp : pos < s.length) (h : R (.ret (.tup [.int .i64 (quoF s pos).1, .int .i64 (quoF s pos).2.1, .int .i64 (quoF s pos).2.2])) st) : PC 63 [.str s, .int .i64 pos] st R := by
  refine pcalls_of_body tys_ok [] Tryz.func63 rfl (by decide) ?_
  repeat' ((conv => whnf); first
    | (with_reducible first | exact Wa | exact Wb | exact Wc | refine Wd (by kernel_rfl) ?_ | refine We ?_ ?_ ?_ | refine W8 (by decide +kernel) ?_ ?_ ?_ | refine W9 ?_ ?_ ?_ | refine Wt (by first | assumption | omega) ?_ | refine Wu (by first | assumption | omega) ?_ | refine Wv (by omega) ?_ | refine Ww (by omega) ?_ | refine Wf (by decide) (fun _ => ?_) (fun _ => ?_) | refine Wg (fun _ => ?_) (fun _ => ?_) | refine Wh (fun _ => ?_) (fun _ => ?_) | refine Wi ?_ | refine Wj ?_ | refine Wk (fun _ => ?_) (fun _ => ?_) | refine Wl (fun _ => ?_) | refine Wm (by assumption) (by omega) ?_ | refine Wn (by omega) (by omega) (fun _ _ _ => ?_) | refine Wo (by omega) (by omega) ?_ | refine Wp (by omega) (by omega) (by omega) ?_ | refine Wq (by omega) (by omega) ?_ | refine Wr (by decide) (by omega) (by omega) ?_ | refine Ws (by decide) ?_ | refine Wx (fun _ => ?_) ?_ | refine Wy (fun _ => ?_) ?_ | refine Wz (fun _ => ?_) | refine WA (fun _ => ?_) | refine WB (by assumption) (by omega) ?_ | refine WC (by omega) (by omega) (fun _ _ => ?_) | refine WD (by omega) (by omega) (fun _ _ => ?_) | refine WE (by omega) (by omega) (by omega) ?_ | refine WJ (fun _ => ?_) | refine WK (fun _ _ _ => ?_) | refine WL (by assumption) (by omega) ?_ | refine WM (by omega) (by omega) (fun _ _ => ?_) | refine WN (by omega) (by omega) ?_ | refine WO (by omega) (by omega) ?_ | refine WP (by omega) (by omega) (by omega) ?_)
    | refine read_c hl hp (fun b4 q tx o w1 g w2 st' hst hb hq => ?_)
    | refine on_box hb ?_
    | with_reducible refine WF ?_)
  all_goals rw [← hq] at h
  all_goals exact finl hst rfl h
def shrF (c : Int) : Int := match sgnF c with | some v => v | none => if c = 38 then -2 else -1
theorem short_c {c : Int} (h0 : 0 ≤ c) (h1 : c ≤ 255) (h : R (.ret (.int .i64 (shrF c))) st) : PC 125 [.int .u8 c] st R := by
  refine pcalls_of_body tys_ok [] Tryz.func125 rfl (by decide) ?_
  repeat' ((conv => whnf); first
    | (with_reducible first | exact Wa | exact Wb | exact Wc | refine Wd (by kernel_rfl) ?_ | refine We ?_ ?_ ?_ | refine W8 (by decide +kernel) ?_ ?_ ?_ | refine W9 ?_ ?_ ?_ | refine Wt (by first | assumption | omega) ?_ | refine Wu (by first | assumption | omega) ?_ | refine Wv (by omega) ?_ | refine Ww (by omega) ?_ | refine Wf (by decide) (fun _ => ?_) (fun _ => ?_) | refine Wg (fun _ => ?_) (fun _ => ?_) | refine Wh (fun _ => ?_) (fun _ => ?_) | refine Wi ?_ | refine Wj ?_ | refine Wk (fun _ => ?_) (fun _ => ?_) | refine Wl (fun _ => ?_) | refine Wm (by assumption) (by omega) ?_ | refine Wn (by omega) (by omega) (fun _ _ _ => ?_) | refine Wo (by omega) (by omega) ?_ | refine Wp (by omega) (by omega) (by omega) ?_ | refine Wq (by omega) (by omega) ?_ | refine Wr (by decide) (by omega) (by omega) ?_ | refine Ws (by decide) ?_ | refine Wx (fun _ => ?_) ?_ | refine Wy (fun _ => ?_) ?_ | refine Wz (fun _ => ?_) | refine WA (fun _ => ?_) | refine WB (by assumption) (by omega) ?_ | refine WC (by omega) (by omega) (fun _ _ => ?_) | refine WD (by omega) (by omega) (fun _ _ => ?_) | refine WE (by omega) (by omega) (by omega) ?_ | refine WJ (fun _ => ?_) | refine WK (fun _ _ _ => ?_) | refine WL (by assumption) (by omega) ?_ | refine WM (by omega) (by omega) (fun _ _ => ?_) | refine WN (by omega) (by omega) ?_ | refine WO (by omega) (by omega) ?_ | refine WP (by omega) (by omega) (by omega) ?_)
    | with_reducible refine WF ?_)
  all_goals refine finw rfl ?_
  all_goals refine Eq.mp (congrArg (fun x => R (.ret (.int .i64 x)) st) ?_) h
  all_goals clear h
  all_goals unfold shrF sgnF
  all_goals first | (simp [*]; done) | (simp_all; done) | (repeat' split) <;> simp_all <;> omega
end
end Go.Proofs.YtkcapphlemoccaaGreatDoor
set_option linter.unusedVariables false
namespace Go.Aw
open Go
theorem val_at {b v : Int} {s : List UInt8} {pos : Nat} {e : UInt8} (h : s[pos]? = some e) : valF b v (s.drop pos) = if digitF ((e.toNat : Nat) : Int) b < 0 then v else valF b (min (v * b + digitF ((e.toNat : Nat) : Int) b) 1114112) (s.drop (pos + 1)) := by
  obtain ⟨hlt, hx⟩ := List.getElem?_eq_some_iff.1 h
  rw [List.drop_eq_getElem_cons hlt, hx]
  rfl
def rnvF (b : Int) (l : List UInt8) : Int := if rowN b l = 0 ∨ 1114111 < valF b 0 l then -1 else valF b 0 l
theorem rnv_of {b x : Int} {l : List UInt8} (h : ((rowN b l = 0 ∨ 1114111 < valF b 0 l) ∧ x = -1) ∨ (rowN b l ≠ 0 ∧ valF b 0 l ≤ 1114111 ∧ x = valF b 0 l)) : rnvF b l = x := by
  unfold rnvF
  split <;> omega
end Go.Aw
namespace Go.Proofs.YtkcapphlemoccaaGreatDoor
open Go Go.Aw
section
variable {st : St} {R : Res → St → Prop}
theorem rqnum_c {s : List UInt8} {b : Int} {q : Nat} (hl : s.length ≤ 100000000) (hq : q ≤ s.length) (hb : b = 8 ∨ b = 10 ∨ b = 16) (h : R (.ret (.tup [.int .i64 (rnvF b (s.drop q)), .int .i64 (q + rowN b (s.drop q) : Nat)])) st) : PC 126 [.str s, .int .i64 q, .int .i64 b] st R := by
  refine pcalls_of_body tys_ok [] Tryz.func126 rfl (by decide) ?_
  repeat' ((conv => whnf); first
    | (with_reducible first | exact Wa | exact Wb | exact Wc | refine Wd (by kernel_rfl) ?_ | refine We ?_ ?_ ?_ | refine W8 (by decide +kernel) ?_ ?_ ?_ | refine W9 ?_ ?_ ?_ | refine Wt (by first | assumption | omega) ?_ | refine Wu (by first | assumption | omega) ?_ | refine Wv (by omega) ?_ | refine Ww (by omega) ?_ | refine Wf (by decide) (fun _ => ?_) (fun _ => ?_) | refine Wg (fun _ => ?_) (fun _ => ?_) | refine Wh (fun _ => ?_) (fun _ => ?_) | refine Wi ?_ | refine Wj ?_ | refine Wk (fun _ => ?_) (fun _ => ?_) | refine Wl (fun _ => ?_) | refine Wm (by assumption) (by omega) ?_ | refine Wn (by omega) (by omega) (fun _ _ _ => ?_) | refine Wo (by omega) (by omega) ?_ | refine Wp (by omega) (by omega) (by omega) ?_ | refine Wq (by omega) (by omega) ?_ | refine Wr (by decide) (by omega) (by omega) ?_ | refine Ws (by decide) ?_ | refine Wx (fun _ => ?_) ?_ | refine Wy (fun _ => ?_) ?_ | refine Wz (fun _ => ?_) | refine WA (fun _ => ?_) | refine WB (by assumption) (by omega) ?_ | refine WC (by omega) (by omega) (fun _ _ => ?_) | refine WD (by omega) (by omega) (fun _ _ => ?_) | refine WE (by omega) (by omega) (by omega) ?_ | refine WJ (fun _ => ?_) | refine WK (fun _ _ _ => ?_) | refine WL (by assumption) (by omega) ?_ | refine WM (by omega) (by omega) (fun _ _ => ?_) | refine WN (by omega) (by omega) ?_ | refine WO (by omega) (by omega) ?_ | refine WP (by omega) (by omega) (by omega) ?_)
    | with_reducible refine WF ?_)
  refine loop_2 (α := Nat) (β := Int) (fun pos v => [(1, .int .i64 (pos : Int)), (8, .int .i64 v)]) (fun _ _ => []) [0, 2, 9] [] (fun _ _ => st)
    (fun pos v => q ≤ pos ∧ pos ≤ s.length ∧ 0 ≤ v ∧ v ≤ 20000000 ∧ q + rowN b (s.drop q) = pos + rowN b (s.drop pos) ∧ valF b 0 (s.drop q) = valF b (min v 1114112) (s.drop pos)) (fun pos _ => s.length - pos) q 0 ⟨Nat.le_refl _, hq, by decide, by decide, rfl, rfl⟩ (by refine ⟨rfl, ?_, ?_, rfl⟩ <;> repeat' (first | exact trivial | exact rfl | refine And.intro ?_ ?_)) (St.le_refl _) ?_
  rintro pos v ⟨h0, h1, h2, h3, h4, h5⟩
  have hdl := fun c => digitF_lt (c := c) (b := b)
  rcases hb with rfl | rfl | rfl
  · skip
    repeat' ((conv => whnf); first
      | (with_reducible first | exact Wa | exact Wb | exact Wc | refine Wd (by kernel_rfl) ?_ | refine We ?_ ?_ ?_ | refine W8 (by decide +kernel) ?_ ?_ ?_ | refine W9 ?_ ?_ ?_ | refine Wt (by first | assumption | omega) ?_ | refine Wu (by first | assumption | omega) ?_ | refine Wv (by omega) ?_ | refine Ww (by omega) ?_ | refine Wf (by decide) (fun _ => ?_) (fun _ => ?_) | refine Wg (fun _ => ?_) (fun _ => ?_) | refine Wh (fun _ => ?_) (fun _ => ?_) | refine Wi ?_ | refine Wj ?_ | refine Wk (fun _ => ?_) (fun _ => ?_) | refine Wl (fun _ => ?_) | refine Wm (by assumption) (by omega) ?_ | refine Wn (by omega) (by omega) (fun _ _ _ => ?_) | refine Wo (by omega) (by omega) ?_ | refine Wp (by omega) (by omega) (by omega) ?_ | refine Wq (by omega) (by omega) ?_ | refine Wr (by decide) (by omega) (by omega) ?_ | refine Ws (by decide) ?_ | refine Wx (fun _ => ?_) ?_ | refine Wy (fun _ => ?_) ?_ | refine Wz (fun _ => ?_) | refine WA (fun _ => ?_) | refine WB (by assumption) (by omega) ?_ | refine WC (by omega) (by omega) (fun _ _ => ?_) | refine WD (by omega) (by omega) (fun _ _ => ?_) | refine WE (by omega) (by omega) (by omega) ?_ | refine WJ (fun _ => ?_) | refine WK (fun _ _ _ => ?_) | refine WL (by assumption) (by omega) ?_ | refine WM (by omega) (by omega) (fun _ _ => ?_) | refine WN (by omega) (by omega) ?_ | refine WO (by omega) (by omega) ?_ | refine WP (by omega) (by omega) (by omega) ?_)
      | refine conv_byte ?_
      | refine rdigit_c ?_
      | refine ex_dig h2 (by omega) (by decide) (by decide) (by assumption) ?_
      | with_reducible refine WF ?_)
    all_goals first
      | (rename_i hlt e he hk _
         have he : s[pos]? = some e := he
         have e1 := rowN_at (base := 8) he
         have e2 := val_at (b := 8) (v := min v 1114112) he
         rw [if_pos hk] at e1 e2
         exact fin h (int_ret2 (rnv_of (by omega)) (by omega)))
      | (rename_i hlt e he hk _ _
         have he : s[pos]? = some e := he
         have e1 := rowN_at (base := 8) he
         have e2 := val_at (b := 8) (v := min v 1114112) he
         rw [if_pos hk] at e1 e2
         exact fin h (int_ret2 (rnv_of (by omega)) (by omega)))
      | (have e1 := rowN_none (base := 8) (s := s) (pos := pos) (by omega)
         have e2 := valF_none (base := 8) (v := min v 1114112) (s := s) (pos := pos) (by omega)
         exact fin h (int_ret2 (rnv_of (by omega)) (by omega)))
      | (rename_i hlt e he hk hv
         have he : s[pos]? = some e := he
         have e1 := rowN_at (base := 8) he
         have e2 := val_at (b := 8) (v := min v 1114112) he
         rw [if_neg hk] at e1 e2
         have e3 := hdl ((e.toNat : Nat) : Int)
         clear h
         conv => whnf
         first
           | exact ⟨(pos + 1, v * 8 + digitF ((e.toNat : Nat) : Int) 8), ⟨by dsimp only; omega, by dsimp only; omega, by dsimp only; omega, by dsimp only; omega, by dsimp only; omega, by dsimp only; rw [h5, e2]; congr 1; omega⟩, by dsimp only; omega, (by refine ⟨rfl, ?_, ?_, rfl⟩ <;> repeat' (first | exact trivial | exact rfl | refine And.intro ?_ ?_)), St.le_refl _⟩
           | exact ⟨(pos + 1, v), ⟨by dsimp only; omega, by dsimp only; omega, by dsimp only; omega, by dsimp only; omega, by dsimp only; omega, by dsimp only; rw [h5, e2]; congr 1; omega⟩, by dsimp only; omega, (by refine ⟨rfl, ?_, ?_, rfl⟩ <;> repeat' (first | exact trivial | exact rfl | refine And.intro ?_ ?_)), St.le_refl _⟩)
  · skip
    repeat' ((conv => whnf); first
      | (with_reducible first | exact Wa | exact Wb | exact Wc | refine Wd (by kernel_rfl) ?_ | refine We ?_ ?_ ?_ | refine W8 (by decide +kernel) ?_ ?_ ?_ | refine W9 ?_ ?_ ?_ | refine Wt (by first | assumption | omega) ?_ | refine Wu (by first | assumption | omega) ?_ | refine Wv (by omega) ?_ | refine Ww (by omega) ?_ | refine Wf (by decide) (fun _ => ?_) (fun _ => ?_) | refine Wg (fun _ => ?_) (fun _ => ?_) | refine Wh (fun _ => ?_) (fun _ => ?_) | refine Wi ?_ | refine Wj ?_ | refine Wk (fun _ => ?_) (fun _ => ?_) | refine Wl (fun _ => ?_) | refine Wm (by assumption) (by omega) ?_ | refine Wn (by omega) (by omega) (fun _ _ _ => ?_) | refine Wo (by omega) (by omega) ?_ | refine Wp (by omega) (by omega) (by omega) ?_ | refine Wq (by omega) (by omega) ?_ | refine Wr (by decide) (by omega) (by omega) ?_ | refine Ws (by decide) ?_ | refine Wx (fun _ => ?_) ?_ | refine Wy (fun _ => ?_) ?_ | refine Wz (fun _ => ?_) | refine WA (fun _ => ?_) | refine WB (by assumption) (by omega) ?_ | refine WC (by omega) (by omega) (fun _ _ => ?_) | refine WD (by omega) (by omega) (fun _ _ => ?_) | refine WE (by omega) (by omega) (by omega) ?_ | refine WJ (fun _ => ?_) | refine WK (fun _ _ _ => ?_) | refine WL (by assumption) (by omega) ?_ | refine WM (by omega) (by omega) (fun _ _ => ?_) | refine WN (by omega) (by omega) ?_ | refine WO (by omega) (by omega) ?_ | refine WP (by omega) (by omega) (by omega) ?_)
      | refine conv_byte ?_
      | refine rdigit_c ?_
      | refine ex_dig h2 (by omega) (by decide) (by decide) (by assumption) ?_
      | with_reducible refine WF ?_)
    all_goals first
      | (rename_i hlt e he hk _
         have he : s[pos]? = some e := he
         have e1 := rowN_at (base := 10) he
         have e2 := val_at (b := 10) (v := min v 1114112) he
         rw [if_pos hk] at e1 e2
         exact fin h (int_ret2 (rnv_of (by omega)) (by omega)))
      | (rename_i hlt e he hk _ _
         have he : s[pos]? = some e := he
         have e1 := rowN_at (base := 10) he
         have e2 := val_at (b := 10) (v := min v 1114112) he
         rw [if_pos hk] at e1 e2
         exact fin h (int_ret2 (rnv_of (by omega)) (by omega)))
      | (have e1 := rowN_none (base := 10) (s := s) (pos := pos) (by omega)
         have e2 := valF_none (base := 10) (v := min v 1114112) (s := s) (pos := pos) (by omega)
         exact fin h (int_ret2 (rnv_of (by omega)) (by omega)))
      | (rename_i hlt e he hk hv
         have he : s[pos]? = some e := he
         have e1 := rowN_at (base := 10) he
         have e2 := val_at (b := 10) (v := min v 1114112) he
         rw [if_neg hk] at e1 e2
         have e3 := hdl ((e.toNat : Nat) : Int)
         clear h
         conv => whnf
         first
           | exact ⟨(pos + 1, v * 10 + digitF ((e.toNat : Nat) : Int) 10), ⟨by dsimp only; omega, by dsimp only; omega, by dsimp only; omega, by dsimp only; omega, by dsimp only; omega, by dsimp only; rw [h5, e2]; congr 1; omega⟩, by dsimp only; omega, (by refine ⟨rfl, ?_, ?_, rfl⟩ <;> repeat' (first | exact trivial | exact rfl | refine And.intro ?_ ?_)), St.le_refl _⟩
           | exact ⟨(pos + 1, v), ⟨by dsimp only; omega, by dsimp only; omega, by dsimp only; omega, by dsimp only; omega, by dsimp only; omega, by dsimp only; rw [h5, e2]; congr 1; omega⟩, by dsimp only; omega, (by refine ⟨rfl, ?_, ?_, rfl⟩ <;> repeat' (first | exact trivial | exact rfl | refine And.intro ?_ ?_)), St.le_refl _⟩)
  · skip
    repeat' ((conv => whnf); first
      | (with_reducible first | exact Wa | exact Wb | exact Wc | refine Wd (by kernel_rfl) ?_ | refine We ?_ ?_ ?_ | refine W8 (by decide +kernel) ?_ ?_ ?_ | refine W9 ?_ ?_ ?_ | refine Wt (by first | assumption | omega) ?_ | refine Wu (by first | assumption | omega) ?_ | refine Wv (by omega) ?_ | refine Ww (by omega) ?_ | refine Wf (by decide) (fun _ => ?_) (fun _ => ?_) | refine Wg (fun _ => ?_) (fun _ => ?_) | refine Wh (fun _ => ?_) (fun _ => ?_) | refine Wi ?_ | refine Wj ?_ | refine Wk (fun _ => ?_) (fun _ => ?_) | refine Wl (fun _ => ?_) | refine Wm (by assumption) (by omega) ?_ | refine Wn (by omega) (by omega) (fun _ _ _ => ?_) | refine Wo (by omega) (by omega) ?_ | refine Wp (by omega) (by omega) (by omega) ?_ | refine Wq (by omega) (by omega) ?_ | refine Wr (by decide) (by omega) (by omega) ?_ | refine Ws (by decide) ?_ | refine Wx (fun _ => ?_) ?_ | refine Wy (fun _ => ?_) ?_ | refine Wz (fun _ => ?_) | refine WA (fun _ => ?_) | refine WB (by assumption) (by omega) ?_ | refine WC (by omega) (by omega) (fun _ _ => ?_) | refine WD (by omega) (by omega) (fun _ _ => ?_) | refine WE (by omega) (by omega) (by omega) ?_ | refine WJ (fun _ => ?_) | refine WK (fun _ _ _ => ?_) | refine WL (by assumption) (by omega) ?_ | refine WM (by omega) (by omega) (fun _ _ => ?_) | refine WN (by omega) (by omega) ?_ | refine WO (by omega) (by omega) ?_ | refine WP (by omega) (by omega) (by omega) ?_)
      | refine conv_byte ?_
      | refine rdigit_c ?_
      | refine ex_dig h2 (by omega) (by decide) (by decide) (by assumption) ?_
      | with_reducible refine WF ?_)
    all_goals first
      | (rename_i hlt e he hk _
         have he : s[pos]? = some e := he
         have e1 := rowN_at (base := 16) he
         have e2 := val_at (b := 16) (v := min v 1114112) he
         rw [if_pos hk] at e1 e2
         exact fin h (int_ret2 (rnv_of (by omega)) (by omega)))
      | (rename_i hlt e he hk _ _
         have he : s[pos]? = some e := he
         have e1 := rowN_at (base := 16) he
         have e2 := val_at (b := 16) (v := min v 1114112) he
         rw [if_pos hk] at e1 e2
         exact fin h (int_ret2 (rnv_of (by omega)) (by omega)))
      | (have e1 := rowN_none (base := 16) (s := s) (pos := pos) (by omega)
         have e2 := valF_none (base := 16) (v := min v 1114112) (s := s) (pos := pos) (by omega)
         exact fin h (int_ret2 (rnv_of (by omega)) (by omega)))
      | (rename_i hlt e he hk hv
         have he : s[pos]? = some e := he
         have e1 := rowN_at (base := 16) he
         have e2 := val_at (b := 16) (v := min v 1114112) he
         rw [if_neg hk] at e1 e2
         have e3 := hdl ((e.toNat : Nat) : Int)
         clear h
         conv => whnf
         first
           | exact ⟨(pos + 1, v * 16 + digitF ((e.toNat : Nat) : Int) 16), ⟨by dsimp only; omega, by dsimp only; omega, by dsimp only; omega, by dsimp only; omega, by dsimp only; omega, by dsimp only; rw [h5, e2]; congr 1; omega⟩, by dsimp only; omega, (by refine ⟨rfl, ?_, ?_, rfl⟩ <;> repeat' (first | exact trivial | exact rfl | refine And.intro ?_ ?_)), St.le_refl _⟩
           | exact ⟨(pos + 1, v), ⟨by dsimp only; omega, by dsimp only; omega, by dsimp only; omega, by dsimp only; omega, by dsimp only; omega, by dsimp only; rw [h5, e2]; congr 1; omega⟩, by dsimp only; omega, (by refine ⟨rfl, ?_, ?_, rfl⟩ <;> repeat' (first | exact trivial | exact rfl | refine And.intro ?_ ?_)), St.le_refl _⟩)
end
end Go.Proofs.YtkcapphlemoccaaGreatDoor
set_option linter.unusedVariables false
namespace Go.Aw
open Go
def gapE (s : List UInt8) (p : Nat) : Int := if gapN (s.drop p) = 0 then 0 else (p + gapN (s.drop p) : Nat)
theorem pre_take {l w : List UInt8} : w.isPrefixOf l = decide (l.take w.length = w) := by
  rw [Bool.eq_iff_iff, List.isPrefixOf_iff_prefix, decide_eq_true_iff, List.prefix_iff_eq_take]
  exact ⟨Eq.symm, Eq.symm⟩
theorem cut_at {s : List UInt8} {q n : Nat} : List.drop ((q : Int)).toNat (List.take ((q : Int) + (n : Int)).toNat s) = (s.drop q).take n := by
  rw [List.drop_take, show ((q : Int) + (n : Int)).toNat - ((q : Int)).toNat = n by omega, show ((q : Int)).toNat = q by omega]
theorem pre_at {s w : List UInt8} {q : Nat} (h : List.drop ((q : Int)).toNat (List.take ((q : Int) + (w.length : Int)).toNat s) = w) : w.isPrefixOf (s.drop q) = true := by
  rw [cut_at] at h
  rw [pre_take, h]; simp
theorem pre_not {s w : List UInt8} {q : Nat} (h : ¬ List.drop ((q : Int)).toNat (List.take ((q : Int) + (w.length : Int)).toNat s) = w) : w.isPrefixOf (s.drop q) = false := by
  rw [cut_at] at h
  rw [pre_take, decide_eq_false_iff_not]; exact h
theorem pre_long {l w : List UInt8} (h : l.length < w.length) : w.isPrefixOf l = false := by
  rw [pre_take, decide_eq_false_iff_not]
  intro e
  have := congrArg List.length e
  rw [List.length_take] at this
  omega
end Go.Aw
namespace Go.Proofs.YtkcapphlemoccaaGreatDoor
open Go Go.Aw
section
variable {st : St} {R : Res → St → Prop}
theorem rrun_blank {s : List UInt8} {i : Int} {q k : Nat} (hl : s.length ≤ 100000000) (hq : q ≤ s.length) (hk : spanR (fun c => classF c == 1) (s.drop q) = k) (e : i = (q : Int)) (h : R (.ret (.int .i64 (q + k : Nat))) st) : PC 49 [.str s, .int .i64 i, .int .i64 1] st R := by
  subst e; exact rrun_k hl hq (by rw [hk]; exact h)
theorem rgap_c {p : Nat} {s : List UInt8} (hl : s.length ≤ 100000000) (h1 : hdF (s.drop p) = 92) (h : R (.ret (.int .i64 (gapE s p))) st) : PC 109 [.str s, .int .i64 p] st R := by
  refine pcalls_of_body tys_ok [] Tryz.func109 rfl (by decide) ?_
  have hp1 : p < s.length := hdF_lt_len (k := p) (by omega)
  have hr := spanR_le (fun c => classF c == 1) (s.drop (p + 1))
  have hgn := gapN_at (s := s) (p := p)
  have hge : ∀ x : Int, (gapN (s.drop p) = 0 ∧ x = 0) ∨ (gapN (s.drop p) ≠ 0 ∧ x = p + gapN (s.drop p)) → gapE s p = x := fun x hx => by unfold gapE; split <;> omega
  rw [List.length_drop] at hr
  generalize hk : spanR (fun c => classF c == 1) (s.drop (p + 1)) = k at hr hgn
  by_cases hlt : p + 1 + k < s.length
  · obtain ⟨e, he⟩ : ∃ e, s[p + 1 + k]? = some e := ⟨s[p + 1 + k], List.getElem?_eq_getElem hlt⟩
    have he' : s[((p + 1 + k : Nat) : Int).toNat]? = some e := he
    have hv := hdF_at he
    rw [hv] at hgn
    repeat' ((conv => whnf); first
      | (with_reducible first | exact Wa | exact Wb | exact Wc | refine Wd (by kernel_rfl) ?_ | refine We ?_ ?_ ?_ | refine W8 (by decide +kernel) ?_ ?_ ?_ | refine W9 ?_ ?_ ?_ | refine Wt (by first | assumption | omega) ?_ | refine Wu (by first | assumption | omega) ?_ | refine Wv (by omega) ?_ | refine Ww (by omega) ?_ | refine Wf (by decide) (fun _ => ?_) (fun _ => ?_) | refine Wg (fun _ => ?_) (fun _ => ?_) | refine Wh (fun _ => ?_) (fun _ => ?_) | refine Wi ?_ | refine Wj ?_ | refine Wk (fun _ => ?_) (fun _ => ?_) | refine Wl (fun _ => ?_) | refine Wm (by assumption) (by omega) ?_ | refine Wn (by omega) (by omega) (fun _ _ _ => ?_) | refine Wo (by omega) (by omega) ?_ | refine Wp (by omega) (by omega) (by omega) ?_ | refine Wq (by omega) (by omega) ?_ | refine Wr (by decide) (by omega) (by omega) ?_ | refine Ws (by decide) ?_ | refine Wx (fun _ => ?_) ?_ | refine Wy (fun _ => ?_) ?_ | refine Wz (fun _ => ?_) | refine WA (fun _ => ?_) | refine WB (by assumption) (by omega) ?_ | refine WC (by omega) (by omega) (fun _ _ => ?_) | refine WD (by omega) (by omega) (fun _ _ => ?_) | refine WE (by omega) (by omega) (by omega) ?_ | refine WJ (fun _ => ?_) | refine WK (fun _ _ _ => ?_) | refine WL (by assumption) (by omega) ?_ | refine WM (by omega) (by omega) (fun _ _ => ?_) | refine WN (by omega) (by omega) ?_ | refine WO (by omega) (by omega) ?_ | refine WP (by omega) (by omega) (by omega) ?_)
      | refine rrun_blank (q := p + 1) hl (by omega) hk (by omega) ?_
      | with_reducible refine WF ?_)
    all_goals exact fin h (int_ret (hge _ (by split at hgn <;> omega)))
  · have hv := hdF_none (s := s) (i := p + 1 + k) (by omega)
    rw [hv] at hgn
    repeat' ((conv => whnf); first
      | (with_reducible first | exact Wa | exact Wb | exact Wc | refine Wd (by kernel_rfl) ?_ | refine We ?_ ?_ ?_ | refine W8 (by decide +kernel) ?_ ?_ ?_ | refine W9 ?_ ?_ ?_ | refine Wt (by first | assumption | omega) ?_ | refine Wu (by first | assumption | omega) ?_ | refine Wv (by omega) ?_ | refine Ww (by omega) ?_ | refine Wf (by decide) (fun _ => ?_) (fun _ => ?_) | refine Wg (fun _ => ?_) (fun _ => ?_) | refine Wh (fun _ => ?_) (fun _ => ?_) | refine Wi ?_ | refine Wj ?_ | refine Wk (fun _ => ?_) (fun _ => ?_) | refine Wl (fun _ => ?_) | refine Wm (by assumption) (by omega) ?_ | refine Wn (by omega) (by omega) (fun _ _ _ => ?_) | refine Wo (by omega) (by omega) ?_ | refine Wp (by omega) (by omega) (by omega) ?_ | refine Wq (by omega) (by omega) ?_ | refine Wr (by decide) (by omega) (by omega) ?_ | refine Ws (by decide) ?_ | refine Wx (fun _ => ?_) ?_ | refine Wy (fun _ => ?_) ?_ | refine Wz (fun _ => ?_) | refine WA (fun _ => ?_) | refine WB (by assumption) (by omega) ?_ | refine WC (by omega) (by omega) (fun _ _ => ?_) | refine WD (by omega) (by omega) (fun _ _ => ?_) | refine WE (by omega) (by omega) (by omega) ?_ | refine WJ (fun _ => ?_) | refine WK (fun _ _ _ => ?_) | refine WL (by assumption) (by omega) ?_ | refine WM (by omega) (by omega) (fun _ _ => ?_) | refine WN (by omega) (by omega) ?_ | refine WO (by omega) (by omega) ?_ | refine WP (by omega) (by omega) (by omega) ?_)
      | refine rrun_blank (q := p + 1) hl (by omega) hk (by omega) ?_
      | with_reducible refine WF ?_)
    all_goals exact fin h (int_ret (hge _ (by split at hgn <;> omega)))
theorem rnames_c (h : R (.ret (.slice 1 (strs nameT) .any)) st) : PC 127 [] st R := by
  refine pcalls_of_body tys_ok [] Tryz.func127 rfl (by decide) ?_
  repeat' ((conv => whnf); first
    | (with_reducible first | exact Wa | exact Wb | exact Wc | refine Wd (by kernel_rfl) ?_ | refine We ?_ ?_ ?_ | refine W8 (by decide +kernel) ?_ ?_ ?_ | refine W9 ?_ ?_ ?_ | refine Wt (by first | assumption | omega) ?_ | refine Wu (by first | assumption | omega) ?_ | refine Wv (by omega) ?_ | refine Ww (by omega) ?_ | refine Wf (by decide) (fun _ => ?_) (fun _ => ?_) | refine Wg (fun _ => ?_) (fun _ => ?_) | refine Wh (fun _ => ?_) (fun _ => ?_) | refine Wi ?_ | refine Wj ?_ | refine Wk (fun _ => ?_) (fun _ => ?_) | refine Wl (fun _ => ?_) | refine Wm (by assumption) (by omega) ?_ | refine Wn (by omega) (by omega) (fun _ _ _ => ?_) | refine Wo (by omega) (by omega) ?_ | refine Wp (by omega) (by omega) (by omega) ?_ | refine Wq (by omega) (by omega) ?_ | refine Wr (by decide) (by omega) (by omega) ?_ | refine Ws (by decide) ?_ | refine Wx (fun _ => ?_) ?_ | refine Wy (fun _ => ?_) ?_ | refine Wz (fun _ => ?_) | refine WA (fun _ => ?_) | refine WB (by assumption) (by omega) ?_ | refine WC (by omega) (by omega) (fun _ _ => ?_) | refine WD (by omega) (by omega) (fun _ _ => ?_) | refine WE (by omega) (by omega) (by omega) ?_ | refine WJ (fun _ => ?_) | refine WK (fun _ _ _ => ?_) | refine WL (by assumption) (by omega) ?_ | refine WM (by omega) (by omega) (fun _ _ => ?_) | refine WN (by omega) (by omega) ?_ | refine WO (by omega) (by omega) ?_ | refine WP (by omega) (by omega) (by omega) ?_)
    | with_reducible refine WF ?_)
  all_goals exact finw rfl h
theorem rbegins_c {s w : List UInt8} {i : Int} {q : Nat} (hl : s.length ≤ 100000000) (hw : w.length ≤ 10) (hq : q ≤ s.length) (e : i = (q : Int)) (h : R (.ret (.bool (w.isPrefixOf (s.drop q)))) st) : PC 128 [.str s, .int .i64 i, .str w] st R := by
  subst e
  refine pcalls_of_body tys_ok [] Tryz.func128 rfl (by decide) ?_
  repeat' ((conv => whnf); first
    | (with_reducible first | exact Wa | exact Wb | exact Wc | refine Wd (by kernel_rfl) ?_ | refine We ?_ ?_ ?_ | refine W8 (by decide +kernel) ?_ ?_ ?_ | refine W9 ?_ ?_ ?_ | refine Wt (by first | assumption | omega) ?_ | refine Wu (by first | assumption | omega) ?_ | refine Wv (by omega) ?_ | refine Ww (by omega) ?_ | refine Wf (by decide) (fun _ => ?_) (fun _ => ?_) | refine Wg (fun _ => ?_) (fun _ => ?_) | refine Wh (fun _ => ?_) (fun _ => ?_) | refine Wi ?_ | refine Wj ?_ | refine Wk (fun _ => ?_) (fun _ => ?_) | refine Wl (fun _ => ?_) | refine Wm (by assumption) (by omega) ?_ | refine Wn (by omega) (by omega) (fun _ _ _ => ?_) | refine Wo (by omega) (by omega) ?_ | refine Wp (by omega) (by omega) (by omega) ?_ | refine Wq (by omega) (by omega) ?_ | refine Wr (by decide) (by omega) (by omega) ?_ | refine Ws (by decide) ?_ | refine Wx (fun _ => ?_) ?_ | refine Wy (fun _ => ?_) ?_ | refine Wz (fun _ => ?_) | refine WA (fun _ => ?_) | refine WB (by assumption) (by omega) ?_ | refine WC (by omega) (by omega) (fun _ _ => ?_) | refine WD (by omega) (by omega) (fun _ _ => ?_) | refine WE (by omega) (by omega) (by omega) ?_ | refine WJ (fun _ => ?_) | refine WK (fun _ _ _ => ?_) | refine WL (by assumption) (by omega) ?_ | refine WM (by omega) (by omega) (fun _ _ => ?_) | refine WN (by omega) (by omega) ?_ | refine WO (by omega) (by omega) ?_ | refine WP (by omega) (by omega) (by omega) ?_)
    | with_reducible refine WF ?_)
  · rename_i e1 e2
    exact fin_bool h (by rw [pre_at e2])
  · rename_i e1 e2
    exact fin_bool h (by rw [pre_not e2])
  · rename_i e1
    exact fin_bool h (by rw [pre_long (by rw [List.length_drop]; omega)])
end
end Go.Proofs.YtkcapphlemoccaaGreatDoor
set_option linter.unusedVariables false
namespace Go.Aw
open Go
def Esc (l : List UInt8) (i : Nat) (v e : Int) : Prop :=
  (v = -2 ∧ escF true l = some (-1, 2) ∧ escF false l = none ∧ e = i + 2) ∨ (v = -1 ∧ ∀ tx, escF tx l = none) ∨ (0 ≤ v ∧ ∃ n : Nat, (∀ tx, escF tx l = some (v, n)) ∧ e = (i : Int) + n)
theorem esc_none {l : List UInt8} (h : sgnF (hdF (l.drop 1)) = none) (h1 : hdF (l.drop 1) ≠ 38) (h2 : ¬ (hdF (l.drop 1) = 94 ∧ 64 ≤ hdF (l.drop 2) ∧ hdF (l.drop 2) ≤ 95)) (h3 : hdF (l.drop 1) ≠ 111) (h4 : hdF (l.drop 1) ≠ 120) (h5 : ¬ (48 ≤ hdF (l.drop 1) ∧ hdF (l.drop 1) ≤ 57)) (h6 : (namF (l.drop 1)).2 = 0) (tx : Bool) : escF tx l = none := by
  rw [escF_nam h (fun x => h1 x.1) h2 h3 h4 h5, if_neg (by omega)]
theorem esc_num {l r : List UInt8} {b : Int} {k i : Nat} (hb : 1 ≤ b) (h : ∀ tx, escF tx l = (numV b r).map fun p => (p.1, k + p.2)) : Esc l i (rnvF b r) (((i + k + rowN b r : Nat)) : Int) := by
  have hv := valF_min b 0 r hb (by omega) (by omega)
  unfold numV at h
  unfold rnvF
  split
  · rename_i hc
    rw [if_pos hc] at h
    exact .inr (.inl ⟨rfl, h⟩)
  · rename_i hc
    rw [if_neg hc] at h
    exact .inr (.inr ⟨hv.1, k + rowN b r, h, by omega⟩)
end Go.Aw
namespace Go.Proofs.YtkcapphlemoccaaGreatDoor
open Go Go.Aw
section
variable {st : St} {R : Res → St → Prop}
theorem short_v {c v : Int} (e : shrF c = v) (h0 : 0 ≤ c) (h1 : c ≤ 255) (h : R (.ret (.int .i64 v)) st) : PC 125 [.int .u8 c] st R := by
  subst e; exact short_c h0 h1 h
theorem rqnum_v {s : List UInt8} {b i : Int} {q : Nat} (e : i = (q : Int)) (hl : s.length ≤ 100000000) (hq : q ≤ s.length) (hb : b = 8 ∨ b = 10 ∨ b = 16) (h : R (.ret (.tup [.int .i64 (rnvF b (s.drop q)), .int .i64 (q + rowN b (s.drop q) : Nat)])) st) : PC 126 [.str s, .int .i64 i, .int .i64 b] st R := by
  subst e; exact rqnum_c hl hq hb h
theorem resc_c {s : List UInt8} {i : Nat} (hl : s.length ≤ 100000000) (hi : i < s.length) (h : ∀ v e, Esc (s.drop i) i v e → R (.ret (.tup [.int .i64 v, .int .i64 e])) st) : PC 110 [.str s, .int .i64 i] st R := by
  refine pcalls_of_body tys_ok [] Tryz.func110 rfl (by decide) ?_
  have d1 : (s.drop i).drop 1 = s.drop (i + 1) := List.drop_drop
  have d2 : (s.drop i).drop 2 = s.drop (i + 2) := List.drop_drop
  have n0 := esc_none (l := s.drop i)
  have n1 := fun tx v => escF_sgn (tx := tx) (l := s.drop i) (v := v)
  have n2 := escF_amp (l := s.drop i)
  have n3 := fun tx => escF_ctl (tx := tx) (l := s.drop i)
  have n4 := fun tx => escF_oct (tx := tx) (l := s.drop i)
  have n5 := fun tx => escF_hex (tx := tx) (l := s.drop i)
  have n6 := fun tx => escF_dec (tx := tx) (l := s.drop i)
  have n7 := fun tx => escF_nam (tx := tx) (l := s.drop i)
  rw [d1, d2] at n0
  simp only [d1, d2] at n1 n2 n3 n4 n5 n6 n7
  by_cases hlt : i + 1 < s.length
  · obtain ⟨e, he⟩ : ∃ e, s[i + 1]? = some e := ⟨s[i + 1], List.getElem?_eq_getElem hlt⟩
    have he' : s[((i : Int) + 1).toNat]? = some e := by rw [show ((i : Int) + 1).toNat = i + 1 by omega]; exact he
    have hv := hdF_at he
    have hr := e.toNat_lt
    rw [hv] at n0 n1 n2 n3 n4 n5 n6 n7
    rcases hs : sgnF ((e.toNat : Nat) : Int) with _ | v
    · by_cases h38 : ((e.toNat : Nat) : Int) = 38
      · have hsh : shrF ((e.toNat : Nat) : Int) = -2 := by unfold shrF; rw [hs]; exact if_pos h38
        have a2 : escF false (s.drop i) = none := by
          rw [n7 false hs (by simp) (by omega) (by omega) (by omega) (by omega), namF_0 (by rw [hv]; omega)]; rfl
        have a1 := n2 h38
        clear n0 n1 n2 n3 n4 n5 n6 n7
        repeat' ((conv => whnf); first
          | (with_reducible first | exact Wa | exact Wb | exact Wc | refine Wd (by kernel_rfl) ?_ | refine We ?_ ?_ ?_ | refine W8 (by decide +kernel) ?_ ?_ ?_ | refine W9 ?_ ?_ ?_ | refine Wt (by first | assumption | omega) ?_ | refine Wu (by first | assumption | omega) ?_ | refine Wv (by omega) ?_ | refine Ww (by omega) ?_ | refine Wf (by decide) (fun _ => ?_) (fun _ => ?_) | refine Wg (fun _ => ?_) (fun _ => ?_) | refine Wh (fun _ => ?_) (fun _ => ?_) | refine Wi ?_ | refine Wj ?_ | refine Wk (fun _ => ?_) (fun _ => ?_) | refine Wl (fun _ => ?_) | refine Wm (by assumption) (by omega) ?_ | refine Wn (by omega) (by omega) (fun _ _ _ => ?_) | refine Wo (by omega) (by omega) ?_ | refine Wp (by omega) (by omega) (by omega) ?_ | refine Wq (by omega) (by omega) ?_ | refine Wr (by decide) (by omega) (by omega) ?_ | refine Ws (by decide) ?_ | refine Wx (fun _ => ?_) ?_ | refine Wy (fun _ => ?_) ?_ | refine Wz (fun _ => ?_) | refine WA (fun _ => ?_) | refine WB (by assumption) (by omega) ?_ | refine WC (by omega) (by omega) (fun _ _ => ?_) | refine WD (by omega) (by omega) (fun _ _ => ?_) | refine WE (by omega) (by omega) (by omega) ?_ | refine WJ (fun _ => ?_) | refine WK (fun _ _ _ => ?_) | refine WL (by assumption) (by omega) ?_ | refine WM (by omega) (by omega) (fun _ _ => ?_) | refine WN (by omega) (by omega) ?_ | refine WO (by omega) (by omega) ?_ | refine WP (by omega) (by omega) (by omega) ?_)
          | refine short_v hsh (by omega) (by omega) ?_
          | with_reducible refine WF ?_)
        all_goals exact finr rfl (h _ _ (.inl ⟨rfl, a1, a2, by omega⟩))
      · have hsh : shrF ((e.toNat : Nat) : Int) = -1 := by unfold shrF; rw [hs]; exact if_neg h38
        by_cases h94 : ((e.toNat : Nat) : Int) = 94
        · skip
          have hno := n0 hs h38
          have hnm : (namF (s.drop (i + 1))).2 = 0 := by rw [namF_0 (by rw [hv]; omega)]
          have hno := fun x => hno x (by omega) (by omega) (by omega) hnm
          have hye := fun tx => n3 tx h94
          clear n0 n1 n2 n3 n4 n5 n6 n7
          by_cases hl2 : i + 2 < s.length
          · obtain ⟨e2, he2⟩ : ∃ e, s[i + 2]? = some e := ⟨s[i + 2], List.getElem?_eq_getElem hl2⟩
            have he2' : s[((i : Int) + 1 + 1).toNat]? = some e2 := by rw [show ((i : Int) + 1 + 1).toNat = i + 2 by omega]; exact he2
            have hv2 := hdF_at he2
            have hr2 := e2.toNat_lt
            rw [hv2] at hno hye
            by_cases hin : 64 ≤ ((e2.toNat : Nat) : Int) ∧ ((e2.toNat : Nat) : Int) ≤ 95
            · have hye := fun tx => hye tx hin.1 hin.2
              repeat' ((conv => whnf); first
                | (with_reducible first | exact Wa | exact Wb | exact Wc | refine Wd (by kernel_rfl) ?_ | refine We ?_ ?_ ?_ | refine W8 (by decide +kernel) ?_ ?_ ?_ | refine W9 ?_ ?_ ?_ | refine Wt (by first | assumption | omega) ?_ | refine Wu (by first | assumption | omega) ?_ | refine Wv (by omega) ?_ | refine Ww (by omega) ?_ | refine Wf (by decide) (fun _ => ?_) (fun _ => ?_) | refine Wg (fun _ => ?_) (fun _ => ?_) | refine Wh (fun _ => ?_) (fun _ => ?_) | refine Wi ?_ | refine Wj ?_ | refine Wk (fun _ => ?_) (fun _ => ?_) | refine Wl (fun _ => ?_) | refine Wm (by assumption) (by omega) ?_ | refine Wn (by omega) (by omega) (fun _ _ _ => ?_) | refine Wo (by omega) (by omega) ?_ | refine Wp (by omega) (by omega) (by omega) ?_ | refine Wq (by omega) (by omega) ?_ | refine Wr (by decide) (by omega) (by omega) ?_ | refine Ws (by decide) ?_ | refine Wx (fun _ => ?_) ?_ | refine Wy (fun _ => ?_) ?_ | refine Wz (fun _ => ?_) | refine WA (fun _ => ?_) | refine WB (by assumption) (by omega) ?_ | refine WC (by omega) (by omega) (fun _ _ => ?_) | refine WD (by omega) (by omega) (fun _ _ => ?_) | refine WE (by omega) (by omega) (by omega) ?_ | refine WJ (fun _ => ?_) | refine WK (fun _ _ _ => ?_) | refine WL (by assumption) (by omega) ?_ | refine WM (by omega) (by omega) (fun _ _ => ?_) | refine WN (by omega) (by omega) ?_ | refine WO (by omega) (by omega) ?_ | refine WP (by omega) (by omega) (by omega) ?_)
                | refine short_v hsh (by omega) (by omega) ?_
                | refine conv_byte ?_
                | with_reducible refine WF ?_)
              all_goals exact finr rfl (h _ _ (.inr (.inr ⟨by omega, 3, hye, by omega⟩)))
            · have hno := hno (fun x => hin x.2)
              repeat' ((conv => whnf); first
                | (with_reducible first | exact Wa | exact Wb | exact Wc | refine Wd (by kernel_rfl) ?_ | refine We ?_ ?_ ?_ | refine W8 (by decide +kernel) ?_ ?_ ?_ | refine W9 ?_ ?_ ?_ | refine Wt (by first | assumption | omega) ?_ | refine Wu (by first | assumption | omega) ?_ | refine Wv (by omega) ?_ | refine Ww (by omega) ?_ | refine Wf (by decide) (fun _ => ?_) (fun _ => ?_) | refine Wg (fun _ => ?_) (fun _ => ?_) | refine Wh (fun _ => ?_) (fun _ => ?_) | refine Wi ?_ | refine Wj ?_ | refine Wk (fun _ => ?_) (fun _ => ?_) | refine Wl (fun _ => ?_) | refine Wm (by assumption) (by omega) ?_ | refine Wn (by omega) (by omega) (fun _ _ _ => ?_) | refine Wo (by omega) (by omega) ?_ | refine Wp (by omega) (by omega) (by omega) ?_ | refine Wq (by omega) (by omega) ?_ | refine Wr (by decide) (by omega) (by omega) ?_ | refine Ws (by decide) ?_ | refine Wx (fun _ => ?_) ?_ | refine Wy (fun _ => ?_) ?_ | refine Wz (fun _ => ?_) | refine WA (fun _ => ?_) | refine WB (by assumption) (by omega) ?_ | refine WC (by omega) (by omega) (fun _ _ => ?_) | refine WD (by omega) (by omega) (fun _ _ => ?_) | refine WE (by omega) (by omega) (by omega) ?_ | refine WJ (fun _ => ?_) | refine WK (fun _ _ _ => ?_) | refine WL (by assumption) (by omega) ?_ | refine WM (by omega) (by omega) (fun _ _ => ?_) | refine WN (by omega) (by omega) ?_ | refine WO (by omega) (by omega) ?_ | refine WP (by omega) (by omega) (by omega) ?_)
                | refine short_v hsh (by omega) (by omega) ?_
                | refine conv_byte ?_
                | with_reducible refine WF ?_)
              all_goals exact finr rfl (h _ _ (.inr (.inl ⟨rfl, hno⟩)))
          · have hv2 := hdF_none (s := s) (i := i + 2) (by omega)
            rw [hv2] at hno
            have hno := hno (fun x => by omega)
            repeat' ((conv => whnf); first
              | (with_reducible first | exact Wa | exact Wb | exact Wc | refine Wd (by kernel_rfl) ?_ | refine We ?_ ?_ ?_ | refine W8 (by decide +kernel) ?_ ?_ ?_ | refine W9 ?_ ?_ ?_ | refine Wt (by first | assumption | omega) ?_ | refine Wu (by first | assumption | omega) ?_ | refine Wv (by omega) ?_ | refine Ww (by omega) ?_ | refine Wf (by decide) (fun _ => ?_) (fun _ => ?_) | refine Wg (fun _ => ?_) (fun _ => ?_) | refine Wh (fun _ => ?_) (fun _ => ?_) | refine Wi ?_ | refine Wj ?_ | refine Wk (fun _ => ?_) (fun _ => ?_) | refine Wl (fun _ => ?_) | refine Wm (by assumption) (by omega) ?_ | refine Wn (by omega) (by omega) (fun _ _ _ => ?_) | refine Wo (by omega) (by omega) ?_ | refine Wp (by omega) (by omega) (by omega) ?_ | refine Wq (by omega) (by omega) ?_ | refine Wr (by decide) (by omega) (by omega) ?_ | refine Ws (by decide) ?_ | refine Wx (fun _ => ?_) ?_ | refine Wy (fun _ => ?_) ?_ | refine Wz (fun _ => ?_) | refine WA (fun _ => ?_) | refine WB (by assumption) (by omega) ?_ | refine WC (by omega) (by omega) (fun _ _ => ?_) | refine WD (by omega) (by omega) (fun _ _ => ?_) | refine WE (by omega) (by omega) (by omega) ?_ | refine WJ (fun _ => ?_) | refine WK (fun _ _ _ => ?_) | refine WL (by assumption) (by omega) ?_ | refine WM (by omega) (by omega) (fun _ _ => ?_) | refine WN (by omega) (by omega) ?_ | refine WO (by omega) (by omega) ?_ | refine WP (by omega) (by omega) (by omega) ?_)
              | refine short_v hsh (by omega) (by omega) ?_
              | with_reducible refine WF ?_)
            all_goals exact finr rfl (h _ _ (.inr (.inl ⟨rfl, hno⟩)))
        · by_cases h111 : ((e.toNat : Nat) : Int) = 111
          · have hh := esc_num (i := i) (r := s.drop (i + 2)) (k := 2) (by decide) (fun tx => n4 tx h111)
            clear n0 n1 n2 n3 n4 n5 n6 n7
            repeat' ((conv => whnf); first
              | (with_reducible first | exact Wa | exact Wb | exact Wc | refine Wd (by kernel_rfl) ?_ | refine We ?_ ?_ ?_ | refine W8 (by decide +kernel) ?_ ?_ ?_ | refine W9 ?_ ?_ ?_ | refine Wt (by first | assumption | omega) ?_ | refine Wu (by first | assumption | omega) ?_ | refine Wv (by omega) ?_ | refine Ww (by omega) ?_ | refine Wf (by decide) (fun _ => ?_) (fun _ => ?_) | refine Wg (fun _ => ?_) (fun _ => ?_) | refine Wh (fun _ => ?_) (fun _ => ?_) | refine Wi ?_ | refine Wj ?_ | refine Wk (fun _ => ?_) (fun _ => ?_) | refine Wl (fun _ => ?_) | refine Wm (by assumption) (by omega) ?_ | refine Wn (by omega) (by omega) (fun _ _ _ => ?_) | refine Wo (by omega) (by omega) ?_ | refine Wp (by omega) (by omega) (by omega) ?_ | refine Wq (by omega) (by omega) ?_ | refine Wr (by decide) (by omega) (by omega) ?_ | refine Ws (by decide) ?_ | refine Wx (fun _ => ?_) ?_ | refine Wy (fun _ => ?_) ?_ | refine Wz (fun _ => ?_) | refine WA (fun _ => ?_) | refine WB (by assumption) (by omega) ?_ | refine WC (by omega) (by omega) (fun _ _ => ?_) | refine WD (by omega) (by omega) (fun _ _ => ?_) | refine WE (by omega) (by omega) (by omega) ?_ | refine WJ (fun _ => ?_) | refine WK (fun _ _ _ => ?_) | refine WL (by assumption) (by omega) ?_ | refine WM (by omega) (by omega) (fun _ _ => ?_) | refine WN (by omega) (by omega) ?_ | refine WO (by omega) (by omega) ?_ | refine WP (by omega) (by omega) (by omega) ?_)
              | refine short_v hsh (by omega) (by omega) ?_
              | refine rqnum_v (q := i + 2) (by omega) hl (by omega) (by decide) ?_
              | with_reducible refine WF ?_)
            all_goals exact finr rfl (h _ _ hh)
          · by_cases h120 : ((e.toNat : Nat) : Int) = 120
            · have hh := esc_num (i := i) (r := s.drop (i + 2)) (k := 2) (by decide) (fun tx => n5 tx h120)
              clear n0 n1 n2 n3 n4 n5 n6 n7
              repeat' ((conv => whnf); first
                | (with_reducible first | exact Wa | exact Wb | exact Wc | refine Wd (by kernel_rfl) ?_ | refine We ?_ ?_ ?_ | refine W8 (by decide +kernel) ?_ ?_ ?_ | refine W9 ?_ ?_ ?_ | refine Wt (by first | assumption | omega) ?_ | refine Wu (by first | assumption | omega) ?_ | refine Wv (by omega) ?_ | refine Ww (by omega) ?_ | refine Wf (by decide) (fun _ => ?_) (fun _ => ?_) | refine Wg (fun _ => ?_) (fun _ => ?_) | refine Wh (fun _ => ?_) (fun _ => ?_) | refine Wi ?_ | refine Wj ?_ | refine Wk (fun _ => ?_) (fun _ => ?_) | refine Wl (fun _ => ?_) | refine Wm (by assumption) (by omega) ?_ | refine Wn (by omega) (by omega) (fun _ _ _ => ?_) | refine Wo (by omega) (by omega) ?_ | refine Wp (by omega) (by omega) (by omega) ?_ | refine Wq (by omega) (by omega) ?_ | refine Wr (by decide) (by omega) (by omega) ?_ | refine Ws (by decide) ?_ | refine Wx (fun _ => ?_) ?_ | refine Wy (fun _ => ?_) ?_ | refine Wz (fun _ => ?_) | refine WA (fun _ => ?_) | refine WB (by assumption) (by omega) ?_ | refine WC (by omega) (by omega) (fun _ _ => ?_) | refine WD (by omega) (by omega) (fun _ _ => ?_) | refine WE (by omega) (by omega) (by omega) ?_ | refine WJ (fun _ => ?_) | refine WK (fun _ _ _ => ?_) | refine WL (by assumption) (by omega) ?_ | refine WM (by omega) (by omega) (fun _ _ => ?_) | refine WN (by omega) (by omega) ?_ | refine WO (by omega) (by omega) ?_ | refine WP (by omega) (by omega) (by omega) ?_)
                | refine short_v hsh (by omega) (by omega) ?_
                | refine rqnum_v (q := i + 2) (by omega) hl (by omega) (by decide) ?_
                | with_reducible refine WF ?_)
              all_goals exact finr rfl (h _ _ hh)
            · by_cases hdg : 48 ≤ ((e.toNat : Nat) : Int) ∧ ((e.toNat : Nat) : Int) ≤ 57
              · have hh := esc_num (i := i) (r := s.drop (i + 1)) (k := 1) (by decide) (fun tx => n6 tx hdg.1 hdg.2)
                clear n0 n1 n2 n3 n4 n5 n6 n7
                repeat' ((conv => whnf); first
                  | (with_reducible first | exact Wa | exact Wb | exact Wc | refine Wd (by kernel_rfl) ?_ | refine We ?_ ?_ ?_ | refine W8 (by decide +kernel) ?_ ?_ ?_ | refine W9 ?_ ?_ ?_ | refine Wt (by first | assumption | omega) ?_ | refine Wu (by first | assumption | omega) ?_ | refine Wv (by omega) ?_ | refine Ww (by omega) ?_ | refine Wf (by decide) (fun _ => ?_) (fun _ => ?_) | refine Wg (fun _ => ?_) (fun _ => ?_) | refine Wh (fun _ => ?_) (fun _ => ?_) | refine Wi ?_ | refine Wj ?_ | refine Wk (fun _ => ?_) (fun _ => ?_) | refine Wl (fun _ => ?_) | refine Wm (by assumption) (by omega) ?_ | refine Wn (by omega) (by omega) (fun _ _ _ => ?_) | refine Wo (by omega) (by omega) ?_ | refine Wp (by omega) (by omega) (by omega) ?_ | refine Wq (by omega) (by omega) ?_ | refine Wr (by decide) (by omega) (by omega) ?_ | refine Ws (by decide) ?_ | refine Wx (fun _ => ?_) ?_ | refine Wy (fun _ => ?_) ?_ | refine Wz (fun _ => ?_) | refine WA (fun _ => ?_) | refine WB (by assumption) (by omega) ?_ | refine WC (by omega) (by omega) (fun _ _ => ?_) | refine WD (by omega) (by omega) (fun _ _ => ?_) | refine WE (by omega) (by omega) (by omega) ?_ | refine WJ (fun _ => ?_) | refine WK (fun _ _ _ => ?_) | refine WL (by assumption) (by omega) ?_ | refine WM (by omega) (by omega) (fun _ _ => ?_) | refine WN (by omega) (by omega) ?_ | refine WO (by omega) (by omega) ?_ | refine WP (by omega) (by omega) (by omega) ?_)
                  | refine short_v hsh (by omega) (by omega) ?_
                  | refine rqnum_v (q := i + 1) (by omega) hl (by omega) (by decide) ?_
                  | with_reducible refine WF ?_)
                all_goals exact finr rfl (h _ _ hh)
              · have hnn := fun tx => n7 tx hs (by omega) (by omega) h111 h120 hdg
                clear n0 n1 n2 n3 n4 n5 n6 n7
                repeat' ((conv => whnf); first
                  | (with_reducible first | exact Wa | exact Wb | exact Wc | refine Wd (by kernel_rfl) ?_ | refine We ?_ ?_ ?_ | refine W8 (by decide +kernel) ?_ ?_ ?_ | refine W9 ?_ ?_ ?_ | refine Wt (by first | assumption | omega) ?_ | refine Wu (by first | assumption | omega) ?_ | refine Wv (by omega) ?_ | refine Ww (by omega) ?_ | refine Wf (by decide) (fun _ => ?_) (fun _ => ?_) | refine Wg (fun _ => ?_) (fun _ => ?_) | refine Wh (fun _ => ?_) (fun _ => ?_) | refine Wi ?_ | refine Wj ?_ | refine Wk (fun _ => ?_) (fun _ => ?_) | refine Wl (fun _ => ?_) | refine Wm (by assumption) (by omega) ?_ | refine Wn (by omega) (by omega) (fun _ _ _ => ?_) | refine Wo (by omega) (by omega) ?_ | refine Wp (by omega) (by omega) (by omega) ?_ | refine Wq (by omega) (by omega) ?_ | refine Wr (by decide) (by omega) (by omega) ?_ | refine Ws (by decide) ?_ | refine Wx (fun _ => ?_) ?_ | refine Wy (fun _ => ?_) ?_ | refine Wz (fun _ => ?_) | refine WA (fun _ => ?_) | refine WB (by assumption) (by omega) ?_ | refine WC (by omega) (by omega) (fun _ _ => ?_) | refine WD (by omega) (by omega) (fun _ _ => ?_) | refine WE (by omega) (by omega) (by omega) ?_ | refine WJ (fun _ => ?_) | refine WK (fun _ _ _ => ?_) | refine WL (by assumption) (by omega) ?_ | refine WM (by omega) (by omega) (fun _ _ => ?_) | refine WN (by omega) (by omega) ?_ | refine WO (by omega) (by omega) ?_ | refine WP (by omega) (by omega) (by omega) ?_)
                  | refine short_v hsh (by omega) (by omega) ?_
                  | refine rnames_c ?_
                  | with_reducible refine WF ?_)
                all_goals
                  refine loop_3 (α := Nat) (β := Int) (γ := Nat) (fun k v n => [(11, .int .i64 (k : Int)), (9, .int .i64 v), (8, .int .i64 (n : Int))]) (fun _ _ _ => []) [0, 6, 10] [] (fun _ _ _ => st)
                    (fun k v n => k ≤ nameT.length ∧ n ≤ 3 ∧ ∃ c : Nat, namG (s.drop (i + 1)) nameT 0 (0, 0) = namG (s.drop (i + 1)) (nameT.drop k) k (c, n) ∧ ((n = 0 ∧ v = -1) ∨ (0 < n ∧ v = c))) (fun k _ _ => nameT.length - k) 0 (-1) 0 ⟨Nat.zero_le _, by decide, 0, rfl, .inl ⟨rfl, rfl⟩⟩ (by refine ⟨rfl, ?_, ?_, rfl⟩ <;> repeat' (first | exact trivial | exact rfl | refine And.intro ?_ ?_)) (St.le_refl _) ?_
                  rintro k v n ⟨j1, j2, c, j3, j4⟩
                  rcases hx : nameT[k]? with _ | x
                  · have hge := List.getElem?_eq_none_iff.1 hx
                    rw [List.drop_eq_nil_iff.2 hge] at j3
                    have e1 := namF_of j3
                    rw [e1] at hnn
                    dsimp only at hnn
                    have hend : ∀ v' e' : Int, (n = 0 ∧ v' = -1) ∨ (0 < n ∧ v' = (if c = 33 then 127 else (c : Int)) ∧ e' = i + 1 + n) → Esc (s.drop i) i v' e' := fun v' e' hx => by
                      rcases hx with ⟨y1, y2⟩ | ⟨y1, y2, y3⟩
                      · exact .inr (.inl ⟨y2, fun tx => by rw [hnn tx, if_neg (by omega)]⟩)
                      · refine .inr (.inr ⟨by rw [y2]; split <;> omega, 1 + n, fun tx => by rw [hnn tx, if_pos y1, y2], by omega⟩)
                    clear hnn
                    rcases j4 with ⟨y1, rfl⟩ | ⟨y1, rfl⟩
                    · skip
                      repeat' ((conv => whnf); first
                        | (with_reducible first | exact Wa | exact Wb | exact Wc | refine Wd (by kernel_rfl) ?_ | refine We ?_ ?_ ?_ | refine W8 (by decide +kernel) ?_ ?_ ?_ | refine W9 ?_ ?_ ?_ | refine Wt (by first | assumption | omega) ?_ | refine Wu (by first | assumption | omega) ?_ | refine Wv (by omega) ?_ | refine Ww (by omega) ?_ | refine Wf (by decide) (fun _ => ?_) (fun _ => ?_) | refine Wg (fun _ => ?_) (fun _ => ?_) | refine Wh (fun _ => ?_) (fun _ => ?_) | refine Wi ?_ | refine Wj ?_ | refine Wk (fun _ => ?_) (fun _ => ?_) | refine Wl (fun _ => ?_) | refine Wm (by assumption) (by omega) ?_ | refine Wn (by omega) (by omega) (fun _ _ _ => ?_) | refine Wo (by omega) (by omega) ?_ | refine Wp (by omega) (by omega) (by omega) ?_ | refine Wq (by omega) (by omega) ?_ | refine Wr (by decide) (by omega) (by omega) ?_ | refine Ws (by decide) ?_ | refine Wx (fun _ => ?_) ?_ | refine Wy (fun _ => ?_) ?_ | refine Wz (fun _ => ?_) | refine WA (fun _ => ?_) | refine WB (by assumption) (by omega) ?_ | refine WC (by omega) (by omega) (fun _ _ => ?_) | refine WD (by omega) (by omega) (fun _ _ => ?_) | refine WE (by omega) (by omega) (by omega) ?_ | refine WJ (fun _ => ?_) | refine WK (fun _ _ _ => ?_) | refine WL (by assumption) (by omega) ?_ | refine WM (by omega) (by omega) (fun _ _ => ?_) | refine WN (by omega) (by omega) ?_ | refine WO (by omega) (by omega) ?_ | refine WP (by omega) (by omega) (by omega) ?_)
                        | refine len_strs (fun _ => ?_)
                        | with_reducible refine WF ?_)
                      all_goals exact finr rfl (h _ _ (hend _ _ (.inl ⟨y1, rfl⟩)))
                    · skip
                      repeat' ((conv => whnf); first
                        | (with_reducible first | exact Wa | exact Wb | exact Wc | refine Wd (by kernel_rfl) ?_ | refine We ?_ ?_ ?_ | refine W8 (by decide +kernel) ?_ ?_ ?_ | refine W9 ?_ ?_ ?_ | refine Wt (by first | assumption | omega) ?_ | refine Wu (by first | assumption | omega) ?_ | refine Wv (by omega) ?_ | refine Ww (by omega) ?_ | refine Wf (by decide) (fun _ => ?_) (fun _ => ?_) | refine Wg (fun _ => ?_) (fun _ => ?_) | refine Wh (fun _ => ?_) (fun _ => ?_) | refine Wi ?_ | refine Wj ?_ | refine Wk (fun _ => ?_) (fun _ => ?_) | refine Wl (fun _ => ?_) | refine Wm (by assumption) (by omega) ?_ | refine Wn (by omega) (by omega) (fun _ _ _ => ?_) | refine Wo (by omega) (by omega) ?_ | refine Wp (by omega) (by omega) (by omega) ?_ | refine Wq (by omega) (by omega) ?_ | refine Wr (by decide) (by omega) (by omega) ?_ | refine Ws (by decide) ?_ | refine Wx (fun _ => ?_) ?_ | refine Wy (fun _ => ?_) ?_ | refine Wz (fun _ => ?_) | refine WA (fun _ => ?_) | refine WB (by assumption) (by omega) ?_ | refine WC (by omega) (by omega) (fun _ _ => ?_) | refine WD (by omega) (by omega) (fun _ _ => ?_) | refine WE (by omega) (by omega) (by omega) ?_ | refine WJ (fun _ => ?_) | refine WK (fun _ _ _ => ?_) | refine WL (by assumption) (by omega) ?_ | refine WM (by omega) (by omega) (fun _ _ => ?_) | refine WN (by omega) (by omega) ?_ | refine WO (by omega) (by omega) ?_ | refine WP (by omega) (by omega) (by omega) ?_)
                        | refine len_strs (fun _ => ?_)
                        | with_reducible refine WF ?_)
                      all_goals first
                        | exact finr rfl (h _ _ (hend _ _ (.inr ⟨y1, by rw [if_pos (by omega)], by omega⟩)))
                        | exact finr rfl (h _ _ (hend _ _ (.inr ⟨y1, by rw [if_neg (by omega)], by omega⟩)))
                  · have hlx := (List.getElem?_eq_some_iff.1 hx).1
                    have hm := nameT_len x (List.mem_of_getElem? hx)
                    rw [namG_step hx] at j3
                    have hx' : nameT[((k : Int)).toNat]? = some x := hx
                    clear hnn h
                    repeat' ((conv => whnf); first
                      | (with_reducible first | exact Wa | exact Wb | exact Wc | refine Wd (by kernel_rfl) ?_ | refine We ?_ ?_ ?_ | refine W8 (by decide +kernel) ?_ ?_ ?_ | refine W9 ?_ ?_ ?_ | refine Wt (by first | assumption | omega) ?_ | refine Wu (by first | assumption | omega) ?_ | refine Wv (by omega) ?_ | refine Ww (by omega) ?_ | refine Wf (by decide) (fun _ => ?_) (fun _ => ?_) | refine Wg (fun _ => ?_) (fun _ => ?_) | refine Wh (fun _ => ?_) (fun _ => ?_) | refine Wi ?_ | refine Wj ?_ | refine Wk (fun _ => ?_) (fun _ => ?_) | refine Wl (fun _ => ?_) | refine Wm (by assumption) (by omega) ?_ | refine Wn (by omega) (by omega) (fun _ _ _ => ?_) | refine Wo (by omega) (by omega) ?_ | refine Wp (by omega) (by omega) (by omega) ?_ | refine Wq (by omega) (by omega) ?_ | refine Wr (by decide) (by omega) (by omega) ?_ | refine Ws (by decide) ?_ | refine Wx (fun _ => ?_) ?_ | refine Wy (fun _ => ?_) ?_ | refine Wz (fun _ => ?_) | refine WA (fun _ => ?_) | refine WB (by assumption) (by omega) ?_ | refine WC (by omega) (by omega) (fun _ _ => ?_) | refine WD (by omega) (by omega) (fun _ _ => ?_) | refine WE (by omega) (by omega) (by omega) ?_ | refine WJ (fun _ => ?_) | refine WK (fun _ _ _ => ?_) | refine WL (by assumption) (by omega) ?_ | refine WM (by omega) (by omega) (fun _ _ => ?_) | refine WN (by omega) (by omega) ?_ | refine WO (by omega) (by omega) ?_ | refine WP (by omega) (by omega) (by omega) ?_)
                      | refine at_strs hx' (by omega) ?_
                      | refine len_strs (fun _ => ?_)
                      | refine rbegins_c (q := i + 1) hl (by omega) (by omega) (by omega) ?_
                      | with_reducible refine WF ?_)
                    all_goals first
                      | (rw [if_pos ⟨by omega, by assumption⟩] at j3
                         conv => whnf
                         exact ⟨(k + 1, (k : Int), x.length), ⟨by dsimp only; omega, by dsimp only; omega, k, j3, .inr ⟨by dsimp only; omega, rfl⟩⟩, by dsimp only; omega, (by refine ⟨rfl, ?_, ?_, rfl⟩ <;> repeat' (first | exact trivial | exact rfl | refine And.intro ?_ ?_)), St.le_refl _⟩)
                      | (rw [if_neg (fun y => by omega)] at j3
                         conv => whnf
                         exact ⟨(k + 1, v, n), ⟨by dsimp only; omega, by dsimp only; omega, c, j3, j4⟩, by dsimp only; omega, (by refine ⟨rfl, ?_, ?_, rfl⟩ <;> repeat' (first | exact trivial | exact rfl | refine And.intro ?_ ?_)), St.le_refl _⟩)
                      | (have hp : x.isPrefixOf (s.drop (i + 1)) = false := by assumption
                         rw [if_neg (fun y => by rw [hp] at y; cases y.2)] at j3
                         conv => whnf
                         exact ⟨(k + 1, v, n), ⟨by dsimp only; omega, by dsimp only; omega, c, j3, j4⟩, by dsimp only; omega, (by refine ⟨rfl, ?_, ?_, rfl⟩ <;> repeat' (first | exact trivial | exact rfl | refine And.intro ?_ ?_)), St.le_refl _⟩)
    · have hp := sgnF_pos hs
      have hsh : shrF ((e.toNat : Nat) : Int) = v := by unfold shrF; rw [hs]
      have a1 := fun tx => n1 tx v hs
      clear n0 n1 n2 n3 n4 n5 n6 n7
      repeat' ((conv => whnf); first
        | (with_reducible first | exact Wa | exact Wb | exact Wc | refine Wd (by kernel_rfl) ?_ | refine We ?_ ?_ ?_ | refine W8 (by decide +kernel) ?_ ?_ ?_ | refine W9 ?_ ?_ ?_ | refine Wt (by first | assumption | omega) ?_ | refine Wu (by first | assumption | omega) ?_ | refine Wv (by omega) ?_ | refine Ww (by omega) ?_ | refine Wf (by decide) (fun _ => ?_) (fun _ => ?_) | refine Wg (fun _ => ?_) (fun _ => ?_) | refine Wh (fun _ => ?_) (fun _ => ?_) | refine Wi ?_ | refine Wj ?_ | refine Wk (fun _ => ?_) (fun _ => ?_) | refine Wl (fun _ => ?_) | refine Wm (by assumption) (by omega) ?_ | refine Wn (by omega) (by omega) (fun _ _ _ => ?_) | refine Wo (by omega) (by omega) ?_ | refine Wp (by omega) (by omega) (by omega) ?_ | refine Wq (by omega) (by omega) ?_ | refine Wr (by decide) (by omega) (by omega) ?_ | refine Ws (by decide) ?_ | refine Wx (fun _ => ?_) ?_ | refine Wy (fun _ => ?_) ?_ | refine Wz (fun _ => ?_) | refine WA (fun _ => ?_) | refine WB (by assumption) (by omega) ?_ | refine WC (by omega) (by omega) (fun _ _ => ?_) | refine WD (by omega) (by omega) (fun _ _ => ?_) | refine WE (by omega) (by omega) (by omega) ?_ | refine WJ (fun _ => ?_) | refine WK (fun _ _ _ => ?_) | refine WL (by assumption) (by omega) ?_ | refine WM (by omega) (by omega) (fun _ _ => ?_) | refine WN (by omega) (by omega) ?_ | refine WO (by omega) (by omega) ?_ | refine WP (by omega) (by omega) (by omega) ?_)
        | refine short_v hsh (by omega) (by omega) ?_
        | with_reducible refine WF ?_)
      all_goals exact finr rfl (h _ _ (.inr (.inr ⟨hp.2, 2, a1, by omega⟩)))
  · have hv := hdF_none (s := s) (i := i + 1) (by omega)
    rw [hv] at n0
    have hh := n0 rfl (by decide) (fun x => by omega) (by decide) (by decide) (by decide) (by rw [namF_0 (by rw [hv]; decide)])
    clear n0 n1 n2 n3 n4 n5 n6 n7
    repeat' ((conv => whnf); first
      | (with_reducible first | exact Wa | exact Wb | exact Wc | refine Wd (by kernel_rfl) ?_ | refine We ?_ ?_ ?_ | refine W8 (by decide +kernel) ?_ ?_ ?_ | refine W9 ?_ ?_ ?_ | refine Wt (by first | assumption | omega) ?_ | refine Wu (by first | assumption | omega) ?_ | refine Wv (by omega) ?_ | refine Ww (by omega) ?_ | refine Wf (by decide) (fun _ => ?_) (fun _ => ?_) | refine Wg (fun _ => ?_) (fun _ => ?_) | refine Wh (fun _ => ?_) (fun _ => ?_) | refine Wi ?_ | refine Wj ?_ | refine Wk (fun _ => ?_) (fun _ => ?_) | refine Wl (fun _ => ?_) | refine Wm (by assumption) (by omega) ?_ | refine Wn (by omega) (by omega) (fun _ _ _ => ?_) | refine Wo (by omega) (by omega) ?_ | refine Wp (by omega) (by omega) (by omega) ?_ | refine Wq (by omega) (by omega) ?_ | refine Wr (by decide) (by omega) (by omega) ?_ | refine Ws (by decide) ?_ | refine Wx (fun _ => ?_) ?_ | refine Wy (fun _ => ?_) ?_ | refine Wz (fun _ => ?_) | refine WA (fun _ => ?_) | refine WB (by assumption) (by omega) ?_ | refine WC (by omega) (by omega) (fun _ _ => ?_) | refine WD (by omega) (by omega) (fun _ _ => ?_) | refine WE (by omega) (by omega) (by omega) ?_ | refine WJ (fun _ => ?_) | refine WK (fun _ _ _ => ?_) | refine WL (by assumption) (by omega) ?_ | refine WM (by omega) (by omega) (fun _ _ => ?_) | refine WN (by omega) (by omega) ?_ | refine WO (by omega) (by omega) ?_ | refine WP (by omega) (by omega) (by omega) ?_)
      | with_reducible refine WF ?_)
    all_goals exact finr rfl (h _ _ (.inr (.inl ⟨rfl, hh⟩)))
end
end Go.Proofs.YtkcapphlemoccaaGreatDoor
set_option linter.unusedVariables false
namespace Go.Aw
open Go
theorem gapE_0 {s : List UInt8} {p : Nat} (h : gapN (s.drop p) = 0) : gapE s p = 0 := by unfold gapE; rw [if_pos h]
theorem gapE_1 {s : List UInt8} {p : Nat} (h : 0 < gapN (s.drop p)) : gapE s p = (p + gapN (s.drop p) : Nat) := by unfold gapE; rw [if_neg (by omega)]
theorem esc_t {l : List UInt8} {i : Nat} {v e : Int} (h : oneF true l = match escF true l with | none => .inl 51 | some p => .inr p) (k : Esc l i v e) :
    (v = -1 → oneF true l = .inl 51) ∧ (v ≠ -1 → ∃ (u : Int) (n : Nat), oneF true l = .inr (u, n) ∧ v = (if u = -1 then -2 else u) ∧ e = (i : Int) + n) := by
  rcases k with ⟨k1, k2, k3, k4⟩ | ⟨k1, k2⟩ | ⟨k1, n, k2, k3⟩
  · rw [k2] at h
    exact ⟨fun x => by omega, fun _ => ⟨-1, 2, h, by rw [if_pos rfl]; exact k1, k4⟩⟩
  · rw [k2] at h
    exact ⟨fun _ => h, fun x => absurd k1 x⟩
  · rw [k2] at h
    exact ⟨fun x => by omega, fun _ => ⟨v, n, h, by rw [if_neg (by omega)], k3⟩⟩
theorem esc_f {l : List UInt8} {i : Nat} {v e : Int} (h : oneF false l = match escF false l with | none => .inl 51 | some p => .inr p) (k : Esc l i v e) :
    (v = -1 ∨ v = -2 → oneF false l = .inl 51) ∧ (v ≠ -1 → v ≠ -2 → ∃ (u : Int) (n : Nat), oneF false l = .inr (u, n) ∧ v = (if u = -1 then -2 else u) ∧ e = (i : Int) + n) := by
  rcases k with ⟨k1, k2, k3, k4⟩ | ⟨k1, k2⟩ | ⟨k1, n, k2, k3⟩
  · rw [k3] at h
    exact ⟨fun _ => h, fun _ x => absurd k1 x⟩
  · rw [k2] at h
    exact ⟨fun _ => h, fun x => absurd k1 x⟩
  · rw [k2] at h
    exact ⟨fun x => by omega, fun _ _ => ⟨v, n, h, by rw [if_neg (by omega)], k3⟩⟩
end Go.Aw
namespace Go.Proofs.YtkcapphlemoccaaGreatDoor
open Go Go.Aw
section
variable {st : St} {R : Res → St → Prop}
theorem rgap_v {p : Nat} {s : List UInt8} {v : Int} (e : gapE s p = v) (hl : s.length ≤ 100000000) (h1 : hdF (s.drop p) = 92) (h : R (.ret (.int .i64 v)) st) : PC 109 [.str s, .int .i64 p] st R := by
  subst e; exact rgap_c hl h1 h
theorem rone_c {s : List UInt8} {i : Nat} {tx : Bool} (hl : s.length ≤ 100000000) (hi : i ≤ s.length) (h0 : ∀ e, oneF tx (s.drop i) = .inl e → R (.ret (.tup [.int .i64 0, .int .i64 i, .int .i64 e])) st)
    (h : ∀ v n, oneF tx (s.drop i) = .inr (v, n) → ∀ c d : Int, c = (if v = -1 then -2 else v) → d = (i : Int) + n → R (.ret (.tup [.int .i64 c, .int .i64 d, .int .i64 0])) st) : PC 92 [.str s, .int .i64 i, .bool tx] st R := by
  refine pcalls_of_body tys_ok [] Tryz.func92 rfl (by decide) ?_
  by_cases hlt : i < s.length
  · obtain ⟨e, he⟩ : ∃ e, s[i]? = some e := ⟨s[i], List.getElem?_eq_getElem hlt⟩
    have he' : s[(i : Int).toNat]? = some e := he
    have hv := hdF_at he
    have hne : s.drop i ≠ [] := fun x => by have := congrArg List.length x; rw [List.length_drop, List.length_nil] at this; omega
    by_cases h92 : ((e.toNat : Nat) : Int) = 92
    · have hq : hdF (s.drop i) = 92 := by omega
      by_cases hg : 0 < gapN (s.drop i)
      · have hge := gapE_1 hg
        cases tx with
        | true =>
          have hone := oneF_gap hg
          clear h0
          repeat' ((conv => whnf); first
            | (with_reducible first | exact Wa | exact Wb | exact Wc | refine Wd (by kernel_rfl) ?_ | refine We ?_ ?_ ?_ | refine W8 (by decide +kernel) ?_ ?_ ?_ | refine W9 ?_ ?_ ?_ | refine Wt (by first | assumption | omega) ?_ | refine Wu (by first | assumption | omega) ?_ | refine Wv (by omega) ?_ | refine Ww (by omega) ?_ | refine Wf (by decide) (fun _ => ?_) (fun _ => ?_) | refine Wg (fun _ => ?_) (fun _ => ?_) | refine Wh (fun _ => ?_) (fun _ => ?_) | refine Wi ?_ | refine Wj ?_ | refine Wk (fun _ => ?_) (fun _ => ?_) | refine Wl (fun _ => ?_) | refine Wm (by assumption) (by omega) ?_ | refine Wn (by omega) (by omega) (fun _ _ _ => ?_) | refine Wo (by omega) (by omega) ?_ | refine Wp (by omega) (by omega) (by omega) ?_ | refine Wq (by omega) (by omega) ?_ | refine Wr (by decide) (by omega) (by omega) ?_ | refine Ws (by decide) ?_ | refine Wx (fun _ => ?_) ?_ | refine Wy (fun _ => ?_) ?_ | refine Wz (fun _ => ?_) | refine WA (fun _ => ?_) | refine WB (by assumption) (by omega) ?_ | refine WC (by omega) (by omega) (fun _ _ => ?_) | refine WD (by omega) (by omega) (fun _ _ => ?_) | refine WE (by omega) (by omega) (by omega) ?_ | refine WJ (fun _ => ?_) | refine WK (fun _ _ _ => ?_) | refine WL (by assumption) (by omega) ?_ | refine WM (by omega) (by omega) (fun _ _ => ?_) | refine WN (by omega) (by omega) ?_ | refine WO (by omega) (by omega) ?_ | refine WP (by omega) (by omega) (by omega) ?_)
            | refine rgap_v hge hl hq ?_
            | with_reducible refine WF ?_)
          all_goals exact finr rfl (h _ _ hone _ _ rfl (by omega))
        | false =>
          have hone := oneF_esc hq (.inl rfl)
          repeat' ((conv => whnf); first
            | (with_reducible first | exact Wa | exact Wb | exact Wc | refine Wd (by kernel_rfl) ?_ | refine We ?_ ?_ ?_ | refine W8 (by decide +kernel) ?_ ?_ ?_ | refine W9 ?_ ?_ ?_ | refine Wt (by first | assumption | omega) ?_ | refine Wu (by first | assumption | omega) ?_ | refine Wv (by omega) ?_ | refine Ww (by omega) ?_ | refine Wf (by decide) (fun _ => ?_) (fun _ => ?_) | refine Wg (fun _ => ?_) (fun _ => ?_) | refine Wh (fun _ => ?_) (fun _ => ?_) | refine Wi ?_ | refine Wj ?_ | refine Wk (fun _ => ?_) (fun _ => ?_) | refine Wl (fun _ => ?_) | refine Wm (by assumption) (by omega) ?_ | refine Wn (by omega) (by omega) (fun _ _ _ => ?_) | refine Wo (by omega) (by omega) ?_ | refine Wp (by omega) (by omega) (by omega) ?_ | refine Wq (by omega) (by omega) ?_ | refine Wr (by decide) (by omega) (by omega) ?_ | refine Ws (by decide) ?_ | refine Wx (fun _ => ?_) ?_ | refine Wy (fun _ => ?_) ?_ | refine Wz (fun _ => ?_) | refine WA (fun _ => ?_) | refine WB (by assumption) (by omega) ?_ | refine WC (by omega) (by omega) (fun _ _ => ?_) | refine WD (by omega) (by omega) (fun _ _ => ?_) | refine WE (by omega) (by omega) (by omega) ?_ | refine WJ (fun _ => ?_) | refine WK (fun _ _ _ => ?_) | refine WL (by assumption) (by omega) ?_ | refine WM (by omega) (by omega) (fun _ _ => ?_) | refine WN (by omega) (by omega) ?_ | refine WO (by omega) (by omega) ?_ | refine WP (by omega) (by omega) (by omega) ?_)
            | refine resc_c hl hlt (fun v e' hE => ?_)
            | with_reducible refine WF ?_)
          all_goals obtain ⟨z1, z2⟩ := esc_f hone hE
          all_goals first
            | exact finr rfl (h0 _ (z1 (by omega)))
            | (obtain ⟨u, n, y1, y2, y3⟩ := z2 (by omega) (by omega)
               exact finr rfl (h _ _ y1 _ _ y2 y3))
      · have hge := gapE_0 (show gapN (s.drop i) = 0 by omega)
        have hone := oneF_esc (tx := tx) hq (.inr (by omega))
        cases tx with
        | true =>
          repeat' ((conv => whnf); first
            | (with_reducible first | exact Wa | exact Wb | exact Wc | refine Wd (by kernel_rfl) ?_ | refine We ?_ ?_ ?_ | refine W8 (by decide +kernel) ?_ ?_ ?_ | refine W9 ?_ ?_ ?_ | refine Wt (by first | assumption | omega) ?_ | refine Wu (by first | assumption | omega) ?_ | refine Wv (by omega) ?_ | refine Ww (by omega) ?_ | refine Wf (by decide) (fun _ => ?_) (fun _ => ?_) | refine Wg (fun _ => ?_) (fun _ => ?_) | refine Wh (fun _ => ?_) (fun _ => ?_) | refine Wi ?_ | refine Wj ?_ | refine Wk (fun _ => ?_) (fun _ => ?_) | refine Wl (fun _ => ?_) | refine Wm (by assumption) (by omega) ?_ | refine Wn (by omega) (by omega) (fun _ _ _ => ?_) | refine Wo (by omega) (by omega) ?_ | refine Wp (by omega) (by omega) (by omega) ?_ | refine Wq (by omega) (by omega) ?_ | refine Wr (by decide) (by omega) (by omega) ?_ | refine Ws (by decide) ?_ | refine Wx (fun _ => ?_) ?_ | refine Wy (fun _ => ?_) ?_ | refine Wz (fun _ => ?_) | refine WA (fun _ => ?_) | refine WB (by assumption) (by omega) ?_ | refine WC (by omega) (by omega) (fun _ _ => ?_) | refine WD (by omega) (by omega) (fun _ _ => ?_) | refine WE (by omega) (by omega) (by omega) ?_ | refine WJ (fun _ => ?_) | refine WK (fun _ _ _ => ?_) | refine WL (by assumption) (by omega) ?_ | refine WM (by omega) (by omega) (fun _ _ => ?_) | refine WN (by omega) (by omega) ?_ | refine WO (by omega) (by omega) ?_ | refine WP (by omega) (by omega) (by omega) ?_)
            | refine rgap_v hge hl hq ?_
            | refine resc_c hl hlt (fun v e' hE => ?_)
            | with_reducible refine WF ?_)
          all_goals obtain ⟨z1, z2⟩ := esc_t hone hE
          all_goals first
            | exact finr rfl (h0 _ (z1 (by omega)))
            | (obtain ⟨u, n, y1, y2, y3⟩ := z2 (by omega)
               exact finr rfl (h _ _ y1 _ _ y2 y3))
        | false =>
          repeat' ((conv => whnf); first
            | (with_reducible first | exact Wa | exact Wb | exact Wc | refine Wd (by kernel_rfl) ?_ | refine We ?_ ?_ ?_ | refine W8 (by decide +kernel) ?_ ?_ ?_ | refine W9 ?_ ?_ ?_ | refine Wt (by first | assumption | omega) ?_ | refine Wu (by first | assumption | omega) ?_ | refine Wv (by omega) ?_ | refine Ww (by omega) ?_ | refine Wf (by decide) (fun _ => ?_) (fun _ => ?_) | refine Wg (fun _ => ?_) (fun _ => ?_) | refine Wh (fun _ => ?_) (fun _ => ?_) | refine Wi ?_ | refine Wj ?_ | refine Wk (fun _ => ?_) (fun _ => ?_) | refine Wl (fun _ => ?_) | refine Wm (by assumption) (by omega) ?_ | refine Wn (by omega) (by omega) (fun _ _ _ => ?_) | refine Wo (by omega) (by omega) ?_ | refine Wp (by omega) (by omega) (by omega) ?_ | refine Wq (by omega) (by omega) ?_ | refine Wr (by decide) (by omega) (by omega) ?_ | refine Ws (by decide) ?_ | refine Wx (fun _ => ?_) ?_ | refine Wy (fun _ => ?_) ?_ | refine Wz (fun _ => ?_) | refine WA (fun _ => ?_) | refine WB (by assumption) (by omega) ?_ | refine WC (by omega) (by omega) (fun _ _ => ?_) | refine WD (by omega) (by omega) (fun _ _ => ?_) | refine WE (by omega) (by omega) (by omega) ?_ | refine WJ (fun _ => ?_) | refine WK (fun _ _ _ => ?_) | refine WL (by assumption) (by omega) ?_ | refine WM (by omega) (by omega) (fun _ _ => ?_) | refine WN (by omega) (by omega) ?_ | refine WO (by omega) (by omega) ?_ | refine WP (by omega) (by omega) (by omega) ?_)
            | refine resc_c hl hlt (fun v e' hE => ?_)
            | with_reducible refine WF ?_)
          all_goals obtain ⟨z1, z2⟩ := esc_f hone hE
          all_goals first
            | exact finr rfl (h0 _ (z1 (by omega)))
            | (obtain ⟨u, n, y1, y2, y3⟩ := z2 (by omega) (by omega)
               exact finr rfl (h _ _ y1 _ _ y2 y3))
    · have hq : hdF (s.drop i) ≠ 92 := by omega
      have hone := oneF_rune (tx := tx) hne hq
      rcases hd : decR (s.drop i) with ⟨c, m⟩
      rw [hd] at hone
      have hbad := bad_iff (c := c) (m := m)
      have z1 : (classF (c : Int) = 0 ∨ (classF (c : Int) = 1 ∧ ¬ c = 32) ∨ (c = 65533 ∧ m = 1)) → oneF tx (s.drop i) = .inl 50 := fun x => by rw [hone, if_pos (hbad.2 x)]
      have z2 : ¬ (classF (c : Int) = 0 ∨ (classF (c : Int) = 1 ∧ ¬ c = 32) ∨ (c = 65533 ∧ m = 1)) → oneF tx (s.drop i) = .inr ((c : Int), m) := fun x => by rw [hone, if_neg (fun y => x (hbad.1 y))]
      have hm := decR_le hne
      rw [hd, List.length_drop] at hm
      dsimp only at hm
      clear hone hbad
      repeat' ((conv => whnf); first
        | (with_reducible first | exact Wa | exact Wb | exact Wc | refine Wd (by kernel_rfl) ?_ | refine We ?_ ?_ ?_ | refine W8 (by decide +kernel) ?_ ?_ ?_ | refine W9 ?_ ?_ ?_ | refine Wt (by first | assumption | omega) ?_ | refine Wu (by first | assumption | omega) ?_ | refine Wv (by omega) ?_ | refine Ww (by omega) ?_ | refine Wf (by decide) (fun _ => ?_) (fun _ => ?_) | refine Wg (fun _ => ?_) (fun _ => ?_) | refine Wh (fun _ => ?_) (fun _ => ?_) | refine Wi ?_ | refine Wj ?_ | refine Wk (fun _ => ?_) (fun _ => ?_) | refine Wl (fun _ => ?_) | refine Wm (by assumption) (by omega) ?_ | refine Wn (by omega) (by omega) (fun _ _ _ => ?_) | refine Wo (by omega) (by omega) ?_ | refine Wp (by omega) (by omega) (by omega) ?_ | refine Wq (by omega) (by omega) ?_ | refine Wr (by decide) (by omega) (by omega) ?_ | refine Ws (by decide) ?_ | refine Wx (fun _ => ?_) ?_ | refine Wy (fun _ => ?_) ?_ | refine Wz (fun _ => ?_) | refine WA (fun _ => ?_) | refine WB (by assumption) (by omega) ?_ | refine WC (by omega) (by omega) (fun _ _ => ?_) | refine WD (by omega) (by omega) (fun _ _ => ?_) | refine WE (by omega) (by omega) (by omega) ?_ | refine WJ (fun _ => ?_) | refine WK (fun _ _ _ => ?_) | refine WL (by assumption) (by omega) ?_ | refine WM (by omega) (by omega) (fun _ _ => ?_) | refine WN (by omega) (by omega) ?_ | refine WO (by omega) (by omega) ?_ | refine WP (by omega) (by omega) (by omega) ?_)
        | refine rnext_k hd.symm hlt (by omega) ?_
        | refine rclass_c ?_
        | with_reducible refine WF ?_)
      all_goals first
        | exact finr rfl (h0 _ (z1 (by omega)))
        | exact finr rfl (h _ _ (z2 (by omega)) _ _ (by rw [if_neg (by omega)]) rfl)
  · have hd : s.drop i = [] := List.drop_eq_nil_iff.2 (by omega)
    have h0 := h0 50 (by rw [hd]; rfl)
    clear h
    repeat' ((conv => whnf); first
      | (with_reducible first | exact Wa | exact Wb | exact Wc | refine Wd (by kernel_rfl) ?_ | refine We ?_ ?_ ?_ | refine W8 (by decide +kernel) ?_ ?_ ?_ | refine W9 ?_ ?_ ?_ | refine Wt (by first | assumption | omega) ?_ | refine Wu (by first | assumption | omega) ?_ | refine Wv (by omega) ?_ | refine Ww (by omega) ?_ | refine Wf (by decide) (fun _ => ?_) (fun _ => ?_) | refine Wg (fun _ => ?_) (fun _ => ?_) | refine Wh (fun _ => ?_) (fun _ => ?_) | refine Wi ?_ | refine Wj ?_ | refine Wk (fun _ => ?_) (fun _ => ?_) | refine Wl (fun _ => ?_) | refine Wm (by assumption) (by omega) ?_ | refine Wn (by omega) (by omega) (fun _ _ _ => ?_) | refine Wo (by omega) (by omega) ?_ | refine Wp (by omega) (by omega) (by omega) ?_ | refine Wq (by omega) (by omega) ?_ | refine Wr (by decide) (by omega) (by omega) ?_ | refine Ws (by decide) ?_ | refine Wx (fun _ => ?_) ?_ | refine Wy (fun _ => ?_) ?_ | refine Wz (fun _ => ?_) | refine WA (fun _ => ?_) | refine WB (by assumption) (by omega) ?_ | refine WC (by omega) (by omega) (fun _ _ => ?_) | refine WD (by omega) (by omega) (fun _ _ => ?_) | refine WE (by omega) (by omega) (by omega) ?_ | refine WJ (fun _ => ?_) | refine WK (fun _ _ _ => ?_) | refine WL (by assumption) (by omega) ?_ | refine WM (by omega) (by omega) (fun _ _ => ?_) | refine WN (by omega) (by omega) ?_ | refine WO (by omega) (by omega) ?_ | refine WP (by omega) (by omega) (by omega) ?_)
      | with_reducible refine WF ?_)
    all_goals exact finr rfl h0
end
end Go.Proofs.YtkcapphlemoccaaGreatDoor
