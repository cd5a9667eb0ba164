/-
  Parts of a proof: lemmas that the last text uses.
-/
import Derived.Test.YtkcapphlemoccaaGreatDoorU2
set_option linter.unusedVariables false
namespace Go.Aw
open Go
theorem oneF_gap {l : List UInt8} (h : 0 < gapN l) : oneF true l = .inr (-1, gapN l) := by
  cases l with
  | nil => exact absurd h (by decide)
  | cons a r =>
    have h1 : hdF (a :: r) = 92 := by
      by_cases h1 : hdF (a :: r) = 92
      · exact h1
      · unfold gapN at h; rw [if_neg (fun e => h1 e.1)] at h; omega
    unfold oneF
    dsimp only
    rw [if_pos h1, if_pos ⟨rfl, h⟩]
theorem oneF_esc {tx : Bool} {l : List UInt8} (h1 : hdF l = 92) (h : tx = false ∨ gapN l = 0) : oneF tx l = match escF tx l with | none => .inl 51 | some p => .inr p := by
  cases l with
  | nil => exact absurd h1 (by decide)
  | cons a r =>
    unfold oneF
    dsimp only
    have hn : ¬ (tx = true ∧ 0 < gapN (a :: r)) := fun x => by
      rcases h with h | h
      · rw [h] at x; cases x.1
      · omega
    rw [if_pos h1, if_neg hn]
    cases escF tx (a :: r) <;> rfl
theorem oneF_rune {tx : Bool} {l : List UInt8} (hne : l ≠ []) (h1 : hdF l ≠ 92) : oneF tx l = if badRune (decR l) then .inl 50 else .inr (((decR l).1 : Nat), (decR l).2) := by
  cases l with
  | nil => exact absurd rfl hne
  | cons a r =>
    unfold oneF
    dsimp only
    rw [if_neg h1]
theorem classF_max {c : Int} (h : classF c ≠ 0) : c ≤ 1114111 := by
  by_cases hc : c ≤ 1114111
  · exact hc
  · refine absurd ?_ h
    unfold classF beyondF
    rw [if_neg (by omega), if_neg (by omega), if_neg (by omega), if_neg (by omega), if_neg (by omega), if_neg (by omega), if_neg (by omega), if_neg (by omega), if_pos (by omega)]
theorem bad_iff {c m : Nat} : badRune (c, m) = true ↔ classF (c : Int) = 0 ∨ (classF (c : Int) = 1 ∧ ¬ c = 32) ∨ (c = 65533 ∧ m = 1) := by
  simp only [badRune, Bool.or_eq_true, Bool.and_eq_true, Bool.not_eq_true', beq_iff_eq, beq_eq_false_iff_ne, ne_eq]
  omega
def outF (o : List Int) (v : Int) : List Int := if v = -1 then o else o ++ [v]
end Go.Aw
namespace Go.Proofs.YtkcapphlemoccaaGreatDoor
open Go Go.Aw
def QB (st0 st : St) (b : Nat) (s : List UInt8) (tx : Bool) : Prop := ∃ q o w1 g w2, st.box b = some (qC s q tx o w1 g w2) ∧ Rows2 st0 st w1 o.length w2 (2 * g.length)
section
variable {st : St} {R : Res → St → Prop}
attribute [local irreducible] Go.Aw.appendTo
theorem gap_k {st0 : St} {b p : Nat} {s : List UInt8} {tx : Bool} {o : List Int} {w1 w2 : Own} {g : List (Nat × Nat)} (hl : s.length ≤ 100000000) (hp : p ≤ s.length) (hb : st.box b = some (qC s p tx o w1 g w2)) (hr : Rows2 st0 st w1 o.length w2 (2 * g.length)) (hgl : g.length ≤ 100000000)
    (h0 : (tx = false ∨ gapN (s.drop p) = 0) → R (.ret (.bool false)) st)
    (h : tx = true → 0 < gapN (s.drop p) → ∀ w2' st', Rows2 st0 st' w1 o.length w2' (2 * (g ++ [(p, p + gapN (s.drop p))]).length) → st'.box = st.box → R (.ret (.bool true)) (st'.setBox b (qC s (p + gapN (s.drop p)) true o w1 (g ++ [(p, p + gapN (s.drop p))]) w2'))) : PC 131 [.ptr b 0] st R := by
  by_cases hg : tx = false ∨ gapN (s.drop p) = 0
  · exact gap_no hl hp hb hg (h0 hg)
  · have ht : tx = true := by cases tx; · exact absurd (.inl rfl) hg
                              rfl
    subst ht
    have hg' : 0 < gapN (s.drop p) := by
      rcases Nat.eq_zero_or_pos (gapN (s.drop p)) with e | e
      · exact absurd (.inr e) hg
      · exact e
    exact gap_yes hl hb hg' hr hgl (h rfl hg')
set_option maxHeartbeats 2000000 in
theorem one_c {st0 : St} {b p : Nat} {s : List UInt8} {tx : Bool} {o : List Int} {w1 w2 : Own} {g : List (Nat × Nat)} (hl : s.length ≤ 100000000) (hp : p ≤ s.length) (hb0 : st0.box b = none) (hb : st.box b = some (qC s p tx o w1 g w2)) (hr : Rows2 st0 st w1 o.length w2 (2 * g.length))
    (ho : o.length ≤ 100000000) (hgl : g.length ≤ 100000000)
    (h0 : ∀ e, oneF tx (s.drop p) = .inl e → ∀ st', QB st0 st' b s tx → R (.pan (qfault p e)) st')
    (h : ∀ v n, oneF tx (s.drop p) = .inr (v, n) → ∀ w1' w2' st' g', Rows2 st0 st' w1' (outF o v).length w2' (2 * g'.length) → st'.box b = some (qC s (p + n) tx (outF o v) w1' g' w2') → g' = (if tx = true ∧ 0 < gapN (s.drop p) then g ++ [(p, p + n)] else g) → R (.ret (.tup [])) st') :
    PC 115 [.ptr b 0] st R := by
  have hqb : QB st0 st b s tx := ⟨p, o, w1, g, w2, hb, hr⟩
  refine pcalls_of_aw tys_ok [] Tryz.func115 rfl (by decide) rfl ?_
  by_cases hpl : s.length ≤ p
  · have hd : s.drop p = [] := List.drop_eq_nil_iff.2 (by omega)
    have h0 := h0 50 (by rw [hd]; rfl) st hqb
    refine aw_of tys_ok ?_
    repeat' ((conv => whnf); first
      | (with_reducible first | exact Wa | exact Wb | exact Wc | refine Wd (by kernel_rfl) ?_ | refine We ?_ ?_ ?_ | refine W8 (by decide +kernel) ?_ ?_ ?_ | refine W9 ?_ ?_ ?_ | refine Wt (by first | assumption | omega) ?_ | refine Wu (by first | assumption | omega) ?_ | refine Wv (by omega) ?_ | refine Ww (by omega) ?_ | refine Wf (by decide) (fun _ => ?_) (fun _ => ?_) | refine Wg (fun _ => ?_) (fun _ => ?_) | refine Wh (fun _ => ?_) (fun _ => ?_) | refine Wi ?_ | refine Wj ?_ | refine Wk (fun _ => ?_) (fun _ => ?_) | refine Wl (fun _ => ?_) | refine Wm (by assumption) (by omega) ?_ | refine Wn (by omega) (by omega) (fun _ _ _ => ?_) | refine Wo (by omega) (by omega) ?_ | refine Wp (by omega) (by omega) (by omega) ?_ | refine Wq (by omega) (by omega) ?_ | refine Wr (by decide) (by omega) (by omega) ?_ | refine Ws (by decide) ?_ | refine Wx (fun _ => ?_) ?_ | refine Wy (fun _ => ?_) ?_ | refine Wz (fun _ => ?_) | refine WA (fun _ => ?_) | refine WB (by assumption) (by omega) ?_ | refine WC (by omega) (by omega) (fun _ _ => ?_) | refine WD (by omega) (by omega) (fun _ _ => ?_) | refine WE (by omega) (by omega) (by omega) ?_ | refine WJ (fun _ => ?_) | refine WK (fun _ _ _ => ?_) | refine WL (by assumption) (by omega) ?_ | refine WM (by omega) (by omega) (fun _ _ => ?_) | refine WN (by omega) (by omega) ?_ | refine WO (by omega) (by omega) ?_ | refine WP (by omega) (by omega) (by omega) ?_)
      | refine on_box hb ?_
      | refine qfail_c ?_
      | with_reducible refine WF ?_)
    exact fin h0 rfl
  have hpl : p < s.length := by omega
  obtain ⟨e, he⟩ : ∃ e, s[p]? = some e := ⟨s[p], List.getElem?_eq_getElem hpl⟩
  have he' : s[(p : Int).toNat]? = some e := he
  have hv := hdF_at he
  refine AW_seq2 (aw_of tys_ok ?_)
  repeat' ((conv => whnf); first
    | (with_reducible first | exact Wa | exact Wb | exact Wc | refine Wd (by kernel_rfl) ?_ | refine We ?_ ?_ ?_ | refine W8 (by decide +kernel) ?_ ?_ ?_ | refine W9 ?_ ?_ ?_ | refine Wt (by first | assumption | omega) ?_ | refine Wu (by first | assumption | omega) ?_ | refine Wv (by omega) ?_ | refine Ww (by omega) ?_ | refine Wf (by decide) (fun _ => ?_) (fun _ => ?_) | refine Wg (fun _ => ?_) (fun _ => ?_) | refine Wh (fun _ => ?_) (fun _ => ?_) | refine Wi ?_ | refine Wj ?_ | refine Wk (fun _ => ?_) (fun _ => ?_) | refine Wl (fun _ => ?_) | refine Wm (by assumption) (by omega) ?_ | refine Wn (by omega) (by omega) (fun _ _ _ => ?_) | refine Wo (by omega) (by omega) ?_ | refine Wp (by omega) (by omega) (by omega) ?_ | refine Wq (by omega) (by omega) ?_ | refine Wr (by decide) (by omega) (by omega) ?_ | refine Ws (by decide) ?_ | refine Wx (fun _ => ?_) ?_ | refine Wy (fun _ => ?_) ?_ | refine Wz (fun _ => ?_) | refine WA (fun _ => ?_) | refine WB (by assumption) (by omega) ?_ | refine WC (by omega) (by omega) (fun _ _ => ?_) | refine WD (by omega) (by omega) (fun _ _ => ?_) | refine WE (by omega) (by omega) (by omega) ?_ | refine WJ (fun _ => ?_) | refine WK (fun _ _ _ => ?_) | refine WL (by assumption) (by omega) ?_ | refine WM (by omega) (by omega) (fun _ _ => ?_) | refine WN (by omega) (by omega) ?_ | refine WO (by omega) (by omega) ?_ | refine WP (by omega) (by omega) (by omega) ?_)
    | refine on_box hb ?_
    | refine qfail_c ?_
    | with_reducible refine WF ?_)
  refine AW_seq2 (aw_of tys_ok ?_)
  repeat' ((conv => whnf); first
    | (with_reducible first | exact Wa | exact Wb | exact Wc | refine Wd (by kernel_rfl) ?_ | refine We ?_ ?_ ?_ | refine W8 (by decide +kernel) ?_ ?_ ?_ | refine W9 ?_ ?_ ?_ | refine Wt (by first | assumption | omega) ?_ | refine Wu (by first | assumption | omega) ?_ | refine Wv (by omega) ?_ | refine Ww (by omega) ?_ | refine Wf (by decide) (fun _ => ?_) (fun _ => ?_) | refine Wg (fun _ => ?_) (fun _ => ?_) | refine Wh (fun _ => ?_) (fun _ => ?_) | refine Wi ?_ | refine Wj ?_ | refine Wk (fun _ => ?_) (fun _ => ?_) | refine Wl (fun _ => ?_) | refine Wm (by assumption) (by omega) ?_ | refine Wn (by omega) (by omega) (fun _ _ _ => ?_) | refine Wo (by omega) (by omega) ?_ | refine Wp (by omega) (by omega) (by omega) ?_ | refine Wq (by omega) (by omega) ?_ | refine Wr (by decide) (by omega) (by omega) ?_ | refine Ws (by decide) ?_ | refine Wx (fun _ => ?_) ?_ | refine Wy (fun _ => ?_) ?_ | refine Wz (fun _ => ?_) | refine WA (fun _ => ?_) | refine WB (by assumption) (by omega) ?_ | refine WC (by omega) (by omega) (fun _ _ => ?_) | refine WD (by omega) (by omega) (fun _ _ => ?_) | refine WE (by omega) (by omega) (by omega) ?_ | refine WJ (fun _ => ?_) | refine WK (fun _ _ _ => ?_) | refine WL (by assumption) (by omega) ?_ | refine WM (by omega) (by omega) (fun _ _ => ?_) | refine WN (by omega) (by omega) ?_ | refine WO (by omega) (by omega) ?_ | refine WP (by omega) (by omega) (by omega) ?_)
    | refine gap_k hl hp hb hr hgl (fun hg => ?_) (fun ht hg w2' st1 hr1 hb1 => ?_)
    | with_reducible refine WF ?_)
  · by_cases h92 : hdF (s.drop p) = 92
    · have h1 := oneF_esc h92 hg
      have hng : ¬ (tx = true ∧ 0 < gapN (s.drop p)) := fun x => by
        rcases hg with h | h
        · rw [h] at x; cases x.1
        · omega
      rcases hesc : escF tx (s.drop p) with _ | ⟨v, n⟩
      · rw [hesc] at h1
        have h0 := h0 51 h1
        have hE : ∀ {R : Res → St → Prop}, (∀ q, R (.pan (qfault p 51)) (st.setBox b (qC s q tx o w1 g w2))) → PC 132 [.ptr b 0] st R := fun h => escape_c hl hpl hb (fun v n x => by rw [hesc] at x; cases x) (fun _ => h)
        refine aw_of tys_ok ?_
        repeat' ((conv => whnf); first
          | (with_reducible first | exact Wa | exact Wb | exact Wc | refine Wd (by kernel_rfl) ?_ | refine We ?_ ?_ ?_ | refine W8 (by decide +kernel) ?_ ?_ ?_ | refine W9 ?_ ?_ ?_ | refine Wt (by first | assumption | omega) ?_ | refine Wu (by first | assumption | omega) ?_ | refine Wv (by omega) ?_ | refine Ww (by omega) ?_ | refine Wf (by decide) (fun _ => ?_) (fun _ => ?_) | refine Wg (fun _ => ?_) (fun _ => ?_) | refine Wh (fun _ => ?_) (fun _ => ?_) | refine Wi ?_ | refine Wj ?_ | refine Wk (fun _ => ?_) (fun _ => ?_) | refine Wl (fun _ => ?_) | refine Wm (by assumption) (by omega) ?_ | refine Wn (by omega) (by omega) (fun _ _ _ => ?_) | refine Wo (by omega) (by omega) ?_ | refine Wp (by omega) (by omega) (by omega) ?_ | refine Wq (by omega) (by omega) ?_ | refine Wr (by decide) (by omega) (by omega) ?_ | refine Ws (by decide) ?_ | refine Wx (fun _ => ?_) ?_ | refine Wy (fun _ => ?_) ?_ | refine Wz (fun _ => ?_) | refine WA (fun _ => ?_) | refine WB (by assumption) (by omega) ?_ | refine WC (by omega) (by omega) (fun _ _ => ?_) | refine WD (by omega) (by omega) (fun _ _ => ?_) | refine WE (by omega) (by omega) (by omega) ?_ | refine WJ (fun _ => ?_) | refine WK (fun _ _ _ => ?_) | refine WL (by assumption) (by omega) ?_ | refine WM (by omega) (by omega) (fun _ _ => ?_) | refine WN (by omega) (by omega) ?_ | refine WO (by omega) (by omega) ?_ | refine WP (by omega) (by omega) (by omega) ?_)
          | refine on_box hb ?_
          | refine hE (fun q => ?_)
          | with_reducible refine WF ?_)
        exact fin (h0 _ ⟨_, _, _, _, _, St.box_at _ _ _, hr.set hb0 _⟩) rfl
      · rw [hesc] at h1
        have hn := escF_le hesc
        rw [List.length_drop] at hn
        dsimp only at hn
        have h := h v n h1
        rw [if_neg hng] at h
        have hb2 := St.box_at st b (qC s (p + n) tx o w1 g w2)
        have hr2 := hr.set hb0 (qC s (p + n) tx o w1 g w2)
        have hE : ∀ {R : Res → St → Prop}, R (.ret (.int .i64 v)) (st.setBox b (qC s (p + n) tx o w1 g w2)) → PC 132 [.ptr b 0] st R := fun h => escape_c hl hpl hb (fun v' n' x => by rw [hesc] at x; cases x; exact h) (fun x => by rw [hesc] at x; cases x)
        generalize st.setBox b (qC s (p + n) tx o w1 g w2) = st2 at hb2 hr2 hE
        unfold outF at h
        by_cases hv1 : v = -1
        · rw [if_pos hv1] at h
          refine aw_of tys_ok ?_
          repeat' ((conv => whnf); first
            | (with_reducible first | exact Wa | exact Wb | exact Wc | refine Wd (by kernel_rfl) ?_ | refine We ?_ ?_ ?_ | refine W8 (by decide +kernel) ?_ ?_ ?_ | refine W9 ?_ ?_ ?_ | refine Wt (by first | assumption | omega) ?_ | refine Wu (by first | assumption | omega) ?_ | refine Wv (by omega) ?_ | refine Ww (by omega) ?_ | refine Wf (by decide) (fun _ => ?_) (fun _ => ?_) | refine Wg (fun _ => ?_) (fun _ => ?_) | refine Wh (fun _ => ?_) (fun _ => ?_) | refine Wi ?_ | refine Wj ?_ | refine Wk (fun _ => ?_) (fun _ => ?_) | refine Wl (fun _ => ?_) | refine Wm (by assumption) (by omega) ?_ | refine Wn (by omega) (by omega) (fun _ _ _ => ?_) | refine Wo (by omega) (by omega) ?_ | refine Wp (by omega) (by omega) (by omega) ?_ | refine Wq (by omega) (by omega) ?_ | refine Wr (by decide) (by omega) (by omega) ?_ | refine Ws (by decide) ?_ | refine Wx (fun _ => ?_) ?_ | refine Wy (fun _ => ?_) ?_ | refine Wz (fun _ => ?_) | refine WA (fun _ => ?_) | refine WB (by assumption) (by omega) ?_ | refine WC (by omega) (by omega) (fun _ _ => ?_) | refine WD (by omega) (by omega) (fun _ _ => ?_) | refine WE (by omega) (by omega) (by omega) ?_ | refine WJ (fun _ => ?_) | refine WK (fun _ _ _ => ?_) | refine WL (by assumption) (by omega) ?_ | refine WM (by omega) (by omega) (fun _ _ => ?_) | refine WN (by omega) (by omega) ?_ | refine WO (by omega) (by omega) ?_ | refine WP (by omega) (by omega) (by omega) ?_)
            | refine on_box hb ?_
            | refine hE ?_
            | with_reducible refine WF ?_)
          all_goals first
            | exact fin (h w1 w2 st2 g hr2 hb2 rfl) rfl
            | (exfalso; omega)
        · rw [if_neg hv1] at h
          refine aw_of tys_ok ?_
          repeat' ((conv => whnf); first
            | (with_reducible first | exact Wa | exact Wb | exact Wc | refine Wd (by kernel_rfl) ?_ | refine We ?_ ?_ ?_ | refine W8 (by decide +kernel) ?_ ?_ ?_ | refine W9 ?_ ?_ ?_ | refine Wt (by first | assumption | omega) ?_ | refine Wu (by first | assumption | omega) ?_ | refine Wv (by omega) ?_ | refine Ww (by omega) ?_ | refine Wf (by decide) (fun _ => ?_) (fun _ => ?_) | refine Wg (fun _ => ?_) (fun _ => ?_) | refine Wh (fun _ => ?_) (fun _ => ?_) | refine Wi ?_ | refine Wj ?_ | refine Wk (fun _ => ?_) (fun _ => ?_) | refine Wl (fun _ => ?_) | refine Wm (by assumption) (by omega) ?_ | refine Wn (by omega) (by omega) (fun _ _ _ => ?_) | refine Wo (by omega) (by omega) ?_ | refine Wp (by omega) (by omega) (by omega) ?_ | refine Wq (by omega) (by omega) ?_ | refine Wr (by decide) (by omega) (by omega) ?_ | refine Ws (by decide) ?_ | refine Wx (fun _ => ?_) ?_ | refine Wy (fun _ => ?_) ?_ | refine Wz (fun _ => ?_) | refine WA (fun _ => ?_) | refine WB (by assumption) (by omega) ?_ | refine WC (by omega) (by omega) (fun _ _ => ?_) | refine WD (by omega) (by omega) (fun _ _ => ?_) | refine WE (by omega) (by omega) (by omega) ?_ | refine WJ (fun _ => ?_) | refine WK (fun _ _ _ => ?_) | refine WL (by assumption) (by omega) ?_ | refine WM (by omega) (by omega) (fun _ _ => ?_) | refine WN (by omega) (by omega) ?_ | refine WO (by omega) (by omega) ?_ | refine WP (by omega) (by omega) (by omega) ?_)
            | refine on_box hb ?_
            | refine on_box hb2 ?_
            | refine hE ?_
            | refine rows_int hr2 (by omega) (fun w1' st3 hr3 hb3 => ?_)
            | refine on_box ((congrFun hb3 b).trans hb2) ?_
            | with_reducible refine WF ?_)
          exact fin (h w1' w2 _ g (hr3.set hb0 _) (St.box_at _ _ _) rfl) rfl
    · have h1 := oneF_rune (tx := tx) (drop_ne hpl) h92
      have hng : ¬ (tx = true ∧ 0 < gapN (s.drop p)) := fun x => by
        have := x.2
        unfold gapN at this; rw [if_neg (fun y => h92 y.1)] at this; omega
      rcases hd : decR (s.drop p) with ⟨c, m⟩
      have hrn := rune_le hpl hd.symm
      have hx : nextF s p = ((c : Int), (m : Int)) := by rw [nextF_in (by omega) (by omega), decF_hd hpl hd.symm]
      rw [hd] at h1
      refine AW_seq2 (aw_of tys_ok ?_)
      repeat' ((conv => whnf); first
        | (with_reducible first | exact Wa | exact Wb | exact Wc | refine Wd (by kernel_rfl) ?_ | refine We ?_ ?_ ?_ | refine W8 (by decide +kernel) ?_ ?_ ?_ | refine W9 ?_ ?_ ?_ | refine Wt (by first | assumption | omega) ?_ | refine Wu (by first | assumption | omega) ?_ | refine Wv (by omega) ?_ | refine Ww (by omega) ?_ | refine Wf (by decide) (fun _ => ?_) (fun _ => ?_) | refine Wg (fun _ => ?_) (fun _ => ?_) | refine Wh (fun _ => ?_) (fun _ => ?_) | refine Wi ?_ | refine Wj ?_ | refine Wk (fun _ => ?_) (fun _ => ?_) | refine Wl (fun _ => ?_) | refine Wm (by assumption) (by omega) ?_ | refine Wn (by omega) (by omega) (fun _ _ _ => ?_) | refine Wo (by omega) (by omega) ?_ | refine Wp (by omega) (by omega) (by omega) ?_ | refine Wq (by omega) (by omega) ?_ | refine Wr (by decide) (by omega) (by omega) ?_ | refine Ws (by decide) ?_ | refine Wx (fun _ => ?_) ?_ | refine Wy (fun _ => ?_) ?_ | refine Wz (fun _ => ?_) | refine WA (fun _ => ?_) | refine WB (by assumption) (by omega) ?_ | refine WC (by omega) (by omega) (fun _ _ => ?_) | refine WD (by omega) (by omega) (fun _ _ => ?_) | refine WE (by omega) (by omega) (by omega) ?_ | refine WJ (fun _ => ?_) | refine WK (fun _ _ _ => ?_) | refine WL (by assumption) (by omega) ?_ | refine WM (by omega) (by omega) (fun _ _ => ?_) | refine WN (by omega) (by omega) ?_ | refine WO (by omega) (by omega) ?_ | refine WP (by omega) (by omega) (by omega) ?_)
        | refine on_box hb ?_
        | with_reducible refine WF ?_)
      refine AW_seq2 (aw_of tys_ok ?_)
      repeat' ((conv => whnf); first
        | (with_reducible first | exact Wa | exact Wb | exact Wc | refine Wd (by kernel_rfl) ?_ | refine We ?_ ?_ ?_ | refine W8 (by decide +kernel) ?_ ?_ ?_ | refine W9 ?_ ?_ ?_ | refine Wt (by first | assumption | omega) ?_ | refine Wu (by first | assumption | omega) ?_ | refine Wv (by omega) ?_ | refine Ww (by omega) ?_ | refine Wf (by decide) (fun _ => ?_) (fun _ => ?_) | refine Wg (fun _ => ?_) (fun _ => ?_) | refine Wh (fun _ => ?_) (fun _ => ?_) | refine Wi ?_ | refine Wj ?_ | refine Wk (fun _ => ?_) (fun _ => ?_) | refine Wl (fun _ => ?_) | refine Wm (by assumption) (by omega) ?_ | refine Wn (by omega) (by omega) (fun _ _ _ => ?_) | refine Wo (by omega) (by omega) ?_ | refine Wp (by omega) (by omega) (by omega) ?_ | refine Wq (by omega) (by omega) ?_ | refine Wr (by decide) (by omega) (by omega) ?_ | refine Ws (by decide) ?_ | refine Wx (fun _ => ?_) ?_ | refine Wy (fun _ => ?_) ?_ | refine Wz (fun _ => ?_) | refine WA (fun _ => ?_) | refine WB (by assumption) (by omega) ?_ | refine WC (by omega) (by omega) (fun _ _ => ?_) | refine WD (by omega) (by omega) (fun _ _ => ?_) | refine WE (by omega) (by omega) (by omega) ?_ | refine WJ (fun _ => ?_) | refine WK (fun _ _ _ => ?_) | refine WL (by assumption) (by omega) ?_ | refine WM (by omega) (by omega) (fun _ _ => ?_) | refine WN (by omega) (by omega) ?_ | refine WO (by omega) (by omega) ?_ | refine WP (by omega) (by omega) (by omega) ?_)
        | refine on_box hb ?_
        | refine next_at (by omega) hx ?_
        | with_reducible refine WF ?_)
      refine AW_seq2 (aw_of tys_ok ?_)
      repeat' ((conv => whnf); first
        | (with_reducible first | exact Wa | exact Wb | exact Wc | refine Wd (by kernel_rfl) ?_ | refine We ?_ ?_ ?_ | refine W8 (by decide +kernel) ?_ ?_ ?_ | refine W9 ?_ ?_ ?_ | refine Wt (by first | assumption | omega) ?_ | refine Wu (by first | assumption | omega) ?_ | refine Wv (by omega) ?_ | refine Ww (by omega) ?_ | refine Wf (by decide) (fun _ => ?_) (fun _ => ?_) | refine Wg (fun _ => ?_) (fun _ => ?_) | refine Wh (fun _ => ?_) (fun _ => ?_) | refine Wi ?_ | refine Wj ?_ | refine Wk (fun _ => ?_) (fun _ => ?_) | refine Wl (fun _ => ?_) | refine Wm (by assumption) (by omega) ?_ | refine Wn (by omega) (by omega) (fun _ _ _ => ?_) | refine Wo (by omega) (by omega) ?_ | refine Wp (by omega) (by omega) (by omega) ?_ | refine Wq (by omega) (by omega) ?_ | refine Wr (by decide) (by omega) (by omega) ?_ | refine Ws (by decide) ?_ | refine Wx (fun _ => ?_) ?_ | refine Wy (fun _ => ?_) ?_ | refine Wz (fun _ => ?_) | refine WA (fun _ => ?_) | refine WB (by assumption) (by omega) ?_ | refine WC (by omega) (by omega) (fun _ _ => ?_) | refine WD (by omega) (by omega) (fun _ _ => ?_) | refine WE (by omega) (by omega) (by omega) ?_ | refine WJ (fun _ => ?_) | refine WK (fun _ _ _ => ?_) | refine WL (by assumption) (by omega) ?_ | refine WM (by omega) (by omega) (fun _ _ => ?_) | refine WN (by omega) (by omega) ?_ | refine WO (by omega) (by omega) ?_ | refine WP (by omega) (by omega) (by omega) ?_)
        | refine class_c ?_
        | with_reducible refine WF ?_)
      cases hbad : badRune (c, m) with
      | true =>
        rw [if_pos hbad] at h1
        have h0 := h0 50 h1 st hqb
        refine aw_of tys_ok ?_
        have hbi := bad_iff.1 hbad
        repeat' ((conv => whnf); first
          | (with_reducible first | exact Wa | exact Wb | exact Wc | refine Wd (by kernel_rfl) ?_ | refine We ?_ ?_ ?_ | refine W8 (by decide +kernel) ?_ ?_ ?_ | refine W9 ?_ ?_ ?_ | refine Wt (by first | assumption | omega) ?_ | refine Wu (by first | assumption | omega) ?_ | refine Wv (by omega) ?_ | refine Ww (by omega) ?_ | refine Wf (by decide) (fun _ => ?_) (fun _ => ?_) | refine Wg (fun _ => ?_) (fun _ => ?_) | refine Wh (fun _ => ?_) (fun _ => ?_) | refine Wi ?_ | refine Wj ?_ | refine Wk (fun _ => ?_) (fun _ => ?_) | refine Wl (fun _ => ?_) | refine Wm (by assumption) (by omega) ?_ | refine Wn (by omega) (by omega) (fun _ _ _ => ?_) | refine Wo (by omega) (by omega) ?_ | refine Wp (by omega) (by omega) (by omega) ?_ | refine Wq (by omega) (by omega) ?_ | refine Wr (by decide) (by omega) (by omega) ?_ | refine Ws (by decide) ?_ | refine Wx (fun _ => ?_) ?_ | refine Wy (fun _ => ?_) ?_ | refine Wz (fun _ => ?_) | refine WA (fun _ => ?_) | refine WB (by assumption) (by omega) ?_ | refine WC (by omega) (by omega) (fun _ _ => ?_) | refine WD (by omega) (by omega) (fun _ _ => ?_) | refine WE (by omega) (by omega) (by omega) ?_ | refine WJ (fun _ => ?_) | refine WK (fun _ _ _ => ?_) | refine WL (by assumption) (by omega) ?_ | refine WM (by omega) (by omega) (fun _ _ => ?_) | refine WN (by omega) (by omega) ?_ | refine WO (by omega) (by omega) ?_ | refine WP (by omega) (by omega) (by omega) ?_)
          | refine on_box hb ?_
          | refine qfail_c ?_
          | with_reducible refine WF ?_)
        all_goals first | exact fin h0 rfl | (exfalso; omega)
      | false =>
        rw [if_neg (by rw [hbad]; decide)] at h1
        have h := h (c : Int) m h1
        rw [if_neg hng] at h
        unfold outF at h
        rw [if_neg (by omega)] at h
        have hbi : ¬ (classF (c : Int) = 0 ∨ (classF (c : Int) = 1 ∧ ¬ c = 32) ∨ (c = 65533 ∧ m = 1)) := fun x => by rw [bad_iff.2 x] at hbad; cases hbad
        have hcm := classF_max (c := (c : Int)) (by omega)
        refine aw_of tys_ok ?_
        repeat' ((conv => whnf); first
          | (with_reducible first | exact Wa | exact Wb | exact Wc | refine Wd (by kernel_rfl) ?_ | refine We ?_ ?_ ?_ | refine W8 (by decide +kernel) ?_ ?_ ?_ | refine W9 ?_ ?_ ?_ | refine Wt (by first | assumption | omega) ?_ | refine Wu (by first | assumption | omega) ?_ | refine Wv (by omega) ?_ | refine Ww (by omega) ?_ | refine Wf (by decide) (fun _ => ?_) (fun _ => ?_) | refine Wg (fun _ => ?_) (fun _ => ?_) | refine Wh (fun _ => ?_) (fun _ => ?_) | refine Wi ?_ | refine Wj ?_ | refine Wk (fun _ => ?_) (fun _ => ?_) | refine Wl (fun _ => ?_) | refine Wm (by assumption) (by omega) ?_ | refine Wn (by omega) (by omega) (fun _ _ _ => ?_) | refine Wo (by omega) (by omega) ?_ | refine Wp (by omega) (by omega) (by omega) ?_ | refine Wq (by omega) (by omega) ?_ | refine Wr (by decide) (by omega) (by omega) ?_ | refine Ws (by decide) ?_ | refine Wx (fun _ => ?_) ?_ | refine Wy (fun _ => ?_) ?_ | refine Wz (fun _ => ?_) | refine WA (fun _ => ?_) | refine WB (by assumption) (by omega) ?_ | refine WC (by omega) (by omega) (fun _ _ => ?_) | refine WD (by omega) (by omega) (fun _ _ => ?_) | refine WE (by omega) (by omega) (by omega) ?_ | refine WJ (fun _ => ?_) | refine WK (fun _ _ _ => ?_) | refine WL (by assumption) (by omega) ?_ | refine WM (by omega) (by omega) (fun _ _ => ?_) | refine WN (by omega) (by omega) ?_ | refine WO (by omega) (by omega) ?_ | refine WP (by omega) (by omega) (by omega) ?_)
          | refine on_box hb ?_
          | refine qfail_c ?_
          | refine rows_int hr (by omega) (fun w1' st3 hr3 hb3 => ?_)
          | refine on_box ((congrFun hb3 b).trans hb) ?_
          | refine on_box (St.box_at _ _ _) ?_
          | with_reducible refine WF ?_)
        all_goals exact fin (h w1' w2 _ g ((hr3.set hb0 _).set hb0 _) ((St.box_at _ _ _).trans (congrArg some (qC_at (by omega)))) rfl) rfl
  · subst ht
    have h1 := oneF_gap hg
    have h := h _ _ h1 w1 w2' (st1.setBox b (qC s (p + gapN (s.drop p)) true o w1 (g ++ [(p, p + gapN (s.drop p))]) w2')) _ (hr1.set hb0 _) (St.box_at _ _ _) (if_pos ⟨rfl, hg⟩).symm
    repeat' ((conv => whnf); first
      | (with_reducible first | exact Wa | exact Wb | exact Wc | refine Wd (by kernel_rfl) ?_ | refine We ?_ ?_ ?_ | refine W8 (by decide +kernel) ?_ ?_ ?_ | refine W9 ?_ ?_ ?_ | refine Wt (by first | assumption | omega) ?_ | refine Wu (by first | assumption | omega) ?_ | refine Wv (by omega) ?_ | refine Ww (by omega) ?_ | refine Wf (by decide) (fun _ => ?_) (fun _ => ?_) | refine Wg (fun _ => ?_) (fun _ => ?_) | refine Wh (fun _ => ?_) (fun _ => ?_) | refine Wi ?_ | refine Wj ?_ | refine Wk (fun _ => ?_) (fun _ => ?_) | refine Wl (fun _ => ?_) | refine Wm (by assumption) (by omega) ?_ | refine Wn (by omega) (by omega) (fun _ _ _ => ?_) | refine Wo (by omega) (by omega) ?_ | refine Wp (by omega) (by omega) (by omega) ?_ | refine Wq (by omega) (by omega) ?_ | refine Wr (by decide) (by omega) (by omega) ?_ | refine Ws (by decide) ?_ | refine Wx (fun _ => ?_) ?_ | refine Wy (fun _ => ?_) ?_ | refine Wz (fun _ => ?_) | refine WA (fun _ => ?_) | refine WB (by assumption) (by omega) ?_ | refine WC (by omega) (by omega) (fun _ _ => ?_) | refine WD (by omega) (by omega) (fun _ _ => ?_) | refine WE (by omega) (by omega) (by omega) ?_ | refine WJ (fun _ => ?_) | refine WK (fun _ _ _ => ?_) | refine WL (by assumption) (by omega) ?_ | refine WM (by omega) (by omega) (fun _ _ => ?_) | refine WN (by omega) (by omega) ?_ | refine WO (by omega) (by omega) ?_ | refine WP (by omega) (by omega) (by omega) ?_)
      | with_reducible refine WF ?_)
    exact fin h rfl
end
end Go.Proofs.YtkcapphlemoccaaGreatDoor
set_option linter.unusedVariables false
namespace Go.Aw
open Go
theorem bc_f {b : Bool} {p q : Prop} (h : b = false) (k : q) : bcase b p q := by subst h; exact Wj k
theorem bc_t {b : Bool} {p q : Prop} (h : b = true) (k : p) : bcase b p q := by subst h; exact Wi k
theorem textN_end {l : List UInt8} (h : hdF l = 34) : textN l = .inr 1 := by rw [textN, if_pos h]
theorem textN_bad {l : List UInt8} {e : Int} (h : hdF l ≠ 34) (k : oneF true l = .inl e) : textN l = .inl (0, e) := by
  rw [textN, if_neg h]
  split
  · rename_i e' he; rw [k] at he; injection he with he; rw [he]
  · rename_i p hp; rw [k] at hp; cases hp
theorem textN_go {l : List UInt8} {v : Int} {n : Nat} (h : hdF l ≠ 34) (k : oneF true l = .inr (v, n)) : textN l = match textN (l.drop n) with | .inl q => .inl (q.1 + n, q.2) | .inr m => .inr (m + n) := by
  rw [textN, if_neg h]
  split
  · rename_i e' he; rw [k] at he; cases he
  · rename_i p hp; rw [k] at hp; injection hp with hp; subst hp; rfl
theorem textO_end {l : List UInt8} (h : hdF l = 34) : textO l = [] := by rw [textO, if_pos h]
theorem textO_go {l : List UInt8} {v : Int} {n : Nat} (h : hdF l ≠ 34) (k : oneF true l = .inr (v, n)) : textO l = if v = -1 then textO (l.drop n) else v :: textO (l.drop n) := by
  rw [textO, if_neg h]
  split
  · rename_i e' he; rw [k] at he; cases he
  · rename_i p hp; rw [k] at hp; injection hp with hp; subst hp; rfl
theorem textP_end {q : Nat} {l : List UInt8} (h : hdF l = 34) : textP q l = [] := by rw [textP, if_pos h]
theorem textP_go {q : Nat} {l : List UInt8} {v : Int} {n : Nat} (h : hdF l ≠ 34) (k : oneF true l = .inr (v, n)) : textP q l = if 0 < gapN l then (q, q + n) :: textP (q + n) (l.drop n) else textP (q + n) (l.drop n) := by
  rw [textP, if_neg h]
  split
  · rename_i e' he; rw [k] at he; cases he
  · rename_i p hp; rw [k] at hp; injection hp with hp; subst hp; rfl
def absN (q : Nat) : Sum (Nat × Int) Nat → Sum (Nat × Int) Nat
  | .inl k => .inl (q + k.1, k.2)
  | .inr n => .inr (q + n)
theorem absN_go {q n : Nat} {l : List UInt8} {v : Int} (h : hdF l ≠ 34) (k : oneF true l = .inr (v, n)) : absN q (textN l) = absN (q + n) (textN (l.drop n)) := by
  rw [textN_go h k]
  cases textN (l.drop n) with
  | inl k => simp only [absN]; congr 2; omega
  | inr m => simp only [absN]; congr 1; omega
structure LS where
  q : Nat
  o : List Int
  g : List (Nat × Nat)
  w1 : Own
  w2 : Own
  m : St
end Go.Aw
namespace Go.Proofs.YtkcapphlemoccaaGreatDoor
open Go Go.Aw
section
variable {st : St} {R : Res → St → Prop}
set_option maxHeartbeats 2000000 in
theorem literal_t {st0 : St} {b p : Nat} {s : List UInt8} {tx : Bool} {w1 w2 : Own} (hl : s.length ≤ 100000000) (hp : hdF (s.drop p) = 34) (hb0 : st0.box b = none) (hb : st.box b = some (qC s p tx [] w1 [] w2)) (hr : Rows2 st0 st w1 0 w2 0)
    (h0 : ∀ k e, textN (s.drop (p + 1)) = .inl (k, e) → ∀ st', QB st0 st' b s true → R (.pan (qfault (p + 1 + k : Nat) e)) st')
    (h : ∀ n, textN (s.drop (p + 1)) = .inr n → ∀ w1' w2' st', Rows2 st0 st' w1' (textO (s.drop (p + 1))).length w2' (2 * (textP (p + 1) (s.drop (p + 1))).length) → st'.box b = some (qC s (p + 1 + n) true (textO (s.drop (p + 1))) w1' (textP (p + 1) (s.drop (p + 1))) w2') → R (.ret (.int .i64 14)) st') :
    PC 105 [.ptr b 0] st R := by
  have hpl : p < s.length := hdF_lt_len (k := p) (by omega)
  obtain ⟨e, he⟩ : ∃ e, s[p]? = some e := ⟨s[p], List.getElem?_eq_getElem hpl⟩
  have he' : s[(p : Int).toNat]? = some e := he
  have hv := hdF_at he
  have hv34 : ((e.toNat : Nat) : Int) = 34 := by omega
  refine pcalls_of_aw tys_ok [] Tryz.func105 rfl (by decide) rfl ?_
  refine AW_seq2 (aw_of tys_ok ?_)
  repeat' ((conv => whnf); first
    | (with_reducible first | exact Wa | exact Wb | exact Wc | refine Wd (by kernel_rfl) ?_ | refine We ?_ ?_ ?_ | refine W8 (by decide +kernel) ?_ ?_ ?_ | refine W9 ?_ ?_ ?_ | refine Wt (by first | assumption | omega) ?_ | refine Wu (by first | assumption | omega) ?_ | refine Wv (by omega) ?_ | refine Ww (by omega) ?_ | refine Wf (by decide) (fun _ => ?_) (fun _ => ?_) | refine Wg (fun _ => ?_) (fun _ => ?_) | refine Wh (fun _ => ?_) (fun _ => ?_) | refine Wi ?_ | refine Wj ?_ | refine Wk (fun _ => ?_) (fun _ => ?_) | refine Wl (fun _ => ?_) | refine Wm (by assumption) (by omega) ?_ | refine Wn (by omega) (by omega) (fun _ _ _ => ?_) | refine Wo (by omega) (by omega) ?_ | refine Wp (by omega) (by omega) (by omega) ?_ | refine Wq (by omega) (by omega) ?_ | refine Wr (by decide) (by omega) (by omega) ?_ | refine Ws (by decide) ?_ | refine Wx (fun _ => ?_) ?_ | refine Wy (fun _ => ?_) ?_ | refine Wz (fun _ => ?_) | refine WA (fun _ => ?_) | refine WB (by assumption) (by omega) ?_ | refine WC (by omega) (by omega) (fun _ _ => ?_) | refine WD (by omega) (by omega) (fun _ _ => ?_) | refine WE (by omega) (by omega) (by omega) ?_ | refine WJ (fun _ => ?_) | refine WK (fun _ _ _ => ?_) | refine WL (by assumption) (by omega) ?_ | refine WM (by omega) (by omega) (fun _ _ => ?_) | refine WN (by omega) (by omega) ?_ | refine WO (by omega) (by omega) ?_ | refine WP (by omega) (by omega) (by omega) ?_)
    | with_reducible refine WF ?_)
  refine AW_seq2 (aw_of tys_ok ?_)
  repeat' ((conv => whnf); first
    | (with_reducible first | exact Wa | exact Wb | exact Wc | refine Wd (by kernel_rfl) ?_ | refine We ?_ ?_ ?_ | refine W8 (by decide +kernel) ?_ ?_ ?_ | refine W9 ?_ ?_ ?_ | refine Wt (by first | assumption | omega) ?_ | refine Wu (by first | assumption | omega) ?_ | refine Wv (by omega) ?_ | refine Ww (by omega) ?_ | refine Wf (by decide) (fun _ => ?_) (fun _ => ?_) | refine Wg (fun _ => ?_) (fun _ => ?_) | refine Wh (fun _ => ?_) (fun _ => ?_) | refine Wi ?_ | refine Wj ?_ | refine Wk (fun _ => ?_) (fun _ => ?_) | refine Wl (fun _ => ?_) | refine Wm (by assumption) (by omega) ?_ | refine Wn (by omega) (by omega) (fun _ _ _ => ?_) | refine Wo (by omega) (by omega) ?_ | refine Wp (by omega) (by omega) (by omega) ?_ | refine Wq (by omega) (by omega) ?_ | refine Wr (by decide) (by omega) (by omega) ?_ | refine Ws (by decide) ?_ | refine Wx (fun _ => ?_) ?_ | refine Wy (fun _ => ?_) ?_ | refine Wz (fun _ => ?_) | refine WA (fun _ => ?_) | refine WB (by assumption) (by omega) ?_ | refine WC (by omega) (by omega) (fun _ _ => ?_) | refine WD (by omega) (by omega) (fun _ _ => ?_) | refine WE (by omega) (by omega) (by omega) ?_ | refine WJ (fun _ => ?_) | refine WK (fun _ _ _ => ?_) | refine WL (by assumption) (by omega) ?_ | refine WM (by omega) (by omega) (fun _ _ => ?_) | refine WN (by omega) (by omega) ?_ | refine WO (by omega) (by omega) ?_ | refine WP (by omega) (by omega) (by omega) ?_)
    | refine on_box hb ?_
    | with_reducible refine WF ?_)
  refine AW_seq2 (aw_of tys_ok ?_)
  repeat' ((conv => whnf); first
    | (with_reducible first | exact Wa | exact Wb | exact Wc | refine Wd (by kernel_rfl) ?_ | refine We ?_ ?_ ?_ | refine W8 (by decide +kernel) ?_ ?_ ?_ | refine W9 ?_ ?_ ?_ | refine Wt (by first | assumption | omega) ?_ | refine Wu (by first | assumption | omega) ?_ | refine Wv (by omega) ?_ | refine Ww (by omega) ?_ | refine Wf (by decide) (fun _ => ?_) (fun _ => ?_) | refine Wg (fun _ => ?_) (fun _ => ?_) | refine Wh (fun _ => ?_) (fun _ => ?_) | refine Wi ?_ | refine Wj ?_ | refine Wk (fun _ => ?_) (fun _ => ?_) | refine Wl (fun _ => ?_) | refine Wm (by assumption) (by omega) ?_ | refine Wn (by omega) (by omega) (fun _ _ _ => ?_) | refine Wo (by omega) (by omega) ?_ | refine Wp (by omega) (by omega) (by omega) ?_ | refine Wq (by omega) (by omega) ?_ | refine Wr (by decide) (by omega) (by omega) ?_ | refine Ws (by decide) ?_ | refine Wx (fun _ => ?_) ?_ | refine Wy (fun _ => ?_) ?_ | refine Wz (fun _ => ?_) | refine WA (fun _ => ?_) | refine WB (by assumption) (by omega) ?_ | refine WC (by omega) (by omega) (fun _ _ => ?_) | refine WD (by omega) (by omega) (fun _ _ => ?_) | refine WE (by omega) (by omega) (by omega) ?_ | refine WJ (fun _ => ?_) | refine WK (fun _ _ _ => ?_) | refine WL (by assumption) (by omega) ?_ | refine WM (by omega) (by omega) (fun _ _ => ?_) | refine WN (by omega) (by omega) ?_ | refine WO (by omega) (by omega) ?_ | refine WP (by omega) (by omega) (by omega) ?_)
    | refine on_box hb ?_
    | with_reducible refine WF ?_)
  refine AW_seq2 (aw_of tys_ok ?_)
  repeat' ((conv => whnf); first
    | (with_reducible first | exact Wa | exact Wb | exact Wc | refine Wd (by kernel_rfl) ?_ | refine We ?_ ?_ ?_ | refine W8 (by decide +kernel) ?_ ?_ ?_ | refine W9 ?_ ?_ ?_ | refine Wt (by first | assumption | omega) ?_ | refine Wu (by first | assumption | omega) ?_ | refine Wv (by omega) ?_ | refine Ww (by omega) ?_ | refine Wf (by decide) (fun _ => ?_) (fun _ => ?_) | refine Wg (fun _ => ?_) (fun _ => ?_) | refine Wh (fun _ => ?_) (fun _ => ?_) | refine Wi ?_ | refine Wj ?_ | refine Wk (fun _ => ?_) (fun _ => ?_) | refine Wl (fun _ => ?_) | refine Wm (by assumption) (by omega) ?_ | refine Wn (by omega) (by omega) (fun _ _ _ => ?_) | refine Wo (by omega) (by omega) ?_ | refine Wp (by omega) (by omega) (by omega) ?_ | refine Wq (by omega) (by omega) ?_ | refine Wr (by decide) (by omega) (by omega) ?_ | refine Ws (by decide) ?_ | refine Wx (fun _ => ?_) ?_ | refine Wy (fun _ => ?_) ?_ | refine Wz (fun _ => ?_) | refine WA (fun _ => ?_) | refine WB (by assumption) (by omega) ?_ | refine WC (by omega) (by omega) (fun _ _ => ?_) | refine WD (by omega) (by omega) (fun _ _ => ?_) | refine WE (by omega) (by omega) (by omega) ?_ | refine WJ (fun _ => ?_) | refine WK (fun _ _ _ => ?_) | refine WL (by assumption) (by omega) ?_ | refine WM (by omega) (by omega) (fun _ _ => ?_) | refine WN (by omega) (by omega) ?_ | refine WO (by omega) (by omega) ?_ | refine WP (by omega) (by omega) (by omega) ?_)
    | refine on_box (St.box_at _ _ _) ?_
    | with_reducible refine WF ?_)
  refine AW_st (st' := st.setBox b (qC s (p + 1) true [] w1 [] w2)) (St.set_set' _ _ _ _).symm ?_
  have hb1 := St.box_at st b (qC s (p + 1) true [] w1 [] w2)
  have hr1 := hr.set hb0 (qC s (p + 1) true [] w1 [] w2)
  generalize st.setBox b (qC s (p + 1) true [] w1 [] w2) = st1 at hb1 hr1
  refine aw_of tys_ok ?_
  repeat' ((conv => whnf); first
    | (with_reducible first | exact Wa | exact Wb | exact Wc | refine Wd (by kernel_rfl) ?_ | refine We ?_ ?_ ?_ | refine W8 (by decide +kernel) ?_ ?_ ?_ | refine W9 ?_ ?_ ?_ | refine Wt (by first | assumption | omega) ?_ | refine Wu (by first | assumption | omega) ?_ | refine Wv (by omega) ?_ | refine Ww (by omega) ?_ | refine Wf (by decide) (fun _ => ?_) (fun _ => ?_) | refine Wg (fun _ => ?_) (fun _ => ?_) | refine Wh (fun _ => ?_) (fun _ => ?_) | refine Wi ?_ | refine Wj ?_ | refine Wk (fun _ => ?_) (fun _ => ?_) | refine Wl (fun _ => ?_) | refine Wm (by assumption) (by omega) ?_ | refine Wn (by omega) (by omega) (fun _ _ _ => ?_) | refine Wo (by omega) (by omega) ?_ | refine Wp (by omega) (by omega) (by omega) ?_ | refine Wq (by omega) (by omega) ?_ | refine Wr (by decide) (by omega) (by omega) ?_ | refine Ws (by decide) ?_ | refine Wx (fun _ => ?_) ?_ | refine Wy (fun _ => ?_) ?_ | refine Wz (fun _ => ?_) | refine WA (fun _ => ?_) | refine WB (by assumption) (by omega) ?_ | refine WC (by omega) (by omega) (fun _ _ => ?_) | refine WD (by omega) (by omega) (fun _ _ => ?_) | refine WE (by omega) (by omega) (by omega) ?_ | refine WJ (fun _ => ?_) | refine WK (fun _ _ _ => ?_) | refine WL (by assumption) (by omega) ?_ | refine WM (by omega) (by omega) (fun _ _ => ?_) | refine WN (by omega) (by omega) ?_ | refine WO (by omega) (by omega) ?_ | refine WP (by omega) (by omega) (by omega) ?_)
    | refine on_box hb1 ?_
    | with_reducible refine WF ?_)
  refine loop_g (α := LS) (fun _ => []) [0, 3] [] (fun x => x.m) (fun x => x.m.box b = some (qC s x.q true x.o x.w1 x.g x.w2) ∧ Rows2 st0 x.m x.w1 x.o.length x.w2 (2 * x.g.length) ∧ x.q ≤ s.length ∧ p + 1 ≤ x.q ∧ x.o.length ≤ x.q ∧ x.g.length ≤ x.q ∧
      absN (p + 1) (textN (s.drop (p + 1))) = absN x.q (textN (s.drop x.q)) ∧ textO (s.drop (p + 1)) = x.o ++ textO (s.drop x.q) ∧ textP (p + 1) (s.drop (p + 1)) = x.g ++ textP x.q (s.drop x.q))
    (fun x => s.length - x.q) ⟨p + 1, [], [], w1, w2, st1⟩ ⟨hb1, hr1, by simp only []; omega, Nat.le_refl _, by simp, by simp, rfl, rfl, rfl⟩ (by refine ⟨rfl, ?_, ?_, rfl⟩ <;> repeat' (first | exact trivial | exact rfl | refine And.intro ?_ ?_)) (St.le_refl _) ?_
  rintro ⟨q, o, g, v1, v2, m⟩ ⟨j1, j2, j3, j4, j5, j6, j7, j8, j9⟩
  dsimp only at j1 j2 j3 j4 j5 j6 j7 j8 j9 ⊢
  have hx := byF_hd (s.drop q)
  have hbt : ∀ {R : Res → St → Prop}, R (.ret (.int .u8 (byF (s.drop q)))) m → PC 114 [.ptr b 0, .int .i64 0] m R := fun h => byteAt_c (k := 0) hl j3 (by decide) j1 h
  by_cases hq : hdF (s.drop q) = 34
  · have hql : q < s.length := hdF_lt_len (k := q) (by omega)
    rw [textN_end hq] at j7
    rw [textO_end hq, List.append_nil] at j8
    rw [textP_end hq, List.append_nil] at j9
    clear h0
    have hcd : (!byF (s.drop q) == ((e.toNat : Nat) : Int)) = false := by rw [show byF (s.drop q) = ((e.toNat : Nat) : Int) by omega]; simp
    repeat' ((conv => whnf); first
      | refine bc_f hcd ?_
      | (with_reducible first | exact Wa | exact Wb | exact Wc | refine Wd (by kernel_rfl) ?_ | refine We ?_ ?_ ?_ | refine W8 (by decide +kernel) ?_ ?_ ?_ | refine W9 ?_ ?_ ?_ | refine Wt (by first | assumption | omega) ?_ | refine Wu (by first | assumption | omega) ?_ | refine Wv (by omega) ?_ | refine Ww (by omega) ?_ | refine Wf (by decide) (fun _ => ?_) (fun _ => ?_) | refine Wg (fun _ => ?_) (fun _ => ?_) | refine Wh (fun _ => ?_) (fun _ => ?_) | refine Wi ?_ | refine Wj ?_ | refine Wk (fun _ => ?_) (fun _ => ?_) | refine Wl (fun _ => ?_) | refine Wm (by assumption) (by omega) ?_ | refine Wn (by omega) (by omega) (fun _ _ _ => ?_) | refine Wo (by omega) (by omega) ?_ | refine Wp (by omega) (by omega) (by omega) ?_ | refine Wq (by omega) (by omega) ?_ | refine Wr (by decide) (by omega) (by omega) ?_ | refine Ws (by decide) ?_ | refine Wx (fun _ => ?_) ?_ | refine Wy (fun _ => ?_) ?_ | refine Wz (fun _ => ?_) | refine WA (fun _ => ?_) | refine WB (by assumption) (by omega) ?_ | refine WC (by omega) (by omega) (fun _ _ => ?_) | refine WD (by omega) (by omega) (fun _ _ => ?_) | refine WE (by omega) (by omega) (by omega) ?_ | refine WJ (fun _ => ?_) | refine WK (fun _ _ _ => ?_) | refine WL (by assumption) (by omega) ?_ | refine WM (by omega) (by omega) (fun _ _ => ?_) | refine WN (by omega) (by omega) ?_ | refine WO (by omega) (by omega) ?_ | refine WP (by omega) (by omega) (by omega) ?_)
      | refine hbt ?_
      | refine on_box j1 ?_
      | with_reducible refine WF ?_)
    rw [j8, j9] at h
    cases hT : textN (s.drop (p + 1)) with
    | inl k => rw [hT] at j7; cases j7
    | inr n =>
      rw [hT] at j7
      have e7 : p + 1 + n = q + 1 := by injection j7
      exact fin (h n hT v1 v2 _ (j2.set hb0 _) ((St.box_at _ _ _).trans (congrArg some (qC_at (by omega))))) rfl
  · have hne : ¬ byF (s.drop q) = ((e.toNat : Nat) : Int) := by omega
    have hcd : (!byF (s.drop q) == ((e.toNat : Nat) : Int)) = true := by rw [beq_eq_false_iff_ne.2 hne]; rfl
    repeat' ((conv => whnf); first
      | refine bc_t hcd ?_
      | (with_reducible first | exact Wa | exact Wb | exact Wc | refine Wd (by kernel_rfl) ?_ | refine We ?_ ?_ ?_ | refine W8 (by decide +kernel) ?_ ?_ ?_ | refine W9 ?_ ?_ ?_ | refine Wt (by first | assumption | omega) ?_ | refine Wu (by first | assumption | omega) ?_ | refine Wv (by omega) ?_ | refine Ww (by omega) ?_ | refine Wf (by decide) (fun _ => ?_) (fun _ => ?_) | refine Wg (fun _ => ?_) (fun _ => ?_) | refine Wh (fun _ => ?_) (fun _ => ?_) | refine Wi ?_ | refine Wj ?_ | refine Wk (fun _ => ?_) (fun _ => ?_) | refine Wl (fun _ => ?_) | refine Wm (by assumption) (by omega) ?_ | refine Wn (by omega) (by omega) (fun _ _ _ => ?_) | refine Wo (by omega) (by omega) ?_ | refine Wp (by omega) (by omega) (by omega) ?_ | refine Wq (by omega) (by omega) ?_ | refine Wr (by decide) (by omega) (by omega) ?_ | refine Ws (by decide) ?_ | refine Wx (fun _ => ?_) ?_ | refine Wy (fun _ => ?_) ?_ | refine Wz (fun _ => ?_) | refine WA (fun _ => ?_) | refine WB (by assumption) (by omega) ?_ | refine WC (by omega) (by omega) (fun _ _ => ?_) | refine WD (by omega) (by omega) (fun _ _ => ?_) | refine WE (by omega) (by omega) (by omega) ?_ | refine WJ (fun _ => ?_) | refine WK (fun _ _ _ => ?_) | refine WL (by assumption) (by omega) ?_ | refine WM (by omega) (by omega) (fun _ _ => ?_) | refine WN (by omega) (by omega) ?_ | refine WO (by omega) (by omega) ?_ | refine WP (by omega) (by omega) (by omega) ?_)
      | refine hbt ?_
      | refine one_c hl j3 hb0 j1 j2 (by omega) (by omega) (fun e' hE st' hQ => ?_) (fun v n hO u1 u2 st' g' hR hB hG => ?_)
      | with_reducible refine WF ?_)
    · rw [textN_bad hq hE] at j7
      cases hT : textN (s.drop (p + 1)) with
      | inl k =>
        rw [hT] at j7
        injection j7 with j7
        injection j7 with e7 e8
        have := h0 k.1 k.2 hT st' hQ
        rw [show p + 1 + k.1 = q by simpa using e7, e8] at this
        exact fin this rfl
      | inr n => rw [hT] at j7; cases j7
    · have hle := oneF_le hO
      rw [List.length_drop] at hle
      dsimp only at hle
      rw [absN_go hq hO, List.drop_drop] at j7
      rw [textO_go hq hO, List.drop_drop] at j8
      rw [textP_go hq hO, List.drop_drop] at j9
      have ho : (outF o v).length ≤ o.length + 1 := by unfold outF; split <;> simp
      have hg : g'.length ≤ g.length + 1 := by rw [hG]; split <;> simp
      conv => whnf
      refine ⟨⟨q + n, outF o v, g', u1, u2, st'⟩, ⟨hB, hR, by simp only []; omega, by simp only []; omega, by simp only []; omega, by simp only []; omega, j7, ?_, ?_⟩, by simp only []; omega, (by refine ⟨rfl, ?_, ?_, rfl⟩ <;> repeat' (first | exact trivial | exact rfl | refine And.intro ?_ ?_)), St.le_refl _⟩
      · rw [j8]
        unfold outF
        by_cases hv1 : v = -1
        · rw [if_pos hv1, if_pos hv1]
        · rw [if_neg hv1, if_neg hv1]; simp
      · rw [j9, hG]
        by_cases hg0 : 0 < gapN (s.drop q)
        · rw [if_pos hg0, if_pos ⟨rfl, hg0⟩]; simp
        · rw [if_neg hg0, if_neg (fun x => hg0 x.2)]
end
end Go.Proofs.YtkcapphlemoccaaGreatDoor
set_option linter.unusedVariables false
namespace Go.Proofs.YtkcapphlemoccaaGreatDoor
open Go Go.Aw
section
variable {st : St} {R : Res → St → Prop}
set_option maxHeartbeats 2000000 in
theorem literal_h {st0 : St} {b p : Nat} {s : List UInt8} {tx : Bool} {w1 w2 : Own} (hl : s.length ≤ 100000000) (hp : hdF (s.drop p) = 39) (hb0 : st0.box b = none) (hb : st.box b = some (qC s p tx [] w1 [] w2)) (hr : Rows2 st0 st w1 0 w2 0)
    (h0 : ∀ k e, charN (s.drop (p + 1)) = .inl (k, e) → ∀ st', QB st0 st' b s false → R (.pan (qfault (p + 1 + k : Nat) e)) st')
    (h : ∀ n, charN (s.drop (p + 1)) = .inr n → ∀ o' w1' w2' st', Rows2 st0 st' w1' (List.length o') w2' 0 → st'.box b = some (qC s (p + 1 + n) false o' w1' [] w2') → R (.ret (.int .i64 13)) st') :
    PC 105 [.ptr b 0] st R := by
  have hpl : p < s.length := hdF_lt_len (k := p) (by omega)
  obtain ⟨e, he⟩ : ∃ e, s[p]? = some e := ⟨s[p], List.getElem?_eq_getElem hpl⟩
  have he' : s[(p : Int).toNat]? = some e := he
  have hv := hdF_at he
  have hv34 : ((e.toNat : Nat) : Int) = 39 := by omega
  refine pcalls_of_aw tys_ok [] Tryz.func105 rfl (by decide) rfl ?_
  refine AW_seq2 (aw_of tys_ok ?_)
  repeat' ((conv => whnf); first
    | (with_reducible first | exact Wa | exact Wb | exact Wc | refine Wd (by kernel_rfl) ?_ | refine We ?_ ?_ ?_ | refine W8 (by decide +kernel) ?_ ?_ ?_ | refine W9 ?_ ?_ ?_ | refine Wt (by first | assumption | omega) ?_ | refine Wu (by first | assumption | omega) ?_ | refine Wv (by omega) ?_ | refine Ww (by omega) ?_ | refine Wf (by decide) (fun _ => ?_) (fun _ => ?_) | refine Wg (fun _ => ?_) (fun _ => ?_) | refine Wh (fun _ => ?_) (fun _ => ?_) | refine Wi ?_ | refine Wj ?_ | refine Wk (fun _ => ?_) (fun _ => ?_) | refine Wl (fun _ => ?_) | refine Wm (by assumption) (by omega) ?_ | refine Wn (by omega) (by omega) (fun _ _ _ => ?_) | refine Wo (by omega) (by omega) ?_ | refine Wp (by omega) (by omega) (by omega) ?_ | refine Wq (by omega) (by omega) ?_ | refine Wr (by decide) (by omega) (by omega) ?_ | refine Ws (by decide) ?_ | refine Wx (fun _ => ?_) ?_ | refine Wy (fun _ => ?_) ?_ | refine Wz (fun _ => ?_) | refine WA (fun _ => ?_) | refine WB (by assumption) (by omega) ?_ | refine WC (by omega) (by omega) (fun _ _ => ?_) | refine WD (by omega) (by omega) (fun _ _ => ?_) | refine WE (by omega) (by omega) (by omega) ?_ | refine WJ (fun _ => ?_) | refine WK (fun _ _ _ => ?_) | refine WL (by assumption) (by omega) ?_ | refine WM (by omega) (by omega) (fun _ _ => ?_) | refine WN (by omega) (by omega) ?_ | refine WO (by omega) (by omega) ?_ | refine WP (by omega) (by omega) (by omega) ?_)
    | with_reducible refine WF ?_)
  refine AW_seq2 (aw_of tys_ok ?_)
  repeat' ((conv => whnf); first
    | (with_reducible first | exact Wa | exact Wb | exact Wc | refine Wd (by kernel_rfl) ?_ | refine We ?_ ?_ ?_ | refine W8 (by decide +kernel) ?_ ?_ ?_ | refine W9 ?_ ?_ ?_ | refine Wt (by first | assumption | omega) ?_ | refine Wu (by first | assumption | omega) ?_ | refine Wv (by omega) ?_ | refine Ww (by omega) ?_ | refine Wf (by decide) (fun _ => ?_) (fun _ => ?_) | refine Wg (fun _ => ?_) (fun _ => ?_) | refine Wh (fun _ => ?_) (fun _ => ?_) | refine Wi ?_ | refine Wj ?_ | refine Wk (fun _ => ?_) (fun _ => ?_) | refine Wl (fun _ => ?_) | refine Wm (by assumption) (by omega) ?_ | refine Wn (by omega) (by omega) (fun _ _ _ => ?_) | refine Wo (by omega) (by omega) ?_ | refine Wp (by omega) (by omega) (by omega) ?_ | refine Wq (by omega) (by omega) ?_ | refine Wr (by decide) (by omega) (by omega) ?_ | refine Ws (by decide) ?_ | refine Wx (fun _ => ?_) ?_ | refine Wy (fun _ => ?_) ?_ | refine Wz (fun _ => ?_) | refine WA (fun _ => ?_) | refine WB (by assumption) (by omega) ?_ | refine WC (by omega) (by omega) (fun _ _ => ?_) | refine WD (by omega) (by omega) (fun _ _ => ?_) | refine WE (by omega) (by omega) (by omega) ?_ | refine WJ (fun _ => ?_) | refine WK (fun _ _ _ => ?_) | refine WL (by assumption) (by omega) ?_ | refine WM (by omega) (by omega) (fun _ _ => ?_) | refine WN (by omega) (by omega) ?_ | refine WO (by omega) (by omega) ?_ | refine WP (by omega) (by omega) (by omega) ?_)
    | refine on_box hb ?_
    | with_reducible refine WF ?_)
  refine AW_seq2 (aw_of tys_ok ?_)
  repeat' ((conv => whnf); first
    | (with_reducible first | exact Wa | exact Wb | exact Wc | refine Wd (by kernel_rfl) ?_ | refine We ?_ ?_ ?_ | refine W8 (by decide +kernel) ?_ ?_ ?_ | refine W9 ?_ ?_ ?_ | refine Wt (by first | assumption | omega) ?_ | refine Wu (by first | assumption | omega) ?_ | refine Wv (by omega) ?_ | refine Ww (by omega) ?_ | refine Wf (by decide) (fun _ => ?_) (fun _ => ?_) | refine Wg (fun _ => ?_) (fun _ => ?_) | refine Wh (fun _ => ?_) (fun _ => ?_) | refine Wi ?_ | refine Wj ?_ | refine Wk (fun _ => ?_) (fun _ => ?_) | refine Wl (fun _ => ?_) | refine Wm (by assumption) (by omega) ?_ | refine Wn (by omega) (by omega) (fun _ _ _ => ?_) | refine Wo (by omega) (by omega) ?_ | refine Wp (by omega) (by omega) (by omega) ?_ | refine Wq (by omega) (by omega) ?_ | refine Wr (by decide) (by omega) (by omega) ?_ | refine Ws (by decide) ?_ | refine Wx (fun _ => ?_) ?_ | refine Wy (fun _ => ?_) ?_ | refine Wz (fun _ => ?_) | refine WA (fun _ => ?_) | refine WB (by assumption) (by omega) ?_ | refine WC (by omega) (by omega) (fun _ _ => ?_) | refine WD (by omega) (by omega) (fun _ _ => ?_) | refine WE (by omega) (by omega) (by omega) ?_ | refine WJ (fun _ => ?_) | refine WK (fun _ _ _ => ?_) | refine WL (by assumption) (by omega) ?_ | refine WM (by omega) (by omega) (fun _ _ => ?_) | refine WN (by omega) (by omega) ?_ | refine WO (by omega) (by omega) ?_ | refine WP (by omega) (by omega) (by omega) ?_)
    | refine on_box hb ?_
    | with_reducible refine WF ?_)
  refine AW_seq2 (aw_of tys_ok ?_)
  repeat' ((conv => whnf); first
    | (with_reducible first | exact Wa | exact Wb | exact Wc | refine Wd (by kernel_rfl) ?_ | refine We ?_ ?_ ?_ | refine W8 (by decide +kernel) ?_ ?_ ?_ | refine W9 ?_ ?_ ?_ | refine Wt (by first | assumption | omega) ?_ | refine Wu (by first | assumption | omega) ?_ | refine Wv (by omega) ?_ | refine Ww (by omega) ?_ | refine Wf (by decide) (fun _ => ?_) (fun _ => ?_) | refine Wg (fun _ => ?_) (fun _ => ?_) | refine Wh (fun _ => ?_) (fun _ => ?_) | refine Wi ?_ | refine Wj ?_ | refine Wk (fun _ => ?_) (fun _ => ?_) | refine Wl (fun _ => ?_) | refine Wm (by assumption) (by omega) ?_ | refine Wn (by omega) (by omega) (fun _ _ _ => ?_) | refine Wo (by omega) (by omega) ?_ | refine Wp (by omega) (by omega) (by omega) ?_ | refine Wq (by omega) (by omega) ?_ | refine Wr (by decide) (by omega) (by omega) ?_ | refine Ws (by decide) ?_ | refine Wx (fun _ => ?_) ?_ | refine Wy (fun _ => ?_) ?_ | refine Wz (fun _ => ?_) | refine WA (fun _ => ?_) | refine WB (by assumption) (by omega) ?_ | refine WC (by omega) (by omega) (fun _ _ => ?_) | refine WD (by omega) (by omega) (fun _ _ => ?_) | refine WE (by omega) (by omega) (by omega) ?_ | refine WJ (fun _ => ?_) | refine WK (fun _ _ _ => ?_) | refine WL (by assumption) (by omega) ?_ | refine WM (by omega) (by omega) (fun _ _ => ?_) | refine WN (by omega) (by omega) ?_ | refine WO (by omega) (by omega) ?_ | refine WP (by omega) (by omega) (by omega) ?_)
    | refine on_box (St.box_at _ _ _) ?_
    | with_reducible refine WF ?_)
  refine AW_st (st' := st.setBox b (qC s (p + 1) false [] w1 [] w2)) (St.set_set' _ _ _ _).symm ?_
  have hb1 := St.box_at st b (qC s (p + 1) false [] w1 [] w2)
  have hr1 := hr.set hb0 (qC s (p + 1) false [] w1 [] w2)
  generalize st.setBox b (qC s (p + 1) false [] w1 [] w2) = st1 at hb1 hr1
  have hx := byF_hd (s.drop (p + 1))
  have hbt : ∀ {R : Res → St → Prop}, R (.ret (.int .u8 (byF (s.drop (p + 1))))) st1 → PC 114 [.ptr b 0, .int .i64 0] st1 R := fun h => byteAt_c (k := 0) hl (by omega) (by decide) hb1 h
  have hqb : QB st0 st1 b s false := ⟨_, [], w1, [], w2, hb1, hr1⟩
  by_cases hq : hdF (s.drop (p + 1)) = 39
  · have h0 := h0 0 50 (if_pos hq) st1 hqb
    clear h
    refine aw_of tys_ok ?_
    repeat' ((conv => whnf); first
      | (with_reducible first | exact Wa | exact Wb | exact Wc | refine Wd (by kernel_rfl) ?_ | refine We ?_ ?_ ?_ | refine W8 (by decide +kernel) ?_ ?_ ?_ | refine W9 ?_ ?_ ?_ | refine Wt (by first | assumption | omega) ?_ | refine Wu (by first | assumption | omega) ?_ | refine Wv (by omega) ?_ | refine Ww (by omega) ?_ | refine Wf (by decide) (fun _ => ?_) (fun _ => ?_) | refine Wg (fun _ => ?_) (fun _ => ?_) | refine Wh (fun _ => ?_) (fun _ => ?_) | refine Wi ?_ | refine Wj ?_ | refine Wk (fun _ => ?_) (fun _ => ?_) | refine Wl (fun _ => ?_) | refine Wm (by assumption) (by omega) ?_ | refine Wn (by omega) (by omega) (fun _ _ _ => ?_) | refine Wo (by omega) (by omega) ?_ | refine Wp (by omega) (by omega) (by omega) ?_ | refine Wq (by omega) (by omega) ?_ | refine Wr (by decide) (by omega) (by omega) ?_ | refine Ws (by decide) ?_ | refine Wx (fun _ => ?_) ?_ | refine Wy (fun _ => ?_) ?_ | refine Wz (fun _ => ?_) | refine WA (fun _ => ?_) | refine WB (by assumption) (by omega) ?_ | refine WC (by omega) (by omega) (fun _ _ => ?_) | refine WD (by omega) (by omega) (fun _ _ => ?_) | refine WE (by omega) (by omega) (by omega) ?_ | refine WJ (fun _ => ?_) | refine WK (fun _ _ _ => ?_) | refine WL (by assumption) (by omega) ?_ | refine WM (by omega) (by omega) (fun _ _ => ?_) | refine WN (by omega) (by omega) ?_ | refine WO (by omega) (by omega) ?_ | refine WP (by omega) (by omega) (by omega) ?_)
      | refine on_box hb1 ?_
      | refine hbt ?_
      | refine qfail_c ?_
      | with_reducible refine WF ?_)
    exact fin h0 rfl
  refine AW_seq2 (aw_of tys_ok ?_)
  repeat' ((conv => whnf); first
    | (with_reducible first | exact Wa | exact Wb | exact Wc | refine Wd (by kernel_rfl) ?_ | refine We ?_ ?_ ?_ | refine W8 (by decide +kernel) ?_ ?_ ?_ | refine W9 ?_ ?_ ?_ | refine Wt (by first | assumption | omega) ?_ | refine Wu (by first | assumption | omega) ?_ | refine Wv (by omega) ?_ | refine Ww (by omega) ?_ | refine Wf (by decide) (fun _ => ?_) (fun _ => ?_) | refine Wg (fun _ => ?_) (fun _ => ?_) | refine Wh (fun _ => ?_) (fun _ => ?_) | refine Wi ?_ | refine Wj ?_ | refine Wk (fun _ => ?_) (fun _ => ?_) | refine Wl (fun _ => ?_) | refine Wm (by assumption) (by omega) ?_ | refine Wn (by omega) (by omega) (fun _ _ _ => ?_) | refine Wo (by omega) (by omega) ?_ | refine Wp (by omega) (by omega) (by omega) ?_ | refine Wq (by omega) (by omega) ?_ | refine Wr (by decide) (by omega) (by omega) ?_ | refine Ws (by decide) ?_ | refine Wx (fun _ => ?_) ?_ | refine Wy (fun _ => ?_) ?_ | refine Wz (fun _ => ?_) | refine WA (fun _ => ?_) | refine WB (by assumption) (by omega) ?_ | refine WC (by omega) (by omega) (fun _ _ => ?_) | refine WD (by omega) (by omega) (fun _ _ => ?_) | refine WE (by omega) (by omega) (by omega) ?_ | refine WJ (fun _ => ?_) | refine WK (fun _ _ _ => ?_) | refine WL (by assumption) (by omega) ?_ | refine WM (by omega) (by omega) (fun _ _ => ?_) | refine WN (by omega) (by omega) ?_ | refine WO (by omega) (by omega) ?_ | refine WP (by omega) (by omega) (by omega) ?_)
    | refine on_box hb1 ?_
    | with_reducible refine WF ?_)
  refine AW_seq2 (aw_of tys_ok ?_)
  repeat' ((conv => whnf); first
    | (with_reducible first | exact Wa | exact Wb | exact Wc | refine Wd (by kernel_rfl) ?_ | refine We ?_ ?_ ?_ | refine W8 (by decide +kernel) ?_ ?_ ?_ | refine W9 ?_ ?_ ?_ | refine Wt (by first | assumption | omega) ?_ | refine Wu (by first | assumption | omega) ?_ | refine Wv (by omega) ?_ | refine Ww (by omega) ?_ | refine Wf (by decide) (fun _ => ?_) (fun _ => ?_) | refine Wg (fun _ => ?_) (fun _ => ?_) | refine Wh (fun _ => ?_) (fun _ => ?_) | refine Wi ?_ | refine Wj ?_ | refine Wk (fun _ => ?_) (fun _ => ?_) | refine Wl (fun _ => ?_) | refine Wm (by assumption) (by omega) ?_ | refine Wn (by omega) (by omega) (fun _ _ _ => ?_) | refine Wo (by omega) (by omega) ?_ | refine Wp (by omega) (by omega) (by omega) ?_ | refine Wq (by omega) (by omega) ?_ | refine Wr (by decide) (by omega) (by omega) ?_ | refine Ws (by decide) ?_ | refine Wx (fun _ => ?_) ?_ | refine Wy (fun _ => ?_) ?_ | refine Wz (fun _ => ?_) | refine WA (fun _ => ?_) | refine WB (by assumption) (by omega) ?_ | refine WC (by omega) (by omega) (fun _ _ => ?_) | refine WD (by omega) (by omega) (fun _ _ => ?_) | refine WE (by omega) (by omega) (by omega) ?_ | refine WJ (fun _ => ?_) | refine WK (fun _ _ _ => ?_) | refine WL (by assumption) (by omega) ?_ | refine WM (by omega) (by omega) (fun _ _ => ?_) | refine WN (by omega) (by omega) ?_ | refine WO (by omega) (by omega) ?_ | refine WP (by omega) (by omega) (by omega) ?_)
    | refine hbt ?_
    | with_reducible refine WF ?_)
  refine AW_seq2 (aw_of tys_ok ?_)
  repeat' ((conv => whnf); first
    | (with_reducible first | exact Wa | exact Wb | exact Wc | refine Wd (by kernel_rfl) ?_ | refine We ?_ ?_ ?_ | refine W8 (by decide +kernel) ?_ ?_ ?_ | refine W9 ?_ ?_ ?_ | refine Wt (by first | assumption | omega) ?_ | refine Wu (by first | assumption | omega) ?_ | refine Wv (by omega) ?_ | refine Ww (by omega) ?_ | refine Wf (by decide) (fun _ => ?_) (fun _ => ?_) | refine Wg (fun _ => ?_) (fun _ => ?_) | refine Wh (fun _ => ?_) (fun _ => ?_) | refine Wi ?_ | refine Wj ?_ | refine Wk (fun _ => ?_) (fun _ => ?_) | refine Wl (fun _ => ?_) | refine Wm (by assumption) (by omega) ?_ | refine Wn (by omega) (by omega) (fun _ _ _ => ?_) | refine Wo (by omega) (by omega) ?_ | refine Wp (by omega) (by omega) (by omega) ?_ | refine Wq (by omega) (by omega) ?_ | refine Wr (by decide) (by omega) (by omega) ?_ | refine Ws (by decide) ?_ | refine Wx (fun _ => ?_) ?_ | refine Wy (fun _ => ?_) ?_ | refine Wz (fun _ => ?_) | refine WA (fun _ => ?_) | refine WB (by assumption) (by omega) ?_ | refine WC (by omega) (by omega) (fun _ _ => ?_) | refine WD (by omega) (by omega) (fun _ _ => ?_) | refine WE (by omega) (by omega) (by omega) ?_ | refine WJ (fun _ => ?_) | refine WK (fun _ _ _ => ?_) | refine WL (by assumption) (by omega) ?_ | refine WM (by omega) (by omega) (fun _ _ => ?_) | refine WN (by omega) (by omega) ?_ | refine WO (by omega) (by omega) ?_ | refine WP (by omega) (by omega) (by omega) ?_)
    | refine one_c (st0 := st0) hl (by omega) hb0 hb1 hr1 (by simp) (by simp) (fun e' hE st' hQ => ?_) (fun v n hO u1 u2 st' g' hR hB hG => ?_)
    | with_reducible refine WF ?_)
  · exact fin (h0 0 e' (by unfold charN; rw [if_neg hq, hE]) st' hQ) rfl
  · have hle := oneF_le hO
    rw [List.length_drop] at hle
    dsimp only at hle
    rw [if_neg (fun x => by cases x.1)] at hG
    subst hG
    have hc : charN (s.drop (p + 1)) = if hdF (s.drop (p + 1 + n)) = 39 then .inr (n + 1) else .inl (n, 50) := by
      unfold charN
      rw [if_neg hq, hO]
      show (if hdF ((s.drop (p + 1)).drop n) = 39 then _ else _) = _
      rw [List.drop_drop]
    have hx2 := byF_hd (s.drop (p + 1 + n))
    have hbt2 : ∀ {R : Res → St → Prop}, R (.ret (.int .u8 (byF (s.drop (p + 1 + n))))) st' → PC 114 [.ptr b 0, .int .i64 0] st' R := fun h => byteAt_c (k := 0) hl (by omega) (by decide) hB h
    clear hbt hb1 hr1 hqb hb hr
    by_cases hq2 : hdF (s.drop (p + 1 + n)) = 39
    · rw [if_pos hq2] at hc
      have h := fun st' => h _ hc (outF [] v) u1 u2 st'
      refine aw_of tys_ok ?_
      repeat' ((conv => whnf); first
        | (with_reducible first | exact Wa | exact Wb | exact Wc | refine Wd (by kernel_rfl) ?_ | refine We ?_ ?_ ?_ | refine W8 (by decide +kernel) ?_ ?_ ?_ | refine W9 ?_ ?_ ?_ | refine Wt (by first | assumption | omega) ?_ | refine Wu (by first | assumption | omega) ?_ | refine Wv (by omega) ?_ | refine Ww (by omega) ?_ | refine Wf (by decide) (fun _ => ?_) (fun _ => ?_) | refine Wg (fun _ => ?_) (fun _ => ?_) | refine Wh (fun _ => ?_) (fun _ => ?_) | refine Wi ?_ | refine Wj ?_ | refine Wk (fun _ => ?_) (fun _ => ?_) | refine Wl (fun _ => ?_) | refine Wm (by assumption) (by omega) ?_ | refine Wn (by omega) (by omega) (fun _ _ _ => ?_) | refine Wo (by omega) (by omega) ?_ | refine Wp (by omega) (by omega) (by omega) ?_ | refine Wq (by omega) (by omega) ?_ | refine Wr (by decide) (by omega) (by omega) ?_ | refine Ws (by decide) ?_ | refine Wx (fun _ => ?_) ?_ | refine Wy (fun _ => ?_) ?_ | refine Wz (fun _ => ?_) | refine WA (fun _ => ?_) | refine WB (by assumption) (by omega) ?_ | refine WC (by omega) (by omega) (fun _ _ => ?_) | refine WD (by omega) (by omega) (fun _ _ => ?_) | refine WE (by omega) (by omega) (by omega) ?_ | refine WJ (fun _ => ?_) | refine WK (fun _ _ _ => ?_) | refine WL (by assumption) (by omega) ?_ | refine WM (by omega) (by omega) (fun _ _ => ?_) | refine WN (by omega) (by omega) ?_ | refine WO (by omega) (by omega) ?_ | refine WP (by omega) (by omega) (by omega) ?_)
        | refine hbt2 ?_
        | refine on_box hB ?_
        | with_reducible refine WF ?_)
      exact fin (h _ (hR.set hb0 _) ((St.box_at _ _ _).trans (congrArg some (qC_at (by omega))))) rfl
    · rw [if_neg hq2] at hc
      have h0 := h0 _ _ hc st' ⟨_, _, _, _, _, hB, hR⟩
      refine aw_of tys_ok ?_
      repeat' ((conv => whnf); first
        | (with_reducible first | exact Wa | exact Wb | exact Wc | refine Wd (by kernel_rfl) ?_ | refine We ?_ ?_ ?_ | refine W8 (by decide +kernel) ?_ ?_ ?_ | refine W9 ?_ ?_ ?_ | refine Wt (by first | assumption | omega) ?_ | refine Wu (by first | assumption | omega) ?_ | refine Wv (by omega) ?_ | refine Ww (by omega) ?_ | refine Wf (by decide) (fun _ => ?_) (fun _ => ?_) | refine Wg (fun _ => ?_) (fun _ => ?_) | refine Wh (fun _ => ?_) (fun _ => ?_) | refine Wi ?_ | refine Wj ?_ | refine Wk (fun _ => ?_) (fun _ => ?_) | refine Wl (fun _ => ?_) | refine Wm (by assumption) (by omega) ?_ | refine Wn (by omega) (by omega) (fun _ _ _ => ?_) | refine Wo (by omega) (by omega) ?_ | refine Wp (by omega) (by omega) (by omega) ?_ | refine Wq (by omega) (by omega) ?_ | refine Wr (by decide) (by omega) (by omega) ?_ | refine Ws (by decide) ?_ | refine Wx (fun _ => ?_) ?_ | refine Wy (fun _ => ?_) ?_ | refine Wz (fun _ => ?_) | refine WA (fun _ => ?_) | refine WB (by assumption) (by omega) ?_ | refine WC (by omega) (by omega) (fun _ _ => ?_) | refine WD (by omega) (by omega) (fun _ _ => ?_) | refine WE (by omega) (by omega) (by omega) ?_ | refine WJ (fun _ => ?_) | refine WK (fun _ _ _ => ?_) | refine WL (by assumption) (by omega) ?_ | refine WM (by omega) (by omega) (fun _ _ => ?_) | refine WN (by omega) (by omega) ?_ | refine WO (by omega) (by omega) ?_ | refine WP (by omega) (by omega) (by omega) ?_)
        | refine hbt2 ?_
        | refine on_box hB ?_
        | refine qfail_c ?_
        | with_reducible refine WF ?_)
      exact fin h0 rfl
end
end Go.Proofs.YtkcapphlemoccaaGreatDoor
set_option linter.unusedVariables false
set_option linter.unusedSimpArgs false
namespace Go.Aw
open Go
section
variable {D : List Deferred} {P : Program} {T : List (Nat × Ty)} {I0 I : Mem} {st0 st : St} {w0 w : World} {β : Nat → Option Nat} {env : Env} {a : Act}
theorem pcalls_defer3 (hP : POk P T) {f : FuncId} {fn : Func} (gl : List Nat) {args : List V} {R : Res → St → Prop} (hf : P.funcs[f]? = some fn) {c0 c1 c2 rest : Code} {rid : Nat} {mk df : Oper}
    (hb : fn.body = some (.seq c0 (.seq c1 (.seq c2 (.seq (.region rid #[mk, df] false) rest))))) (hn : (fn.name == "runtime.NumGoroutine") = false) {g : FuncId} {cap : Array Operand} {tf : Nat}
    (h1 : mk.op = .makeFunc (.func g) #[] cap) (h2 : mk.dst = some tf) (h3 : mk.guard = none) (h4 : df.op = .defer { callee := .value (.tmp tf), args := #[], argTypes := #[] }) (h5 : df.guard = none) (h6 : df.dst = none)
    (hg : Plain P g) (hle : Nat.ble args.length fn.ntmps = true)
    (h : AW P c0 (thenQ (fun env st => AW P c1 (thenQ (fun env st => AW P c2 (fun ae env st => match ae with
      | .normal => evs env cap.toList fun vs => vs.all V.isPtr = true ∧ env.go (some tf) (.func g [] vs) fun env => AW P rest (leaveQ P T g vs fn R) env st
      | .ret => retQ T fn R env st
      | _ => False) env st) noQ) env st) noQ) { tmps := args0 0 args, boxes := [], nxt := 0, sz := fn.ntmps, gl } st) : PCalls P f args st R := by
  refine ⟨?_, fn, hf, by rw [hb]; rfl, hn⟩
  intro I w cargs hs hargs
  refine calls_of_wp_defers hf hb ?_
  refine wp_seq (wp_mono (h [] I st w I _ _ w (start_rel gl hs hargs hle)) ?_)
  rintro e a w1 ⟨I1, β1, env1, st1, ae, r1, x1, k1⟩
  cases ae with
  | exit _ | goto _ | ret | pan _ => exact k1.elim
  | normal =>
  cases e with
  | exit _ | goto _ | ret | panic _ | outgrown => exact x1.elim
  | normal =>
  refine wp_seq (wp_mono (k1 [] I st w I1 _ _ w1 r1) ?_)
  rintro e a w2 ⟨I2, β2, env2, st2, ae, r2, x2, k2⟩
  cases ae with
  | exit _ | goto _ | ret | pan _ => exact k2.elim
  | normal =>
  cases e with
  | exit _ | goto _ | ret | panic _ | outgrown => exact x2.elim
  | normal =>
  refine wp_seq (wp_mono (k2 [] I st w I2 _ _ w2 r2) ?_)
  clear k2 r2 x2
  rintro e a w2 ⟨I2, β2, env2, st2, ae, r2, x2, k2⟩
  cases ae with
  | exit _ | goto _ | pan _ => exact k2.elim
  | ret =>
    cases e with
    | normal | exit _ | goto _ | panic _ | outgrown => exact x2.elim
    | ret =>
      obtain ⟨v, c, g1, g2, g3⟩ := results_sound (P := P) hP.t r2 k2
      show Leaves P fn a.tmps _ a.defers _ w2
      rw [r2.f.defers]
      exact ⟨c, g1, I2, st2, .ret v, r2.fr, r2.s, g2, g3⟩
  | normal =>
  cases e with
  | exit _ | goto _ | ret | panic _ | outgrown => exact x2.elim
  | normal =>
  refine wp_seq (wp_region_list ?_)
  show wpList P #[mk, df] _ [mk, df] a w2
  unfold wpList
  rw [if_pos (by simp [Region.wanted, h3])]
  left
  obtain ⟨vs, hv, kp, kg⟩ := evs_sound r2.f (show evs env2 cap.toList _ from k2)
  have hcv : Rep I2 (.func g [] vs) (.func (.func g) #[] (cap.map a.eval)) := by
    simp only [Rep]
    exact ⟨[], cap.toList.map a.eval, by congr 1; apply Array.ext'; simp, by simp only [RepL], hv⟩
  obtain ⟨env3, r3, k3⟩ := env_go_sound r2 (RepT.of hcv) kg
  have htf : tf < a.tmps.size := by
    rw [r2.f.size]
    exact (go_out kg).1 tf rfl
  unfold Oper.wp
  rw [show (execOp a.eval mk).run P w2 = .ok (.value (.func (.func g) #[] (cap.map a.eval))) w2 by simp only [execOp, h1, Array.map_empty]; rfl]
  show wpList P #[mk, df] _ [df] (a.put mk.dst _) w2
  rw [h2]
  unfold wpList
  rw [if_pos (by simp [Region.wanted, h5])]
  left
  have hev : (a.put (some tf) (.func (.func g) #[] (cap.map a.eval))).eval (.tmp tf) = .func (.func g) #[] (cap.map a.eval) := by
    simp [Act.put, Act.eval, htf]
  unfold Oper.wp
  rw [show (execOp (a.put (some tf) (.func (.func g) #[] (cap.map a.eval))).eval df).run P w2 = .ok (.defer { target := .fn (.func g) (cap.map a.eval), args := #[] }) w2 by
    simp only [execOp, h4, resolve, hev, Deferred.ofValue, Array.map_empty, Array.empty_append]; rfl]
  rw [Oper.upon_defer]
  rw [h6]
  unfold wpList
  show rest.wp P _ _ _
  have r4 := r3.defer { target := .fn (.func g) (cap.map a.eval), args := #[] }
  refine wp_mono (k3 _ I st w I2 _ _ w2 r4) ?_
  rintro e a5 w5 ⟨I5, β5, env5, st5, ae, r5, x5, k5⟩
  have hd := r5.f.defers
  obtain ⟨fn2, p1, p2, p3⟩ := hg
  have hinv : (invoke (.fn (.func g) (cap.map a.eval)) #[]).run P w5 = .ok (.enter g (cap.toList.map a.eval).toArray) w5 := by
    have hb : fn2.body.isNone = false := by cases hb : fn2.body <;> simp_all
    simp only [invoke, callFunc, Sem.run_bind, Sem.run_pure, Result.andThen_ok, run_program, p1]
    rw [p3]
    simp [hb]
    apply Array.ext'; simp
  have last : ∀ {u : FrameMode} {x : Option V}, u ≠ .run → (match x with | none => u = .returning | some v => ∃ c, u = .panicking [{ v := c, recovered := false }] ∧ Rep I5 v c) → DCalls P g vs x st5 (fun st' => retQ T fn R env5 st') →
      Leaves P fn a5.tmps (fun e w' => ∃ I' st' r, Fr I st w I' st' w' ∧ RelS I' st' w' ∧ resM I' e r ∧ R r st') a5.defers u w5 := by
    intro u x hu hx k
    rw [hd]
    refine leaves_cons hu hinv ((k I5 w5 _ u r5.s (RepL.ptrs hv kp) hx).mono ?_)
    rintro e u' w6 ⟨⟨v, rfl⟩, hset, I6, st6, q1, q2, q3⟩
    show Leaves P fn a5.tmps _ [] (settle u') w6
    rw [hset]
    have r6 := r5.called q1 q2
    obtain ⟨v, c, g1, g2, g3⟩ := results_sound (P := P) hP.t r6 q3
    exact ⟨c, g1, I6, st6, .ret v, r6.fr, r6.s, g2, g3⟩
  cases ae with
  | normal =>
    cases e with
    | normal => exact last (x := none) (by simp) rfl k5
    | _ => exact x5.elim
  | ret =>
    cases e with
    | ret => exact last (x := none) (by simp) rfl k5
    | _ => exact x5.elim
  | pan v =>
    cases e with
    | panic chain =>
      obtain ⟨c, rfl, hc⟩ := x5
      exact last (x := some v) (by simp) ⟨c, rfl, hc⟩ k5
    | _ => exact x5.elim
  | exit _ => exact k5.elim
  | goto _ => exact k5.elim
end
end Go.Aw
set_option linter.unusedVariables false
set_option linter.unusedSimpArgs false
namespace Go.Aw
open Go
section
variable {D : List Deferred} {P : Program} {T : List (Nat × Ty)} {C : FuncId → List V → St → (Res → St → Prop) → Prop} {I0 I : Mem} {st0 st : St} {w0 w : World} {β : Nat → Option Nat} {env : Env} {a : Act}
def stepX {X : Type} (T : List (Nat × Ty)) (C : FuncId → List V → St → (Res → St → Prop) → Prop) (all : List Oper) (Q : AExit → Env → St → Prop) (E : X → List Bool → Env) (S : X → List Bool → St) (J : X → List Bool → Prop) (x : X) (p : List Bool × Nat) : Prop :=
  match all[p.2]? with
  | some o => guardWp all o (E x p.1) (opWp T C o (E x p.1) (S x p.1) (fun v env st => env.go o.dst v fun env => ∃ y, J y (p.1.set p.2 true) ∧ (E y (p.1.set p.2 true)).leC env ∧ St.le (S y (p.1.set p.2 true)) st) Q)
      ((E x p.1).go o.dst (.tup []) fun env => ∃ y, J y (p.1.set p.2 true) ∧ (E y (p.1.set p.2 true)).leC env ∧ St.le (S y (p.1.set p.2 true)) (S x p.1))
  | none => True
theorem any_soundX {X : Type} (hT : TOk P T) (hC : ∀ f args st R, C f args st R → ACalls P f args st R ∧ Plain P f) {all : List Oper} {Q : AExit → Env → St → Prop} {E : X → List Bool → Env} {S : X → List Bool → St} {J : X → List Bool → Prop} {PL : List (List Bool × Nat)}
    (hc : closedP all PL = true) (step : ∀ p ∈ PL, ∀ x, J x p.1 → stepX T C all Q E S J x p) (fin : ∀ x, J x (List.replicate all.length true) → Q .normal (E x (List.replicate all.length true)) (S x (List.replicate all.length true))) :
    ∀ (fuel : Nat) (bs : List Bool) (listed : Array Bool) (I : Mem) (β : Nat → Option Nat) (a : Act) (w : World), bs.length = all.length → listed.toList = bs → bs.count false ≤ fuel →
      (∀ j, j < all.length → readyL all bs j = true → (bs, j) ∈ PL) → (bs = List.replicate all.length true ∨ ∃ j, j < all.length ∧ readyL all bs j = true) →
      ∀ x, J x bs → Rel D I0 st0 w0 I β (E x bs) (S x bs) a w → wpAny P .any all.toArray (liftQ D I0 st0 w0 Q) fuel listed a w := by
  have full : ∀ {bs : List Bool}, bs.length = all.length → bs.count false = 0 → bs = List.replicate all.length true := fun {bs} hb h0 => by
    rw [List.eq_replicate_iff]
    refine ⟨hb, fun b hb => ?_⟩
    cases b with
    | true => rfl
    | false => have := List.count_pos_iff.2 hb; omega
  have noready : ∀ {j : Nat}, readyL all (List.replicate all.length true) j = true → j < all.length → False := fun {j} h hj => by
    unfold readyL at h
    simp only [Bool.and_eq_true, Bool.not_eq_true'] at h
    have := h.1
    rw [List.getD_eq_getElem?_getD, List.getElem?_replicate, if_pos hj] at this
    cases this
  simp only [closedP, Bool.and_eq_true, List.all_eq_true] at hc
  intro fuel
  induction fuel with
  | zero =>
    intro bs listed I β a w hb hl hf hp hr x hj h
    have := full hb (by omega)
    subst this
    refine ⟨?_, ⟨I, β, _, _, .normal, h, trivial, fin x hj⟩⟩
    rw [List.eq_nil_iff_forall_not_mem]
    intro j hj
    obtain ⟨h1, h2⟩ := (ready_iff hl hb).1 hj
    exact noready h2 h1
  | succ fuel ih =>
    intro bs listed I β a w hb hl hf hp hr x hj h
    refine ⟨fun h0 => ?_, fun i hi => ?_⟩
    · rcases hr with rfl | ⟨j, h1, h2⟩
      · exact ⟨I, β, _, _, .normal, h, trivial, fin x hj⟩
      · have := (ready_iff hl hb).2 ⟨h1, h2⟩
        rw [h0] at this; cases this
    · obtain ⟨h1, h2⟩ := (ready_iff hl hb).1 hi
      have hm := hp i h1 h2
      have hs := step _ hm x hj
      unfold stepX at hs
      have ho : all[i]? = some all[i] := List.getElem?_eq_getElem h1
      simp only [ho] at hs
      obtain ⟨⟨c1, c2⟩, c3⟩ := hc.2 _ hm
      refine wpOp_sound hT hC (Q := Q) ho (fun {I β env st a w} h k => ?_) h hs (K := fun env st => ∃ y, J y (bs.set i true) ∧ (E y (bs.set i true)).leC env ∧ St.le (S y (bs.set i true)) st)
      · obtain ⟨y, kj, k⟩ := k
        have hbi : i < bs.length := by omega
        refine ih (bs.set i true) _ I _ a w (by simpa using hb) (by simp [hl]) ?_ (fun j hj hr => ?_) ?_ y kj ((h.stLe k.2).envLe (Env.le_of k.1))
        · have := List.count_set (a := true) (i := i) (l := bs) (b := false) hbi
          unfold readyL at h2
          simp only [Bool.and_eq_true, Bool.not_eq_true'] at h2
          have hbi' := h2.1
          rw [List.getD_eq_getElem?_getD, List.getElem?_eq_getElem hbi] at hbi'
          simp only [Option.getD_some] at hbi'
          rw [hbi'] at this
          have hpos : 0 < bs.count false := List.count_pos_iff.2 (by rw [← hbi']; exact List.getElem_mem hbi)
          simp only [beq_self_eq_true, if_true, show (true == false) = false from rfl, Bool.false_eq_true, if_false] at this
          omega
        · have := c2 j (List.mem_range.2 hj)
          rw [hr] at this
          simpa using this
        · simp only [Bool.or_eq_true, beq_iff_eq, List.any_eq_true] at c3
          rcases c3 with c3 | ⟨j, hj, hr⟩
          · exact .inl c3
          · exact .inr ⟨j, List.mem_range.1 hj, hr⟩
theorem aw_anyX {X : Type} (hP : POk P T) (hC : ∀ f args st R, C f args st R → ACalls P f args st R ∧ Plain P f) {id : Nat} {ops : Array Oper} {Q : AExit → Env → St → Prop} (E : X → List Bool → Env) (S : X → List Bool → St) (J : X → List Bool → Prop) (x0 : X) (PL : List (List Bool × Nat))
    (hc : closedP ops.toList PL = true) (j0 : J x0 (List.replicate ops.toList.length false)) (h0 : (E x0 (List.replicate ops.toList.length false)).leC env) (s0 : St.le (S x0 (List.replicate ops.toList.length false)) st) (step : ∀ p ∈ PL, ∀ x, J x p.1 → stepX T C ops.toList Q E S J x p)
    (fin : ∀ x, J x (List.replicate ops.toList.length true) → Q .normal (E x (List.replicate ops.toList.length true)) (S x (List.replicate ops.toList.length true))) : AW P (.region id ops true) Q env st := fun D I0 st0 w0 I β a w h =>
  wp_region_any hP.m (by
    have hc' := hc
    simp only [closedP, Bool.and_eq_true, List.all_eq_true] at hc'
    have := any_soundX (D := D) hP.t hC hc step fin ops.size (List.replicate ops.toList.length false) (Array.replicate ops.size false) I _ a _ (by simp) (by simp) (by simp) (fun j hj hr => ?_) ?_ x0 j0 (((h.grew (Grew.drew w)).stLe s0).envLe (Env.le_of h0))
    · simpa using this
    · have := hc'.1.1 j (List.mem_range.2 hj)
      rw [hr] at this
      simpa using this
    · have := hc'.1.2
      simp only [Bool.or_eq_true, beq_iff_eq, List.any_eq_true] at this
      rcases this with h | ⟨j, hj, hr⟩
      · exact .inl h
      · exact .inr ⟨j, List.mem_range.1 hj, hr⟩)
end
end Go.Aw
set_option linter.unusedVariables false
namespace Go.Aw
open Go
theorem box_off {st : St} {b c : Nat} {cs : List V} (h : b ≠ c) : (st.setBox b cs).box c = st.box c := by simp [St.setBox, Ne.symm h]
theorem fresh_off {st : St} {b c : Nat} {cs : List V} (h : (st.setBox b cs).fresh c) : b ≠ c ∧ st.fresh c := by
  by_cases e : b = c
  · subst e
    have := h.1
    rw [St.box_at] at this
    cases this
  · refine ⟨e, ?_, h.2⟩
    have := h.1
    rw [box_off e] at this
    exact this
theorem box_new {st : St} {K : Nat → Prop} (h : ∀ b, st.fresh b → K b) : ∀ b, st.fresh b → K b := h
end Go.Aw
namespace Go.Proofs.YtkcapphlemoccaaGreatDoor
open Go Go.Aw
section
variable {st : St} {R : Res → St → Prop}
attribute [local irreducible] Go.Aw.appendTo
theorem qclose_none {b1 b2 b3 : Nat} {RS : St → Prop} (h : RS st) : DCalls Tryz.prog 104 [.ptr b1 0, .ptr b2 0, .ptr b3 0] none st RS := by
  refine dcalls_of_body tys_ok [] Tryz.func104 rfl rfl rfl rfl rfl rfl rfl rfl (fun env0 he => ?_)
  subst he
  conv => whnf
  refine AW_seq2 (aw_of tys_ok ?_)
  repeat' ((conv => whnf); first
    | (with_reducible first | exact Wa | exact Wb | exact Wc | refine Wd (by kernel_rfl) ?_ | refine We ?_ ?_ ?_ | refine W8 (by decide +kernel) ?_ ?_ ?_ | refine W9 ?_ ?_ ?_ | refine Wt (by first | assumption | omega) ?_ | refine Wu (by first | assumption | omega) ?_ | refine Wv (by omega) ?_ | refine Ww (by omega) ?_ | refine Wf (by decide) (fun _ => ?_) (fun _ => ?_) | refine Wg (fun _ => ?_) (fun _ => ?_) | refine Wh (fun _ => ?_) (fun _ => ?_) | refine Wi ?_ | refine Wj ?_ | refine Wk (fun _ => ?_) (fun _ => ?_) | refine Wl (fun _ => ?_) | refine Wm (by assumption) (by omega) ?_ | refine Wn (by omega) (by omega) (fun _ _ _ => ?_) | refine Wo (by omega) (by omega) ?_ | refine Wp (by omega) (by omega) (by omega) ?_ | refine Wq (by omega) (by omega) ?_ | refine Wr (by decide) (by omega) (by omega) ?_ | refine Ws (by decide) ?_ | refine Wx (fun _ => ?_) ?_ | refine Wy (fun _ => ?_) ?_ | refine Wz (fun _ => ?_) | refine WA (fun _ => ?_) | refine WB (by assumption) (by omega) ?_ | refine WC (by omega) (by omega) (fun _ _ => ?_) | refine WD (by omega) (by omega) (fun _ _ => ?_) | refine WE (by omega) (by omega) (by omega) ?_ | refine WJ (fun _ => ?_) | refine WK (fun _ _ _ => ?_) | refine WL (by assumption) (by omega) ?_ | refine WM (by omega) (by omega) (fun _ _ => ?_) | refine WN (by omega) (by omega) ?_ | refine WO (by omega) (by omega) ?_ | refine WP (by omega) (by omega) (by omega) ?_)
    | with_reducible refine WF ?_)
  all_goals exact h
theorem qclose_some {b1 b2 b3 b4 p q : Nat} {s : List UInt8} {tx : Bool} {o : List Int} {w1 w2 : Own} {g : List (Nat × Nat)} {e k0 e0 : Int} {RS : St → Prop} (h1 : st.box b1 = some [.ptr b4 0]) (h4 : st.box b4 = some (qC s q tx o w1 g w2)) (h2 : st.box b2 = some [.int .i64 k0]) (h3 : st.box b3 = some [.int .i64 e0])
    (d2 : b4 ≠ b2) (d3 : b4 ≠ b3) (d5 : b2 ≠ b3) (h : RS (((st.setBox b4 (qC s p tx o w1 g w2)).setBox b2 [.int .i64 0]).setBox b3 [.int .i64 e])) : DCalls Tryz.prog 104 [.ptr b1 0, .ptr b2 0, .ptr b3 0] (some (qfault p e)) st RS := by
  refine dcalls_of_body tys_ok [] Tryz.func104 rfl rfl rfl rfl rfl rfl rfl rfl (fun env0 he => ?_)
  subst he
  conv => whnf
  refine AW_seq2 (aw_of tys_ok ?_)
  repeat' ((conv => whnf); first
    | (with_reducible first | exact Wa | exact Wb | exact Wc | refine Wd (by kernel_rfl) ?_ | refine We ?_ ?_ ?_ | refine W8 (by decide +kernel) ?_ ?_ ?_ | refine W9 ?_ ?_ ?_ | refine Wt (by first | assumption | omega) ?_ | refine Wu (by first | assumption | omega) ?_ | refine Wv (by omega) ?_ | refine Ww (by omega) ?_ | refine Wf (by decide) (fun _ => ?_) (fun _ => ?_) | refine Wg (fun _ => ?_) (fun _ => ?_) | refine Wh (fun _ => ?_) (fun _ => ?_) | refine Wi ?_ | refine Wj ?_ | refine Wk (fun _ => ?_) (fun _ => ?_) | refine Wl (fun _ => ?_) | refine Wm (by assumption) (by omega) ?_ | refine Wn (by omega) (by omega) (fun _ _ _ => ?_) | refine Wo (by omega) (by omega) ?_ | refine Wp (by omega) (by omega) (by omega) ?_ | refine Wq (by omega) (by omega) ?_ | refine Wr (by decide) (by omega) (by omega) ?_ | refine Ws (by decide) ?_ | refine Wx (fun _ => ?_) ?_ | refine Wy (fun _ => ?_) ?_ | refine Wz (fun _ => ?_) | refine WA (fun _ => ?_) | refine WB (by assumption) (by omega) ?_ | refine WC (by omega) (by omega) (fun _ _ => ?_) | refine WD (by omega) (by omega) (fun _ _ => ?_) | refine WE (by omega) (by omega) (by omega) ?_ | refine WJ (fun _ => ?_) | refine WK (fun _ _ _ => ?_) | refine WL (by assumption) (by omega) ?_ | refine WM (by omega) (by omega) (fun _ _ => ?_) | refine WN (by omega) (by omega) ?_ | refine WO (by omega) (by omega) ?_ | refine WP (by omega) (by omega) (by omega) ?_)
    | with_reducible refine WF ?_)
  refine AW_seq2 (aw_of tys_ok ?_)
  repeat' ((conv => whnf); first
    | (with_reducible first | exact Wa | exact Wb | exact Wc | refine Wd (by kernel_rfl) ?_ | refine We ?_ ?_ ?_ | refine W8 (by decide +kernel) ?_ ?_ ?_ | refine W9 ?_ ?_ ?_ | refine Wt (by first | assumption | omega) ?_ | refine Wu (by first | assumption | omega) ?_ | refine Wv (by omega) ?_ | refine Ww (by omega) ?_ | refine Wf (by decide) (fun _ => ?_) (fun _ => ?_) | refine Wg (fun _ => ?_) (fun _ => ?_) | refine Wh (fun _ => ?_) (fun _ => ?_) | refine Wi ?_ | refine Wj ?_ | refine Wk (fun _ => ?_) (fun _ => ?_) | refine Wl (fun _ => ?_) | refine Wm (by assumption) (by omega) ?_ | refine Wn (by omega) (by omega) (fun _ _ _ => ?_) | refine Wo (by omega) (by omega) ?_ | refine Wp (by omega) (by omega) (by omega) ?_ | refine Wq (by omega) (by omega) ?_ | refine Wr (by decide) (by omega) (by omega) ?_ | refine Ws (by decide) ?_ | refine Wx (fun _ => ?_) ?_ | refine Wy (fun _ => ?_) ?_ | refine Wz (fun _ => ?_) | refine WA (fun _ => ?_) | refine WB (by assumption) (by omega) ?_ | refine WC (by omega) (by omega) (fun _ _ => ?_) | refine WD (by omega) (by omega) (fun _ _ => ?_) | refine WE (by omega) (by omega) (by omega) ?_ | refine WJ (fun _ => ?_) | refine WK (fun _ _ _ => ?_) | refine WL (by assumption) (by omega) ?_ | refine WM (by omega) (by omega) (fun _ _ => ?_) | refine WN (by omega) (by omega) ?_ | refine WO (by omega) (by omega) ?_ | refine WP (by omega) (by omega) (by omega) ?_)
    | with_reducible refine WF ?_)
  refine AW_seq2 (aw_of tys_ok ?_)
  repeat' ((conv => whnf); first
    | (with_reducible first | exact Wa | exact Wb | exact Wc | refine Wd (by kernel_rfl) ?_ | refine We ?_ ?_ ?_ | refine W8 (by decide +kernel) ?_ ?_ ?_ | refine W9 ?_ ?_ ?_ | refine Wt (by first | assumption | omega) ?_ | refine Wu (by first | assumption | omega) ?_ | refine Wv (by omega) ?_ | refine Ww (by omega) ?_ | refine Wf (by decide) (fun _ => ?_) (fun _ => ?_) | refine Wg (fun _ => ?_) (fun _ => ?_) | refine Wh (fun _ => ?_) (fun _ => ?_) | refine Wi ?_ | refine Wj ?_ | refine Wk (fun _ => ?_) (fun _ => ?_) | refine Wl (fun _ => ?_) | refine Wm (by assumption) (by omega) ?_ | refine Wn (by omega) (by omega) (fun _ _ _ => ?_) | refine Wo (by omega) (by omega) ?_ | refine Wp (by omega) (by omega) (by omega) ?_ | refine Wq (by omega) (by omega) ?_ | refine Wr (by decide) (by omega) (by omega) ?_ | refine Ws (by decide) ?_ | refine Wx (fun _ => ?_) ?_ | refine Wy (fun _ => ?_) ?_ | refine Wz (fun _ => ?_) | refine WA (fun _ => ?_) | refine WB (by assumption) (by omega) ?_ | refine WC (by omega) (by omega) (fun _ _ => ?_) | refine WD (by omega) (by omega) (fun _ _ => ?_) | refine WE (by omega) (by omega) (by omega) ?_ | refine WJ (fun _ => ?_) | refine WK (fun _ _ _ => ?_) | refine WL (by assumption) (by omega) ?_ | refine WM (by omega) (by omega) (fun _ _ => ?_) | refine WN (by omega) (by omega) ?_ | refine WO (by omega) (by omega) ?_ | refine WP (by omega) (by omega) (by omega) ?_)
    | with_reducible refine WF ?_)
  have k2 : ∀ cs, (st.setBox b4 cs).box b2 = some [.int .i64 k0] := fun cs => (box_off d2).trans h2
  have k3 : ∀ cs cs', ((st.setBox b4 cs).setBox b2 cs').box b3 = some [.int .i64 e0] := fun cs cs' => (box_off d5).trans ((box_off d3).trans h3)
  refine aw_of tys_ok ?_
  repeat' ((conv => whnf); first
    | refine draw_mix [(0, true), (1, true), (2, true), (3, true), (4, true), (5, true), (6, true), (7, false), (8, false), (9, false)] [] (by decide +kernel) ?_
    | (with_reducible first | exact Wa | exact Wb | exact Wc | refine Wd (by kernel_rfl) ?_ | refine We ?_ ?_ ?_ | refine W8 (by decide +kernel) ?_ ?_ ?_ | refine W9 ?_ ?_ ?_ | refine Wt (by first | assumption | omega) ?_ | refine Wu (by first | assumption | omega) ?_ | refine Wv (by omega) ?_ | refine Ww (by omega) ?_ | refine Wf (by decide) (fun _ => ?_) (fun _ => ?_) | refine Wg (fun _ => ?_) (fun _ => ?_) | refine Wh (fun _ => ?_) (fun _ => ?_) | refine Wi ?_ | refine Wj ?_ | refine Wk (fun _ => ?_) (fun _ => ?_) | refine Wl (fun _ => ?_) | refine Wm (by assumption) (by omega) ?_ | refine Wn (by omega) (by omega) (fun _ _ _ => ?_) | refine Wo (by omega) (by omega) ?_ | refine Wp (by omega) (by omega) (by omega) ?_ | refine Wq (by omega) (by omega) ?_ | refine Wr (by decide) (by omega) (by omega) ?_ | refine Ws (by decide) ?_ | refine Wx (fun _ => ?_) ?_ | refine Wy (fun _ => ?_) ?_ | refine Wz (fun _ => ?_) | refine WA (fun _ => ?_) | refine WB (by assumption) (by omega) ?_ | refine WC (by omega) (by omega) (fun _ _ => ?_) | refine WD (by omega) (by omega) (fun _ _ => ?_) | refine WE (by omega) (by omega) (by omega) ?_ | refine WJ (fun _ => ?_) | refine WK (fun _ _ _ => ?_) | refine WL (by assumption) (by omega) ?_ | refine WM (by omega) (by omega) (fun _ _ => ?_) | refine WN (by omega) (by omega) ?_ | refine WO (by omega) (by omega) ?_ | refine WP (by omega) (by omega) (by omega) ?_)
    | refine on_box h1 ?_
    | refine on_box h4 ?_
    | refine on_box (k2 _) ?_
    | refine on_box (k3 _ _) ?_
    | with_reducible refine WF ?_)
  all_goals exact h
theorem lit_c {st0 : St} {b p : Nat} {s : List UInt8} {tx : Bool} {w1 w2 : Own} (hl : s.length ≤ 100000000) (hq : hdF (s.drop p) = 34 ∨ hdF (s.drop p) = 39) (hb0 : st0.box b = none) (hb : st.box b = some (qC s p tx [] w1 [] w2)) (hr : Rows2 st0 st w1 0 w2 0)
    (h0 : ∀ (q : Nat) e tx', quoF s p = (0, (q : Int), e) → ∀ st', QB st0 st' b s tx' → R (.pan (qfault q e)) st')
    (h : ∀ k (q : Nat), quoF s p = (k, (q : Int), 0) → ∀ tx' o u1 g u2 st', Rows2 st0 st' u1 (List.length o) u2 (2 * List.length g) → st'.box b = some (qC s q tx' o u1 g u2) → R (.ret (.int .i64 k)) st') : PC 105 [.ptr b 0] st R := by
  rcases hq with hq | hq
  · refine literal_t hl hq hb0 hb hr (fun k e hT st' hQ => h0 _ e true ?_ st' hQ) (fun n hT u1 u2 st' hR hB => h 14 _ ?_ _ _ _ _ _ st' hR hB)
    · unfold quoF; rw [if_pos hq, hT]
    · unfold quoF; rw [if_pos hq, hT]
  · refine literal_h hl hq hb0 hb hr (fun k e hT st' hQ => h0 _ e false ?_ st' hQ) (fun n hT o' u1 u2 st' hR hB => h 13 _ ?_ _ _ _ _ _ st' hR hB)
    · unfold quoF; rw [if_neg (by omega), if_pos hq, hT]
    · unfold quoF; rw [if_neg (by omega), if_pos hq, hT]
noncomputable def readOps : List Oper := match Tryz.f88.body with | some (.seq _ (.seq _ (.seq _ (.seq _ (.seq (.region _ ops _) _))))) => ops.toList | _ => []
noncomputable def readE (b1 b2 b3 b4 : Nat) (K : Int) (bs : List Bool) : Env :=
  { tmps := putT [(4, .ptr b1 0), (5, .ptr b2 0), (6, .ptr b3 0)] readOps [.ptr b4 0, .ptr b4 0, .int .i64 K, .junk, .junk, .junk] bs, boxes := [], nxt := 1, sz := 39, gl := [4, 5, 6, 10] }
def readS (b1 b2 b3 b4 : Nat) (K : Int) (m : St) (bs : List Bool) : St :=
  match bs[3]?, bs[4]?, bs[5]? with
  | _, _, some true => ((m.setBox b1 [.ptr b4 0]).setBox b2 [.int .i64 K]).setBox b3 [.int .i64 0]
  | _, some true, _ => (m.setBox b1 [.ptr b4 0]).setBox b2 [.int .i64 K]
  | some true, _, _ => m.setBox b1 [.ptr b4 0]
  | _, _, _ => m
def readJ (s0 A : St) (b4 : Nat) (s : List UInt8) (Q E0 : Int) (x : LS × Bool) (bs : List Bool) : Prop := match bs[2]? with
  | some true => Rows2 s0 x.1.m x.1.w1 x.1.o.length x.1.w2 (2 * x.1.g.length) ∧ x.1.m.box b4 = some (qC s x.1.q x.2 x.1.o x.1.w1 x.1.g x.1.w2) ∧ (x.1.q : Int) = Q ∧ E0 = 0
  | _ => x.1.m = A
def readPL : List (List Bool × Nat) := [([false, false, false, false, false, false], 0), ([false, false, false, false, false, false], 1), ([true, false, false, false, false, false], 1), ([false, true, false, false, false, false], 0), ([false, true, false, false, false, false], 2), ([true, true, false, false, false, false], 2), ([false, true, true, false, false, false], 0), ([true, true, true, false, false, false], 3), ([true, true, true, true, false, false], 4), ([true, true, true, true, true, false], 5)]
noncomputable def readRest : Code := match Tryz.f88.body with | some (.seq _ (.seq _ (.seq _ (.seq _ r)))) => r | _ => .skip
set_option maxHeartbeats 4000000 in
theorem read_rest {s0 : St} {s : List UInt8} {pos b1 b2 b3 b4 : Nat} (hl : s.length ≤ 100000000) (hq : hdF (s.drop pos) = 34 ∨ hdF (s.drop pos) = 39) (hs0 : s0.box b4 = none) (hsl : st.le s0) (n12 : b1 ≠ b2) (n13 : b1 ≠ b3) (n14 : b1 ≠ b4) (n23 : b2 ≠ b3) (n24 : b2 ≠ b4) (n34 : b3 ≠ b4) (k1 : st.box b1 = none) (k2 : st.box b2 = none) (k3 : st.box b3 = none) (k4 : st.box b4 = none)
    (m1 : s0.box b1 = some [.ptr b4 0]) (m2 : s0.box b2 = some [.int .i64 0]) (m3 : s0.box b3 = some [.int .i64 0])
    (h : ∀ b4 (q : Nat) tx o w1 g w2 st', st.le st' → st'.box b4 = some (qC s q tx o w1 g w2) → (q : Int) = (quoF s pos).2.1 → R (.ret (.tup [.ptr b4 0, .int .i64 (quoF s pos).1, .int .i64 (quoF s pos).2.2])) st') :
    AW Tryz.prog readRest (leaveQ Tryz.prog tys 104 [.ptr b1 0, .ptr b2 0, .ptr b3 0] Tryz.f88 (Go.Aw.Ends R)) (readE b1 b2 b3 b4 (quoF s pos).1 (List.replicate 6 false)) (s0.setBox b4 (qC s pos false [] .full [] .full)) := by
  have a1 : ∀ C, (s0.setBox b4 C).box b1 = some [.ptr b4 0] := fun C => (box_off n14.symm).trans m1
  have hr0 : Rows2 s0 (s0.setBox b4 (qC s pos false [] .full [] .full)) .full 0 .full 0 := ⟨trivial, trivial, trivial, trivial, trivial, St.le_setBox (St.le_refl _) hs0 _⟩
  refine AW_seq2 (aw_anyX tys_ok (pcalls_sound _) (fun _ bs => readE b1 b2 b3 b4 (quoF s pos).1 bs) (fun x bs => readS b1 b2 b3 b4 (quoF s pos).1 x.1.m bs) (fun x bs => readJ s0 (s0.setBox b4 (qC s pos false [] .full [] .full)) b4 s (quoF s pos).2.1 (quoF s pos).2.2 x bs) (⟨pos, [], [], .full, .full, s0.setBox b4 (qC s pos false [] .full [] .full)⟩, false) readPL (by decide +kernel) rfl (by refine ⟨rfl, ?_, ?_, rfl⟩ <;> repeat' (first | exact trivial | exact rfl | refine And.intro ?_ ?_)) (St.le_refl _) ?_ ?_)
  · unfold readPL
    repeat' (first | refine List.forall_mem_cons.2 ⟨?_, ?_⟩ | exact List.forall_mem_nil _)
    all_goals rintro ⟨⟨q, o, g, w1, w2, m⟩, tx⟩ hj
    all_goals dsimp only [readJ, List.getElem?_cons_zero, List.getElem?_cons_succ] at hj
    all_goals try subst hj
    · skip
      repeat' ((conv => whnf); first
        | (with_reducible first | exact Wa | exact Wb | exact Wc | refine Wd (by kernel_rfl) ?_ | refine We ?_ ?_ ?_ | refine W8 (by decide +kernel) ?_ ?_ ?_ | refine W9 ?_ ?_ ?_ | refine Wt (by first | assumption | omega) ?_ | refine Wu (by first | assumption | omega) ?_ | refine Wv (by omega) ?_ | refine Ww (by omega) ?_ | refine Wf (by decide) (fun _ => ?_) (fun _ => ?_) | refine Wg (fun _ => ?_) (fun _ => ?_) | refine Wh (fun _ => ?_) (fun _ => ?_) | refine Wi ?_ | refine Wj ?_ | refine Wk (fun _ => ?_) (fun _ => ?_) | refine Wl (fun _ => ?_) | refine Wm (by assumption) (by omega) ?_ | refine Wn (by omega) (by omega) (fun _ _ _ => ?_) | refine Wo (by omega) (by omega) ?_ | refine Wp (by omega) (by omega) (by omega) ?_ | refine Wq (by omega) (by omega) ?_ | refine Wr (by decide) (by omega) (by omega) ?_ | refine Ws (by decide) ?_ | refine Wx (fun _ => ?_) ?_ | refine Wy (fun _ => ?_) ?_ | refine Wz (fun _ => ?_) | refine WA (fun _ => ?_) | refine WB (by assumption) (by omega) ?_ | refine WC (by omega) (by omega) (fun _ _ => ?_) | refine WD (by omega) (by omega) (fun _ _ => ?_) | refine WE (by omega) (by omega) (by omega) ?_ | refine WJ (fun _ => ?_) | refine WK (fun _ _ _ => ?_) | refine WL (by assumption) (by omega) ?_ | refine WM (by omega) (by omega) (fun _ _ => ?_) | refine WN (by omega) (by omega) ?_ | refine WO (by omega) (by omega) ?_ | refine WP (by omega) (by omega) (by omega) ?_)
        | refine on_box (a1 _) ?_
        | with_reducible refine WF ?_)
      all_goals conv => whnf
      all_goals exact ⟨(⟨q, o, g, w1, w2, _⟩, tx), rfl, (by refine ⟨rfl, ?_, ?_, rfl⟩ <;> repeat' (first | exact trivial | exact rfl | refine And.intro ?_ ?_)), St.le_refl _⟩
    · skip
      repeat' ((conv => whnf); first
        | (with_reducible first | exact Wa | exact Wb | exact Wc | refine Wd (by kernel_rfl) ?_ | refine We ?_ ?_ ?_ | refine W8 (by decide +kernel) ?_ ?_ ?_ | refine W9 ?_ ?_ ?_ | refine Wt (by first | assumption | omega) ?_ | refine Wu (by first | assumption | omega) ?_ | refine Wv (by omega) ?_ | refine Ww (by omega) ?_ | refine Wf (by decide) (fun _ => ?_) (fun _ => ?_) | refine Wg (fun _ => ?_) (fun _ => ?_) | refine Wh (fun _ => ?_) (fun _ => ?_) | refine Wi ?_ | refine Wj ?_ | refine Wk (fun _ => ?_) (fun _ => ?_) | refine Wl (fun _ => ?_) | refine Wm (by assumption) (by omega) ?_ | refine Wn (by omega) (by omega) (fun _ _ _ => ?_) | refine Wo (by omega) (by omega) ?_ | refine Wp (by omega) (by omega) (by omega) ?_ | refine Wq (by omega) (by omega) ?_ | refine Wr (by decide) (by omega) (by omega) ?_ | refine Ws (by decide) ?_ | refine Wx (fun _ => ?_) ?_ | refine Wy (fun _ => ?_) ?_ | refine Wz (fun _ => ?_) | refine WA (fun _ => ?_) | refine WB (by assumption) (by omega) ?_ | refine WC (by omega) (by omega) (fun _ _ => ?_) | refine WD (by omega) (by omega) (fun _ _ => ?_) | refine WE (by omega) (by omega) (by omega) ?_ | refine WJ (fun _ => ?_) | refine WK (fun _ _ _ => ?_) | refine WL (by assumption) (by omega) ?_ | refine WM (by omega) (by omega) (fun _ _ => ?_) | refine WN (by omega) (by omega) ?_ | refine WO (by omega) (by omega) ?_ | refine WP (by omega) (by omega) (by omega) ?_)
        | refine on_box (a1 _) ?_
        | with_reducible refine WF ?_)
      all_goals conv => whnf
      all_goals exact ⟨(⟨q, o, g, w1, w2, _⟩, tx), rfl, (by refine ⟨rfl, ?_, ?_, rfl⟩ <;> repeat' (first | exact trivial | exact rfl | refine And.intro ?_ ?_)), St.le_refl _⟩
    · skip
      repeat' ((conv => whnf); first
        | (with_reducible first | exact Wa | exact Wb | exact Wc | refine Wd (by kernel_rfl) ?_ | refine We ?_ ?_ ?_ | refine W8 (by decide +kernel) ?_ ?_ ?_ | refine W9 ?_ ?_ ?_ | refine Wt (by first | assumption | omega) ?_ | refine Wu (by first | assumption | omega) ?_ | refine Wv (by omega) ?_ | refine Ww (by omega) ?_ | refine Wf (by decide) (fun _ => ?_) (fun _ => ?_) | refine Wg (fun _ => ?_) (fun _ => ?_) | refine Wh (fun _ => ?_) (fun _ => ?_) | refine Wi ?_ | refine Wj ?_ | refine Wk (fun _ => ?_) (fun _ => ?_) | refine Wl (fun _ => ?_) | refine Wm (by assumption) (by omega) ?_ | refine Wn (by omega) (by omega) (fun _ _ _ => ?_) | refine Wo (by omega) (by omega) ?_ | refine Wp (by omega) (by omega) (by omega) ?_ | refine Wq (by omega) (by omega) ?_ | refine Wr (by decide) (by omega) (by omega) ?_ | refine Ws (by decide) ?_ | refine Wx (fun _ => ?_) ?_ | refine Wy (fun _ => ?_) ?_ | refine Wz (fun _ => ?_) | refine WA (fun _ => ?_) | refine WB (by assumption) (by omega) ?_ | refine WC (by omega) (by omega) (fun _ _ => ?_) | refine WD (by omega) (by omega) (fun _ _ => ?_) | refine WE (by omega) (by omega) (by omega) ?_ | refine WJ (fun _ => ?_) | refine WK (fun _ _ _ => ?_) | refine WL (by assumption) (by omega) ?_ | refine WM (by omega) (by omega) (fun _ _ => ?_) | refine WN (by omega) (by omega) ?_ | refine WO (by omega) (by omega) ?_ | refine WP (by omega) (by omega) (by omega) ?_)
        | refine on_box (a1 _) ?_
        | with_reducible refine WF ?_)
      all_goals conv => whnf
      all_goals exact ⟨(⟨q, o, g, w1, w2, _⟩, tx), rfl, (by refine ⟨rfl, ?_, ?_, rfl⟩ <;> repeat' (first | exact trivial | exact rfl | refine And.intro ?_ ?_)), St.le_refl _⟩
    · skip
      repeat' ((conv => whnf); first
        | (with_reducible first | exact Wa | exact Wb | exact Wc | refine Wd (by kernel_rfl) ?_ | refine We ?_ ?_ ?_ | refine W8 (by decide +kernel) ?_ ?_ ?_ | refine W9 ?_ ?_ ?_ | refine Wt (by first | assumption | omega) ?_ | refine Wu (by first | assumption | omega) ?_ | refine Wv (by omega) ?_ | refine Ww (by omega) ?_ | refine Wf (by decide) (fun _ => ?_) (fun _ => ?_) | refine Wg (fun _ => ?_) (fun _ => ?_) | refine Wh (fun _ => ?_) (fun _ => ?_) | refine Wi ?_ | refine Wj ?_ | refine Wk (fun _ => ?_) (fun _ => ?_) | refine Wl (fun _ => ?_) | refine Wm (by assumption) (by omega) ?_ | refine Wn (by omega) (by omega) (fun _ _ _ => ?_) | refine Wo (by omega) (by omega) ?_ | refine Wp (by omega) (by omega) (by omega) ?_ | refine Wq (by omega) (by omega) ?_ | refine Wr (by decide) (by omega) (by omega) ?_ | refine Ws (by decide) ?_ | refine Wx (fun _ => ?_) ?_ | refine Wy (fun _ => ?_) ?_ | refine Wz (fun _ => ?_) | refine WA (fun _ => ?_) | refine WB (by assumption) (by omega) ?_ | refine WC (by omega) (by omega) (fun _ _ => ?_) | refine WD (by omega) (by omega) (fun _ _ => ?_) | refine WE (by omega) (by omega) (by omega) ?_ | refine WJ (fun _ => ?_) | refine WK (fun _ _ _ => ?_) | refine WL (by assumption) (by omega) ?_ | refine WM (by omega) (by omega) (fun _ _ => ?_) | refine WN (by omega) (by omega) ?_ | refine WO (by omega) (by omega) ?_ | refine WP (by omega) (by omega) (by omega) ?_)
        | refine on_box (a1 _) ?_
        | with_reducible refine WF ?_)
      all_goals conv => whnf
      all_goals exact ⟨(⟨q, o, g, w1, w2, _⟩, tx), rfl, (by refine ⟨rfl, ?_, ?_, rfl⟩ <;> repeat' (first | exact trivial | exact rfl | refine And.intro ?_ ?_)), St.le_refl _⟩
    · skip
      repeat' ((conv => whnf); first
        | (with_reducible first | exact Wa | exact Wb | exact Wc | refine Wd (by kernel_rfl) ?_ | refine We ?_ ?_ ?_ | refine W8 (by decide +kernel) ?_ ?_ ?_ | refine W9 ?_ ?_ ?_ | refine Wt (by first | assumption | omega) ?_ | refine Wu (by first | assumption | omega) ?_ | refine Wv (by omega) ?_ | refine Ww (by omega) ?_ | refine Wf (by decide) (fun _ => ?_) (fun _ => ?_) | refine Wg (fun _ => ?_) (fun _ => ?_) | refine Wh (fun _ => ?_) (fun _ => ?_) | refine Wi ?_ | refine Wj ?_ | refine Wk (fun _ => ?_) (fun _ => ?_) | refine Wl (fun _ => ?_) | refine Wm (by assumption) (by omega) ?_ | refine Wn (by omega) (by omega) (fun _ _ _ => ?_) | refine Wo (by omega) (by omega) ?_ | refine Wp (by omega) (by omega) (by omega) ?_ | refine Wq (by omega) (by omega) ?_ | refine Wr (by decide) (by omega) (by omega) ?_ | refine Ws (by decide) ?_ | refine Wx (fun _ => ?_) ?_ | refine Wy (fun _ => ?_) ?_ | refine Wz (fun _ => ?_) | refine WA (fun _ => ?_) | refine WB (by assumption) (by omega) ?_ | refine WC (by omega) (by omega) (fun _ _ => ?_) | refine WD (by omega) (by omega) (fun _ _ => ?_) | refine WE (by omega) (by omega) (by omega) ?_ | refine WJ (fun _ => ?_) | refine WK (fun _ _ _ => ?_) | refine WL (by assumption) (by omega) ?_ | refine WM (by omega) (by omega) (fun _ _ => ?_) | refine WN (by omega) (by omega) ?_ | refine WO (by omega) (by omega) ?_ | refine WP (by omega) (by omega) (by omega) ?_)
        | refine lit_c hl hq hs0 (St.box_at ..) hr0 (fun q' e' tx' hz st' hQ => ?_) (fun k q' hz tx' o' u1 g' u2 st' hR hB => ?_)
        | refine on_box (a1 _) ?_
        | with_reducible refine WF ?_)
      · obtain ⟨q1, o1, u1, g1, u2, hB, hR⟩ := hQ
        conv => whnf
        refine qclose_some (hR.le.1 _ _ m1) hB (hR.le.1 _ _ m2) (hR.le.1 _ _ m3) n24.symm n34.symm n23 ?_
        have c1 : (((st'.setBox b4 (qC s q' tx' o1 u1 g1 u2)).setBox b2 [.int .i64 0]).setBox b3 [.int .i64 e']).box b1 = some [.ptr b4 0] := (box_off n13.symm).trans ((box_off n12.symm).trans ((box_off n14.symm).trans (hR.le.1 _ _ m1)))
        have c2 : (((st'.setBox b4 (qC s q' tx' o1 u1 g1 u2)).setBox b2 [.int .i64 0]).setBox b3 [.int .i64 e']).box b2 = some [.int .i64 0] := (box_off n23.symm).trans (St.box_at _ _ _)
        have c3 : (((st'.setBox b4 (qC s q' tx' o1 u1 g1 u2)).setBox b2 [.int .i64 0]).setBox b3 [.int .i64 e']).box b3 = some [.int .i64 e'] := St.box_at _ _ _
        have c4 : (((st'.setBox b4 (qC s q' tx' o1 u1 g1 u2)).setBox b2 [.int .i64 0]).setBox b3 [.int .i64 e']).box b4 = some (qC s q' tx' o1 u1 g1 u2) := (box_off n34).trans ((box_off n24).trans (St.box_at _ _ _))
        have c5 : (quoF s pos).1 = 0 := by rw [hz]
        have c6 : (quoF s pos).2.1 = q' := by rw [hz]
        have c7 : (quoF s pos).2.2 = e' := by rw [hz]
        have gg := fun le => h b4 q' tx' o1 u1 g1 u2 _ le c4 c6.symm
        rw [c5, c7] at gg
        clear h hz c4 c5 c6 c7
        repeat' ((conv => whnf); first
          | (with_reducible first | exact Wa | exact Wb | exact Wc | refine Wd (by kernel_rfl) ?_ | refine We ?_ ?_ ?_ | refine W8 (by decide +kernel) ?_ ?_ ?_ | refine W9 ?_ ?_ ?_ | refine Wt (by first | assumption | omega) ?_ | refine Wu (by first | assumption | omega) ?_ | refine Wv (by omega) ?_ | refine Ww (by omega) ?_ | refine Wf (by decide) (fun _ => ?_) (fun _ => ?_) | refine Wg (fun _ => ?_) (fun _ => ?_) | refine Wh (fun _ => ?_) (fun _ => ?_) | refine Wi ?_ | refine Wj ?_ | refine Wk (fun _ => ?_) (fun _ => ?_) | refine Wl (fun _ => ?_) | refine Wm (by assumption) (by omega) ?_ | refine Wn (by omega) (by omega) (fun _ _ _ => ?_) | refine Wo (by omega) (by omega) ?_ | refine Wp (by omega) (by omega) (by omega) ?_ | refine Wq (by omega) (by omega) ?_ | refine Wr (by decide) (by omega) (by omega) ?_ | refine Ws (by decide) ?_ | refine Wx (fun _ => ?_) ?_ | refine Wy (fun _ => ?_) ?_ | refine Wz (fun _ => ?_) | refine WA (fun _ => ?_) | refine WB (by assumption) (by omega) ?_ | refine WC (by omega) (by omega) (fun _ _ => ?_) | refine WD (by omega) (by omega) (fun _ _ => ?_) | refine WE (by omega) (by omega) (by omega) ?_ | refine WJ (fun _ => ?_) | refine WK (fun _ _ _ => ?_) | refine WL (by assumption) (by omega) ?_ | refine WM (by omega) (by omega) (fun _ _ => ?_) | refine WN (by omega) (by omega) ?_ | refine WO (by omega) (by omega) ?_ | refine WP (by omega) (by omega) (by omega) ?_)
          | refine on_box c1 ?_
          | refine on_box c2 ?_
          | refine on_box c3 ?_
          | with_reducible refine WF ?_)
        exact fin (gg (St.le_setBox (St.le_setBox (St.le_setBox (St.le_trans hsl hR.le) k4 _) k2 _) k3 _)) rfl
      · have hz1 : (quoF s pos).1 = k := by rw [hz]
        have hz2 : (quoF s pos).2.1 = q' := by rw [hz]
        have hz3 : (quoF s pos).2.2 = 0 := by rw [hz]
        conv => whnf
        rw [hz1, hz2]
        exact ⟨(⟨q', o', g', u1, u2, st'⟩, tx'), ⟨hR, hB, rfl, hz3⟩, (by refine ⟨rfl, ?_, ?_, rfl⟩ <;> repeat' (first | exact trivial | exact rfl | refine And.intro ?_ ?_)), St.le_refl _⟩
    · skip
      repeat' ((conv => whnf); first
        | (with_reducible first | exact Wa | exact Wb | exact Wc | refine Wd (by kernel_rfl) ?_ | refine We ?_ ?_ ?_ | refine W8 (by decide +kernel) ?_ ?_ ?_ | refine W9 ?_ ?_ ?_ | refine Wt (by first | assumption | omega) ?_ | refine Wu (by first | assumption | omega) ?_ | refine Wv (by omega) ?_ | refine Ww (by omega) ?_ | refine Wf (by decide) (fun _ => ?_) (fun _ => ?_) | refine Wg (fun _ => ?_) (fun _ => ?_) | refine Wh (fun _ => ?_) (fun _ => ?_) | refine Wi ?_ | refine Wj ?_ | refine Wk (fun _ => ?_) (fun _ => ?_) | refine Wl (fun _ => ?_) | refine Wm (by assumption) (by omega) ?_ | refine Wn (by omega) (by omega) (fun _ _ _ => ?_) | refine Wo (by omega) (by omega) ?_ | refine Wp (by omega) (by omega) (by omega) ?_ | refine Wq (by omega) (by omega) ?_ | refine Wr (by decide) (by omega) (by omega) ?_ | refine Ws (by decide) ?_ | refine Wx (fun _ => ?_) ?_ | refine Wy (fun _ => ?_) ?_ | refine Wz (fun _ => ?_) | refine WA (fun _ => ?_) | refine WB (by assumption) (by omega) ?_ | refine WC (by omega) (by omega) (fun _ _ => ?_) | refine WD (by omega) (by omega) (fun _ _ => ?_) | refine WE (by omega) (by omega) (by omega) ?_ | refine WJ (fun _ => ?_) | refine WK (fun _ _ _ => ?_) | refine WL (by assumption) (by omega) ?_ | refine WM (by omega) (by omega) (fun _ _ => ?_) | refine WN (by omega) (by omega) ?_ | refine WO (by omega) (by omega) ?_ | refine WP (by omega) (by omega) (by omega) ?_)
        | refine lit_c hl hq hs0 (St.box_at ..) hr0 (fun q' e' tx' hz st' hQ => ?_) (fun k q' hz tx' o' u1 g' u2 st' hR hB => ?_)
        | refine on_box (a1 _) ?_
        | with_reducible refine WF ?_)
      · obtain ⟨q1, o1, u1, g1, u2, hB, hR⟩ := hQ
        conv => whnf
        refine qclose_some (hR.le.1 _ _ m1) hB (hR.le.1 _ _ m2) (hR.le.1 _ _ m3) n24.symm n34.symm n23 ?_
        have c1 : (((st'.setBox b4 (qC s q' tx' o1 u1 g1 u2)).setBox b2 [.int .i64 0]).setBox b3 [.int .i64 e']).box b1 = some [.ptr b4 0] := (box_off n13.symm).trans ((box_off n12.symm).trans ((box_off n14.symm).trans (hR.le.1 _ _ m1)))
        have c2 : (((st'.setBox b4 (qC s q' tx' o1 u1 g1 u2)).setBox b2 [.int .i64 0]).setBox b3 [.int .i64 e']).box b2 = some [.int .i64 0] := (box_off n23.symm).trans (St.box_at _ _ _)
        have c3 : (((st'.setBox b4 (qC s q' tx' o1 u1 g1 u2)).setBox b2 [.int .i64 0]).setBox b3 [.int .i64 e']).box b3 = some [.int .i64 e'] := St.box_at _ _ _
        have c4 : (((st'.setBox b4 (qC s q' tx' o1 u1 g1 u2)).setBox b2 [.int .i64 0]).setBox b3 [.int .i64 e']).box b4 = some (qC s q' tx' o1 u1 g1 u2) := (box_off n34).trans ((box_off n24).trans (St.box_at _ _ _))
        have c5 : (quoF s pos).1 = 0 := by rw [hz]
        have c6 : (quoF s pos).2.1 = q' := by rw [hz]
        have c7 : (quoF s pos).2.2 = e' := by rw [hz]
        have gg := fun le => h b4 q' tx' o1 u1 g1 u2 _ le c4 c6.symm
        rw [c5, c7] at gg
        clear h hz c4 c5 c6 c7
        repeat' ((conv => whnf); first
          | (with_reducible first | exact Wa | exact Wb | exact Wc | refine Wd (by kernel_rfl) ?_ | refine We ?_ ?_ ?_ | refine W8 (by decide +kernel) ?_ ?_ ?_ | refine W9 ?_ ?_ ?_ | refine Wt (by first | assumption | omega) ?_ | refine Wu (by first | assumption | omega) ?_ | refine Wv (by omega) ?_ | refine Ww (by omega) ?_ | refine Wf (by decide) (fun _ => ?_) (fun _ => ?_) | refine Wg (fun _ => ?_) (fun _ => ?_) | refine Wh (fun _ => ?_) (fun _ => ?_) | refine Wi ?_ | refine Wj ?_ | refine Wk (fun _ => ?_) (fun _ => ?_) | refine Wl (fun _ => ?_) | refine Wm (by assumption) (by omega) ?_ | refine Wn (by omega) (by omega) (fun _ _ _ => ?_) | refine Wo (by omega) (by omega) ?_ | refine Wp (by omega) (by omega) (by omega) ?_ | refine Wq (by omega) (by omega) ?_ | refine Wr (by decide) (by omega) (by omega) ?_ | refine Ws (by decide) ?_ | refine Wx (fun _ => ?_) ?_ | refine Wy (fun _ => ?_) ?_ | refine Wz (fun _ => ?_) | refine WA (fun _ => ?_) | refine WB (by assumption) (by omega) ?_ | refine WC (by omega) (by omega) (fun _ _ => ?_) | refine WD (by omega) (by omega) (fun _ _ => ?_) | refine WE (by omega) (by omega) (by omega) ?_ | refine WJ (fun _ => ?_) | refine WK (fun _ _ _ => ?_) | refine WL (by assumption) (by omega) ?_ | refine WM (by omega) (by omega) (fun _ _ => ?_) | refine WN (by omega) (by omega) ?_ | refine WO (by omega) (by omega) ?_ | refine WP (by omega) (by omega) (by omega) ?_)
          | refine on_box c1 ?_
          | refine on_box c2 ?_
          | refine on_box c3 ?_
          | with_reducible refine WF ?_)
        exact fin (gg (St.le_setBox (St.le_setBox (St.le_setBox (St.le_trans hsl hR.le) k4 _) k2 _) k3 _)) rfl
      · have hz1 : (quoF s pos).1 = k := by rw [hz]
        have hz2 : (quoF s pos).2.1 = q' := by rw [hz]
        have hz3 : (quoF s pos).2.2 = 0 := by rw [hz]
        conv => whnf
        rw [hz1, hz2]
        exact ⟨(⟨q', o', g', u1, u2, st'⟩, tx'), ⟨hR, hB, rfl, hz3⟩, (by refine ⟨rfl, ?_, ?_, rfl⟩ <;> repeat' (first | exact trivial | exact rfl | refine And.intro ?_ ?_)), St.le_refl _⟩
    · have b1' : m.box b1 = some [.ptr b4 0] := hj.1.le.1 _ _ m1
      repeat' ((conv => whnf); first
        | (with_reducible first | exact Wa | exact Wb | exact Wc | refine Wd (by kernel_rfl) ?_ | refine We ?_ ?_ ?_ | refine W8 (by decide +kernel) ?_ ?_ ?_ | refine W9 ?_ ?_ ?_ | refine Wt (by first | assumption | omega) ?_ | refine Wu (by first | assumption | omega) ?_ | refine Wv (by omega) ?_ | refine Ww (by omega) ?_ | refine Wf (by decide) (fun _ => ?_) (fun _ => ?_) | refine Wg (fun _ => ?_) (fun _ => ?_) | refine Wh (fun _ => ?_) (fun _ => ?_) | refine Wi ?_ | refine Wj ?_ | refine Wk (fun _ => ?_) (fun _ => ?_) | refine Wl (fun _ => ?_) | refine Wm (by assumption) (by omega) ?_ | refine Wn (by omega) (by omega) (fun _ _ _ => ?_) | refine Wo (by omega) (by omega) ?_ | refine Wp (by omega) (by omega) (by omega) ?_ | refine Wq (by omega) (by omega) ?_ | refine Wr (by decide) (by omega) (by omega) ?_ | refine Ws (by decide) ?_ | refine Wx (fun _ => ?_) ?_ | refine Wy (fun _ => ?_) ?_ | refine Wz (fun _ => ?_) | refine WA (fun _ => ?_) | refine WB (by assumption) (by omega) ?_ | refine WC (by omega) (by omega) (fun _ _ => ?_) | refine WD (by omega) (by omega) (fun _ _ => ?_) | refine WE (by omega) (by omega) (by omega) ?_ | refine WJ (fun _ => ?_) | refine WK (fun _ _ _ => ?_) | refine WL (by assumption) (by omega) ?_ | refine WM (by omega) (by omega) (fun _ _ => ?_) | refine WN (by omega) (by omega) ?_ | refine WO (by omega) (by omega) ?_ | refine WP (by omega) (by omega) (by omega) ?_)
        | refine on_box b1' ?_
        | with_reducible refine WF ?_)
      all_goals conv => whnf
      all_goals exact ⟨(⟨q, o, g, w1, w2, m⟩, tx), hj, (by refine ⟨rfl, ?_, ?_, rfl⟩ <;> repeat' (first | exact trivial | exact rfl | refine And.intro ?_ ?_)), St.le_refl _⟩
    · have b1' : m.box b1 = some [.ptr b4 0] := hj.1.le.1 _ _ m1
      repeat' ((conv => whnf); first
        | (with_reducible first | exact Wa | exact Wb | exact Wc | refine Wd (by kernel_rfl) ?_ | refine We ?_ ?_ ?_ | refine W8 (by decide +kernel) ?_ ?_ ?_ | refine W9 ?_ ?_ ?_ | refine Wt (by first | assumption | omega) ?_ | refine Wu (by first | assumption | omega) ?_ | refine Wv (by omega) ?_ | refine Ww (by omega) ?_ | refine Wf (by decide) (fun _ => ?_) (fun _ => ?_) | refine Wg (fun _ => ?_) (fun _ => ?_) | refine Wh (fun _ => ?_) (fun _ => ?_) | refine Wi ?_ | refine Wj ?_ | refine Wk (fun _ => ?_) (fun _ => ?_) | refine Wl (fun _ => ?_) | refine Wm (by assumption) (by omega) ?_ | refine Wn (by omega) (by omega) (fun _ _ _ => ?_) | refine Wo (by omega) (by omega) ?_ | refine Wp (by omega) (by omega) (by omega) ?_ | refine Wq (by omega) (by omega) ?_ | refine Wr (by decide) (by omega) (by omega) ?_ | refine Ws (by decide) ?_ | refine Wx (fun _ => ?_) ?_ | refine Wy (fun _ => ?_) ?_ | refine Wz (fun _ => ?_) | refine WA (fun _ => ?_) | refine WB (by assumption) (by omega) ?_ | refine WC (by omega) (by omega) (fun _ _ => ?_) | refine WD (by omega) (by omega) (fun _ _ => ?_) | refine WE (by omega) (by omega) (by omega) ?_ | refine WJ (fun _ => ?_) | refine WK (fun _ _ _ => ?_) | refine WL (by assumption) (by omega) ?_ | refine WM (by omega) (by omega) (fun _ _ => ?_) | refine WN (by omega) (by omega) ?_ | refine WO (by omega) (by omega) ?_ | refine WP (by omega) (by omega) (by omega) ?_)
        | refine on_box b1' ?_
        | with_reducible refine WF ?_)
      all_goals conv => whnf
      all_goals exact ⟨(⟨q, o, g, w1, w2, m⟩, tx), hj, (by refine ⟨rfl, ?_, ?_, rfl⟩ <;> repeat' (first | exact trivial | exact rfl | refine And.intro ?_ ?_)), St.le_refl _⟩
    · have b2' : (m.setBox b1 [.ptr b4 0]).box b2 = some [.int .i64 0] := (box_off n12).trans (hj.1.le.1 _ _ m2)
      repeat' ((conv => whnf); first
        | (with_reducible first | exact Wa | exact Wb | exact Wc | refine Wd (by kernel_rfl) ?_ | refine We ?_ ?_ ?_ | refine W8 (by decide +kernel) ?_ ?_ ?_ | refine W9 ?_ ?_ ?_ | refine Wt (by first | assumption | omega) ?_ | refine Wu (by first | assumption | omega) ?_ | refine Wv (by omega) ?_ | refine Ww (by omega) ?_ | refine Wf (by decide) (fun _ => ?_) (fun _ => ?_) | refine Wg (fun _ => ?_) (fun _ => ?_) | refine Wh (fun _ => ?_) (fun _ => ?_) | refine Wi ?_ | refine Wj ?_ | refine Wk (fun _ => ?_) (fun _ => ?_) | refine Wl (fun _ => ?_) | refine Wm (by assumption) (by omega) ?_ | refine Wn (by omega) (by omega) (fun _ _ _ => ?_) | refine Wo (by omega) (by omega) ?_ | refine Wp (by omega) (by omega) (by omega) ?_ | refine Wq (by omega) (by omega) ?_ | refine Wr (by decide) (by omega) (by omega) ?_ | refine Ws (by decide) ?_ | refine Wx (fun _ => ?_) ?_ | refine Wy (fun _ => ?_) ?_ | refine Wz (fun _ => ?_) | refine WA (fun _ => ?_) | refine WB (by assumption) (by omega) ?_ | refine WC (by omega) (by omega) (fun _ _ => ?_) | refine WD (by omega) (by omega) (fun _ _ => ?_) | refine WE (by omega) (by omega) (by omega) ?_ | refine WJ (fun _ => ?_) | refine WK (fun _ _ _ => ?_) | refine WL (by assumption) (by omega) ?_ | refine WM (by omega) (by omega) (fun _ _ => ?_) | refine WN (by omega) (by omega) ?_ | refine WO (by omega) (by omega) ?_ | refine WP (by omega) (by omega) (by omega) ?_)
        | refine on_box b2' ?_
        | with_reducible refine WF ?_)
      all_goals conv => whnf
      all_goals exact ⟨(⟨q, o, g, w1, w2, m⟩, tx), hj, (by refine ⟨rfl, ?_, ?_, rfl⟩ <;> repeat' (first | exact trivial | exact rfl | refine And.intro ?_ ?_)), St.le_refl _⟩
    · have b3' : ((m.setBox b1 [.ptr b4 0]).setBox b2 [.int .i64 (quoF s pos).1]).box b3 = some [.int .i64 0] := (box_off n23).trans ((box_off n13).trans (hj.1.le.1 _ _ m3))
      repeat' ((conv => whnf); first
        | (with_reducible first | exact Wa | exact Wb | exact Wc | refine Wd (by kernel_rfl) ?_ | refine We ?_ ?_ ?_ | refine W8 (by decide +kernel) ?_ ?_ ?_ | refine W9 ?_ ?_ ?_ | refine Wt (by first | assumption | omega) ?_ | refine Wu (by first | assumption | omega) ?_ | refine Wv (by omega) ?_ | refine Ww (by omega) ?_ | refine Wf (by decide) (fun _ => ?_) (fun _ => ?_) | refine Wg (fun _ => ?_) (fun _ => ?_) | refine Wh (fun _ => ?_) (fun _ => ?_) | refine Wi ?_ | refine Wj ?_ | refine Wk (fun _ => ?_) (fun _ => ?_) | refine Wl (fun _ => ?_) | refine Wm (by assumption) (by omega) ?_ | refine Wn (by omega) (by omega) (fun _ _ _ => ?_) | refine Wo (by omega) (by omega) ?_ | refine Wp (by omega) (by omega) (by omega) ?_ | refine Wq (by omega) (by omega) ?_ | refine Wr (by decide) (by omega) (by omega) ?_ | refine Ws (by decide) ?_ | refine Wx (fun _ => ?_) ?_ | refine Wy (fun _ => ?_) ?_ | refine Wz (fun _ => ?_) | refine WA (fun _ => ?_) | refine WB (by assumption) (by omega) ?_ | refine WC (by omega) (by omega) (fun _ _ => ?_) | refine WD (by omega) (by omega) (fun _ _ => ?_) | refine WE (by omega) (by omega) (by omega) ?_ | refine WJ (fun _ => ?_) | refine WK (fun _ _ _ => ?_) | refine WL (by assumption) (by omega) ?_ | refine WM (by omega) (by omega) (fun _ _ => ?_) | refine WN (by omega) (by omega) ?_ | refine WO (by omega) (by omega) ?_ | refine WP (by omega) (by omega) (by omega) ?_)
        | refine on_box b3' ?_
        | with_reducible refine WF ?_)
      all_goals conv => whnf
      all_goals exact ⟨(⟨q, o, g, w1, w2, m⟩, tx), hj, (by refine ⟨rfl, ?_, ?_, rfl⟩ <;> repeat' (first | exact trivial | exact rfl | refine And.intro ?_ ?_)), St.le_refl _⟩
  · rintro ⟨⟨q, o, g, w1, w2, m⟩, tx⟩ ⟨j1, j2, j3, j0⟩
    dsimp only at j1 j2 j3 j0
    have c1 : (((m.setBox b1 [.ptr b4 0]).setBox b2 [.int .i64 (quoF s pos).1]).setBox b3 [.int .i64 0]).box b1 = some [.ptr b4 0] := (box_off n13.symm).trans ((box_off n12.symm).trans (St.box_at _ _ _))
    have c2 : (((m.setBox b1 [.ptr b4 0]).setBox b2 [.int .i64 (quoF s pos).1]).setBox b3 [.int .i64 0]).box b2 = some [.int .i64 (quoF s pos).1] := (box_off n23.symm).trans (St.box_at _ _ _)
    have c3 : (((m.setBox b1 [.ptr b4 0]).setBox b2 [.int .i64 (quoF s pos).1]).setBox b3 [.int .i64 0]).box b3 = some [.int .i64 0] := St.box_at _ _ _
    have c4 : (((m.setBox b1 [.ptr b4 0]).setBox b2 [.int .i64 (quoF s pos).1]).setBox b3 [.int .i64 0]).box b4 = some (qC s q tx o w1 g w2) := (box_off n34).trans ((box_off n24).trans ((box_off n14).trans j2))
    have gg := fun le => h b4 q tx o w1 g w2 _ le c4 j3
    rw [j0] at gg
    clear h
    show AW _ _ _ _ _
    refine aw_of tys_ok (qclose_none ?_)
    repeat' ((conv => whnf); first
      | (with_reducible first | exact Wa | exact Wb | exact Wc | refine Wd (by kernel_rfl) ?_ | refine We ?_ ?_ ?_ | refine W8 (by decide +kernel) ?_ ?_ ?_ | refine W9 ?_ ?_ ?_ | refine Wt (by first | assumption | omega) ?_ | refine Wu (by first | assumption | omega) ?_ | refine Wv (by omega) ?_ | refine Ww (by omega) ?_ | refine Wf (by decide) (fun _ => ?_) (fun _ => ?_) | refine Wg (fun _ => ?_) (fun _ => ?_) | refine Wh (fun _ => ?_) (fun _ => ?_) | refine Wi ?_ | refine Wj ?_ | refine Wk (fun _ => ?_) (fun _ => ?_) | refine Wl (fun _ => ?_) | refine Wm (by assumption) (by omega) ?_ | refine Wn (by omega) (by omega) (fun _ _ _ => ?_) | refine Wo (by omega) (by omega) ?_ | refine Wp (by omega) (by omega) (by omega) ?_ | refine Wq (by omega) (by omega) ?_ | refine Wr (by decide) (by omega) (by omega) ?_ | refine Ws (by decide) ?_ | refine Wx (fun _ => ?_) ?_ | refine Wy (fun _ => ?_) ?_ | refine Wz (fun _ => ?_) | refine WA (fun _ => ?_) | refine WB (by assumption) (by omega) ?_ | refine WC (by omega) (by omega) (fun _ _ => ?_) | refine WD (by omega) (by omega) (fun _ _ => ?_) | refine WE (by omega) (by omega) (by omega) ?_ | refine WJ (fun _ => ?_) | refine WK (fun _ _ _ => ?_) | refine WL (by assumption) (by omega) ?_ | refine WM (by omega) (by omega) (fun _ _ => ?_) | refine WN (by omega) (by omega) ?_ | refine WO (by omega) (by omega) ?_ | refine WP (by omega) (by omega) (by omega) ?_)
      | refine on_box c1 ?_
      | refine on_box c2 ?_
      | refine on_box c3 ?_
      | with_reducible refine WF ?_)
    exact fin (gg (St.le_setBox (St.le_setBox (St.le_setBox (St.le_trans hsl j1.le) k1 _) k2 _) k3 _)) rfl
set_option maxHeartbeats 4000000 in
theorem read_c {s : List UInt8} {pos : Nat} (hl : s.length ≤ 100000000) (hp : pos < s.length)
    (h : ∀ b4 (q : Nat) tx o w1 g w2 st', st.le st' → st'.box b4 = some (qC s q tx o w1 g w2) → (q : Int) = (quoF s pos).2.1 → R (.ret (.tup [.ptr b4 0, .int .i64 (quoF s pos).1, .int .i64 (quoF s pos).2.2])) st') : PC 88 [.str s, .int .i64 pos] st R := by
  obtain ⟨e, he⟩ : ∃ e, s[pos]? = some e := ⟨s[pos], List.getElem?_eq_getElem hp⟩
  have he' : s[(pos : Int).toNat]? = some e := he
  have hv := hdF_at he
  refine PCalls.ends (pcalls_defer3 tys_ok [4, 5, 6, 10] Tryz.func88 rfl (by decide) rfl rfl rfl rfl rfl rfl ⟨_, Tryz.func104, rfl, by decide⟩ rfl ?_)
  refine aw_of tys_ok ?_
  repeat' ((conv => whnf); first
    | (with_reducible first | exact Wa | exact Wb | exact Wc | refine Wd (by kernel_rfl) ?_ | refine We ?_ ?_ ?_ | refine W8 (by decide +kernel) ?_ ?_ ?_ | refine W9 ?_ ?_ ?_ | refine Wt (by first | assumption | omega) ?_ | refine Wu (by first | assumption | omega) ?_ | refine Wv (by omega) ?_ | refine Ww (by omega) ?_ | refine Wf (by decide) (fun _ => ?_) (fun _ => ?_) | refine Wg (fun _ => ?_) (fun _ => ?_) | refine Wh (fun _ => ?_) (fun _ => ?_) | refine Wi ?_ | refine Wj ?_ | refine Wk (fun _ => ?_) (fun _ => ?_) | refine Wl (fun _ => ?_) | refine Wm (by assumption) (by omega) ?_ | refine Wn (by omega) (by omega) (fun _ _ _ => ?_) | refine Wo (by omega) (by omega) ?_ | refine Wp (by omega) (by omega) (by omega) ?_ | refine Wq (by omega) (by omega) ?_ | refine Wr (by decide) (by omega) (by omega) ?_ | refine Ws (by decide) ?_ | refine Wx (fun _ => ?_) ?_ | refine Wy (fun _ => ?_) ?_ | refine Wz (fun _ => ?_) | refine WA (fun _ => ?_) | refine WB (by assumption) (by omega) ?_ | refine WC (by omega) (by omega) (fun _ _ => ?_) | refine WD (by omega) (by omega) (fun _ _ => ?_) | refine WE (by omega) (by omega) (by omega) ?_ | refine WJ (fun _ => ?_) | refine WK (fun _ _ _ => ?_) | refine WL (by assumption) (by omega) ?_ | refine WM (by omega) (by omega) (fun _ _ => ?_) | refine WN (by omega) (by omega) ?_ | refine WO (by omega) (by omega) ?_ | refine WP (by omega) (by omega) (by omega) ?_)
    | refine box_new (fun b3 f3 => ?_)
    | with_reducible refine WF ?_)
  rename_i b1 f1 b2 f2
  obtain ⟨n12, f2a⟩ := fresh_off f2
  obtain ⟨n23, f3a⟩ := fresh_off f3
  obtain ⟨n13, f3b⟩ := fresh_off f3a
  refine aw_of tys_ok ?_
  have kk : ∀ b4 cs, ((((st.setBox b1 [V.nilp]).setBox b2 [V.int .i64 0]).setBox b3 [V.int .i64 0]).fresh b4) → ((((st.setBox b1 [V.nilp]).setBox b2 [V.int .i64 0]).setBox b3 [V.int .i64 0]).setBox b4 cs).box b1 = some [V.nilp] := fun b4 cs f4 => by
    obtain ⟨m3, f4a⟩ := fresh_off f4
    obtain ⟨m2, f4b⟩ := fresh_off f4a
    obtain ⟨m1, f4c⟩ := fresh_off f4b
    simp [St.setBox, m1, n12, n13]
  repeat' ((conv => whnf); first
    | (with_reducible first | exact Wa | exact Wb | exact Wc | refine Wd (by kernel_rfl) ?_ | refine We ?_ ?_ ?_ | refine W8 (by decide +kernel) ?_ ?_ ?_ | refine W9 ?_ ?_ ?_ | refine Wt (by first | assumption | omega) ?_ | refine Wu (by first | assumption | omega) ?_ | refine Wv (by omega) ?_ | refine Ww (by omega) ?_ | refine Wf (by decide) (fun _ => ?_) (fun _ => ?_) | refine Wg (fun _ => ?_) (fun _ => ?_) | refine Wh (fun _ => ?_) (fun _ => ?_) | refine Wi ?_ | refine Wj ?_ | refine Wk (fun _ => ?_) (fun _ => ?_) | refine Wl (fun _ => ?_) | refine Wm (by assumption) (by omega) ?_ | refine Wn (by omega) (by omega) (fun _ _ _ => ?_) | refine Wo (by omega) (by omega) ?_ | refine Wp (by omega) (by omega) (by omega) ?_ | refine Wq (by omega) (by omega) ?_ | refine Wr (by decide) (by omega) (by omega) ?_ | refine Ws (by decide) ?_ | refine Wx (fun _ => ?_) ?_ | refine Wy (fun _ => ?_) ?_ | refine Wz (fun _ => ?_) | refine WA (fun _ => ?_) | refine WB (by assumption) (by omega) ?_ | refine WC (by omega) (by omega) (fun _ _ => ?_) | refine WD (by omega) (by omega) (fun _ _ => ?_) | refine WE (by omega) (by omega) (by omega) ?_ | refine WJ (fun _ => ?_) | refine WK (fun _ _ _ => ?_) | refine WL (by assumption) (by omega) ?_ | refine WM (by omega) (by omega) (fun _ _ => ?_) | refine WN (by omega) (by omega) ?_ | refine WO (by omega) (by omega) ?_ | refine WP (by omega) (by omega) (by omega) ?_)
    | refine box_new (fun b4 f4 => ?_)
    | refine on_box (kk _ _ f4) ?_
    | with_reducible refine WF ?_)
  obtain ⟨n34, f4a⟩ := fresh_off f4
  obtain ⟨n24, f4b⟩ := fresh_off f4a
  obtain ⟨n14, f4c⟩ := fresh_off f4b
  obtain ⟨s0, hs0, hsl, m1, m2, m3, hst⟩ : ∃ s0 : St, s0.box b4 = none ∧ st.le s0 ∧ s0.box b1 = some [.ptr b4 0] ∧ s0.box b2 = some [.int .i64 0] ∧ s0.box b3 = some [.int .i64 0] ∧
      s0.setBox b4 (qC s pos false [] .full [] .full) = (((((st.setBox b1 [V.nilp]).setBox b2 [V.int .i64 0]).setBox b3 [V.int .i64 0]).setBox b4 (qC s pos false [] .full [] .full)).setBox b1 [.ptr b4 0]) := by
    refine ⟨((st.setBox b1 [.ptr b4 0]).setBox b2 [.int .i64 0]).setBox b3 [.int .i64 0], ?_, St.le_setBox (St.le_setBox (St.le_setBox (St.le_refl _) f1.1 _) f2a.1 _) f3b.1 _, ?_, ?_, ?_, ?_⟩
    · simp [St.setBox, n14.symm, n24.symm, n34.symm]; exact f4c.1
    · simp [St.setBox, n12, n13]
    · simp [St.setBox, n23]
    · simp [St.setBox]
    · simp only [St.setBox, St.mk.injEq, and_true]
      funext x
      by_cases x1 : x = b1
      · subst x1; simp [n12, n13, n14]
      · by_cases x4 : x = b4
        · subst x4; simp [x1]
        · simp [x1, x4]
  refine AW_st (st' := s0.setBox b4 (qC s pos false [] .full [] .full)) hst ?_
  clear kk f4 f4a f4b f3 f3a f2 hst
  have a1 : ∀ C, (s0.setBox b4 C).box b1 = some [.ptr b4 0] := fun C => (box_off n14.symm).trans m1
  by_cases hq : hdF (s.drop pos) = 34 ∨ hdF (s.drop pos) = 39
  · refine aw_of tys_ok ?_
    repeat' ((conv => whnf); first
      | (with_reducible first | exact Wa | exact Wb | exact Wc | refine Wd (by kernel_rfl) ?_ | refine We ?_ ?_ ?_ | refine W8 (by decide +kernel) ?_ ?_ ?_ | refine W9 ?_ ?_ ?_ | refine Wt (by first | assumption | omega) ?_ | refine Wu (by first | assumption | omega) ?_ | refine Wv (by omega) ?_ | refine Ww (by omega) ?_ | refine Wf (by decide) (fun _ => ?_) (fun _ => ?_) | refine Wg (fun _ => ?_) (fun _ => ?_) | refine Wh (fun _ => ?_) (fun _ => ?_) | refine Wi ?_ | refine Wj ?_ | refine Wk (fun _ => ?_) (fun _ => ?_) | refine Wl (fun _ => ?_) | refine Wm (by assumption) (by omega) ?_ | refine Wn (by omega) (by omega) (fun _ _ _ => ?_) | refine Wo (by omega) (by omega) ?_ | refine Wp (by omega) (by omega) (by omega) ?_ | refine Wq (by omega) (by omega) ?_ | refine Wr (by decide) (by omega) (by omega) ?_ | refine Ws (by decide) ?_ | refine Wx (fun _ => ?_) ?_ | refine Wy (fun _ => ?_) ?_ | refine Wz (fun _ => ?_) | refine WA (fun _ => ?_) | refine WB (by assumption) (by omega) ?_ | refine WC (by omega) (by omega) (fun _ _ => ?_) | refine WD (by omega) (by omega) (fun _ _ => ?_) | refine WE (by omega) (by omega) (by omega) ?_ | refine WJ (fun _ => ?_) | refine WK (fun _ _ _ => ?_) | refine WL (by assumption) (by omega) ?_ | refine WM (by omega) (by omega) (fun _ _ => ?_) | refine WN (by omega) (by omega) ?_ | refine WO (by omega) (by omega) ?_ | refine WP (by omega) (by omega) (by omega) ?_)
      | with_reducible refine WF ?_)
    all_goals conv => whnf
    all_goals refine ⟨rfl, chk_intro rfl ?_⟩
    all_goals exact AW_weak (read_rest hl hq hs0 (St.le_trans hsl (St.le_refl _)) n12 n13 n14 n23 n24 n34 f1.1 f2a.1 f3b.1 f4c.1 m1 m2 m3 h) (by refine ⟨rfl, ?_, ?_, rfl⟩ <;> repeat' (first | exact trivial | exact rfl | refine And.intro ?_ ?_)) (St.le_refl _)
  · have hz : quoF s pos = (0, 0, 0) := by unfold quoF; rw [if_neg (fun x => hq (.inl x)), if_neg (fun x => hq (.inr x))]
    rw [hz] at h
    have a1' : ∀ C C', ((s0.setBox b4 C).setBox b4 C').box b1 = some [.ptr b4 0] := fun C C' => (box_off n14.symm).trans (a1 C)
    have a2' : ∀ C C' D, (((s0.setBox b4 C).setBox b4 C').setBox b1 D).box b2 = some [.int .i64 0] := fun C C' D => (box_off n12).trans ((box_off n24.symm).trans ((box_off n24.symm).trans m2))
    have a3' : ∀ C C' D F, ((((s0.setBox b4 C).setBox b4 C').setBox b1 D).setBox b2 F).box b3 = some [.int .i64 0] := fun C C' D F => (box_off n23).trans ((box_off n13).trans ((box_off n34.symm).trans ((box_off n34.symm).trans m3)))
    have e3 : ∀ C C' D F G, (((((s0.setBox b4 C).setBox b4 C').setBox b1 D).setBox b2 F).setBox b3 G).box b3 = some G := fun C C' D F G => St.box_at _ _ _
    have e2 : ∀ C C' D F G, (((((s0.setBox b4 C).setBox b4 C').setBox b1 D).setBox b2 F).setBox b3 G).box b2 = some F := fun C C' D F G => (box_off n23.symm).trans (St.box_at _ _ _)
    have e1 : ∀ C C' D F G, (((((s0.setBox b4 C).setBox b4 C').setBox b1 D).setBox b2 F).setBox b3 G).box b1 = some D := fun C C' D F G => (box_off n13.symm).trans ((box_off n12.symm).trans (St.box_at _ _ _))
    have e4 : ∀ C C' D F G, (((((s0.setBox b4 C).setBox b4 C').setBox b1 D).setBox b2 F).setBox b3 G).box b4 = some C' := fun C C' D F G => (box_off n34).trans ((box_off n24).trans ((box_off n14).trans (St.box_at _ _ _)))
    refine aw_of tys_ok ?_
    repeat' ((conv => whnf); first
      | (with_reducible first | exact Wa | exact Wb | exact Wc | refine Wd (by kernel_rfl) ?_ | refine We ?_ ?_ ?_ | refine W8 (by decide +kernel) ?_ ?_ ?_ | refine W9 ?_ ?_ ?_ | refine Wt (by first | assumption | omega) ?_ | refine Wu (by first | assumption | omega) ?_ | refine Wv (by omega) ?_ | refine Ww (by omega) ?_ | refine Wf (by decide) (fun _ => ?_) (fun _ => ?_) | refine Wg (fun _ => ?_) (fun _ => ?_) | refine Wh (fun _ => ?_) (fun _ => ?_) | refine Wi ?_ | refine Wj ?_ | refine Wk (fun _ => ?_) (fun _ => ?_) | refine Wl (fun _ => ?_) | refine Wm (by assumption) (by omega) ?_ | refine Wn (by omega) (by omega) (fun _ _ _ => ?_) | refine Wo (by omega) (by omega) ?_ | refine Wp (by omega) (by omega) (by omega) ?_ | refine Wq (by omega) (by omega) ?_ | refine Wr (by decide) (by omega) (by omega) ?_ | refine Ws (by decide) ?_ | refine Wx (fun _ => ?_) ?_ | refine Wy (fun _ => ?_) ?_ | refine Wz (fun _ => ?_) | refine WA (fun _ => ?_) | refine WB (by assumption) (by omega) ?_ | refine WC (by omega) (by omega) (fun _ _ => ?_) | refine WD (by omega) (by omega) (fun _ _ => ?_) | refine WE (by omega) (by omega) (by omega) ?_ | refine WJ (fun _ => ?_) | refine WK (fun _ _ _ => ?_) | refine WL (by assumption) (by omega) ?_ | refine WM (by omega) (by omega) (fun _ _ => ?_) | refine WN (by omega) (by omega) ?_ | refine WO (by omega) (by omega) ?_ | refine WP (by omega) (by omega) (by omega) ?_)
      | refine on_box (a1 _) ?_
      | refine on_box (St.box_at _ _ _) ?_
      | refine on_box (a1' _ _) ?_
      | refine on_box (a2' _ _ _) ?_
      | refine on_box (a3' _ _ _ _) ?_
      | refine on_box (e1 _ _ _ _ _) ?_
      | refine on_box (e2 _ _ _ _ _) ?_
      | refine on_box (e3 _ _ _ _ _) ?_
      | with_reducible refine WF ?_)
    exact fin (h b4 0 false [] .full [] .full _ (St.le_setBox (St.le_setBox (St.le_setBox (St.le_setBox (St.le_setBox hsl f4c.1 _) f4c.1 _) f1.1 _) f2a.1 _) f3b.1 _) (e4 _ _ _ _ _) rfl) rfl
end
end Go.Proofs.YtkcapphlemoccaaGreatDoor
set_option linter.unusedVariables false
namespace Go.Proofs.YtkcapphlemoccaaGreatDoor
open Go Go.Aw
section
variable {st : St} {R : Res → St → Prop}
attribute [local irreducible] Go.Aw.appendTo
theorem qscan_c {s : List UInt8} {pos : Nat} (hl : s.length ≤ 100000000) (hp : pos < s.length) (h : R (.ret (.tup [.int .i64 (quoF s pos).1, .int .i64 (quoF s pos).2.1, .int .i64 (quoF s pos).2.2])) st) : PC 63 [.str s, .int .i64 pos] st R := by
  refine pcalls_of_body tys_ok [] Tryz.func63 rfl (by decide) ?_
  repeat' ((conv => whnf); first
    | (with_reducible first | exact Wa | exact Wb | exact Wc | refine Wd (by kernel_rfl) ?_ | refine We ?_ ?_ ?_ | refine W8 (by decide +kernel) ?_ ?_ ?_ | refine W9 ?_ ?_ ?_ | refine Wt (by first | assumption | omega) ?_ | refine Wu (by first | assumption | omega) ?_ | refine Wv (by omega) ?_ | refine Ww (by omega) ?_ | refine Wf (by decide) (fun _ => ?_) (fun _ => ?_) | refine Wg (fun _ => ?_) (fun _ => ?_) | refine Wh (fun _ => ?_) (fun _ => ?_) | refine Wi ?_ | refine Wj ?_ | refine Wk (fun _ => ?_) (fun _ => ?_) | refine Wl (fun _ => ?_) | refine Wm (by assumption) (by omega) ?_ | refine Wn (by omega) (by omega) (fun _ _ _ => ?_) | refine Wo (by omega) (by omega) ?_ | refine Wp (by omega) (by omega) (by omega) ?_ | refine Wq (by omega) (by omega) ?_ | refine Wr (by decide) (by omega) (by omega) ?_ | refine Ws (by decide) ?_ | refine Wx (fun _ => ?_) ?_ | refine Wy (fun _ => ?_) ?_ | refine Wz (fun _ => ?_) | refine WA (fun _ => ?_) | refine WB (by assumption) (by omega) ?_ | refine WC (by omega) (by omega) (fun _ _ => ?_) | refine WD (by omega) (by omega) (fun _ _ => ?_) | refine WE (by omega) (by omega) (by omega) ?_ | refine WJ (fun _ => ?_) | refine WK (fun _ _ _ => ?_) | refine WL (by assumption) (by omega) ?_ | refine WM (by omega) (by omega) (fun _ _ => ?_) | refine WN (by omega) (by omega) ?_ | refine WO (by omega) (by omega) ?_ | refine WP (by omega) (by omega) (by omega) ?_)
    | refine read_c hl hp (fun b4 q tx o w1 g w2 st' hst hb hq => ?_)
    | refine on_box hb ?_
    | with_reducible refine WF ?_)
  all_goals rw [← hq] at h
  all_goals exact finl hst rfl h
end
end Go.Proofs.YtkcapphlemoccaaGreatDoor
set_option linter.unusedVariables false
set_option linter.unusedVariables false
set_option linter.unusedVariables false
set_option linter.unusedVariables false
set_option linter.unusedVariables false
set_option linter.unusedVariables false
set_option linter.unusedVariables false
set_option linter.unusedVariables false
namespace Go.Aw
open Go
theorem baseF_8 {l : List UInt8} (h : hdF (l.drop 1) = 111 ∨ hdF (l.drop 1) = 79) : baseF l = 8 := if_pos h
theorem baseF_16 {l : List UInt8} (h : hdF (l.drop 1) = 120 ∨ hdF (l.drop 1) = 88) : baseF l = 16 := by unfold baseF; rw [if_neg (by omega), if_pos h]
theorem baseF_10 {l : List UInt8} (h : hdF (l.drop 1) ≠ 111 ∧ hdF (l.drop 1) ≠ 79 ∧ hdF (l.drop 1) ≠ 120 ∧ hdF (l.drop 1) ≠ 88) : baseF l = 10 := by unfold baseF; rw [if_neg (by omega), if_neg (by omega)]
theorem baseF_or (l : List UInt8) : baseF l = 8 ∨ baseF l = 16 ∨ baseF l = 10 := by
  unfold baseF
  split
  · exact .inl rfl
  · split
    · exact .inr (.inl rfl)
    · exact .inr (.inr rfl)
theorem prefF_yes {l : List UInt8} {b : Int} (h : hdF l = 48) (hb : baseF l = b) (hn : b ≠ 10) (hr : rowN b (l.drop 2) ≠ 0) : prefF l = (b, 2) := by
  subst hb
  exact if_pos ⟨h, hn, hr⟩
theorem prefF_no {l : List UInt8} (h : hdF l ≠ 48 ∨ baseF l = 10 ∨ rowN (baseF l) (l.drop 2) = 0) : prefF l = (10, 0) := if_neg (by omega)
theorem prefF_or (l : List UInt8) : prefF l = (10, 0) ∨ (prefF l = (8, 2) ∧ baseF l = 8) ∨ (prefF l = (16, 2) ∧ baseF l = 16) := by
  by_cases h : hdF l = 48 ∧ baseF l ≠ 10 ∧ rowN (baseF l) (l.drop 2) ≠ 0
  · rcases baseF_or l with hb | hb | hb
    · exact .inr (.inl ⟨prefF_yes h.1 hb (by decide) (hb ▸ h.2.2), hb⟩)
    · exact .inr (.inr ⟨prefF_yes h.1 hb (by decide) (hb ▸ h.2.2), hb⟩)
    · exact absurd hb h.2.1
  · exact .inl (if_neg h)
theorem signN_1 {l : List UInt8} (h : hdF l = 43 ∨ hdF l = 45) : signN l = 1 := if_pos h
theorem signN_0 {l : List UInt8} (h : ¬ (hdF l = 43 ∨ hdF l = 45)) : signN l = 0 := if_neg h
theorem expN_no {l : List UInt8} (h : ¬ (hdF l = 101 ∨ hdF l = 69)) : expN l = 0 := if_neg fun e => h e.1
theorem expN_0 {l : List UInt8} {j : Nat} (h : hdF l = 101 ∨ hdF l = 69) (hk : 1 + signN (l.drop 1) = j) (h0 : rowN 10 (l.drop j) = 0) : expN l = 0 := by
  subst hk
  exact if_neg fun e => e.2 h0
theorem expN_1 {l : List UInt8} {j : Nat} (h : hdF l = 101 ∨ hdF l = 69) (hk : 1 + signN (l.drop 1) = j) (h0 : rowN 10 (l.drop j) ≠ 0) : expN l = j + rowN 10 (l.drop j) := by
  subst hk
  exact if_pos ⟨h, h0⟩
end Go.Aw
namespace Go.Proofs.YtkcapphlemoccaaGreatDoor
open Go Go.Aw
section
variable {st : St} {R : Res → St → Prop}
theorem row_k {s : List UInt8} {n : Nat} {b : Int} (hl : s.length ≤ 100000000) (h : R (.ret (.int .i64 (rowN b (s.drop n) : Nat))) st) : PC 102 [.str (s.drop (n : Int).toNat), .int .i64 b] st R :=
  row_c (by rw [List.length_drop]; omega) h
theorem prefixed_c {s : List UInt8} (hl : s.length ≤ 100000000) (h : R (.ret (.tup [.int .i64 (prefF s).1, .int .i64 (prefF s).2])) st) : PC 101 [.str s] st R := by
  refine pcalls_of_body tys_ok [] Tryz.func101 rfl (by decide) ?_
  repeat' ((conv => whnf); first
    | (with_reducible first | exact Wa | exact Wb | exact Wc | refine Wd (by kernel_rfl) ?_ | refine We ?_ ?_ ?_ | refine W8 (by decide +kernel) ?_ ?_ ?_ | refine W9 ?_ ?_ ?_ | refine Wt (by first | assumption | omega) ?_ | refine Wu (by first | assumption | omega) ?_ | refine Wv (by omega) ?_ | refine Ww (by omega) ?_ | refine Wf (by decide) (fun _ => ?_) (fun _ => ?_) | refine Wg (fun _ => ?_) (fun _ => ?_) | refine Wh (fun _ => ?_) (fun _ => ?_) | refine Wi ?_ | refine Wj ?_ | refine Wk (fun _ => ?_) (fun _ => ?_) | refine Wl (fun _ => ?_) | refine Wm (by assumption) (by omega) ?_ | refine Wn (by omega) (by omega) (fun _ _ _ => ?_) | refine Wo (by omega) (by omega) ?_ | refine Wp (by omega) (by omega) (by omega) ?_ | refine Wq (by omega) (by omega) ?_ | refine Wr (by decide) (by omega) (by omega) ?_ | refine Ws (by decide) ?_ | refine Wx (fun _ => ?_) ?_ | refine Wy (fun _ => ?_) ?_ | refine Wz (fun _ => ?_) | refine WA (fun _ => ?_) | refine WB (by assumption) (by omega) ?_ | refine WC (by omega) (by omega) (fun _ _ => ?_) | refine WD (by omega) (by omega) (fun _ _ => ?_) | refine WE (by omega) (by omega) (by omega) ?_ | refine WJ (fun _ => ?_) | refine WK (fun _ _ _ => ?_) | refine WL (by assumption) (by omega) ?_ | refine WM (by omega) (by omega) (fun _ _ => ?_) | refine WN (by omega) (by omega) ?_ | refine WO (by omega) (by omega) ?_ | refine WP (by omega) (by omega) (by omega) ?_)
    | refine row_k (n := 2) hl ?_
    | with_reducible refine WF ?_)
  all_goals try have h0 := hdF_at (show s[0]? = some _ by assumption)
  all_goals try rw [List.drop_zero] at h0
  all_goals try have h1 := hdF_at (show s[1]? = some _ by assumption)
  all_goals try have h1 := hdF_none (s := s) (i := 1) (by omega)
  all_goals first
    | exact fin h (by rw [prefF_no (.inl (by omega))]; rfl)
    | exact fin h (by rw [prefF_no (.inr (.inl (baseF_10 (by omega))))]; rfl)
    | exact fin h (by rw [prefF_no (.inr (.inr (by rw [baseF_8 (by omega)]; assumption)))]; rfl)
    | exact fin h (by rw [prefF_no (.inr (.inr (by rw [baseF_16 (by omega)]; assumption)))]; rfl)
    | exact fin h (by rw [prefF_yes (by omega) (baseF_8 (by omega)) (by decide) (by assumption)]; rfl)
    | exact fin h (by rw [prefF_yes (by omega) (baseF_16 (by omega)) (by decide) (by assumption)]; rfl)
theorem exponent_c {s : List UInt8} (hl : s.length ≤ 100000000) (h : R (.ret (.int .i64 (expN s : Nat))) st) : PC 103 [.str s] st R := by
  refine pcalls_of_body tys_ok [] Tryz.func103 rfl (by decide) ?_
  by_cases he : s = []
  · subst he
    repeat' ((conv => whnf); first
      | (with_reducible first | exact Wa | exact Wb | exact Wc | refine Wd (by kernel_rfl) ?_ | refine We ?_ ?_ ?_ | refine W8 (by decide +kernel) ?_ ?_ ?_ | refine W9 ?_ ?_ ?_ | refine Wt (by first | assumption | omega) ?_ | refine Wu (by first | assumption | omega) ?_ | refine Wv (by omega) ?_ | refine Ww (by omega) ?_ | refine Wf (by decide) (fun _ => ?_) (fun _ => ?_) | refine Wg (fun _ => ?_) (fun _ => ?_) | refine Wh (fun _ => ?_) (fun _ => ?_) | refine Wi ?_ | refine Wj ?_ | refine Wk (fun _ => ?_) (fun _ => ?_) | refine Wl (fun _ => ?_) | refine Wm (by assumption) (by omega) ?_ | refine Wn (by omega) (by omega) (fun _ _ _ => ?_) | refine Wo (by omega) (by omega) ?_ | refine Wp (by omega) (by omega) (by omega) ?_ | refine Wq (by omega) (by omega) ?_ | refine Wr (by decide) (by omega) (by omega) ?_ | refine Ws (by decide) ?_ | refine Wx (fun _ => ?_) ?_ | refine Wy (fun _ => ?_) ?_ | refine Wz (fun _ => ?_) | refine WA (fun _ => ?_) | refine WB (by assumption) (by omega) ?_ | refine WC (by omega) (by omega) (fun _ _ => ?_) | refine WD (by omega) (by omega) (fun _ _ => ?_) | refine WE (by omega) (by omega) (by omega) ?_ | refine WJ (fun _ => ?_) | refine WK (fun _ _ _ => ?_) | refine WL (by assumption) (by omega) ?_ | refine WM (by omega) (by omega) (fun _ _ => ?_) | refine WN (by omega) (by omega) ?_ | refine WO (by omega) (by omega) ?_ | refine WP (by omega) (by omega) (by omega) ?_)
      | with_reducible refine WF ?_)
    · exact fin h rfl
    · rename_i hn; exact absurd rfl hn
  have hlen := List.length_pos_iff.2 he
  have r1 : rowN 10 (s.drop 1) ≤ s.length := Nat.le_trans (rowN_le 10 _) (by rw [List.length_drop]; omega)
  have r2 : rowN 10 (s.drop 2) ≤ s.length := Nat.le_trans (rowN_le 10 _) (by rw [List.length_drop]; omega)
  repeat' ((conv => whnf); first
    | (with_reducible first | exact Wa | exact Wb | exact Wc | refine Wd (by kernel_rfl) ?_ | refine We ?_ ?_ ?_ | refine W8 (by decide +kernel) ?_ ?_ ?_ | refine W9 ?_ ?_ ?_ | refine Wt (by first | assumption | omega) ?_ | refine Wu (by first | assumption | omega) ?_ | refine Wv (by omega) ?_ | refine Ww (by omega) ?_ | refine Wf (by decide) (fun _ => ?_) (fun _ => ?_) | refine Wg (fun _ => ?_) (fun _ => ?_) | refine Wh (fun _ => ?_) (fun _ => ?_) | refine Wi ?_ | refine Wj ?_ | refine Wk (fun _ => ?_) (fun _ => ?_) | refine Wl (fun _ => ?_) | refine Wm (by assumption) (by omega) ?_ | refine Wn (by omega) (by omega) (fun _ _ _ => ?_) | refine Wo (by omega) (by omega) ?_ | refine Wp (by omega) (by omega) (by omega) ?_ | refine Wq (by omega) (by omega) ?_ | refine Wr (by decide) (by omega) (by omega) ?_ | refine Ws (by decide) ?_ | refine Wx (fun _ => ?_) ?_ | refine Wy (fun _ => ?_) ?_ | refine Wz (fun _ => ?_) | refine WA (fun _ => ?_) | refine WB (by assumption) (by omega) ?_ | refine WC (by omega) (by omega) (fun _ _ => ?_) | refine WD (by omega) (by omega) (fun _ _ => ?_) | refine WE (by omega) (by omega) (by omega) ?_ | refine WJ (fun _ => ?_) | refine WK (fun _ _ _ => ?_) | refine WL (by assumption) (by omega) ?_ | refine WM (by omega) (by omega) (fun _ _ => ?_) | refine WN (by omega) (by omega) ?_ | refine WO (by omega) (by omega) ?_ | refine WP (by omega) (by omega) (by omega) ?_)
    | refine row_k (n := 1) hl ?_
    | refine row_k (n := 2) hl ?_
    | with_reducible refine WF ?_)
  all_goals try have h0 := hdF_at (show s[0]? = some _ by assumption)
  all_goals try rw [List.drop_zero] at h0
  all_goals try have h1 := hdF_at (show s[1]? = some _ by assumption)
  all_goals try have h1 := hdF_none (s := s) (i := 1) (by omega)
  all_goals first
    | (have e := expN_no (l := s) (by omega); exact fin h (int_ret (by omega)))
    | (have e := expN_0 (l := s) (j := 1) (by omega) (by rw [signN_0 (by omega)]) (by assumption); exact fin h (int_ret (by omega)))
    | (have e := expN_1 (l := s) (j := 1) (by omega) (by rw [signN_0 (by omega)]) (by assumption); exact fin h (int_ret (by omega)))
    | (have e := expN_0 (l := s) (j := 2) (by omega) (by rw [signN_1 (by omega)]) (by assumption); exact fin h (int_ret (by omega)))
    | (have e := expN_1 (l := s) (j := 2) (by omega) (by rw [signN_1 (by omega)]) (by assumption); exact fin h (int_ret (by omega)))
end
end Go.Proofs.YtkcapphlemoccaaGreatDoor
set_option linter.unusedVariables false
namespace Go.Aw
open Go
theorem numF_b {l : List UInt8} (h : (prefF l).1 ≠ 10) : numF l = (11, 2 + rowN (prefF l).1 (l.drop 2)) := if_pos h
theorem numF_0 {l : List UInt8} (h : (prefF l).1 = 10) (k : rowN 10 l = 0) : numF l = (0, 0) := by unfold numF; rw [if_neg (fun e => e h), if_pos k]
theorem numF_n {l : List UInt8} {n f e : Nat} (h : (prefF l).1 = 10) (hn : rowN 10 l = n) (h0 : n ≠ 0) (hf : fracN (l.drop n) = f) (he : expN (l.drop (n + f)) = e) : numF l = (if 0 < f ∨ 0 < e then 12 else 11, n + f + e) := by
  subst hn; subst hf; subst he
  unfold numF; rw [if_neg (fun e => e h), if_neg h0]
theorem prefF_2 {l : List UInt8} {b : Int} (h : prefF l = (b, 2)) : hdF l = 48 ∧ 2 ≤ l.length := by
  unfold prefF at h
  split at h
  · rename_i hc
    refine ⟨hc.1, ?_⟩
    have := hc.2.2
    have h1 := rowN_le (baseF l) (l.drop 2)
    rw [List.length_drop] at h1
    omega
  · injection h with _ h; cases h
def nscF (s : List UInt8) (pos : Nat) : Int × Int := if (numF (s.drop pos)).1 = 0 then (0, 0) else ((numF (s.drop pos)).1, (pos + (numF (s.drop pos)).2 : Nat))
end Go.Aw
namespace Go.Proofs.YtkcapphlemoccaaGreatDoor
open Go Go.Aw
section
variable {st : St} {R : Res → St → Prop}
theorem dot_e {s : List UInt8} {i : Int} {n : Nat} (e : i.toNat = n) (h : R (.ret (.bool (decide (hdF (s.drop n) = 46)))) st) : PC 36 [.str (s.drop i.toNat), .str [46]] st R := by
  refine prefix_c ?_
  rw [pre1, e]
  exact h
theorem exponent_e {s : List UInt8} {i : Int} {n : Nat} (e : i.toNat = n) (hl : s.length ≤ 100000000) (h : R (.ret (.int .i64 (expN (s.drop n) : Nat))) st) : PC 103 [.str (s.drop i.toNat)] st R := by
  rw [e]; exact exponent_c (by rw [List.length_drop]; omega) h
theorem row_e {s : List UInt8} {i b : Int} {n : Nat} (e : i.toNat = n) (hl : s.length ≤ 100000000) (h : R (.ret (.int .i64 (rowN b (s.drop n) : Nat))) st) : PC 102 [.str (s.drop i.toNat), .int .i64 b] st R := by
  rw [e]; exact row_c (by rw [List.length_drop]; omega) h
theorem row_v {s : List UInt8} {i b : Int} {n v : Nat} (e : i.toNat = n) (hv : rowN b (s.drop n) = v) (hl : s.length ≤ 100000000) (h : R (.ret (.int .i64 v)) st) : PC 102 [.str (s.drop i.toNat), .int .i64 b] st R :=
  row_e e hl (by rw [hv]; exact h)
theorem exponent_v {s : List UInt8} {i : Int} {n v : Nat} (e : i.toNat = n) (hv : expN (s.drop n) = v) (hl : s.length ≤ 100000000) (h : R (.ret (.int .i64 v)) st) : PC 103 [.str (s.drop i.toNat)] st R :=
  exponent_e e hl (by rw [hv]; exact h)
theorem num_ret {s : List UInt8} {k i : Int} {n : Nat} (e1 : numF s = (k, n)) (e2 : i.toNat = n) : Res.ret (.tup [.int .i64 (numF s).1, .str (s.take (numF s).2)]) = Res.ret (.tup [.int .i64 k, .str (s.take i.toNat)]) := by rw [e1, e2]
theorem num_ret0 {s : List UInt8} (e1 : numF s = (0, 0)) : Res.ret (.tup [.int .i64 (numF s).1, .str (s.take (numF s).2)]) = Res.ret (.tup [.int .i64 0, .str []]) := by rw [e1]; rfl
theorem prefixed_k {s : List UInt8} {b : Int} {n : Nat} (hp : prefF s = (b, n)) (hl : s.length ≤ 100000000) (h : R (.ret (.tup [.int .i64 b, .int .i64 n])) st) : PC 101 [.str s] st R :=
  prefixed_c hl (by rw [hp]; exact h)
theorem nscan_c {s : List UInt8} (hl : s.length ≤ 100000000) (h : R (.ret (.tup [.int .i64 (numF s).1, .str (s.take (numF s).2)])) st) : PC 87 [.str s] st R := by
  have hle := numF_le s
  refine pcalls_of_body tys_ok [] Tryz.func87 rfl (by decide) ?_
  rcases prefF_or s with hp | ⟨hp, _⟩ | ⟨hp, _⟩
  · have h1 := rowN_le 10 s
    have h2 := fracN_le (s.drop (rowN 10 s))
    have h3 := expN_le (s.drop (rowN 10 s + fracN (s.drop (rowN 10 s))))
    rw [List.length_drop] at h2 h3
    generalize hr : rowN 10 s = r at h1 h2 h3
    have hr0 : rowN 10 (s.drop 0) = r := hr
    generalize hf : fracN (s.drop r) = f at h2 h3
    generalize he : expN (s.drop (r + f)) = e at h3
    have h4 := rowN_le 10 (s.drop (r + 1))
    have e0 : (prefF s).1 = 10 := by rw [hp]
    have hlt := dot_lt s r
    have hfd : (hdF (s.drop r) = 46 ∧ rowN 10 (s.drop (r + 1)) ≠ 0 ∧ f = 1 + rowN 10 (s.drop (r + 1))) ∨ ((hdF (s.drop r) ≠ 46 ∨ rowN 10 (s.drop (r + 1)) = 0) ∧ f = 0) := by
      rw [← hf]
      unfold fracN
      rw [List.drop_drop]
      split <;> omega
    rw [List.length_drop] at h4
    generalize hd : rowN 10 (s.drop (r + 1)) = d at h4 hfd
    repeat' ((conv => whnf); first
      | (with_reducible first | exact Wa | exact Wb | exact Wc | refine Wd (by kernel_rfl) ?_ | refine We ?_ ?_ ?_ | refine W8 (by decide +kernel) ?_ ?_ ?_ | refine W9 ?_ ?_ ?_ | refine Wt (by first | assumption | omega) ?_ | refine Wu (by first | assumption | omega) ?_ | refine Wv (by omega) ?_ | refine Ww (by omega) ?_ | refine Wf (by decide) (fun _ => ?_) (fun _ => ?_) | refine Wg (fun _ => ?_) (fun _ => ?_) | refine Wh (fun _ => ?_) (fun _ => ?_) | refine Wi ?_ | refine Wj ?_ | refine Wk (fun _ => ?_) (fun _ => ?_) | refine Wl (fun _ => ?_) | refine Wm (by assumption) (by omega) ?_ | refine Wn (by omega) (by omega) (fun _ _ _ => ?_) | refine Wo (by omega) (by omega) ?_ | refine Wp (by omega) (by omega) (by omega) ?_ | refine Wq (by omega) (by omega) ?_ | refine Wr (by decide) (by omega) (by omega) ?_ | refine Ws (by decide) ?_ | refine Wx (fun _ => ?_) ?_ | refine Wy (fun _ => ?_) ?_ | refine Wz (fun _ => ?_) | refine WA (fun _ => ?_) | refine WB (by assumption) (by omega) ?_ | refine WC (by omega) (by omega) (fun _ _ => ?_) | refine WD (by omega) (by omega) (fun _ _ => ?_) | refine WE (by omega) (by omega) (by omega) ?_ | refine WJ (fun _ => ?_) | refine WK (fun _ _ _ => ?_) | refine WL (by assumption) (by omega) ?_ | refine WM (by omega) (by omega) (fun _ _ => ?_) | refine WN (by omega) (by omega) ?_ | refine WO (by omega) (by omega) ?_ | refine WP (by omega) (by omega) (by omega) ?_)
      | refine prefixed_k hp hl ?_
      | refine row_v (by omega) hr0 hl ?_
      | refine row_v (by omega) hd hl ?_
      | refine dot_e (n := r) (by omega) ?_
      | refine exponent_v (by omega) he hl ?_
      | refine exponent_v (by omega) he' hl ?_
      | with_reducible refine WF ?_)
    all_goals first
      | (have e1 := numF_0 e0 (by omega); exact fin h (num_ret0 e1))
      | (have e1 := numF_n e0 hr (by omega) hf he; rw [if_pos (by omega)] at e1; exact fin h (num_ret e1 (by omega)))
      | (have e1 := numF_n e0 hr (by omega) hf he; rw [if_neg (by omega)] at e1; exact fin h (num_ret e1 (by omega)))
  · have hr := rowN_le 8 (s.drop 2)
    have h2 := (prefF_2 hp).2
    rw [List.length_drop] at hr
    repeat' ((conv => whnf); first
      | (with_reducible first | exact Wa | exact Wb | exact Wc | refine Wd (by kernel_rfl) ?_ | refine We ?_ ?_ ?_ | refine W8 (by decide +kernel) ?_ ?_ ?_ | refine W9 ?_ ?_ ?_ | refine Wt (by first | assumption | omega) ?_ | refine Wu (by first | assumption | omega) ?_ | refine Wv (by omega) ?_ | refine Ww (by omega) ?_ | refine Wf (by decide) (fun _ => ?_) (fun _ => ?_) | refine Wg (fun _ => ?_) (fun _ => ?_) | refine Wh (fun _ => ?_) (fun _ => ?_) | refine Wi ?_ | refine Wj ?_ | refine Wk (fun _ => ?_) (fun _ => ?_) | refine Wl (fun _ => ?_) | refine Wm (by assumption) (by omega) ?_ | refine Wn (by omega) (by omega) (fun _ _ _ => ?_) | refine Wo (by omega) (by omega) ?_ | refine Wp (by omega) (by omega) (by omega) ?_ | refine Wq (by omega) (by omega) ?_ | refine Wr (by decide) (by omega) (by omega) ?_ | refine Ws (by decide) ?_ | refine Wx (fun _ => ?_) ?_ | refine Wy (fun _ => ?_) ?_ | refine Wz (fun _ => ?_) | refine WA (fun _ => ?_) | refine WB (by assumption) (by omega) ?_ | refine WC (by omega) (by omega) (fun _ _ => ?_) | refine WD (by omega) (by omega) (fun _ _ => ?_) | refine WE (by omega) (by omega) (by omega) ?_ | refine WJ (fun _ => ?_) | refine WK (fun _ _ _ => ?_) | refine WL (by assumption) (by omega) ?_ | refine WM (by omega) (by omega) (fun _ _ => ?_) | refine WN (by omega) (by omega) ?_ | refine WO (by omega) (by omega) ?_ | refine WP (by omega) (by omega) (by omega) ?_)
      | refine prefixed_k hp hl ?_
      | refine row_e (n := 2) (by omega) hl ?_
      | with_reducible refine WF ?_)
    all_goals (have e1 := numF_b (l := s) (by rw [hp]; decide); rw [hp] at e1; dsimp only at e1; exact fin h (num_ret e1 (by omega)))
  · have hr := rowN_le 16 (s.drop 2)
    have h2 := (prefF_2 hp).2
    rw [List.length_drop] at hr
    repeat' ((conv => whnf); first
      | (with_reducible first | exact Wa | exact Wb | exact Wc | refine Wd (by kernel_rfl) ?_ | refine We ?_ ?_ ?_ | refine W8 (by decide +kernel) ?_ ?_ ?_ | refine W9 ?_ ?_ ?_ | refine Wt (by first | assumption | omega) ?_ | refine Wu (by first | assumption | omega) ?_ | refine Wv (by omega) ?_ | refine Ww (by omega) ?_ | refine Wf (by decide) (fun _ => ?_) (fun _ => ?_) | refine Wg (fun _ => ?_) (fun _ => ?_) | refine Wh (fun _ => ?_) (fun _ => ?_) | refine Wi ?_ | refine Wj ?_ | refine Wk (fun _ => ?_) (fun _ => ?_) | refine Wl (fun _ => ?_) | refine Wm (by assumption) (by omega) ?_ | refine Wn (by omega) (by omega) (fun _ _ _ => ?_) | refine Wo (by omega) (by omega) ?_ | refine Wp (by omega) (by omega) (by omega) ?_ | refine Wq (by omega) (by omega) ?_ | refine Wr (by decide) (by omega) (by omega) ?_ | refine Ws (by decide) ?_ | refine Wx (fun _ => ?_) ?_ | refine Wy (fun _ => ?_) ?_ | refine Wz (fun _ => ?_) | refine WA (fun _ => ?_) | refine WB (by assumption) (by omega) ?_ | refine WC (by omega) (by omega) (fun _ _ => ?_) | refine WD (by omega) (by omega) (fun _ _ => ?_) | refine WE (by omega) (by omega) (by omega) ?_ | refine WJ (fun _ => ?_) | refine WK (fun _ _ _ => ?_) | refine WL (by assumption) (by omega) ?_ | refine WM (by omega) (by omega) (fun _ _ => ?_) | refine WN (by omega) (by omega) ?_ | refine WO (by omega) (by omega) ?_ | refine WP (by omega) (by omega) (by omega) ?_)
      | refine prefixed_k hp hl ?_
      | refine row_e (n := 2) (by omega) hl ?_
      | with_reducible refine WF ?_)
    all_goals (have e1 := numF_b (l := s) (by rw [hp]; decide); rw [hp] at e1; dsimp only at e1; exact fin h (num_ret e1 (by omega)))
theorem nscanX_c {s : List UInt8} {pos : Nat} (hl : s.length ≤ 100000000) (hp : pos < s.length) (h : R (.ret (.tup [.int .i64 (nscF s pos).1, .int .i64 (nscF s pos).2])) st) : PC 62 [.str s, .int .i64 pos] st R := by
  have hw := numF_le (s.drop pos)
  have ht : ((s.drop pos).take (numF (s.drop pos)).2).length = (numF (s.drop pos)).2 := by rw [List.length_take]; omega
  rw [List.length_drop] at hw
  have hld : (s.drop pos).length ≤ 100000000 := by rw [List.length_drop]; omega
  refine pcalls_of_body tys_ok [] Tryz.func62 rfl (by decide) ?_
  repeat' ((conv => whnf); first
    | (with_reducible first | exact Wa | exact Wb | exact Wc | refine Wd (by kernel_rfl) ?_ | refine We ?_ ?_ ?_ | refine W8 (by decide +kernel) ?_ ?_ ?_ | refine W9 ?_ ?_ ?_ | refine Wt (by first | assumption | omega) ?_ | refine Wu (by first | assumption | omega) ?_ | refine Wv (by omega) ?_ | refine Ww (by omega) ?_ | refine Wf (by decide) (fun _ => ?_) (fun _ => ?_) | refine Wg (fun _ => ?_) (fun _ => ?_) | refine Wh (fun _ => ?_) (fun _ => ?_) | refine Wi ?_ | refine Wj ?_ | refine Wk (fun _ => ?_) (fun _ => ?_) | refine Wl (fun _ => ?_) | refine Wm (by assumption) (by omega) ?_ | refine Wn (by omega) (by omega) (fun _ _ _ => ?_) | refine Wo (by omega) (by omega) ?_ | refine Wp (by omega) (by omega) (by omega) ?_ | refine Wq (by omega) (by omega) ?_ | refine Wr (by decide) (by omega) (by omega) ?_ | refine Ws (by decide) ?_ | refine Wx (fun _ => ?_) ?_ | refine Wy (fun _ => ?_) ?_ | refine Wz (fun _ => ?_) | refine WA (fun _ => ?_) | refine WB (by assumption) (by omega) ?_ | refine WC (by omega) (by omega) (fun _ _ => ?_) | refine WD (by omega) (by omega) (fun _ _ => ?_) | refine WE (by omega) (by omega) (by omega) ?_ | refine WJ (fun _ => ?_) | refine WK (fun _ _ _ => ?_) | refine WL (by assumption) (by omega) ?_ | refine WM (by omega) (by omega) (fun _ _ => ?_) | refine WN (by omega) (by omega) ?_ | refine WO (by omega) (by omega) ?_ | refine WP (by omega) (by omega) (by omega) ?_)
    | refine nscan_c hld ?_
    | with_reducible refine WF ?_)
  · exact fin h (by unfold nscF; rw [if_pos (by assumption)]; simp_all)
  · exact fin h (by unfold nscF; rw [if_neg (by assumption)]; simp only []; rw [show (pos : Int).toNat = pos by omega] at *; rw [ht]; rfl)
end
end Go.Proofs.YtkcapphlemoccaaGreatDoor
set_option linter.unusedVariables false
set_option linter.unusedVariables false
set_option linter.unusedVariables false
namespace Go.Aw
open Go
def lexmF (s : List UInt8) (p : Nat) : Int × Int × Int :=
  if (nscF s p).1 ≠ 0 then ((nscF s p).1, (nscF s p).2, 0)
  else if (quoF s p).1 = 0 ∧ (quoF s p).2.2 = 0 then
    if (wscanF s p).1 = 0 then (0, p, 70) else ((wscanF s p).1, (wscanF s p).2, 0)
  else quoF s p
def lxC (s : List UInt8) (p sp : Nat) (ln col : Int) (toks notes : List (List V)) (w1 w2 : Own) (gap ends : Int) (j : Bool) : List V :=
  [.str s, .int .i64 p, .int .i64 sp, .int .i64 ln, .int .i64 col, .slice 4 toks w1, .slice 5 notes w2, .int .i64 gap, .int .i64 ends, .bool j]
end Go.Aw
namespace Go.Proofs.YtkcapphlemoccaaGreatDoor
open Go Go.Aw
section
variable {st : St} {R : Res → St → Prop}
theorem lnum_c {s : List UInt8} {b p sp : Nat} {ln col gap ends : Int} {toks notes : List (List V)} {w1 w2 : Own} {j : Bool} (hl : s.length ≤ 100000000) (hp : p < s.length) (hb : st.box b = some (lxC s p sp ln col toks notes w1 w2 gap ends j))
    (h : R (.ret (.agg [.int .i64 (nscF s p).1, .int .i64 (nscF s p).2, .int .i64 0])) st) : PC 40 [.ptr b 0] st R := by
  refine pcalls_of_body tys_ok [] Tryz.func40 rfl (by decide) ?_
  repeat' ((conv => whnf); first
    | (with_reducible first | exact Wa | exact Wb | exact Wc | refine Wd (by kernel_rfl) ?_ | refine We ?_ ?_ ?_ | refine W8 (by decide +kernel) ?_ ?_ ?_ | refine W9 ?_ ?_ ?_ | refine Wt (by first | assumption | omega) ?_ | refine Wu (by first | assumption | omega) ?_ | refine Wv (by omega) ?_ | refine Ww (by omega) ?_ | refine Wf (by decide) (fun _ => ?_) (fun _ => ?_) | refine Wg (fun _ => ?_) (fun _ => ?_) | refine Wh (fun _ => ?_) (fun _ => ?_) | refine Wi ?_ | refine Wj ?_ | refine Wk (fun _ => ?_) (fun _ => ?_) | refine Wl (fun _ => ?_) | refine Wm (by assumption) (by omega) ?_ | refine Wn (by omega) (by omega) (fun _ _ _ => ?_) | refine Wo (by omega) (by omega) ?_ | refine Wp (by omega) (by omega) (by omega) ?_ | refine Wq (by omega) (by omega) ?_ | refine Wr (by decide) (by omega) (by omega) ?_ | refine Ws (by decide) ?_ | refine Wx (fun _ => ?_) ?_ | refine Wy (fun _ => ?_) ?_ | refine Wz (fun _ => ?_) | refine WA (fun _ => ?_) | refine WB (by assumption) (by omega) ?_ | refine WC (by omega) (by omega) (fun _ _ => ?_) | refine WD (by omega) (by omega) (fun _ _ => ?_) | refine WE (by omega) (by omega) (by omega) ?_)
    | refine on_box hb ?_
    | refine nscanX_c hl hp ?_
    | with_reducible refine WF ?_)
  all_goals exact fin h rfl
theorem lwrd_c {s : List UInt8} {b p sp : Nat} {ln col gap ends : Int} {toks notes : List (List V)} {w1 w2 : Own} {j : Bool} (hl : s.length ≤ 100000000) (hp : p < s.length) (hb : st.box b = some (lxC s p sp ln col toks notes w1 w2 gap ends j))
    (h : R (.ret (.agg [.int .i64 (wscanF s p).1, .int .i64 (wscanF s p).2, .int .i64 0])) st) : PC 42 [.ptr b 0] st R := by
  refine pcalls_of_body tys_ok [] Tryz.func42 rfl (by decide) ?_
  repeat' ((conv => whnf); first
    | (with_reducible first | exact Wa | exact Wb | exact Wc | refine Wd (by kernel_rfl) ?_ | refine We ?_ ?_ ?_ | refine W8 (by decide +kernel) ?_ ?_ ?_ | refine W9 ?_ ?_ ?_ | refine Wt (by first | assumption | omega) ?_ | refine Wu (by first | assumption | omega) ?_ | refine Wv (by omega) ?_ | refine Ww (by omega) ?_ | refine Wf (by decide) (fun _ => ?_) (fun _ => ?_) | refine Wg (fun _ => ?_) (fun _ => ?_) | refine Wh (fun _ => ?_) (fun _ => ?_) | refine Wi ?_ | refine Wj ?_ | refine Wk (fun _ => ?_) (fun _ => ?_) | refine Wl (fun _ => ?_) | refine Wm (by assumption) (by omega) ?_ | refine Wn (by omega) (by omega) (fun _ _ _ => ?_) | refine Wo (by omega) (by omega) ?_ | refine Wp (by omega) (by omega) (by omega) ?_ | refine Wq (by omega) (by omega) ?_ | refine Wr (by decide) (by omega) (by omega) ?_ | refine Ws (by decide) ?_ | refine Wx (fun _ => ?_) ?_ | refine Wy (fun _ => ?_) ?_ | refine Wz (fun _ => ?_) | refine WA (fun _ => ?_) | refine WB (by assumption) (by omega) ?_ | refine WC (by omega) (by omega) (fun _ _ => ?_) | refine WD (by omega) (by omega) (fun _ _ => ?_) | refine WE (by omega) (by omega) (by omega) ?_)
    | refine on_box hb ?_
    | refine wscanX_c hl hp ?_
    | with_reducible refine WF ?_)
  all_goals exact fin h rfl
theorem llit_c {s : List UInt8} {b p sp : Nat} {ln col gap ends : Int} {toks notes : List (List V)} {w1 w2 : Own} {j : Bool} (hl : s.length ≤ 100000000) (hp : p < s.length) (hb : st.box b = some (lxC s p sp ln col toks notes w1 w2 gap ends j))
    (h : R (.ret (.agg [.int .i64 (quoF s p).1, .int .i64 (quoF s p).2.1, .int .i64 (quoF s p).2.2])) st) : PC 41 [.ptr b 0] st R := by
  refine pcalls_of_body tys_ok [] Tryz.func41 rfl (by decide) ?_
  repeat' ((conv => whnf); first
    | (with_reducible first | exact Wa | exact Wb | exact Wc | refine Wd (by kernel_rfl) ?_ | refine We ?_ ?_ ?_ | refine W8 (by decide +kernel) ?_ ?_ ?_ | refine W9 ?_ ?_ ?_ | refine Wt (by first | assumption | omega) ?_ | refine Wu (by first | assumption | omega) ?_ | refine Wv (by omega) ?_ | refine Ww (by omega) ?_ | refine Wf (by decide) (fun _ => ?_) (fun _ => ?_) | refine Wg (fun _ => ?_) (fun _ => ?_) | refine Wh (fun _ => ?_) (fun _ => ?_) | refine Wi ?_ | refine Wj ?_ | refine Wk (fun _ => ?_) (fun _ => ?_) | refine Wl (fun _ => ?_) | refine Wm (by assumption) (by omega) ?_ | refine Wn (by omega) (by omega) (fun _ _ _ => ?_) | refine Wo (by omega) (by omega) ?_ | refine Wp (by omega) (by omega) (by omega) ?_ | refine Wq (by omega) (by omega) ?_ | refine Wr (by decide) (by omega) (by omega) ?_ | refine Ws (by decide) ?_ | refine Wx (fun _ => ?_) ?_ | refine Wy (fun _ => ?_) ?_ | refine Wz (fun _ => ?_) | refine WA (fun _ => ?_) | refine WB (by assumption) (by omega) ?_ | refine WC (by omega) (by omega) (fun _ _ => ?_) | refine WD (by omega) (by omega) (fun _ _ => ?_) | refine WE (by omega) (by omega) (by omega) ?_)
    | refine on_box hb ?_
    | refine qscan_c hl hp ?_
    | with_reducible refine WF ?_)
  all_goals exact fin h rfl
theorem lexeme_c {s : List UInt8} {b p sp : Nat} {ln col gap ends : Int} {toks notes : List (List V)} {w1 w2 : Own} {j : Bool} (hl : s.length ≤ 100000000) (hp : p < s.length) (hb : st.box b = some (lxC s p sp ln col toks notes w1 w2 gap ends j))
    (h : R (.ret (.agg [.int .i64 (lexmF s p).1, .int .i64 (lexmF s p).2.1, .int .i64 (lexmF s p).2.2])) st) : PC 22 [.ptr b 0] st R := by
  refine pcalls_of_body tys_ok [] Tryz.func22 rfl (by decide) ?_
  have hh : ∀ a b c, lexmF s p = (a, b, c) → R (.ret (.agg [.int .i64 a, .int .i64 b, .int .i64 c])) st := fun a b c e => by rw [e] at h; exact h
  clear h
  unfold lexmF at hh
  repeat' ((conv => whnf); first
    | (with_reducible first | exact Wa | exact Wb | exact Wc | refine Wd (by kernel_rfl) ?_ | refine We ?_ ?_ ?_ | refine W8 (by decide +kernel) ?_ ?_ ?_ | refine W9 ?_ ?_ ?_ | refine Wt (by first | assumption | omega) ?_ | refine Wu (by first | assumption | omega) ?_ | refine Wv (by omega) ?_ | refine Ww (by omega) ?_ | refine Wf (by decide) (fun _ => ?_) (fun _ => ?_) | refine Wg (fun _ => ?_) (fun _ => ?_) | refine Wh (fun _ => ?_) (fun _ => ?_) | refine Wi ?_ | refine Wj ?_ | refine Wk (fun _ => ?_) (fun _ => ?_) | refine Wl (fun _ => ?_) | refine Wm (by assumption) (by omega) ?_ | refine Wn (by omega) (by omega) (fun _ _ _ => ?_) | refine Wo (by omega) (by omega) ?_ | refine Wp (by omega) (by omega) (by omega) ?_ | refine Wq (by omega) (by omega) ?_ | refine Wr (by decide) (by omega) (by omega) ?_ | refine Ws (by decide) ?_ | refine Wx (fun _ => ?_) ?_ | refine Wy (fun _ => ?_) ?_ | refine Wz (fun _ => ?_) | refine WA (fun _ => ?_) | refine WB (by assumption) (by omega) ?_ | refine WC (by omega) (by omega) (fun _ _ => ?_) | refine WD (by omega) (by omega) (fun _ _ => ?_) | refine WE (by omega) (by omega) (by omega) ?_)
    | refine lnum_c hl hp hb ?_
    | refine llit_c hl hp hb ?_
    | refine lwrd_c hl hp hb ?_
    | refine on_box hb ?_
    | with_reducible refine WF ?_)
  · exact fin (hh _ _ _ (by rw [if_neg (by omega), if_pos ⟨by omega, by omega⟩, if_pos (by omega)])) rfl
  · exact fin (hh _ _ _ (by rw [if_neg (by omega), if_pos ⟨by omega, by omega⟩, if_neg (by omega)])) rfl
  · exact fin (hh _ _ _ (by rw [if_neg (by omega), if_neg (fun x => by omega)])) rfl
  · exact fin (hh _ _ _ (by rw [if_neg (by omega), if_neg (fun x => by omega)])) rfl
  · exact fin (hh _ _ _ (by rw [if_pos (by omega)])) rfl
end
end Go.Proofs.YtkcapphlemoccaaGreatDoor
set_option linter.unusedVariables false
namespace Go.Proofs.YtkcapphlemoccaaGreatDoor
open Go Go.Aw
section
variable {st : St} {R : Res → St → Prop}
theorem counts_c {k ln col : Int} {t : List UInt8} (h : R (.ret (.bool (decide (¬ k = 15) || !Lib.contains [123, 125, 59] t))) st) : PC 43 [.agg [.int .i64 k, .str t, .int .i64 ln, .int .i64 col]] st R := by
  refine pcalls_of_body tys_ok [] Tryz.func43 rfl (by decide) ?_
  repeat' ((conv => whnf); first
    | (with_reducible first | exact Wa | exact Wb | exact Wc | refine Wd (by kernel_rfl) ?_ | refine We ?_ ?_ ?_ | refine W8 (by decide +kernel) ?_ ?_ ?_ | refine W9 ?_ ?_ ?_ | refine Wt (by first | assumption | omega) ?_ | refine Wu (by first | assumption | omega) ?_ | refine Wv (by omega) ?_ | refine Ww (by omega) ?_ | refine Wf (by decide) (fun _ => ?_) (fun _ => ?_) | refine Wg (fun _ => ?_) (fun _ => ?_) | refine Wh (fun _ => ?_) (fun _ => ?_) | refine Wi ?_ | refine Wj ?_ | refine Wk (fun _ => ?_) (fun _ => ?_) | refine Wl (fun _ => ?_) | refine Wm (by assumption) (by omega) ?_ | refine Wn (by omega) (by omega) (fun _ _ _ => ?_) | refine Wo (by omega) (by omega) ?_ | refine Wp (by omega) (by omega) (by omega) ?_ | refine Wq (by omega) (by omega) ?_ | refine Wr (by decide) (by omega) (by omega) ?_ | refine Ws (by decide) ?_ | refine Wx (fun _ => ?_) ?_ | refine Wy (fun _ => ?_) ?_ | refine Wz (fun _ => ?_) | refine WA (fun _ => ?_) | refine WB (by assumption) (by omega) ?_ | refine WC (by omega) (by omega) (fun _ _ => ?_) | refine WD (by omega) (by omega) (fun _ _ => ?_) | refine WE (by omega) (by omega) (by omega) ?_)
    | refine contains_c (by decide) ?_
    | with_reducible refine WF ?_)
  all_goals first
    | exact fin_bool h (by simp [*])
    | (rename_i hk _; exact fin_bool h (by simp [hk]))
theorem blanks_c {s : List UInt8} {b p sp : Nat} {ln col gap ends : Int} {toks notes : List (List V)} {w1 w2 : Own} {j : Bool} (hl : s.length ≤ 100000000) (hp : p ≤ s.length) (hb : st.box b = some (lxC s p sp ln col toks notes w1 w2 gap ends j))
    (h : R (.ret (.tup [])) (st.setBox b (lxC s (p + spanR (fun c => classF c == 1) (s.drop p)) sp ln col toks notes w1 w2 gap ends j))) : PC 19 [.ptr b 0] st R := by
  refine pcalls_of_body tys_ok [] Tryz.func19 rfl (by decide) ?_
  repeat' ((conv => whnf); first
    | refine draw_mix [(0, true), (1, true), (2, true), (3, true), (4, true), (5, true), (6, true), (7, true), (8, true), (9, false), (10, true), (11, true), (12, false)] [] (by decide +kernel) ?_
    | (with_reducible first | exact Wa | exact Wb | exact Wc | refine Wd (by kernel_rfl) ?_ | refine We ?_ ?_ ?_ | refine W8 (by decide +kernel) ?_ ?_ ?_ | refine W9 ?_ ?_ ?_ | refine Wt (by first | assumption | omega) ?_ | refine Wu (by first | assumption | omega) ?_ | refine Wv (by omega) ?_ | refine Ww (by omega) ?_ | refine Wf (by decide) (fun _ => ?_) (fun _ => ?_) | refine Wg (fun _ => ?_) (fun _ => ?_) | refine Wh (fun _ => ?_) (fun _ => ?_) | refine Wi ?_ | refine Wj ?_ | refine Wk (fun _ => ?_) (fun _ => ?_) | refine Wl (fun _ => ?_) | refine Wm (by assumption) (by omega) ?_ | refine Wn (by omega) (by omega) (fun _ _ _ => ?_) | refine Wo (by omega) (by omega) ?_ | refine Wp (by omega) (by omega) (by omega) ?_ | refine Wq (by omega) (by omega) ?_ | refine Wr (by decide) (by omega) (by omega) ?_ | refine Ws (by decide) ?_ | refine Wx (fun _ => ?_) ?_ | refine Wy (fun _ => ?_) ?_ | refine Wz (fun _ => ?_) | refine WA (fun _ => ?_) | refine WB (by assumption) (by omega) ?_ | refine WC (by omega) (by omega) (fun _ _ => ?_) | refine WD (by omega) (by omega) (fun _ _ => ?_) | refine WE (by omega) (by omega) (by omega) ?_)
    | refine on_box hb ?_
    | refine run_blank hl hp rfl rfl ?_
    | with_reducible refine WF ?_)
  all_goals exact fin h rfl
end
end Go.Proofs.YtkcapphlemoccaaGreatDoor
set_option linter.unusedVariables false
namespace Go.Aw
open Go
def pieceF (s : List UInt8) (a b : Nat) : List UInt8 := (s.take b).drop a
theorem piece_k {s : List UInt8} {a b : Nat} {K : List UInt8 → Prop} (h1 : a ≤ b) (h2 : b ≤ s.length) (k : K (pieceF s a b)) :
    (0 ≤ (a : Int) ∧ (a : Int) ≤ b ∧ (b : Int) ≤ s.length) ∧ ∀ s', s' = (s.take (b : Int).toNat).drop (a : Int).toNat → K s' :=
  ⟨⟨by omega, by omega, by omega⟩, fun s' e => by
    rw [show (b : Int).toNat = b by omega, show (a : Int).toNat = a by omega] at e
    subst e; exact k⟩
end Go.Aw
namespace Go.Proofs.YtkcapphlemoccaaGreatDoor
open Go Go.Aw
section
variable {st : St} {R : Res → St → Prop}
theorem to_c {s : List UInt8} {b p sp q : Nat} {ln col gap ends : Int} {toks notes : List (List V)} {w1 w2 : Own} {j : Bool} (hl : s.length ≤ 100000000) (hsp : sp ≤ q) (hq : q ≤ s.length) (hln : 1 ≤ ln ∧ ln ≤ 1000000000) (hcol : 1 ≤ col ∧ col ≤ 2147483648)
    (hw : 1 ≤ (walkP (pieceF s sp q) (pieceF s sp q).length (1, 1)).1 ∧ (walkP (pieceF s sp q) (pieceF s sp q).length (1, 1)).1 ≤ 1000000000)
    (hb : st.box b = some (lxC s p sp ln col toks notes w1 w2 gap ends j))
    (h : R (.ret (.tup [.int .i64 (ln + (walkP (pieceF s sp q) (pieceF s sp q).length (1, 1)).1 - 1), .int .i64 (walkP (pieceF s sp q) (pieceF s sp q).length (1, col)).2]))
      (st.setBox b (lxC s p q (ln + (walkP (pieceF s sp q) (pieceF s sp q).length (1, 1)).1 - 1) (walkP (pieceF s sp q) (pieceF s sp q).length (1, col)).2 toks notes w1 w2 gap ends j))) : PC 39 [.ptr b 0, .int .i64 q] st R := by
  have hpl : (pieceF s sp q).length ≤ 100000000 := by unfold pieceF; rw [List.length_drop, List.length_take]; omega
  have b2 : ∀ cs, (st.setBox b cs).box b = some cs := fun cs => St.box_at _ _ _
  refine pcalls_of_body tys_ok [] Tryz.func39 rfl (by decide) ?_
  repeat' ((conv => whnf); first
    | (with_reducible first | exact Wa | exact Wb | exact Wc | refine Wd (by kernel_rfl) ?_ | refine We ?_ ?_ ?_ | refine W8 (by decide +kernel) ?_ ?_ ?_ | refine W9 ?_ ?_ ?_ | refine Wt (by first | assumption | omega) ?_ | refine Wu (by first | assumption | omega) ?_ | refine Wv (by omega) ?_ | refine Ww (by omega) ?_ | refine Wf (by decide) (fun _ => ?_) (fun _ => ?_) | refine Wg (fun _ => ?_) (fun _ => ?_) | refine Wh (fun _ => ?_) (fun _ => ?_) | refine Wi ?_ | refine Wj ?_ | refine Wk (fun _ => ?_) (fun _ => ?_) | refine Wl (fun _ => ?_) | refine Wm (by assumption) (by omega) ?_ | refine Wn (by omega) (by omega) (fun _ _ _ => ?_) | refine Wo (by omega) (by omega) ?_ | refine Wp (by omega) (by omega) (by omega) ?_ | refine Wq (by omega) (by omega) ?_ | refine Wr (by decide) (by omega) (by omega) ?_ | refine Ws (by decide) ?_ | refine Wx (fun _ => ?_) ?_ | refine Wy (fun _ => ?_) ?_ | refine Wz (fun _ => ?_) | refine WA (fun _ => ?_) | refine WB (by assumption) (by omega) ?_ | refine WC (by omega) (by omega) (fun _ _ => ?_) | refine WD (by omega) (by omega) (fun _ _ => ?_) | refine WE (by omega) (by omega) (by omega) ?_)
    | refine piece_k hsp hq ?_
    | refine (fun (_ : (pieceF s sp q).length < lim) => ?_)
    | refine of_c hpl (Nat.le_refl _) ?_
    | refine width_c hpl hcol.1 hcol.2 ?_
    | refine on_box hb ?_
    | refine on_box (b2 _) ?_
    | with_reducible refine WF ?_)
  all_goals exact fin h rfl
end
end Go.Proofs.YtkcapphlemoccaaGreatDoor
set_option linter.unusedVariables false
namespace Go.Aw
open Go
def placeF (s : List UInt8) (a b : Nat) (p : Int × Int) : Int × Int := walkP (pieceF s a b) (pieceF s a b).length p
theorem piece_len {s : List UInt8} {a b : Nat} (h1 : a ≤ b) (h2 : b ≤ s.length) : (pieceF s a b).length = b - a := by
  unfold pieceF; rw [List.length_drop, List.length_take]; omega
theorem place_b {s : List UInt8} {a b : Nat} {p : Int × Int} (h1 : a ≤ b) (h2 : b ≤ s.length) (h : 1 ≤ p.2) : p.1 ≤ (placeF s a b p).1 ∧ (placeF s a b p).1 ≤ p.1 + (b - a : Nat) ∧ 1 ≤ (placeF s a b p).2 ∧ (placeF s a b p).2 ≤ p.2 + 8 * (b - a : Nat) := by
  have := walk_b _ (pieceF s a b) (pieceF s a b).length p (Nat.le_refl _) h
  rw [piece_len h1 h2] at this
  unfold placeF
  rw [piece_len h1 h2]
  omega
end Go.Aw
namespace Go.Proofs.YtkcapphlemoccaaGreatDoor
open Go Go.Aw
section
variable {st : St} {R : Res → St → Prop}
theorem to_k {s : List UInt8} {b p sp q : Nat} {ln col gap ends : Int} {toks notes : List (List V)} {w1 w2 : Own} {j : Bool} (hl : s.length ≤ 100000000) (hsp : sp ≤ q) (hq : q ≤ s.length) (hln : 1 ≤ ln ∧ ln ≤ 1000000000) (hcol : 1 ≤ col ∧ col ≤ 2147483648)
    (hb : st.box b = some (lxC s p sp ln col toks notes w1 w2 gap ends j))
    (h : R (.ret (.tup [.int .i64 (placeF s sp q (ln, col)).1, .int .i64 (placeF s sp q (ln, col)).2]))
      (st.setBox b (lxC s p q (placeF s sp q (ln, col)).1 (placeF s sp q (ln, col)).2 toks notes w1 w2 gap ends j))) : PC 39 [.ptr b 0, .int .i64 q] st R := by
  have hlen := piece_len hsp hq
  have h1 := walk_b _ (pieceF s sp q) (pieceF s sp q).length (1, 1) (Nat.le_refl _) (by decide)
  have h2 := walk_line _ (pieceF s sp q) (pieceF s sp q).length 1 1 col ln (Nat.le_refl _)
  have h3 := walk_col _ (pieceF s sp q) (pieceF s sp q).length 1 col ln (Nat.le_refl _)
  have e1 : ln + (walkP (pieceF s sp q) (pieceF s sp q).length (1, 1)).1 - 1 = (placeF s sp q (ln, col)).1 := by unfold placeF; omega
  have e2 : (walkP (pieceF s sp q) (pieceF s sp q).length (1, col)).2 = (placeF s sp q (ln, col)).2 := h3
  refine to_c hl hsp hq hln hcol ⟨by dsimp only at h1; omega, by dsimp only at h1; omega⟩ hb ?_
  rw [e1, e2]
  exact h
end
end Go.Proofs.YtkcapphlemoccaaGreatDoor
set_option linter.unusedVariables false
set_option linter.unusedSimpArgs false
namespace Go.Aw
open Go
theorem walk_add {l : List UInt8} {a : Nat} (h : Cut l a) (k : Nat) (p : Int × Int) : walkP l (a + k) p = walkP (l.drop a) k (walkP l a p) := by
  induction h generalizing p with
  | zero l => rw [walkP_zero, Nat.zero_add, List.drop_zero]
  | @step l j hne h ih =>
    rw [walkP_go hne (by omega), walkP_go (k := stepN l + j) hne (by omega), show stepN l + j + k - stepN l = j + k by omega, show stepN l + j - stepN l = j by omega, ih, List.drop_drop]
theorem hdF_take {l : List UInt8} {m : Nat} (h : 0 < m) : hdF (l.take m) = hdF l := by
  cases l with
  | nil => rw [List.take_nil]
  | cons a r =>
    obtain ⟨m, rfl⟩ : ∃ k, m = k + 1 := ⟨m - 1, by omega⟩
    rfl
theorem hdF_take1 {l : List UInt8} {m : Nat} : hdF ((l.take m).drop 1) = if 1 < m then hdF (l.drop 1) else -1 := by
  rw [List.drop_take]
  by_cases h : 1 < m
  · rw [if_pos h, hdF_take (by omega)]
  · rw [if_neg h, show m - 1 = 0 by omega, List.take_zero]; rfl
theorem nlF_take {l : List UInt8} {m : Nat} (h : 0 < m) (h2 : nlF l ≤ m) : nlF (l.take m) = nlF l := by
  rcases nlF_cases l with ⟨e, h1⟩ | ⟨e, h1, h3⟩ | ⟨e, h1, h3⟩
  · rw [e]; unfold nlF; rw [hdF_take h, if_neg (fun x => h1 (.inl x.1)), if_neg h1]
  · rw [e]; unfold nlF; rw [hdF_take h, hdF_take1, if_neg, if_pos h1]
    rintro ⟨x, y⟩
    split at y
    · exact h3 ⟨x, y⟩
    · exact absurd y (by decide)
  · rw [e]; unfold nlF; rw [hdF_take h, hdF_take1, if_pos (show 1 < m by omega), if_pos ⟨h1, h3⟩]
theorem walk_take {l : List UInt8} {k : Nat} (h : Cut l k) (hv : Vd l) (p : Int × Int) : walkP (l.take k) k p = walkP l k p := by
  induction h generalizing p with
  | zero l => rw [walkP_zero, walkP_zero]
  | @step l j hne h ih =>
    have h1 := stepN_le hne
    have hn : nlF (l.take (stepN l + j)) = nlF l := nlF_take (by omega) (by
      by_cases hc : 0 < nlF l
      · have e : stepN l = nlF l := if_pos hc
        omega
      · omega)
    have hr := hv.rune hne
    have es : stepN (l.take (stepN l + j)) = stepN l := by
      by_cases hc : 0 < nlF l
      · have e3 : stepN (l.take (stepN l + j)) = nlF (l.take (stepN l + j)) := if_pos (by rw [hn]; exact hc)
        rw [e3, hn]; exact (if_pos hc).symm
      · have e1 : stepN l = (decR l).2 := if_neg hc
        have e2 : decR (l.take (stepN l + j)) = decR l := by
          have := decR_pre hne hr.1 ((l.take (stepN l + j)).drop (decR l).2)
          rwa [show l.take (decR l).2 = (l.take (stepN l + j)).take (decR l).2 by rw [List.take_take, Nat.min_eq_left (by omega)], List.take_append_drop] at this
        have e3 : stepN (l.take (stepN l + j)) = (decR (l.take (stepN l + j))).2 := if_neg (by rw [hn]; exact hc)
        rw [e3, e2]; exact e1.symm
    have hne' : l.take (stepN l + j) ≠ [] := fun e => by
      have := congrArg List.length e
      rw [List.length_take, List.length_nil] at this; omega
    have hv' : Vd (l.drop (stepN l)) := (Cut.step hne (.zero (l.drop (stepN l)))).bd.vd hv
    rw [walkP_go hne' (by omega), walkP_go hne (by omega), es, show stepN l + j - stepN l = j by omega, List.drop_take, show stepN l + j - stepN l = j by omega, ih hv']
    congr 1
    unfold stepL stepC
    rw [hn, hdF_take (by omega)]
def atP (s : List UInt8) (p : Nat) : Int × Int := walkP s p (1, 1)
theorem place_at {s : List UInt8} {a b : Nat} (hv : Vd s) (ha : Cut s a) (hb : Cut (s.drop a) (b - a)) (h : a ≤ b) (hl : b ≤ s.length) : placeF s a b (atP s a) = atP s b := by
  have e : pieceF s a b = (s.drop a).take (b - a) := by unfold pieceF; rw [List.drop_take]
  have hp := piece_len h hl
  unfold placeF atP
  rw [hp, e, walk_take hb (ha.bd.vd hv), ← walk_add ha, show a + (b - a) = b by omega]
end Go.Aw
set_option linter.unusedVariables false
set_option linter.unusedSimpArgs false
namespace Go.Aw
open Go
def tr (l : List UInt8) (m : Nat) (r : List UInt8) : List UInt8 := l.take m ++ r
def Brk (r : List UInt8) : Prop := hdF r = -1 ∨ hdF r = 32 ∨ hdF r = 10
theorem hdF_nil {r : List UInt8} (h : hdF r = -1) : r = [] := by
  cases r with
  | nil => rfl
  | cons a r => have h : ((a.toNat : Nat) : Int) = -1 := h; omega
theorem tr_zero {l r : List UInt8} : tr l 0 r = r := by unfold tr; rw [List.take_zero]; rfl
theorem tr_drop {l r : List UInt8} {m j : Nat} (h : j ≤ m) (hm : m ≤ l.length) : (tr l m r).drop j = tr (l.drop j) (m - j) r := by
  unfold tr; rw [List.drop_append_of_le_length (by rw [List.length_take]; omega), List.drop_take]
theorem tr_hd {l r : List UInt8} {m : Nat} (h : 0 < m) (hm : m ≤ l.length) : hdF (tr l m r) = hdF l := by
  cases l with
  | nil => simp only [List.length_nil] at hm; omega
  | cons a l =>
    obtain ⟨m, rfl⟩ : ∃ k, m = k + 1 := ⟨m - 1, by omega⟩
    rfl
theorem tr_hd_at {l r : List UInt8} {m j : Nat} (h : j < m) (hm : m ≤ l.length) : hdF ((tr l m r).drop j) = hdF (l.drop j) := by
  rw [tr_drop (by omega) hm, tr_hd (by omega) (by rw [List.length_drop]; omega)]
theorem tr_hd_end {l r : List UInt8} {m : Nat} (hm : m ≤ l.length) : hdF ((tr l m r).drop m) = hdF r := by
  rw [tr_drop (Nat.le_refl _) hm, Nat.sub_self, tr_zero]
theorem tr_take {l r : List UInt8} {m n : Nat} (h : n ≤ m) (hm : m ≤ l.length) : (tr l m r).take n = l.take n := by
  unfold tr
  rw [List.take_append_of_le_length (by rw [List.length_take]; omega), List.take_take, Nat.min_eq_left h]
theorem tr_len {l r : List UInt8} {m : Nat} (hm : m ≤ l.length) : (tr l m r).length = m + r.length := by
  unfold tr; rw [List.length_append, List.length_take, Nat.min_eq_left hm]
theorem row_brk {base : Int} {r : List UInt8} (hr : Brk r) : rowN base r = 0 := by
  cases r with
  | nil => rfl
  | cons a r =>
    unfold rowN
    rw [if_pos]
    by_cases h : digitF ((a.toNat : Nat) : Int) base < 0
    · exact h
    · have := digit_lo h
      unfold Brk at hr
      simp only [hdF] at hr
      omega
theorem row_tr {base : Int} {l r : List UInt8} {m : Nat} (hr : Brk r) (hm : m ≤ l.length) (h : rowN base l ≤ m) : rowN base (tr l m r) = rowN base l := by
  induction l generalizing m with
  | nil =>
    have : m = 0 := by simpa using hm
    subst this
    rw [tr_zero, row_brk hr]; rfl
  | cons a l ih =>
    cases m with
    | zero => rw [tr_zero, row_brk hr]; omega
    | succ m =>
      show rowN base (a :: tr l m r) = _
      unfold rowN at h ⊢
      split
      · rfl
      · rename_i hd
        rw [if_neg hd] at h
        rw [ih (by simpa using hm) (by omega)]
theorem val_tr {base v : Int} {l r : List UInt8} {m : Nat} (hr : Brk r) (hm : m ≤ l.length) (h : rowN base l ≤ m) : valF base v (tr l m r) = valF base v l := by
  induction l generalizing m v with
  | nil =>
    have : m = 0 := by simpa using hm
    subst this
    rw [tr_zero]
    cases r with
    | nil => rfl
    | cons a r =>
      have e := row_brk (base := base) hr
      unfold rowN at e
      unfold valF
      split at e
      · rename_i h; rw [if_pos h]
      · omega
  | cons a l ih =>
    cases m with
    | zero =>
      rw [tr_zero]
      unfold rowN at h
      split at h
      · rename_i hd
        unfold valF
        rw [if_pos hd]
        cases r with
        | nil => rfl
        | cons b r =>
          have e := row_brk (base := base) hr
          unfold rowN at e
          split at e
          · rename_i h; dsimp only; rw [if_pos h]
          · omega
      · omega
    | succ m =>
      show valF base v (a :: tr l m r) = _
      unfold rowN at h
      unfold valF
      split
      · rfl
      · rename_i hd
        rw [if_neg hd] at h
        rw [ih (by simpa using hm) (by omega)]
theorem frac_brk {r : List UInt8} (hr : Brk r) : fracN r = 0 := by
  unfold Brk at hr
  unfold fracN; rw [if_neg (fun e => by omega)]
theorem frac_tr {l r : List UInt8} {m : Nat} (hr : Brk r) (hm : m ≤ l.length) (h : fracN l ≤ m) : fracN (tr l m r) = fracN l := by
  cases m with
  | zero => rw [tr_zero, frac_brk hr]; omega
  | succ m =>
    have e1 := tr_hd (l := l) (r := r) (m := m + 1) (by omega) hm
    have e2 := tr_drop (l := l) (r := r) (m := m + 1) (j := 1) (by omega) hm
    rw [Nat.add_sub_cancel] at e2
    unfold fracN at h ⊢
    rw [e1, e2]
    by_cases hd : hdF l = 46
    · by_cases hz : rowN 10 (l.drop 1) = 0
      · rw [row_tr hr (by rw [List.length_drop]; omega) (by omega)]
      · rw [if_pos ⟨hd, hz⟩] at h
        rw [row_tr hr (by rw [List.length_drop]; omega) (by omega)]
    · rw [if_neg (fun e => hd e.1), if_neg (fun e => hd e.1)]
theorem sign_brk {r : List UInt8} (hr : Brk r) : signN r = 0 := by
  unfold Brk at hr
  unfold signN; rw [if_neg (fun e => by omega)]
theorem exp_brk {r : List UInt8} (hr : Brk r) : expN r = 0 := by
  unfold Brk at hr
  unfold expN; rw [if_neg (fun e => by omega)]
theorem exp_tr {l r : List UInt8} {m : Nat} (hr : Brk r) (hm : m ≤ l.length) (h : expN l ≤ m) : expN (tr l m r) = expN l := by
  cases m with
  | zero => rw [tr_zero, exp_brk hr]; omega
  | succ m =>
    have e1 := tr_hd (l := l) (r := r) (m := m + 1) (by omega) hm
    have e2 := tr_drop (l := l) (r := r) (m := m + 1) (j := 1) (by omega) hm
    rw [Nat.add_sub_cancel] at e2
    by_cases hd : hdF l = 101 ∨ hdF l = 69
    · cases m with
      | zero =>
        rw [tr_zero] at e2
        have z : expN l = 0 := by
          unfold expN at h ⊢
          by_cases hz : rowN 10 (l.drop (1 + signN (l.drop 1))) = 0
          · rw [if_neg (fun e => e.2 hz)]
          · rw [if_pos ⟨hd, hz⟩] at h; omega
        rw [z]
        unfold expN
        rw [if_neg]
        rintro ⟨_, h2⟩
        rw [e2, sign_brk hr, e2] at h2
        exact h2 (row_brk hr)
      | succ m =>
        have e3 : signN ((tr l (m + 1 + 1) r).drop 1) = signN (l.drop 1) := by
          unfold signN
          rw [tr_hd_at (by omega) hm]
        have hs : signN (l.drop 1) ≤ 1 := by unfold signN; split <;> omega
        have e4 := tr_drop (l := l) (r := r) (m := m + 1 + 1) (j := 1 + signN (l.drop 1)) (by omega) hm
        unfold expN at h ⊢
        rw [e1, e3, e4]
        by_cases hz : rowN 10 (l.drop (1 + signN (l.drop 1))) = 0
        · rw [row_tr hr (by rw [List.length_drop]; omega) (by omega)]
        · rw [if_pos ⟨hd, hz⟩] at h
          rw [row_tr hr (by rw [List.length_drop]; omega) (by omega)]
    · unfold expN
      rw [e1, if_neg (fun e => hd e.1), if_neg (fun e => hd e.1)]
theorem pref_tr {l r : List UInt8} {m : Nat} (hr : Brk r) (h0 : 0 < m) (hm : m ≤ l.length) (h : (prefF l).1 ≠ 10 → 2 + rowN (prefF l).1 (l.drop 2) ≤ m) : prefF (tr l m r) = prefF l := by
  have e1 := tr_hd (l := l) (r := r) h0 hm
  by_cases hd : hdF l = 48
  · by_cases h1 : m = 1
    · subst h1
      have e2 := tr_hd_end (l := l) (r := r) (m := 1) hm
      have z : (prefF l).1 = 10 := by
        by_cases hz : (prefF l).1 = 10
        · exact hz
        · have := h hz; omega
      have zz : prefF l = (10, 0) := by
        unfold prefF at z ⊢
        split
        · rename_i hc; rw [if_pos hc] at z; exact absurd z hc.2.1
        · rfl
      rw [zz]
      unfold prefF
      rw [if_neg]
      rintro ⟨_, h2, _⟩
      unfold Brk at hr
      unfold baseF at h2
      rw [e2, if_neg (by omega), if_neg (by omega)] at h2
      exact h2 rfl
    · have e2 : baseF (tr l m r) = baseF l := by
        unfold baseF
        rw [tr_hd_at (by omega) hm]
      have e3 := tr_drop (l := l) (r := r) (m := m) (j := 2) (by omega) hm
      by_cases hb : baseF l = 10
      · unfold prefF
        rw [e2, if_neg (fun e => e.2.1 hb), if_neg (fun e => e.2.1 hb)]
      · by_cases hz : rowN (baseF l) (l.drop 2) = 0
        · unfold prefF
          rw [e1, e2, e3, row_tr hr (by rw [List.length_drop]; omega) (by omega)]
        · have hp : prefF l = (baseF l, 2) := by unfold prefF; rw [if_pos ⟨hd, hb, hz⟩]
          rw [hp] at h
          have := h hb
          unfold prefF
          rw [e1, e2, e3, row_tr hr (by rw [List.length_drop]; omega) (by dsimp only at this; omega)]
  · unfold prefF
    rw [e1, if_neg (fun e => hd e.1), if_neg (fun e => hd e.1)]
theorem num_tr {l r : List UInt8} {m : Nat} (hr : Brk r) (h0 : 0 < m) (hm : m ≤ l.length) (h : (numF l).2 ≤ m) : numF (tr l m r) = numF l := by
  have e1 : prefF (tr l m r) = prefF l := pref_tr hr h0 hm (fun hp => by
    unfold numF at h
    rw [if_pos hp] at h; exact h)
  unfold numF at h ⊢
  rw [e1]
  by_cases hp : (prefF l).1 ≠ 10
  · rw [if_pos hp] at h
    dsimp only at h
    rw [if_pos hp, if_pos hp, tr_drop (by omega) hm, row_tr hr (by rw [List.length_drop]; omega) (by omega)]
  · rw [if_neg hp] at h
    rw [if_neg hp, if_neg hp]
    by_cases hz : rowN 10 l = 0
    · rw [row_tr hr hm (by omega), if_pos hz, if_pos hz]
    · rw [if_neg hz] at h
      dsimp only at h
      have r1 := row_tr (base := 10) hr hm (by omega : rowN 10 l ≤ m)
      have d1 := tr_drop (l := l) (r := r) (m := m) (j := rowN 10 l) (by omega) hm
      have f1 : fracN ((tr l m r).drop (rowN 10 l)) = fracN (l.drop (rowN 10 l)) := by
        rw [d1]; exact frac_tr hr (by rw [List.length_drop]; omega) (by omega)
      have x1 : expN ((tr l m r).drop (rowN 10 l + fracN (l.drop (rowN 10 l)))) = expN (l.drop (rowN 10 l + fracN (l.drop (rowN 10 l)))) := by
        rw [tr_drop (by omega) hm]; exact exp_tr hr (by rw [List.length_drop]; omega) (by omega)
      rw [r1, if_neg hz, if_neg hz, f1, x1]
theorem dec_tr {l r : List UInt8} {m : Nat} (hv : Vd l) (h0 : 0 < m) (hm : m ≤ l.length) (hb : Bd l m) : decR (tr l m r) = decR l ∧ (decR l).2 ≤ m := by
  have hne : l ≠ [] := fun e => by rw [e] at hm; simp only [List.length_nil] at hm; omega
  have hd : (decR l).2 ≤ m := by
    cases hb with
    | zero => omega
    | step _ _ => omega
  have := decR_pre hne (hv.rune hne).1 ((l.take m).drop (decR l).2 ++ r)
  rw [← List.append_assoc] at this
  rw [show l.take (decR l).2 = (l.take m).take (decR l).2 by rw [List.take_take, Nat.min_eq_left hd], List.take_append_drop] at this
  exact ⟨this, hd⟩
theorem span_tr {p : Nat × Nat → Bool} {l r : List UInt8} {m : Nat} (hv : Vd l) (hb : Bd l m) (hm : m ≤ l.length) (hr : spanD p r = 0) (h : spanD p l ≤ m) : spanD p (tr l m r) = spanD p l := by
  induction hb with
  | zero l => rw [tr_zero, hr]; omega
  | @step l k hne hb ih =>
    have hp := decR_pos l
    have hd := dec_tr (r := r) hv (by omega) hm (.step hne hb)
    have hne' : tr l ((decR l).2 + k) r ≠ [] := fun e => by
      have := congrArg List.length e
      rw [tr_len hm] at this; simp only [List.length_nil] at this; omega
    cases hc : p (decR l) with
    | false => rw [spanD_no hc, spanD_no (by rw [hd.1]; exact hc)]
    | true =>
      rw [spanD_yes hne hc] at h ⊢
      rw [spanD_yes hne' (by rw [hd.1]; exact hc), hd.1, tr_drop (by omega) hm, show (decR l).2 + k - (decR l).2 = k by omega, ih (hv.rune hne).2 (by rw [List.length_drop]; omega) (by omega)]
theorem brk_dec {r : List UInt8} (hr : Brk r) : r = [] ∨ (r ≠ [] ∧ (((decR r).1 : Nat) : Int) = 32) ∨ (r ≠ [] ∧ (((decR r).1 : Nat) : Int) = 10) := by
  rcases hr with h | h | h
  · exact .inl (hdF_nil h)
  · exact .inr (.inl ⟨fun e => by rw [e] at h; exact absurd h (by decide), by rw [(decR_hd (by omega) (by omega)).2, h]⟩)
  · exact .inr (.inr ⟨fun e => by rw [e] at h; exact absurd h (by decide), by rw [(decR_hd (by omega) (by omega)).2, h]⟩)
theorem span_brk {p : Int → Bool} {r : List UInt8} (hr : Brk r) (h1 : p 32 = false) (h2 : p 10 = false) : spanR p r = 0 := by
  rcases brk_dec hr with rfl | ⟨_, h⟩ | ⟨_, h⟩
  · exact spanR_nil p
  · exact spanR_no (by rw [h]; exact h1)
  · exact spanR_no (by rw [h]; exact h2)
theorem first_tr {l r : List UInt8} {m : Nat} (hv : Vd l) (hb : Bd l m) (h0 : 0 < m) (hm : m ≤ l.length) : firstF (tr l m r) = firstF l := by
  have hd := dec_tr (r := r) hv h0 hm hb
  cases l with
  | nil => simp only [List.length_nil] at hm; omega
  | cons a l =>
    obtain ⟨m, rfl⟩ : ∃ k, m = k + 1 := ⟨m - 1, by omega⟩
    have e : tr (a :: l) (m + 1) r = a :: tr l m r := rfl
    rw [e] at hd ⊢
    show classF ((decR (a :: tr l m r)).1 : Nat) = classF ((decR (a :: l)).1 : Nat)
    rw [hd.1]
theorem plain_tr {l r : List UInt8} {m : Nat} (hr : Brk r) (hv : Vd l) (hb : Bd l m) (h0 : 0 < m) (hm : m ≤ l.length) (h : (plainF l).2 ≤ m) : plainF (tr l m r) = plainF l := by
  have hs : spanR (fun c => classF c == 5) r = 0 := span_brk hr (by decide) (by decide)
  have hn : spanR inName r = 0 := span_brk hr (by decide) (by decide)
  unfold plainF at h ⊢
  rw [first_tr hv hb h0 hm]
  split
  · rfl
  · rename_i h6
    rw [if_neg h6] at h
    split
    · rename_i h5
      rw [if_pos h5] at h
      have e : spanR (fun c => classF c == 5) (tr l m r) = spanR (fun c => classF c == 5) l := span_tr hv hb hm hs h
      rw [e, tr_take h hm]
    · rename_i h5
      rw [if_neg h5] at h
      split
      · rename_i h3
        rw [if_pos h3] at h
        have e : nameN (tr l m r) = nameN l := span_tr hv hb hm hn h
        rw [e]
      · rename_i h3
        rw [if_neg h3] at h
        split
        · rename_i h2
          rw [if_pos h2] at h
          have e : nameN (tr l m r) = nameN l := span_tr hv hb hm hn h
          rw [e, tr_take h hm]
        · rfl
theorem Bd.sub {l : List UInt8} {i j : Nat} (h : Bd l i) (k : Bd l j) (hij : i ≤ j) : Bd (l.drop i) (j - i) := by
  induction h generalizing j with
  | zero l => exact k
  | @step l i hne h ih =>
    cases k with
    | zero => have := decR_pos l; omega
    | @step _ j' _ k =>
      rw [show (decR l).2 + j' - ((decR l).2 + i) = j' - i by omega, ← List.drop_drop]
      exact ih k (by omega)
theorem scanG_ge (s : List UInt8) (n : Nat) (k : Int) : n ≤ (scanG s n k).2 := by
  fun_induction scanG s n k with
  | case1 n k hn hc ih => omega
  | case2 n k hn hc => exact Nat.le_refl _
  | case3 n k hn => exact Nat.le_refl _
theorem plain_pos {l : List UInt8} (h : (plainF l).1 ≠ 0) : 0 < (plainF l).2 := by
  by_cases h0 : 0 < (plainF l).2
  · exact h0
  · exfalso
    cases l with
    | nil => exact h rfl
    | cons a r =>
      have hne : a :: r ≠ [] := by simp
      have hp := decR_pos (a :: r)
      apply h
      unfold plainF at h0 ⊢
      split
      · rename_i h6; rw [if_pos h6] at h0; simp only at h0; omega
      · rename_i h6
        rw [if_neg h6] at h0
        have key : ∀ p : Int → Bool, p (((decR (a :: r)).1 : Nat) : Int) = true → 0 < spanR p (a :: r) := fun p hp' => by
          rw [spanR_yes hne hp']; omega
        split
        · rename_i h5
          rw [if_pos h5] at h0
          have := key (fun c => classF c == 5) (beq_iff_eq.2 h5)
          simp only at h0; omega
        · rename_i h5
          rw [if_neg h5] at h0
          split
          · rename_i h3
            rw [if_pos h3] at h0
            have h3' : classF (((decR (a :: r)).1 : Nat) : Int) = 3 := h3
            have := key inName (by unfold inName; rw [h3']; rfl)
            unfold nameN at h0; simp only at h0; omega
          · rename_i h3
            rw [if_neg h3] at h0
            split
            · rename_i h2
              rw [if_pos h2] at h0
              have h2' : classF (((decR (a :: r)).1 : Nat) : Int) = 2 := h2
              have := key inName (by unfold inName; rw [h2']; rfl)
              unfold nameN at h0; simp only at h0; omega
            · rfl
theorem qual_pos {k : Int} (h : qualF k ≠ 0) : k ≠ 0 := fun e => by subst e; exact h (by decide)
theorem scanG_tr {l r : List UInt8} {n m : Nat} {k : Int} (hr : Brk r) (hv : Vd l) (hb : Bd l m) (hm : m ≤ l.length) (hc : Cut l n) (h : (scanG l n k).2 ≤ m) (hM : m = (scanG l n k).2 ∨ m = l.length) : scanG (tr l m r) n k = scanG l n k := by
  fun_induction scanG l n k with
  | case1 n k hn hx ih =>
    have hge := scanG_ge l (n + 1 + (plainF (l.drop (n + 1))).2) (qualF (plainF (l.drop (n + 1))).1)
    have hpp := plain_pos (qual_pos hx.2.2)
    have hd : hdF (l.drop n) = 46 := hx.2.1
    have c1 : Cut l (n + 1) := Cut.add hc (Cut.one (by omega) (by omega) (by omega))
    have hv1 := c1.bd.vd hv
    have hb1 := c1.bd.sub hb (by omega)
    have e0 := tr_drop (l := l) (r := r) (m := m) (j := n + 1) (by omega) hm
    have e1 : plainF ((tr l m r).drop (n + 1)) = plainF (l.drop (n + 1)) := by
      rw [e0]; exact plain_tr hr hv1 hb1 (by omega) (by rw [List.length_drop]; omega) (by omega)
    rw [scanG_go (s := tr l m r) (by rw [tr_len hm]; omega) ⟨hx.1, by rw [tr_hd_at (by omega) hm]; exact hd, by rw [e1]; exact hx.2.2⟩, e1]
    exact ih (Cut.add c1 (Cut.plain _)) h hM
  | case2 n k hn hx =>
    refine scanG_no ?_
    rintro ⟨y1, y2, y3, y4⟩
    have h : n ≤ m := h
    rcases hM with hM | hM
    · have hM : m = n := hM
      subst hM
      rw [tr_hd_end hm] at y3
      unfold Brk at hr; omega
    · subst hM
      rw [tr_hd_at hn hm] at y3
      refine hx ⟨y2, y3, ?_⟩
      have c1 : Cut l (n + 1) := Cut.add hc (Cut.one (by omega) (by omega) (by omega))
      have hv1 := c1.bd.vd hv
      have hb1 := c1.bd.sub hb (by omega)
      have e0 := tr_drop (l := l) (r := r) (m := l.length) (j := n + 1) (by omega) hm
      rw [e0] at y4
      by_cases hz : n + 1 < l.length
      · rwa [plain_tr hr hv1 hb1 (by omega) (by rw [List.length_drop]; omega) (by have := plainF_le (l.drop (n + 1)); rw [List.length_drop] at this; exact this)] at y4
      · rw [show l.length - (n + 1) = 0 by omega, tr_zero] at y4
        exfalso
        have e5 : (plainF r).1 = 0 := by
          rcases brk_dec hr with rfl | ⟨hne, h⟩ | ⟨hne, h⟩
          · rfl
          all_goals
            cases r with
            | nil => exact absurd rfl hne
            | cons a r =>
              have ef : firstF (a :: r) = 1 := by
                show classF (((decR (a :: r)).1 : Nat) : Int) = 1
                rw [h]; decide
              unfold plainF
              rw [ef]; rfl
        rw [e5] at y4
        exact y4 (by decide)
  | case3 n k hn =>
    refine scanG_no ?_
    rintro ⟨y1, y2, y3, y4⟩
    have h : n ≤ m := h
    have e : n = m := by omega
    subst e
    rw [tr_hd_end hm] at y3
    unfold Brk at hr; omega
theorem word_tr {l r : List UInt8} {m : Nat} (hr : Brk r) (hv : Vd l) (hb : Bd l m) (h0 : 0 < m) (hm : m ≤ l.length) (h : (wordF l).2 ≤ m) (hM : m = (wordF l).2 ∨ m = l.length) : wordF (tr l m r) = wordF l := by
  have hge := scanG_ge l (plainF l).2 (plainF l).1
  have e1 : plainF (tr l m r) = plainF l := plain_tr hr hv hb h0 hm (by unfold wordF at h; omega)
  unfold wordF
  rw [e1]
  exact scanG_tr hr hv hb hm (Cut.plain l) h hM
end Go.Aw
set_option linter.unusedVariables false
namespace Go.Aw
open Go
def tokV (k : Int) (t : List UInt8) (p : Int × Int) : List V := [.int .i64 k, .str t, .int .i64 p.1, .int .i64 p.2]
theorem rows_tok {st0 st : St} {w1 w2 : Own} {n2 : Nat} {o : List (List V)} {k a b : Int} {t : List UInt8} {K : V → St → Prop} (h : Rows2 st0 st w1 (o.length * 4) w2 n2) (hl : o.length ≤ 1000000000)
    (kk : ∀ w1' st', Rows2 st0 st' w1' ((o.length + 1) * 4) w2 n2 → st'.box = st.box → K (.slice 4 (o ++ [tokV k t (a, b)]) w1') st') : appendTo 4 40 o w1 [[.int .i64 k, .str t, .int .i64 a, .int .i64 b]] st K :=
  rows2_app h rfl (by rw [List.length_singleton]; omega) (by rw [List.length_singleton]; unfold lim; omega) rfl (by simp) (fun w1' st' hr hb => kk w1' st' hr hb)
end Go.Aw
namespace Go.Proofs.YtkcapphlemoccaaGreatDoor
open Go Go.Aw
section
variable {st : St} {R : Res → St → Prop}
attribute [local irreducible] Go.Aw.appendTo
theorem token_c {st0 : St} {s : List UInt8} {b p sp q n2 : Nat} {k e0 ln col gap ends : Int} {toks notes : List (List V)} {w1 w2 : Own} {j : Bool} (hl : s.length ≤ 100000000) (hsp : sp ≤ p) (hpq : p ≤ q) (hq : q ≤ s.length) (hln : 1 ≤ ln ∧ ln ≤ 800000000) (hcol : 1 ≤ col ∧ col ≤ 1000000000)
    (hg : 0 ≤ gap ∧ gap ≤ 1000000000) (ht : toks.length ≤ 1000000000) (hb0 : st0.box b = none) (hR : Rows2 st0 st w1 (toks.length * 4) w2 n2) (hb : st.box b = some (lxC s p sp ln col toks notes w1 w2 gap ends j))
    (h : ∀ w1' st', Rows2 st0 st' w1' ((toks.length + 1) * 4) w2 n2 → st'.box b = some (lxC s q q (placeF s p q (placeF s sp p (ln, col))).1 (placeF s p q (placeF s sp p (ln, col))).2 (toks ++ [tokV k (pieceF s p q) (placeF s sp p (ln, col))]) notes w1' w2
        (if decide (¬ k = 15) || !Lib.contains [123, 125, 59] (pieceF s p q) then gap + 1 else gap) (placeF s p q (placeF s sp p (ln, col))).1 true) → R (.ret (.tup [])) st') : PC 23 [.ptr b 0, .agg [.int .i64 k, .int .i64 q, .int .i64 e0]] st R := by
  have z1 := place_b (s := s) (p := (ln, col)) hsp (by omega) hcol.1
  refine pcalls_of_aw tys_ok [] Tryz.func23 rfl (by decide) rfl ?_
  refine AW_seq2 (aw_of tys_ok ?_)
  repeat' ((conv => whnf); first
    | (with_reducible first | exact Wa | exact Wb | exact Wc | refine Wd (by kernel_rfl) ?_ | refine We ?_ ?_ ?_ | refine W8 (by decide +kernel) ?_ ?_ ?_ | refine W9 ?_ ?_ ?_ | refine Wt (by first | assumption | omega) ?_ | refine Wu (by first | assumption | omega) ?_ | refine Wv (by omega) ?_ | refine Ww (by omega) ?_ | refine Wf (by decide) (fun _ => ?_) (fun _ => ?_) | refine Wg (fun _ => ?_) (fun _ => ?_) | refine Wh (fun _ => ?_) (fun _ => ?_) | refine Wi ?_ | refine Wj ?_ | refine Wk (fun _ => ?_) (fun _ => ?_) | refine Wl (fun _ => ?_) | refine Wm (by assumption) (by omega) ?_ | refine Wn (by omega) (by omega) (fun _ _ _ => ?_) | refine Wo (by omega) (by omega) ?_ | refine Wp (by omega) (by omega) (by omega) ?_ | refine Wq (by omega) (by omega) ?_ | refine Wr (by decide) (by omega) (by omega) ?_ | refine Ws (by decide) ?_ | refine Wx (fun _ => ?_) ?_ | refine Wy (fun _ => ?_) ?_ | refine Wz (fun _ => ?_) | refine WA (fun _ => ?_) | refine WB (by assumption) (by omega) ?_ | refine WC (by omega) (by omega) (fun _ _ => ?_) | refine WD (by omega) (by omega) (fun _ _ => ?_) | refine WE (by omega) (by omega) (by omega) ?_)
    | with_reducible refine WF ?_)
  refine AW_seq2 (aw_of tys_ok ?_)
  repeat' ((conv => whnf); first
    | (with_reducible first | exact Wa | exact Wb | exact Wc | refine Wd (by kernel_rfl) ?_ | refine We ?_ ?_ ?_ | refine W8 (by decide +kernel) ?_ ?_ ?_ | refine W9 ?_ ?_ ?_ | refine Wt (by first | assumption | omega) ?_ | refine Wu (by first | assumption | omega) ?_ | refine Wv (by omega) ?_ | refine Ww (by omega) ?_ | refine Wf (by decide) (fun _ => ?_) (fun _ => ?_) | refine Wg (fun _ => ?_) (fun _ => ?_) | refine Wh (fun _ => ?_) (fun _ => ?_) | refine Wi ?_ | refine Wj ?_ | refine Wk (fun _ => ?_) (fun _ => ?_) | refine Wl (fun _ => ?_) | refine Wm (by assumption) (by omega) ?_ | refine Wn (by omega) (by omega) (fun _ _ _ => ?_) | refine Wo (by omega) (by omega) ?_ | refine Wp (by omega) (by omega) (by omega) ?_ | refine Wq (by omega) (by omega) ?_ | refine Wr (by decide) (by omega) (by omega) ?_ | refine Ws (by decide) ?_ | refine Wx (fun _ => ?_) ?_ | refine Wy (fun _ => ?_) ?_ | refine Wz (fun _ => ?_) | refine WA (fun _ => ?_) | refine WB (by assumption) (by omega) ?_ | refine WC (by omega) (by omega) (fun _ _ => ?_) | refine WD (by omega) (by omega) (fun _ _ => ?_) | refine WE (by omega) (by omega) (by omega) ?_)
    | refine to_k hl hsp (by omega) (by omega) (by omega) hb ?_
    | refine on_box hb ?_
    | with_reducible refine WF ?_)
  generalize placeF s sp p (ln, col) = pl1 at h z1 ⊢
  have z2 := place_b (s := s) (p := pl1) hpq hq z1.2.2.1
  dsimp only at z1 z2
  refine AW_seq2 (aw_of tys_ok ?_)
  repeat' ((conv => whnf); first
    | (with_reducible first | exact Wa | exact Wb | exact Wc | refine Wd (by kernel_rfl) ?_ | refine We ?_ ?_ ?_ | refine W8 (by decide +kernel) ?_ ?_ ?_ | refine W9 ?_ ?_ ?_ | refine Wt (by first | assumption | omega) ?_ | refine Wu (by first | assumption | omega) ?_ | refine Wv (by omega) ?_ | refine Ww (by omega) ?_ | refine Wf (by decide) (fun _ => ?_) (fun _ => ?_) | refine Wg (fun _ => ?_) (fun _ => ?_) | refine Wh (fun _ => ?_) (fun _ => ?_) | refine Wi ?_ | refine Wj ?_ | refine Wk (fun _ => ?_) (fun _ => ?_) | refine Wl (fun _ => ?_) | refine Wm (by assumption) (by omega) ?_ | refine Wn (by omega) (by omega) (fun _ _ _ => ?_) | refine Wo (by omega) (by omega) ?_ | refine Wp (by omega) (by omega) (by omega) ?_ | refine Wq (by omega) (by omega) ?_ | refine Wr (by decide) (by omega) (by omega) ?_ | refine Ws (by decide) ?_ | refine Wx (fun _ => ?_) ?_ | refine Wy (fun _ => ?_) ?_ | refine Wz (fun _ => ?_) | refine WA (fun _ => ?_) | refine WB (by assumption) (by omega) ?_ | refine WC (by omega) (by omega) (fun _ _ => ?_) | refine WD (by omega) (by omega) (fun _ _ => ?_) | refine WE (by omega) (by omega) (by omega) ?_)
    | refine piece_k hpq hq ?_
    | refine on_box (St.box_at _ _ _) ?_
    | with_reducible refine WF ?_)
  refine AW_seq2 (aw_of tys_ok ?_)
  repeat' ((conv => whnf); first
    | refine draw_mix [(0, true), (1, true), (2, true), (3, true), (4, true), (5, true), (6, true), (7, false), (8, true), (9, true), (10, false)] [] (by decide +kernel) ?_
    | (with_reducible first | exact Wa | exact Wb | exact Wc | refine Wd (by kernel_rfl) ?_ | refine We ?_ ?_ ?_ | refine W8 (by decide +kernel) ?_ ?_ ?_ | refine W9 ?_ ?_ ?_ | refine Wt (by first | assumption | omega) ?_ | refine Wu (by first | assumption | omega) ?_ | refine Wv (by omega) ?_ | refine Ww (by omega) ?_ | refine Wf (by decide) (fun _ => ?_) (fun _ => ?_) | refine Wg (fun _ => ?_) (fun _ => ?_) | refine Wh (fun _ => ?_) (fun _ => ?_) | refine Wi ?_ | refine Wj ?_ | refine Wk (fun _ => ?_) (fun _ => ?_) | refine Wl (fun _ => ?_) | refine Wm (by assumption) (by omega) ?_ | refine Wn (by omega) (by omega) (fun _ _ _ => ?_) | refine Wo (by omega) (by omega) ?_ | refine Wp (by omega) (by omega) (by omega) ?_ | refine Wq (by omega) (by omega) ?_ | refine Wr (by decide) (by omega) (by omega) ?_ | refine Ws (by decide) ?_ | refine Wx (fun _ => ?_) ?_ | refine Wy (fun _ => ?_) ?_ | refine Wz (fun _ => ?_) | refine WA (fun _ => ?_) | refine WB (by assumption) (by omega) ?_ | refine WC (by omega) (by omega) (fun _ _ => ?_) | refine WD (by omega) (by omega) (fun _ _ => ?_) | refine WE (by omega) (by omega) (by omega) ?_)
    | refine on_box (St.box_at _ _ _) ?_
    | refine rows_tok (hR.set hb0 _) ht (fun w1' st1 hr1 hb1 => ?_)
    | refine on_box ((congrFun hb1 b).trans (St.box_at _ _ _)) ?_
    | with_reducible refine WF ?_)
  clear hR hb
  rcases hc : (decide (¬ k = 15) || !Lib.contains [123, 125, 59] (pieceF s p q)) with _ | _
  all_goals rw [hc] at h
  · have hcc : ∀ {st : St} {R : Res → St → Prop}, R (.ret (.bool false)) st → PC 43 [.agg [.int .i64 k, .str (pieceF s p q), .int .i64 pl1.1, .int .i64 pl1.2]] st R := fun h => counts_c (by rw [hc]; exact h)
    refine AW_seq2 (aw_of tys_ok ?_)
    repeat' ((conv => whnf); first
      | (with_reducible first | exact Wa | exact Wb | exact Wc | refine Wd (by kernel_rfl) ?_ | refine We ?_ ?_ ?_ | refine W8 (by decide +kernel) ?_ ?_ ?_ | refine W9 ?_ ?_ ?_ | refine Wt (by first | assumption | omega) ?_ | refine Wu (by first | assumption | omega) ?_ | refine Wv (by omega) ?_ | refine Ww (by omega) ?_ | refine Wf (by decide) (fun _ => ?_) (fun _ => ?_) | refine Wg (fun _ => ?_) (fun _ => ?_) | refine Wh (fun _ => ?_) (fun _ => ?_) | refine Wi ?_ | refine Wj ?_ | refine Wk (fun _ => ?_) (fun _ => ?_) | refine Wl (fun _ => ?_) | refine Wm (by assumption) (by omega) ?_ | refine Wn (by omega) (by omega) (fun _ _ _ => ?_) | refine Wo (by omega) (by omega) ?_ | refine Wp (by omega) (by omega) (by omega) ?_ | refine Wq (by omega) (by omega) ?_ | refine Wr (by decide) (by omega) (by omega) ?_ | refine Ws (by decide) ?_ | refine Wx (fun _ => ?_) ?_ | refine Wy (fun _ => ?_) ?_ | refine Wz (fun _ => ?_) | refine WA (fun _ => ?_) | refine WB (by assumption) (by omega) ?_ | refine WC (by omega) (by omega) (fun _ _ => ?_) | refine WD (by omega) (by omega) (fun _ _ => ?_) | refine WE (by omega) (by omega) (by omega) ?_)
      | refine hcc ?_
      | refine on_box (St.box_at _ _ _) ?_
      | with_reducible refine WF ?_)
    refine aw_of tys_ok ?_
    repeat' ((conv => whnf); first
      | (with_reducible first | exact Wa | exact Wb | exact Wc | refine Wd (by kernel_rfl) ?_ | refine We ?_ ?_ ?_ | refine W8 (by decide +kernel) ?_ ?_ ?_ | refine W9 ?_ ?_ ?_ | refine Wt (by first | assumption | omega) ?_ | refine Wu (by first | assumption | omega) ?_ | refine Wv (by omega) ?_ | refine Ww (by omega) ?_ | refine Wf (by decide) (fun _ => ?_) (fun _ => ?_) | refine Wg (fun _ => ?_) (fun _ => ?_) | refine Wh (fun _ => ?_) (fun _ => ?_) | refine Wi ?_ | refine Wj ?_ | refine Wk (fun _ => ?_) (fun _ => ?_) | refine Wl (fun _ => ?_) | refine Wm (by assumption) (by omega) ?_ | refine Wn (by omega) (by omega) (fun _ _ _ => ?_) | refine Wo (by omega) (by omega) ?_ | refine Wp (by omega) (by omega) (by omega) ?_ | refine Wq (by omega) (by omega) ?_ | refine Wr (by decide) (by omega) (by omega) ?_ | refine Ws (by decide) ?_ | refine Wx (fun _ => ?_) ?_ | refine Wy (fun _ => ?_) ?_ | refine Wz (fun _ => ?_) | refine WA (fun _ => ?_) | refine WB (by assumption) (by omega) ?_ | refine WC (by omega) (by omega) (fun _ _ => ?_) | refine WD (by omega) (by omega) (fun _ _ => ?_) | refine WE (by omega) (by omega) (by omega) ?_)
      | refine to_k hl hpq hq (by omega) (by omega) (St.box_at _ _ _) ?_
      | refine on_box (St.box_at _ _ _) ?_
      | with_reducible refine WF ?_)
    all_goals exact fin (h w1' _ ((((hr1.set hb0 _).set hb0 _).set hb0 _).set hb0 _) (St.box_at _ _ _)) rfl
  · have hcc : ∀ {st : St} {R : Res → St → Prop}, R (.ret (.bool true)) st → PC 43 [.agg [.int .i64 k, .str (pieceF s p q), .int .i64 pl1.1, .int .i64 pl1.2]] st R := fun h => counts_c (by rw [hc]; exact h)
    refine AW_seq2 (aw_of tys_ok ?_)
    repeat' ((conv => whnf); first
      | (with_reducible first | exact Wa | exact Wb | exact Wc | refine Wd (by kernel_rfl) ?_ | refine We ?_ ?_ ?_ | refine W8 (by decide +kernel) ?_ ?_ ?_ | refine W9 ?_ ?_ ?_ | refine Wt (by first | assumption | omega) ?_ | refine Wu (by first | assumption | omega) ?_ | refine Wv (by omega) ?_ | refine Ww (by omega) ?_ | refine Wf (by decide) (fun _ => ?_) (fun _ => ?_) | refine Wg (fun _ => ?_) (fun _ => ?_) | refine Wh (fun _ => ?_) (fun _ => ?_) | refine Wi ?_ | refine Wj ?_ | refine Wk (fun _ => ?_) (fun _ => ?_) | refine Wl (fun _ => ?_) | refine Wm (by assumption) (by omega) ?_ | refine Wn (by omega) (by omega) (fun _ _ _ => ?_) | refine Wo (by omega) (by omega) ?_ | refine Wp (by omega) (by omega) (by omega) ?_ | refine Wq (by omega) (by omega) ?_ | refine Wr (by decide) (by omega) (by omega) ?_ | refine Ws (by decide) ?_ | refine Wx (fun _ => ?_) ?_ | refine Wy (fun _ => ?_) ?_ | refine Wz (fun _ => ?_) | refine WA (fun _ => ?_) | refine WB (by assumption) (by omega) ?_ | refine WC (by omega) (by omega) (fun _ _ => ?_) | refine WD (by omega) (by omega) (fun _ _ => ?_) | refine WE (by omega) (by omega) (by omega) ?_)
      | refine hcc ?_
      | refine on_box (St.box_at _ _ _) ?_
      | with_reducible refine WF ?_)
    refine aw_of tys_ok ?_
    repeat' ((conv => whnf); first
      | (with_reducible first | exact Wa | exact Wb | exact Wc | refine Wd (by kernel_rfl) ?_ | refine We ?_ ?_ ?_ | refine W8 (by decide +kernel) ?_ ?_ ?_ | refine W9 ?_ ?_ ?_ | refine Wt (by first | assumption | omega) ?_ | refine Wu (by first | assumption | omega) ?_ | refine Wv (by omega) ?_ | refine Ww (by omega) ?_ | refine Wf (by decide) (fun _ => ?_) (fun _ => ?_) | refine Wg (fun _ => ?_) (fun _ => ?_) | refine Wh (fun _ => ?_) (fun _ => ?_) | refine Wi ?_ | refine Wj ?_ | refine Wk (fun _ => ?_) (fun _ => ?_) | refine Wl (fun _ => ?_) | refine Wm (by assumption) (by omega) ?_ | refine Wn (by omega) (by omega) (fun _ _ _ => ?_) | refine Wo (by omega) (by omega) ?_ | refine Wp (by omega) (by omega) (by omega) ?_ | refine Wq (by omega) (by omega) ?_ | refine Wr (by decide) (by omega) (by omega) ?_ | refine Ws (by decide) ?_ | refine Wx (fun _ => ?_) ?_ | refine Wy (fun _ => ?_) ?_ | refine Wz (fun _ => ?_) | refine WA (fun _ => ?_) | refine WB (by assumption) (by omega) ?_ | refine WC (by omega) (by omega) (fun _ _ => ?_) | refine WD (by omega) (by omega) (fun _ _ => ?_) | refine WE (by omega) (by omega) (by omega) ?_)
      | refine to_k hl hpq hq (by omega) (by omega) (St.box_at _ _ _) ?_
      | refine on_box (St.box_at _ _ _) ?_
      | with_reducible refine WF ?_)
    all_goals exact fin (h w1' _ (((((hr1.set hb0 _).set hb0 _).set hb0 _).set hb0 _).set hb0 _) (St.box_at _ _ _)) rfl
end
end Go.Proofs.YtkcapphlemoccaaGreatDoor
set_option linter.unusedVariables false
namespace Go.Proofs.YtkcapphlemoccaaGreatDoor
open Go Go.Aw
structure Nt where
  text : List UInt8
  gap : Int
  wh : Int
  line : Int
  col : Int
def Nt.cells (n : Nt) : List V := [.str n.text, .int .i64 n.gap, .int .i64 n.wh, .int .i64 n.line, .int .i64 n.col]
def encNs (l : List Nt) : List (List V) := l.map Nt.cells
structure Lx where
  toks : List Tk
  notes : List Nt
  gap : Int
  ends : Int
  j : Bool
def lx0 : Lx := ⟨[], [], 0, 0, false⟩
def cntF (k : Int) (t : List UInt8) : Bool := decide (¬ k = 15) || !Lib.contains [123, 125, 59] t
def tokX (s : List UInt8) (p q : Nat) (k : Int) (x : Lx) : Lx :=
  ⟨x.toks ++ [⟨k, pieceF s p q, (atP s p).1, (atP s p).2⟩], x.notes, if cntF k (pieceF s p q) then x.gap + 1 else x.gap, (atP s q).1, true⟩
def blkF (s : List UInt8) (p : Nat) : Nat := p + spanR (fun c => classF c == 1) (s.drop p)
theorem blkF_le {s : List UInt8} {p : Nat} (h : p ≤ s.length) : p ≤ blkF s p ∧ blkF s p ≤ s.length := by
  have := spanR_le (fun c => classF c == 1) (s.drop p)
  rw [List.length_drop] at this
  unfold blkF; omega
def behF (s : List UInt8) (p q : Nat) (x : Lx) : Bool := x.j && decide (x.ends = (atP s p).1) && decide ((atP s q).1 = (atP s p).1)
def inlF (s : List UInt8) (p q : Nat) : Bool := decide (blkF s q < s.length) && decide ((atP s (blkF s q)).1 = (atP s p).1)
def noteX (s : List UInt8) (p q : Nat) (x : Lx) : Lx :=
  ⟨x.toks, x.notes ++ [⟨pieceF s p q, x.gap, if behF s p q x then (if inlF s p q then 1 else 2) else 3, (atP s p).1, (atP s p).2⟩], x.gap, (atP s q).1, behF s p q x && inlF s p q⟩
def lexL (s : List UInt8) (p : Nat) (x : Lx) : Sum (Int × Int) Lx :=
  if hp : p < s.length then
    if (noteF s p).2 ≠ 0 then .inl ((p : Nat), (noteF s p).2)
    else if 0 < (noteF s p).1 then
      (if hq : p < (noteF s p).1.toNat then lexL s (blkF s (noteF s p).1.toNat) (noteX s p (noteF s p).1.toNat x) else .inr x)
    else if (lexmF s p).2.2 ≠ 0 then .inl ((lexmF s p).2.1, (lexmF s p).2.2)
    else (if hq : p < (lexmF s p).2.1.toNat then lexL s (blkF s (lexmF s p).2.1.toNat) (tokX s p (lexmF s p).2.1.toNat (lexmF s p).1 x) else .inr x)
  else .inr x
termination_by s.length - p
decreasing_by
  all_goals unfold blkF; omega
def lexF (s : List UInt8) : Sum (Int × Int) Lx :=
  if 16777216 < s.length then .inl (0, 3)
  else if (chkF s).2 ≠ 0 then .inl (chkF s)
  else if 0 ≤ idxF (fun c => classF (c : Nat) == 0) s then .inl (idxF (fun c => classF (c : Nat) == 0) s, 70)
  else lexL s (blkF s 0) lx0
theorem chk_vd {s : List UInt8} (h : (chkF s).2 = 0) : Vd s := by
  unfold chkF at h
  split at h
  · exact absurd h (show ¬ (10 : Int) = 0 by decide)
  · have := spanD_le goodD s
    unfold Vd; omega
end Go.Proofs.YtkcapphlemoccaaGreatDoor
set_option linter.unusedVariables false
set_option linter.unusedSimpArgs false
namespace Go.Aw
open Go
theorem Cut.le {l : List UInt8} {k : Nat} (h : Cut l k) : k ≤ l.length := by
  induction h with
  | zero l => exact Nat.zero_le _
  | step hne h ih => have := stepN_le hne; rw [List.length_drop] at ih; omega
theorem Cut.blank {l : List UInt8} (hv : Vd l) : Cut l (spanR (fun c => classF c == 1) l) := by
  refine Bd.cut (Bd.span _ l) ?_
  rintro ⟨h0, _, h2⟩
  have h2 : hdF (l.drop (spanR (fun c => classF c == 1) l)) = 10 := h2
  have hlt := hdF_lt_len (l := l) (k := spanR (fun c => classF c == 1) l) (by omega)
  have := spanR_stop (fun c => classF c == 1) l hlt
  rw [(decR_hd (by omega) (by omega)).2, h2] at this
  exact absurd this (by decide)
theorem noteF_at {s : List UInt8} {p : Nat} (e : (noteF s p).2 = 0) (h0 : 0 < (noteF s p).1) : ∃ n : Nat, 0 < n ∧ noteN (s.drop p) = (n : Nat) ∧ (noteF s p).1 = (p + n : Nat) := by
  unfold noteF at e h0 ⊢
  split
  · rename_i h; rw [if_pos h] at e; exact absurd e (by decide)
  · rename_i h
    rw [if_neg h] at e h0
    split
    · rename_i h1; rw [if_pos h1] at h0; exact absurd h0 (by decide)
    · rename_i h1
      exact ⟨(noteN (s.drop p)).toNat, by omega, by omega, by dsimp only; omega⟩
theorem note_cut {s : List UInt8} {p : Nat} (hv : Vd s) (h : Cut s p) (e : (noteF s p).2 = 0) (h0 : 0 < (noteF s p).1) : ∃ q, (noteF s p).1 = (q : Nat) ∧ p < q ∧ q ≤ s.length ∧ Cut s q := by
  obtain ⟨n, h1, h2, h3⟩ := noteF_at e h0
  have hc := Cut.add h (Cut.note (h.bd.vd hv) h2)
  exact ⟨p + n, h3, by omega, hc.le, hc⟩
theorem num_pos {l : List UInt8} (h : (numF l).1 ≠ 0) : 0 < (numF l).2 := by
  unfold numF at h ⊢
  split
  · dsimp only; omega
  · rename_i h1
    rw [if_neg h1] at h
    split
    · rename_i h2; rw [if_pos h2] at h; exact absurd rfl h
    · dsimp only; omega
theorem word_pos {l : List UInt8} (h : (wordF l).1 ≠ 0) : 0 < (wordF l).2 := by
  have hge := scanG_ge l (plainF l).2 (plainF l).1
  by_cases hp : (plainF l).1 = 0
  · unfold wordF at h
    rw [scanG_no (fun x => by rw [hp] at x; rcases x.2.1 with y | y <;> exact absurd y (by decide))] at h
    exact absurd hp h
  · have := plain_pos hp
    unfold wordF; omega
theorem lexm_cut {s : List UInt8} {p : Nat} (hv : Vd s) (h : Cut s p) (e : (lexmF s p).2.2 = 0) : (lexmF s p).1 ≠ 0 ∧ ∃ q, (lexmF s p).2.1 = (q : Nat) ∧ p < q ∧ q ≤ s.length ∧ Cut s q := by
  have hv' := h.bd.vd hv
  unfold lexmF at e ⊢
  split
  · rename_i h1
    refine ⟨h1, p + (numF (s.drop p)).2, ?_⟩
    have hn : (numF (s.drop p)).1 ≠ 0 := fun x => by
      unfold nscF at h1; rw [if_pos x] at h1; exact h1 rfl
    have hc := Cut.add h (Cut.num (s.drop p))
    have := num_pos hn
    refine ⟨?_, by omega, hc.le, hc⟩
    unfold nscF; rw [if_neg hn]
  · rename_i h1
    rw [if_neg h1] at e
    split
    · rename_i h2
      rw [if_pos h2] at e
      split
      · rename_i h3; rw [if_pos h3] at e; exact absurd e (by decide : ¬ (70 : Int) = 0)
      · rename_i h3
        refine ⟨h3, p + (wordF (s.drop p)).2, ?_⟩
        have hn : (wordF (s.drop p)).1 ≠ 0 := fun x => by
          unfold wscanF at h3; rw [if_pos x] at h3; exact h3 rfl
        have hc := Cut.add h (Cut.word (s.drop p))
        have := word_pos hn
        refine ⟨?_, by omega, hc.le, hc⟩
        unfold wscanF; rw [if_neg hn]
    · rename_i h2
      rw [if_neg h2] at e
      have hk : (quoF s p).1 ≠ 0 := fun x => h2 ⟨x, e⟩
      obtain ⟨n, e1, e2, e3⟩ := Cut.quote hv' hk
      have hc := Cut.add h e3
      exact ⟨hk, p + n, e1, by omega, hc.le, hc⟩
theorem Cut.blk {s : List UInt8} {p : Nat} (hv : Vd s) (h : Cut s p) : Cut s (Go.Proofs.YtkcapphlemoccaaGreatDoor.blkF s p) := Cut.add h (Cut.blank (h.bd.vd hv))
def ltP (a b : Int × Int) : Prop := a.1 < b.1 ∨ (a.1 = b.1 ∧ a.2 < b.2)
theorem ltP.trans {a b c : Int × Int} (h : ltP a b) (k : ltP b c) : ltP a c := by unfold ltP at *; omega
theorem step_lt {l : List UInt8} {p : Int × Int} (h : 1 ≤ p.2) : ltP p (stepL l p.1, stepC l p.2) := by
  unfold ltP stepL stepC stopF
  by_cases h1 : 0 < nlF l
  · rw [if_pos h1]; left; dsimp only; omega
  · rw [if_neg h1, if_neg h1]
    right
    refine ⟨rfl, ?_⟩
    dsimp only
    split <;> omega
theorem walk_le {l : List UInt8} {k : Nat} (h : Cut l k) (p : Int × Int) (hp : 1 ≤ p.2) : (k = 0 ∧ walkP l k p = p) ∨ (0 < k ∧ ltP p (walkP l k p)) := by
  induction h generalizing p with
  | zero l => exact .inl ⟨rfl, walkP_zero⟩
  | @step l j hne h ih =>
    have h1 := stepN_le hne
    have h2 := step_lt (l := l) hp
    refine .inr ⟨by omega, ?_⟩
    rw [walkP_go hne (by omega), show stepN l + j - stepN l = j by omega]
    rcases ih (stepL l p.1, stepC l p.2) (stepC_b l hp).1 with ⟨_, e⟩ | ⟨_, e⟩
    · rw [e]; exact h2
    · exact h2.trans e
theorem Cut.sub {l : List UInt8} {i j : Nat} (h : Cut l i) (k : Cut l j) (hij : i ≤ j) : Cut (l.drop i) (j - i) := by
  induction h generalizing j with
  | zero l => exact k
  | @step l i hne h ih =>
    cases k with
    | zero => have := stepN_le hne; omega
    | @step _ j' _ k =>
      rw [show stepN l + j' - (stepN l + i) = j' - i by omega, ← List.drop_drop]
      exact ih k (by omega)
theorem at_col {s : List UInt8} {p : Nat} : 1 ≤ (atP s p).1 ∧ (atP s p).1 ≤ 1 + s.length ∧ 1 ≤ (atP s p).2 ∧ (atP s p).2 ≤ 1 + 8 * s.length := by
  have := walk_b _ s p (1, 1) (Nat.le_refl _) (by decide)
  unfold atP
  omega
theorem at_lt {s : List UInt8} {p q : Nat} (h : Cut s p) (k : Cut s q) (hpq : p < q) : ltP (atP s p) (atP s q) := by
  have c := h.sub k (by omega)
  have e : atP s q = walkP (s.drop p) (q - p) (atP s p) := by
    unfold atP
    rw [← walk_add h, show p + (q - p) = q by omega]
  rw [e]
  rcases walk_le c (atP s p) at_col.2.2.1 with ⟨x, _⟩ | ⟨_, x⟩
  · omega
  · exact x
theorem place_cut {s : List UInt8} {a b : Nat} (hv : Vd s) (ha : Cut s a) (hb : Cut s b) (h : a ≤ b) : placeF s a b (atP s a) = atP s b := place_at hv ha (ha.sub hb h) h hb.le
end Go.Aw
set_option linter.unusedVariables false
namespace Go.Aw
open Go
def ntV (t : List UInt8) (gap wh : Int) (p : Int × Int) : List V := [.str t, .int .i64 gap, .int .i64 wh, .int .i64 p.1, .int .i64 p.2]
theorem rows_note {st0 st : St} {w1 w2 : Own} {n1 : Nat} {o : List (List V)} {g k a b : Int} {t : List UInt8} {K : V → St → Prop} (h : Rows2 st0 st w1 n1 w2 (o.length * 5)) (hl : o.length ≤ 1000000000)
    (kk : ∀ w2' st', Rows2 st0 st' w1 n1 w2' ((o.length + 1) * 5) → st'.box = st.box → K (.slice 5 (o ++ [ntV t g k (a, b)]) w2') st') : appendTo 5 48 o w2 [[.str t, .int .i64 g, .int .i64 k, .int .i64 a, .int .i64 b]] st K :=
  rows2_app h.swap rfl (by rw [List.length_singleton]; omega) (by rw [List.length_singleton]; unfold lim; omega) rfl (by simp) (fun w1' st' hr hb => kk w1' st' hr.swap hb)
end Go.Aw
namespace Go.Proofs.YtkcapphlemoccaaGreatDoor
open Go Go.Aw
section
variable {st : St} {R : Res → St → Prop}
attribute [local irreducible] Go.Aw.appendTo
theorem to_at {s : List UInt8} {b p sp q : Nat} {gap ends : Int} {toks notes : List (List V)} {w1 w2 : Own} {j : Bool} (hl : s.length ≤ 100000000) (hv : Vd s) (c1 : Cut s sp) (c2 : Cut s q) (hsp : sp ≤ q)
    (hb : st.box b = some (lxC s p sp (atP s sp).1 (atP s sp).2 toks notes w1 w2 gap ends j))
    (h : R (.ret (.tup [.int .i64 (atP s q).1, .int .i64 (atP s q).2])) (st.setBox b (lxC s p q (atP s q).1 (atP s q).2 toks notes w1 w2 gap ends j))) : PC 39 [.ptr b 0, .int .i64 q] st R := by
  have e : placeF s sp q ((atP s sp).1, (atP s sp).2) = atP s q := place_cut hv c1 c2 hsp
  have hc := at_col (s := s) (p := sp)
  refine to_k hl hsp c2.le (by omega) (by omega) hb ?_
  rw [e]; exact h
theorem token_at {st0 : St} {s : List UInt8} {b p sp q n2 : Nat} {k e0 gap ends : Int} {toks notes : List (List V)} {w1 w2 : Own} {j : Bool} (hl : s.length ≤ 50000000) (hv : Vd s) (c1 : Cut s sp) (c2 : Cut s p) (c3 : Cut s q) (hsp : sp ≤ p) (hpq : p ≤ q)
    (hg : 0 ≤ gap ∧ gap ≤ 1000000000) (ht : toks.length ≤ 1000000000) (hb0 : st0.box b = none) (hR : Rows2 st0 st w1 (toks.length * 4) w2 n2) (hb : st.box b = some (lxC s p sp (atP s sp).1 (atP s sp).2 toks notes w1 w2 gap ends j))
    (h : ∀ w1' st', Rows2 st0 st' w1' ((toks.length + 1) * 4) w2 n2 → st'.box b = some (lxC s q q (atP s q).1 (atP s q).2 (toks ++ [tokV k (pieceF s p q) (atP s p)]) notes w1' w2
        (if cntF k (pieceF s p q) then gap + 1 else gap) (atP s q).1 true) → R (.ret (.tup [])) st') : PC 23 [.ptr b 0, .agg [.int .i64 k, .int .i64 q, .int .i64 e0]] st R := by
  have e1 : placeF s sp p ((atP s sp).1, (atP s sp).2) = atP s p := place_cut hv c1 c2 hsp
  have e2 : placeF s p q (atP s p) = atP s q := place_cut hv c2 c3 hpq
  have hc := at_col (s := s) (p := sp)
  refine token_c (by omega) hsp hpq c3.le (by omega) (by omega) hg ht hb0 hR hb (fun w1' st' hr hb' => h w1' st' hr ?_)
  rw [e1, e2] at hb'; exact hb'
theorem note_c {st0 : St} {s : List UInt8} {b p sp q n1 : Nat} {gap ends : Int} {toks notes : List (List V)} {w1 w2 : Own} {j : Bool} (hl : s.length ≤ 50000000) (hv : Vd s) (c1 : Cut s sp) (c2 : Cut s p) (c3 : Cut s q) (hsp : sp ≤ p) (hpq : p ≤ q)
    (hg : 0 ≤ gap ∧ gap ≤ 1000000000) (ht : notes.length ≤ 1000000000) (hb0 : st0.box b = none) (hR : Rows2 st0 st w1 n1 w2 (notes.length * 5)) (hb : st.box b = some (lxC s p sp (atP s sp).1 (atP s sp).2 toks notes w1 w2 gap ends j))
    (h : ∀ w2' st' sp', Cut s sp' → sp' ≤ blkF s q → Rows2 st0 st' w1 n1 w2' ((notes.length + 1) * 5) →
      st'.box b = some (lxC s (blkF s q) sp' (atP s sp').1 (atP s sp').2 toks (notes ++ [ntV (pieceF s p q) gap (if j && decide (ends = (atP s p).1) && decide ((atP s q).1 = (atP s p).1) then (if inlF s p q then 1 else 2) else 3) (atP s p)]) w1 w2' gap (atP s q).1
        (j && decide (ends = (atP s p).1) && decide ((atP s q).1 = (atP s p).1) && inlF s p q)) → R (.ret (.tup [])) st') : PC 21 [.ptr b 0, .int .i64 q] st R := by
  have c4 := c3.blk hv
  have hq := c3.le
  have hr := blkF_le hq
  have z1 := at_col (s := s) (p := p)
  have z2 := at_col (s := s) (p := q)
  have z3 := at_col (s := s) (p := blkF s q)
  refine pcalls_of_aw tys_ok [] Tryz.func21 rfl (by decide) rfl ?_
  refine AW_seq2 (aw_of tys_ok ?_)
  repeat' ((conv => whnf); first
    | (with_reducible first | exact Wa | exact Wb | exact Wc | refine Wd (by kernel_rfl) ?_ | refine We ?_ ?_ ?_ | refine W8 (by decide +kernel) ?_ ?_ ?_ | refine W9 ?_ ?_ ?_ | refine Wt (by first | assumption | omega) ?_ | refine Wu (by first | assumption | omega) ?_ | refine Wv (by omega) ?_ | refine Ww (by omega) ?_ | refine Wf (by decide) (fun _ => ?_) (fun _ => ?_) | refine Wg (fun _ => ?_) (fun _ => ?_) | refine Wh (fun _ => ?_) (fun _ => ?_) | refine Wi ?_ | refine Wj ?_ | refine Wk (fun _ => ?_) (fun _ => ?_) | refine Wl (fun _ => ?_) | refine Wm (by assumption) (by omega) ?_ | refine Wn (by omega) (by omega) (fun _ _ _ => ?_) | refine Wo (by omega) (by omega) ?_ | refine Wp (by omega) (by omega) (by omega) ?_ | refine Wq (by omega) (by omega) ?_ | refine Wr (by decide) (by omega) (by omega) ?_ | refine Ws (by decide) ?_ | refine Wx (fun _ => ?_) ?_ | refine Wy (fun _ => ?_) ?_ | refine Wz (fun _ => ?_) | refine WA (fun _ => ?_) | refine WB (by assumption) (by omega) ?_ | refine WC (by omega) (by omega) (fun _ _ => ?_) | refine WD (by omega) (by omega) (fun _ _ => ?_) | refine WE (by omega) (by omega) (by omega) ?_)
    | refine to_at (by omega) hv c1 c2 hsp hb ?_
    | refine on_box hb ?_
    | with_reducible refine WF ?_)
  refine AW_seq2 (aw_of tys_ok ?_)
  repeat' ((conv => whnf); first
    | (with_reducible first | exact Wa | exact Wb | exact Wc | refine Wd (by kernel_rfl) ?_ | refine We ?_ ?_ ?_ | refine W8 (by decide +kernel) ?_ ?_ ?_ | refine W9 ?_ ?_ ?_ | refine Wt (by first | assumption | omega) ?_ | refine Wu (by first | assumption | omega) ?_ | refine Wv (by omega) ?_ | refine Ww (by omega) ?_ | refine Wf (by decide) (fun _ => ?_) (fun _ => ?_) | refine Wg (fun _ => ?_) (fun _ => ?_) | refine Wh (fun _ => ?_) (fun _ => ?_) | refine Wi ?_ | refine Wj ?_ | refine Wk (fun _ => ?_) (fun _ => ?_) | refine Wl (fun _ => ?_) | refine Wm (by assumption) (by omega) ?_ | refine Wn (by omega) (by omega) (fun _ _ _ => ?_) | refine Wo (by omega) (by omega) ?_ | refine Wp (by omega) (by omega) (by omega) ?_ | refine Wq (by omega) (by omega) ?_ | refine Wr (by decide) (by omega) (by omega) ?_ | refine Ws (by decide) ?_ | refine Wx (fun _ => ?_) ?_ | refine Wy (fun _ => ?_) ?_ | refine Wz (fun _ => ?_) | refine WA (fun _ => ?_) | refine WB (by assumption) (by omega) ?_ | refine WC (by omega) (by omega) (fun _ _ => ?_) | refine WD (by omega) (by omega) (fun _ _ => ?_) | refine WE (by omega) (by omega) (by omega) ?_)
    | refine piece_k hpq hq ?_
    | refine on_box (St.box_at _ _ _) ?_
    | with_reducible refine WF ?_)
  refine AW_seq2 (aw_of tys_ok ?_)
  repeat' ((conv => whnf); first
    | (with_reducible first | exact Wa | exact Wb | exact Wc | refine Wd (by kernel_rfl) ?_ | refine We ?_ ?_ ?_ | refine W8 (by decide +kernel) ?_ ?_ ?_ | refine W9 ?_ ?_ ?_ | refine Wt (by first | assumption | omega) ?_ | refine Wu (by first | assumption | omega) ?_ | refine Wv (by omega) ?_ | refine Ww (by omega) ?_ | refine Wf (by decide) (fun _ => ?_) (fun _ => ?_) | refine Wg (fun _ => ?_) (fun _ => ?_) | refine Wh (fun _ => ?_) (fun _ => ?_) | refine Wi ?_ | refine Wj ?_ | refine Wk (fun _ => ?_) (fun _ => ?_) | refine Wl (fun _ => ?_) | refine Wm (by assumption) (by omega) ?_ | refine Wn (by omega) (by omega) (fun _ _ _ => ?_) | refine Wo (by omega) (by omega) ?_ | refine Wp (by omega) (by omega) (by omega) ?_ | refine Wq (by omega) (by omega) ?_ | refine Wr (by decide) (by omega) (by omega) ?_ | refine Ws (by decide) ?_ | refine Wx (fun _ => ?_) ?_ | refine Wy (fun _ => ?_) ?_ | refine Wz (fun _ => ?_) | refine WA (fun _ => ?_) | refine WB (by assumption) (by omega) ?_ | refine WC (by omega) (by omega) (fun _ _ => ?_) | refine WD (by omega) (by omega) (fun _ _ => ?_) | refine WE (by omega) (by omega) (by omega) ?_)
    | refine to_at (by omega) hv c2 c3 hpq (St.box_at _ _ _) ?_
    | refine on_box (St.box_at _ _ _) ?_
    | with_reducible refine WF ?_)
  have hbl : ∀ {st : St} {R : Res → St → Prop} {sp : Nat} {gap ends : Int} {j : Bool} {notes : List (List V)} {w2 : Own}, st.box b = some (lxC s q sp (atP s sp).1 (atP s sp).2 toks notes w1 w2 gap ends j) →
      R (.ret (.tup [])) (st.setBox b (lxC s (blkF s q) sp (atP s sp).1 (atP s sp).2 toks notes w1 w2 gap ends j)) → PC 19 [.ptr b 0] st R := fun hb h => blanks_c (by omega) hq hb h
  have hcase : (j = false ∨ (j = true ∧ ¬ ends = (atP s p).1) ∨ (j = true ∧ ends = (atP s p).1 ∧ ¬ (atP s q).1 = (atP s p).1)) ∨ (j = true ∧ ends = (atP s p).1 ∧ (atP s q).1 = (atP s p).1) := by
    cases j
    · exact .inl (.inl rfl)
    · by_cases e1 : ends = (atP s p).1
      · by_cases e2 : (atP s q).1 = (atP s p).1
        · exact .inr ⟨rfl, e1, e2⟩
        · exact .inl (.inr (.inr ⟨rfl, e1, e2⟩))
      · exact .inl (.inr (.inl ⟨rfl, e1⟩))
  rcases hcase with hc | ⟨rfl, he1, he2⟩
  · have e : (j && decide (ends = (atP s p).1) && decide ((atP s q).1 = (atP s p).1)) = false := by
      rcases hc with rfl | ⟨rfl, e1⟩ | ⟨rfl, e1, e2⟩ <;> simp [*]
    rw [e] at h
    rcases hc with rfl | ⟨rfl, e1⟩ | ⟨rfl, e1, e2⟩
    all_goals refine AW_seq2 (aw_of tys_ok ?_)
    repeat' ((conv => whnf); first
      | (with_reducible first | exact Wa | exact Wb | exact Wc | refine Wd (by kernel_rfl) ?_ | refine We ?_ ?_ ?_ | refine W8 (by decide +kernel) ?_ ?_ ?_ | refine W9 ?_ ?_ ?_ | refine Wt (by first | assumption | omega) ?_ | refine Wu (by first | assumption | omega) ?_ | refine Wv (by omega) ?_ | refine Ww (by omega) ?_ | refine Wf (by decide) (fun _ => ?_) (fun _ => ?_) | refine Wg (fun _ => ?_) (fun _ => ?_) | refine Wh (fun _ => ?_) (fun _ => ?_) | refine Wi ?_ | refine Wj ?_ | refine Wk (fun _ => ?_) (fun _ => ?_) | refine Wl (fun _ => ?_) | refine Wm (by assumption) (by omega) ?_ | refine Wn (by omega) (by omega) (fun _ _ _ => ?_) | refine Wo (by omega) (by omega) ?_ | refine Wp (by omega) (by omega) (by omega) ?_ | refine Wq (by omega) (by omega) ?_ | refine Wr (by decide) (by omega) (by omega) ?_ | refine Ws (by decide) ?_ | refine Wx (fun _ => ?_) ?_ | refine Wy (fun _ => ?_) ?_ | refine Wz (fun _ => ?_) | refine WA (fun _ => ?_) | refine WB (by assumption) (by omega) ?_ | refine WC (by omega) (by omega) (fun _ _ => ?_) | refine WD (by omega) (by omega) (fun _ _ => ?_) | refine WE (by omega) (by omega) (by omega) ?_)
      | refine on_box (St.box_at _ _ _) ?_
      | with_reducible refine WF ?_)
    all_goals refine AW_seq2 (aw_of tys_ok ?_)
    repeat' ((conv => whnf); first
      | (with_reducible first | exact Wa | exact Wb | exact Wc | refine Wd (by kernel_rfl) ?_ | refine We ?_ ?_ ?_ | refine W8 (by decide +kernel) ?_ ?_ ?_ | refine W9 ?_ ?_ ?_ | refine Wt (by first | assumption | omega) ?_ | refine Wu (by first | assumption | omega) ?_ | refine Wv (by omega) ?_ | refine Ww (by omega) ?_ | refine Wf (by decide) (fun _ => ?_) (fun _ => ?_) | refine Wg (fun _ => ?_) (fun _ => ?_) | refine Wh (fun _ => ?_) (fun _ => ?_) | refine Wi ?_ | refine Wj ?_ | refine Wk (fun _ => ?_) (fun _ => ?_) | refine Wl (fun _ => ?_) | refine Wm (by assumption) (by omega) ?_ | refine Wn (by omega) (by omega) (fun _ _ _ => ?_) | refine Wo (by omega) (by omega) ?_ | refine Wp (by omega) (by omega) (by omega) ?_ | refine Wq (by omega) (by omega) ?_ | refine Wr (by decide) (by omega) (by omega) ?_ | refine Ws (by decide) ?_ | refine Wx (fun _ => ?_) ?_ | refine Wy (fun _ => ?_) ?_ | refine Wz (fun _ => ?_) | refine WA (fun _ => ?_) | refine WB (by assumption) (by omega) ?_ | refine WC (by omega) (by omega) (fun _ _ => ?_) | refine WD (by omega) (by omega) (fun _ _ => ?_) | refine WE (by omega) (by omega) (by omega) ?_)
      | refine on_box (St.box_at _ _ _) ?_
      | with_reducible refine WF ?_)
    all_goals refine AW_seq2 (aw_of tys_ok ?_)
    repeat' ((conv => whnf); first
      | (with_reducible first | exact Wa | exact Wb | exact Wc | refine Wd (by kernel_rfl) ?_ | refine We ?_ ?_ ?_ | refine W8 (by decide +kernel) ?_ ?_ ?_ | refine W9 ?_ ?_ ?_ | refine Wt (by first | assumption | omega) ?_ | refine Wu (by first | assumption | omega) ?_ | refine Wv (by omega) ?_ | refine Ww (by omega) ?_ | refine Wf (by decide) (fun _ => ?_) (fun _ => ?_) | refine Wg (fun _ => ?_) (fun _ => ?_) | refine Wh (fun _ => ?_) (fun _ => ?_) | refine Wi ?_ | refine Wj ?_ | refine Wk (fun _ => ?_) (fun _ => ?_) | refine Wl (fun _ => ?_) | refine Wm (by assumption) (by omega) ?_ | refine Wn (by omega) (by omega) (fun _ _ _ => ?_) | refine Wo (by omega) (by omega) ?_ | refine Wp (by omega) (by omega) (by omega) ?_ | refine Wq (by omega) (by omega) ?_ | refine Wr (by decide) (by omega) (by omega) ?_ | refine Ws (by decide) ?_ | refine Wx (fun _ => ?_) ?_ | refine Wy (fun _ => ?_) ?_ | refine Wz (fun _ => ?_) | refine WA (fun _ => ?_) | refine WB (by assumption) (by omega) ?_ | refine WC (by omega) (by omega) (fun _ _ => ?_) | refine WD (by omega) (by omega) (fun _ _ => ?_) | refine WE (by omega) (by omega) (by omega) ?_)
      | refine hbl (St.box_at _ _ _) ?_
      | with_reducible refine WF ?_)
    all_goals refine AW_seq2 (aw_of tys_ok ?_)
    repeat' ((conv => whnf); first
      | (with_reducible first | exact Wa | exact Wb | exact Wc | refine Wd (by kernel_rfl) ?_ | refine We ?_ ?_ ?_ | refine W8 (by decide +kernel) ?_ ?_ ?_ | refine W9 ?_ ?_ ?_ | refine Wt (by first | assumption | omega) ?_ | refine Wu (by first | assumption | omega) ?_ | refine Wv (by omega) ?_ | refine Ww (by omega) ?_ | refine Wf (by decide) (fun _ => ?_) (fun _ => ?_) | refine Wg (fun _ => ?_) (fun _ => ?_) | refine Wh (fun _ => ?_) (fun _ => ?_) | refine Wi ?_ | refine Wj ?_ | refine Wk (fun _ => ?_) (fun _ => ?_) | refine Wl (fun _ => ?_) | refine Wm (by assumption) (by omega) ?_ | refine Wn (by omega) (by omega) (fun _ _ _ => ?_) | refine Wo (by omega) (by omega) ?_ | refine Wp (by omega) (by omega) (by omega) ?_ | refine Wq (by omega) (by omega) ?_ | refine Wr (by decide) (by omega) (by omega) ?_ | refine Ws (by decide) ?_ | refine Wx (fun _ => ?_) ?_ | refine Wy (fun _ => ?_) ?_ | refine Wz (fun _ => ?_) | refine WA (fun _ => ?_) | refine WB (by assumption) (by omega) ?_ | refine WC (by omega) (by omega) (fun _ _ => ?_) | refine WD (by omega) (by omega) (fun _ _ => ?_) | refine WE (by omega) (by omega) (by omega) ?_)
      | refine on_box (St.box_at _ _ _) ?_
      | with_reducible refine WF ?_)
    all_goals refine AW_seq2 (aw_of tys_ok ?_)
    repeat' ((conv => whnf); first
      | (with_reducible first | exact Wa | exact Wb | exact Wc | refine Wd (by kernel_rfl) ?_ | refine We ?_ ?_ ?_ | refine W8 (by decide +kernel) ?_ ?_ ?_ | refine W9 ?_ ?_ ?_ | refine Wt (by first | assumption | omega) ?_ | refine Wu (by first | assumption | omega) ?_ | refine Wv (by omega) ?_ | refine Ww (by omega) ?_ | refine Wf (by decide) (fun _ => ?_) (fun _ => ?_) | refine Wg (fun _ => ?_) (fun _ => ?_) | refine Wh (fun _ => ?_) (fun _ => ?_) | refine Wi ?_ | refine Wj ?_ | refine Wk (fun _ => ?_) (fun _ => ?_) | refine Wl (fun _ => ?_) | refine Wm (by assumption) (by omega) ?_ | refine Wn (by omega) (by omega) (fun _ _ _ => ?_) | refine Wo (by omega) (by omega) ?_ | refine Wp (by omega) (by omega) (by omega) ?_ | refine Wq (by omega) (by omega) ?_ | refine Wr (by decide) (by omega) (by omega) ?_ | refine Ws (by decide) ?_ | refine Wx (fun _ => ?_) ?_ | refine Wy (fun _ => ?_) ?_ | refine Wz (fun _ => ?_) | refine WA (fun _ => ?_) | refine WB (by assumption) (by omega) ?_ | refine WC (by omega) (by omega) (fun _ _ => ?_) | refine WD (by omega) (by omega) (fun _ _ => ?_) | refine WE (by omega) (by omega) (by omega) ?_)
      | with_reducible refine WF ?_)
    all_goals refine aw_of tys_ok ?_
    repeat' ((conv => whnf); first
      | refine draw_mix [(0, true), (1, true), (2, true), (3, true), (4, true), (5, true), (6, true), (7, false), (8, true), (9, true), (10, false)] [] (by decide +kernel) ?_
      | (with_reducible first | exact Wa | exact Wb | exact Wc | refine Wd (by kernel_rfl) ?_ | refine We ?_ ?_ ?_ | refine W8 (by decide +kernel) ?_ ?_ ?_ | refine W9 ?_ ?_ ?_ | refine Wt (by first | assumption | omega) ?_ | refine Wu (by first | assumption | omega) ?_ | refine Wv (by omega) ?_ | refine Ww (by omega) ?_ | refine Wf (by decide) (fun _ => ?_) (fun _ => ?_) | refine Wg (fun _ => ?_) (fun _ => ?_) | refine Wh (fun _ => ?_) (fun _ => ?_) | refine Wi ?_ | refine Wj ?_ | refine Wk (fun _ => ?_) (fun _ => ?_) | refine Wl (fun _ => ?_) | refine Wm (by assumption) (by omega) ?_ | refine Wn (by omega) (by omega) (fun _ _ _ => ?_) | refine Wo (by omega) (by omega) ?_ | refine Wp (by omega) (by omega) (by omega) ?_ | refine Wq (by omega) (by omega) ?_ | refine Wr (by decide) (by omega) (by omega) ?_ | refine Ws (by decide) ?_ | refine Wx (fun _ => ?_) ?_ | refine Wy (fun _ => ?_) ?_ | refine Wz (fun _ => ?_) | refine WA (fun _ => ?_) | refine WB (by assumption) (by omega) ?_ | refine WC (by omega) (by omega) (fun _ _ => ?_) | refine WD (by omega) (by omega) (fun _ _ => ?_) | refine WE (by omega) (by omega) (by omega) ?_)
      | refine on_box (St.box_at _ _ _) ?_
      | refine rows_note (((((hR.set hb0 _).set hb0 _).set hb0 _).set hb0 _).set hb0 _) ht (fun w1' st1 hr1 hb1 => ?_)
      | refine on_box ((congrFun hb1 b).trans (St.box_at _ _ _)) ?_
      | with_reducible refine WF ?_)
    all_goals exact fin (h w1' _ q c3 hr.1 (hr1.set hb0 _) (St.box_at _ _ _)) rfl
  · have e : (true && decide (ends = (atP s p).1) && decide ((atP s q).1 = (atP s p).1)) = true := by simp [*]
    rw [e] at h
    refine AW_seq2 (aw_of tys_ok ?_)
    repeat' ((conv => whnf); first
      | (with_reducible first | exact Wa | exact Wb | exact Wc | refine Wd (by kernel_rfl) ?_ | refine We ?_ ?_ ?_ | refine W8 (by decide +kernel) ?_ ?_ ?_ | refine W9 ?_ ?_ ?_ | refine Wt (by first | assumption | omega) ?_ | refine Wu (by first | assumption | omega) ?_ | refine Wv (by omega) ?_ | refine Ww (by omega) ?_ | refine Wf (by decide) (fun _ => ?_) (fun _ => ?_) | refine Wg (fun _ => ?_) (fun _ => ?_) | refine Wh (fun _ => ?_) (fun _ => ?_) | refine Wi ?_ | refine Wj ?_ | refine Wk (fun _ => ?_) (fun _ => ?_) | refine Wl (fun _ => ?_) | refine Wm (by assumption) (by omega) ?_ | refine Wn (by omega) (by omega) (fun _ _ _ => ?_) | refine Wo (by omega) (by omega) ?_ | refine Wp (by omega) (by omega) (by omega) ?_ | refine Wq (by omega) (by omega) ?_ | refine Wr (by decide) (by omega) (by omega) ?_ | refine Ws (by decide) ?_ | refine Wx (fun _ => ?_) ?_ | refine Wy (fun _ => ?_) ?_ | refine Wz (fun _ => ?_) | refine WA (fun _ => ?_) | refine WB (by assumption) (by omega) ?_ | refine WC (by omega) (by omega) (fun _ _ => ?_) | refine WD (by omega) (by omega) (fun _ _ => ?_) | refine WE (by omega) (by omega) (by omega) ?_)
      | refine on_box (St.box_at _ _ _) ?_
      | with_reducible refine WF ?_)
    refine AW_seq2 (aw_of tys_ok ?_)
    repeat' ((conv => whnf); first
      | (with_reducible first | exact Wa | exact Wb | exact Wc | refine Wd (by kernel_rfl) ?_ | refine We ?_ ?_ ?_ | refine W8 (by decide +kernel) ?_ ?_ ?_ | refine W9 ?_ ?_ ?_ | refine Wt (by first | assumption | omega) ?_ | refine Wu (by first | assumption | omega) ?_ | refine Wv (by omega) ?_ | refine Ww (by omega) ?_ | refine Wf (by decide) (fun _ => ?_) (fun _ => ?_) | refine Wg (fun _ => ?_) (fun _ => ?_) | refine Wh (fun _ => ?_) (fun _ => ?_) | refine Wi ?_ | refine Wj ?_ | refine Wk (fun _ => ?_) (fun _ => ?_) | refine Wl (fun _ => ?_) | refine Wm (by assumption) (by omega) ?_ | refine Wn (by omega) (by omega) (fun _ _ _ => ?_) | refine Wo (by omega) (by omega) ?_ | refine Wp (by omega) (by omega) (by omega) ?_ | refine Wq (by omega) (by omega) ?_ | refine Wr (by decide) (by omega) (by omega) ?_ | refine Ws (by decide) ?_ | refine Wx (fun _ => ?_) ?_ | refine Wy (fun _ => ?_) ?_ | refine Wz (fun _ => ?_) | refine WA (fun _ => ?_) | refine WB (by assumption) (by omega) ?_ | refine WC (by omega) (by omega) (fun _ _ => ?_) | refine WD (by omega) (by omega) (fun _ _ => ?_) | refine WE (by omega) (by omega) (by omega) ?_)
      | refine on_box (St.box_at _ _ _) ?_
      | with_reducible refine WF ?_)
    refine AW_seq2 (aw_of tys_ok ?_)
    repeat' ((conv => whnf); first
      | (with_reducible first | exact Wa | exact Wb | exact Wc | refine Wd (by kernel_rfl) ?_ | refine We ?_ ?_ ?_ | refine W8 (by decide +kernel) ?_ ?_ ?_ | refine W9 ?_ ?_ ?_ | refine Wt (by first | assumption | omega) ?_ | refine Wu (by first | assumption | omega) ?_ | refine Wv (by omega) ?_ | refine Ww (by omega) ?_ | refine Wf (by decide) (fun _ => ?_) (fun _ => ?_) | refine Wg (fun _ => ?_) (fun _ => ?_) | refine Wh (fun _ => ?_) (fun _ => ?_) | refine Wi ?_ | refine Wj ?_ | refine Wk (fun _ => ?_) (fun _ => ?_) | refine Wl (fun _ => ?_) | refine Wm (by assumption) (by omega) ?_ | refine Wn (by omega) (by omega) (fun _ _ _ => ?_) | refine Wo (by omega) (by omega) ?_ | refine Wp (by omega) (by omega) (by omega) ?_ | refine Wq (by omega) (by omega) ?_ | refine Wr (by decide) (by omega) (by omega) ?_ | refine Ws (by decide) ?_ | refine Wx (fun _ => ?_) ?_ | refine Wy (fun _ => ?_) ?_ | refine Wz (fun _ => ?_) | refine WA (fun _ => ?_) | refine WB (by assumption) (by omega) ?_ | refine WC (by omega) (by omega) (fun _ _ => ?_) | refine WD (by omega) (by omega) (fun _ _ => ?_) | refine WE (by omega) (by omega) (by omega) ?_)
      | refine hbl (St.box_at _ _ _) ?_
      | with_reducible refine WF ?_)
    refine AW_seq2 (aw_of tys_ok ?_)
    repeat' ((conv => whnf); first
      | (with_reducible first | exact Wa | exact Wb | exact Wc | refine Wd (by kernel_rfl) ?_ | refine We ?_ ?_ ?_ | refine W8 (by decide +kernel) ?_ ?_ ?_ | refine W9 ?_ ?_ ?_ | refine Wt (by first | assumption | omega) ?_ | refine Wu (by first | assumption | omega) ?_ | refine Wv (by omega) ?_ | refine Ww (by omega) ?_ | refine Wf (by decide) (fun _ => ?_) (fun _ => ?_) | refine Wg (fun _ => ?_) (fun _ => ?_) | refine Wh (fun _ => ?_) (fun _ => ?_) | refine Wi ?_ | refine Wj ?_ | refine Wk (fun _ => ?_) (fun _ => ?_) | refine Wl (fun _ => ?_) | refine Wm (by assumption) (by omega) ?_ | refine Wn (by omega) (by omega) (fun _ _ _ => ?_) | refine Wo (by omega) (by omega) ?_ | refine Wp (by omega) (by omega) (by omega) ?_ | refine Wq (by omega) (by omega) ?_ | refine Wr (by decide) (by omega) (by omega) ?_ | refine Ws (by decide) ?_ | refine Wx (fun _ => ?_) ?_ | refine Wy (fun _ => ?_) ?_ | refine Wz (fun _ => ?_) | refine WA (fun _ => ?_) | refine WB (by assumption) (by omega) ?_ | refine WC (by omega) (by omega) (fun _ _ => ?_) | refine WD (by omega) (by omega) (fun _ _ => ?_) | refine WE (by omega) (by omega) (by omega) ?_)
      | refine on_box (St.box_at _ _ _) ?_
      | with_reducible refine WF ?_)
    rcases hin : inlF s p q with _ | _
    all_goals rw [hin] at h
    · have hno : ¬ blkF s q < s.length ∨ (blkF s q < s.length ∧ ¬ (atP s (blkF s q)).1 = (atP s p).1) := by
        by_cases h1 : blkF s q < s.length
        · exact .inr ⟨h1, fun x => by unfold inlF at hin; simp [h1, x] at hin⟩
        · exact .inl h1
      rcases hno with hno | ⟨hy, hno⟩
      all_goals refine AW_seq2 (aw_of tys_ok ?_)
      repeat' ((conv => whnf); first
        | (with_reducible first | exact Wa | exact Wb | exact Wc | refine Wd (by kernel_rfl) ?_ | refine We ?_ ?_ ?_ | refine W8 (by decide +kernel) ?_ ?_ ?_ | refine W9 ?_ ?_ ?_ | refine Wt (by first | assumption | omega) ?_ | refine Wu (by first | assumption | omega) ?_ | refine Wv (by omega) ?_ | refine Ww (by omega) ?_ | refine Wf (by decide) (fun _ => ?_) (fun _ => ?_) | refine Wg (fun _ => ?_) (fun _ => ?_) | refine Wh (fun _ => ?_) (fun _ => ?_) | refine Wi ?_ | refine Wj ?_ | refine Wk (fun _ => ?_) (fun _ => ?_) | refine Wl (fun _ => ?_) | refine Wm (by assumption) (by omega) ?_ | refine Wn (by omega) (by omega) (fun _ _ _ => ?_) | refine Wo (by omega) (by omega) ?_ | refine Wp (by omega) (by omega) (by omega) ?_ | refine Wq (by omega) (by omega) ?_ | refine Wr (by decide) (by omega) (by omega) ?_ | refine Ws (by decide) ?_ | refine Wx (fun _ => ?_) ?_ | refine Wy (fun _ => ?_) ?_ | refine Wz (fun _ => ?_) | refine WA (fun _ => ?_) | refine WB (by assumption) (by omega) ?_ | refine WC (by omega) (by omega) (fun _ _ => ?_) | refine WD (by omega) (by omega) (fun _ _ => ?_) | refine WE (by omega) (by omega) (by omega) ?_)
        | refine to_at (by omega) hv c3 c4 hr.1 (St.box_at _ _ _) ?_
        | refine on_box (St.box_at _ _ _) ?_
        | refine WJ (fun _ => ?_)
        | with_reducible refine WF ?_)
      all_goals refine aw_of tys_ok ?_
      repeat' ((conv => whnf); first
        | refine draw_mix [(0, true), (1, true), (2, true), (3, true), (4, true), (5, true), (6, true), (7, false), (8, true), (9, true), (10, false)] [] (by decide +kernel) ?_
        | (with_reducible first | exact Wa | exact Wb | exact Wc | refine Wd (by kernel_rfl) ?_ | refine We ?_ ?_ ?_ | refine W8 (by decide +kernel) ?_ ?_ ?_ | refine W9 ?_ ?_ ?_ | refine Wt (by first | assumption | omega) ?_ | refine Wu (by first | assumption | omega) ?_ | refine Wv (by omega) ?_ | refine Ww (by omega) ?_ | refine Wf (by decide) (fun _ => ?_) (fun _ => ?_) | refine Wg (fun _ => ?_) (fun _ => ?_) | refine Wh (fun _ => ?_) (fun _ => ?_) | refine Wi ?_ | refine Wj ?_ | refine Wk (fun _ => ?_) (fun _ => ?_) | refine Wl (fun _ => ?_) | refine Wm (by assumption) (by omega) ?_ | refine Wn (by omega) (by omega) (fun _ _ _ => ?_) | refine Wo (by omega) (by omega) ?_ | refine Wp (by omega) (by omega) (by omega) ?_ | refine Wq (by omega) (by omega) ?_ | refine Wr (by decide) (by omega) (by omega) ?_ | refine Ws (by decide) ?_ | refine Wx (fun _ => ?_) ?_ | refine Wy (fun _ => ?_) ?_ | refine Wz (fun _ => ?_) | refine WA (fun _ => ?_) | refine WB (by assumption) (by omega) ?_ | refine WC (by omega) (by omega) (fun _ _ => ?_) | refine WD (by omega) (by omega) (fun _ _ => ?_) | refine WE (by omega) (by omega) (by omega) ?_)
        | refine on_box (St.box_at _ _ _) ?_
        | refine rows_note ((((((hR.set hb0 _).set hb0 _).set hb0 _).set hb0 _).set hb0 _).set hb0 _) ht (fun w1' st1 hr1 hb1 => ?_)
        | refine on_box ((congrFun hb1 b).trans (St.box_at _ _ _)) ?_
        | with_reducible refine WF ?_)
      all_goals exact fin (h w1' _ (blkF s q) c4 (Nat.le_refl _) (hr1.set hb0 _) (St.box_at _ _ _)) rfl
    · have hy : blkF s q < s.length ∧ (atP s (blkF s q)).1 = (atP s p).1 := by unfold inlF at hin; simpa using hin
      obtain ⟨hy1, hy2⟩ := hy
      refine AW_seq2 (aw_of tys_ok ?_)
      repeat' ((conv => whnf); first
        | (with_reducible first | exact Wa | exact Wb | exact Wc | refine Wd (by kernel_rfl) ?_ | refine We ?_ ?_ ?_ | refine W8 (by decide +kernel) ?_ ?_ ?_ | refine W9 ?_ ?_ ?_ | refine Wt (by first | assumption | omega) ?_ | refine Wu (by first | assumption | omega) ?_ | refine Wv (by omega) ?_ | refine Ww (by omega) ?_ | refine Wf (by decide) (fun _ => ?_) (fun _ => ?_) | refine Wg (fun _ => ?_) (fun _ => ?_) | refine Wh (fun _ => ?_) (fun _ => ?_) | refine Wi ?_ | refine Wj ?_ | refine Wk (fun _ => ?_) (fun _ => ?_) | refine Wl (fun _ => ?_) | refine Wm (by assumption) (by omega) ?_ | refine Wn (by omega) (by omega) (fun _ _ _ => ?_) | refine Wo (by omega) (by omega) ?_ | refine Wp (by omega) (by omega) (by omega) ?_ | refine Wq (by omega) (by omega) ?_ | refine Wr (by decide) (by omega) (by omega) ?_ | refine Ws (by decide) ?_ | refine Wx (fun _ => ?_) ?_ | refine Wy (fun _ => ?_) ?_ | refine Wz (fun _ => ?_) | refine WA (fun _ => ?_) | refine WB (by assumption) (by omega) ?_ | refine WC (by omega) (by omega) (fun _ _ => ?_) | refine WD (by omega) (by omega) (fun _ _ => ?_) | refine WE (by omega) (by omega) (by omega) ?_)
        | refine to_at (by omega) hv c3 c4 hr.1 (St.box_at _ _ _) ?_
        | refine on_box (St.box_at _ _ _) ?_
        | refine WJ (fun _ => ?_)
        | with_reducible refine WF ?_)
      refine aw_of tys_ok ?_
      repeat' ((conv => whnf); first
        | refine draw_mix [(0, true), (1, true), (2, true), (3, true), (4, true), (5, true), (6, true), (7, false), (8, true), (9, true), (10, false)] [] (by decide +kernel) ?_
        | (with_reducible first | exact Wa | exact Wb | exact Wc | refine Wd (by kernel_rfl) ?_ | refine We ?_ ?_ ?_ | refine W8 (by decide +kernel) ?_ ?_ ?_ | refine W9 ?_ ?_ ?_ | refine Wt (by first | assumption | omega) ?_ | refine Wu (by first | assumption | omega) ?_ | refine Wv (by omega) ?_ | refine Ww (by omega) ?_ | refine Wf (by decide) (fun _ => ?_) (fun _ => ?_) | refine Wg (fun _ => ?_) (fun _ => ?_) | refine Wh (fun _ => ?_) (fun _ => ?_) | refine Wi ?_ | refine Wj ?_ | refine Wk (fun _ => ?_) (fun _ => ?_) | refine Wl (fun _ => ?_) | refine Wm (by assumption) (by omega) ?_ | refine Wn (by omega) (by omega) (fun _ _ _ => ?_) | refine Wo (by omega) (by omega) ?_ | refine Wp (by omega) (by omega) (by omega) ?_ | refine Wq (by omega) (by omega) ?_ | refine Wr (by decide) (by omega) (by omega) ?_ | refine Ws (by decide) ?_ | refine Wx (fun _ => ?_) ?_ | refine Wy (fun _ => ?_) ?_ | refine Wz (fun _ => ?_) | refine WA (fun _ => ?_) | refine WB (by assumption) (by omega) ?_ | refine WC (by omega) (by omega) (fun _ _ => ?_) | refine WD (by omega) (by omega) (fun _ _ => ?_) | refine WE (by omega) (by omega) (by omega) ?_)
        | refine on_box (St.box_at _ _ _) ?_
        | refine rows_note (((((((hR.set hb0 _).set hb0 _).set hb0 _).set hb0 _).set hb0 _).set hb0 _).set hb0 _) ht (fun w1' st1 hr1 hb1 => ?_)
        | refine on_box ((congrFun hb1 b).trans (St.box_at _ _ _)) ?_
        | with_reducible refine WF ?_)
      all_goals exact fin (h w1' _ (blkF s q) c4 (Nat.le_refl _) (hr1.set hb0 _) (St.box_at _ _ _)) rfl
end
end Go.Proofs.YtkcapphlemoccaaGreatDoor
set_option linter.unusedVariables false
set_option linter.unusedSimpArgs false
namespace Go.Aw
open Go
theorem span_tl {p : Nat × Nat → Bool} {l r : List UInt8} {m : Nat} (hv : Vd l) (hb : Bd l m) (hm : m ≤ l.length) (h : spanD p l < m) : spanD p (tr l m r) = spanD p l := by
  induction hb with
  | zero l => omega
  | @step l k hne hb ih =>
    have hp := decR_pos l
    have hd := dec_tr (r := r) hv (by omega) hm (.step hne hb)
    have hne' : tr l ((decR l).2 + k) r ≠ [] := fun e => by
      have := congrArg List.length e
      rw [tr_len hm] at this; simp only [List.length_nil] at this; omega
    cases hc : p (decR l) with
    | false => rw [spanD_no hc, spanD_no (by rw [hd.1]; exact hc)]
    | true =>
      rw [spanD_yes hne hc] at h ⊢
      rw [spanD_yes hne' (by rw [hd.1]; exact hc), hd.1, tr_drop (by omega) hm, show (decR l).2 + k - (decR l).2 = k by omega, ih (hv.rune hne).2 (by rw [List.length_drop]; omega) (by omega)]
theorem class_lo {c : Int} (h0 : 32 < c) (h : c < 127) : classF c ≠ 1 := by
  have key : ∀ k : Nat, k < 127 → 32 < k → classF (k : Nat) ≠ 1 := by decide
  have := key c.toNat (by omega) (by omega)
  rwa [show ((c.toNat : Nat) : Int) = c by omega] at this
theorem blank_lo {l : List UInt8} (h0 : 32 < hdF l) (h : hdF l < 127) : spanR (fun c => classF c == 1) l = 0 := by
  refine spanR_no ?_
  rw [(decR_hd (by omega) (by omega)).2]
  exact beq_false_of_ne (class_lo h0 h)
theorem pre_tr {w l r : List UInt8} {m j : Nat} (hm : m ≤ l.length) (hj : j < m) {q : UInt8} (hq : l[j]? = some q) (hw : q ∉ w) : w.isPrefixOf (tr l m r) = w.isPrefixOf l := by
  have h1 : w.isPrefixOf (tr l m r) = true ↔ w.isPrefixOf l = true := by
    rw [List.isPrefixOf_iff_prefix, List.isPrefixOf_iff_prefix, List.prefix_iff_eq_take, List.prefix_iff_eq_take]
    by_cases hl : w.length ≤ j
    · rw [tr_take (by omega) hm]
    · have key : ∀ x : List UInt8, x[j]? = some q → ¬ w = x.take w.length := fun x hx e => by
        apply hw
        have : w[j]? = some q := by
          rw [e, List.getElem?_take_of_lt (by omega)]; exact hx
        exact List.mem_of_getElem? this
      refine ⟨fun e => absurd e (key _ ?_), fun e => absurd e (key _ hq)⟩
      unfold tr
      rw [List.getElem?_append_left (by rw [List.length_take]; omega), List.getElem?_take_of_lt hj]
      exact hq
  cases h2 : w.isPrefixOf (tr l m r) with
  | true => rw [h1.1 h2]
  | false =>
    cases h3 : w.isPrefixOf l with
    | true => rw [h1.2 h3] at h2; exact absurd h2 (by decide)
    | false => rfl
theorem namG_tr {l l' : List UInt8} : ∀ (ws : List (List UInt8)) (i : Nat) (p : Nat × Nat), (∀ w ∈ ws, w.isPrefixOf l' = w.isPrefixOf l) → namG l' ws i p = namG l ws i p
  | [], _, p, _ => rfl
  | w :: ws, i, p, h => by
    unfold namG
    rw [h w List.mem_cons_self, namG_tr ws _ _ (fun x hx => h x (List.mem_cons_of_mem _ hx))]
theorem nameT_q : ∀ w ∈ nameT, (34 : UInt8) ∉ w ∧ (39 : UInt8) ∉ w := by
  have h : nameT.all (fun w => !w.contains 34 && !w.contains 39) = true := by decide +kernel
  intro w hw
  have := List.all_eq_true.1 h w hw
  simpa using this
theorem namF_tr {l r : List UInt8} {m j : Nat} (hm : m ≤ l.length) (hj : j < m) (hq : hdF (l.drop j) = 34 ∨ hdF (l.drop j) = 39) : namF (tr l m r) = namF l := by
  have hlt := hdF_lt_len (l := l) (k := j) (by omega)
  have hb := List.getElem?_eq_getElem hlt
  have hd := hdF_at hb
  have e : namG (tr l m r) nameT 0 (0, 0) = namG l nameT 0 (0, 0) := namG_tr _ _ _ (fun w hw => by
    have := nameT_q w hw
    refine pre_tr hm hj hb ?_
    rcases hq with h | h
    · have : l[j] = 34 := by apply UInt8.toNat_inj.1; show l[j].toNat = 34; omega
      rw [this]; exact (nameT_q w hw).1
    · have : l[j] = 39 := by apply UInt8.toNat_inj.1; show l[j].toNat = 39; omega
      rw [this]; exact (nameT_q w hw).2)
  unfold namF
  rw [e]
theorem numV_tr {base : Int} {l r : List UInt8} {m : Nat} {p : Int × Nat} (hr : Brk r) (hm : m ≤ l.length) (h : numV base l = some p) (hp : p.2 ≤ m) : numV base (tr l m r) = some p := by
  unfold numV at h ⊢
  split at h
  · cases h
  · rename_i hc
    injection h with h
    subst h
    dsimp only at hp
    rw [row_tr hr hm hp, val_tr hr hm hp, if_neg hc]
theorem esc_tr {tx : Bool} {l r : List UInt8} {m j : Nat} {p : Int × Nat} (hr : Brk r) (hm : m ≤ l.length) (h : escF tx l = some p) (hj : p.2 ≤ j) (hjm : j < m) (hq : hdF (l.drop j) = 34 ∨ hdF (l.drop j) = 39) :
    2 ≤ p.2 ∧ 32 < hdF (l.drop 1) ∧ hdF (l.drop 1) < 127 ∧ escF tx (tr l m r) = some p := by
  have hmp : p.2 ≤ m - 1 := by omega
  have e1 : 1 < m → hdF ((tr l m r).drop 1) = hdF (l.drop 1) := fun h => tr_hd_at h hm
  have e2 : 2 < m → hdF ((tr l m r).drop 2) = hdF (l.drop 2) := fun h => tr_hd_at h hm
  have key : 2 ≤ p.2 ∧ 32 < hdF (l.drop 1) ∧ hdF (l.drop 1) < 127 := by
    unfold escF at h
    split at h
    · rename_i v hs
      injection h with h; subst h
      unfold sgnF at hs
      repeat' split at hs
      all_goals first | cases hs | skip
      all_goals exact ⟨Nat.le_refl 2, by omega, by omega⟩
    · repeat' split at h
      · injection h with h; subst h; exact ⟨by dsimp only; omega, by omega, by omega⟩
      · injection h with h; subst h; exact ⟨by show 2 ≤ 3; decide, by omega, by omega⟩
      · obtain ⟨q, hq', rfl⟩ := Option.map_eq_some_iff.1 h
        have := numV_le hq'
        exact ⟨by dsimp only; omega, by omega, by omega⟩
      · obtain ⟨q, hq', rfl⟩ := Option.map_eq_some_iff.1 h
        have := numV_le hq'
        exact ⟨by dsimp only; omega, by omega, by omega⟩
      · obtain ⟨q, hq', rfl⟩ := Option.map_eq_some_iff.1 h
        have := numV_le hq'
        exact ⟨by dsimp only; omega, by omega, by omega⟩
      · rename_i hn
        injection h with h; subst h
        have hl : 65 ≤ hdF (l.drop 1) ∧ hdF (l.drop 1) ≤ 90 := by
          by_cases hx : 65 ≤ hdF (l.drop 1) ∧ hdF (l.drop 1) ≤ 90
          · exact hx
          · rw [namF_0 hx] at hn; exact absurd hn (by decide)
        exact ⟨by dsimp only; omega, by omega, by omega⟩
      · cases h
  refine ⟨key.1, key.2.1, key.2.2, ?_⟩
  have e1 := e1 (by omega)
  have e2 := e2 (by omega)
  have d1 := tr_drop (l := l) (r := r) (m := m) (j := 1) (by omega) hm
  have d2 := tr_drop (l := l) (r := r) (m := m) (j := 2) (by omega) hm
  have n1 : ∀ {b q}, numV b (l.drop 1) = some q → q.2 + 1 ≤ m → numV b (tr (l.drop 1) (m - 1) r) = some q := fun h h2 => numV_tr hr (by rw [List.length_drop]; omega) h (by omega)
  have n2 : ∀ {b q}, numV b (l.drop 2) = some q → q.2 + 2 ≤ m → numV b (tr (l.drop 2) (m - 2) r) = some q := fun h h2 => numV_tr hr (by rw [List.length_drop]; omega) h (by omega)
  have nm : namF (tr (l.drop 1) (m - 1) r) = namF (l.drop 1) := namF_tr (j := j - 1) (by rw [List.length_drop]; omega) (by omega) (by rw [List.drop_drop, show 1 + (j - 1) = j by omega]; exact hq)
  unfold escF at h ⊢
  rw [e1, e2, d1, d2, nm]
  split
  · rename_i v hs; rw [hs] at h; exact h
  · rename_i hs
    rw [hs] at h
    dsimp only at h
    repeat' split at h
    · rename_i h1; rw [if_pos h1]; exact h
    · rename_i h1 h2; rw [if_neg h1, if_pos h2]; exact h
    · rename_i h1 h2 h3
      rw [if_neg h1, if_neg h2, if_pos h3]
      obtain ⟨q, hq', rfl⟩ := Option.map_eq_some_iff.1 h
      rw [n2 hq' (by dsimp only at hmp; omega)]; rfl
    · rename_i h1 h2 h3 h4
      rw [if_neg h1, if_neg h2, if_neg h3, if_pos h4]
      obtain ⟨q, hq', rfl⟩ := Option.map_eq_some_iff.1 h
      rw [n2 hq' (by dsimp only at hmp; omega)]; rfl
    · rename_i h1 h2 h3 h4 h5
      rw [if_neg h1, if_neg h2, if_neg h3, if_neg h4, if_pos h5]
      obtain ⟨q, hq', rfl⟩ := Option.map_eq_some_iff.1 h
      rw [n1 hq' (by dsimp only at hmp; omega)]; rfl
    · rename_i h1 h2 h3 h4 h5 h6
      rw [if_neg h1, if_neg h2, if_neg h3, if_neg h4, if_neg h5, if_pos h6]; exact h
    · cases h
theorem gap_tr {l r : List UInt8} {m : Nat} (hv : Vd l) (hb : Bd l m) (hm : m ≤ l.length) (h : 0 < gapN l) (hg : gapN l < m) : gapN (tr l m r) = gapN l := by
  unfold gapN at h hg ⊢
  split at h
  · rename_i hc
    rw [if_pos hc] at hg
    have b1 : Bd l 1 := (Cut.one (by omega) (by omega) (by omega)).bd
    have e : spanR (fun c => classF c == 1) ((tr l m r).drop 1) = spanR (fun c => classF c == 1) (l.drop 1) := by
      rw [tr_drop (by omega) hm]
      exact span_tl (b1.vd hv) (b1.sub hb (by omega)) (by rw [List.length_drop]; omega) (show spanR (fun c => classF c == 1) (l.drop 1) < m - 1 by omega)
    rw [tr_hd (by omega) hm, e, tr_hd_at (by omega) hm]
  · omega
theorem one_tr {tx : Bool} {l r : List UInt8} {m j : Nat} {p : Int × Nat} (hr : Brk r) (hv : Vd l) (hb : Bd l m) (hm : m ≤ l.length) (h : oneF tx l = .inr p) (hj : p.2 ≤ j) (hjm : j < m) (hq : hdF (l.drop j) = 34 ∨ hdF (l.drop j) = 39) :
    oneF tx (tr l m r) = .inr p := by
  have hle := oneF_le h
  cases l with
  | nil => cases h
  | cons a l =>
    have hd := dec_tr (r := r) hv (by omega) hm hb
    have h1 := tr_hd (l := a :: l) (r := r) (m := m) (by omega) hm
    have ht : ∃ t, tr (a :: l) m r = a :: t := by
      obtain ⟨k, rfl⟩ : ∃ k, m = k + 1 := ⟨m - 1, by omega⟩
      exact ⟨_, rfl⟩
    obtain ⟨t, ht⟩ := ht
    have hg := gap_tr (r := r) hv hb hm
    have he := esc_tr (tx := tx) (r := r) (p := p) (j := j) hr hm
    have hg0 : 32 < hdF ((a :: l).drop 1) → hdF ((a :: l).drop 1) < 127 → 1 < m → ¬ 0 < gapN (tr (a :: l) m r) := fun x y z => by
      have e := tr_hd_at (l := a :: l) (r := r) (m := m) (j := 1) z hm
      unfold gapN
      rw [if_neg]
      · exact Nat.lt_irrefl 0
      · rintro ⟨_, k, _⟩
        exact k (blank_lo (by omega) (by omega))
    rw [ht] at hd h1 hg he hg0 ⊢
    unfold oneF at h ⊢
    dsimp only at h ⊢
    rw [h1]
    split at h
    · rename_i h92
      rw [if_pos h92]
      split at h
      · rename_i hgp
        injection h with h
        subst h
        have e := hg hgp.2 (by dsimp only at hj; omega)
        rw [e, if_pos hgp]
      · rename_i hgp
        split at h
        · cases h
        · rename_i q hs
          injection h with h
          subst h
          obtain ⟨k1, k2, k3, k4⟩ := he hs hj hjm hq
          rw [if_neg (fun x => hg0 k2 k3 (by omega) x.2), k4]
    · rename_i h92
      rw [if_neg h92, hd.1]
      exact h
theorem Bd.word {w t : List UInt8} (h : ∀ b ∈ w, b.toNat < 128) : Bd (w ++ t) w.length := by
  induction w with
  | nil => exact .zero _
  | cons a w ih =>
    have e : (decR (a :: (w ++ t))).2 = 1 := by rw [decR_lo (h a List.mem_cons_self)]
    have := Bd.step (l := a :: (w ++ t)) (k := w.length) (by simp) (by rw [e]; exact ih (fun b hb => h b (List.mem_cons_of_mem _ hb)))
    rw [e, Nat.add_comm] at this
    exact this
theorem namG_is (l : List UInt8) : ∀ (ws : List (List UInt8)) (i : Nat) (p : Nat × Nat), (p.2 = 0 ∨ ∃ w, w ∈ nameT ∧ w <+: l ∧ p.2 = w.length) → (∀ w ∈ ws, w ∈ nameT) → (namG l ws i p).2 = 0 ∨ ∃ w, w ∈ nameT ∧ w <+: l ∧ (namG l ws i p).2 = w.length
  | [], _, p, h, _ => h
  | w :: ws, i, p, h, hw => by
    unfold namG
    refine namG_is l ws _ _ ?_ (fun x hx => hw x (List.mem_cons_of_mem _ hx))
    split
    · rename_i hc
      exact .inr ⟨w, hw w List.mem_cons_self, List.isPrefixOf_iff_prefix.1 hc.2, rfl⟩
    · exact h
theorem nameT_lo : ∀ w ∈ nameT, ∀ b ∈ w, b.toNat < 128 := by
  have h : nameT.all (fun w => w.all fun b => decide (b.toNat < 128)) = true := by decide +kernel
  intro w hw b hb
  have := List.all_eq_true.1 (List.all_eq_true.1 h w hw) b hb
  simpa using this
theorem escBd {tx : Bool} {l : List UInt8} {p : Int × Nat} (h92 : hdF l = 92) (h : escF tx l = some p) : Bd l p.2 := by
  have c1 : Cut l 1 := Cut.one (by omega) (by omega) (by omega)
  have c2 : 0 ≤ hdF (l.drop 1) → hdF (l.drop 1) < 128 → Bd (l.drop 1) 1 := fun h1 h2 => by
    cases hl : l.drop 1 with
    | nil => rw [hl] at h1; exact absurd h1 (by decide)
    | cons a r =>
      rw [hl] at h2
      have := Bd.word (w := [a]) (t := r) (fun b hb => by rw [List.mem_singleton] at hb; subst hb; have h2 : ((b.toNat : Nat) : Int) < 128 := h2; omega)
      exact this
  have c3 : 0 ≤ hdF (l.drop 1) → hdF (l.drop 1) < 128 → Bd l 2 := fun h1 h2 => Bd.add (i := 1) (j := 1) c1.bd (c2 h1 h2)
  unfold escF at h
  split at h
  · rename_i v hs
    injection h with h; subst h
    unfold sgnF at hs
    repeat' split at hs
    all_goals first | cases hs | skip
    all_goals exact c3 (by omega) (by omega)
  · repeat' split at h
    · injection h with h; subst h; exact c3 (by omega) (by omega)
    · rename_i h1 h2
      injection h with h; subst h
      have b2 := c3 (by omega) (by omega)
      refine Bd.add (i := 2) (j := 1) b2 ?_
      have hh : 0 ≤ hdF (l.drop 2) ∧ hdF (l.drop 2) < 128 := ⟨by omega, by omega⟩
      cases hl : l.drop 2 with
      | nil => rw [hl] at hh; exact absurd hh.1 (by decide)
      | cons a r =>
        rw [hl] at hh
        have := Bd.word (w := [a]) (t := r) (fun b hb => by rw [List.mem_singleton] at hb; subst hb; have h2 : ((b.toNat : Nat) : Int) < 128 := hh.2; omega)
        exact this
    · obtain ⟨q, hq', rfl⟩ := Option.map_eq_some_iff.1 h
      unfold numV at hq'
      split at hq'
      · cases hq'
      · injection hq' with hq'; subst hq'
        exact Bd.add (c3 (by omega) (by omega)) (Cut.row _ _).bd
    · obtain ⟨q, hq', rfl⟩ := Option.map_eq_some_iff.1 h
      unfold numV at hq'
      split at hq'
      · cases hq'
      · injection hq' with hq'; subst hq'
        exact Bd.add (c3 (by omega) (by omega)) (Cut.row _ _).bd
    · obtain ⟨q, hq', rfl⟩ := Option.map_eq_some_iff.1 h
      unfold numV at hq'
      split at hq'
      · cases hq'
      · injection hq' with hq'; subst hq'
        exact Bd.add c1.bd (Cut.row _ _).bd
    · rename_i hn
      injection h with h; subst h
      rcases namG_is (l.drop 1) nameT 0 (0, 0) (.inl rfl) (fun _ h => h) with e | ⟨w, hw, ⟨t, ht⟩, e⟩
      · have h7 : (namF (l.drop 1)).2 = (namG (l.drop 1) nameT 0 (0, 0)).2 := by simp only [namF]
        exact absurd hn (by omega)
      · have h7 : (namF (l.drop 1)).2 = (namG (l.drop 1) nameT 0 (0, 0)).2 := by simp only [namF]
        have e := h7.trans e
        dsimp only
        rw [e]
        refine Bd.add c1.bd ?_
        rw [← ht]
        exact Bd.word (nameT_lo w hw)
    · cases h
theorem text_tr {l r : List UInt8} {m n : Nat} (hr : Brk r) (hv : Vd l) (hb : Bd l m) (hm : m ≤ l.length) (h : textN l = .inr n) (hn : n ≤ m) : textN (tr l m r) = .inr n := by
  fun_induction textN l generalizing m n with
  | case1 l hc =>
    injection h with h; subst h
    rw [textN, if_pos (by rw [tr_hd (by omega) hm]; exact hc)]
  | case2 l hc e he => cases h
  | case3 l hc p hp q hq ih => cases h
  | case4 l hc p hp k hk ih =>
    injection h with h
    subst h
    have hl := textN_last _ _ hk
    have hle := oneF_le hp
    have h2 := hl.2
    rw [List.drop_drop] at h2
    have h1 := one_tr (r := r) (j := p.2 + (k - 1)) hr hv hb hm hp (by omega) (by omega) (.inl h2)
    have bp : Bd l p.2 := by
      unfold oneF at hp
      split at hp
      · cases hp
      · rename_i a t
        split at hp
        · rename_i h92
          split at hp
          · injection hp with hp; subst hp
            rename_i hg
            have hv' := hv
            have hge : gapN (a :: t) = (gapN (a :: t) - 1) + 1 := by omega
            have hx : hdF ((a :: t).drop (gapN (a :: t) - 1)) = 92 := by
              have := hg.2
              unfold gapN at this ⊢
              split at this
              · rename_i hc'
                rw [if_pos hc', show spanR (fun c => classF c == 1) ((a :: t).drop 1) + 2 - 1 = 1 + spanR (fun c => classF c == 1) ((a :: t).drop 1) by omega]; exact hc'.2.2
              · omega
            have := Cut.behind hv (k := gapN (a :: t) - 1) (by omega) (by omega) (by omega)
            rw [← hge] at this
            exact this.bd
          · split at hp
            · cases hp
            · rename_i q hs
              injection hp with hp; subst hp
              exact escBd h92 hs
        · split at hp
          · cases hp
          · injection hp with hp; subst hp
            exact Bd.one (by simp)
    rw [textN, if_neg (by rw [tr_hd (by omega) hm]; exact hc)]
    have h3 := ih (bp.vd hv) (bp.sub hb (by omega)) (by rw [List.length_drop]; omega) hk (by omega)
    rw [h1]
    dsimp only
    rw [tr_drop (by omega) hm, h3]
theorem char_tr {l r : List UInt8} {m n : Nat} (hr : Brk r) (hv : Vd l) (hb : Bd l m) (hm : m ≤ l.length) (h : charN l = .inr n) (hn : n ≤ m) : charN (tr l m r) = .inr n := by
  unfold charN at h
  split at h
  · cases h
  · rename_i h1
    split at h
    · cases h
    · rename_i p hp
      split at h
      · rename_i hx
        injection h with h; subst h
        have h2 := one_tr (r := r) (j := p.2) hr hv hb hm hp (Nat.le_refl _) (by omega) (.inr hx)
        unfold charN
        rw [if_neg (by rw [tr_hd (by omega) hm]; exact h1), h2]
        dsimp only
        rw [if_pos (by rw [tr_hd_at (by omega) hm]; exact hx)]
      · cases h
theorem one_err {tx : Bool} {l : List UInt8} {e : Int} (h : oneF tx l = .inl e) : e ≠ 0 := by
  unfold oneF at h
  split at h
  · injection h with h; omega
  · split at h
    · split at h
      · cases h
      · split at h
        · injection h with h; omega
        · cases h
    · split at h
      · injection h with h; omega
      · cases h
theorem text_err {l : List UInt8} {q : Nat × Int} (h : textN l = .inl q) : q.2 ≠ 0 := by
  fun_induction textN l generalizing q with
  | case1 l hc => cases h
  | case2 l hc e he => injection h with h; subst h; exact one_err he
  | case3 l hc p hp k hk ih => injection h with h; subst h; exact ih (q := k) hk
  | case4 l hc p hp k hk ih => cases h
theorem char_err {l : List UInt8} {q : Nat × Int} (h : charN l = .inl q) : q.2 ≠ 0 := by
  unfold charN at h
  split at h
  · injection h with h; subst h; exact (by decide : ¬ (50 : Int) = 0)
  · split at h
    · rename_i e he; injection h with h; subst h; exact one_err he
    · split at h
      · cases h
      · injection h with h; subst h; exact (by decide : ¬ (50 : Int) = 0)
theorem quo_tr {l r : List UInt8} {m : Nat} (hr : Brk r) (hv : Vd l) (hb : Bd l m) (h0 : 0 < m) (hm : m ≤ l.length) (h : (quoF l 0).2.2 = 0) (hn : (quoF l 0).2.1 ≤ m) : quoF (tr l m r) 0 = quoF l 0 := by
  have e1 := tr_hd (l := l) (r := r) h0 hm
  have d1 := tr_drop (l := l) (r := r) (m := m) (j := 1) (by omega) hm
  have hc : 0 ≤ hdF l → hdF l < 128 → ¬ (hdF l = 13 ∨ hdF l = 10 ∨ hdF l = 12) → Vd (l.drop 1) ∧ Bd (l.drop 1) (m - 1) := fun a b c =>
    have b1 := (Cut.one a b c).bd
    ⟨b1.vd hv, b1.sub hb (by omega)⟩
  have hl : m - 1 ≤ (l.drop 1).length := by rw [List.length_drop]; omega
  have e0 : ∀ x : List UInt8, x.drop 0 = x := fun x => rfl
  unfold quoF at h hn ⊢
  simp only [e0, Nat.zero_add] at h hn ⊢
  rw [e1, d1]
  by_cases h34 : hdF l = 34
  · have hq := hc (by omega) (by omega) (by omega)
    rw [if_pos h34] at h hn
    rw [if_pos h34, if_pos h34]
    cases ht : textN (l.drop 1) with
    | inl q =>
      rw [ht] at h
      dsimp only at h
      exact absurd h (text_err ht)
    | inr n =>
      rw [ht] at hn
      dsimp only at hn
      rw [text_tr hr hq.1 hq.2 hl ht (by omega)]
  · rw [if_neg h34] at h hn
    rw [if_neg h34, if_neg h34]
    by_cases h39 : hdF l = 39
    · have hq := hc (by omega) (by omega) (by omega)
      rw [if_pos h39] at h hn
      rw [if_pos h39, if_pos h39]
      cases ht : charN (l.drop 1) with
      | inl q =>
        rw [ht] at h
        dsimp only at h
        exact absurd h (char_err ht)
      | inr n =>
        rw [ht] at hn
        dsimp only at hn
        rw [char_tr hr hq.1 hq.2 hl ht (by omega)]
    · rw [if_neg h39, if_neg h39]
end Go.Aw
