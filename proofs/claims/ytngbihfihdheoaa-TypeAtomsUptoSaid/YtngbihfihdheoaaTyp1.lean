/-
  TYPES: what the readings come to, as plain functions; the measure that falls.
-/
import Derived.Test.YtngbihfihdheoaaRdr3
set_option linter.unusedVariables false
set_option pp.maxSteps 400
namespace Go.Proofs.Ytngbihfihdheoaa
open Go Go.Aw

/-- what falls with each token -/
def mu (s : Sta) : Nat := 4 * (s.toks.length - s.pos.toNat) + s.opn.length + (2 - s.wait.toNat)
theorem opn_mu (s : Sta) : s.opn.length ≤ mu s := by unfold mu; omega

theorem closed_len {s : Sta} (h : s.opn ≠ []) : (closedF s).opn.length + 1 = s.opn.length := by
  have : 0 < s.opn.length := List.length_pos_iff.2 h
  simp only [closedF, List.length_dropLast]
  omega
theorem at_lt {s : Sta} {t : Tk} (h : s.toks[s.pos.toNat]? = some t) : s.pos.toNat < s.toks.length := (List.getElem?_eq_some_iff.1 h).1

theorem end_mu {s : Sta} (h : (endF s).2.2 = 0) : mu (endF s).2.1 ≤ mu s ∧ ((endF s).1.kind ≠ 21 → mu (endF s).2.1 < mu s) := by
  unfold endF at h ⊢
  split
  · exact ⟨Nat.le_refl _, fun e => absurd rfl e⟩
  · split
    · rename_i e1 e2
      have := closed_len e1
      refine ⟨?_, fun _ => ?_⟩ <;> simp only [mu, closedF] at * <;> omega
    · rename_i e1 e2
      rw [if_neg e1, if_neg e2] at h
      cases h
theorem begin_mu {t : Tk} {s : Sta} (h0 : 0 ≤ s.pos) (h1 : 0 ≤ s.wait) (h2 : s.wait < 2) (ht : s.toks[s.pos.toNat]? = some t) : mu (beginF t s).2 < mu s := by
  have := at_lt ht
  unfold beginF
  split
  · rename_i e; simp only [mu]; rw [e, show Int.toNat 2 = 2 from rfl, show Int.toNat 1 = 1 from rfl]; omega
  · split
    · simp only [mu, openedF, List.length_append, List.length_singleton]; omega
    · simp only [mu]; omega
theorem line_mu {t : Tk} {s : Sta} (h0 : 0 ≤ s.pos) (h2 : s.wait ≤ 2) (ht : s.toks[s.pos.toNat]? = some t) : mu (lineF t s).2 < mu s := by
  have := at_lt ht
  unfold lineF
  split
  · rename_i e
    have := closed_len (topF_open e.1)
    simp only [mu, closedF] at *; omega
  · split <;> (simp only [mu]; omega)
theorem brace_mu {t : Tk} {s : Sta} (h0 : 0 ≤ s.pos) (ht : s.toks[s.pos.toNat]? = some t) (h : (braceF t s).2.2 = 0) : mu (braceF t s).2.1 < mu s := by
  have := at_lt ht
  unfold braceF at h ⊢
  split
  · simp only [mu, openedF, List.length_append, List.length_singleton]; omega
  · rename_i e1
    rw [if_neg e1] at h
    split
    · rename_i e2
      rw [if_pos e2] at h
      split
      · rename_i e3; rw [if_pos e3] at h; cases h
      · rename_i e3
        have := closed_len (s := s) (fun e => e3 (.inl e))
        simp only [mu, closedF] at *; omega
    · simp only [mu]; omega
theorem nextG_mu : ∀ (n : Nat) (s : Sta), 0 ≤ s.pos → 0 ≤ s.wait → s.wait ≤ 2 → (nextG n s).2.2 = 0 → mu (nextG n s).2.1 ≤ mu s ∧ ((nextG n s).1.kind ≠ 21 → mu (nextG n s).2.1 < mu s)
  | 0, s, h0, h1, h2, h => end_mu h
  | n + 1, s, h0, h1, h2, h => by
    unfold nextG at h ⊢
    cases ht : s.toks[s.pos.toNat]? with
    | none => rw [ht] at h; exact end_mu h
    | some t =>
      rw [ht] at h
      dsimp only at h ⊢
      split
      · rename_i e
        have := begin_mu h0 h1 e.2 ht
        exact ⟨Nat.le_of_lt this, fun _ => this⟩
      · rename_i e1
        rw [if_neg e1] at h
        have hl := line_mu h0 h2 ht
        split
        · rename_i e2
          rw [if_pos e2] at h
          split
          · rename_i e3
            rw [if_pos e3] at h
            have hz := lineF_zero e3
            have := nextG_mu n (lineF t s).2 (by rw [hz]; show 0 ≤ s.pos + 1; omega) (by rw [hz]; exact Int.le_refl _) (by rw [hz]; show (0 : Int) ≤ 2; decide) h
            exact ⟨by omega, fun e => by omega⟩
          · exact ⟨Nat.le_of_lt hl, fun _ => hl⟩
        · rename_i e2
          rw [if_neg e2] at h
          have := brace_mu h0 ht h
          exact ⟨Nat.le_of_lt this, fun _ => this⟩
theorem next_mu {s : Sta} (h : (nextM s).2.2 = 0) : mu (nextM s).2.1 ≤ mu s ∧ ((nextM s).1.kind ≠ 21 → mu (nextM s).2.1 < mu s) := by
  unfold nextM at h ⊢
  cases hm : mayF s with
  | false => rw [hm] at h; cases h
  | true =>
    rw [hm, if_pos rfl] at h
    rw [if_pos rfl]
    unfold mayF at hm
    simp only [Bool.and_eq_true, decide_eq_true_eq] at hm
    exact nextG_mu _ s (by omega) (by omega) (by omega) h

theorem end_err {s : Sta} (h : ¬ (endF s).2.2 = 0) : (endF s).1 = tk0 := by
  unfold endF at h ⊢
  split
  · rename_i e; rw [if_pos e] at h; exact absurd rfl h
  · rename_i e; rw [if_neg e] at h
    split
    · rename_i e; rw [if_pos e] at h; exact absurd rfl h
    · rfl
theorem brace_err {t : Tk} {s : Sta} (h : ¬ (braceF t s).2.2 = 0) : (braceF t s).1 = tk0 := by
  unfold braceF at h ⊢
  split
  · rename_i e; rw [if_pos e] at h; exact absurd rfl h
  · rename_i e; rw [if_neg e] at h
    split
    · rename_i e; rw [if_pos e] at h
      split
      · rfl
      · rename_i e; rw [if_neg e] at h; exact absurd rfl h
    · rename_i e; rw [if_neg e] at h; exact absurd rfl h
theorem nextG_err : ∀ (n : Nat) (s : Sta), ¬ (nextG n s).2.2 = 0 → (nextG n s).1 = tk0
  | 0, s, h => end_err h
  | n + 1, s, h => by
    unfold nextG at h ⊢
    cases ht : s.toks[s.pos.toNat]? with
    | none => rw [ht] at h; exact end_err h
    | some t =>
      rw [ht] at h
      dsimp only at h ⊢
      split
      · rename_i e; rw [if_pos e] at h; exact absurd rfl h
      · rename_i e; rw [if_neg e] at h
        split
        · rename_i e; rw [if_pos e] at h
          split
          · rename_i e; rw [if_pos e] at h; exact nextG_err n _ h
          · rename_i e; rw [if_neg e] at h; exact absurd rfl h
        · rename_i e; rw [if_neg e] at h; exact brace_err h
theorem next_err {s : Sta} (h : ¬ (nextM s).2.2 = 0) : (nextM s).1 = tk0 := by
  unfold nextM at h ⊢
  cases hm : mayF s with
  | false => rfl
  | true => rw [hm, if_pos rfl] at h; rw [if_pos rfl]; exact nextG_err _ _ h
theorem isF_ok {s : Sta} {k : Int} {x : List UInt8} (h : isF s k x = true) (hk : k ≠ 0) : (nextM s).2.2 = 0 := by
  apply Classical.byContradiction
  intro e
  unfold isF at h
  rw [next_err e] at h
  simp only [tk0, Bool.and_eq_true, beq_iff_eq] at h
  exact hk h.1.symm
theorem isF_mu {s : Sta} {k : Int} {x : List UInt8} (h : isF s k x = true) (hk : k ≠ 0) (hk2 : k ≠ 21) : mu (nextM s).2.1 < mu s := by
  refine (next_mu (isF_ok h hk)).2 fun e => ?_
  unfold isF at h
  simp only [Bool.and_eq_true, beq_iff_eq] at h
  exact hk2 (h.1.symm.trans e)
end Go.Proofs.Ytngbihfihdheoaa
