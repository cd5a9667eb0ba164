/-
  Parts of a proof: lemmas that the last text uses.
-/
import Derived.Test.YtkidoddkbhchkaaGreatDoorV3
import Derived.Lib.Join
set_option maxHeartbeats 16000000
set_option linter.unusedVariables false
set_option linter.unusedSimpArgs false
namespace Go.Aw
open Go
def tr (l : List UInt8) (m : Nat) (r : List UInt8) : List UInt8 := l.take m ++ r
def Brk (r : List UInt8) : Prop := hdF r = -1 ∨ hdF r = 32 ∨ hdF r = 10
theorem hdF_nil {r : List UInt8} (h : hdF r = -1) : r = [] := by
  cases r with
  | nil => rfl
  | cons a r => have h : ((a.toNat : Nat) : Int) = -1 := h; omega
theorem tr_zero {l r : List UInt8} : tr l 0 r = r := by unfold tr; rw [List.take_zero]; rfl
theorem tr_drop {l r : List UInt8} {m j : Nat} (h : j ≤ m) (hm : m ≤ l.length) : (tr l m r).drop j = tr (l.drop j) (m - j) r := by
  unfold tr; rw [List.drop_append_of_le_length (by rw [List.length_take]; omega), List.drop_take]
theorem tr_hd {l r : List UInt8} {m : Nat} (h : 0 < m) (hm : m ≤ l.length) : hdF (tr l m r) = hdF l := by
  cases l with
  | nil => simp only [List.length_nil] at hm; omega
  | cons a l =>
    obtain ⟨m, rfl⟩ : ∃ k, m = k + 1 := ⟨m - 1, by omega⟩
    rfl
theorem tr_hd_at {l r : List UInt8} {m j : Nat} (h : j < m) (hm : m ≤ l.length) : hdF ((tr l m r).drop j) = hdF (l.drop j) := by
  rw [tr_drop (by omega) hm, tr_hd (by omega) (by rw [List.length_drop]; omega)]
theorem tr_hd_end {l r : List UInt8} {m : Nat} (hm : m ≤ l.length) : hdF ((tr l m r).drop m) = hdF r := by
  rw [tr_drop (Nat.le_refl _) hm, Nat.sub_self, tr_zero]
theorem tr_take {l r : List UInt8} {m n : Nat} (h : n ≤ m) (hm : m ≤ l.length) : (tr l m r).take n = l.take n := by
  unfold tr
  rw [List.take_append_of_le_length (by rw [List.length_take]; omega), List.take_take, Nat.min_eq_left h]
theorem tr_len {l r : List UInt8} {m : Nat} (hm : m ≤ l.length) : (tr l m r).length = m + r.length := by
  unfold tr; rw [List.length_append, List.length_take, Nat.min_eq_left hm]
theorem row_brk {base : Int} {r : List UInt8} (hr : Brk r) : rowN base r = 0 := by
  cases r with
  | nil => rfl
  | cons a r =>
    unfold rowN
    rw [if_pos]
    by_cases h : digitF ((a.toNat : Nat) : Int) base < 0
    · exact h
    · have := digit_lo h
      unfold Brk at hr
      simp only [hdF] at hr
      omega
theorem row_tr {base : Int} {l r : List UInt8} {m : Nat} (hr : Brk r) (hm : m ≤ l.length) (h : rowN base l ≤ m) : rowN base (tr l m r) = rowN base l := by
  induction l generalizing m with
  | nil =>
    have : m = 0 := by simpa using hm
    subst this
    rw [tr_zero, row_brk hr]; rfl
  | cons a l ih =>
    cases m with
    | zero => rw [tr_zero, row_brk hr]; omega
    | succ m =>
      show rowN base (a :: tr l m r) = _
      unfold rowN at h ⊢
      split
      · rfl
      · rename_i hd
        rw [if_neg hd] at h
        rw [ih (by simpa using hm) (by omega)]
theorem val_tr {base v : Int} {l r : List UInt8} {m : Nat} (hr : Brk r) (hm : m ≤ l.length) (h : rowN base l ≤ m) : valF base v (tr l m r) = valF base v l := by
  induction l generalizing m v with
  | nil =>
    have : m = 0 := by simpa using hm
    subst this
    rw [tr_zero]
    cases r with
    | nil => rfl
    | cons a r =>
      have e := row_brk (base := base) hr
      unfold rowN at e
      unfold valF
      split at e
      · rename_i h; rw [if_pos h]
      · omega
  | cons a l ih =>
    cases m with
    | zero =>
      rw [tr_zero]
      unfold rowN at h
      split at h
      · rename_i hd
        unfold valF
        rw [if_pos hd]
        cases r with
        | nil => rfl
        | cons b r =>
          have e := row_brk (base := base) hr
          unfold rowN at e
          split at e
          · rename_i h; dsimp only; rw [if_pos h]
          · omega
      · omega
    | succ m =>
      show valF base v (a :: tr l m r) = _
      unfold rowN at h
      unfold valF
      split
      · rfl
      · rename_i hd
        rw [if_neg hd] at h
        rw [ih (by simpa using hm) (by omega)]
theorem frac_brk {r : List UInt8} (hr : Brk r) : fracN r = 0 := by
  unfold Brk at hr
  unfold fracN; rw [if_neg (fun e => by omega)]
theorem frac_tr {l r : List UInt8} {m : Nat} (hr : Brk r) (hm : m ≤ l.length) (h : fracN l ≤ m) : fracN (tr l m r) = fracN l := by
  cases m with
  | zero => rw [tr_zero, frac_brk hr]; omega
  | succ m =>
    have e1 := tr_hd (l := l) (r := r) (m := m + 1) (by omega) hm
    have e2 := tr_drop (l := l) (r := r) (m := m + 1) (j := 1) (by omega) hm
    rw [Nat.add_sub_cancel] at e2
    unfold fracN at h ⊢
    rw [e1, e2]
    by_cases hd : hdF l = 46
    · by_cases hz : rowN 10 (l.drop 1) = 0
      · rw [row_tr hr (by rw [List.length_drop]; omega) (by omega)]
      · rw [if_pos ⟨hd, hz⟩] at h
        rw [row_tr hr (by rw [List.length_drop]; omega) (by omega)]
    · rw [if_neg (fun e => hd e.1), if_neg (fun e => hd e.1)]
theorem sign_brk {r : List UInt8} (hr : Brk r) : signN r = 0 := by
  unfold Brk at hr
  unfold signN; rw [if_neg (fun e => by omega)]
theorem exp_brk {r : List UInt8} (hr : Brk r) : expN r = 0 := by
  unfold Brk at hr
  unfold expN; rw [if_neg (fun e => by omega)]
theorem exp_tr {l r : List UInt8} {m : Nat} (hr : Brk r) (hm : m ≤ l.length) (h : expN l ≤ m) : expN (tr l m r) = expN l := by
  cases m with
  | zero => rw [tr_zero, exp_brk hr]; omega
  | succ m =>
    have e1 := tr_hd (l := l) (r := r) (m := m + 1) (by omega) hm
    have e2 := tr_drop (l := l) (r := r) (m := m + 1) (j := 1) (by omega) hm
    rw [Nat.add_sub_cancel] at e2
    by_cases hd : hdF l = 101 ∨ hdF l = 69
    · cases m with
      | zero =>
        rw [tr_zero] at e2
        have z : expN l = 0 := by
          unfold expN at h ⊢
          by_cases hz : rowN 10 (l.drop (1 + signN (l.drop 1))) = 0
          · rw [if_neg (fun e => e.2 hz)]
          · rw [if_pos ⟨hd, hz⟩] at h; omega
        rw [z]
        unfold expN
        rw [if_neg]
        rintro ⟨_, h2⟩
        rw [e2, sign_brk hr, e2] at h2
        exact h2 (row_brk hr)
      | succ m =>
        have e3 : signN ((tr l (m + 1 + 1) r).drop 1) = signN (l.drop 1) := by
          unfold signN
          rw [tr_hd_at (by omega) hm]
        have hs : signN (l.drop 1) ≤ 1 := by unfold signN; split <;> omega
        have e4 := tr_drop (l := l) (r := r) (m := m + 1 + 1) (j := 1 + signN (l.drop 1)) (by omega) hm
        unfold expN at h ⊢
        rw [e1, e3, e4]
        by_cases hz : rowN 10 (l.drop (1 + signN (l.drop 1))) = 0
        · rw [row_tr hr (by rw [List.length_drop]; omega) (by omega)]
        · rw [if_pos ⟨hd, hz⟩] at h
          rw [row_tr hr (by rw [List.length_drop]; omega) (by omega)]
    · unfold expN
      rw [e1, if_neg (fun e => hd e.1), if_neg (fun e => hd e.1)]
theorem pref_tr {l r : List UInt8} {m : Nat} (hr : Brk r) (h0 : 0 < m) (hm : m ≤ l.length) (h : (prefF l).1 ≠ 10 → 2 + rowN (prefF l).1 (l.drop 2) ≤ m) : prefF (tr l m r) = prefF l := by
  have e1 := tr_hd (l := l) (r := r) h0 hm
  by_cases hd : hdF l = 48
  · by_cases h1 : m = 1
    · subst h1
      have e2 := tr_hd_end (l := l) (r := r) (m := 1) hm
      have z : (prefF l).1 = 10 := by
        by_cases hz : (prefF l).1 = 10
        · exact hz
        · have := h hz; omega
      have zz : prefF l = (10, 0) := by
        unfold prefF at z ⊢
        split
        · rename_i hc; rw [if_pos hc] at z; exact absurd z hc.2.1
        · rfl
      rw [zz]
      unfold prefF
      rw [if_neg]
      rintro ⟨_, h2, _⟩
      unfold Brk at hr
      unfold baseF at h2
      rw [e2, if_neg (by omega), if_neg (by omega)] at h2
      exact h2 rfl
    · have e2 : baseF (tr l m r) = baseF l := by
        unfold baseF
        rw [tr_hd_at (by omega) hm]
      have e3 := tr_drop (l := l) (r := r) (m := m) (j := 2) (by omega) hm
      by_cases hb : baseF l = 10
      · unfold prefF
        rw [e2, if_neg (fun e => e.2.1 hb), if_neg (fun e => e.2.1 hb)]
      · by_cases hz : rowN (baseF l) (l.drop 2) = 0
        · unfold prefF
          rw [e1, e2, e3, row_tr hr (by rw [List.length_drop]; omega) (by omega)]
        · have hp : prefF l = (baseF l, 2) := by unfold prefF; rw [if_pos ⟨hd, hb, hz⟩]
          rw [hp] at h
          have := h hb
          unfold prefF
          rw [e1, e2, e3, row_tr hr (by rw [List.length_drop]; omega) (by dsimp only at this; omega)]
  · unfold prefF
    rw [e1, if_neg (fun e => hd e.1), if_neg (fun e => hd e.1)]
theorem num_tr {l r : List UInt8} {m : Nat} (hr : Brk r) (h0 : 0 < m) (hm : m ≤ l.length) (h : (numF l).2 ≤ m) : numF (tr l m r) = numF l := by
  have e1 : prefF (tr l m r) = prefF l := pref_tr hr h0 hm (fun hp => by
    unfold numF at h
    rw [if_pos hp] at h; exact h)
  unfold numF at h ⊢
  rw [e1]
  by_cases hp : (prefF l).1 ≠ 10
  · rw [if_pos hp] at h
    dsimp only at h
    rw [if_pos hp, if_pos hp, tr_drop (by omega) hm, row_tr hr (by rw [List.length_drop]; omega) (by omega)]
  · rw [if_neg hp] at h
    rw [if_neg hp, if_neg hp]
    by_cases hz : rowN 10 l = 0
    · rw [row_tr hr hm (by omega), if_pos hz, if_pos hz]
    · rw [if_neg hz] at h
      dsimp only at h
      have r1 := row_tr (base := 10) hr hm (by omega : rowN 10 l ≤ m)
      have d1 := tr_drop (l := l) (r := r) (m := m) (j := rowN 10 l) (by omega) hm
      have f1 : fracN ((tr l m r).drop (rowN 10 l)) = fracN (l.drop (rowN 10 l)) := by
        rw [d1]; exact frac_tr hr (by rw [List.length_drop]; omega) (by omega)
      have x1 : expN ((tr l m r).drop (rowN 10 l + fracN (l.drop (rowN 10 l)))) = expN (l.drop (rowN 10 l + fracN (l.drop (rowN 10 l)))) := by
        rw [tr_drop (by omega) hm]; exact exp_tr hr (by rw [List.length_drop]; omega) (by omega)
      rw [r1, if_neg hz, if_neg hz, f1, x1]
theorem dec_tr {l r : List UInt8} {m : Nat} (hv : Vd l) (h0 : 0 < m) (hm : m ≤ l.length) (hb : Bd l m) : decR (tr l m r) = decR l ∧ (decR l).2 ≤ m := by
  have hne : l ≠ [] := fun e => by rw [e] at hm; simp only [List.length_nil] at hm; omega
  have hd : (decR l).2 ≤ m := by
    cases hb with
    | zero => omega
    | step _ _ => omega
  have := decR_pre hne (hv.rune hne).1 ((l.take m).drop (decR l).2 ++ r)
  rw [← List.append_assoc] at this
  rw [show l.take (decR l).2 = (l.take m).take (decR l).2 by rw [List.take_take, Nat.min_eq_left hd], List.take_append_drop] at this
  exact ⟨this, hd⟩
theorem span_tr {p : Nat × Nat → Bool} {l r : List UInt8} {m : Nat} (hv : Vd l) (hb : Bd l m) (hm : m ≤ l.length) (hr : spanD p r = 0) (h : spanD p l ≤ m) : spanD p (tr l m r) = spanD p l := by
  induction hb with
  | zero l => rw [tr_zero, hr]; omega
  | @step l k hne hb ih =>
    have hp := decR_pos l
    have hd := dec_tr (r := r) hv (by omega) hm (.step hne hb)
    have hne' : tr l ((decR l).2 + k) r ≠ [] := fun e => by
      have := congrArg List.length e
      rw [tr_len hm] at this; simp only [List.length_nil] at this; omega
    cases hc : p (decR l) with
    | false => rw [spanD_no hc, spanD_no (by rw [hd.1]; exact hc)]
    | true =>
      rw [spanD_yes hne hc] at h ⊢
      rw [spanD_yes hne' (by rw [hd.1]; exact hc), hd.1, tr_drop (by omega) hm, show (decR l).2 + k - (decR l).2 = k by omega, ih (hv.rune hne).2 (by rw [List.length_drop]; omega) (by omega)]
theorem brk_dec {r : List UInt8} (hr : Brk r) : r = [] ∨ (r ≠ [] ∧ (((decR r).1 : Nat) : Int) = 32) ∨ (r ≠ [] ∧ (((decR r).1 : Nat) : Int) = 10) := by
  rcases hr with h | h | h
  · exact .inl (hdF_nil h)
  · exact .inr (.inl ⟨fun e => by rw [e] at h; exact absurd h (by decide), by rw [(decR_hd (by omega) (by omega)).2, h]⟩)
  · exact .inr (.inr ⟨fun e => by rw [e] at h; exact absurd h (by decide), by rw [(decR_hd (by omega) (by omega)).2, h]⟩)
theorem span_brk {p : Int → Bool} {r : List UInt8} (hr : Brk r) (h1 : p 32 = false) (h2 : p 10 = false) : spanR p r = 0 := by
  rcases brk_dec hr with rfl | ⟨_, h⟩ | ⟨_, h⟩
  · exact spanR_nil p
  · exact spanR_no (by rw [h]; exact h1)
  · exact spanR_no (by rw [h]; exact h2)
theorem first_tr {l r : List UInt8} {m : Nat} (hv : Vd l) (hb : Bd l m) (h0 : 0 < m) (hm : m ≤ l.length) : firstF (tr l m r) = firstF l := by
  have hd := dec_tr (r := r) hv h0 hm hb
  cases l with
  | nil => simp only [List.length_nil] at hm; omega
  | cons a l =>
    obtain ⟨m, rfl⟩ : ∃ k, m = k + 1 := ⟨m - 1, by omega⟩
    have e : tr (a :: l) (m + 1) r = a :: tr l m r := rfl
    rw [e] at hd ⊢
    show classF ((decR (a :: tr l m r)).1 : Nat) = classF ((decR (a :: l)).1 : Nat)
    rw [hd.1]
theorem plain_tr {l r : List UInt8} {m : Nat} (hr : Brk r) (hv : Vd l) (hb : Bd l m) (h0 : 0 < m) (hm : m ≤ l.length) (h : (plainF l).2 ≤ m) : plainF (tr l m r) = plainF l := by
  have hs : spanR (fun c => classF c == 5) r = 0 := span_brk hr (by decide) (by decide)
  have hn : spanR inName r = 0 := span_brk hr (by decide) (by decide)
  unfold plainF at h ⊢
  rw [first_tr hv hb h0 hm]
  split
  · rfl
  · rename_i h6
    rw [if_neg h6] at h
    split
    · rename_i h5
      rw [if_pos h5] at h
      have e : spanR (fun c => classF c == 5) (tr l m r) = spanR (fun c => classF c == 5) l := span_tr hv hb hm hs h
      rw [e, tr_take h hm]
    · rename_i h5
      rw [if_neg h5] at h
      split
      · rename_i h3
        rw [if_pos h3] at h
        have e : nameN (tr l m r) = nameN l := span_tr hv hb hm hn h
        rw [e]
      · rename_i h3
        rw [if_neg h3] at h
        split
        · rename_i h2
          rw [if_pos h2] at h
          have e : nameN (tr l m r) = nameN l := span_tr hv hb hm hn h
          rw [e, tr_take h hm]
        · rfl
theorem Bd.sub {l : List UInt8} {i j : Nat} (h : Bd l i) (k : Bd l j) (hij : i ≤ j) : Bd (l.drop i) (j - i) := by
  induction h generalizing j with
  | zero l => exact k
  | @step l i hne h ih =>
    cases k with
    | zero => have := decR_pos l; omega
    | @step _ j' _ k =>
      rw [show (decR l).2 + j' - ((decR l).2 + i) = j' - i by omega, ← List.drop_drop]
      exact ih k (by omega)
theorem scanG_ge (s : List UInt8) (n : Nat) (k : Int) : n ≤ (scanG s n k).2 := by
  fun_induction scanG s n k with
  | case1 n k hn hc ih => omega
  | case2 n k hn hc => exact Nat.le_refl _
  | case3 n k hn => exact Nat.le_refl _
theorem plain_pos {l : List UInt8} (h : (plainF l).1 ≠ 0) : 0 < (plainF l).2 := by
  by_cases h0 : 0 < (plainF l).2
  · exact h0
  · exfalso
    cases l with
    | nil => exact h rfl
    | cons a r =>
      have hne : a :: r ≠ [] := by simp
      have hp := decR_pos (a :: r)
      apply h
      unfold plainF at h0 ⊢
      split
      · rename_i h6; rw [if_pos h6] at h0; simp only at h0; omega
      · rename_i h6
        rw [if_neg h6] at h0
        have key : ∀ p : Int → Bool, p (((decR (a :: r)).1 : Nat) : Int) = true → 0 < spanR p (a :: r) := fun p hp' => by
          rw [spanR_yes hne hp']; omega
        split
        · rename_i h5
          rw [if_pos h5] at h0
          have := key (fun c => classF c == 5) (beq_iff_eq.2 h5)
          simp only at h0; omega
        · rename_i h5
          rw [if_neg h5] at h0
          split
          · rename_i h3
            rw [if_pos h3] at h0
            have h3' : classF (((decR (a :: r)).1 : Nat) : Int) = 3 := h3
            have := key inName (by unfold inName; rw [h3']; rfl)
            unfold nameN at h0; simp only at h0; omega
          · rename_i h3
            rw [if_neg h3] at h0
            split
            · rename_i h2
              rw [if_pos h2] at h0
              have h2' : classF (((decR (a :: r)).1 : Nat) : Int) = 2 := h2
              have := key inName (by unfold inName; rw [h2']; rfl)
              unfold nameN at h0; simp only at h0; omega
            · rfl
theorem qual_pos {k : Int} (h : qualF k ≠ 0) : k ≠ 0 := fun e => by subst e; exact h (by decide)
theorem scanG_tr {l r : List UInt8} {n m : Nat} {k : Int} (hr : Brk r) (hv : Vd l) (hb : Bd l m) (hm : m ≤ l.length) (hc : Cut l n) (h : (scanG l n k).2 ≤ m) (hM : m = (scanG l n k).2 ∨ m = l.length) : scanG (tr l m r) n k = scanG l n k := by
  fun_induction scanG l n k with
  | case1 n k hn hx ih =>
    have hge := scanG_ge l (n + 1 + (plainF (l.drop (n + 1))).2) (qualF (plainF (l.drop (n + 1))).1)
    have hpp := plain_pos (qual_pos hx.2.2)
    have hd : hdF (l.drop n) = 46 := hx.2.1
    have c1 : Cut l (n + 1) := Cut.add hc (Cut.one (by omega) (by omega) (by omega))
    have hv1 := c1.bd.vd hv
    have hb1 := c1.bd.sub hb (by omega)
    have e0 := tr_drop (l := l) (r := r) (m := m) (j := n + 1) (by omega) hm
    have e1 : plainF ((tr l m r).drop (n + 1)) = plainF (l.drop (n + 1)) := by
      rw [e0]; exact plain_tr hr hv1 hb1 (by omega) (by rw [List.length_drop]; omega) (by omega)
    rw [scanG_go (s := tr l m r) (by rw [tr_len hm]; omega) ⟨hx.1, by rw [tr_hd_at (by omega) hm]; exact hd, by rw [e1]; exact hx.2.2⟩, e1]
    exact ih (Cut.add c1 (Cut.plain _)) h hM
  | case2 n k hn hx =>
    refine scanG_no ?_
    rintro ⟨y1, y2, y3, y4⟩
    have h : n ≤ m := h
    rcases hM with hM | hM
    · have hM : m = n := hM
      subst hM
      rw [tr_hd_end hm] at y3
      unfold Brk at hr; omega
    · subst hM
      rw [tr_hd_at hn hm] at y3
      refine hx ⟨y2, y3, ?_⟩
      have c1 : Cut l (n + 1) := Cut.add hc (Cut.one (by omega) (by omega) (by omega))
      have hv1 := c1.bd.vd hv
      have hb1 := c1.bd.sub hb (by omega)
      have e0 := tr_drop (l := l) (r := r) (m := l.length) (j := n + 1) (by omega) hm
      rw [e0] at y4
      by_cases hz : n + 1 < l.length
      · rwa [plain_tr hr hv1 hb1 (by omega) (by rw [List.length_drop]; omega) (by have := plainF_le (l.drop (n + 1)); rw [List.length_drop] at this; exact this)] at y4
      · rw [show l.length - (n + 1) = 0 by omega, tr_zero] at y4
        exfalso
        have e5 : (plainF r).1 = 0 := by
          rcases brk_dec hr with rfl | ⟨hne, h⟩ | ⟨hne, h⟩
          · rfl
          all_goals
            cases r with
            | nil => exact absurd rfl hne
            | cons a r =>
              have ef : firstF (a :: r) = 1 := by
                show classF (((decR (a :: r)).1 : Nat) : Int) = 1
                rw [h]; decide
              unfold plainF
              rw [ef]; rfl
        rw [e5] at y4
        exact y4 (by decide)
  | case3 n k hn =>
    refine scanG_no ?_
    rintro ⟨y1, y2, y3, y4⟩
    have h : n ≤ m := h
    have e : n = m := by omega
    subst e
    rw [tr_hd_end hm] at y3
    unfold Brk at hr; omega
theorem word_tr {l r : List UInt8} {m : Nat} (hr : Brk r) (hv : Vd l) (hb : Bd l m) (h0 : 0 < m) (hm : m ≤ l.length) (h : (wordF l).2 ≤ m) (hM : m = (wordF l).2 ∨ m = l.length) : wordF (tr l m r) = wordF l := by
  have hge := scanG_ge l (plainF l).2 (plainF l).1
  have e1 : plainF (tr l m r) = plainF l := plain_tr hr hv hb h0 hm (by unfold wordF at h; omega)
  unfold wordF
  rw [e1]
  exact scanG_tr hr hv hb hm (Cut.plain l) h hM
end Go.Aw
set_option maxHeartbeats 16000000
set_option linter.unusedVariables false
namespace Go.Aw
open Go
def tokV (k : Int) (t : List UInt8) (p : Int × Int) : List V := [.int .i64 k, .str t, .int .i64 p.1, .int .i64 p.2]
theorem rows_tok {st0 st : St} {w1 w2 : Own} {n2 : Nat} {o : List (List V)} {k a b : Int} {t : List UInt8} {K : V → St → Prop} (h : Rows2 st0 st w1 (o.length * 4) w2 n2) (hl : o.length ≤ 1000000000)
    (kk : ∀ w1' st', Rows2 st0 st' w1' ((o.length + 1) * 4) w2 n2 → st'.box = st.box → K (.slice 4 (o ++ [tokV k t (a, b)]) w1') st') : appendTo 4 40 o w1 [[.int .i64 k, .str t, .int .i64 a, .int .i64 b]] st K :=
  rows2_app h rfl (by rw [List.length_singleton]; omega) (by rw [List.length_singleton]; unfold lim; omega) rfl (by simp) (fun w1' st' hr hb => kk w1' st' hr hb)
end Go.Aw
namespace Go.Proofs.YtkidoddkbhchkaaGreatDoor
open Go Go.Aw
section
variable {st : St} {R : Res → St → Prop}
attribute [local irreducible] Go.Aw.appendTo
theorem token_c {st0 : St} {s : List UInt8} {b p sp q n2 : Nat} {k e0 ln col gap ends : Int} {toks notes : List (List V)} {w1 w2 : Own} {j : Bool} (hl : s.length ≤ 100000000) (hsp : sp ≤ p) (hpq : p ≤ q) (hq : q ≤ s.length) (hln : 1 ≤ ln ∧ ln ≤ 800000000) (hcol : 1 ≤ col ∧ col ≤ 1000000000)
    (hg : 0 ≤ gap ∧ gap ≤ 1000000000) (ht : toks.length ≤ 1000000000) (hb0 : st0.box b = none) (hR : Rows2 st0 st w1 (toks.length * 4) w2 n2) (hb : st.box b = some (lxC s p sp ln col toks notes w1 w2 gap ends j))
    (h : ∀ w1' st', Rows2 st0 st' w1' ((toks.length + 1) * 4) w2 n2 → st'.box b = some (lxC s q q (placeF s p q (placeF s sp p (ln, col))).1 (placeF s p q (placeF s sp p (ln, col))).2 (toks ++ [tokV k (pieceF s p q) (placeF s sp p (ln, col))]) notes w1' w2
        (if decide (¬ k = 15) || !Lib.contains [123, 125, 59] (pieceF s p q) then gap + 1 else gap) (placeF s p q (placeF s sp p (ln, col))).1 true) → R (.ret (.tup [])) st') : PC 48 [.ptr b 0, .agg [.int .i64 k, .int .i64 q, .int .i64 e0]] st R := by
  have z1 := place_b (s := s) (p := (ln, col)) hsp (by omega) hcol.1
  refine pcalls_of_aw tys_ok [] Tryz.func48 rfl (by decide) rfl ?_
  refine AW_seq2 (aw_of tys_ok ?_)
  repeat' ((conv => whnf); first | exact Yb0 | (refine Yb1 ?_; intros) | (refine Yb2 ?_ ?_ ?_; rotate_left) | (refine Yb3 ?_ ?_ <;> intro _) | with_reducible refine WF ?_)
  refine AW_seq2 (aw_of tys_ok ?_)
  repeat' ((conv => whnf); first | exact Yb0 | (refine Yb1 ?_; intros) | (refine Yb2 ?_ ?_ ?_; rotate_left) | (refine Yb3 ?_ ?_ <;> intro _) | refine to_k hl hsp (by omega) (by omega) (by omega) hb ?_ | refine on_box hb ?_ | with_reducible refine WF ?_)
  generalize placeF s sp p (ln, col) = pl1 at h z1 ⊢
  have z2 := place_b (s := s) (p := pl1) hpq hq z1.2.2.1
  dsimp only at z1 z2
  refine AW_seq2 (aw_of tys_ok ?_)
  repeat' ((conv => whnf); first | exact Yb0 | (refine Yb1 ?_; intros) | (refine Yb2 ?_ ?_ ?_; rotate_left) | (refine Yb3 ?_ ?_ <;> intro _) | refine piece_k hpq hq ?_ | refine on_box (St.box_at _ _ _) ?_ | with_reducible refine WF ?_)
  refine AW_seq2 (aw_of tys_ok ?_)
  repeat' ((conv => whnf); first | refine draw_mix [(0, true), (1, true), (2, true), (3, true), (4, true), (5, true), (6, true), (7, false), (8, true), (9, true), (10, false)] [] (by decide +kernel) ?_ | exact Yb0 | (refine Yb1 ?_; intros) | (refine Yb2 ?_ ?_ ?_; rotate_left) | (refine Yb3 ?_ ?_ <;> intro _) | refine on_box (St.box_at _ _ _) ?_ | refine rows_tok (hR.set hb0 _) ht (fun w1' st1 hr1 hb1 => ?_) | refine on_box ((congrFun hb1 b).trans (St.box_at _ _ _)) ?_ | with_reducible refine WF ?_)
  clear hR hb
  rcases hc : (decide (¬ k = 15) || !Lib.contains [123, 125, 59] (pieceF s p q)) with _ | _
  all_goals rw [hc] at h
  · have hcc : ∀ {st : St} {R : Res → St → Prop}, R (.ret (.bool false)) st → PC 94 [.agg [.int .i64 k, .str (pieceF s p q), .int .i64 pl1.1, .int .i64 pl1.2]] st R := fun h => counts_c (by rw [hc]; exact h)
    refine AW_seq2 (aw_of tys_ok ?_)
    repeat' ((conv => whnf); first | exact Yb0 | (refine Yb1 ?_; intros) | (refine Yb2 ?_ ?_ ?_; rotate_left) | (refine Yb3 ?_ ?_ <;> intro _) | refine hcc ?_ | refine on_box (St.box_at _ _ _) ?_ | with_reducible refine WF ?_)
    refine aw_of tys_ok ?_
    repeat' ((conv => whnf); first | exact Yb0 | (refine Yb1 ?_; intros) | (refine Yb2 ?_ ?_ ?_; rotate_left) | (refine Yb3 ?_ ?_ <;> intro _) | refine to_k hl hpq hq (by omega) (by omega) (St.box_at _ _ _) ?_ | refine on_box (St.box_at _ _ _) ?_ | with_reducible refine WF ?_)
    all_goals exact fin (h w1' _ ((((hr1.set hb0 _).set hb0 _).set hb0 _).set hb0 _) (St.box_at _ _ _)) rfl
  · have hcc : ∀ {st : St} {R : Res → St → Prop}, R (.ret (.bool true)) st → PC 94 [.agg [.int .i64 k, .str (pieceF s p q), .int .i64 pl1.1, .int .i64 pl1.2]] st R := fun h => counts_c (by rw [hc]; exact h)
    refine AW_seq2 (aw_of tys_ok ?_)
    repeat' ((conv => whnf); first | exact Yb0 | (refine Yb1 ?_; intros) | (refine Yb2 ?_ ?_ ?_; rotate_left) | (refine Yb3 ?_ ?_ <;> intro _) | refine hcc ?_ | refine on_box (St.box_at _ _ _) ?_ | with_reducible refine WF ?_)
    refine aw_of tys_ok ?_
    repeat' ((conv => whnf); first | exact Yb0 | (refine Yb1 ?_; intros) | (refine Yb2 ?_ ?_ ?_; rotate_left) | (refine Yb3 ?_ ?_ <;> intro _) | refine to_k hl hpq hq (by omega) (by omega) (St.box_at _ _ _) ?_ | refine on_box (St.box_at _ _ _) ?_ | with_reducible refine WF ?_)
    all_goals exact fin (h w1' _ (((((hr1.set hb0 _).set hb0 _).set hb0 _).set hb0 _).set hb0 _) (St.box_at _ _ _)) rfl
end
end Go.Proofs.YtkidoddkbhchkaaGreatDoor
set_option maxHeartbeats 16000000
set_option linter.unusedVariables false
namespace Go.Proofs.YtkidoddkbhchkaaGreatDoor
open Go Go.Aw
structure Nt where
  text : List UInt8
  gap : Int
  wh : Int
  line : Int
  col : Int
def Nt.cells (n : Nt) : List V := [.str n.text, .int .i64 n.gap, .int .i64 n.wh, .int .i64 n.line, .int .i64 n.col]
def encNs (l : List Nt) : List (List V) := l.map Nt.cells
structure Lx where
  toks : List Tk
  notes : List Nt
  gap : Int
  ends : Int
  j : Bool
def lx0 : Lx := ⟨[], [], 0, 0, false⟩
def cntF (k : Int) (t : List UInt8) : Bool := decide (¬ k = 15) || !Lib.contains [123, 125, 59] t
def tokX (s : List UInt8) (p q : Nat) (k : Int) (x : Lx) : Lx :=
  ⟨x.toks ++ [⟨k, pieceF s p q, (atP s p).1, (atP s p).2⟩], x.notes, if cntF k (pieceF s p q) then x.gap + 1 else x.gap, (atP s q).1, true⟩
def blkF (s : List UInt8) (p : Nat) : Nat := p + spanR (fun c => classF c == 1) (s.drop p)
theorem blkF_le {s : List UInt8} {p : Nat} (h : p ≤ s.length) : p ≤ blkF s p ∧ blkF s p ≤ s.length := by
  have := spanR_le (fun c => classF c == 1) (s.drop p)
  rw [List.length_drop] at this
  unfold blkF; omega
def behF (s : List UInt8) (p q : Nat) (x : Lx) : Bool := x.j && decide (x.ends = (atP s p).1) && decide ((atP s q).1 = (atP s p).1)
def inlF (s : List UInt8) (p q : Nat) : Bool := decide (blkF s q < s.length) && decide ((atP s (blkF s q)).1 = (atP s p).1)
def noteX (s : List UInt8) (p q : Nat) (x : Lx) : Lx :=
  ⟨x.toks, x.notes ++ [⟨pieceF s p q, x.gap, if behF s p q x then (if inlF s p q then 1 else 2) else 3, (atP s p).1, (atP s p).2⟩], x.gap, (atP s q).1, behF s p q x && inlF s p q⟩
def lexL (s : List UInt8) (p : Nat) (x : Lx) : Sum (Int × Int) Lx :=
  if hp : p < s.length then
    if (noteF s p).2 ≠ 0 then .inl ((p : Nat), (noteF s p).2)
    else if 0 < (noteF s p).1 then
      (if hq : p < (noteF s p).1.toNat then lexL s (blkF s (noteF s p).1.toNat) (noteX s p (noteF s p).1.toNat x) else .inr x)
    else if (lexmF s p).2.2 ≠ 0 then .inl ((lexmF s p).2.1, (lexmF s p).2.2)
    else (if hq : p < (lexmF s p).2.1.toNat then lexL s (blkF s (lexmF s p).2.1.toNat) (tokX s p (lexmF s p).2.1.toNat (lexmF s p).1 x) else .inr x)
  else .inr x
termination_by s.length - p
decreasing_by
  all_goals unfold blkF; omega
def lexF (s : List UInt8) : Sum (Int × Int) Lx :=
  if 16777216 < s.length then .inl (0, 3)
  else if (chkF s).2 ≠ 0 then .inl (chkF s)
  else if 0 ≤ idxF (fun c => classF (c : Nat) == 0) s then .inl (idxF (fun c => classF (c : Nat) == 0) s, 70)
  else lexL s (blkF s 0) lx0
theorem chk_vd {s : List UInt8} (h : (chkF s).2 = 0) : Vd s := by
  unfold chkF at h
  split at h
  · exact absurd h (show ¬ (10 : Int) = 0 by decide)
  · have := spanD_le goodD s
    unfold Vd; omega
end Go.Proofs.YtkidoddkbhchkaaGreatDoor
set_option maxHeartbeats 16000000
set_option linter.unusedVariables false
set_option linter.unusedSimpArgs false
namespace Go.Aw
open Go
theorem Cut.le {l : List UInt8} {k : Nat} (h : Cut l k) : k ≤ l.length := by
  induction h with
  | zero l => exact Nat.zero_le _
  | step hne h ih => have := stepN_le hne; rw [List.length_drop] at ih; omega
theorem Cut.blank {l : List UInt8} (hv : Vd l) : Cut l (spanR (fun c => classF c == 1) l) := by
  refine Bd.cut (Bd.span _ l) ?_
  rintro ⟨h0, _, h2⟩
  have h2 : hdF (l.drop (spanR (fun c => classF c == 1) l)) = 10 := h2
  have hlt := hdF_lt_len (l := l) (k := spanR (fun c => classF c == 1) l) (by omega)
  have := spanR_stop (fun c => classF c == 1) l hlt
  rw [(decR_hd (by omega) (by omega)).2, h2] at this
  exact absurd this (by decide)
theorem noteF_at {s : List UInt8} {p : Nat} (e : (noteF s p).2 = 0) (h0 : 0 < (noteF s p).1) : ∃ n : Nat, 0 < n ∧ noteN (s.drop p) = (n : Nat) ∧ (noteF s p).1 = (p + n : Nat) := by
  unfold noteF at e h0 ⊢
  split
  · rename_i h; rw [if_pos h] at e; exact absurd e (by decide)
  · rename_i h
    rw [if_neg h] at e h0
    split
    · rename_i h1; rw [if_pos h1] at h0; exact absurd h0 (by decide)
    · rename_i h1
      exact ⟨(noteN (s.drop p)).toNat, by omega, by omega, by dsimp only; omega⟩
theorem note_cut {s : List UInt8} {p : Nat} (hv : Vd s) (h : Cut s p) (e : (noteF s p).2 = 0) (h0 : 0 < (noteF s p).1) : ∃ q, (noteF s p).1 = (q : Nat) ∧ p < q ∧ q ≤ s.length ∧ Cut s q := by
  obtain ⟨n, h1, h2, h3⟩ := noteF_at e h0
  have hc := Cut.add h (Cut.note (h.bd.vd hv) h2)
  exact ⟨p + n, h3, by omega, hc.le, hc⟩
theorem num_pos {l : List UInt8} (h : (numF l).1 ≠ 0) : 0 < (numF l).2 := by
  unfold numF at h ⊢
  split
  · dsimp only; omega
  · rename_i h1
    rw [if_neg h1] at h
    split
    · rename_i h2; rw [if_pos h2] at h; exact absurd rfl h
    · dsimp only; omega
theorem word_pos {l : List UInt8} (h : (wordF l).1 ≠ 0) : 0 < (wordF l).2 := by
  have hge := scanG_ge l (plainF l).2 (plainF l).1
  by_cases hp : (plainF l).1 = 0
  · unfold wordF at h
    rw [scanG_no (fun x => by rw [hp] at x; rcases x.2.1 with y | y <;> exact absurd y (by decide))] at h
    exact absurd hp h
  · have := plain_pos hp
    unfold wordF; omega
theorem lexm_cut {s : List UInt8} {p : Nat} (hv : Vd s) (h : Cut s p) (e : (lexmF s p).2.2 = 0) : (lexmF s p).1 ≠ 0 ∧ ∃ q, (lexmF s p).2.1 = (q : Nat) ∧ p < q ∧ q ≤ s.length ∧ Cut s q := by
  have hv' := h.bd.vd hv
  unfold lexmF at e ⊢
  split
  · rename_i h1
    refine ⟨h1, p + (numF (s.drop p)).2, ?_⟩
    have hn : (numF (s.drop p)).1 ≠ 0 := fun x => by
      unfold nscF at h1; rw [if_pos x] at h1; exact h1 rfl
    have hc := Cut.add h (Cut.num (s.drop p))
    have := num_pos hn
    refine ⟨?_, by omega, hc.le, hc⟩
    unfold nscF; rw [if_neg hn]
  · rename_i h1
    rw [if_neg h1] at e
    split
    · rename_i h2
      rw [if_pos h2] at e
      split
      · rename_i h3; rw [if_pos h3] at e; exact absurd e (by decide : ¬ (70 : Int) = 0)
      · rename_i h3
        refine ⟨h3, p + (wordF (s.drop p)).2, ?_⟩
        have hn : (wordF (s.drop p)).1 ≠ 0 := fun x => by
          unfold wscanF at h3; rw [if_pos x] at h3; exact h3 rfl
        have hc := Cut.add h (Cut.word (s.drop p))
        have := word_pos hn
        refine ⟨?_, by omega, hc.le, hc⟩
        unfold wscanF; rw [if_neg hn]
    · rename_i h2
      rw [if_neg h2] at e
      have hk : (quoF s p).1 ≠ 0 := fun x => h2 ⟨x, e⟩
      obtain ⟨n, e1, e2, e3⟩ := Cut.quote hv' hk
      have hc := Cut.add h e3
      exact ⟨hk, p + n, e1, by omega, hc.le, hc⟩
theorem Cut.blk {s : List UInt8} {p : Nat} (hv : Vd s) (h : Cut s p) : Cut s (Go.Proofs.YtkidoddkbhchkaaGreatDoor.blkF s p) := Cut.add h (Cut.blank (h.bd.vd hv))
def ltP (a b : Int × Int) : Prop := a.1 < b.1 ∨ (a.1 = b.1 ∧ a.2 < b.2)
theorem ltP.trans {a b c : Int × Int} (h : ltP a b) (k : ltP b c) : ltP a c := by unfold ltP at *; omega
theorem step_lt {l : List UInt8} {p : Int × Int} (h : 1 ≤ p.2) : ltP p (stepL l p.1, stepC l p.2) := by
  unfold ltP stepL stepC stopF
  by_cases h1 : 0 < nlF l
  · rw [if_pos h1]; left; dsimp only; omega
  · rw [if_neg h1, if_neg h1]
    right
    refine ⟨rfl, ?_⟩
    dsimp only
    split <;> omega
theorem walk_le {l : List UInt8} {k : Nat} (h : Cut l k) (p : Int × Int) (hp : 1 ≤ p.2) : (k = 0 ∧ walkP l k p = p) ∨ (0 < k ∧ ltP p (walkP l k p)) := by
  induction h generalizing p with
  | zero l => exact .inl ⟨rfl, walkP_zero⟩
  | @step l j hne h ih =>
    have h1 := stepN_le hne
    have h2 := step_lt (l := l) hp
    refine .inr ⟨by omega, ?_⟩
    rw [walkP_go hne (by omega), show stepN l + j - stepN l = j by omega]
    rcases ih (stepL l p.1, stepC l p.2) (stepC_b l hp).1 with ⟨_, e⟩ | ⟨_, e⟩
    · rw [e]; exact h2
    · exact h2.trans e
theorem Cut.sub {l : List UInt8} {i j : Nat} (h : Cut l i) (k : Cut l j) (hij : i ≤ j) : Cut (l.drop i) (j - i) := by
  induction h generalizing j with
  | zero l => exact k
  | @step l i hne h ih =>
    cases k with
    | zero => have := stepN_le hne; omega
    | @step _ j' _ k =>
      rw [show stepN l + j' - (stepN l + i) = j' - i by omega, ← List.drop_drop]
      exact ih k (by omega)
theorem at_col {s : List UInt8} {p : Nat} : 1 ≤ (atP s p).1 ∧ (atP s p).1 ≤ 1 + s.length ∧ 1 ≤ (atP s p).2 ∧ (atP s p).2 ≤ 1 + 8 * s.length := by
  have := walk_b _ s p (1, 1) (Nat.le_refl _) (by decide)
  unfold atP
  omega
theorem at_lt {s : List UInt8} {p q : Nat} (h : Cut s p) (k : Cut s q) (hpq : p < q) : ltP (atP s p) (atP s q) := by
  have c := h.sub k (by omega)
  have e : atP s q = walkP (s.drop p) (q - p) (atP s p) := by
    unfold atP
    rw [← walk_add h, show p + (q - p) = q by omega]
  rw [e]
  rcases walk_le c (atP s p) at_col.2.2.1 with ⟨x, _⟩ | ⟨_, x⟩
  · omega
  · exact x
theorem place_cut {s : List UInt8} {a b : Nat} (hv : Vd s) (ha : Cut s a) (hb : Cut s b) (h : a ≤ b) : placeF s a b (atP s a) = atP s b := place_at hv ha (ha.sub hb h) h hb.le
end Go.Aw
set_option maxHeartbeats 16000000
set_option linter.unusedVariables false
namespace Go.Aw
open Go
def ntV (t : List UInt8) (gap wh : Int) (p : Int × Int) : List V := [.str t, .int .i64 gap, .int .i64 wh, .int .i64 p.1, .int .i64 p.2]
theorem rows_note {st0 st : St} {w1 w2 : Own} {n1 : Nat} {o : List (List V)} {g k a b : Int} {t : List UInt8} {K : V → St → Prop} (h : Rows2 st0 st w1 n1 w2 (o.length * 5)) (hl : o.length ≤ 1000000000)
    (kk : ∀ w2' st', Rows2 st0 st' w1 n1 w2' ((o.length + 1) * 5) → st'.box = st.box → K (.slice 5 (o ++ [ntV t g k (a, b)]) w2') st') : appendTo 5 48 o w2 [[.str t, .int .i64 g, .int .i64 k, .int .i64 a, .int .i64 b]] st K :=
  rows2_app h.swap rfl (by rw [List.length_singleton]; omega) (by rw [List.length_singleton]; unfold lim; omega) rfl (by simp) (fun w1' st' hr hb => kk w1' st' hr.swap hb)
end Go.Aw
namespace Go.Proofs.YtkidoddkbhchkaaGreatDoor
open Go Go.Aw
section
variable {st : St} {R : Res → St → Prop}
attribute [local irreducible] Go.Aw.appendTo
theorem to_at {s : List UInt8} {b p sp q : Nat} {gap ends : Int} {toks notes : List (List V)} {w1 w2 : Own} {j : Bool} (hl : s.length ≤ 100000000) (hv : Vd s) (c1 : Cut s sp) (c2 : Cut s q) (hsp : sp ≤ q)
    (hb : st.box b = some (lxC s p sp (atP s sp).1 (atP s sp).2 toks notes w1 w2 gap ends j))
    (h : R (.ret (.tup [.int .i64 (atP s q).1, .int .i64 (atP s q).2])) (st.setBox b (lxC s p q (atP s q).1 (atP s q).2 toks notes w1 w2 gap ends j))) : PC 90 [.ptr b 0, .int .i64 q] st R := by
  have e : placeF s sp q ((atP s sp).1, (atP s sp).2) = atP s q := place_cut hv c1 c2 hsp
  have hc := at_col (s := s) (p := sp)
  refine to_k hl hsp c2.le (by omega) (by omega) hb ?_
  rw [e]; exact h
theorem token_at {st0 : St} {s : List UInt8} {b p sp q n2 : Nat} {k e0 gap ends : Int} {toks notes : List (List V)} {w1 w2 : Own} {j : Bool} (hl : s.length ≤ 50000000) (hv : Vd s) (c1 : Cut s sp) (c2 : Cut s p) (c3 : Cut s q) (hsp : sp ≤ p) (hpq : p ≤ q)
    (hg : 0 ≤ gap ∧ gap ≤ 1000000000) (ht : toks.length ≤ 1000000000) (hb0 : st0.box b = none) (hR : Rows2 st0 st w1 (toks.length * 4) w2 n2) (hb : st.box b = some (lxC s p sp (atP s sp).1 (atP s sp).2 toks notes w1 w2 gap ends j))
    (h : ∀ w1' st', Rows2 st0 st' w1' ((toks.length + 1) * 4) w2 n2 → st'.box b = some (lxC s q q (atP s q).1 (atP s q).2 (toks ++ [tokV k (pieceF s p q) (atP s p)]) notes w1' w2
        (if cntF k (pieceF s p q) then gap + 1 else gap) (atP s q).1 true) → R (.ret (.tup [])) st') : PC 48 [.ptr b 0, .agg [.int .i64 k, .int .i64 q, .int .i64 e0]] st R := by
  have e1 : placeF s sp p ((atP s sp).1, (atP s sp).2) = atP s p := place_cut hv c1 c2 hsp
  have e2 : placeF s p q (atP s p) = atP s q := place_cut hv c2 c3 hpq
  have hc := at_col (s := s) (p := sp)
  refine token_c (by omega) hsp hpq c3.le (by omega) (by omega) hg ht hb0 hR hb (fun w1' st' hr hb' => h w1' st' hr ?_)
  rw [e1, e2] at hb'; exact hb'
theorem note_c {st0 : St} {s : List UInt8} {b p sp q n1 : Nat} {gap ends : Int} {toks notes : List (List V)} {w1 w2 : Own} {j : Bool} (hl : s.length ≤ 50000000) (hv : Vd s) (c1 : Cut s sp) (c2 : Cut s p) (c3 : Cut s q) (hsp : sp ≤ p) (hpq : p ≤ q)
    (hg : 0 ≤ gap ∧ gap ≤ 1000000000) (ht : notes.length ≤ 1000000000) (hb0 : st0.box b = none) (hR : Rows2 st0 st w1 n1 w2 (notes.length * 5)) (hb : st.box b = some (lxC s p sp (atP s sp).1 (atP s sp).2 toks notes w1 w2 gap ends j))
    (h : ∀ w2' st' sp', Cut s sp' → sp' ≤ blkF s q → Rows2 st0 st' w1 n1 w2' ((notes.length + 1) * 5) →
      st'.box b = some (lxC s (blkF s q) sp' (atP s sp').1 (atP s sp').2 toks (notes ++ [ntV (pieceF s p q) gap (if j && decide (ends = (atP s p).1) && decide ((atP s q).1 = (atP s p).1) then (if inlF s p q then 1 else 2) else 3) (atP s p)]) w1 w2' gap (atP s q).1
        (j && decide (ends = (atP s p).1) && decide ((atP s q).1 = (atP s p).1) && inlF s p q)) → R (.ret (.tup [])) st') : PC 46 [.ptr b 0, .int .i64 q] st R := by
  have c4 := c3.blk hv
  have hq := c3.le
  have hr := blkF_le hq
  have z1 := at_col (s := s) (p := p)
  have z2 := at_col (s := s) (p := q)
  have z3 := at_col (s := s) (p := blkF s q)
  refine pcalls_of_aw tys_ok [] Tryz.func46 rfl (by decide) rfl ?_
  refine AW_seq2 (aw_of tys_ok ?_)
  repeat' ((conv => whnf); first | exact Yb0 | (refine Yb1 ?_; intros) | (refine Yb2 ?_ ?_ ?_; rotate_left) | (refine Yb3 ?_ ?_ <;> intro _) | refine to_at (by omega) hv c1 c2 hsp hb ?_ | refine on_box hb ?_ | with_reducible refine WF ?_)
  refine AW_seq2 (aw_of tys_ok ?_)
  repeat' ((conv => whnf); first | exact Yb0 | (refine Yb1 ?_; intros) | (refine Yb2 ?_ ?_ ?_; rotate_left) | (refine Yb3 ?_ ?_ <;> intro _) | refine piece_k hpq hq ?_ | refine on_box (St.box_at _ _ _) ?_ | with_reducible refine WF ?_)
  refine AW_seq2 (aw_of tys_ok ?_)
  repeat' ((conv => whnf); first | exact Yb0 | (refine Yb1 ?_; intros) | (refine Yb2 ?_ ?_ ?_; rotate_left) | (refine Yb3 ?_ ?_ <;> intro _) | refine to_at (by omega) hv c2 c3 hpq (St.box_at _ _ _) ?_ | refine on_box (St.box_at _ _ _) ?_ | with_reducible refine WF ?_)
  have hbl : ∀ {st : St} {R : Res → St → Prop} {sp : Nat} {gap ends : Int} {j : Bool} {notes : List (List V)} {w2 : Own}, st.box b = some (lxC s q sp (atP s sp).1 (atP s sp).2 toks notes w1 w2 gap ends j) →
      R (.ret (.tup [])) (st.setBox b (lxC s (blkF s q) sp (atP s sp).1 (atP s sp).2 toks notes w1 w2 gap ends j)) → PC 44 [.ptr b 0] st R := fun hb h => blanks_c (by omega) hq hb h
  have hcase : (j = false ∨ (j = true ∧ ¬ ends = (atP s p).1) ∨ (j = true ∧ ends = (atP s p).1 ∧ ¬ (atP s q).1 = (atP s p).1)) ∨ (j = true ∧ ends = (atP s p).1 ∧ (atP s q).1 = (atP s p).1) := by
    cases j
    · exact .inl (.inl rfl)
    · by_cases e1 : ends = (atP s p).1
      · by_cases e2 : (atP s q).1 = (atP s p).1
        · exact .inr ⟨rfl, e1, e2⟩
        · exact .inl (.inr (.inr ⟨rfl, e1, e2⟩))
      · exact .inl (.inr (.inl ⟨rfl, e1⟩))
  rcases hcase with hc | ⟨rfl, he1, he2⟩
  · have e : (j && decide (ends = (atP s p).1) && decide ((atP s q).1 = (atP s p).1)) = false := by
      rcases hc with rfl | ⟨rfl, e1⟩ | ⟨rfl, e1, e2⟩ <;> simp [*]
    rw [e] at h
    rcases hc with rfl | ⟨rfl, e1⟩ | ⟨rfl, e1, e2⟩
    all_goals refine AW_seq2 (aw_of tys_ok ?_)
    repeat' ((conv => whnf); first | exact Yb0 | (refine Yb1 ?_; intros) | (refine Yb2 ?_ ?_ ?_; rotate_left) | (refine Yb3 ?_ ?_ <;> intro _) | refine on_box (St.box_at _ _ _) ?_ | with_reducible refine WF ?_)
    all_goals refine AW_seq2 (aw_of tys_ok ?_)
    repeat' ((conv => whnf); first | exact Yb0 | (refine Yb1 ?_; intros) | (refine Yb2 ?_ ?_ ?_; rotate_left) | (refine Yb3 ?_ ?_ <;> intro _) | refine on_box (St.box_at _ _ _) ?_ | with_reducible refine WF ?_)
    all_goals refine AW_seq2 (aw_of tys_ok ?_)
    repeat' ((conv => whnf); first | exact Yb0 | (refine Yb1 ?_; intros) | (refine Yb2 ?_ ?_ ?_; rotate_left) | (refine Yb3 ?_ ?_ <;> intro _) | refine hbl (St.box_at _ _ _) ?_ | with_reducible refine WF ?_)
    all_goals refine AW_seq2 (aw_of tys_ok ?_)
    repeat' ((conv => whnf); first | exact Yb0 | (refine Yb1 ?_; intros) | (refine Yb2 ?_ ?_ ?_; rotate_left) | (refine Yb3 ?_ ?_ <;> intro _) | refine on_box (St.box_at _ _ _) ?_ | with_reducible refine WF ?_)
    all_goals refine AW_seq2 (aw_of tys_ok ?_)
    repeat' ((conv => whnf); first | exact Yb0 | (refine Yb1 ?_; intros) | (refine Yb2 ?_ ?_ ?_; rotate_left) | (refine Yb3 ?_ ?_ <;> intro _) | with_reducible refine WF ?_)
    all_goals refine aw_of tys_ok ?_
    repeat' ((conv => whnf); first | refine draw_mix [(0, true), (1, true), (2, true), (3, true), (4, true), (5, true), (6, true), (7, false), (8, true), (9, true), (10, false)] [] (by decide +kernel) ?_ | exact Yb0 | (refine Yb1 ?_; intros) | (refine Yb2 ?_ ?_ ?_; rotate_left) | (refine Yb3 ?_ ?_ <;> intro _) | refine on_box (St.box_at _ _ _) ?_ | refine rows_note (((((hR.set hb0 _).set hb0 _).set hb0 _).set hb0 _).set hb0 _) ht (fun w1' st1 hr1 hb1 => ?_) | refine on_box ((congrFun hb1 b).trans (St.box_at _ _ _)) ?_ | with_reducible refine WF ?_)
    all_goals exact fin (h w1' _ q c3 hr.1 (hr1.set hb0 _) (St.box_at _ _ _)) rfl
  · have e : (true && decide (ends = (atP s p).1) && decide ((atP s q).1 = (atP s p).1)) = true := by simp [*]
    rw [e] at h
    refine AW_seq2 (aw_of tys_ok ?_)
    repeat' ((conv => whnf); first | exact Yb0 | (refine Yb1 ?_; intros) | (refine Yb2 ?_ ?_ ?_; rotate_left) | (refine Yb3 ?_ ?_ <;> intro _) | refine on_box (St.box_at _ _ _) ?_ | with_reducible refine WF ?_)
    refine AW_seq2 (aw_of tys_ok ?_)
    repeat' ((conv => whnf); first | exact Yb0 | (refine Yb1 ?_; intros) | (refine Yb2 ?_ ?_ ?_; rotate_left) | (refine Yb3 ?_ ?_ <;> intro _) | refine on_box (St.box_at _ _ _) ?_ | with_reducible refine WF ?_)
    refine AW_seq2 (aw_of tys_ok ?_)
    repeat' ((conv => whnf); first | exact Yb0 | (refine Yb1 ?_; intros) | (refine Yb2 ?_ ?_ ?_; rotate_left) | (refine Yb3 ?_ ?_ <;> intro _) | refine hbl (St.box_at _ _ _) ?_ | with_reducible refine WF ?_)
    refine AW_seq2 (aw_of tys_ok ?_)
    repeat' ((conv => whnf); first | exact Yb0 | (refine Yb1 ?_; intros) | (refine Yb2 ?_ ?_ ?_; rotate_left) | (refine Yb3 ?_ ?_ <;> intro _) | refine on_box (St.box_at _ _ _) ?_ | with_reducible refine WF ?_)
    rcases hin : inlF s p q with _ | _
    all_goals rw [hin] at h
    · have hno : ¬ blkF s q < s.length ∨ (blkF s q < s.length ∧ ¬ (atP s (blkF s q)).1 = (atP s p).1) := by
        by_cases h1 : blkF s q < s.length
        · exact .inr ⟨h1, fun x => by unfold inlF at hin; simp [h1, x] at hin⟩
        · exact .inl h1
      rcases hno with hno | ⟨hy, hno⟩
      all_goals refine AW_seq2 (aw_of tys_ok ?_)
      repeat' ((conv => whnf); first | exact Yb0 | (refine Yb1 ?_; intros) | (refine Yb2 ?_ ?_ ?_; rotate_left) | (refine Yb3 ?_ ?_ <;> intro _) | refine to_at (by omega) hv c3 c4 hr.1 (St.box_at _ _ _) ?_ | refine on_box (St.box_at _ _ _) ?_ | refine WJ (fun _ => ?_) | with_reducible refine WF ?_)
      all_goals refine aw_of tys_ok ?_
      repeat' ((conv => whnf); first | refine draw_mix [(0, true), (1, true), (2, true), (3, true), (4, true), (5, true), (6, true), (7, false), (8, true), (9, true), (10, false)] [] (by decide +kernel) ?_ | exact Yb0 | (refine Yb1 ?_; intros) | (refine Yb2 ?_ ?_ ?_; rotate_left) | (refine Yb3 ?_ ?_ <;> intro _) | refine on_box (St.box_at _ _ _) ?_ | refine rows_note ((((((hR.set hb0 _).set hb0 _).set hb0 _).set hb0 _).set hb0 _).set hb0 _) ht (fun w1' st1 hr1 hb1 => ?_) | refine on_box ((congrFun hb1 b).trans (St.box_at _ _ _)) ?_ | with_reducible refine WF ?_)
      all_goals exact fin (h w1' _ (blkF s q) c4 (Nat.le_refl _) (hr1.set hb0 _) (St.box_at _ _ _)) rfl
    · have hy : blkF s q < s.length ∧ (atP s (blkF s q)).1 = (atP s p).1 := by unfold inlF at hin; simpa using hin
      obtain ⟨hy1, hy2⟩ := hy
      refine AW_seq2 (aw_of tys_ok ?_)
      repeat' ((conv => whnf); first | exact Yb0 | (refine Yb1 ?_; intros) | (refine Yb2 ?_ ?_ ?_; rotate_left) | (refine Yb3 ?_ ?_ <;> intro _) | refine to_at (by omega) hv c3 c4 hr.1 (St.box_at _ _ _) ?_ | refine on_box (St.box_at _ _ _) ?_ | refine WJ (fun _ => ?_) | with_reducible refine WF ?_)
      refine aw_of tys_ok ?_
      repeat' ((conv => whnf); first | refine draw_mix [(0, true), (1, true), (2, true), (3, true), (4, true), (5, true), (6, true), (7, false), (8, true), (9, true), (10, false)] [] (by decide +kernel) ?_ | exact Yb0 | (refine Yb1 ?_; intros) | (refine Yb2 ?_ ?_ ?_; rotate_left) | (refine Yb3 ?_ ?_ <;> intro _) | refine on_box (St.box_at _ _ _) ?_ | refine rows_note (((((((hR.set hb0 _).set hb0 _).set hb0 _).set hb0 _).set hb0 _).set hb0 _).set hb0 _) ht (fun w1' st1 hr1 hb1 => ?_) | refine on_box ((congrFun hb1 b).trans (St.box_at _ _ _)) ?_ | with_reducible refine WF ?_)
      all_goals exact fin (h w1' _ (blkF s q) c4 (Nat.le_refl _) (hr1.set hb0 _) (St.box_at _ _ _)) rfl
end
end Go.Proofs.YtkidoddkbhchkaaGreatDoor
set_option maxHeartbeats 16000000
set_option linter.unusedVariables false
set_option linter.unusedSimpArgs false
namespace Go.Aw
open Go
theorem span_tl {p : Nat × Nat → Bool} {l r : List UInt8} {m : Nat} (hv : Vd l) (hb : Bd l m) (hm : m ≤ l.length) (h : spanD p l < m) : spanD p (tr l m r) = spanD p l := by
  induction hb with
  | zero l => omega
  | @step l k hne hb ih =>
    have hp := decR_pos l
    have hd := dec_tr (r := r) hv (by omega) hm (.step hne hb)
    have hne' : tr l ((decR l).2 + k) r ≠ [] := fun e => by
      have := congrArg List.length e
      rw [tr_len hm] at this; simp only [List.length_nil] at this; omega
    cases hc : p (decR l) with
    | false => rw [spanD_no hc, spanD_no (by rw [hd.1]; exact hc)]
    | true =>
      rw [spanD_yes hne hc] at h ⊢
      rw [spanD_yes hne' (by rw [hd.1]; exact hc), hd.1, tr_drop (by omega) hm, show (decR l).2 + k - (decR l).2 = k by omega, ih (hv.rune hne).2 (by rw [List.length_drop]; omega) (by omega)]
theorem class_lo {c : Int} (h0 : 32 < c) (h : c < 127) : classF c ≠ 1 := by
  have key : ∀ k : Nat, k < 127 → 32 < k → classF (k : Nat) ≠ 1 := by decide
  have := key c.toNat (by omega) (by omega)
  rwa [show ((c.toNat : Nat) : Int) = c by omega] at this
theorem blank_lo {l : List UInt8} (h0 : 32 < hdF l) (h : hdF l < 127) : spanR (fun c => classF c == 1) l = 0 := by
  refine spanR_no ?_
  rw [(decR_hd (by omega) (by omega)).2]
  exact beq_false_of_ne (class_lo h0 h)
theorem pre_tr {w l r : List UInt8} {m j : Nat} (hm : m ≤ l.length) (hj : j < m) {q : UInt8} (hq : l[j]? = some q) (hw : q ∉ w) : w.isPrefixOf (tr l m r) = w.isPrefixOf l := by
  have h1 : w.isPrefixOf (tr l m r) = true ↔ w.isPrefixOf l = true := by
    rw [List.isPrefixOf_iff_prefix, List.isPrefixOf_iff_prefix, List.prefix_iff_eq_take, List.prefix_iff_eq_take]
    by_cases hl : w.length ≤ j
    · rw [tr_take (by omega) hm]
    · have key : ∀ x : List UInt8, x[j]? = some q → ¬ w = x.take w.length := fun x hx e => by
        apply hw
        have : w[j]? = some q := by
          rw [e, List.getElem?_take_of_lt (by omega)]; exact hx
        exact List.mem_of_getElem? this
      refine ⟨fun e => absurd e (key _ ?_), fun e => absurd e (key _ hq)⟩
      unfold tr
      rw [List.getElem?_append_left (by rw [List.length_take]; omega), List.getElem?_take_of_lt hj]
      exact hq
  cases h2 : w.isPrefixOf (tr l m r) with
  | true => rw [h1.1 h2]
  | false =>
    cases h3 : w.isPrefixOf l with
    | true => rw [h1.2 h3] at h2; exact absurd h2 (by decide)
    | false => rfl
theorem namG_tr {l l' : List UInt8} : ∀ (ws : List (List UInt8)) (i : Nat) (p : Nat × Nat), (∀ w ∈ ws, w.isPrefixOf l' = w.isPrefixOf l) → namG l' ws i p = namG l ws i p
  | [], _, p, _ => rfl
  | w :: ws, i, p, h => by
    unfold namG
    rw [h w List.mem_cons_self, namG_tr ws _ _ (fun x hx => h x (List.mem_cons_of_mem _ hx))]
theorem nameT_q : ∀ w ∈ nameT, (34 : UInt8) ∉ w ∧ (39 : UInt8) ∉ w := by
  have h : nameT.all (fun w => !w.contains 34 && !w.contains 39) = true := by decide +kernel
  intro w hw
  have := List.all_eq_true.1 h w hw
  simpa using this
theorem namF_tr {l r : List UInt8} {m j : Nat} (hm : m ≤ l.length) (hj : j < m) (hq : hdF (l.drop j) = 34 ∨ hdF (l.drop j) = 39) : namF (tr l m r) = namF l := by
  have hlt := hdF_lt_len (l := l) (k := j) (by omega)
  have hb := List.getElem?_eq_getElem hlt
  have hd := hdF_at hb
  have e : namG (tr l m r) nameT 0 (0, 0) = namG l nameT 0 (0, 0) := namG_tr _ _ _ (fun w hw => by
    have := nameT_q w hw
    refine pre_tr hm hj hb ?_
    rcases hq with h | h
    · have : l[j] = 34 := by apply UInt8.toNat_inj.1; show l[j].toNat = 34; omega
      rw [this]; exact (nameT_q w hw).1
    · have : l[j] = 39 := by apply UInt8.toNat_inj.1; show l[j].toNat = 39; omega
      rw [this]; exact (nameT_q w hw).2)
  unfold namF
  rw [e]
theorem numV_tr {base : Int} {l r : List UInt8} {m : Nat} {p : Int × Nat} (hr : Brk r) (hm : m ≤ l.length) (h : numV base l = some p) (hp : p.2 ≤ m) : numV base (tr l m r) = some p := by
  unfold numV at h ⊢
  split at h
  · cases h
  · rename_i hc
    injection h with h
    subst h
    dsimp only at hp
    rw [row_tr hr hm hp, val_tr hr hm hp, if_neg hc]
theorem esc_tr {tx : Bool} {l r : List UInt8} {m j : Nat} {p : Int × Nat} (hr : Brk r) (hm : m ≤ l.length) (h : escF tx l = some p) (hj : p.2 ≤ j) (hjm : j < m) (hq : hdF (l.drop j) = 34 ∨ hdF (l.drop j) = 39) :
    2 ≤ p.2 ∧ 32 < hdF (l.drop 1) ∧ hdF (l.drop 1) < 127 ∧ escF tx (tr l m r) = some p := by
  have hmp : p.2 ≤ m - 1 := by omega
  have e1 : 1 < m → hdF ((tr l m r).drop 1) = hdF (l.drop 1) := fun h => tr_hd_at h hm
  have e2 : 2 < m → hdF ((tr l m r).drop 2) = hdF (l.drop 2) := fun h => tr_hd_at h hm
  have key : 2 ≤ p.2 ∧ 32 < hdF (l.drop 1) ∧ hdF (l.drop 1) < 127 := by
    unfold escF at h
    split at h
    · rename_i v hs
      injection h with h; subst h
      unfold sgnF at hs
      repeat' split at hs
      all_goals first | cases hs | skip
      all_goals exact ⟨Nat.le_refl 2, by omega, by omega⟩
    · repeat' split at h
      · injection h with h; subst h; exact ⟨by dsimp only; omega, by omega, by omega⟩
      · injection h with h; subst h; exact ⟨by show 2 ≤ 3; decide, by omega, by omega⟩
      · obtain ⟨q, hq', rfl⟩ := Option.map_eq_some_iff.1 h
        have := numV_le hq'
        exact ⟨by dsimp only; omega, by omega, by omega⟩
      · obtain ⟨q, hq', rfl⟩ := Option.map_eq_some_iff.1 h
        have := numV_le hq'
        exact ⟨by dsimp only; omega, by omega, by omega⟩
      · obtain ⟨q, hq', rfl⟩ := Option.map_eq_some_iff.1 h
        have := numV_le hq'
        exact ⟨by dsimp only; omega, by omega, by omega⟩
      · rename_i hn
        injection h with h; subst h
        have hl : 65 ≤ hdF (l.drop 1) ∧ hdF (l.drop 1) ≤ 90 := by
          by_cases hx : 65 ≤ hdF (l.drop 1) ∧ hdF (l.drop 1) ≤ 90
          · exact hx
          · rw [namF_0 hx] at hn; exact absurd hn (by decide)
        exact ⟨by dsimp only; omega, by omega, by omega⟩
      · cases h
  refine ⟨key.1, key.2.1, key.2.2, ?_⟩
  have e1 := e1 (by omega)
  have e2 := e2 (by omega)
  have d1 := tr_drop (l := l) (r := r) (m := m) (j := 1) (by omega) hm
  have d2 := tr_drop (l := l) (r := r) (m := m) (j := 2) (by omega) hm
  have n1 : ∀ {b q}, numV b (l.drop 1) = some q → q.2 + 1 ≤ m → numV b (tr (l.drop 1) (m - 1) r) = some q := fun h h2 => numV_tr hr (by rw [List.length_drop]; omega) h (by omega)
  have n2 : ∀ {b q}, numV b (l.drop 2) = some q → q.2 + 2 ≤ m → numV b (tr (l.drop 2) (m - 2) r) = some q := fun h h2 => numV_tr hr (by rw [List.length_drop]; omega) h (by omega)
  have nm : namF (tr (l.drop 1) (m - 1) r) = namF (l.drop 1) := namF_tr (j := j - 1) (by rw [List.length_drop]; omega) (by omega) (by rw [List.drop_drop, show 1 + (j - 1) = j by omega]; exact hq)
  unfold escF at h ⊢
  rw [e1, e2, d1, d2, nm]
  split
  · rename_i v hs; rw [hs] at h; exact h
  · rename_i hs
    rw [hs] at h
    dsimp only at h
    repeat' split at h
    · rename_i h1; rw [if_pos h1]; exact h
    · rename_i h1 h2; rw [if_neg h1, if_pos h2]; exact h
    · rename_i h1 h2 h3
      rw [if_neg h1, if_neg h2, if_pos h3]
      obtain ⟨q, hq', rfl⟩ := Option.map_eq_some_iff.1 h
      rw [n2 hq' (by dsimp only at hmp; omega)]; rfl
    · rename_i h1 h2 h3 h4
      rw [if_neg h1, if_neg h2, if_neg h3, if_pos h4]
      obtain ⟨q, hq', rfl⟩ := Option.map_eq_some_iff.1 h
      rw [n2 hq' (by dsimp only at hmp; omega)]; rfl
    · rename_i h1 h2 h3 h4 h5
      rw [if_neg h1, if_neg h2, if_neg h3, if_neg h4, if_pos h5]
      obtain ⟨q, hq', rfl⟩ := Option.map_eq_some_iff.1 h
      rw [n1 hq' (by dsimp only at hmp; omega)]; rfl
    · rename_i h1 h2 h3 h4 h5 h6
      rw [if_neg h1, if_neg h2, if_neg h3, if_neg h4, if_neg h5, if_pos h6]; exact h
    · cases h
theorem gap_tr {l r : List UInt8} {m : Nat} (hv : Vd l) (hb : Bd l m) (hm : m ≤ l.length) (h : 0 < gapN l) (hg : gapN l < m) : gapN (tr l m r) = gapN l := by
  unfold gapN at h hg ⊢
  split at h
  · rename_i hc
    rw [if_pos hc] at hg
    have b1 : Bd l 1 := (Cut.one (by omega) (by omega) (by omega)).bd
    have e : spanR (fun c => classF c == 1) ((tr l m r).drop 1) = spanR (fun c => classF c == 1) (l.drop 1) := by
      rw [tr_drop (by omega) hm]
      exact span_tl (b1.vd hv) (b1.sub hb (by omega)) (by rw [List.length_drop]; omega) (show spanR (fun c => classF c == 1) (l.drop 1) < m - 1 by omega)
    rw [tr_hd (by omega) hm, e, tr_hd_at (by omega) hm]
  · omega
theorem one_tr {tx : Bool} {l r : List UInt8} {m j : Nat} {p : Int × Nat} (hr : Brk r) (hv : Vd l) (hb : Bd l m) (hm : m ≤ l.length) (h : oneF tx l = .inr p) (hj : p.2 ≤ j) (hjm : j < m) (hq : hdF (l.drop j) = 34 ∨ hdF (l.drop j) = 39) :
    oneF tx (tr l m r) = .inr p := by
  have hle := oneF_le h
  cases l with
  | nil => cases h
  | cons a l =>
    have hd := dec_tr (r := r) hv (by omega) hm hb
    have h1 := tr_hd (l := a :: l) (r := r) (m := m) (by omega) hm
    have ht : ∃ t, tr (a :: l) m r = a :: t := by
      obtain ⟨k, rfl⟩ : ∃ k, m = k + 1 := ⟨m - 1, by omega⟩
      exact ⟨_, rfl⟩
    obtain ⟨t, ht⟩ := ht
    have hg := gap_tr (r := r) hv hb hm
    have he := esc_tr (tx := tx) (r := r) (p := p) (j := j) hr hm
    have hg0 : 32 < hdF ((a :: l).drop 1) → hdF ((a :: l).drop 1) < 127 → 1 < m → ¬ 0 < gapN (tr (a :: l) m r) := fun x y z => by
      have e := tr_hd_at (l := a :: l) (r := r) (m := m) (j := 1) z hm
      unfold gapN
      rw [if_neg]
      · exact Nat.lt_irrefl 0
      · rintro ⟨_, k, _⟩
        exact k (blank_lo (by omega) (by omega))
    rw [ht] at hd h1 hg he hg0 ⊢
    unfold oneF at h ⊢
    dsimp only at h ⊢
    rw [h1]
    split at h
    · rename_i h92
      rw [if_pos h92]
      split at h
      · rename_i hgp
        injection h with h
        subst h
        have e := hg hgp.2 (by dsimp only at hj; omega)
        rw [e, if_pos hgp]
      · rename_i hgp
        split at h
        · cases h
        · rename_i q hs
          injection h with h
          subst h
          obtain ⟨k1, k2, k3, k4⟩ := he hs hj hjm hq
          rw [if_neg (fun x => hg0 k2 k3 (by omega) x.2), k4]
    · rename_i h92
      rw [if_neg h92, hd.1]
      exact h
theorem Bd.word {w t : List UInt8} (h : ∀ b ∈ w, b.toNat < 128) : Bd (w ++ t) w.length := by
  induction w with
  | nil => exact .zero _
  | cons a w ih =>
    have e : (decR (a :: (w ++ t))).2 = 1 := by rw [decR_lo (h a List.mem_cons_self)]
    have := Bd.step (l := a :: (w ++ t)) (k := w.length) (by simp) (by rw [e]; exact ih (fun b hb => h b (List.mem_cons_of_mem _ hb)))
    rw [e, Nat.add_comm] at this
    exact this
theorem namG_is (l : List UInt8) : ∀ (ws : List (List UInt8)) (i : Nat) (p : Nat × Nat), (p.2 = 0 ∨ ∃ w, w ∈ nameT ∧ w <+: l ∧ p.2 = w.length) → (∀ w ∈ ws, w ∈ nameT) → (namG l ws i p).2 = 0 ∨ ∃ w, w ∈ nameT ∧ w <+: l ∧ (namG l ws i p).2 = w.length
  | [], _, p, h, _ => h
  | w :: ws, i, p, h, hw => by
    unfold namG
    refine namG_is l ws _ _ ?_ (fun x hx => hw x (List.mem_cons_of_mem _ hx))
    split
    · rename_i hc
      exact .inr ⟨w, hw w List.mem_cons_self, List.isPrefixOf_iff_prefix.1 hc.2, rfl⟩
    · exact h
theorem nameT_lo : ∀ w ∈ nameT, ∀ b ∈ w, b.toNat < 128 := by
  have h : nameT.all (fun w => w.all fun b => decide (b.toNat < 128)) = true := by decide +kernel
  intro w hw b hb
  have := List.all_eq_true.1 (List.all_eq_true.1 h w hw) b hb
  simpa using this
theorem escBd {tx : Bool} {l : List UInt8} {p : Int × Nat} (h92 : hdF l = 92) (h : escF tx l = some p) : Bd l p.2 := by
  have c1 : Cut l 1 := Cut.one (by omega) (by omega) (by omega)
  have c2 : 0 ≤ hdF (l.drop 1) → hdF (l.drop 1) < 128 → Bd (l.drop 1) 1 := fun h1 h2 => by
    cases hl : l.drop 1 with
    | nil => rw [hl] at h1; exact absurd h1 (by decide)
    | cons a r =>
      rw [hl] at h2
      have := Bd.word (w := [a]) (t := r) (fun b hb => by rw [List.mem_singleton] at hb; subst hb; have h2 : ((b.toNat : Nat) : Int) < 128 := h2; omega)
      exact this
  have c3 : 0 ≤ hdF (l.drop 1) → hdF (l.drop 1) < 128 → Bd l 2 := fun h1 h2 => Bd.add (i := 1) (j := 1) c1.bd (c2 h1 h2)
  unfold escF at h
  split at h
  · rename_i v hs
    injection h with h; subst h
    unfold sgnF at hs
    repeat' split at hs
    all_goals first | cases hs | skip
    all_goals exact c3 (by omega) (by omega)
  · repeat' split at h
    · injection h with h; subst h; exact c3 (by omega) (by omega)
    · rename_i h1 h2
      injection h with h; subst h
      have b2 := c3 (by omega) (by omega)
      refine Bd.add (i := 2) (j := 1) b2 ?_
      have hh : 0 ≤ hdF (l.drop 2) ∧ hdF (l.drop 2) < 128 := ⟨by omega, by omega⟩
      cases hl : l.drop 2 with
      | nil => rw [hl] at hh; exact absurd hh.1 (by decide)
      | cons a r =>
        rw [hl] at hh
        have := Bd.word (w := [a]) (t := r) (fun b hb => by rw [List.mem_singleton] at hb; subst hb; have h2 : ((b.toNat : Nat) : Int) < 128 := hh.2; omega)
        exact this
    · obtain ⟨q, hq', rfl⟩ := Option.map_eq_some_iff.1 h
      unfold numV at hq'
      split at hq'
      · cases hq'
      · injection hq' with hq'; subst hq'
        exact Bd.add (c3 (by omega) (by omega)) (Cut.row _ _).bd
    · obtain ⟨q, hq', rfl⟩ := Option.map_eq_some_iff.1 h
      unfold numV at hq'
      split at hq'
      · cases hq'
      · injection hq' with hq'; subst hq'
        exact Bd.add (c3 (by omega) (by omega)) (Cut.row _ _).bd
    · obtain ⟨q, hq', rfl⟩ := Option.map_eq_some_iff.1 h
      unfold numV at hq'
      split at hq'
      · cases hq'
      · injection hq' with hq'; subst hq'
        exact Bd.add c1.bd (Cut.row _ _).bd
    · rename_i hn
      injection h with h; subst h
      rcases namG_is (l.drop 1) nameT 0 (0, 0) (.inl rfl) (fun _ h => h) with e | ⟨w, hw, ⟨t, ht⟩, e⟩
      · have h7 : (namF (l.drop 1)).2 = (namG (l.drop 1) nameT 0 (0, 0)).2 := by simp only [namF]
        exact absurd hn (by omega)
      · have h7 : (namF (l.drop 1)).2 = (namG (l.drop 1) nameT 0 (0, 0)).2 := by simp only [namF]
        have e := h7.trans e
        dsimp only
        rw [e]
        refine Bd.add c1.bd ?_
        rw [← ht]
        exact Bd.word (nameT_lo w hw)
    · cases h
theorem text_tr {l r : List UInt8} {m n : Nat} (hr : Brk r) (hv : Vd l) (hb : Bd l m) (hm : m ≤ l.length) (h : textN l = .inr n) (hn : n ≤ m) : textN (tr l m r) = .inr n := by
  fun_induction textN l generalizing m n with
  | case1 l hc =>
    injection h with h; subst h
    rw [textN, if_pos (by rw [tr_hd (by omega) hm]; exact hc)]
  | case2 l hc e he => cases h
  | case3 l hc p hp q hq ih => cases h
  | case4 l hc p hp k hk ih =>
    injection h with h
    subst h
    have hl := textN_last _ _ hk
    have hle := oneF_le hp
    have h2 := hl.2
    rw [List.drop_drop] at h2
    have h1 := one_tr (r := r) (j := p.2 + (k - 1)) hr hv hb hm hp (by omega) (by omega) (.inl h2)
    have bp : Bd l p.2 := by
      unfold oneF at hp
      split at hp
      · cases hp
      · rename_i a t
        split at hp
        · rename_i h92
          split at hp
          · injection hp with hp; subst hp
            rename_i hg
            have hv' := hv
            have hge : gapN (a :: t) = (gapN (a :: t) - 1) + 1 := by omega
            have hx : hdF ((a :: t).drop (gapN (a :: t) - 1)) = 92 := by
              have := hg.2
              unfold gapN at this ⊢
              split at this
              · rename_i hc'
                rw [if_pos hc', show spanR (fun c => classF c == 1) ((a :: t).drop 1) + 2 - 1 = 1 + spanR (fun c => classF c == 1) ((a :: t).drop 1) by omega]; exact hc'.2.2
              · omega
            have := Cut.behind hv (k := gapN (a :: t) - 1) (by omega) (by omega) (by omega)
            rw [← hge] at this
            exact this.bd
          · split at hp
            · cases hp
            · rename_i q hs
              injection hp with hp; subst hp
              exact escBd h92 hs
        · split at hp
          · cases hp
          · injection hp with hp; subst hp
            exact Bd.one (by simp)
    rw [textN, if_neg (by rw [tr_hd (by omega) hm]; exact hc)]
    have h3 := ih (bp.vd hv) (bp.sub hb (by omega)) (by rw [List.length_drop]; omega) hk (by omega)
    rw [h1]
    dsimp only
    rw [tr_drop (by omega) hm, h3]
theorem char_tr {l r : List UInt8} {m n : Nat} (hr : Brk r) (hv : Vd l) (hb : Bd l m) (hm : m ≤ l.length) (h : charN l = .inr n) (hn : n ≤ m) : charN (tr l m r) = .inr n := by
  unfold charN at h
  split at h
  · cases h
  · rename_i h1
    split at h
    · cases h
    · rename_i p hp
      split at h
      · rename_i hx
        injection h with h; subst h
        have h2 := one_tr (r := r) (j := p.2) hr hv hb hm hp (Nat.le_refl _) (by omega) (.inr hx)
        unfold charN
        rw [if_neg (by rw [tr_hd (by omega) hm]; exact h1), h2]
        dsimp only
        rw [if_pos (by rw [tr_hd_at (by omega) hm]; exact hx)]
      · cases h
theorem one_err {tx : Bool} {l : List UInt8} {e : Int} (h : oneF tx l = .inl e) : e ≠ 0 := by
  unfold oneF at h
  split at h
  · injection h with h; omega
  · split at h
    · split at h
      · cases h
      · split at h
        · injection h with h; omega
        · cases h
    · split at h
      · injection h with h; omega
      · cases h
theorem text_err {l : List UInt8} {q : Nat × Int} (h : textN l = .inl q) : q.2 ≠ 0 := by
  fun_induction textN l generalizing q with
  | case1 l hc => cases h
  | case2 l hc e he => injection h with h; subst h; exact one_err he
  | case3 l hc p hp k hk ih => injection h with h; subst h; exact ih (q := k) hk
  | case4 l hc p hp k hk ih => cases h
theorem char_err {l : List UInt8} {q : Nat × Int} (h : charN l = .inl q) : q.2 ≠ 0 := by
  unfold charN at h
  split at h
  · injection h with h; subst h; exact (by decide : ¬ (50 : Int) = 0)
  · split at h
    · rename_i e he; injection h with h; subst h; exact one_err he
    · split at h
      · cases h
      · injection h with h; subst h; exact (by decide : ¬ (50 : Int) = 0)
theorem quo_tr {l r : List UInt8} {m : Nat} (hr : Brk r) (hv : Vd l) (hb : Bd l m) (h0 : 0 < m) (hm : m ≤ l.length) (h : (quoF l 0).2.2 = 0) (hn : (quoF l 0).2.1 ≤ m) : quoF (tr l m r) 0 = quoF l 0 := by
  have e1 := tr_hd (l := l) (r := r) h0 hm
  have d1 := tr_drop (l := l) (r := r) (m := m) (j := 1) (by omega) hm
  have hc : 0 ≤ hdF l → hdF l < 128 → ¬ (hdF l = 13 ∨ hdF l = 10 ∨ hdF l = 12) → Vd (l.drop 1) ∧ Bd (l.drop 1) (m - 1) := fun a b c =>
    have b1 := (Cut.one a b c).bd
    ⟨b1.vd hv, b1.sub hb (by omega)⟩
  have hl : m - 1 ≤ (l.drop 1).length := by rw [List.length_drop]; omega
  have e0 : ∀ x : List UInt8, x.drop 0 = x := fun x => rfl
  unfold quoF at h hn ⊢
  simp only [e0, Nat.zero_add] at h hn ⊢
  rw [e1, d1]
  by_cases h34 : hdF l = 34
  · have hq := hc (by omega) (by omega) (by omega)
    rw [if_pos h34] at h hn
    rw [if_pos h34, if_pos h34]
    cases ht : textN (l.drop 1) with
    | inl q =>
      rw [ht] at h
      dsimp only at h
      exact absurd h (text_err ht)
    | inr n =>
      rw [ht] at hn
      dsimp only at hn
      rw [text_tr hr hq.1 hq.2 hl ht (by omega)]
  · rw [if_neg h34] at h hn
    rw [if_neg h34, if_neg h34]
    by_cases h39 : hdF l = 39
    · have hq := hc (by omega) (by omega) (by omega)
      rw [if_pos h39] at h hn
      rw [if_pos h39, if_pos h39]
      cases ht : charN (l.drop 1) with
      | inl q =>
        rw [ht] at h
        dsimp only at h
        exact absurd h (char_err ht)
      | inr n =>
        rw [ht] at hn
        dsimp only at hn
        rw [char_tr hr hq.1 hq.2 hl ht (by omega)]
    · rw [if_neg h39, if_neg h39]
end Go.Aw
set_option maxHeartbeats 16000000
set_option linter.unusedVariables false
set_option linter.unusedSimpArgs false
namespace Go.Aw
open Go
theorem nl_iff (l : List UInt8) : 0 < nlF l ↔ (hdF l = 13 ∨ hdF l = 10 ∨ hdF l = 12) := by
  rcases nlF_cases l with ⟨e, h⟩ | ⟨e, h, _⟩ | ⟨e, h, _⟩
  · rw [e]; exact ⟨fun x => absurd x (by decide), fun x => absurd x h⟩
  · rw [e]; exact ⟨fun _ => h, fun _ => by decide⟩
  · rw [e]; exact ⟨fun _ => .inl h, fun _ => by decide⟩
theorem nest_tr {d : Nat} {l r : List UInt8} {m n : Nat} (hm : m ≤ l.length) (h : nestN d l = some n) (hn : n ≤ m) : nestN d (tr l m r) = some n := by
  fun_induction nestN d l generalizing m n with
  | case1 => cases h
  | case2 d a l hc ih =>
    obtain ⟨k, hk, rfl⟩ := Option.map_eq_some_iff.1 h
    have h2 := nestN_last _ _ _ hk
    obtain ⟨m, rfl⟩ : ∃ j, m = j + 1 := ⟨m - 1, by omega⟩
    have hl : m ≤ l.length := by simpa using hm
    show nestN d (a :: tr l m r) = _
    rw [nestN, if_pos ⟨hc.1, by rw [tr_hd (by omega) hl]; exact hc.2⟩, tr_drop (by omega) hl, ih (by rw [List.length_drop]; omega) hk (by omega)]
    rfl
  | case3 d a l hc hk hd =>
    injection h with h
    subst h
    obtain ⟨m, rfl⟩ : ∃ j, m = j + 1 := ⟨m - 1, by omega⟩
    have hl : m ≤ l.length := by simpa using hm
    show nestN d (a :: tr l m r) = _
    rw [nestN, if_neg (by rw [tr_hd (by omega) hl]; exact hc), if_pos ⟨hk.1, by rw [tr_hd (by omega) hl]; exact hk.2⟩, if_pos hd]
  | case4 d a l hc hk hd ih =>
    obtain ⟨k, hk', rfl⟩ := Option.map_eq_some_iff.1 h
    have h2 := nestN_last _ _ _ hk'
    obtain ⟨m, rfl⟩ : ∃ j, m = j + 1 := ⟨m - 1, by omega⟩
    have hl : m ≤ l.length := by simpa using hm
    show nestN d (a :: tr l m r) = _
    rw [nestN, if_neg (by rw [tr_hd (by omega) hl]; exact hc), if_pos ⟨hk.1, by rw [tr_hd (by omega) hl]; exact hk.2⟩, if_neg hd, tr_drop (by omega) hl, ih (by rw [List.length_drop]; omega) hk' (by omega)]
    rfl
  | case5 d a l hc hk ih =>
    obtain ⟨k, hk', rfl⟩ := Option.map_eq_some_iff.1 h
    have h2 := nestN_last _ _ _ hk'
    obtain ⟨m, rfl⟩ : ∃ j, m = j + 1 := ⟨m - 1, by omega⟩
    have hl : m ≤ l.length := by simpa using hm
    show nestN d (a :: tr l m r) = _
    rw [nestN, if_neg (by rw [tr_hd (by omega) hl]; exact hc), if_neg (by rw [tr_hd (by omega) hl]; exact hk), ih hl hk' (by omega)]
    rfl
def Nlk (r : List UInt8) : Prop := hdF r = -1 ∨ hdF r = 10
theorem Nlk.brk {r : List UInt8} (h : Nlk r) : Brk r := by unfold Nlk at h; unfold Brk; omega
theorem eol_tr {l r : List UInt8} {m : Nat} (hr : Nlk r) (hm : m ≤ l.length) (h : eolN l ≤ m) : eolN (tr l m r) = eolN l := by
  have e0 : eolN r = 0 := by
    cases r with
    | nil => rfl
    | cons a r =>
      unfold Nlk at hr
      have : ((a.toNat : Nat) : Int) = hdF (a :: r) := rfl
      rw [eolN, if_pos ((nl_iff _).2 (by omega))]
  induction l generalizing m with
  | nil =>
    have : m = 0 := by simpa using hm
    subst this
    rw [tr_zero, e0]; rfl
  | cons a l ih =>
    cases m with
    | zero => rw [tr_zero, e0]; omega
    | succ m =>
      have hl : m ≤ l.length := by simpa using hm
      show eolN (a :: tr l m r) = _
      have hp : 0 < nlF (a :: tr l m r) ↔ 0 < nlF (a :: l) := by rw [nl_iff, nl_iff]; exact Iff.rfl
      unfold eolN at h ⊢
      by_cases hc : 0 < nlF (a :: l)
      · rw [if_pos hc, if_pos (hp.2 hc)]
      · rw [if_neg hc] at h
        rw [if_neg hc, if_neg (fun x => hc (hp.1 x)), ih hl (by omega)]
theorem rowLen_tr {l r : List UInt8} {m : Nat} (hr : Nlk r) (hv : Vd l) (hb : Bd l m) (hm : m ≤ l.length) (h : 0 < rowLen l) (hn : rowLen l ≤ m) : rowLen (tr l m r) = rowLen l := by
  unfold rowLen at h hn ⊢
  dsimp only at h hn ⊢
  split at h
  · rename_i hc
    rw [if_pos hc] at hn ⊢
    have e : spanR (fun c => classF c == 5) (tr l m r) = spanR (fun c => classF c == 5) l := span_tr hv hb hm (span_brk (p := fun c => classF c == 5) hr.brk (by decide) (by decide)) (show spanD _ l ≤ m by show spanR (fun c => classF c == 5) l ≤ m; omega)
    rw [e, tr_take (by omega) hm, if_pos hc, tr_drop (by omega) hm, eol_tr hr (by rw [List.length_drop]; omega) (by omega)]
  · omega
theorem note_tr {l r : List UInt8} {m n : Nat} (hr : Nlk r) (hv : Vd l) (hb : Bd l m) (hm : m ≤ l.length) (h0 : 0 < n) (h : noteN l = n) (hn : n ≤ m) : noteN (tr l m r) = n := by
  unfold noteN at h ⊢
  split at h
  · rename_i hc
    cases ht : nestN 1 (l.drop 2) with
    | none => rw [ht] at h; simp only [endAt] at h; omega
    | some k =>
      rw [ht] at h
      simp only [endAt] at h
      have h2 := nestN_last _ _ _ ht
      rw [tr_hd (by omega) hm, tr_hd_at (by omega) hm, if_pos hc, tr_drop (by omega) hm, nest_tr (by rw [List.length_drop]; omega) ht (by omega)]
      simp only [endAt]; omega
  · rename_i hc
    split at h
    · rename_i hd
      have h : rowLen l = n := by omega
      rw [tr_hd (by omega) hm, if_neg, if_pos hd, rowLen_tr hr hv hb hm (by omega) (by omega), h]
      rintro ⟨x, _⟩; omega
    · omega
theorem note_self {l : List UInt8} {n : Nat} (hv : Vd l) (h0 : 0 < n) (h : noteN l = n) : noteN (l.take n) = (l.take n).length ∧ (l.take n).length = n := by
  have hle := noteN_le l
  have hc := Cut.note hv h
  have e := note_tr (r := []) (.inl rfl) hv hc.bd (by omega) h0 h (Nat.le_refl _)
  unfold tr at e
  rw [List.append_nil] at e
  have hl : (l.take n).length = n := by rw [List.length_take]; omega
  rw [hl]; exact ⟨e, rfl⟩
end Go.Aw
namespace Go.Proofs.YtkidoddkbhchkaaGreatDoor
open Go Go.Aw
def tkP (t : Tk) : Int × Int := (t.line, t.col)
def ntP (n : Nt) : Int × Int := (n.line, n.col)
def NoteT (t : List UInt8) : Prop := t ≠ [] ∧ noteN t = (t.length : Nat)
structure Rise (s : List UInt8) (p : Nat) (x : Lx) : Prop where
  t : x.toks.Pairwise fun a b => ltP (tkP a) (tkP b)
  tp : ∀ a ∈ x.toks, ltP (tkP a) (atP s p)
  n : x.notes.Pairwise fun a b => ltP (ntP a) (ntP b) ∧ a.gap ≤ b.gap
  np : ∀ a ∈ x.notes, ltP (ntP a) (atP s p) ∧ 0 ≤ a.gap ∧ a.gap ≤ x.gap ∧ (a.wh = 1 ∨ a.wh = 2 ∨ a.wh = 3) ∧ NoteT a.text
  g : 0 ≤ x.gap ∧ x.gap ≤ x.toks.length
theorem piece_eq {s : List UInt8} {a b : Nat} : pieceF s a b = (s.drop a).take (b - a) := by unfold pieceF; rw [List.drop_take]
theorem Rise.le {s : List UInt8} {p q : Nat} {x : Lx} (h : Rise s p x) (hp : Cut s p) (hq : Cut s q) (hpq : p < q) : Rise s q x :=
  have l := at_lt hp hq hpq
  ⟨h.t, fun a ha => (h.tp a ha).trans l, h.n, fun a ha => ⟨(h.np a ha).1.trans l, (h.np a ha).2⟩, h.g⟩
theorem Rise.tok {s : List UInt8} {p q : Nat} {k : Int} {x : Lx} (h : Rise s p x) (hp : Cut s p) (hq : Cut s q) (hpq : p < q) : Rise s q (tokX s p q k x) := by
  have h' := h.le hp hq hpq
  have hg := h.g
  have hgg : x.gap ≤ (tokX s p q k x).gap ∧ (tokX s p q k x).gap ≤ x.gap + 1 := by
    show x.gap ≤ (if cntF k (pieceF s p q) then x.gap + 1 else x.gap) ∧ (if cntF k (pieceF s p q) then x.gap + 1 else x.gap) ≤ x.gap + 1
    split <;> omega
  refine ⟨?_, ?_, h.n, fun a ha => ?_, ?_⟩
  · refine List.pairwise_append.2 ⟨h.t, List.pairwise_singleton _ _, fun a ha b hb => ?_⟩
    rw [List.mem_singleton] at hb; subst hb
    exact h.tp a ha
  · intro a ha
    rcases List.mem_append.1 ha with ha | ha
    · exact h'.tp a ha
    · rw [List.mem_singleton] at ha; subst ha
      exact at_lt hp hq hpq
  · have := h'.np a ha
    exact ⟨this.1, this.2.1, by omega, this.2.2.2⟩
  · have : (tokX s p q k x).toks.length = x.toks.length + 1 := by simp [tokX]
    omega
theorem Rise.note {s : List UInt8} {p q : Nat} {x : Lx} (hv : Vd s) (h : Rise s p x) (hp : Cut s p) (hq : Cut s q) (hpq : p < q) (hn : noteN (s.drop p) = (q - p : Nat)) : Rise s q (noteX s p q x) := by
  have h' := h.le hp hq hpq
  have hg := h.g
  refine ⟨h.t, h'.tp, ?_, ?_, h.g⟩
  · refine List.pairwise_append.2 ⟨h.n, List.pairwise_singleton _ _, fun a ha b hb => ?_⟩
    rw [List.mem_singleton] at hb; subst hb
    exact ⟨(h.np a ha).1, (h.np a ha).2.2.1⟩
  · intro a ha
    rcases List.mem_append.1 ha with ha | ha
    · exact h'.np a ha
    · rw [List.mem_singleton] at ha; subst ha
      refine ⟨at_lt hp hq hpq, hg.1, Int.le_refl _, ?_, ?_⟩
      · show (if behF s p q x then (if inlF s p q then (1 : Int) else 2) else 3) = 1 ∨ (if behF s p q x then (if inlF s p q then (1 : Int) else 2) else 3) = 2 ∨ (if behF s p q x then (if inlF s p q then (1 : Int) else 2) else 3) = 3
        split
        · split
          · exact .inl rfl
          · exact .inr (.inl rfl)
        · exact .inr (.inr rfl)
      · show NoteT (pieceF s p q)
        rw [piece_eq]
        have e := note_self (hp.bd.vd hv) (by omega) hn
        refine ⟨fun e0 => ?_, e.1⟩
        rw [e0] at e
        have := e.2
        simp only [List.length_nil] at this; omega
theorem Rise.blk {s : List UInt8} {p : Nat} {x : Lx} (hv : Vd s) (h : Rise s p x) (hp : Cut s p) : Rise s (blkF s p) x := by
  by_cases e : p = blkF s p
  · rw [← e]; exact h
  · exact h.le hp (hp.blk hv) (by have := (blkF_le hp.le).1; omega)
end Go.Proofs.YtkidoddkbhchkaaGreatDoor
set_option maxHeartbeats 16000000
set_option linter.unusedVariables false
set_option linter.unusedSimpArgs false
namespace Go.Aw
open Go
def lexH (l : List UInt8) : Int × Nat × Int := ((lexmF l 0).1, (lexmF l 0).2.1.toNat, (lexmF l 0).2.2)
theorem quo_shift {s : List UInt8} {p : Nat} (h : (quoF s p).1 ≠ 0 ∨ (quoF s p).2.2 ≠ 0) : quoF s p = ((quoF (s.drop p) 0).1, p + (quoF (s.drop p) 0).2.1, (quoF (s.drop p) 0).2.2) := by
  unfold quoF at h ⊢
  simp only [List.drop_drop, Nat.add_zero, Nat.zero_add] at h ⊢
  split
  · split <;> (dsimp only; congr 2; omega)
  · split
    · split <;> (dsimp only; congr 2; omega)
    · rename_i h1 h2
      rw [if_neg h1, if_neg h2] at h
      exfalso
      rcases h with h | h <;> exact h rfl
theorem quo_shift0 {s : List UInt8} {p : Nat} : (quoF (s.drop p) 0).1 = (quoF s p).1 ∧ (quoF (s.drop p) 0).2.2 = (quoF s p).2.2 := by
  unfold quoF
  simp only [List.drop_drop, Nat.add_zero, Nat.zero_add]
  split
  · split <;> exact ⟨rfl, rfl⟩
  · split
    · split <;> exact ⟨rfl, rfl⟩
    · exact ⟨rfl, rfl⟩
theorem quo_nn {l : List UInt8} : 0 ≤ (quoF l 0).2.1 := by
  unfold quoF
  split
  · split <;> (dsimp only; omega)
  · split
    · split <;> (dsimp only; omega)
    · exact Int.le_refl _
theorem lexm_at {s : List UInt8} {p : Nat} : lexmF s p = ((lexH (s.drop p)).1, ((p + (lexH (s.drop p)).2.1 : Nat) : Int), (lexH (s.drop p)).2.2) := by
  have q0 := quo_shift0 (s := s) (p := p)
  have qn := quo_nn (l := s.drop p)
  unfold lexH lexmF
  have en : nscF (s.drop p) 0 = (if (numF (s.drop p)).1 = 0 then ((0 : Int), (0 : Int)) else ((numF (s.drop p)).1, ((numF (s.drop p)).2 : Nat))) := by unfold nscF; rw [List.drop_zero, Nat.zero_add]
  have ew : wscanF (s.drop p) 0 = (if (wordF (s.drop p)).1 = 0 then ((0 : Int), (0 : Int)) else ((wordF (s.drop p)).1, ((wordF (s.drop p)).2 : Nat))) := by unfold wscanF; rw [List.drop_zero, Nat.zero_add]
  have en' : nscF s p = (if (numF (s.drop p)).1 = 0 then ((0 : Int), (0 : Int)) else ((numF (s.drop p)).1, ((p + (numF (s.drop p)).2 : Nat) : Int))) := rfl
  have ew' : wscanF s p = (if (wordF (s.drop p)).1 = 0 then ((0 : Int), (0 : Int)) else ((wordF (s.drop p)).1, ((p + (wordF (s.drop p)).2 : Nat) : Int))) := rfl
  rw [en, ew, en', ew']
  by_cases h1 : (numF (s.drop p)).1 = 0
  · rw [if_pos h1, if_pos h1]
    dsimp only
    have z0 : ¬ ((0 : Int) ≠ 0) := fun x => x rfl
    rw [if_neg z0, if_neg z0, q0.1, q0.2]
    by_cases h2 : (quoF s p).1 = 0 ∧ (quoF s p).2.2 = 0
    · rw [if_pos h2, if_pos h2]
      by_cases h3 : (wordF (s.drop p)).1 = 0
      · rw [if_pos h3, if_pos h3]; rfl
      · rw [if_neg h3, if_neg h3]
        dsimp only
        rw [if_neg h3, if_neg h3]; rfl
    · rw [if_neg h2, if_neg h2]
      rw [quo_shift (s := s) (p := p) (by omega)]
      refine Prod.ext rfl (Prod.ext ?_ rfl)
      dsimp only
      omega
  · rw [if_neg h1, if_neg h1]
    dsimp only
    rw [if_pos h1, if_pos h1]; rfl
theorem note_at {s : List UInt8} {p : Nat} : noteF s p = if noteN (s.drop p) < 0 then (0, 60) else if noteN (s.drop p) = 0 then (0, 0) else (p + noteN (s.drop p), 0) := rfl
theorem lexH_cut {l : List UInt8} (hv : Vd l) (e : (lexH l).2.2 = 0) : (lexH l).1 ≠ 0 ∧ 0 < (lexH l).2.1 ∧ (lexH l).2.1 ≤ l.length ∧ Cut l (lexH l).2.1 := by
  obtain ⟨h1, q, h2, h3, h4, h5⟩ := lexm_cut hv (.zero l) (show (lexmF l 0).2.2 = 0 from e)
  have : (lexH l).2.1 = q := by show (lexmF l 0).2.1.toNat = q; omega
  rw [this]; exact ⟨h1, h3, h4, h5⟩
theorem lexH_tr {l r : List UInt8} {m : Nat} (hr : Brk r) (hv : Vd l) (hb : Bd l m) (h0 : 0 < m) (hm : m ≤ l.length) (e : (lexH l).2.2 = 0) (h : (lexH l).2.1 ≤ m) (hM : m = (lexH l).2.1 ∨ m = l.length) : lexH (tr l m r) = lexH l := by
  have key : lexmF (tr l m r) 0 = lexmF l 0 := by
    have d0 : ∀ x : List UInt8, x.drop 0 = x := fun x => rfl
    have hnn := quo_nn (l := l)
    unfold lexH at e h hM
    dsimp only at e h hM
    by_cases h1 : (numF l).1 = 0
    · have n2 : (numF l).2 = 0 := by
        unfold numF at h1 ⊢
        split
        · rename_i hc; rw [if_pos hc] at h1; exact absurd h1 (by decide : ¬ (11 : Int) = 0)
        · rename_i hc
          rw [if_neg hc] at h1
          split
          · rfl
          · rename_i hc2
            rw [if_neg hc2] at h1
            dsimp only at h1
            split at h1 <;> exact absurd h1 (by decide)
      have e1 := num_tr (l := l) (r := r) (m := m) hr h0 hm (by omega)
      have en : nscF l 0 = (0, 0) := by unfold nscF; rw [d0, if_pos h1]
      have en' : nscF (tr l m r) 0 = (0, 0) := by unfold nscF; rw [d0, e1, if_pos h1]
      unfold lexmF at e h hM ⊢
      rw [en] at e h hM ⊢
      rw [en']
      rw [if_neg (fun x => x rfl)] at e h hM
      have z0 : ¬ (((0 : Int), (0 : Int)).1 ≠ 0) := fun x => x rfl
      rw [if_neg z0, if_neg z0]
      by_cases h2 : (quoF l 0).1 = 0 ∧ (quoF l 0).2.2 = 0
      · have q1 : (quoF l 0).2.1 = 0 := by
          have h21 := h2.1
          have h22 := h2.2
          unfold quoF at h21 h22 ⊢
          by_cases c1 : hdF (l.drop 0) = 34
          · rw [if_pos c1] at h21 h22
            split at h21
            · rename_i q hq; rw [hq] at h22; exact absurd h22 (text_err hq)
            · exact absurd h21 (show ¬ (14 : Int) = 0 by decide)
          · rw [if_neg c1] at h21 h22 ⊢
            by_cases c2 : hdF (l.drop 0) = 39
            · rw [if_pos c2] at h21 h22
              split at h21
              · rename_i q hq; rw [hq] at h22; exact absurd h22 (char_err hq)
              · exact absurd h21 (show ¬ (13 : Int) = 0 by decide)
            · rw [if_neg c2]
        have e2 := quo_tr (l := l) (r := r) (m := m) hr hv hb h0 hm h2.2 (by omega)
        rw [if_pos h2] at e h hM
        rw [e2, if_pos h2, if_pos h2]
        by_cases h3 : (wordF l).1 = 0
        · have ew : wscanF l 0 = (0, 0) := by unfold wscanF; rw [d0, if_pos h3]
          rw [ew, if_pos rfl] at e
          exact absurd e (by decide : ¬ (70 : Int) = 0)
        · have ew : wscanF l 0 = ((wordF l).1, (((wordF l).2 : Nat) : Int)) := by unfold wscanF; rw [d0, if_neg h3, Nat.zero_add]
          rw [ew, if_neg h3] at h hM
          dsimp only at h hM
          have e3 := word_tr (l := l) (r := r) (m := m) hr hv hb h0 hm (by omega) (by omega)
          have ew' : wscanF (tr l m r) 0 = wscanF l 0 := by unfold wscanF; rw [d0, d0, e3]
          rw [ew']
      · rw [if_neg h2] at e h hM
        have e2 := quo_tr (l := l) (r := r) (m := m) hr hv hb h0 hm e (by omega)
        rw [e2, if_neg h2, if_neg h2]
    · have en : nscF l 0 = ((numF l).1, (((numF l).2 : Nat) : Int)) := by unfold nscF; rw [d0, if_neg h1, Nat.zero_add]
      unfold lexmF at h hM ⊢
      rw [en, if_pos h1] at h hM
      dsimp only at h hM
      have e1 := num_tr (l := l) (r := r) (m := m) hr h0 hm (by omega)
      have en' : nscF (tr l m r) 0 = nscF l 0 := by unfold nscF; rw [d0, d0, e1]
      rw [en', en, if_pos h1, if_pos h1]
  unfold lexH
  rw [key]
theorem note0_tr {l r : List UInt8} {m : Nat} (hr : Brk r) (hv : Vd l) (hb : Bd l m) (h0 : 0 < m) (hm : m ≤ l.length) (e : (lexH l).2.2 = 0) (h : (lexH l).2.1 ≤ m) (hn : noteN l = 0) : noteN (tr l m r) = 0 := by
  have h1 := tr_hd (l := l) (r := r) h0 hm
  unfold noteN at hn ⊢
  split at hn
  · exfalso
    cases ht : nestN 1 (l.drop 2) with
    | none => rw [ht] at hn; exact absurd hn (by decide : ¬ (-1 : Int) = 0)
    | some k => rw [ht] at hn; simp only [endAt] at hn; omega
  · rename_i hc
    rw [h1, if_neg]
    · split at hn
      · rename_i h45
        rw [if_pos h45]
        have hs : spanR (fun c => classF c == 5) l ≤ m := by
          by_cases hle : spanR (fun c => classF c == 5) l ≤ m
          · exact hle
          · exfalso
            have hf : firstF l = 5 := by
              cases l with
              | nil => exact absurd h45 (by decide)
              | cons a t =>
                show classF (((decR (a :: t)).1 : Nat) : Int) = 5
                rw [(decR_hd (by omega) (by omega)).2, h45]; decide
            have hp : plainF l = (symF (l.take (spanR (fun c => classF c == 5) l)), spanR (fun c => classF c == 5) l) := by
              unfold plainF; rw [if_neg (by omega), if_pos hf]
            have hk : symF (l.take (spanR (fun c => classF c == 5) l)) ≠ 2 ∧ symF (l.take (spanR (fun c => classF c == 5) l)) ≠ 4 ∧ symF (l.take (spanR (fun c => classF c == 5) l)) ≠ 0 := by
              unfold symF; split
              · decide
              · split <;> decide
            have hw : wordF l = plainF l := by
              unfold wordF
              rw [scanG_no]
              rw [hp]; rintro ⟨_, x, _⟩
              exact x.elim hk.1 hk.2.1
            have hnum : (numF l).1 = 0 := by
              unfold numF
              have p0 : (prefF l).1 = 10 := by unfold prefF; rw [if_neg (fun x => by omega)]
              have r0 : rowN 10 l = 0 := by
                cases l with
                | nil => rfl
                | cons a t =>
                  have h45 : ((a.toNat : Nat) : Int) = 45 := h45
                  unfold rowN
                  rw [if_pos (by rw [h45]; decide)]
              rw [if_neg (by omega), if_pos r0]
            have hq : quoF l 0 = (0, 0, 0) := by
              unfold quoF
              rw [List.drop_zero, if_neg (by omega), if_neg (by omega)]
            have : (lexH l).2.1 = (wordF l).2 := by
              unfold lexH lexmF
              have en : nscF l 0 = (0, 0) := by unfold nscF; rw [List.drop_zero, if_pos hnum]
              have ew : wscanF l 0 = ((wordF l).1, (((wordF l).2 : Nat) : Int)) := by unfold wscanF; rw [List.drop_zero, if_neg (by rw [hw, hp]; exact hk.2.2), Nat.zero_add]
              rw [en, hq, ew]
              dsimp only
              rw [if_neg (fun x => x rfl), if_pos ⟨rfl, rfl⟩, if_neg (by rw [hw, hp]; exact hk.2.2)]
              rfl
            rw [hw, hp] at this
            dsimp only at this
            omega
        have es : spanR (fun c => classF c == 5) (tr l m r) = spanR (fun c => classF c == 5) l := span_tr hv hb hm (span_brk (p := fun c => classF c == 5) hr (by decide) (by decide)) hs
        have hn : rowLen l = 0 := by omega
        have : rowLen (tr l m r) = 0 := by
          unfold rowLen at hn ⊢
          dsimp only at hn ⊢
          rw [es, tr_take hs hm]
          split
          · rename_i hc2
            rw [if_pos hc2] at hn; omega
          · rfl
        rw [this]; rfl
      · rename_i h45
        rw [if_neg h45]
    · rintro ⟨x, y⟩
      by_cases hm1 : 1 < m
      · rw [tr_hd_at hm1 hm] at y; exact hc ⟨x, y⟩
      · have : m = 1 := by omega
        subst this
        rw [tr_hd_end hm] at y
        unfold Brk at hr; omega
end Go.Aw
set_option maxHeartbeats 16000000
set_option linter.unusedVariables false
set_option linter.unusedSimpArgs false
namespace Go.Aw
open Go
def blkN (l : List UInt8) : Nat := spanR (fun c => classF c == 1) l
def bdr (l : List UInt8) : List UInt8 := l.drop (blkN l)
theorem bdr_len (l : List UInt8) : (bdr l).length ≤ l.length := by unfold bdr; rw [List.length_drop]; omega
def itF (l : List UInt8) : Option (List (Int × List UInt8)) :=
  if h0 : bdr l = [] then some []
  else if noteN (bdr l) < 0 then none
  else if h1 : 0 < noteN (bdr l) then (itF ((bdr l).drop (noteN (bdr l)).toNat)).map ((0, (bdr l).take (noteN (bdr l)).toNat) :: ·)
  else if (lexH (bdr l)).2.2 ≠ 0 then none
  else if h2 : 0 < (lexH (bdr l)).2.1 then (itF ((bdr l).drop (lexH (bdr l)).2.1)).map (((lexH (bdr l)).1, (bdr l).take (lexH (bdr l)).2.1) :: ·)
  else none
termination_by l.length
decreasing_by
  all_goals
    have := bdr_len l
    have h0' := List.length_pos_iff.2 h0
    rw [List.length_drop]; omega
theorem it_bdr {l l' : List UInt8} (h : bdr l = bdr l') : itF l = itF l' := by
  rw [itF]
  conv => rhs; rw [itF]
  simp only [h]
theorem bdr_nil : bdr [] = [] := by
  show ([] : List UInt8).drop _ = []
  exact List.drop_nil
theorem it_nil : itF [] = some [] := by rw [itF, dif_pos bdr_nil]
theorem bdr_cut {l : List UInt8} (hv : Vd l) : Vd (bdr l) := (Cut.blank hv).bd.vd hv
def Cl (l : List UInt8) : Prop := spanD (fun d => !(classF (d.1 : Nat) == 0)) l = l.length
theorem all_tr {p : Nat × Nat → Bool} {l : List UInt8} {k : Nat} (hv : Vd l) (hb : Bd l k) (hk : k ≤ l.length) (h : spanD p l = l.length) : spanD p (l.take k) = (l.take k).length ∧ spanD p (l.drop k) = (l.drop k).length := by
  have e : l.take k = tr l k [] := by unfold tr; rw [List.append_nil]
  rw [e]
  induction hb with
  | zero l => exact ⟨by rw [tr_zero, spanD_nil]; rfl, h⟩
  | @step l k hne hb ih =>
    have hd := dec_tr (r := []) hv (by have := decR_pos l; omega) hk (.step hne hb)
    have hl := decR_le hne
    have hp := decR_pos l
    have hc : p (decR l) = true := by
      cases hc : p (decR l) with
      | true => rfl
      | false => rw [spanD_no hc] at h; have := List.length_pos_iff.2 hne; omega
    have hne' : tr l ((decR l).2 + k) [] ≠ [] := fun e => by
      have := congrArg List.length e
      rw [tr_len hk] at this; simp only [List.length_nil] at this; omega
    rw [spanD_yes hne hc] at h
    have ih := ih (hv.rune hne).2 (by rw [List.length_drop]; omega) (by rw [List.length_drop]; omega) (by unfold tr; rw [List.append_nil])
    rw [spanD_yes hne' (by rw [hd.1]; exact hc), hd.1, tr_drop (by omega) hk, show (decR l).2 + k - (decR l).2 = k by omega, ih.1]
    rw [List.drop_drop] at ih
    refine ⟨?_, ih.2⟩
    rw [tr_len hk, tr_len (by rw [List.length_drop]; omega)]
    simp only [List.length_nil]; omega
theorem Vd.take {l : List UInt8} {k : Nat} (hv : Vd l) (hb : Bd l k) (hk : k ≤ l.length) : Vd (l.take k) := (all_tr (p := goodD) hv hb hk hv).1
theorem Cl.take {l : List UInt8} {k : Nat} (h : Cl l) (hv : Vd l) (hb : Bd l k) (hk : k ≤ l.length) : Cl (l.take k) := (all_tr hv hb hk h).1
theorem Cl.drop {l : List UInt8} {k : Nat} (h : Cl l) (hv : Vd l) (hb : Bd l k) (hk : k ≤ l.length) : Cl (l.drop k) := (all_tr hv hb hk h).2
theorem Cl.app {l t : List UInt8} (h : Cl l) (hv : Vd l) (k : Cl t) : Cl (l ++ t) := by
  unfold Cl at *
  rw [spanD_app l t hv, if_pos h, k, List.length_append]
theorem bdr_32 (r : List UInt8) : bdr (32 :: r) = bdr r := by
  have e : blkN (32 :: r) = 1 + blkN r := by
    have h1 : decR (32 :: r) = (32, 1) := decR_lo (by decide)
    show spanR _ (32 :: r) = _
    rw [spanR_yes (by simp) (by rw [h1]; decide), h1]; rfl
  unfold bdr
  rw [e, Nat.add_comm]; rfl
def Self (t : Int × List UInt8) : Prop :=
  t.1 ≠ 0 ∧ t.2 ≠ [] ∧ Vd t.2 ∧ Cl t.2 ∧ ∀ r, Brk r → bdr (t.2 ++ r) = t.2 ++ r ∧ noteN (t.2 ++ r) = 0 ∧ lexH (t.2 ++ r) = (t.1, t.2.length, 0)
theorem bdr_bdr (l : List UInt8) : blkN (bdr l) = 0 := by
  by_cases h : blkN l < l.length
  · have := spanR_stop (fun c => classF c == 1) l h
    exact spanR_no this
  · have : bdr l = [] := List.drop_eq_nil_iff.2 (by omega)
    rw [this]; exact spanR_nil _
theorem self_of {l : List UInt8} (hv : Vd l) (hcl : Cl l) (hb : blkN l = 0) (h0 : l ≠ []) (hn : noteN l = 0) (h : (lexH l).2.2 = 0) : Self ((lexH l).1, l.take (lexH l).2.1) := by
  obtain ⟨k1, k2, k3, k4⟩ := lexH_cut hv h
  have hl : (l.take (lexH l).2.1).length = (lexH l).2.1 := by rw [List.length_take]; omega
  refine ⟨k1, fun e => ?_, hv.take k4.bd k3, hcl.take hv k4.bd k3, fun r hr => ?_⟩
  · have := congrArg List.length e
    dsimp only at this
    rw [hl, List.length_nil] at this; omega
  · have e2 := lexH_tr (r := r) hr hv k4.bd k2 k3 h (Nat.le_refl _) (.inl rfl)
    have e3 := note0_tr (r := r) hr hv k4.bd k2 k3 h (Nat.le_refl _) hn
    have hd := dec_tr (r := r) hv k2 k3 k4.bd
    dsimp only
    rw [hl]
    refine ⟨?_, e3, by rw [show l.take (lexH l).2.1 ++ r = tr l (lexH l).2.1 r from rfl, e2]; exact Prod.ext rfl (Prod.ext rfl h)⟩
    show (tr l (lexH l).2.1 r).drop (blkN (tr l (lexH l).2.1 r)) = _
    have : blkN (tr l (lexH l).2.1 r) = 0 := by
      cases hc : classF ((decR l).1 : Nat) == 1 with
      | true =>
        have := spanR_yes (p := fun c => classF c == 1) h0 hc
        have hp := decR_pos l
        unfold blkN at hb; omega
      | false => exact spanR_no (by rw [hd.1]; exact hc)
    rw [this]; rfl
theorem it_self {l : List UInt8} {is : List (Int × List UInt8)} (hv : Vd l) (hcl : Cl l) (h : itF l = some is) : ∀ t ∈ is, t.1 ≠ 0 → Self t := by
  have hle := spanR_le (fun c => classF c == 1) l
  fun_induction itF l generalizing is with
  | case1 l h0 => injection h with h; subst h; intro t ht; cases ht
  | case2 l h0 h1 => cases h
  | case3 l h0 h1 h2 ih =>
    obtain ⟨k, hk, rfl⟩ := Option.map_eq_some_iff.1 h
    have hv' := bdr_cut hv
    have hcl' : Cl (bdr l) := hcl.drop hv (Cut.blank hv).bd hle
    have e : noteN (bdr l) = ((noteN (bdr l)).toNat : Nat) := by omega
    have hc := Cut.note hv' e
    intro t ht hk0
    rcases List.mem_cons.1 ht with rfl | ht
    · exact absurd rfl hk0
    · exact ih (hc.bd.vd hv') (hcl'.drop hv' hc.bd hc.le) hk (spanR_le _ _) t ht hk0
  | case4 l h0 h1 h2 h3 => cases h
  | case5 l h0 h1 h2 h3 h4 ih =>
    obtain ⟨k, hk, rfl⟩ := Option.map_eq_some_iff.1 h
    have hv' := bdr_cut hv
    have hcl' : Cl (bdr l) := hcl.drop hv (Cut.blank hv).bd hle
    have h3' : (lexH (bdr l)).2.2 = 0 := by omega
    obtain ⟨k1, k2, k3, k4⟩ := lexH_cut hv' h3'
    intro t ht hk0
    rcases List.mem_cons.1 ht with rfl | ht
    · exact self_of hv' hcl' (bdr_bdr l) h0 (by omega) h3'
    · exact ih (k4.bd.vd hv') (hcl'.drop hv' k4.bd k3) hk (spanR_le _ _) t ht hk0
  | case6 l h0 h1 h2 h3 h4 => cases h
def spellW : List (List UInt8) → List UInt8
  | [] => []
  | [w] => w
  | w :: v :: r => w ++ 32 :: spellW (v :: r)
theorem it_one {t : Int × List UInt8} {r : List UInt8} (h : Self t) (hr : Brk r) : itF (t.2 ++ r) = (itF r).map (t :: ·) := by
  obtain ⟨h1, h2, h3, h4, h5⟩ := h
  obtain ⟨e1, e2, e3⟩ := h5 r hr
  have hl := List.length_pos_iff.2 h2
  rw [itF, dif_neg (by rw [e1]; simp [h2]), e1, e2, if_neg (by omega), dif_neg (by omega), e3, if_neg (fun x => x rfl), dif_pos hl]
  dsimp only
  rw [List.drop_left, List.take_left]
theorem it_spell : ∀ ts : List (Int × List UInt8), (∀ t ∈ ts, Self t) → itF (spellW (ts.map (·.2))) = some ts
  | [], _ => by
    exact it_nil
  | [t], h => by
    have e := it_one (r := []) (h t List.mem_cons_self) (.inl rfl)
    rw [List.append_nil] at e
    show itF t.2 = _
    rw [e, it_nil]; rfl
  | t :: u :: r, h => by
    show itF (t.2 ++ 32 :: spellW ((u :: r).map (·.2))) = _
    rw [it_one (h t List.mem_cons_self) (.inr (.inl rfl)), it_bdr (bdr_32 _), it_spell (u :: r) (fun x hx => h x (List.mem_cons_of_mem _ hx))]; rfl
theorem Vd.sp : Vd [32] := by unfold Vd; rw [spanD_yes (by simp) (by decide)]; rw [show (([32] : List UInt8).drop (decR [32]).2) = [] from by rw [decR_lo (by decide)]; rfl, spanD_nil, decR_lo (by decide)]; rfl
theorem Vd.nl : Vd [10] := by unfold Vd; rw [spanD_yes (by simp) (by decide)]; rw [show (([10] : List UInt8).drop (decR [10]).2) = [] from by rw [decR_lo (by decide)]; rfl, spanD_nil, decR_lo (by decide)]; rfl
theorem Cl.sp : Cl [32] := by unfold Cl; rw [spanD_yes (by simp) (by decide)]; rw [show (([32] : List UInt8).drop (decR [32]).2) = [] from by rw [decR_lo (by decide)]; rfl, spanD_nil, decR_lo (by decide)]; rfl
theorem Cl.nl : Cl [10] := by unfold Cl; rw [spanD_yes (by simp) (by decide)]; rw [show (([10] : List UInt8).drop (decR [10]).2) = [] from by rw [decR_lo (by decide)]; rfl, spanD_nil, decR_lo (by decide)]; rfl
theorem spell_ok : ∀ ws : List (List UInt8), (∀ w ∈ ws, Vd w ∧ Cl w) → Vd (spellW ws) ∧ Cl (spellW ws)
  | [], _ => ⟨Vd.nil, spanD_nil _⟩
  | [w], h => h w List.mem_cons_self
  | w :: v :: r, h => by
    have h1 := h w List.mem_cons_self
    have h2 := spell_ok (v :: r) (fun x hx => h x (List.mem_cons_of_mem _ hx))
    have e : (32 :: spellW (v :: r) : List UInt8) = [32] ++ spellW (v :: r) := rfl
    show Vd (w ++ 32 :: spellW (v :: r)) ∧ Cl (w ++ 32 :: spellW (v :: r))
    rw [e]
    exact ⟨h1.1.app (Vd.sp.app h2.1), h1.2.app h1.1 (Cl.sp.app Vd.sp h2.2)⟩
end Go.Aw
namespace Go.Proofs.YtkidoddkbhchkaaGreatDoor
open Go Go.Aw
def kts (l : List Tk) : List (Int × List UInt8) := l.map fun t => (t.kind, t.text)
def LexIs (is : Option (List (Int × List UInt8))) (x : Lx) (r : Sum (Int × Int) Lx) : Prop := match is with
  | none => ∃ e, r = .inl e
  | some is => ∃ y, r = .inr y ∧ kts y.toks = kts x.toks ++ is.filter (fun t => t.1 != 0) ∧ y.notes.map (·.text) = x.notes.map (·.text) ++ (is.filter (fun t => t.1 == 0)).map (·.2)
theorem LexIs.tok {o : Option (List (Int × List UInt8))} {s : List UInt8} {p q : Nat} {k : Int} {x : Lx} {r : Sum (Int × Int) Lx} (h : LexIs o (tokX s p q k x) r) (hk : k ≠ 0) {t : List UInt8} (ht : t = pieceF s p q) : LexIs (o.map ((k, t) :: ·)) x r := by
  subst ht
  cases o with
  | none => exact h
  | some is =>
    obtain ⟨y, h1, h2, h3⟩ := h
    refine ⟨y, h1, ?_, ?_⟩
    · have hf : (((k, pieceF s p q) :: is).filter fun t : Int × List UInt8 => t.1 != 0) = (k, pieceF s p q) :: is.filter fun t => t.1 != 0 := List.filter_cons_of_pos (by simpa using hk)
      rw [hf, h2]
      simp [kts, tokX]
    · have hf : (((k, pieceF s p q) :: is).filter fun t : Int × List UInt8 => t.1 == 0) = is.filter fun t => t.1 == 0 := List.filter_cons_of_neg (by simpa using hk)
      rw [hf, h3]; rfl
theorem LexIs.note {o : Option (List (Int × List UInt8))} {s : List UInt8} {p q : Nat} {x : Lx} {r : Sum (Int × Int) Lx} (h : LexIs o (noteX s p q x) r) {t : List UInt8} (ht : t = pieceF s p q) : LexIs (o.map ((0, t) :: ·)) x r := by
  subst ht
  cases o with
  | none => exact h
  | some is =>
    obtain ⟨y, h1, h2, h3⟩ := h
    refine ⟨y, h1, ?_, ?_⟩
    · have hf : (((0, pieceF s p q) :: is).filter fun t : Int × List UInt8 => t.1 != 0) = is.filter fun t => t.1 != 0 := List.filter_cons_of_neg (by simp)
      rw [hf, h2]; rfl
    · have hf : (((0, pieceF s p q) :: is).filter fun t : Int × List UInt8 => t.1 == 0) = (0, pieceF s p q) :: is.filter fun t => t.1 == 0 := List.filter_cons_of_pos (by simp)
      rw [hf, h3]
      simp [noteX]
theorem lexL_it {s : List UInt8} (hv : Vd s) : ∀ (n q : Nat) (x : Lx), s.length - q ≤ n → Cut s q → LexIs (itF (s.drop q)) x (lexL s (blkF s q) x) := by
  intro n
  induction n with
  | zero =>
    intro q x hn c
    have hb := blkF_le c.le
    have hq := c.le
    have e0 : s.drop q = [] := List.drop_eq_nil_iff.2 (by omega)
    rw [e0, it_nil, lexL, dif_neg (by omega)]
    exact ⟨x, rfl, by simp, by simp⟩
  | succ n ih =>
    intro q x hn c
    have hb := blkF_le c.le
    have c' := c.blk hv
    have e1 : bdr (s.drop q) = s.drop (blkF s q) := by unfold bdr; rw [List.drop_drop]; rfl
    by_cases hp : blkF s q < s.length
    · rw [itF, dif_neg (by rw [e1]; exact drop_ne hp), e1, lexL, dif_pos hp]
      have hna := note_at (s := s) (p := blkF s q)
      by_cases h1 : noteN (s.drop (blkF s q)) < 0
      · rw [if_pos h1] at hna
        rw [if_pos h1, hna, if_pos (by decide)]
        exact ⟨_, rfl⟩
      · rw [if_neg h1] at hna
        rw [if_neg h1]
        by_cases h2 : 0 < noteN (s.drop (blkF s q))
        · rw [if_neg (by omega)] at hna
          rw [dif_pos h2, hna, if_neg (fun x => x rfl), if_pos (by dsimp only; omega)]
          dsimp only
          have eq : ((blkF s q : Int) + noteN (s.drop (blkF s q))).toNat = blkF s q + (noteN (s.drop (blkF s q))).toNat := by omega
          rw [eq, dif_pos (by omega), List.drop_drop]
          have cc := c'.add (Cut.note (c'.bd.vd hv) (n := (noteN (s.drop (blkF s q))).toNat) (by omega))
          exact LexIs.note (ih _ _ (by omega) cc) (by rw [piece_eq, Nat.add_sub_cancel_left])
        · rw [if_pos (by omega)] at hna
          rw [dif_neg h2, hna, if_neg (show ¬ (((0 : Int), (0 : Int)).2 ≠ 0) from fun x => x rfl), if_neg (show ¬ (0 : Int) < ((0 : Int), (0 : Int)).1 by decide), lexm_at]
          dsimp only
          by_cases h3 : (lexH (s.drop (blkF s q))).2.2 = 0
          · obtain ⟨k1, k2, k3, k4⟩ := lexH_cut (c'.bd.vd hv) h3
            rw [if_neg (fun x => x h3), if_neg (fun x => x h3), dif_pos k2, Int.toNat_natCast, dif_pos (by omega), List.drop_drop]
            exact LexIs.tok (ih _ _ (by omega) (c'.add k4)) k1 (by rw [piece_eq, Nat.add_sub_cancel_left])
          · rw [if_pos h3, if_pos h3]
            exact ⟨_, rfl⟩
    · rw [itF, dif_pos (by rw [e1]; exact List.drop_eq_nil_iff.2 (by omega)), lexL, dif_neg hp]
      exact ⟨x, rfl, by simp, by simp⟩
def Okt (s : List UInt8) : Prop := s.length ≤ 16777216 ∧ Vd s ∧ Cl s
theorem lexF_of {s : List UInt8} (h : Okt s) : LexIs (itF s) lx0 (lexF s) := by
  have e : lexF s = lexL s (blkF s 0) lx0 := by
    unfold lexF
    rw [if_neg (by have := h.1; omega), if_neg, if_neg]
    · unfold idxF
      have := h.2.2
      rw [if_neg (fun x => Nat.lt_irrefl _ (Nat.lt_of_lt_of_le x (Nat.le_of_eq (show s.length = spanD (fun d => !(classF (d.1 : Nat) == 0)) s from h.2.2.symm))))]
      decide
    · unfold chkF
      rw [if_neg (by have : spanD goodD s = s.length := h.2.1; omega)]
      exact fun x => x rfl
  rw [e]
  exact lexL_it h.2.1 _ 0 lx0 (Nat.le_refl _) (.zero s)
theorem lexF_ok {s : List UInt8} {y : Lx} (h : lexF s = .inr y) : Okt s := by
  unfold lexF at h
  split at h
  · cases h
  · split at h
    · cases h
    · rename_i h1 h2
      split at h
      · cases h
      · rename_i h3
        refine ⟨by omega, chk_vd (by omega), ?_⟩
        unfold idxF at h3
        have hle := spanD_le (fun d => !((fun c : Nat => classF (c : Nat) == 0) d.1)) s
        split at h3
        · omega
        · show spanD (fun d => !((fun c : Nat => classF (c : Nat) == 0) d.1)) s = _
          omega
theorem lexF_it {s : List UInt8} {y : Lx} (h : lexF s = .inr y) : ∃ is, itF s = some is ∧ kts y.toks = is.filter (fun t => t.1 != 0) ∧ y.notes.map (·.text) = (is.filter (fun t => t.1 == 0)).map (·.2) := by
  have h1 := lexF_of (lexF_ok h)
  cases hi : itF s with
  | none => rw [hi] at h1; obtain ⟨e, h1⟩ := h1; rw [h1] at h; cases h
  | some is =>
    rw [hi] at h1
    obtain ⟨z, h2, h3, h4⟩ := h1
    rw [h2] at h
    injection h with h; subst h
    exact ⟨is, rfl, by rw [h3]; rfl, by rw [h4]; rfl⟩
theorem lexF_some {s : List UInt8} {is : List (Int × List UInt8)} (h : Okt s) (hi : itF s = some is) : ∃ y, lexF s = .inr y ∧ kts y.toks = is.filter (fun t => t.1 != 0) ∧ y.notes.map (·.text) = (is.filter (fun t => t.1 == 0)).map (·.2) := by
  have h1 := lexF_of h
  rw [hi] at h1
  obtain ⟨z, h2, h3, h4⟩ := h1
  exact ⟨z, h2, by rw [h3]; rfl, by rw [h4]; rfl⟩
theorem lex_part {s : List UInt8} {y : Lx} (h : lexF s = .inr y) (l : List Tk) (hsub : ∀ t ∈ l, t ∈ y.toks) (hl : (spellW (l.map (·.text))).length ≤ 16777216) : ∃ w, lexF (spellW (l.map (·.text))) = .inr w ∧ kts w.toks = kts l ∧ w.notes = [] := by
  obtain ⟨is, h1, h2, _⟩ := lexF_it h
  have ok := lexF_ok h
  have hs : ∀ t ∈ kts l, Self t := fun t ht => by
    replace ht : t ∈ kts y.toks := by
      obtain ⟨u, hu, rfl⟩ := List.mem_map.1 ht
      exact List.mem_map.2 ⟨u, hsub u hu, rfl⟩
    rw [h2, List.mem_filter] at ht
    exact it_self ok.2.1 ok.2.2 h1 t ht.1 (by simpa using ht.2)
  have e1 : l.map (·.text) = (kts l).map (·.2) := by simp [kts]
  have e2 := it_spell (kts l) hs
  rw [e1] at hl ⊢
  have hok : Okt (spellW ((kts l).map (·.2))) := by
    have := spell_ok ((kts l).map (·.2)) (fun w hw => by
      obtain ⟨t, ht, rfl⟩ := List.mem_map.1 hw
      exact ⟨(hs t ht).2.2.1, (hs t ht).2.2.2.1⟩)
    exact ⟨hl, this⟩
  obtain ⟨w, w1, w2, w3⟩ := lexF_some hok e2
  refine ⟨w, w1, ?_, ?_⟩
  · rw [w2]
    exact List.filter_eq_self.2 (fun t ht => by simpa using (hs t ht).1)
  · have : (kts l).filter (fun t => t.1 == 0) = [] := List.filter_eq_nil_iff.2 (fun t ht => by simpa using (hs t ht).1)
    rw [this] at w3
    exact List.map_eq_nil_iff.1 w3
end Go.Proofs.YtkidoddkbhchkaaGreatDoor
set_option maxHeartbeats 16000000
set_option linter.unusedVariables false
namespace Go.Proofs.YtkidoddkbhchkaaGreatDoor
open Go Go.Aw
theorem lexL_end {s : List UInt8} {p : Nat} {x : Lx} (h : ¬ p < s.length) : lexL s p x = .inr x := by rw [lexL, dif_neg h]
theorem lexL_bad {s : List UInt8} {p : Nat} {x : Lx} (h : p < s.length) (h1 : (noteF s p).2 ≠ 0) : lexL s p x = .inl ((p : Nat), (noteF s p).2) := by rw [lexL, dif_pos h, if_pos h1]
theorem lexL_note {s : List UInt8} {p q : Nat} {x : Lx} (h : p < s.length) (h1 : (noteF s p).2 = 0) (h2 : (noteF s p).1 = (q : Nat)) (h3 : p < q) : lexL s p x = lexL s (blkF s q) (noteX s p q x) := by
  rw [lexL, dif_pos h, if_neg (fun e => e h1), if_pos (by omega), h2, Int.toNat_natCast, dif_pos h3]
theorem lexL_err {s : List UInt8} {p : Nat} {x : Lx} (h : p < s.length) (h1 : (noteF s p).2 = 0) (h2 : ¬ 0 < (noteF s p).1) (h3 : (lexmF s p).2.2 ≠ 0) : lexL s p x = .inl ((lexmF s p).2.1, (lexmF s p).2.2) := by
  rw [lexL, dif_pos h, if_neg (fun e => e h1), if_neg h2, if_pos h3]
theorem lexL_tok {s : List UInt8} {p q : Nat} {x : Lx} (h : p < s.length) (h1 : (noteF s p).2 = 0) (h2 : ¬ 0 < (noteF s p).1) (h3 : (lexmF s p).2.2 = 0) (h4 : (lexmF s p).2.1 = (q : Nat)) (h5 : p < q) : lexL s p x = lexL s (blkF s q) (tokX s p q (lexmF s p).1 x) := by
  rw [lexL, dif_pos h, if_neg (fun e => e h1), if_neg h2, if_neg (fun e => e h3), h4, Int.toNat_natCast, dif_pos h5]
structure LW where
  p : Nat
  sp : Nat
  x : Lx
  w1 : Own
  w2 : Own
  m : St
theorem toks_snoc (l : List Tk) (t : Tk) : encTs (l ++ [t]) = encTs l ++ [t.cells] := by simp [encTs]
theorem notes_snoc (l : List Nt) (t : Nt) : encNs (l ++ [t]) = encNs l ++ [t.cells] := by simp [encNs]
theorem notes_length (l : List Nt) : (encNs l).length = l.length := by simp [encNs]
theorem blk_blk (s : List UInt8) (p : Nat) : blkF s (blkF s p) = blkF s p := by
  have h := bdr_bdr (s.drop p)
  have e : bdr (s.drop p) = s.drop (blkF s p) := by unfold bdr; rw [List.drop_drop]; rfl
  rw [e] at h
  exact Nat.add_eq_left.2 h
section
variable {st : St} {R : Res → St → Prop}
attribute [local irreducible] Go.Aw.appendTo
theorem lexidx_c (c : Nat) (hc : c ≤ 1114111) : PC 42 [.int .i32 (c : Int)] noSt fun r _ => r = .ret (.bool (classF (c : Int) == 0)) := by
  refine pB Tryz.func42 ?_
  repeat' ((conv => whnf); first | (refine Yb1 ?_; intros) | (refine Yb3 ?_ ?_ <;> intro _) | refine class_c ?_)
  all_goals first | exact fin_bool rfl (by simp [*]) | (conv => whnf; simp [*])
theorem lex_c {s : List UInt8} (h1 : ∀ i e, lexF s = .inl (i, e) → R (.ret (.tup [.slice 4 [] .full, .slice 5 [] .full, .int .i64 i, .int .i64 e])) st)
    (h1' : ∀ i e st', st.le st' → lexF s = .inl (i, e) → R (.ret (.tup [.slice 4 [] .full, .slice 5 [] .full, .int .i64 i, .int .i64 e])) st')
    (h2 : ∀ x w1 w2 st', lexF s = .inr x → st.le st' → R (.ret (.tup [.slice 4 (encTs x.toks) w1, .slice 5 (encNs x.notes) w2, .int .i64 0, .int .i64 0])) st') : PC 13 [.str s] st R := by
  refine pcalls_of_aw tys_ok [30] Tryz.func13 rfl (by decide) rfl ?_
  by_cases hl : 16777216 < s.length
  · have e : lexF s = .inl (0, 3) := by unfold lexF; rw [if_pos hl]
    refine aw_of tys_ok ?_
    repeat' ((conv => whnf); first | exact Yb0 | (refine Yb1 ?_; intros) | (refine Yb2 ?_ ?_ ?_; rotate_left) | (refine Yb3 ?_ ?_ <;> intro _) | refine Yb4 (fun _ => ?_) ?_ | refine WJ (fun _ => ?_) | with_reducible refine WF ?_)
    exact fin (h1 _ _ e) rfl
  · by_cases hk : (chkF s).2 = 0
    · by_cases hx : 0 ≤ idxF (fun c => classF (c : Nat) == 0) s
      · have e : lexF s = .inl (idxF (fun c => classF (c : Nat) == 0) s, 70) := by unfold lexF; rw [if_neg hl, if_neg (fun x => x hk), if_pos hx]
        refine aw_of tys_ok ?_
        repeat' ((conv => whnf); first | exact Yb0 | (refine Yb1 ?_; intros) | (refine Yb2 ?_ ?_ ?_; rotate_left) | (refine Yb3 ?_ ?_ <;> intro _) | refine Yb4 (fun _ => ?_) ?_ | refine WJ (fun _ => ?_) | refine check_c ?_ | refine index_c (p := fun c => classF (c : Nat) == 0) lexidx_c ?_ | with_reducible refine WF ?_)
        exact fin (h1 _ _ e) rfl
      · have e : lexF s = lexL s (blkF s 0) lx0 := by unfold lexF; rw [if_neg hl, if_neg (fun x => x hk), if_neg hx]
        have hv := chk_vd hk
        refine AW_seq2 (aw_of tys_ok ?_)
        repeat' ((conv => whnf); first | exact Yb0 | (refine Yb1 ?_; intros) | (refine Yb2 ?_ ?_ ?_; rotate_left) | (refine Yb3 ?_ ?_ <;> intro _) | refine Yb4 (fun _ => ?_) ?_ | with_reducible refine WF ?_)
        refine AW_seq2 (aw_of tys_ok ?_)
        repeat' ((conv => whnf); first | exact Yb0 | (refine Yb1 ?_; intros) | (refine Yb2 ?_ ?_ ?_; rotate_left) | (refine Yb3 ?_ ?_ <;> intro _) | refine Yb4 (fun _ => ?_) ?_ | refine WJ (fun _ => ?_) | with_reducible refine WF ?_)
        refine AW_seq2 (aw_of tys_ok ?_)
        repeat' ((conv => whnf); first | exact Yb0 | (refine Yb1 ?_; intros) | (refine Yb2 ?_ ?_ ?_; rotate_left) | (refine Yb3 ?_ ?_ <;> intro _) | refine Yb4 (fun _ => ?_) ?_ | refine check_c ?_ | with_reducible refine WF ?_)
        refine AW_seq2 (aw_of tys_ok ?_)
        repeat' ((conv => whnf); first | exact Yb0 | (refine Yb1 ?_; intros) | (refine Yb2 ?_ ?_ ?_; rotate_left) | (refine Yb3 ?_ ?_ <;> intro _) | refine Yb4 (fun _ => ?_) ?_ | refine index_c (p := fun c => classF (c : Nat) == 0) lexidx_c ?_ | with_reducible refine WF ?_)
        refine AW_seq2 (aw_of tys_ok ?_)
        repeat' ((conv => whnf); first | exact Yb0 | (refine Yb1 ?_; intros) | (refine Yb2 ?_ ?_ ?_; rotate_left) | (refine Yb3 ?_ ?_ <;> intro _) | refine Yb4 (fun _ => ?_) ?_ | refine box_new (fun b fb => ?_) | with_reducible refine WF ?_)
        have hb0 := fb.1
        have hq0 := blkF_le (s := s) (p := 0) (by omega)
        refine aw_of tys_ok ?_
        repeat' ((conv => whnf); first | exact Yb0 | (refine Yb1 ?_; intros) | (refine Yb2 ?_ ?_ ?_; rotate_left) | (refine Yb3 ?_ ?_ <;> intro _) | refine Yb4 (fun _ => ?_) ?_ | refine blanks_c (p := 0) (by omega) (by omega) (St.box_at _ _ _) ?_ | with_reducible refine WF ?_)
        refine loop_g (α := LW) (fun _ => []) [0, 6] [] (fun y => y.m) (fun y => y.m.box b = some (lxC s y.p y.sp (atP s y.sp).1 (atP s y.sp).2 (encTs y.x.toks) (encNs y.x.notes) y.w1 y.w2 y.x.gap y.x.ends y.x.j) ∧ Rows2 st y.m y.w1 (y.x.toks.length * 4) y.w2 (y.x.notes.length * 5) ∧
            Cut s y.sp ∧ Cut s y.p ∧ y.sp ≤ y.p ∧ 0 ≤ y.x.gap ∧ y.x.gap ≤ y.p ∧ y.x.toks.length ≤ y.p ∧ y.x.notes.length ≤ y.p ∧ lexL s (blkF s 0) lx0 = lexL s y.p y.x)
          (fun y => s.length - y.p) ⟨blkF s 0, 0, lx0, .full, .full, _⟩ ⟨?_, ⟨trivial, trivial, trivial, trivial, trivial, St.le_setBox (St.le_setBox (St.le_refl _) hb0 _) hb0 _⟩, .zero s, Cut.blk hv (.zero s), by simp only []; omega, Int.le_refl _, by simp only [lx0]; omega, Nat.zero_le _, Nat.zero_le _, rfl⟩ Yl (St.le_refl _) ?_
        · have e0 : atP s 0 = (1, 1) := walkP_zero
          dsimp only
          rw [e0]
          exact St.box_at _ _ _
        rintro ⟨p, sp, x, w1, w2, m⟩ ⟨j1, j2, j3, j4, j5, j6, j7, j8, j9, j10⟩
        dsimp only at j1 j2 j3 j4 j5 j6 j7 j8 j9 j10 ⊢
        have hp := j4.le
        by_cases hpl : p < s.length
        · have hns := fun {R : Res → St → Prop} => noteX_c (st := m) (R := R) (s := s) (pos := p) (by omega) hpl
          by_cases n2 : (noteF s p).2 = 0
          · rw [n2] at hns
            by_cases n1 : 0 < (noteF s p).1
            · obtain ⟨q, e1, e2, e3, e4⟩ := note_cut hv j4 n2 n1
              rw [e1] at hns
              rw [lexL_note hpl n2 e1 e2] at j10
              have hq := blkF_le e3
              have hnt := fun {R : Res → St → Prop} => note_c (st := m) (R := R) (st0 := st) (by omega) hv j3 j4 e4 j5 (by omega) ⟨j6, by omega⟩ (by rw [notes_length]; omega) hb0 (by rw [notes_length]; exact j2) j1
              repeat' ((conv => whnf); first | exact Yb0 | (refine Yb1 ?_; intros) | (refine Yb2 ?_ ?_ ?_; rotate_left) | (refine Yb3 ?_ ?_ <;> intro _) | refine Yb4 (fun _ => ?_) ?_ | refine hns ?_ | refine on_box j1 ?_ | refine WJ (fun _ => ?_) | refine hnt (fun v2 st' sp' c' hs' hR hB => ?_) | refine blanks_c (p := blkF s q) (by omega) (by omega) hB ?_ | with_reducible refine WF ?_)
              all_goals conv => whnf
              have eb := blk_blk s q
              refine ⟨⟨blkF s q, sp', noteX s p q x, w1, v2, _⟩, ⟨?_, ?_, c', e4.blk hv, hs', j6, by show x.gap ≤ _; simp only []; omega, by show x.toks.length ≤ _; simp only []; omega, by show (x.notes ++ [_]).length ≤ _; rw [List.length_append, List.length_singleton]; simp only []; omega, j10⟩, by simp only []; omega, Yl, St.le_refl _⟩
              · refine (St.box_at _ _ _).trans ?_
                show _ = some (lxC s (blkF s q) sp' _ _ (encTs x.toks) (encNs (x.notes ++ [_])) w1 v2 x.gap (atP s q).1 _)
                rw [notes_snoc]
                exact congrArg (fun z => some (lxC s z sp' _ _ _ _ _ _ _ _ _)) eb
              · show Rows2 st _ w1 (x.toks.length * 4) v2 ((x.notes ++ [_]).length * 5)
                rw [List.length_append, List.length_singleton]
                rw [notes_length] at hR
                exact hR.set hb0 _
            · have hlx := fun {R : Res → St → Prop} => lexeme_c (st := m) (R := R) (by omega) hpl j1
              by_cases k2 : (lexmF s p).2.2 = 0
              · obtain ⟨k1, q, e1, e2, e3, e4⟩ := lexm_cut hv j4 k2
                rw [k2, e1] at hlx
                rw [lexL_tok hpl n2 n1 k2 e1 e2] at j10
                have hq := blkF_le e3
                have htk := fun {R : Res → St → Prop} => token_at (st := m) (R := R) (st0 := st) (k := (lexmF s p).1) (e0 := 0) (by omega) hv j3 j4 e4 j5 (by omega) ⟨j6, by omega⟩ (by rw [toks_length]; omega) hb0 (by rw [toks_length]; exact j2) j1
                repeat' ((conv => whnf); first | exact Yb0 | (refine Yb1 ?_; intros) | (refine Yb2 ?_ ?_ ?_; rotate_left) | (refine Yb3 ?_ ?_ <;> intro _) | refine Yb4 (fun _ => ?_) ?_ | refine hns ?_ | refine on_box j1 ?_ | refine WJ (fun _ => ?_) | refine hlx ?_ | refine htk (fun v1 st' hR hB => ?_) | refine blanks_c (p := q) (by omega) e3 hB ?_ | with_reducible refine WF ?_)
                all_goals conv => whnf
                have hgap : (tokX s p q (lexmF s p).1 x).gap = x.gap ∨ (tokX s p q (lexmF s p).1 x).gap = x.gap + 1 := by
                  show (if cntF (lexmF s p).1 (pieceF s p q) then x.gap + 1 else x.gap) = _ ∨ (if cntF (lexmF s p).1 (pieceF s p q) then x.gap + 1 else x.gap) = _
                  split
                  · exact .inr rfl
                  · exact .inl rfl
                refine ⟨⟨blkF s q, q, tokX s p q (lexmF s p).1 x, v1, w2, _⟩, ⟨?_, ?_, e4, e4.blk hv, hq.1, by simp only []; omega, by simp only []; omega, by show (x.toks ++ [_]).length ≤ _; rw [List.length_append, List.length_singleton]; simp only []; omega, by show x.notes.length ≤ _; simp only []; omega, j10⟩, by simp only []; omega, Yl, St.le_refl _⟩
                · refine (St.box_at _ _ _).trans ?_
                  show _ = some (lxC s (blkF s q) q _ _ (encTs (x.toks ++ [_])) (encNs x.notes) v1 w2 _ (atP s q).1 true)
                  rw [toks_snoc]
                  rfl
                · show Rows2 st _ v1 ((x.toks ++ [_]).length * 4) w2 (x.notes.length * 5)
                  rw [List.length_append, List.length_singleton]
                  rw [toks_length] at hR
                  exact hR.set hb0 _
              · rw [lexL_err hpl n2 n1 k2] at j10
                repeat' ((conv => whnf); first | exact Yb0 | (refine Yb1 ?_; intros) | (refine Yb2 ?_ ?_ ?_; rotate_left) | (refine Yb3 ?_ ?_ <;> intro _) | refine Yb4 (fun _ => ?_) ?_ | refine hns ?_ | refine on_box j1 ?_ | refine WJ (fun _ => ?_) | refine hlx ?_ | with_reducible refine WF ?_)
                exact fin (h1' _ _ _ j2.le (e.trans j10)) rfl
          · rw [lexL_bad hpl n2] at j10
            repeat' ((conv => whnf); first | exact Yb0 | (refine Yb1 ?_; intros) | (refine Yb2 ?_ ?_ ?_; rotate_left) | (refine Yb3 ?_ ?_ <;> intro _) | refine Yb4 (fun _ => ?_) ?_ | refine hns ?_ | refine on_box j1 ?_ | refine WJ (fun _ => ?_) | with_reducible refine WF ?_)
            exact fin (h1' _ _ _ j2.le (e.trans j10)) rfl
        · rw [lexL_end hpl] at j10
          repeat' ((conv => whnf); first | exact Yb0 | (refine Yb1 ?_; intros) | (refine Yb2 ?_ ?_ ?_; rotate_left) | (refine Yb3 ?_ ?_ <;> intro _) | refine Yb4 (fun _ => ?_) ?_ | refine on_box j1 ?_ | refine WJ (fun _ => ?_) | with_reducible refine WF ?_)
          exact fin (h2 x w1 w2 m (e.trans j10) j2.le) rfl
    · have e : lexF s = .inl ((chkF s).1, (chkF s).2) := by unfold lexF; rw [if_neg hl, if_pos hk]
      refine aw_of tys_ok ?_
      repeat' ((conv => whnf); first | exact Yb0 | (refine Yb1 ?_; intros) | (refine Yb2 ?_ ?_ ?_; rotate_left) | (refine Yb3 ?_ ?_ <;> intro _) | refine Yb4 (fun _ => ?_) ?_ | refine WJ (fun _ => ?_) | refine check_c ?_ | with_reducible refine WF ?_)
      exact fin (h1 _ _ e) rfl
end
end Go.Proofs.YtkidoddkbhchkaaGreatDoor
set_option maxHeartbeats 16000000
set_option linter.unusedVariables false
set_option maxHeartbeats 16000000
set_option linter.unusedVariables false
namespace Go.Aw
open Go
theorem store_row {cs : List V} {off : Nat} {v : V} {K : List V → Prop} (h1 : noIt cs = true) (h2 : off < cs.length) (h3 : v.sc = true) (k : K (cs.take off ++ v :: cs.drop (off + 1))) : storeTo cs off [v] K := by
  unfold storeTo
  refine chk_intro h1 (chk_intro (by rw [Nat.ble_eq]; exact h2) (chk_intro (by simp [h3]) (forceL_iff.2 ?_)))
  simpa using k
theorem at_mrow {m j sz : Nat} {n : Int} {K : Nat → Prop} (h : n = (j : Nat)) (hj : j < m) (k : K (j * sz)) : (0 ≤ n ∧ n < (m : Int)) ∧ ∀ k, k = n.toNat * sz → K k :=
  ⟨⟨by omega, by omega⟩, fun k' e => by
    rw [h, Int.toNat_natCast] at e
    subst e; exact k⟩
end Go.Aw
set_option maxHeartbeats 16000000
set_option linter.unusedVariables false
namespace Go.Aw
open Go
theorem AW_joinx {P : Program} {x y : Code} {Q : AExit → Env → St → Prop} {env : Env} {st : St} {α : Type} (f : α → List (Nat × V)) (g : α → List (Nat × List V)) (keep kb : List Nat) (S : α → St) (J : α → Prop)
    (hx : AW P x (thenQ (fun env' st' => ∃ p, J p ∧ (env.atx (f p) (g p) keep kb).leC env' ∧ St.le (S p) st') Q) env st)
    (hy : ∀ p, J p → AW P y Q (env.atx (f p) (g p) keep kb) (S p)) : AW P (.seq x y) Q env st :=
  AW_join (fun p => env.atx (f p) (g p) keep kb) S J hy hx
end Go.Aw
set_option maxHeartbeats 16000000
set_option linter.unusedVariables false
namespace Go.Proofs.YtkidoddkbhchkaaGreatDoor
open Go Go.Aw
def NotesAt (st m : St) (nv : V) (l : List Nt) : Prop :=
  (nv = .slice 5 [] .full ∧ l = []) ∨ ∃ b cap rest, nv = .mrow 5 b l.length cap ∧ m.box b = some ((encNs l).flatten ++ rest) ∧ ((encNs l).flatten ++ rest).length = cap * 5 ∧ st.box b = none ∧ l ≠ []
structure RW where
  i : Nat
  x : Lx
  wait : Bool
  w1 : Own
  nv : V
  m : St
def RW.good (s : List UInt8) (st : St) (y : RW) : Prop :=
  NotesAt st y.m y.nv y.x.notes ∧ Rows2 st y.m y.w1 (y.x.toks.length * 4) .full 0 ∧ Cut s y.i ∧ 0 ≤ y.x.gap ∧ y.x.gap ≤ y.i ∧ y.x.toks.length ≤ y.i ∧ y.x.notes.length ≤ y.i ∧ (y.wait = true → y.x.notes ≠ [])
end Go.Proofs.YtkidoddkbhchkaaGreatDoor
set_option maxHeartbeats 16000000
set_option linter.unusedVariables false
set_option maxHeartbeats 16000000
set_option linter.unusedVariables false
namespace Go.Aw
open Go
theorem join_spell : ∀ l : List (List UInt8), Lib.join l [32] = spellW l
  | [] => rfl
  | [w] => Lib.join_one w _
  | w :: v :: r => by
    have ih := join_spell (v :: r)
    show _ = w ++ 32 :: spellW (v :: r)
    rw [← ih, Lib.join_cons, Lib.join_cons]
    simp [Lib.joinTail]
theorem take_snoc {α : Type} {l : List α} {k : Nat} {x : α} (h : l[k]? = some x) : l.take (k + 1) = l.take k ++ [x] := by
  obtain ⟨hk, rfl⟩ := List.getElem?_eq_some_iff.1 h
  rw [List.take_succ_eq_append_getElem hk]
def strC (l : List (List UInt8)) (n : Nat) : List V := l.map V.str ++ List.replicate (n - l.length) (V.str [])
theorem strC_no {l : List (List UInt8)} {n : Nat} : noIt (strC l n) = true := by
  have key : ∀ cs : List V, (∀ v ∈ cs, ∃ s, v = V.str s) → noIt cs = true := by
    intro cs h
    match cs, h with
    | [], h => rfl
    | [v], h => obtain ⟨s, rfl⟩ := h v List.mem_cons_self; rfl
    | a :: b :: r, h => rfl
  refine key _ (fun v hv => ?_)
  unfold strC at hv
  rcases List.mem_append.1 hv with hv | hv
  · obtain ⟨s, _, rfl⟩ := List.mem_map.1 hv; exact ⟨s, rfl⟩
  · exact ⟨[], (List.mem_replicate.1 hv).2⟩
theorem strC_set {l : List (List UInt8)} {n : Nat} {x : List UInt8} (h : l.length < n) : (strC l n).take l.length ++ V.str x :: (strC l n).drop (l.length + 1) = strC (l ++ [x]) n := by
  unfold strC
  have e : (l.map V.str).length = l.length := List.length_map _
  rw [List.take_append_of_le_length (by omega), List.take_of_length_le (by omega), List.drop_append, e, List.drop_of_length_le (by omega), List.drop_replicate, List.map_append, List.length_append]
  simp only [List.map_cons, List.map_nil, List.nil_append, List.append_assoc, List.cons_append, List.length_singleton]
  congr 3
  omega
theorem store_str {l : List (List UInt8)} {n k : Nat} {x : List UInt8} {K : List V → Prop} (hl : l.length = k) (h : k < n) (kk : K (strC (l ++ [x]) n)) : storeTo (strC l n) k [.str x] K := by
  subst hl
  refine store_row strC_no (by unfold strC; rw [List.length_append, List.length_map, List.length_replicate]; omega) rfl ?_
  rw [strC_set h]
  exact kk
theorem strC_0 {n : Nat} : (List.replicate n [V.str []]).flatten = strC [] n := by
  unfold strC
  induction n with
  | zero => rfl
  | succ n ih => rw [List.replicate_succ, List.flatten_cons, ih]; rfl
theorem strC_all {l : List (List UInt8)} : strC l l.length = (strs l).flatten ++ [] := by
  unfold strC
  rw [Nat.sub_self]
  simp [strs, ← List.flatMap_def]
  induction l with
  | nil => rfl
  | cons a r ih => simp [ih]
end Go.Aw
namespace Go.Proofs.YtkidoddkbhchkaaGreatDoor
open Go Go.Aw
section
variable {st : St} {R : Res → St → Prop}
attribute [local irreducible] Go.Aw.storeTo
theorem len_is {α : Type} {es : List α} {n : Nat} {K : Nat → Prop} (h : es.length = n) (k : K n) : ∀ m, m = es.length → m < lim → K m := fun m hm _ => by rw [h] at hm; subst hm; exact k
theorem mk_some {st : St} {n : Nat} {by' : Nat} {Q : Prop} {K : Nat → Nat → Prop} (h1 : (n : Int) * (by' : Int) ≤ 140737488355328) (h2 : n < 1000000000) (k : ∀ b, st.fresh b → K b n) :
    (0 ≤ (n : Int) ∧ (n : Int) ≤ n ∧ (n : Int) * (by' : Int) ≤ 140737488355328 ∧ (n : Int) < (lim : Nat)) ∧ (Q ∨ ((n : Int) = n ∧ ∀ b k, st.fresh b → k = (n : Int).toNat → K b k)) :=
  ⟨⟨by omega, by omega, h1, by unfold lim; omega⟩, .inr ⟨rfl, fun b k' hb hk => by
    rw [Int.toNat_natCast] at hk; subst hk; exact k b hb⟩⟩
theorem text_at {a : List Tk} {k : Nat} {x : Tk} (h : a[k]? = some x) : (a.map Tk.text).take (k + 1) = (a.map Tk.text).take k ++ [x.text] := take_snoc (by simp [h])
theorem le_dropB {st m : St} {b : Nat} (h : st.le m) (h0 : st.box b = none) : st.le (m.dropBox b) := ⟨fun y c hy => by
  have hyb : y ≠ b := fun e => by subst e; rw [h0] at hy; cases hy
  show (if y = b then none else m.box y) = some c
  rw [if_neg hyb]
  exact h.1 _ _ hy, h.2⟩
theorem spell_c {a : List Tk} {w : Own} (ha : a.length ≤ 2000000) (hj : (Lib.join (a.map Tk.text) [32]).length ≤ 100000000) (h : ∀ st', st.le st' → R (.ret (.str (Lib.join (a.map Tk.text) [32]))) st') : PC 15 [.slice 4 (encTs a) w] st R := by
  refine pcalls_of_aw tys_ok [] Tryz.func15 rfl (by decide) rfl ?_
  by_cases h0 : a = []
  · subst h0
    refine aw_of tys_ok ?_
    repeat' ((conv => whnf); first | refine len_is (n := 0) rfl ?_ | (refine Yb1 ?_; intros) | (refine Yb3 ?_ ?_ <;> intro _) | refine ⟨by decide, .inl ⟨rfl, fun b fb => ?_⟩⟩ | refine join_c (xs := []) (by decide) (by decide) ?_)
    refine loop_nb 11 [0, 3, 9, 10] [] 0 (fun k => k = 0) rfl Yl ?_
    rintro k rfl
    repeat' ((conv => whnf); first | (refine Yb1 ?_; intros) | (refine Yb3 ?_ ?_ <;> intro _) | refine join_c (xs := []) (by decide) (by decide) ?_)
    exact fin (h _ (St.le_setHw (St.le_refl _) fb.2 _)) rfl
  · refine AW_seq2 (aw_of tys_ok ?_)
    repeat' ((conv => whnf); first | (refine Yb1 ?_; intros) | (refine Yb3 ?_ ?_ <;> intro _) | fail)
    refine AW_seq2 (aw_of tys_ok ?_)
    repeat' ((conv => whnf); first | (refine Yb1 ?_; intros) | (refine Yb3 ?_ ?_ <;> intro _) | refine Wz (fun _ => ?_) | refine mk_some (by omega) (by omega) (fun b fb => ?_))
    refine AW_joinx (α := St) (fun m => [(3, .mrow 1 b a.length a.length)]) (fun _ => []) [3] [] (fun m => m) (fun m => m.box b = some (strC (a.map Tk.text) a.length) ∧ st.le m) ?_ ?_
    · refine aw_of tys_ok ?_
      repeat' ((conv => whnf); first | (refine Yb1 ?_; intros) | (refine Yb3 ?_ ?_ <;> intro _) | refine Wz (fun _ => ?_))
      refine loop_g (α := Nat × St) (fun x => [(11, .int .i64 (x.1 : Int))]) [0, 3, 9, 10] [] (fun x => x.2) (fun x => x.1 ≤ a.length ∧ x.2.box b = some (strC ((a.map Tk.text).take x.1) a.length) ∧ st.le x.2) (fun x => a.length - x.1) (0, _) ⟨Nat.zero_le _, (St.box_at _ _ _).trans (congrArg some strC_0), St.le_setBox (St.le_refl _) fb.1 _⟩ Yl (St.le_refl _) ?_
      rintro ⟨k, m⟩ ⟨hk, hm, hle⟩
      dsimp only at hk hm hle ⊢
      by_cases hlt : k < a.length
      · obtain ⟨x, hx⟩ : ∃ x, a[(k : Int).toNat]? = some x := ⟨_, List.getElem?_eq_getElem hlt⟩
        have ht := text_at (k := k) hx
        have hlt1 : k * 1 < a.length := by omega
        have hts : ((a.map Tk.text).take k).length = k * 1 := by rw [List.length_take, List.length_map]; omega
        have htl : ((a.map Tk.text).take k).length = k := by rw [List.length_take, List.length_map]; omega
        repeat' ((conv => whnf); first | (refine Yb1 ?_; intros) | (refine Yb3 ?_ ?_ <;> intro _) | refine Wz (fun _ => ?_) | refine at_mrow (j := k) (by omega) (by omega) ?_ | refine on_box hm ?_ | refine store_str hts hlt1 ?_ | unfold Go.Aw.storeTo)
        all_goals conv => whnf
        exact ⟨(k + 1, m.setBox b (strC ((a.map Tk.text).take k ++ [x.text]) a.length)), ⟨hlt, by dsimp only; rw [ht]; exact St.box_at _ _ _, St.le_setBox hle fb.1 _⟩, Nat.sub_lt_sub_left hlt (Nat.lt_succ_self k), Yl, St.le_refl _⟩
      · have hke : k = a.length := by omega
        repeat' ((conv => whnf); first | (refine Yb1 ?_; intros) | (refine Yb3 ?_ ?_ <;> intro _) | refine Wz (fun _ => ?_))
        all_goals conv => whnf
        refine ⟨m, ⟨?_, hle⟩, Yl, St.le_refl _⟩
        rw [hm, hke, List.take_of_length_le (by rw [List.length_map]; omega)]
    · rintro m ⟨hm, hle⟩
      have hml : (a.map Tk.text).length ≤ 140737488355328 := by rw [List.length_map]; omega
      rw [show strC (a.map Tk.text) a.length = (strs (a.map Tk.text)).flatten ++ [] from (by rw [← strC_all, List.length_map])] at hm
      refine AW_freeze 3 [] rfl (show 3 < Tryz.f15.ntmps by decide) hm (fun e he => by obtain ⟨s, _, rfl⟩ := List.mem_map.1 he; rfl) (by simp [strs]) ?_
      refine aw_of tys_ok ?_
      repeat' ((conv => whnf); first | (refine Yb1 ?_; intros) | (refine Yb3 ?_ ?_ <;> intro _) | refine join_c hml (by omega) ?_)
      exact fin (h _ (le_dropB hle fb.1)) rfl
end
end Go.Proofs.YtkidoddkbhchkaaGreatDoor
set_option maxHeartbeats 16000000
set_option linter.unusedVariables false
set_option maxHeartbeats 16000000
set_option linter.unusedVariables false
namespace Go.Proofs.YtkidoddkbhchkaaGreatDoor
open Go Go.Aw
theorem join_len2 (l : List (List UInt8)) : (Lib.join l [32]).length ≤ l.length + Lib.lens l := by
  cases l with
  | nil => simp [Lib.join_nil]
  | cons a r => rw [Lib.join_length, show ([32] : List UInt8).length = 1 from rfl, List.length_cons]; omega
theorem lens_app (a b : List (List UInt8)) : Lib.lens (a ++ b) = Lib.lens a + Lib.lens b := by simp [Lib.lens]
theorem lexL_len {s : List UInt8} {p : Nat} {x y : Lx} (hv : Vd s) (hp : Cut s p) (h : x.toks.length ≤ p ∧ Lib.lens (x.toks.map Tk.text) ≤ p) (e : lexL s p x = .inr y) : y.toks.length ≤ s.length ∧ Lib.lens (y.toks.map Tk.text) ≤ s.length := by
  have hpl := hp.le
  fun_induction lexL s p x with
  | case1 p x hl h1 => cases e
  | case2 p x hl h1 h2 h3 ih =>
    obtain ⟨q, e1, e2, e3, e4⟩ := note_cut hv hp (by omega) h2
    have eq : (noteF s p).1.toNat = q := by omega
    rw [eq] at ih e
    have hb := blkF_le e3
    exact ih (e4.blk hv) ⟨by show x.toks.length ≤ _; omega, by show Lib.lens (x.toks.map Tk.text) ≤ _; omega⟩ e hb.2
  | case3 p x hl h1 h2 h3 => injection e with e; subst e; omega
  | case4 p x hl h1 h2 h3 => cases e
  | case5 p x hl h1 h2 h3 h4 ih =>
    obtain ⟨e0, q, e1, e2, e3, e4⟩ := lexm_cut hv hp (by omega)
    have eq : (lexmF s p).2.1.toNat = q := by omega
    rw [eq] at ih e
    have hb := blkF_le e3
    have hpc : (pieceF s p q).length = q - p := piece_len (by omega) e3
    have l1 : (tokX s p q (lexmF s p).1 x).toks.length = x.toks.length + 1 := by simp [tokX]
    have l2 : Lib.lens ((tokX s p q (lexmF s p).1 x).toks.map Tk.text) = Lib.lens (x.toks.map Tk.text) + (q - p) := by
      show Lib.lens ((x.toks ++ [_]).map Tk.text) = _
      rw [List.map_append, lens_app]
      simp [Lib.lens, hpc]
    exact ih (e4.blk hv) ⟨by omega, by omega⟩ e hb.2
  | case6 p x hl h1 h2 h3 h4 => injection e with e; subst e; omega
  | case7 p x hl => injection e with e; subst e; omega
theorem lexF_len {s : List UInt8} {y : Lx} (e : lexF s = .inr y) : y.toks.length ≤ s.length ∧ Lib.lens (y.toks.map Tk.text) ≤ s.length := by
  have ok := lexF_ok e
  unfold lexF at e
  split at e
  · cases e
  · split at e
    · cases e
    · split at e
      · cases e
      · exact lexL_len ok.2.1 (Cut.blk ok.2.1 (.zero s)) ⟨Nat.zero_le _, Nat.zero_le _⟩ e
theorem lexL_err0 {s : List UInt8} {p : Nat} {x : Lx} {i e : Int} (h : lexL s p x = .inl (i, e)) : e ≠ 0 := by
  fun_induction lexL s p x with
  | case1 p x hl h1 => injection h with h; injection h with h h'; omega
  | case2 p x hl h1 h2 h3 ih => exact ih h
  | case3 p x hl h1 h2 h3 => cases h
  | case4 p x hl h1 h2 h3 => injection h with h; injection h with h h'; omega
  | case5 p x hl h1 h2 h3 h4 ih => exact ih h
  | case6 p x hl h1 h2 h3 h4 => cases h
  | case7 p x hl => cases h
theorem lexF_err {s : List UInt8} {i e : Int} (h : lexF s = .inl (i, e)) : e ≠ 0 := by
  unfold lexF at h
  split at h
  · injection h with h; injection h with h h'; omega
  · split at h
    · rename_i h2
      injection h with h
      rw [h] at h2; exact h2
    · split at h
      · injection h with h; injection h with h h'; omega
      · exact lexL_err0 h
section
variable {st : St} {R : Res → St → Prop}
theorem lex_l {s : List UInt8} {i e : Int} (hs : lexF s = .inl (i, e)) (h : ∀ st', st.le st' → R (.ret (.tup [.slice 4 [] .full, .slice 5 [] .full, .int .i64 i, .int .i64 e])) st') : PC 13 [.str s] st R := by
  refine lex_c (fun i' e' he => ?_) (fun i' e' st' hle he => ?_) (fun x w1 w2 st' he => ?_)
  · rw [hs] at he; injection he with he; injection he with e1 e2; subst e1; subst e2; exact h st (St.le_refl _)
  · rw [hs] at he; injection he with he; injection he with e1 e2; subst e1; subst e2; exact h st' hle
  · rw [hs] at he; cases he
theorem lex_r {s : List UInt8} {x : Lx} (hs : lexF s = .inr x) (h : ∀ w1 w2 st', st.le st' → R (.ret (.tup [.slice 4 (encTs x.toks) w1, .slice 5 (encNs x.notes) w2, .int .i64 0, .int .i64 0])) st') : PC 13 [.str s] st R := by
  refine lex_c (fun i' e' he => ?_) (fun i' e' st' hle he => ?_) (fun x w1 w2 st' he hle => ?_)
  · rw [hs] at he; cases he
  · rw [hs] at he; cases he
  · rw [hs] at he; injection he with he; subst he; exact h w1 w2 st' hle
end
end Go.Proofs.YtkidoddkbhchkaaGreatDoor
set_option maxHeartbeats 16000000
set_option linter.unusedVariables false
set_option maxHeartbeats 16000000
set_option linter.unusedVariables false
set_option maxHeartbeats 16000000
set_option linter.unusedVariables false
namespace Go.Proofs.YtkidoddkbhchkaaGreatDoor
open Go Go.Aw
theorem plainF_kd (l : List UInt8) : 0 ≤ (plainF l).1 ∧ (plainF l).1 < 16 := by
  unfold plainF symF
  (repeat' split) <;> (dsimp only; omega)
theorem qualF_kd (k : Int) : 0 ≤ qualF k ∧ qualF k < 16 := by
  unfold qualF
  (repeat' split) <;> decide
theorem scanG_kd {s : List UInt8} {n : Nat} {k : Int} (h : 0 ≤ k ∧ k < 16) : 0 ≤ (scanG s n k).1 ∧ (scanG s n k).1 < 16 := by
  fun_induction scanG s n k with
  | case1 n k hn hc ih => exact ih (qualF_kd _)
  | case2 n k hn hc => exact h
  | case3 n k hn => exact h
theorem lexm_kd {s : List UInt8} {p : Nat} (h : (lexmF s p).2.2 = 0) : 0 < (lexmF s p).1 ∧ (lexmF s p).1 < 16 := by
  unfold lexmF at h ⊢
  split
  · rename_i h1
    show 0 < (nscF s p).1 ∧ (nscF s p).1 < 16
    unfold nscF at h1 ⊢
    split
    · rename_i h2; rw [if_pos h2] at h1; exact absurd rfl h1
    · rename_i h2
      show 0 < (numF (s.drop p)).1 ∧ (numF (s.drop p)).1 < 16
      unfold numF at h2 ⊢
      split
      · dsimp only; omega
      · rename_i h3
        rw [if_neg h3] at h2
        split
        · rename_i h4; rw [if_pos h4] at h2; exact absurd rfl h2
        · show 0 < (if _ then (12 : Int) else 11) ∧ (if _ then (12 : Int) else 11) < 16
          split <;> exact ⟨by decide, by decide⟩
  · rename_i h1
    rw [if_neg h1] at h
    split
    · rename_i h2
      rw [if_pos h2] at h
      split
      · rename_i h3; rw [if_pos h3] at h; exact absurd h (show ¬ (70 : Int) = 0 by decide)
      · rename_i h3
        show 0 < (wscanF s p).1 ∧ (wscanF s p).1 < 16
        unfold wscanF at h3 ⊢
        split
        · rename_i h4; rw [if_pos h4] at h3; exact absurd rfl h3
        · rename_i h4
          have := scanG_kd (s := s.drop p) (n := (plainF (s.drop p)).2) (plainF_kd (s.drop p))
          show 0 < (wordF (s.drop p)).1 ∧ (wordF (s.drop p)).1 < 16
          unfold wordF at h4 ⊢
          omega
    · rename_i h2
      rw [if_neg h2] at h
      have hq : (quoF s p).1 = 0 ∨ (quoF s p).1 = 14 ∨ (quoF s p).1 = 13 := by
        unfold quoF
        (repeat' split) <;> simp
      omega
theorem lexL_kd {s : List UInt8} {p : Nat} {x y : Lx} (h : ∀ t ∈ x.toks, 0 < t.kind ∧ t.kind < 16) (e : lexL s p x = .inr y) : ∀ t ∈ y.toks, 0 < t.kind ∧ t.kind < 16 := by
  fun_induction lexL s p x with
  | case1 p x hl h1 => cases e
  | case2 p x hl h1 h2 h3 ih => exact ih h e
  | case3 p x hl h1 h2 h3 => injection e with e; subst e; exact h
  | case4 p x hl h1 h2 h3 => cases e
  | case5 p x hl h1 h2 h3 h4 ih =>
    refine ih (fun t ht => ?_) e
    rcases List.mem_append.1 (show t ∈ x.toks ++ [_] from ht) with ht | ht
    · exact h t ht
    · rw [List.mem_singleton.1 ht]; exact lexm_kd (by omega)
  | case6 p x hl h1 h2 h3 h4 => injection e with e; subst e; exact h
  | case7 p x hl => injection e with e; subst e; exact h
theorem lexF_kd {s : List UInt8} {y : Lx} (e : lexF s = .inr y) : ∀ t ∈ y.toks, 0 < t.kind ∧ t.kind < 16 := by
  unfold lexF at e
  split at e
  · cases e
  · split at e
    · cases e
    · split at e
      · cases e
      · exact lexL_kd (fun t ht => by cases ht) e
inductive Alk : Nd → Nd → Prop where
  | mk {k f : Int} {t : List UInt8} {a b a' b' : Int} {l m : List Nd} : All2 Alk l m → Alk (.mk k f t a b l) (.mk k f t a' b' m)
theorem All2.at {T : Nd → Nd → Prop} {l m : List Nd} (h : All2 T l m) : ∀ {i : Nat} {x y : Nd}, l[i]? = some x → m[i]? = some y → T x y := by
  induction h with
  | nil => intro i x y h; simp at h
  | cons h1 _ ih =>
    intro i x y hx hy
    cases i with
    | zero => simp at hx hy; subst hx; subst hy; exact h1
    | succ i => rw [List.getElem?_cons_succ] at hx hy; exact ih hx hy
mutual
theorem Alk.rfl' : ∀ n : Nd, Alk n n
  | .mk k f t a b l => .mk (All2.rfl' l)
theorem All2.rfl' : ∀ l : List Nd, All2 Alk l l
  | [] => .nil
  | n :: r => .cons (Alk.rfl' n) (All2.rfl' r)
end
section
variable {st : St} {R : Res → St → Prop}
attribute [local irreducible] Go.Aw.appendTo
theorem eqfunc_c {f : FuncId} {l l' : List Nd} {o1 o2 : Own} (hl : l.length = l'.length) (hf : ∀ (i : Nat) x y (st : St) (R : Res → St → Prop), l[i]? = some x → l'[i]? = some y → R (.ret (.bool true)) st → PC f [enc x, enc y] st R) (h : R (.ret (.bool true)) st) :
    PC 53 [.slice 6 (encs l) o1, .slice 6 (encs l') o2, .func f [] []] st R := by
  refine pB Tryz.func53 ?_
  repeat' ((conv => whnf); first | (refine Yb1 ?_; intros) | (refine Yb3 ?_ ?_ <;> intro _) | fail)
  refine loop_n 17 [15, 16, 1, 2] l.length (fun k => k ≤ l.length) (Nat.zero_le _) Yl ?_
  intro k hk
  by_cases hlt : k < l.length
  · obtain ⟨x, hx⟩ : ∃ x, l[(k : Int).toNat]? = some x := ⟨_, List.getElem?_eq_getElem hlt⟩
    obtain ⟨y, hy⟩ : ∃ y, l'[(k : Int).toNat]? = some y := ⟨_, List.getElem?_eq_getElem (show k < l'.length by omega)⟩
    repeat' ((conv => whnf); first | (refine Yb1 ?_; intros) | (refine Yb3 ?_ ?_ <;> intro _) | refine hf k x y _ _ hx hy ?_ | refine Wq (a := (k : Int) + 1) (by omega) (by omega) ?_)
    all_goals conv => whnf
    all_goals exact ⟨k + 1, hlt, Nat.sub_lt_sub_left hlt (Nat.lt_succ_self k), Yl, St.le_refl _⟩
  · skip
    repeat' ((conv => whnf); first | (refine Yb1 ?_; intros) | (refine Yb3 ?_ ?_ <;> intro _) | fail)
    all_goals exact fin h rfl
theorem same_alk : ∀ (m : Nat) {n n' : Nd} {st : St} {R : Res → St → Prop}, n.size ≤ m → Alk n n' → R (.ret (.bool true)) st → PC 17 [enc n, enc n'] st R := by
  intro m
  induction m with
  | zero => intro n n' st R hm; cases n; rw [Nd.size] at hm; omega
  | succ m ih =>
    intro n n' st R hm ha h
    cases ha with
    | @mk k f t a b a' b' l l' hl =>
      refine pB Tryz.func17 ?_
      repeat' ((conv => whnf); first | with_reducible refine Wt rfl ?_ | with_reducible refine Wi ?_ | (refine Yb1 ?_; intros) | (refine Yb3 ?_ ?_ <;> intro _) | refine eqfunc_c hl.len (fun i x y st R hx hy h => ih (by have := size_kid (n := .mk k f t a b l) (List.mem_of_getElem? hx) <;> omega) (hl.at hx hy) h) ?_)
      all_goals exact fin h rfl
end
end Go.Proofs.YtkidoddkbhchkaaGreatDoor
set_option maxHeartbeats 16000000
set_option linter.unusedVariables false
namespace Go.Proofs.YtkidoddkbhchkaaGreatDoor
open Go Go.Aw
structure Ag (l m : List Tk) (k : Nat) : Prop where
  a : ∀ t ∈ l, 0 < t.kind ∧ t.kind < 16
  b : ∀ t ∈ m, 0 < t.kind ∧ t.kind < 16
  le : k ≤ l.length
  len : m.length = k
  e : ∀ (i : Nat) (u v : Tk), l[i]? = some u → m[i]? = some v → u.kind = v.kind ∧ u.text = v.text
abbrev sAt (l : List Tk) (i : Nat) : Sta := ⟨l, (i : Int), [], 0⟩
theorem sAt_mu {l : List Tk} {i : Nat} : mu (sAt l i) = 4 * (l.length - i) + 2 := by
  unfold mu
  show 4 * (l.length - ((i : Int)).toNat) + ([] : List Int).length + (2 - (0 : Int).toNat) = _
  rw [Int.toNat_natCast]
  rfl
theorem pl_at {l : List Tk} {i : Nat} (h : ∀ t ∈ l, 0 < t.kind ∧ t.kind < 16) (hi : i ≤ l.length) : Pl (sAt l i) :=
  ⟨h, by show (0 : Int) ≤ (i : Int); omega, by show (i : Int) ≤ (l.length : Int); omega, (fun x hx => nomatch hx), rfl⟩
theorem nxt_at {l : List Tk} {i : Nat} {u : Tk} (h : ∀ t ∈ l, 0 < t.kind ∧ t.kind < 16) (hu : l[i]? = some u) : nextM (sAt l i) = braceF u (sAt l i) := by
  have hi := (List.getElem?_eq_some_iff.1 hu).1
  exact (pl_at h (Nat.le_of_lt hi)).next (by show l[((i : Int)).toNat]? = _; rw [Int.toNat_natCast]; exact hu)
theorem brace_at {l : List Tk} {i : Nat} {u : Tk} (hb : ¬ (u.kind = 15 ∧ (u.text = [123] ∨ u.text = [125]))) : braceF u (sAt l i) = (u, sAt l (i + 1), 0) := by
  unfold braceF
  rw [if_neg (fun e => hb ⟨e.1, .inl e.2⟩), if_neg (fun e => hb ⟨e.1, .inr e.2⟩)]
  rfl
theorem brace_fst {l m : List Tk} {i : Nat} {u v : Tk} {p : Tk → Bool} (hp : Tst0 p) (h1 : u.kind = v.kind) (h2 : u.text = v.text) : p (braceF u (sAt l i)).1 = p (braceF v (sAt m i)).1 := by
  unfold braceF
  rw [h1, h2]
  split
  · exact hp.k _ _ h1 h2
  · split
    · rfl
    · exact hp.k _ _ h1 h2
theorem at_end {l : List Tk} {p : Tk → Bool} (h : ∀ t ∈ l, 0 < t.kind ∧ t.kind < 16) (hp : Tst0 p) : p (nextM (sAt l l.length)).1 = false := by
  rcases (pl_at h (Nat.le_refl _)).fin rfl with e | e
  · rw [e]; exact hp.e
  · rw [e]; exact hp.z
variable {l m : List Tk} {k : Nat}
theorem All2.flip {l m : List Nd} (h : All2 (fun a b => Alk b a) l m) : All2 Alk m l := by
  induction h with
  | nil => exact .nil
  | cons h1 _ ih => exact .cons h1 ih
theorem Ag.no (h : Ag l m k) {i : Nat} (hi : i ≤ k) {p : Tk → Bool} (hp : Tst0 p) (e : p (nextM (sAt l i)).1 = false) : p (nextM (sAt m i)).1 = false := by
  have h1 := h.le
  have h2 := h.len
  by_cases hk : i < k
  · have hl : l[i]? = some l[i] := List.getElem?_eq_getElem (by omega)
    have hm : m[i]? = some m[i] := List.getElem?_eq_getElem (by omega)
    obtain ⟨e1, e2⟩ := h.e i _ _ hl hm
    rw [nxt_at h.a hl] at e
    rw [nxt_at h.b hm, ← brace_fst hp e1 e2]
    exact e
  · have : i = m.length := by omega
    subst this
    exact at_end h.b hp
def smA (h : Ag l m k) : Sm where
  R := fun s t => ∃ i : Nat, i ≤ k ∧ s = sAt l i ∧ t = sAt m i
  T := fun a b => Alk b a
  Out := fun s => k < l.length ∧ mu s < 4 * (l.length - k) + 2
  Lim := fun s => k < l.length ∧ mu s ≤ 4 * (l.length - k) + 2
  out := fun a b => ⟨a.1, Nat.lt_of_le_of_lt b a.2⟩
  lim := fun a b => ⟨a.1, Nat.lt_of_lt_of_le b a.2⟩
  yes := by
    rintro s t p ⟨i, hi, rfl, rfl⟩ hp e hz
    have h1 := h.le
    have h2 := h.len
    by_cases hl : i < l.length
    · have hu : l[i]? = some l[i] := List.getElem?_eq_getElem hl
      rw [nxt_at h.a hu] at e hz ⊢
      have nb : ¬ (l[i].kind = 15 ∧ (l[i].text = [123] ∨ l[i].text = [125])) := by
        rintro ⟨k1, k2 | k2⟩
        · unfold braceF at e
          rw [if_pos ⟨k1, k2⟩] at e
          rw [hp.k l[i] ⟨15, [123], 0, 0⟩ k1 k2, hp.b1] at e
          cases e
        · unfold braceF at hz
          rw [if_neg (by rw [k2]; simp), if_pos ⟨k1, k2⟩, if_pos (.inl rfl)] at hz
          cases hz
      rw [brace_at nb] at e ⊢
      by_cases hk : i = k
      · subst hk
        exact .inl ⟨hl, by rw [sAt_mu]; exact Nat.le_refl _⟩
      · right
        have hv : m[i]? = some m[i] := List.getElem?_eq_getElem (by omega)
        obtain ⟨e1, e2⟩ := h.e i _ _ hu hv
        rw [nxt_at h.b hv, brace_at (by rw [← e1, ← e2]; exact nb)]
        refine ⟨by rw [← hp.k _ _ e1 e2]; exact e, rfl, ⟨i + 1, by omega, rfl, rfl⟩, ?_⟩
        unfold leafT
        rw [e1, e2]
        exact .mk .nil
    · have : i = l.length := by omega
      subst this
      rw [at_end h.a hp.toTst0] at e
      cases e
  no := by
    rintro s t p ⟨i, hi, rfl, rfl⟩ hp e
    exact h.no hi hp.toTst0 e
  cno := by
    rintro s t ⟨i, hi, rfl, rfl⟩ e
    exact .inl (h.no hi (p := fun t => t.kind == 15 && t.text == [41]) (tst0_is (by decide)) e)
  mu := by
    rintro s t s' t' ⟨i, hi, rfl, rfl⟩ ⟨j, hj, rfl, rfl⟩ e
    have h1 := h.le
    have h2 := h.len
    rw [sAt_mu, sAt_mu] at *
    omega
  node := fun h => .mk h.flip
theorem sm_fulls (h : Ag l m k) (d : Nat) : Sim (smA h) (fullP (atomP (typeP d))) := sm_full (falls_atom (falls_type d)) (sm_atom (falls_type d) (begins_type d) (sm_type d))
theorem path_toks {s t : Sta} {q : List Tk} (h : Path s q t) (hs : Pl s) : q = (s.toks.drop s.pos.toNat).take q.length ∧ t.pos = s.pos + q.length := by
  induction h with
  | nil s => exact ⟨rfl, by show s.pos = s.pos + ((0 : Nat) : Int); omega⟩
  | @cons s l t h1 h2 h3 ih =>
    have hp := hs.p0
    rcases hs.cases with ⟨u, hu⟩ | e
    · have hn := hs.next hu
      rw [hn] at h1 h2 ih ⊢
      have hb := hs.brace hu h1
      have hf : (braceF u s).1 = u ∧ (braceF u s).2.1.toks = s.toks ∧ (braceF u s).2.1.pos = s.pos + 1 := by
        unfold braceF at h1 ⊢
        split
        · exact ⟨rfl, rfl, rfl⟩
        · rename_i e1
          rw [if_neg e1] at h1
          split
          · rename_i e2
            rw [if_pos e2] at h1
            split
            · rename_i e3; rw [if_pos e3] at h1; cases h1
            · exact ⟨rfl, rfl, rfl⟩
          · exact ⟨rfl, rfl, rfl⟩
      obtain ⟨f1, f2, f3⟩ := hf
      obtain ⟨i1, i2⟩ := ih hb
      rw [f2, f3, show (s.pos + 1).toNat = s.pos.toNat + 1 by omega] at i1
      rw [f3] at i2
      refine ⟨?_, by rw [i2, List.length_cons]; omega⟩
      rw [drop_atT hu, List.length_cons, List.take_succ_cons, f1, ← i1]
    · exfalso
      have : nextM s = endFT s := by unfold nextM; rw [if_pos hs.may, nextF_end (by omega) hs.p0]
      rw [this] at h1 h2
      unfold endFT at h1 h2
      split at h2
      · exact absurd h2 (Nat.lt_irrefl _)
      · rename_i e1
        rw [if_neg e1, if_neg (by rw [hs.top]; decide)] at h1
        cases h1
theorem kts_at {l m : List Tk} (h : kts m = kts l) {i : Nat} {u v : Tk} (hu : l[i]? = some u) (hv : m[i]? = some v) : u.kind = v.kind ∧ u.text = v.text := by
  have h1 : (kts l)[i]? = some (u.kind, u.text) := by unfold kts; rw [List.getElem?_map, hu]; rfl
  have h2 : (kts m)[i]? = some (v.kind, v.text) := by unfold kts; rw [List.getElem?_map, hv]; rfl
  rw [h, h1] at h2
  injection h2 with h2
  injection h2 with h3 h4
  exact ⟨h3, h4⟩
theorem again {s : List UInt8} {y : Lx} {d : Nat} {n : Nd} {s1 : Sta} (hs : s.length ≤ 2000) (e : lexF s = .inr y) (h : fullP (atomP (typeP d)) (sAt y.toks 0) = .inr (n, s1)) :
    (leavesF n).length ≤ 2000 ∧ (Lib.join ((leavesF n).map Tk.text) [32]).length ≤ 4000 ∧ ∃ w, lexF (Lib.join ((leavesF n).map Tk.text) [32]) = .inr w ∧ ∃ n', fullP (atomP (typeP d)) (sAt w.toks 0) = .inr (n', sAt w.toks w.toks.length) ∧ Alk n' n := by
  obtain ⟨b1, b2⟩ := lexF_len e
  have hk := lexF_kd e
  have g0 : Ag y.toks y.toks y.toks.length := ⟨hk, hk, Nat.le_refl _, rfl, fun i u v hu hv => by rw [hu] at hv; injection hv with hv; subst hv; exact ⟨rfl, rfl⟩⟩
  rcases sm_fulls g0 d _ _ ⟨0, Nat.zero_le _, rfl, rfl⟩ n s1 h with ho | ⟨_, _, _, _, i, hi, rfl, _⟩
  · exact absurd ho.1 (Nat.lt_irrefl _)
  · have hp := path_toks (passes_full (passes_atom (passes_type d)) _ _ _ h) (pl_at hk (Nat.zero_le _))
    obtain ⟨p1, p2⟩ := hp
    have p2 : (i : Int) = 0 + ((leavesF n).length : Nat) := p2
    have p1 : leavesF n = y.toks.take i := by
      have p1 : leavesF n = (y.toks.drop 0).take (leavesF n).length := p1
      rw [List.drop_zero] at p1
      rw [show i = (leavesF n).length by omega]
      exact p1
    have hj := join_len2 ((leavesF n).map Tk.text)
    have hl : Lib.lens ((leavesF n).map Tk.text) ≤ s.length := by
      have : Lib.lens (y.toks.map Tk.text) = Lib.lens ((leavesF n).map Tk.text) + Lib.lens ((y.toks.drop i).map Tk.text) := by
        rw [p1, ← lens_app, ← List.map_append, List.take_append_drop]
      omega
    have hn : (leavesF n).length ≤ s.length := by rw [p1, List.length_take]; omega
    rw [List.length_map] at hj
    refine ⟨by omega, by omega, ?_⟩
    obtain ⟨w, w1, w2, _⟩ := lex_part e (leavesF n) (fun t ht => by rw [p1] at ht; exact List.mem_of_mem_take ht) (by rw [← join_spell]; exact Nat.le_trans hj (by omega))
    rw [← join_spell] at w1
    refine ⟨w, w1, ?_⟩
    have hw := lexF_kd w1
    have hlen : w.toks.length = i := by
      have := congrArg List.length w2
      unfold kts at this
      rw [List.length_map, List.length_map] at this
      omega
    have hi2 : i ≤ y.toks.length := hi
    have g1 : Ag y.toks w.toks i := ⟨hk, hw, hi2, hlen, fun j u v hu hv => by
      have hj : j < i := by have := (List.getElem?_eq_some_iff.1 hv).1; omega
      exact kts_at w2 (by rw [p1, List.getElem?_take_of_lt hj]; exact hu) hv⟩
    rcases sm_fulls g1 d _ _ ⟨0, Nat.zero_le _, rfl, rfl⟩ n _ h with ho | ⟨n', t1, h1, h2, j, hj, e1, rfl⟩
    · have := ho.2
      rw [sAt_mu] at this
      exact absurd this (Nat.lt_irrefl _)
    · have : j = i := by injection e1 with _ e1; omega
      subst this
      rw [hlen]
      exact ⟨n', h1, h2⟩
end Go.Proofs.YtkidoddkbhchkaaGreatDoor
set_option maxHeartbeats 16000000
set_option linter.unusedVariables false
namespace Go.Proofs.YtkidoddkbhchkaaGreatDoor
open Go Go.Aw
section
variable {st : St} {R : Res → St → Prop}
attribute [local irreducible] Go.Aw.appendTo
theorem typeAgain_c {s : List UInt8} {deep : Int} (h : ∀ st', R (.ret (.bool true)) st') : PC 3 [.str s, .int .i64 deep] st R := by
  refine pB Tryz.func3 ?_
  by_cases hs : (s.length : Int) > 2000
  · skip
    repeat' ((conv => whnf); first | (refine Yb1 ?_; intros) | (refine Yb3 ?_ ?_ <;> intro _) | refine WJ (fun _ => ?_) | refine awake_cT ?_)
    all_goals exact fin (h _) rfl
  · cases e : lexF s with
    | inl q =>
      obtain ⟨i, e'⟩ := q
      have he := lexF_err e
      repeat' ((conv => whnf); first | (refine Yb1 ?_; intros) | (refine Yb3 ?_ ?_ <;> intro _) | refine WJ (fun _ => ?_) | refine awake_cT ?_ | refine lex_l e (fun st1 hle1 => ?_))
      all_goals exact fin (h _) rfl
    | inr y =>
      obtain ⟨b1, b2⟩ := lexF_len e
      have hm : mu (sAt y.toks 0) ≤ 100000000 := by rw [sAt_mu]; omega
      obtain ⟨q, hq⟩ : ∃ q, docR (sAt y.toks 0) deep (fullP (atomP (typeP (depF deep - 1))) (sAt y.toks 0)) = q := ⟨_, rfl⟩
      by_cases he : re q = 0
      · have hr : docR (sAt y.toks 0) deep (fullP (atomP (typeP (depF deep - 1))) (sAt y.toks 0)) = .inr (rn q, rs q) ∧ ¬ deep < 1 := by
          unfold docR at hq ⊢
          split at hq
          · rw [← hq] at he; cases he
          · rename_i hd
            rw [if_neg hd]
            exact ⟨by rw [← hq] at he ⊢; exact inr_of (bads_full (bads_atom (bads_type _))) he, hd⟩
        obtain ⟨hr, hd⟩ := hr
        unfold docR at hr
        rw [if_neg hd] at hr
        obtain ⟨n1, n2, w, g1, n', g2, g3⟩ := again (by omega) e hr
        have hw := (lexF_len g1).1
        have hm2 : mu (sAt w.toks 0) ≤ 100000000 := by rw [sAt_mu]; omega
        obtain ⟨q2, hq2, he2, hp2, hn2⟩ : ∃ q2, docR (sAt w.toks 0) deep (fullP (atomP (typeP (depF deep - 1))) (sAt w.toks 0)) = q2 ∧ re q2 = 0 ∧ (rs q2).pos = w.toks.length ∧ Alk (rn q2) (rn q) :=
          ⟨_, rfl, by unfold docR; rw [if_neg hd, g2]; exact ⟨rfl, rfl, g3⟩⟩
        repeat' ((conv => whnf); first | (refine Yb1 ?_; intros) | (refine Yb3 ?_ ?_ <;> intro _) | refine WJ (fun _ => ?_) | refine awake_cT ?_ | refine lex_r e (fun w1 w2 st1 hle1 => ?_) | refine lex_r g1 (fun w1 w2 st1 hle1 => ?_) | refine pcalls_wk (args' := [encS (sAt y.toks 0), .int .i64 deep]) (by rfl) (full_e hm hq ?_) | refine pcalls_wk (args' := [encS (sAt w.toks 0), .int .i64 deep]) (by rfl) (full_e hm2 hq2 ?_) | refine leaves_c (n := rn q) (by omega) ?_ | refine spell_c (by omega) (by omega) (fun st4 hle4 => ?_) | refine same_alk (rn q2).size (Nat.le_refl _) hn2 ?_)
        all_goals exact fin (h _) rfl
      · skip
        repeat' ((conv => whnf); first | (refine Yb1 ?_; intros) | (refine Yb3 ?_ ?_ <;> intro _) | refine WJ (fun _ => ?_) | refine awake_cT ?_ | refine lex_r e (fun w1 w2 st1 hle1 => ?_) | refine pcalls_wk (args' := [encS (sAt y.toks 0), .int .i64 deep]) (by rfl) (full_e hm hq ?_))
        all_goals exact fin (h _) rfl
end
end Go.Proofs.YtkidoddkbhchkaaGreatDoor
set_option maxHeartbeats 16000000
set_option linter.unusedVariables false
set_option linter.unusedSimpArgs false
