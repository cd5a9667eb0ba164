/-
  Parts of a proof: lemmas that the last text uses.
-/
import Derived.Test.YtkcapphlemoccaaGreatDoorS3
set_option linter.unusedVariables false
namespace Go.Aw
open Go
theorem numV_val {b : Int} {l : List UInt8} {p : Int × Nat} (hb : 1 ≤ b) (h : numV b l = some p) : 0 ≤ p.1 := by
  have hv := valF_min b 0 l hb (by omega) (by omega)
  unfold numV at h
  split at h
  · cases h
  · injection h with h; subst h; exact hv.1
theorem escF_val {tx : Bool} {l : List UInt8} {p : Int × Nat} (h : escF tx l = some p) : (p.1 = -1 ∧ tx = true) ∨ 0 ≤ p.1 := by
  unfold escF at h
  split at h
  · rename_i v hs
    have := sgnF_pos hs
    injection h with h; subst h; exact .inr this.2
  · repeat' split at h
    · rename_i h1; injection h with h; subst h; exact .inl ⟨rfl, h1.2⟩
    · rename_i h1; injection h with h; subst h; exact .inr (by dsimp only; omega)
    · obtain ⟨q, hq, rfl⟩ := Option.map_eq_some_iff.1 h
      have hz := numV_val (b := 8) (by decide) hq
      exact .inr (by dsimp only; exact hz)
    · obtain ⟨q, hq, rfl⟩ := Option.map_eq_some_iff.1 h
      have hz := numV_val (b := 16) (by decide) hq
      exact .inr (by dsimp only; exact hz)
    · obtain ⟨q, hq, rfl⟩ := Option.map_eq_some_iff.1 h
      have hz := numV_val (b := 10) (by decide) hq
      exact .inr (by dsimp only; exact hz)
    · injection h with h; subst h
      refine .inr ?_
      simp only [namF]
      split <;> omega
    · cases h
theorem oneF_val {tx : Bool} {l : List UInt8} {v : Int} {n : Nat} (h : oneF tx l = .inr (v, n)) : (v = -1 ∧ tx = true) ∨ 0 ≤ v := by
  unfold oneF at h
  split at h
  · cases h
  · split at h
    · split at h
      · rename_i h1; injection h with h; injection h with h; exact .inl ⟨h.symm, h1.1⟩
      · split at h
        · cases h
        · rename_i q hq
          injection h with h; subst h; exact escF_val hq
    · split at h
      · cases h
      · injection h with h; injection h with h; exact .inr (by omega)
theorem oneF_err {tx : Bool} {l : List UInt8} {e : Int} (h : oneF tx l = .inl e) : e = 50 ∨ e = 51 := by
  unfold oneF at h
  repeat' split at h
  all_goals first | (injection h with h; omega) | cases h
theorem charN_39 {l : List UInt8} (h : hdF l = 39) : charN l = .inl (0, 50) := by unfold charN; rw [if_pos h]
theorem charN_bad {l : List UInt8} {e : Int} (h : hdF l ≠ 39) (k : oneF false l = .inl e) : charN l = .inl (0, e) := by unfold charN; rw [if_neg h, k]
theorem charN_go {l : List UInt8} {v : Int} {n : Nat} (h : hdF l ≠ 39) (k : oneF false l = .inr (v, n)) : charN l = if hdF (l.drop n) = 39 then .inr (n + 1) else .inl (n, 50) := by unfold charN; rw [if_neg h, k]
def litR (k : Int) : Sum (Nat × Int) Nat → Int × Int × Int
  | .inl q => (0, q.1, q.2)
  | .inr n => (k, n, 0)
theorem absN_h {q n : Nat} {l : List UInt8} {v : Int} (h : hdF l ≠ 39) (k : oneF false l = .inr (v, n)) : absN q (charN l) = absN (q + n) (if hdF (l.drop n) = 39 then .inr 1 else .inl (0, 50)) := by
  rw [charN_go h k]
  split
  · simp only [absN]; congr 1
  · simp only [absN]; rfl
theorem quoF_t {s : List UInt8} {p : Nat} (h : hdF (s.drop p) = 34) : quoF s p = litR 14 (absN (p + 1) (textN (s.drop (p + 1)))) := by
  unfold quoF; rw [if_pos h]
  cases textN (s.drop (p + 1)) with
  | inl q => simp [absN, litR]
  | inr n => simp [absN, litR]
theorem quoF_h {s : List UInt8} {p : Nat} (h : hdF (s.drop p) = 39) : quoF s p = litR 13 (absN (p + 1) (charN (s.drop (p + 1)))) := by
  unfold quoF; rw [if_neg (by omega), if_pos h]
  cases charN (s.drop (p + 1)) with
  | inl q => simp [absN, litR]
  | inr n => simp [absN, litR]
end Go.Aw
namespace Go.Proofs.YtkcapphlemoccaaGreatDoor
open Go Go.Aw
section
variable {st : St} {R : Res → St → Prop}
attribute [local irreducible] Go.Aw.appendTo
theorem finm {r r' : Res} {st' : St} (hs : st.le st') (e : r = r') (h : R r st) : ∃ r2 st2, (r2 = r' ∨ r2 = r'.wk) ∧ St.le st2 st' ∧ R r2 st2 := ⟨r, st, .inl e, hs, h⟩
theorem app_int1 {l : List Int} {v : Int} {own : Own} {st : St} {K : V → St → Prop} (h : own.good st) (hb : l.length ≤ 999999999)
    (k : ∀ own' : Own, own'.good st → K (.slice 1 (ints (l ++ [v])) own') (own'.st st (l ++ [v]).length)) : appendTo 1 8 (ints l) own [[.int .i64 v]] (own.st st l.length) K :=
  app_ints (new := [v]) h (by rw [List.length_singleton]; omega) k
theorem rone_k {s : List UInt8} {i : Nat} {tx : Bool} (hl : s.length ≤ 100000000) (hi : i ≤ s.length) (h0 : ∀ e, oneF tx (s.drop i) = .inl e → e = 50 ∨ e = 51 → R (.ret (.tup [.int .i64 0, .int .i64 i, .int .i64 e])) st)
    (h : ∀ v n, oneF tx (s.drop i) = .inr (v, n) → (v = -1 ∧ tx = true) ∨ 0 ≤ v → 1 ≤ n ∧ i + n ≤ s.length → ∀ c : Int, (v = -1 ∧ c = -2) ∨ (0 ≤ v ∧ c = v) → R (.ret (.tup [.int .i64 c, .int .i64 (i + n : Nat), .int .i64 0])) st) : PC 92 [.str s, .int .i64 i, .bool tx] st R :=
  rone_c hl hi (fun e hO => h0 e hO (oneF_err hO)) (fun v n hO c d hc hd => by
    have hv := oneF_val hO
    have hn := oneF_le hO
    rw [List.length_drop] at hn
    dsimp only at hn
    have := h v n hO hv ⟨hn.1, by omega⟩ c (by rcases hv with x | x <;> (split at hc <;> omega))
    rw [show d = ((i + n : Nat) : Int) by omega]
    exact this)
set_option maxHeartbeats 4000000 in
theorem rread_c {s : List UInt8} {i : Nat} (hl : s.length ≤ 100000000) (hp : i < s.length)
    (h : ∀ o own, Own.good st own → R (.ret (.tup [.int .i64 (quoF s i).1, .slice 1 (ints o) own, .int .i64 (quoF s i).2.1, .int .i64 (quoF s i).2.2])) (Own.st st (List.length o) own)) : PC 69 [.str s, .int .i64 i] st R := by
  have hh : ∀ a b c, quoF s i = (a, b, c) → ∀ o own, Own.good st own → R (.ret (.tup [.int .i64 a, .slice 1 (ints o) own, .int .i64 b, .int .i64 c])) (Own.st st (List.length o) own) := fun a b c e => by rw [e] at h; exact h
  clear h
  refine pcalls_of_body tys_ok [] Tryz.func69 rfl (by decide) ?_
  obtain ⟨e, he⟩ : ∃ e, s[i]? = some e := ⟨s[i], List.getElem?_eq_getElem hp⟩
  have he' : s[(i : Int).toNat]? = some e := he
  have hv := hdF_at he
  by_cases h34 : ((e.toNat : Nat) : Int) = 34
  · have hq := quoF_t (s := s) (p := i) (by omega)
    repeat' ((conv => whnf); first
      | (with_reducible first | exact Wa | exact Wb | exact Wc | refine Wd (by kernel_rfl) ?_ | refine We ?_ ?_ ?_ | refine W8 (by decide +kernel) ?_ ?_ ?_ | refine W9 ?_ ?_ ?_ | refine Wt (by first | assumption | omega) ?_ | refine Wu (by first | assumption | omega) ?_ | refine Wv (by omega) ?_ | refine Ww (by omega) ?_ | refine Wf (by decide) (fun _ => ?_) (fun _ => ?_) | refine Wg (fun _ => ?_) (fun _ => ?_) | refine Wh (fun _ => ?_) (fun _ => ?_) | refine Wi ?_ | refine Wj ?_ | refine Wk (fun _ => ?_) (fun _ => ?_) | refine Wl (fun _ => ?_) | refine Wm (by assumption) (by omega) ?_ | refine Wn (by omega) (by omega) (fun _ _ _ => ?_) | refine Wo (by omega) (by omega) ?_ | refine Wp (by omega) (by omega) (by omega) ?_ | refine Wq (by omega) (by omega) ?_ | refine Wr (by decide) (by omega) (by omega) ?_ | refine Ws (by decide) ?_ | refine Wx (fun _ => ?_) ?_ | refine Wy (fun _ => ?_) ?_ | refine Wz (fun _ => ?_) | refine WA (fun _ => ?_) | refine WB (by assumption) (by omega) ?_ | refine WC (by omega) (by omega) (fun _ _ => ?_) | refine WD (by omega) (by omega) (fun _ _ => ?_) | refine WE (by omega) (by omega) (by omega) ?_ | refine WJ (fun _ => ?_) | refine WK (fun _ _ _ => ?_) | refine WL (by assumption) (by omega) ?_ | refine WM (by omega) (by omega) (fun _ _ => ?_) | refine WN (by omega) (by omega) ?_ | refine WO (by omega) (by omega) ?_ | refine WP (by omega) (by omega) (by omega) ?_)
      | with_reducible refine WF ?_)
    refine loop_3 (α := Nat) (β := List Int) (γ := Own) (fun pos l own => [(11, .int .i64 (pos : Int)), (10, .slice 1 (ints l) own)]) (fun _ _ _ => []) [0, 8, 9] [] (fun _ l own => own.st st l.length)
      (fun pos l own => pos ≤ s.length ∧ l.length ≤ pos ∧ own.good st ∧ quoF s i = litR 14 (absN pos (textN (s.drop pos)))) (fun pos _ _ => s.length - pos) (i + 1) [] .full ⟨by omega, by simp, trivial, hq⟩ (by refine ⟨rfl, ?_, ?_, rfl⟩ <;> repeat' (first | exact trivial | exact rfl | refine And.intro ?_ ?_)) (St.le_refl _) ?_
    rintro pos l own ⟨j1, j2, j3, j4⟩
    by_cases hlt : pos < s.length
    · obtain ⟨e2, he2⟩ : ∃ e, s[pos]? = some e := ⟨s[pos], List.getElem?_eq_getElem hlt⟩
      have he2' : s[(pos : Int).toNat]? = some e2 := he2
      have hv2 := hdF_at he2
      by_cases hq2 : ((e2.toNat : Nat) : Int) = 34
      · rw [textN_end (by omega)] at j4
        have hx : ((e2.toNat : Nat) : Int) = (e.toNat : Nat) := by omega
        repeat' ((conv => whnf); first
          | (with_reducible first | exact Wa | exact Wb | exact Wc | refine Wd (by kernel_rfl) ?_ | refine We ?_ ?_ ?_ | refine W8 (by decide +kernel) ?_ ?_ ?_ | refine W9 ?_ ?_ ?_ | refine Wt (by first | assumption | omega) ?_ | refine Wu (by first | assumption | omega) ?_ | refine Wv (by omega) ?_ | refine Ww (by omega) ?_ | refine Wf (by decide) (fun _ => ?_) (fun _ => ?_) | refine Wg (fun _ => ?_) (fun _ => ?_) | refine Wh (fun _ => ?_) (fun _ => ?_) | refine Wi ?_ | refine Wj ?_ | refine Wk (fun _ => ?_) (fun _ => ?_) | refine Wl (fun _ => ?_) | refine Wm (by assumption) (by omega) ?_ | refine Wn (by omega) (by omega) (fun _ _ _ => ?_) | refine Wo (by omega) (by omega) ?_ | refine Wp (by omega) (by omega) (by omega) ?_ | refine Wq (by omega) (by omega) ?_ | refine Wr (by decide) (by omega) (by omega) ?_ | refine Ws (by decide) ?_ | refine Wx (fun _ => ?_) ?_ | refine Wy (fun _ => ?_) ?_ | refine Wz (fun _ => ?_) | refine WA (fun _ => ?_) | refine WB (by assumption) (by omega) ?_ | refine WC (by omega) (by omega) (fun _ _ => ?_) | refine WD (by omega) (by omega) (fun _ _ => ?_) | refine WE (by omega) (by omega) (by omega) ?_ | refine WJ (fun _ => ?_) | refine WK (fun _ _ _ => ?_) | refine WL (by assumption) (by omega) ?_ | refine WM (by omega) (by omega) (fun _ _ => ?_) | refine WN (by omega) (by omega) ?_ | refine WO (by omega) (by omega) ?_ | refine WP (by omega) (by omega) (by omega) ?_)
          | with_reducible refine WF ?_)
        all_goals exact finr rfl (hh _ _ _ j4 l own j3)
      · have hx : ¬ ((e2.toNat : Nat) : Int) = (e.toNat : Nat) := by omega
        repeat' ((conv => whnf); first
          | (with_reducible first | exact Wa | exact Wb | exact Wc | refine Wd (by kernel_rfl) ?_ | refine We ?_ ?_ ?_ | refine W8 (by decide +kernel) ?_ ?_ ?_ | refine W9 ?_ ?_ ?_ | refine Wt (by first | assumption | omega) ?_ | refine Wu (by first | assumption | omega) ?_ | refine Wv (by omega) ?_ | refine Ww (by omega) ?_ | refine Wf (by decide) (fun _ => ?_) (fun _ => ?_) | refine Wg (fun _ => ?_) (fun _ => ?_) | refine Wh (fun _ => ?_) (fun _ => ?_) | refine Wi ?_ | refine Wj ?_ | refine Wk (fun _ => ?_) (fun _ => ?_) | refine Wl (fun _ => ?_) | refine Wm (by assumption) (by omega) ?_ | refine Wn (by omega) (by omega) (fun _ _ _ => ?_) | refine Wo (by omega) (by omega) ?_ | refine Wp (by omega) (by omega) (by omega) ?_ | refine Wq (by omega) (by omega) ?_ | refine Wr (by decide) (by omega) (by omega) ?_ | refine Ws (by decide) ?_ | refine Wx (fun _ => ?_) ?_ | refine Wy (fun _ => ?_) ?_ | refine Wz (fun _ => ?_) | refine WA (fun _ => ?_) | refine WB (by assumption) (by omega) ?_ | refine WC (by omega) (by omega) (fun _ _ => ?_) | refine WD (by omega) (by omega) (fun _ _ => ?_) | refine WE (by omega) (by omega) (by omega) ?_ | refine WJ (fun _ => ?_) | refine WK (fun _ _ _ => ?_) | refine WL (by assumption) (by omega) ?_ | refine WM (by omega) (by omega) (fun _ _ => ?_) | refine WN (by omega) (by omega) ?_ | refine WO (by omega) (by omega) ?_ | refine WP (by omega) (by omega) (by omega) ?_)
          | refine rone_k hl j1 (fun e' hO z1 => ?_) (fun v n hO z1 z2 c z3 => ?_)
          | refine app_int1 j3 (by omega) (fun own' ho => ?_)
          | with_reducible refine WF ?_)
        all_goals first
          | (rw [textN_bad (by omega) hO] at j4
             exact finm (Own.good_le j3) rfl (hh _ _ _ j4 [] .full trivial))
          | (rw [absN_go (by omega) hO, List.drop_drop] at j4
             conv => whnf
             first
               | exact ⟨(pos + n, l ++ [c], own'), ⟨by dsimp only; omega, by dsimp only; rw [List.length_append, List.length_singleton]; omega, ho, j4⟩, by dsimp only; omega, (by refine ⟨rfl, ?_, ?_, rfl⟩ <;> repeat' (first | exact trivial | exact rfl | refine And.intro ?_ ?_)), St.le_refl _⟩
               | exact ⟨(pos + n, l, own), ⟨by dsimp only; omega, by dsimp only; omega, j3, j4⟩, by dsimp only; omega, (by refine ⟨rfl, ?_, ?_, rfl⟩ <;> repeat' (first | exact trivial | exact rfl | refine And.intro ?_ ?_)), St.le_refl _⟩)
    · have hO : oneF true (s.drop pos) = .inl 50 := by rw [List.drop_eq_nil_iff.2 (by omega)]; rfl
      rw [textN_bad (by rw [hdF_none (by omega)]; decide) hO] at j4
      have hone : ∀ {R : Res → St → Prop}, R (.ret (.tup [.int .i64 0, .int .i64 pos, .int .i64 50])) (own.st st l.length) → PC 92 [.str s, .int .i64 pos, .bool true] (own.st st l.length) R := fun h =>
        rone_c hl j1 (fun e' x => by rw [hO] at x; injection x with x; subst x; exact h) (fun v n x => by rw [hO] at x; cases x)
      repeat' ((conv => whnf); first
        | (with_reducible first | exact Wa | exact Wb | exact Wc | refine Wd (by kernel_rfl) ?_ | refine We ?_ ?_ ?_ | refine W8 (by decide +kernel) ?_ ?_ ?_ | refine W9 ?_ ?_ ?_ | refine Wt (by first | assumption | omega) ?_ | refine Wu (by first | assumption | omega) ?_ | refine Wv (by omega) ?_ | refine Ww (by omega) ?_ | refine Wf (by decide) (fun _ => ?_) (fun _ => ?_) | refine Wg (fun _ => ?_) (fun _ => ?_) | refine Wh (fun _ => ?_) (fun _ => ?_) | refine Wi ?_ | refine Wj ?_ | refine Wk (fun _ => ?_) (fun _ => ?_) | refine Wl (fun _ => ?_) | refine Wm (by assumption) (by omega) ?_ | refine Wn (by omega) (by omega) (fun _ _ _ => ?_) | refine Wo (by omega) (by omega) ?_ | refine Wp (by omega) (by omega) (by omega) ?_ | refine Wq (by omega) (by omega) ?_ | refine Wr (by decide) (by omega) (by omega) ?_ | refine Ws (by decide) ?_ | refine Wx (fun _ => ?_) ?_ | refine Wy (fun _ => ?_) ?_ | refine Wz (fun _ => ?_) | refine WA (fun _ => ?_) | refine WB (by assumption) (by omega) ?_ | refine WC (by omega) (by omega) (fun _ _ => ?_) | refine WD (by omega) (by omega) (fun _ _ => ?_) | refine WE (by omega) (by omega) (by omega) ?_ | refine WJ (fun _ => ?_) | refine WK (fun _ _ _ => ?_) | refine WL (by assumption) (by omega) ?_ | refine WM (by omega) (by omega) (fun _ _ => ?_) | refine WN (by omega) (by omega) ?_ | refine WO (by omega) (by omega) ?_ | refine WP (by omega) (by omega) (by omega) ?_)
        | refine hone ?_
        | with_reducible refine WF ?_)
      all_goals exact finm (Own.good_le j3) rfl (hh _ _ _ j4 [] .full trivial)
  · by_cases h39 : ((e.toNat : Nat) : Int) = 39
    · have hq := quoF_h (s := s) (p := i) (by omega)
      repeat' ((conv => whnf); first
        | (with_reducible first | exact Wa | exact Wb | exact Wc | refine Wd (by kernel_rfl) ?_ | refine We ?_ ?_ ?_ | refine W8 (by decide +kernel) ?_ ?_ ?_ | refine W9 ?_ ?_ ?_ | refine Wt (by first | assumption | omega) ?_ | refine Wu (by first | assumption | omega) ?_ | refine Wv (by omega) ?_ | refine Ww (by omega) ?_ | refine Wf (by decide) (fun _ => ?_) (fun _ => ?_) | refine Wg (fun _ => ?_) (fun _ => ?_) | refine Wh (fun _ => ?_) (fun _ => ?_) | refine Wi ?_ | refine Wj ?_ | refine Wk (fun _ => ?_) (fun _ => ?_) | refine Wl (fun _ => ?_) | refine Wm (by assumption) (by omega) ?_ | refine Wn (by omega) (by omega) (fun _ _ _ => ?_) | refine Wo (by omega) (by omega) ?_ | refine Wp (by omega) (by omega) (by omega) ?_ | refine Wq (by omega) (by omega) ?_ | refine Wr (by decide) (by omega) (by omega) ?_ | refine Ws (by decide) ?_ | refine Wx (fun _ => ?_) ?_ | refine Wy (fun _ => ?_) ?_ | refine Wz (fun _ => ?_) | refine WA (fun _ => ?_) | refine WB (by assumption) (by omega) ?_ | refine WC (by omega) (by omega) (fun _ _ => ?_) | refine WD (by omega) (by omega) (fun _ _ => ?_) | refine WE (by omega) (by omega) (by omega) ?_ | refine WJ (fun _ => ?_) | refine WK (fun _ _ _ => ?_) | refine WL (by assumption) (by omega) ?_ | refine WM (by omega) (by omega) (fun _ _ => ?_) | refine WN (by omega) (by omega) ?_ | refine WO (by omega) (by omega) ?_ | refine WP (by omega) (by omega) (by omega) ?_)
        | with_reducible refine WF ?_)
      refine loop_3 (α := Nat) (β := List Int) (γ := Own) (fun pos l own => [(11, .int .i64 (pos : Int)), (10, .slice 1 (ints l) own)]) (fun _ _ _ => []) [0, 8, 9] [] (fun _ l own => own.st st l.length)
        (fun pos l own => pos ≤ s.length ∧ own.good st ∧ ((l.length = 0 ∧ pos = i + 1) ∨ (l.length = 1 ∧ i + 1 < pos ∧ quoF s i = litR 13 (absN pos (if hdF (s.drop pos) = 39 then .inr 1 else .inl (0, 50)))))) (fun _ l _ => 1 - l.length) (i + 1) [] .full ⟨by omega, trivial, .inl ⟨rfl, rfl⟩⟩ (by refine ⟨rfl, ?_, ?_, rfl⟩ <;> repeat' (first | exact trivial | exact rfl | refine And.intro ?_ ?_)) (St.le_refl _) ?_
      rintro pos l own ⟨j1, j3, j4⟩
      rcases j4 with ⟨j4, rfl⟩ | ⟨j4, j5, j6⟩
      · by_cases hlt : i + 1 < s.length
        · obtain ⟨e2, he2⟩ : ∃ e, s[i + 1]? = some e := ⟨s[i + 1], List.getElem?_eq_getElem hlt⟩
          have he2' : s[((i + 1 : Nat) : Int).toNat]? = some e2 := he2
          have hv2 := hdF_at he2
          by_cases hq2 : ((e2.toNat : Nat) : Int) = 39
          · rw [charN_39 (by omega)] at hq
            have hx : ((e2.toNat : Nat) : Int) = (e.toNat : Nat) := by omega
            repeat' ((conv => whnf); first
              | (with_reducible first | exact Wa | exact Wb | exact Wc | refine Wd (by kernel_rfl) ?_ | refine We ?_ ?_ ?_ | refine W8 (by decide +kernel) ?_ ?_ ?_ | refine W9 ?_ ?_ ?_ | refine Wt (by first | assumption | omega) ?_ | refine Wu (by first | assumption | omega) ?_ | refine Wv (by omega) ?_ | refine Ww (by omega) ?_ | refine Wf (by decide) (fun _ => ?_) (fun _ => ?_) | refine Wg (fun _ => ?_) (fun _ => ?_) | refine Wh (fun _ => ?_) (fun _ => ?_) | refine Wi ?_ | refine Wj ?_ | refine Wk (fun _ => ?_) (fun _ => ?_) | refine Wl (fun _ => ?_) | refine Wm (by assumption) (by omega) ?_ | refine Wn (by omega) (by omega) (fun _ _ _ => ?_) | refine Wo (by omega) (by omega) ?_ | refine Wp (by omega) (by omega) (by omega) ?_ | refine Wq (by omega) (by omega) ?_ | refine Wr (by decide) (by omega) (by omega) ?_ | refine Ws (by decide) ?_ | refine Wx (fun _ => ?_) ?_ | refine Wy (fun _ => ?_) ?_ | refine Wz (fun _ => ?_) | refine WA (fun _ => ?_) | refine WB (by assumption) (by omega) ?_ | refine WC (by omega) (by omega) (fun _ _ => ?_) | refine WD (by omega) (by omega) (fun _ _ => ?_) | refine WE (by omega) (by omega) (by omega) ?_ | refine WJ (fun _ => ?_) | refine WK (fun _ _ _ => ?_) | refine WL (by assumption) (by omega) ?_ | refine WM (by omega) (by omega) (fun _ _ => ?_) | refine WN (by omega) (by omega) ?_ | refine WO (by omega) (by omega) ?_ | refine WP (by omega) (by omega) (by omega) ?_)
              | with_reducible refine WF ?_)
            all_goals exact finm (Own.good_le j3) rfl (hh _ _ _ hq [] .full trivial)
          · have hx : ¬ ((e2.toNat : Nat) : Int) = (e.toNat : Nat) := by omega
            repeat' ((conv => whnf); first
              | (with_reducible first | exact Wa | exact Wb | exact Wc | refine Wd (by kernel_rfl) ?_ | refine We ?_ ?_ ?_ | refine W8 (by decide +kernel) ?_ ?_ ?_ | refine W9 ?_ ?_ ?_ | refine Wt (by first | assumption | omega) ?_ | refine Wu (by first | assumption | omega) ?_ | refine Wv (by omega) ?_ | refine Ww (by omega) ?_ | refine Wf (by decide) (fun _ => ?_) (fun _ => ?_) | refine Wg (fun _ => ?_) (fun _ => ?_) | refine Wh (fun _ => ?_) (fun _ => ?_) | refine Wi ?_ | refine Wj ?_ | refine Wk (fun _ => ?_) (fun _ => ?_) | refine Wl (fun _ => ?_) | refine Wm (by assumption) (by omega) ?_ | refine Wn (by omega) (by omega) (fun _ _ _ => ?_) | refine Wo (by omega) (by omega) ?_ | refine Wp (by omega) (by omega) (by omega) ?_ | refine Wq (by omega) (by omega) ?_ | refine Wr (by decide) (by omega) (by omega) ?_ | refine Ws (by decide) ?_ | refine Wx (fun _ => ?_) ?_ | refine Wy (fun _ => ?_) ?_ | refine Wz (fun _ => ?_) | refine WA (fun _ => ?_) | refine WB (by assumption) (by omega) ?_ | refine WC (by omega) (by omega) (fun _ _ => ?_) | refine WD (by omega) (by omega) (fun _ _ => ?_) | refine WE (by omega) (by omega) (by omega) ?_ | refine WJ (fun _ => ?_) | refine WK (fun _ _ _ => ?_) | refine WL (by assumption) (by omega) ?_ | refine WM (by omega) (by omega) (fun _ _ => ?_) | refine WN (by omega) (by omega) ?_ | refine WO (by omega) (by omega) ?_ | refine WP (by omega) (by omega) (by omega) ?_)
              | refine rone_k hl j1 (fun e' hO z1 => ?_) (fun v n hO z1 z2 c z3 => ?_)
              | refine app_int1 j3 (by omega) (fun own' ho => ?_)
              | with_reducible refine WF ?_)
            all_goals first
              | (rw [charN_bad (by omega) hO] at hq
                 exact finm (Own.good_le j3) rfl (hh _ _ _ hq [] .full trivial))
              | (rw [absN_h (by omega) hO, List.drop_drop] at hq
                 conv => whnf
                 exact ⟨(i + 1 + n, l ++ [c], own'), ⟨by dsimp only; omega, ho, .inr ⟨by dsimp only; rw [List.length_append, List.length_singleton]; omega, by dsimp only; omega, hq⟩⟩, by dsimp only; rw [List.length_append, List.length_singleton]; omega, (by refine ⟨rfl, ?_, ?_, rfl⟩ <;> repeat' (first | exact trivial | exact rfl | refine And.intro ?_ ?_)), St.le_refl _⟩)
              | (exfalso
                 rcases z1 with ⟨_, x⟩ | x
                 · cases x
                 · omega)
        · have hO : oneF false (s.drop (i + 1)) = .inl 50 := by rw [List.drop_eq_nil_iff.2 (by omega)]; rfl
          rw [charN_bad (by rw [hdF_none (by omega)]; decide) hO] at hq
          have hone : ∀ {R : Res → St → Prop}, R (.ret (.tup [.int .i64 0, .int .i64 (i + 1 : Nat), .int .i64 50])) (own.st st l.length) → PC 92 [.str s, .int .i64 (i + 1 : Nat), .bool false] (own.st st l.length) R := fun h =>
            rone_c hl j1 (fun e' x => by rw [hO] at x; injection x with x; subst x; exact h) (fun v n x => by rw [hO] at x; cases x)
          repeat' ((conv => whnf); first
            | (with_reducible first | exact Wa | exact Wb | exact Wc | refine Wd (by kernel_rfl) ?_ | refine We ?_ ?_ ?_ | refine W8 (by decide +kernel) ?_ ?_ ?_ | refine W9 ?_ ?_ ?_ | refine Wt (by first | assumption | omega) ?_ | refine Wu (by first | assumption | omega) ?_ | refine Wv (by omega) ?_ | refine Ww (by omega) ?_ | refine Wf (by decide) (fun _ => ?_) (fun _ => ?_) | refine Wg (fun _ => ?_) (fun _ => ?_) | refine Wh (fun _ => ?_) (fun _ => ?_) | refine Wi ?_ | refine Wj ?_ | refine Wk (fun _ => ?_) (fun _ => ?_) | refine Wl (fun _ => ?_) | refine Wm (by assumption) (by omega) ?_ | refine Wn (by omega) (by omega) (fun _ _ _ => ?_) | refine Wo (by omega) (by omega) ?_ | refine Wp (by omega) (by omega) (by omega) ?_ | refine Wq (by omega) (by omega) ?_ | refine Wr (by decide) (by omega) (by omega) ?_ | refine Ws (by decide) ?_ | refine Wx (fun _ => ?_) ?_ | refine Wy (fun _ => ?_) ?_ | refine Wz (fun _ => ?_) | refine WA (fun _ => ?_) | refine WB (by assumption) (by omega) ?_ | refine WC (by omega) (by omega) (fun _ _ => ?_) | refine WD (by omega) (by omega) (fun _ _ => ?_) | refine WE (by omega) (by omega) (by omega) ?_ | refine WJ (fun _ => ?_) | refine WK (fun _ _ _ => ?_) | refine WL (by assumption) (by omega) ?_ | refine WM (by omega) (by omega) (fun _ _ => ?_) | refine WN (by omega) (by omega) ?_ | refine WO (by omega) (by omega) ?_ | refine WP (by omega) (by omega) (by omega) ?_)
            | refine hone ?_
            | with_reducible refine WF ?_)
          all_goals exact finm (Own.good_le j3) rfl (hh _ _ _ hq [] .full trivial)
      · by_cases hlt : pos < s.length
        · obtain ⟨e2, he2⟩ : ∃ e, s[pos]? = some e := ⟨s[pos], List.getElem?_eq_getElem hlt⟩
          have he2' : s[(pos : Int).toNat]? = some e2 := he2
          have hv2 := hdF_at he2
          by_cases hq2 : ((e2.toNat : Nat) : Int) = 39
          · rw [if_pos (by omega)] at j6
            have hx : ((e2.toNat : Nat) : Int) = (e.toNat : Nat) := by omega
            repeat' ((conv => whnf); first
              | (with_reducible first | exact Wa | exact Wb | exact Wc | refine Wd (by kernel_rfl) ?_ | refine We ?_ ?_ ?_ | refine W8 (by decide +kernel) ?_ ?_ ?_ | refine W9 ?_ ?_ ?_ | refine Wt (by first | assumption | omega) ?_ | refine Wu (by first | assumption | omega) ?_ | refine Wv (by omega) ?_ | refine Ww (by omega) ?_ | refine Wf (by decide) (fun _ => ?_) (fun _ => ?_) | refine Wg (fun _ => ?_) (fun _ => ?_) | refine Wh (fun _ => ?_) (fun _ => ?_) | refine Wi ?_ | refine Wj ?_ | refine Wk (fun _ => ?_) (fun _ => ?_) | refine Wl (fun _ => ?_) | refine Wm (by assumption) (by omega) ?_ | refine Wn (by omega) (by omega) (fun _ _ _ => ?_) | refine Wo (by omega) (by omega) ?_ | refine Wp (by omega) (by omega) (by omega) ?_ | refine Wq (by omega) (by omega) ?_ | refine Wr (by decide) (by omega) (by omega) ?_ | refine Ws (by decide) ?_ | refine Wx (fun _ => ?_) ?_ | refine Wy (fun _ => ?_) ?_ | refine Wz (fun _ => ?_) | refine WA (fun _ => ?_) | refine WB (by assumption) (by omega) ?_ | refine WC (by omega) (by omega) (fun _ _ => ?_) | refine WD (by omega) (by omega) (fun _ _ => ?_) | refine WE (by omega) (by omega) (by omega) ?_ | refine WJ (fun _ => ?_) | refine WK (fun _ _ _ => ?_) | refine WL (by assumption) (by omega) ?_ | refine WM (by omega) (by omega) (fun _ _ => ?_) | refine WN (by omega) (by omega) ?_ | refine WO (by omega) (by omega) ?_ | refine WP (by omega) (by omega) (by omega) ?_)
              | with_reducible refine WF ?_)
            all_goals exact finr rfl (hh _ _ _ j6 l own j3)
          · rw [if_neg (by omega)] at j6
            have hx : ¬ ((e2.toNat : Nat) : Int) = (e.toNat : Nat) := by omega
            repeat' ((conv => whnf); first
              | (with_reducible first | exact Wa | exact Wb | exact Wc | refine Wd (by kernel_rfl) ?_ | refine We ?_ ?_ ?_ | refine W8 (by decide +kernel) ?_ ?_ ?_ | refine W9 ?_ ?_ ?_ | refine Wt (by first | assumption | omega) ?_ | refine Wu (by first | assumption | omega) ?_ | refine Wv (by omega) ?_ | refine Ww (by omega) ?_ | refine Wf (by decide) (fun _ => ?_) (fun _ => ?_) | refine Wg (fun _ => ?_) (fun _ => ?_) | refine Wh (fun _ => ?_) (fun _ => ?_) | refine Wi ?_ | refine Wj ?_ | refine Wk (fun _ => ?_) (fun _ => ?_) | refine Wl (fun _ => ?_) | refine Wm (by assumption) (by omega) ?_ | refine Wn (by omega) (by omega) (fun _ _ _ => ?_) | refine Wo (by omega) (by omega) ?_ | refine Wp (by omega) (by omega) (by omega) ?_ | refine Wq (by omega) (by omega) ?_ | refine Wr (by decide) (by omega) (by omega) ?_ | refine Ws (by decide) ?_ | refine Wx (fun _ => ?_) ?_ | refine Wy (fun _ => ?_) ?_ | refine Wz (fun _ => ?_) | refine WA (fun _ => ?_) | refine WB (by assumption) (by omega) ?_ | refine WC (by omega) (by omega) (fun _ _ => ?_) | refine WD (by omega) (by omega) (fun _ _ => ?_) | refine WE (by omega) (by omega) (by omega) ?_ | refine WJ (fun _ => ?_) | refine WK (fun _ _ _ => ?_) | refine WL (by assumption) (by omega) ?_ | refine WM (by omega) (by omega) (fun _ _ => ?_) | refine WN (by omega) (by omega) ?_ | refine WO (by omega) (by omega) ?_ | refine WP (by omega) (by omega) (by omega) ?_)
              | with_reducible refine WF ?_)
            all_goals exact finm (Own.good_le j3) rfl (hh _ _ _ j6 [] .full trivial)
        · rw [if_neg (by rw [hdF_none (by omega)]; decide)] at j6
          repeat' ((conv => whnf); first
            | (with_reducible first | exact Wa | exact Wb | exact Wc | refine Wd (by kernel_rfl) ?_ | refine We ?_ ?_ ?_ | refine W8 (by decide +kernel) ?_ ?_ ?_ | refine W9 ?_ ?_ ?_ | refine Wt (by first | assumption | omega) ?_ | refine Wu (by first | assumption | omega) ?_ | refine Wv (by omega) ?_ | refine Ww (by omega) ?_ | refine Wf (by decide) (fun _ => ?_) (fun _ => ?_) | refine Wg (fun _ => ?_) (fun _ => ?_) | refine Wh (fun _ => ?_) (fun _ => ?_) | refine Wi ?_ | refine Wj ?_ | refine Wk (fun _ => ?_) (fun _ => ?_) | refine Wl (fun _ => ?_) | refine Wm (by assumption) (by omega) ?_ | refine Wn (by omega) (by omega) (fun _ _ _ => ?_) | refine Wo (by omega) (by omega) ?_ | refine Wp (by omega) (by omega) (by omega) ?_ | refine Wq (by omega) (by omega) ?_ | refine Wr (by decide) (by omega) (by omega) ?_ | refine Ws (by decide) ?_ | refine Wx (fun _ => ?_) ?_ | refine Wy (fun _ => ?_) ?_ | refine Wz (fun _ => ?_) | refine WA (fun _ => ?_) | refine WB (by assumption) (by omega) ?_ | refine WC (by omega) (by omega) (fun _ _ => ?_) | refine WD (by omega) (by omega) (fun _ _ => ?_) | refine WE (by omega) (by omega) (by omega) ?_ | refine WJ (fun _ => ?_) | refine WK (fun _ _ _ => ?_) | refine WL (by assumption) (by omega) ?_ | refine WM (by omega) (by omega) (fun _ _ => ?_) | refine WN (by omega) (by omega) ?_ | refine WO (by omega) (by omega) ?_ | refine WP (by omega) (by omega) (by omega) ?_)
            | with_reducible refine WF ?_)
          all_goals exact finm (Own.good_le j3) rfl (hh _ _ _ j6 [] .full trivial)
    · have hq : quoF s i = (0, 0, 0) := by unfold quoF; rw [if_neg (by omega), if_neg (by omega)]
      repeat' ((conv => whnf); first
        | (with_reducible first | exact Wa | exact Wb | exact Wc | refine Wd (by kernel_rfl) ?_ | refine We ?_ ?_ ?_ | refine W8 (by decide +kernel) ?_ ?_ ?_ | refine W9 ?_ ?_ ?_ | refine Wt (by first | assumption | omega) ?_ | refine Wu (by first | assumption | omega) ?_ | refine Wv (by omega) ?_ | refine Ww (by omega) ?_ | refine Wf (by decide) (fun _ => ?_) (fun _ => ?_) | refine Wg (fun _ => ?_) (fun _ => ?_) | refine Wh (fun _ => ?_) (fun _ => ?_) | refine Wi ?_ | refine Wj ?_ | refine Wk (fun _ => ?_) (fun _ => ?_) | refine Wl (fun _ => ?_) | refine Wm (by assumption) (by omega) ?_ | refine Wn (by omega) (by omega) (fun _ _ _ => ?_) | refine Wo (by omega) (by omega) ?_ | refine Wp (by omega) (by omega) (by omega) ?_ | refine Wq (by omega) (by omega) ?_ | refine Wr (by decide) (by omega) (by omega) ?_ | refine Ws (by decide) ?_ | refine Wx (fun _ => ?_) ?_ | refine Wy (fun _ => ?_) ?_ | refine Wz (fun _ => ?_) | refine WA (fun _ => ?_) | refine WB (by assumption) (by omega) ?_ | refine WC (by omega) (by omega) (fun _ _ => ?_) | refine WD (by omega) (by omega) (fun _ _ => ?_) | refine WE (by omega) (by omega) (by omega) ?_ | refine WJ (fun _ => ?_) | refine WK (fun _ _ _ => ?_) | refine WL (by assumption) (by omega) ?_ | refine WM (by omega) (by omega) (fun _ _ => ?_) | refine WN (by omega) (by omega) ?_ | refine WO (by omega) (by omega) ?_ | refine WP (by omega) (by omega) (by omega) ?_)
        | with_reducible refine WF ?_)
      all_goals exact finr rfl (hh _ _ _ hq [] .full trivial)
theorem rqscan_c {s : List UInt8} {pos : Nat} (hl : s.length ≤ 100000000) (hp : pos < s.length) (h : R (.ret (.tup [.int .i64 (quoF s pos).1, .int .i64 (quoF s pos).2.1, .int .i64 (quoF s pos).2.2])) st) : PC 51 [.str s, .int .i64 pos] st R := by
  refine pcalls_of_body tys_ok [] Tryz.func51 rfl (by decide) ?_
  repeat' ((conv => whnf); first
    | (with_reducible first | exact Wa | exact Wb | exact Wc | refine Wd (by kernel_rfl) ?_ | refine We ?_ ?_ ?_ | refine W8 (by decide +kernel) ?_ ?_ ?_ | refine W9 ?_ ?_ ?_ | refine Wt (by first | assumption | omega) ?_ | refine Wu (by first | assumption | omega) ?_ | refine Wv (by omega) ?_ | refine Ww (by omega) ?_ | refine Wf (by decide) (fun _ => ?_) (fun _ => ?_) | refine Wg (fun _ => ?_) (fun _ => ?_) | refine Wh (fun _ => ?_) (fun _ => ?_) | refine Wi ?_ | refine Wj ?_ | refine Wk (fun _ => ?_) (fun _ => ?_) | refine Wl (fun _ => ?_) | refine Wm (by assumption) (by omega) ?_ | refine Wn (by omega) (by omega) (fun _ _ _ => ?_) | refine Wo (by omega) (by omega) ?_ | refine Wp (by omega) (by omega) (by omega) ?_ | refine Wq (by omega) (by omega) ?_ | refine Wr (by decide) (by omega) (by omega) ?_ | refine Ws (by decide) ?_ | refine Wx (fun _ => ?_) ?_ | refine Wy (fun _ => ?_) ?_ | refine Wz (fun _ => ?_) | refine WA (fun _ => ?_) | refine WB (by assumption) (by omega) ?_ | refine WC (by omega) (by omega) (fun _ _ => ?_) | refine WD (by omega) (by omega) (fun _ _ => ?_) | refine WE (by omega) (by omega) (by omega) ?_ | refine WJ (fun _ => ?_) | refine WK (fun _ _ _ => ?_) | refine WL (by assumption) (by omega) ?_ | refine WM (by omega) (by omega) (fun _ _ => ?_) | refine WN (by omega) (by omega) ?_ | refine WO (by omega) (by omega) ?_ | refine WP (by omega) (by omega) (by omega) ?_)
    | refine rread_c hl hp (fun o own ho => ?_)
    | with_reducible refine WF ?_)
  all_goals exact finl (Own.good_le ho) rfl h
end
end Go.Proofs.YtkcapphlemoccaaGreatDoor
set_option linter.unusedVariables false
namespace Go.Proofs.YtkcapphlemoccaaGreatDoor
open Go Go.Aw
theorem decR_39 {s : List UInt8} {pos c m : Nat} {e : UInt8} (hd : (c, m) = decR (s.drop pos)) (he : s[pos]? = some e) : e.toNat = 39 ↔ c = 39 := by
  rw [drop_at he] at hd
  by_cases h : e.toNat < 128
  · rw [decR_lo h] at hd
    injection hd with h1 h2
    rw [h1]
  · have h2 := decR_hi (r := s.drop (pos + 1)) h
    rw [← hd] at h2
    dsimp only at h2
    constructor <;> intro <;> omega
theorem firstF_dec {s : List UInt8} {pos c m : Nat} (hd : (c, m) = decR (s.drop pos)) (h : pos < s.length) : firstF (s.drop pos) = classF c := by
  rw [List.drop_eq_getElem_cons h] at hd ⊢
  show classF ((decR _).1 : Nat) = _
  rw [← hd]
theorem inName_iff {c : Int} : inName c = true ↔ (classF c = 2 ∨ classF c = 3 ∨ classF c = 4 ∨ c = 39) := by
  simp only [inName, Bool.or_eq_true, beq_iff_eq]; omega
theorem inName_not {c : Int} (h : ¬ (classF c = 2 ∨ classF c = 3 ∨ classF c = 4 ∨ c = 39)) : inName c = false := by
  rw [← Bool.not_eq_true, inName_iff]; exact h
section
variable {st : St} {R : Res → St → Prop}
theorem rname_c {s : List UInt8} {i : Nat} (hl : s.length ≤ 100000000) (h0 : i ≤ s.length) (h : R (.ret (.int .i64 (i + nameN (s.drop i) : Nat))) st) : PC 72 [.str s, .int .i64 i] st R := by
  refine pcalls_of_body tys_ok [] Tryz.func72 rfl (by decide) ?_
  repeat' ((conv => whnf); first
    | (with_reducible first | exact Wa | exact Wb | exact Wc | refine Wd (by kernel_rfl) ?_ | refine We ?_ ?_ ?_ | refine W8 (by decide +kernel) ?_ ?_ ?_ | refine W9 ?_ ?_ ?_ | refine Wt (by first | assumption | omega) ?_ | refine Wu (by first | assumption | omega) ?_ | refine Wv (by omega) ?_ | refine Ww (by omega) ?_ | refine Wf (by decide) (fun _ => ?_) (fun _ => ?_) | refine Wg (fun _ => ?_) (fun _ => ?_) | refine Wh (fun _ => ?_) (fun _ => ?_) | refine Wi ?_ | refine Wj ?_ | refine Wk (fun _ => ?_) (fun _ => ?_) | refine Wl (fun _ => ?_) | refine Wm (by assumption) (by omega) ?_ | refine Wn (by omega) (by omega) (fun _ _ _ => ?_) | refine Wo (by omega) (by omega) ?_ | refine Wp (by omega) (by omega) (by omega) ?_ | refine Wq (by omega) (by omega) ?_ | refine Wr (by decide) (by omega) (by omega) ?_ | refine Ws (by decide) ?_ | refine Wx (fun _ => ?_) ?_ | refine Wy (fun _ => ?_) ?_ | refine Wz (fun _ => ?_) | refine WA (fun _ => ?_) | refine WB (by assumption) (by omega) ?_ | refine WC (by omega) (by omega) (fun _ _ => ?_) | refine WD (by omega) (by omega) (fun _ _ => ?_) | refine WE (by omega) (by omega) (by omega) ?_ | refine WJ (fun _ => ?_) | refine WK (fun _ _ _ => ?_) | refine WL (by assumption) (by omega) ?_ | refine WM (by omega) (by omega) (fun _ _ => ?_) | refine WN (by omega) (by omega) ?_ | refine WO (by omega) (by omega) ?_ | refine WP (by omega) (by omega) (by omega) ?_)
    | with_reducible refine WF ?_)
  refine loop_g (α := Nat) (fun pos => [(1, .int .i64 (pos : Int))]) [0] [] (fun _ => st) (fun pos => pos ≤ s.length ∧ i + nameN (s.drop i) = pos + spanR inName (s.drop pos)) (fun pos => s.length - pos) i ⟨h0, rfl⟩ (by refine ⟨rfl, ?_, ?_, rfl⟩ <;> repeat' (first | exact trivial | exact rfl | refine And.intro ?_ ?_)) (St.le_refl _) ?_
  rintro pos ⟨hp, hi⟩
  rcases hd : decR (s.drop pos) with ⟨c, m⟩
  have hd := hd.symm
  have hr := rune_or hd
  repeat' ((conv => whnf); first
    | (with_reducible first | exact Wa | exact Wb | exact Wc | refine Wd (by kernel_rfl) ?_ | refine We ?_ ?_ ?_ | refine W8 (by decide +kernel) ?_ ?_ ?_ | refine W9 ?_ ?_ ?_ | refine Wt (by first | assumption | omega) ?_ | refine Wu (by first | assumption | omega) ?_ | refine Wv (by omega) ?_ | refine Ww (by omega) ?_ | refine Wf (by decide) (fun _ => ?_) (fun _ => ?_) | refine Wg (fun _ => ?_) (fun _ => ?_) | refine Wh (fun _ => ?_) (fun _ => ?_) | refine Wi ?_ | refine Wj ?_ | refine Wk (fun _ => ?_) (fun _ => ?_) | refine Wl (fun _ => ?_) | refine Wm (by assumption) (by omega) ?_ | refine Wn (by omega) (by omega) (fun _ _ _ => ?_) | refine Wo (by omega) (by omega) ?_ | refine Wp (by omega) (by omega) (by omega) ?_ | refine Wq (by omega) (by omega) ?_ | refine Wr (by decide) (by omega) (by omega) ?_ | refine Ws (by decide) ?_ | refine Wx (fun _ => ?_) ?_ | refine Wy (fun _ => ?_) ?_ | refine Wz (fun _ => ?_) | refine WA (fun _ => ?_) | refine WB (by assumption) (by omega) ?_ | refine WC (by omega) (by omega) (fun _ _ => ?_) | refine WD (by omega) (by omega) (fun _ _ => ?_) | refine WE (by omega) (by omega) (by omega) ?_ | refine WJ (fun _ => ?_) | refine WK (fun _ _ _ => ?_) | refine WL (by assumption) (by omega) ?_ | refine WM (by omega) (by omega) (fun _ _ => ?_) | refine WN (by omega) (by omega) ?_ | refine WO (by omega) (by omega) ?_ | refine WP (by omega) (by omega) (by omega) ?_)
    | refine rcl_k hd (by omega) (by omega) ?_
    | with_reducible refine WF ?_)
  all_goals try have e39 := decR_39 hd (show s[pos]? = some _ by assumption)
  all_goals first
    | (have hin : inName (c : Int) = true := inName_iff.2 (by omega)
       conv => whnf
       exact ⟨pos + m, ⟨by omega, span_go (p := fun d => inName (d.1 : Nat)) (by omega) hd hin hi⟩, by omega, (by refine ⟨rfl, ?_, ?_, rfl⟩ <;> repeat' (first | exact trivial | exact rfl | refine And.intro ?_ ?_)), St.le_refl _⟩)
    | (have := span_end (p := fun d => inName (d.1 : Nat)) (by omega) hi
       exact fin h (int_ret (by unfold nameN spanR at *; omega)))
    | (have hin : inName (c : Int) = false := inName_not (by omega)
       have := span_no (p := fun d => inName (d.1 : Nat)) hd hin hi
       exact fin h (int_ret (by unfold nameN spanR at *; omega)))
theorem rcl_c {s : List UInt8} {pos : Nat} (hl : s.length ≤ 100000000) (hp : pos ≤ 1000000000) (h : ∀ m : Int, R (.ret (.tup [.int .i64 (firstF (s.drop pos)), .int .i64 m])) st) : PC 70 [.str s, .int .i64 pos] st R := by
  by_cases h1 : pos < s.length
  · rcases hd : decR (s.drop pos) with ⟨c, m⟩
    have hd := hd.symm
    refine rcl_k hd h1 (by omega) ?_
    rw [← firstF_dec hd h1]
    exact h _
  · refine rcl_out (by omega) (by omega) (by omega) ?_
    have := h 0
    rw [List.drop_eq_nil_iff.2 (by omega)] at this
    exact this
end
end Go.Proofs.YtkcapphlemoccaaGreatDoor
set_option linter.unusedVariables false
namespace Go.Proofs.YtkcapphlemoccaaGreatDoor
open Go Go.Aw
theorem plain_3 {l : List UInt8} (h : firstF l = 3) : plainF l = (2, nameN l) := by unfold plainF; rw [if_neg (by omega), if_neg (by omega), if_pos h]
theorem plain_2 {l : List UInt8} (h : firstF l = 2) : plainF l = (if resF (l.take (nameN l)) then 9 else 1, nameN l) := by unfold plainF; rw [if_neg (by omega), if_neg (by omega), if_neg (by omega), if_pos h]
theorem plain_5 {l : List UInt8} (h : firstF l = 5) : plainF l = (symF (l.take (spanR (fun c => classF c == 5) l)), spanR (fun c => classF c == 5) l) := by unfold plainF; rw [if_neg (by omega), if_pos h]
theorem plain_6 {l : List UInt8} (h : firstF l = 6) : plainF l = (15, 1) := by unfold plainF; rw [if_pos h]
theorem plain_0 {l : List UInt8} (h : firstF l ≠ 6) (h1 : firstF l ≠ 5) (h2 : firstF l ≠ 3) (h3 : firstF l ≠ 2) : plainF l = (0, 0) := by unfold plainF; rw [if_neg h, if_neg h1, if_neg h2, if_neg h3]
theorem symF_or (w : List UInt8) : symF w = 10 ∨ symF w = 6 ∨ symF w = 5 := by
  unfold symF
  split
  · exact .inl rfl
  · split
    · exact .inr (.inl rfl)
    · exact .inr (.inr rfl)
theorem span_ne {s : List UInt8} {pos : Nat} (h : firstF (s.drop pos) = 5) : pos < s.length ∧ 1 ≤ spanR (fun c => classF c == 5) (s.drop pos) := by
  have hp : pos < s.length := by
    by_cases hp : pos < s.length
    · exact hp
    · rw [List.drop_eq_nil_iff.2 (by omega)] at h; exact absurd h (by decide)
  rcases hd : decR (s.drop pos) with ⟨c, m⟩
  have hr := rune_le hp hd.symm
  rw [firstF_dec hd.symm hp] at h
  refine ⟨hp, ?_⟩
  rw [spanR_yes (drop_ne hp) (by rw [hd]; exact beq_iff_eq.2 h), hd]
  omega
section
variable {st : St} {R : Res → St → Prop}
theorem rname_e {s : List UInt8} {i : Int} {n : Nat} (e : i = n) (hl : s.length ≤ 100000000) (h0 : n ≤ s.length) (h : R (.ret (.int .i64 (n + nameN (s.drop n) : Nat))) st) : PC 72 [.str s, .int .i64 i] st R := by
  subst e; exact rname_c hl h0 h
theorem rcl_e {s : List UInt8} {i : Int} {n : Nat} (e : i = n) (hl : s.length ≤ 100000000) (h0 : n ≤ 1000000000) (h : ∀ m : Int, R (.ret (.tup [.int .i64 (firstF (s.drop n)), .int .i64 m])) st) : PC 70 [.str s, .int .i64 i] st R := by
  subst e; exact rcl_c hl h0 h
theorem rrun_e {s : List UInt8} {i k : Int} {n : Nat} (e : i = n) (hl : s.length ≤ 100000000) (h0 : n ≤ s.length) (h : R (.ret (.int .i64 (n + spanR (fun c => classF c == k) (s.drop n) : Nat))) st) : PC 49 [.str s, .int .i64 i, .int .i64 k] st R := by
  subst e; exact rrun_k hl h0 h
theorem operator_e {s w : List UInt8} {a b : Int} {n m : Nat} (e1 : a = n) (e2 : b = (n + m : Nat)) (hw : (s.drop n).take m = w) (h0 : 0 < m) (hm : n < s.length) (h : R (.ret (.int .i64 (symF w))) st) : PC 71 [.str ((s.take b.toNat).drop a.toNat)] st R := by
  subst e1; subst e2
  have e : (s.take ((n + m : Nat) : Int).toNat).drop (n : Int).toNat = w := by
    rw [show ((n + m : Nat) : Int).toNat = n + m by omega, show (n : Int).toNat = n by omega, List.drop_take, Nat.add_sub_cancel_left]; exact hw
  rw [e]
  refine operator_c ?_ h
  rw [← hw]
  intro e
  have := congrArg List.length e
  rw [List.length_take, List.length_drop, List.length_nil] at this
  omega
theorem among_e {s w : List UInt8} {l : List (List UInt8)} {own : Own} {a b : Int} {n m : Nat} (e1 : a = n) (e2 : b = (n + m : Nat)) (hw : (s.drop n).take m = w) (h : R (.ret (.bool (l.contains w))) st) : PC 73 [.slice 1 (strs l) own, .str ((s.take b.toNat).drop a.toNat)] st R := by
  subst e1; subst e2
  have e : (s.take ((n + m : Nat) : Int).toNat).drop (n : Int).toNat = w := by
    rw [show ((n + m : Nat) : Int).toNat = n + m by omega, show (n : Int).toNat = n by omega, List.drop_take, Nat.add_sub_cancel_left]; exact hw
  rw [e]
  exact among_c h
theorem word_ret {s : List UInt8} {i n : Nat} {k j : Int} (e : wordF (s.drop i) = (k, n)) (hk : k ≠ 0) (hj : j = (i + n : Nat)) : Res.ret (.tup [.int .i64 (wordF (s.drop i)).1, .int .i64 (i + (wordF (s.drop i)).2 : Nat)]) = Res.ret (.tup [.int .i64 k, .int .i64 j]) := by rw [e, hj]
set_option maxHeartbeats 4000000 in
theorem great_c {s : List UInt8} {i : Nat} (hl : s.length ≤ 100000000) (hi : i < s.length) (hf : firstF (s.drop i) = 3) (h : R (.ret (.tup [.int .i64 (wordF (s.drop i)).1, .int .i64 (i + (wordF (s.drop i)).2 : Nat)])) st) : PC 75 [.str s, .int .i64 i] st R := by
  have hw : wordF (s.drop i) = scanG (s.drop i) (nameN (s.drop i)) 2 := by unfold wordF; rw [plain_3 hf]
  have hn : nameN (s.drop i) ≤ (s.drop i).length := spanR_le _ _
  rw [List.length_drop] at hn
  refine pcalls_of_body tys_ok [] Tryz.func75 rfl (by decide) ?_
  repeat' ((conv => whnf); first
    | (with_reducible first | exact Wa | exact Wb | exact Wc | refine Wd (by kernel_rfl) ?_ | refine We ?_ ?_ ?_ | refine W8 (by decide +kernel) ?_ ?_ ?_ | refine W9 ?_ ?_ ?_ | refine Wt (by first | assumption | omega) ?_ | refine Wu (by first | assumption | omega) ?_ | refine Wv (by omega) ?_ | refine Ww (by omega) ?_ | refine Wf (by decide) (fun _ => ?_) (fun _ => ?_) | refine Wg (fun _ => ?_) (fun _ => ?_) | refine Wh (fun _ => ?_) (fun _ => ?_) | refine Wi ?_ | refine Wj ?_ | refine Wk (fun _ => ?_) (fun _ => ?_) | refine Wl (fun _ => ?_) | refine Wm (by assumption) (by omega) ?_ | refine Wn (by omega) (by omega) (fun _ _ _ => ?_) | refine Wo (by omega) (by omega) ?_ | refine Wp (by omega) (by omega) (by omega) ?_ | refine Wq (by omega) (by omega) ?_ | refine Wr (by decide) (by omega) (by omega) ?_ | refine Ws (by decide) ?_ | refine Wx (fun _ => ?_) ?_ | refine Wy (fun _ => ?_) ?_ | refine Wz (fun _ => ?_) | refine WA (fun _ => ?_) | refine WB (by assumption) (by omega) ?_ | refine WC (by omega) (by omega) (fun _ _ => ?_) | refine WD (by omega) (by omega) (fun _ _ => ?_) | refine WE (by omega) (by omega) (by omega) ?_ | refine WJ (fun _ => ?_) | refine WK (fun _ _ _ => ?_) | refine WL (by assumption) (by omega) ?_ | refine WM (by omega) (by omega) (fun _ _ => ?_) | refine WN (by omega) (by omega) ?_ | refine WO (by omega) (by omega) ?_ | refine WP (by omega) (by omega) (by omega) ?_)
    | refine rname_c hl (by omega) ?_
    | with_reducible refine WF ?_)
  refine loop_2 (α := Nat) (β := Int) (fun p k => [(7, .int .i64 (p : Int)), (6, .int .i64 k)]) (fun _ _ => []) [0] [] (fun _ _ => st)
    (fun p k => i ≤ p ∧ p ≤ s.length ∧ (k = 2 ∨ k = 4) ∧ wordF (s.drop i) = scanG (s.drop i) (p - i) k) (fun p _ => s.length - p) (i + nameN (s.drop i)) 2 ⟨by omega, by omega, .inl rfl, by rw [Nat.add_sub_cancel_left]; exact hw⟩ (by refine ⟨rfl, ?_, ?_, rfl⟩ <;> repeat' (first | exact trivial | exact rfl | refine And.intro ?_ ?_)) (St.le_refl _) ?_
  rintro p k ⟨h0, h1, h2, h3⟩
  obtain ⟨n, rfl⟩ : ∃ n, p = i + n := ⟨p - i, by omega⟩
  rw [Nat.add_sub_cancel_left] at h3
  have hdd : ∀ m, (s.drop i).drop m = s.drop (i + m) := fun m => List.drop_drop
  have hlen : (s.drop i).length = s.length - i := List.length_drop
  have hno : ¬ (n < (s.drop i).length ∧ (k = 2 ∨ k = 4) ∧ hdF ((s.drop i).drop n) = 46 ∧ qualF (plainF ((s.drop i).drop (n + 1))).1 ≠ 0) → wordF (s.drop i) = (k, n) := fun e => h3.trans (scanG_no e)
  have hgo : n < (s.drop i).length → hdF ((s.drop i).drop n) = 46 → qualF (plainF ((s.drop i).drop (n + 1))).1 ≠ 0 → wordF (s.drop i) = scanG (s.drop i) (n + 1 + (plainF ((s.drop i).drop (n + 1))).2) (qualF (plainF ((s.drop i).drop (n + 1))).1) := fun e1 e2 e3 => h3.trans (scanG_go e1 ⟨h2, e2, e3⟩)
  rw [hdd, hdd, ← Nat.add_assoc, hlen] at hno hgo
  have hn1 : nameN (s.drop (i + n + 1)) ≤ (s.drop (i + n + 1)).length := spanR_le _ _
  have hs1 := spanR_le (fun c => classF c == 5) (s.drop (i + n + 1))
  rw [List.length_drop] at hn1 hs1
  have hso := symF_or ((s.drop (i + n + 1)).take (spanR (fun c => classF c == 5) (s.drop (i + n + 1))))
  have hs5 := fun h => span_ne (s := s) (pos := i + n + 1) h
  repeat' ((conv => whnf); first
    | (with_reducible first | exact Wa | exact Wb | exact Wc | refine Wd (by kernel_rfl) ?_ | refine We ?_ ?_ ?_ | refine W8 (by decide +kernel) ?_ ?_ ?_ | refine W9 ?_ ?_ ?_ | refine Wt (by first | assumption | omega) ?_ | refine Wu (by first | assumption | omega) ?_ | refine Wv (by omega) ?_ | refine Ww (by omega) ?_ | refine Wf (by decide) (fun _ => ?_) (fun _ => ?_) | refine Wg (fun _ => ?_) (fun _ => ?_) | refine Wh (fun _ => ?_) (fun _ => ?_) | refine Wi ?_ | refine Wj ?_ | refine Wk (fun _ => ?_) (fun _ => ?_) | refine Wl (fun _ => ?_) | refine Wm (by assumption) (by omega) ?_ | refine Wn (by omega) (by omega) (fun _ _ _ => ?_) | refine Wo (by omega) (by omega) ?_ | refine Wp (by omega) (by omega) (by omega) ?_ | refine Wq (by omega) (by omega) ?_ | refine Wr (by decide) (by omega) (by omega) ?_ | refine Ws (by decide) ?_ | refine Wx (fun _ => ?_) ?_ | refine Wy (fun _ => ?_) ?_ | refine Wz (fun _ => ?_) | refine WA (fun _ => ?_) | refine WB (by assumption) (by omega) ?_ | refine WC (by omega) (by omega) (fun _ _ => ?_) | refine WD (by omega) (by omega) (fun _ _ => ?_) | refine WE (by omega) (by omega) (by omega) ?_ | refine WJ (fun _ => ?_) | refine WK (fun _ _ _ => ?_) | refine WL (by assumption) (by omega) ?_ | refine WM (by omega) (by omega) (fun _ _ => ?_) | refine WN (by omega) (by omega) ?_ | refine WO (by omega) (by omega) ?_ | refine WP (by omega) (by omega) (by omega) ?_)
    | refine rcl_e (n := i + n + 1) (by omega) hl (by omega) (fun _ => ?_)
    | refine rname_e (n := i + n + 1) (by omega) hl (by omega) ?_
    | refine words_c ?_
    | refine among_e (n := i + n + 1) (m := nameN (s.drop (i + n + 1))) (by omega) (by omega) rfl ?_
    | refine rrun_e (n := i + n + 1) (by omega) hl (by omega) ?_
    | refine operator_e (n := i + n + 1) (m := spanR (fun c => classF c == 5) (s.drop (i + n + 1))) (by omega) (by omega) rfl (by omega) (by omega) ?_
    | with_reducible refine WF ?_)
  all_goals try have f0 := hdF_at (show s[i + n]? = some _ by assumption)
  · have e := plain_3 (l := s.drop (i + n + 1)) (by assumption)
    rw [e] at hgo
    have e2 := hgo (by omega) (by omega) (show qualF 2 ≠ 0 by decide)
    conv => whnf
    exact ⟨(i + n + 1 + nameN (s.drop (i + n + 1)), 4), ⟨by dsimp only; omega, by dsimp only; omega, .inr rfl, by dsimp only; rw [e2, show i + n + 1 + nameN (s.drop (i + n + 1)) - i = n + 1 + nameN (s.drop (i + n + 1)) by omega]; rfl⟩, by dsimp only; omega, (by refine ⟨rfl, ?_, ?_, rfl⟩ <;> repeat' (first | exact trivial | exact rfl | refine And.intro ?_ ?_)), St.le_refl _⟩
  · have e := plain_2 (l := s.drop (i + n + 1)) (by assumption)
    rw [if_pos (show resF _ = true by assumption)] at e
    have e2 := hno (fun x => x.2.2.2 (by rw [e]; show qualF 9 = 0; decide))
    exact fin h (by rw [e2])
  · have e := plain_2 (l := s.drop (i + n + 1)) (by assumption)
    have hb : ¬ resF ((s.drop (i + n + 1)).take (nameN (s.drop (i + n + 1)))) = true := by rw [Bool.not_eq_true]; assumption
    rw [if_neg hb] at e
    rw [e] at hgo
    have e2 := hgo (by omega) (by omega) (show qualF 1 ≠ 0 by decide)
    rw [scanG_no (by rintro ⟨_, x, _⟩; exact absurd x (show ¬ (qualF 1 = 2 ∨ qualF 1 = 4) by decide))] at e2
    exact fin h (word_ret e2 (by decide) (by omega))
  · have e := plain_5 (l := s.drop (i + n + 1)) (by assumption)
    rw [show symF _ = 5 by assumption] at e
    rw [e] at hgo
    have e2 := hgo (by omega) (by omega) (show qualF 5 ≠ 0 by decide)
    rw [scanG_no (by rintro ⟨_, x, _⟩; exact absurd x (show ¬ (qualF 5 = 2 ∨ qualF 5 = 4) by decide))] at e2
    exact fin h (word_ret e2 (by decide) (by omega))
  · have e := plain_5 (l := s.drop (i + n + 1)) (by assumption)
    rw [show symF _ = 6 by assumption] at e
    rw [e] at hgo
    have e2 := hgo (by omega) (by omega) (show qualF 6 ≠ 0 by decide)
    rw [scanG_no (by rintro ⟨_, x, _⟩; exact absurd x (show ¬ (qualF 6 = 2 ∨ qualF 6 = 4) by decide))] at e2
    exact fin h (word_ret e2 (by decide) (by omega))
  · have e := plain_5 (l := s.drop (i + n + 1)) (by assumption)
    have hs : symF ((s.drop (i + n + 1)).take (spanR (fun c => classF c == 5) (s.drop (i + n + 1)))) = 10 := by omega
    rw [hs] at e
    have e2 := hno (fun x => x.2.2.2 (by rw [e]; show qualF 10 = 0; decide))
    exact fin h (by rw [e2])
  · have e2 := hno (fun x => x.2.2.2 (by
      by_cases h6 : firstF (s.drop (i + n + 1)) = 6
      · rw [plain_6 h6]; show qualF 15 = 0; decide
      · rw [plain_0 h6 (by assumption) (by assumption) (by assumption)]; show qualF 0 = 0; decide))
    exact fin h (by rw [e2])
  · have e2 := hno (fun x => by omega)
    exact fin h (by rw [e2])
  · have e2 := hno (fun x => x.2.2.2 (by rw [List.drop_eq_nil_iff.2 (by omega)]; show qualF (plainF []).1 = 0; decide))
    exact fin h (by rw [e2])
theorem wscan_ret {s : List UInt8} {i n : Nat} {k j : Int} (e : wordF (s.drop i) = (k, n)) (hk : k ≠ 0) (hj : j = (i + n : Nat)) : Res.ret (.tup [.int .i64 (wscanF s i).1, .int .i64 (wscanF s i).2]) = Res.ret (.tup [.int .i64 k, .int .i64 j]) := by
  unfold wscanF; rw [e, if_neg hk, hj]
theorem scanG_ne {s : List UInt8} {n : Nat} {k : Int} (h : k ≠ 0) : (scanG s n k).1 ≠ 0 := by
  fun_induction scanG s n k with
  | case1 n k hn hc ih => exact ih hc.2.2
  | case2 n k hn hc => exact h
  | case3 n k hn => exact h
theorem rwscan_c {s : List UInt8} {pos : Nat} (hl : s.length ≤ 100000000) (hp : pos < s.length) (h : R (.ret (.tup [.int .i64 (wscanF s pos).1, .int .i64 (wscanF s pos).2])) st) : PC 52 [.str s, .int .i64 pos] st R := by
  have hn : nameN (s.drop pos) ≤ (s.drop pos).length := spanR_le _ _
  have hs1 := spanR_le (fun c => classF c == 5) (s.drop pos)
  rw [List.length_drop] at hn hs1
  have hs5 := fun h => span_ne (s := s) (pos := pos) h
  have hso := symF_or ((s.drop pos).take (spanR (fun c => classF c == 5) (s.drop pos)))
  have hw : wordF (s.drop pos) = scanG (s.drop pos) (plainF (s.drop pos)).2 (plainF (s.drop pos)).1 := rfl
  have hno : ¬ ((plainF (s.drop pos)).1 = 2 ∨ (plainF (s.drop pos)).1 = 4) → wordF (s.drop pos) = ((plainF (s.drop pos)).1, (plainF (s.drop pos)).2) := fun e => by rw [hw, scanG_no (fun x => e x.2.1)]
  refine pcalls_of_body tys_ok [] Tryz.func52 rfl (by decide) ?_
  by_cases hf : firstF (s.drop pos) = 3
  · skip
    have hk : (wordF (s.drop pos)).1 ≠ 0 := by rw [hw, plain_3 hf]; exact scanG_ne (show (2 : Int) ≠ 0 by decide)
    repeat' ((conv => whnf); first
      | (with_reducible first | exact Wa | exact Wb | exact Wc | refine Wd (by kernel_rfl) ?_ | refine We ?_ ?_ ?_ | refine W8 (by decide +kernel) ?_ ?_ ?_ | refine W9 ?_ ?_ ?_ | refine Wt (by first | assumption | omega) ?_ | refine Wu (by first | assumption | omega) ?_ | refine Wv (by omega) ?_ | refine Ww (by omega) ?_ | refine Wf (by decide) (fun _ => ?_) (fun _ => ?_) | refine Wg (fun _ => ?_) (fun _ => ?_) | refine Wh (fun _ => ?_) (fun _ => ?_) | refine Wi ?_ | refine Wj ?_ | refine Wk (fun _ => ?_) (fun _ => ?_) | refine Wl (fun _ => ?_) | refine Wm (by assumption) (by omega) ?_ | refine Wn (by omega) (by omega) (fun _ _ _ => ?_) | refine Wo (by omega) (by omega) ?_ | refine Wp (by omega) (by omega) (by omega) ?_ | refine Wq (by omega) (by omega) ?_ | refine Wr (by decide) (by omega) (by omega) ?_ | refine Ws (by decide) ?_ | refine Wx (fun _ => ?_) ?_ | refine Wy (fun _ => ?_) ?_ | refine Wz (fun _ => ?_) | refine WA (fun _ => ?_) | refine WB (by assumption) (by omega) ?_ | refine WC (by omega) (by omega) (fun _ _ => ?_) | refine WD (by omega) (by omega) (fun _ _ => ?_) | refine WE (by omega) (by omega) (by omega) ?_ | refine WJ (fun _ => ?_) | refine WK (fun _ _ _ => ?_) | refine WL (by assumption) (by omega) ?_ | refine WM (by omega) (by omega) (fun _ _ => ?_) | refine WN (by omega) (by omega) ?_ | refine WO (by omega) (by omega) ?_ | refine WP (by omega) (by omega) (by omega) ?_)
      | refine rcl_c hl (by omega) (fun _ => ?_)
      | refine great_c hl hp hf ?_
      | with_reducible refine WF ?_)
    exact fin h (by unfold wscanF; rw [if_neg hk])
  · skip
    repeat' ((conv => whnf); first
      | (with_reducible first | exact Wa | exact Wb | exact Wc | refine Wd (by kernel_rfl) ?_ | refine We ?_ ?_ ?_ | refine W8 (by decide +kernel) ?_ ?_ ?_ | refine W9 ?_ ?_ ?_ | refine Wt (by first | assumption | omega) ?_ | refine Wu (by first | assumption | omega) ?_ | refine Wv (by omega) ?_ | refine Ww (by omega) ?_ | refine Wf (by decide) (fun _ => ?_) (fun _ => ?_) | refine Wg (fun _ => ?_) (fun _ => ?_) | refine Wh (fun _ => ?_) (fun _ => ?_) | refine Wi ?_ | refine Wj ?_ | refine Wk (fun _ => ?_) (fun _ => ?_) | refine Wl (fun _ => ?_) | refine Wm (by assumption) (by omega) ?_ | refine Wn (by omega) (by omega) (fun _ _ _ => ?_) | refine Wo (by omega) (by omega) ?_ | refine Wp (by omega) (by omega) (by omega) ?_ | refine Wq (by omega) (by omega) ?_ | refine Wr (by decide) (by omega) (by omega) ?_ | refine Ws (by decide) ?_ | refine Wx (fun _ => ?_) ?_ | refine Wy (fun _ => ?_) ?_ | refine Wz (fun _ => ?_) | refine WA (fun _ => ?_) | refine WB (by assumption) (by omega) ?_ | refine WC (by omega) (by omega) (fun _ _ => ?_) | refine WD (by omega) (by omega) (fun _ _ => ?_) | refine WE (by omega) (by omega) (by omega) ?_ | refine WJ (fun _ => ?_) | refine WK (fun _ _ _ => ?_) | refine WL (by assumption) (by omega) ?_ | refine WM (by omega) (by omega) (fun _ _ => ?_) | refine WN (by omega) (by omega) ?_ | refine WO (by omega) (by omega) ?_ | refine WP (by omega) (by omega) (by omega) ?_)
      | refine rcl_c hl (by omega) (fun _ => ?_)
      | refine rname_c hl (by omega) ?_
      | refine words_c ?_
      | refine among_e (n := pos) (m := nameN (s.drop pos)) (by omega) (by omega) rfl ?_
      | refine rrun_k hl (by omega) ?_
      | refine operator_e (n := pos) (m := spanR (fun c => classF c == 5) (s.drop pos)) (by omega) (by omega) rfl (by omega) (by omega) ?_
      | with_reducible refine WF ?_)
    · have e := plain_6 (l := s.drop pos) (by assumption)
      rw [e] at hno
      exact fin h (wscan_ret (hno (show ¬ ((15 : Int) = 2 ∨ (15 : Int) = 4) by decide)) (by decide) (by omega))
    · have e := plain_5 (l := s.drop pos) (by assumption)
      rw [e] at hno
      have e2 := hno (by dsimp only; omega)
      exact fin h (wscan_ret e2 (by omega) (by omega))
    · have e := plain_2 (l := s.drop pos) (by assumption)
      rw [if_pos (show resF _ = true by assumption)] at e
      rw [e] at hno
      exact fin h (wscan_ret (hno (show ¬ ((9 : Int) = 2 ∨ (9 : Int) = 4) by decide)) (by decide) (by omega))
    · have e := plain_2 (l := s.drop pos) (by assumption)
      have hb : ¬ resF ((s.drop pos).take (nameN (s.drop pos))) = true := by rw [Bool.not_eq_true]; assumption
      rw [if_neg hb] at e
      rw [e] at hno
      exact fin h (wscan_ret (hno (show ¬ ((1 : Int) = 2 ∨ (1 : Int) = 4) by decide)) (by decide) (by omega))
    · have e := plain_0 (l := s.drop pos) (by assumption) (by assumption) hf (by assumption)
      rw [e] at hno
      have e2 := hno (show ¬ ((0 : Int) = 2 ∨ (0 : Int) = 4) by decide)
      exact fin h (by unfold wscanF; rw [e2]; rfl)
end
end Go.Proofs.YtkcapphlemoccaaGreatDoor
set_option linter.unusedVariables false
namespace Go.Aw
open Go
theorem baseF_8 {l : List UInt8} (h : hdF (l.drop 1) = 111 ∨ hdF (l.drop 1) = 79) : baseF l = 8 := if_pos h
theorem baseF_16 {l : List UInt8} (h : hdF (l.drop 1) = 120 ∨ hdF (l.drop 1) = 88) : baseF l = 16 := by unfold baseF; rw [if_neg (by omega), if_pos h]
theorem baseF_10 {l : List UInt8} (h : hdF (l.drop 1) ≠ 111 ∧ hdF (l.drop 1) ≠ 79 ∧ hdF (l.drop 1) ≠ 120 ∧ hdF (l.drop 1) ≠ 88) : baseF l = 10 := by unfold baseF; rw [if_neg (by omega), if_neg (by omega)]
theorem baseF_or (l : List UInt8) : baseF l = 8 ∨ baseF l = 16 ∨ baseF l = 10 := by
  unfold baseF
  split
  · exact .inl rfl
  · split
    · exact .inr (.inl rfl)
    · exact .inr (.inr rfl)
theorem prefF_yes {l : List UInt8} {b : Int} (h : hdF l = 48) (hb : baseF l = b) (hn : b ≠ 10) (hr : rowN b (l.drop 2) ≠ 0) : prefF l = (b, 2) := by
  subst hb
  exact if_pos ⟨h, hn, hr⟩
theorem prefF_no {l : List UInt8} (h : hdF l ≠ 48 ∨ baseF l = 10 ∨ rowN (baseF l) (l.drop 2) = 0) : prefF l = (10, 0) := if_neg (by omega)
theorem prefF_or (l : List UInt8) : prefF l = (10, 0) ∨ (prefF l = (8, 2) ∧ baseF l = 8) ∨ (prefF l = (16, 2) ∧ baseF l = 16) := by
  by_cases h : hdF l = 48 ∧ baseF l ≠ 10 ∧ rowN (baseF l) (l.drop 2) ≠ 0
  · rcases baseF_or l with hb | hb | hb
    · exact .inr (.inl ⟨prefF_yes h.1 hb (by decide) (hb ▸ h.2.2), hb⟩)
    · exact .inr (.inr ⟨prefF_yes h.1 hb (by decide) (hb ▸ h.2.2), hb⟩)
    · exact absurd hb h.2.1
  · exact .inl (if_neg h)
theorem signN_1 {l : List UInt8} (h : hdF l = 43 ∨ hdF l = 45) : signN l = 1 := if_pos h
theorem signN_0 {l : List UInt8} (h : ¬ (hdF l = 43 ∨ hdF l = 45)) : signN l = 0 := if_neg h
theorem expN_no {l : List UInt8} (h : ¬ (hdF l = 101 ∨ hdF l = 69)) : expN l = 0 := if_neg fun e => h e.1
theorem expN_0 {l : List UInt8} {j : Nat} (h : hdF l = 101 ∨ hdF l = 69) (hk : 1 + signN (l.drop 1) = j) (h0 : rowN 10 (l.drop j) = 0) : expN l = 0 := by
  subst hk
  exact if_neg fun e => e.2 h0
theorem expN_1 {l : List UInt8} {j : Nat} (h : hdF l = 101 ∨ hdF l = 69) (hk : 1 + signN (l.drop 1) = j) (h0 : rowN 10 (l.drop j) ≠ 0) : expN l = j + rowN 10 (l.drop j) := by
  subst hk
  exact if_pos ⟨h, h0⟩
end Go.Aw
namespace Go.Proofs.YtkcapphlemoccaaGreatDoor
open Go Go.Aw
section
variable {st : St} {R : Res → St → Prop}
theorem row_k {s : List UInt8} {n : Nat} {b : Int} (hl : s.length ≤ 100000000) (h : R (.ret (.int .i64 (rowN b (s.drop n) : Nat))) st) : PC 102 [.str (s.drop (n : Int).toNat), .int .i64 b] st R :=
  row_c (by rw [List.length_drop]; omega) h
theorem prefixed_c {s : List UInt8} (hl : s.length ≤ 100000000) (h : R (.ret (.tup [.int .i64 (prefF s).1, .int .i64 (prefF s).2])) st) : PC 101 [.str s] st R := by
  refine pcalls_of_body tys_ok [] Tryz.func101 rfl (by decide) ?_
  repeat' ((conv => whnf); first
    | (with_reducible first | exact Wa | exact Wb | exact Wc | refine Wd (by kernel_rfl) ?_ | refine We ?_ ?_ ?_ | refine W8 (by decide +kernel) ?_ ?_ ?_ | refine W9 ?_ ?_ ?_ | refine Wt (by first | assumption | omega) ?_ | refine Wu (by first | assumption | omega) ?_ | refine Wv (by omega) ?_ | refine Ww (by omega) ?_ | refine Wf (by decide) (fun _ => ?_) (fun _ => ?_) | refine Wg (fun _ => ?_) (fun _ => ?_) | refine Wh (fun _ => ?_) (fun _ => ?_) | refine Wi ?_ | refine Wj ?_ | refine Wk (fun _ => ?_) (fun _ => ?_) | refine Wl (fun _ => ?_) | refine Wm (by assumption) (by omega) ?_ | refine Wn (by omega) (by omega) (fun _ _ _ => ?_) | refine Wo (by omega) (by omega) ?_ | refine Wp (by omega) (by omega) (by omega) ?_ | refine Wq (by omega) (by omega) ?_ | refine Wr (by decide) (by omega) (by omega) ?_ | refine Ws (by decide) ?_ | refine Wx (fun _ => ?_) ?_ | refine Wy (fun _ => ?_) ?_ | refine Wz (fun _ => ?_) | refine WA (fun _ => ?_) | refine WB (by assumption) (by omega) ?_ | refine WC (by omega) (by omega) (fun _ _ => ?_) | refine WD (by omega) (by omega) (fun _ _ => ?_) | refine WE (by omega) (by omega) (by omega) ?_ | refine WJ (fun _ => ?_) | refine WK (fun _ _ _ => ?_) | refine WL (by assumption) (by omega) ?_ | refine WM (by omega) (by omega) (fun _ _ => ?_) | refine WN (by omega) (by omega) ?_ | refine WO (by omega) (by omega) ?_ | refine WP (by omega) (by omega) (by omega) ?_)
    | refine row_k (n := 2) hl ?_
    | with_reducible refine WF ?_)
  all_goals try have h0 := hdF_at (show s[0]? = some _ by assumption)
  all_goals try rw [List.drop_zero] at h0
  all_goals try have h1 := hdF_at (show s[1]? = some _ by assumption)
  all_goals try have h1 := hdF_none (s := s) (i := 1) (by omega)
  all_goals first
    | exact fin h (by rw [prefF_no (.inl (by omega))]; rfl)
    | exact fin h (by rw [prefF_no (.inr (.inl (baseF_10 (by omega))))]; rfl)
    | exact fin h (by rw [prefF_no (.inr (.inr (by rw [baseF_8 (by omega)]; assumption)))]; rfl)
    | exact fin h (by rw [prefF_no (.inr (.inr (by rw [baseF_16 (by omega)]; assumption)))]; rfl)
    | exact fin h (by rw [prefF_yes (by omega) (baseF_8 (by omega)) (by decide) (by assumption)]; rfl)
    | exact fin h (by rw [prefF_yes (by omega) (baseF_16 (by omega)) (by decide) (by assumption)]; rfl)
theorem exponent_c {s : List UInt8} (hl : s.length ≤ 100000000) (h : R (.ret (.int .i64 (expN s : Nat))) st) : PC 103 [.str s] st R := by
  refine pcalls_of_body tys_ok [] Tryz.func103 rfl (by decide) ?_
  by_cases he : s = []
  · subst he
    repeat' ((conv => whnf); first
      | (with_reducible first | exact Wa | exact Wb | exact Wc | refine Wd (by kernel_rfl) ?_ | refine We ?_ ?_ ?_ | refine W8 (by decide +kernel) ?_ ?_ ?_ | refine W9 ?_ ?_ ?_ | refine Wt (by first | assumption | omega) ?_ | refine Wu (by first | assumption | omega) ?_ | refine Wv (by omega) ?_ | refine Ww (by omega) ?_ | refine Wf (by decide) (fun _ => ?_) (fun _ => ?_) | refine Wg (fun _ => ?_) (fun _ => ?_) | refine Wh (fun _ => ?_) (fun _ => ?_) | refine Wi ?_ | refine Wj ?_ | refine Wk (fun _ => ?_) (fun _ => ?_) | refine Wl (fun _ => ?_) | refine Wm (by assumption) (by omega) ?_ | refine Wn (by omega) (by omega) (fun _ _ _ => ?_) | refine Wo (by omega) (by omega) ?_ | refine Wp (by omega) (by omega) (by omega) ?_ | refine Wq (by omega) (by omega) ?_ | refine Wr (by decide) (by omega) (by omega) ?_ | refine Ws (by decide) ?_ | refine Wx (fun _ => ?_) ?_ | refine Wy (fun _ => ?_) ?_ | refine Wz (fun _ => ?_) | refine WA (fun _ => ?_) | refine WB (by assumption) (by omega) ?_ | refine WC (by omega) (by omega) (fun _ _ => ?_) | refine WD (by omega) (by omega) (fun _ _ => ?_) | refine WE (by omega) (by omega) (by omega) ?_ | refine WJ (fun _ => ?_) | refine WK (fun _ _ _ => ?_) | refine WL (by assumption) (by omega) ?_ | refine WM (by omega) (by omega) (fun _ _ => ?_) | refine WN (by omega) (by omega) ?_ | refine WO (by omega) (by omega) ?_ | refine WP (by omega) (by omega) (by omega) ?_)
      | with_reducible refine WF ?_)
    · exact fin h rfl
    · rename_i hn; exact absurd rfl hn
  have hlen := List.length_pos_iff.2 he
  have r1 : rowN 10 (s.drop 1) ≤ s.length := Nat.le_trans (rowN_le 10 _) (by rw [List.length_drop]; omega)
  have r2 : rowN 10 (s.drop 2) ≤ s.length := Nat.le_trans (rowN_le 10 _) (by rw [List.length_drop]; omega)
  repeat' ((conv => whnf); first
    | (with_reducible first | exact Wa | exact Wb | exact Wc | refine Wd (by kernel_rfl) ?_ | refine We ?_ ?_ ?_ | refine W8 (by decide +kernel) ?_ ?_ ?_ | refine W9 ?_ ?_ ?_ | refine Wt (by first | assumption | omega) ?_ | refine Wu (by first | assumption | omega) ?_ | refine Wv (by omega) ?_ | refine Ww (by omega) ?_ | refine Wf (by decide) (fun _ => ?_) (fun _ => ?_) | refine Wg (fun _ => ?_) (fun _ => ?_) | refine Wh (fun _ => ?_) (fun _ => ?_) | refine Wi ?_ | refine Wj ?_ | refine Wk (fun _ => ?_) (fun _ => ?_) | refine Wl (fun _ => ?_) | refine Wm (by assumption) (by omega) ?_ | refine Wn (by omega) (by omega) (fun _ _ _ => ?_) | refine Wo (by omega) (by omega) ?_ | refine Wp (by omega) (by omega) (by omega) ?_ | refine Wq (by omega) (by omega) ?_ | refine Wr (by decide) (by omega) (by omega) ?_ | refine Ws (by decide) ?_ | refine Wx (fun _ => ?_) ?_ | refine Wy (fun _ => ?_) ?_ | refine Wz (fun _ => ?_) | refine WA (fun _ => ?_) | refine WB (by assumption) (by omega) ?_ | refine WC (by omega) (by omega) (fun _ _ => ?_) | refine WD (by omega) (by omega) (fun _ _ => ?_) | refine WE (by omega) (by omega) (by omega) ?_ | refine WJ (fun _ => ?_) | refine WK (fun _ _ _ => ?_) | refine WL (by assumption) (by omega) ?_ | refine WM (by omega) (by omega) (fun _ _ => ?_) | refine WN (by omega) (by omega) ?_ | refine WO (by omega) (by omega) ?_ | refine WP (by omega) (by omega) (by omega) ?_)
    | refine row_k (n := 1) hl ?_
    | refine row_k (n := 2) hl ?_
    | with_reducible refine WF ?_)
  all_goals try have h0 := hdF_at (show s[0]? = some _ by assumption)
  all_goals try rw [List.drop_zero] at h0
  all_goals try have h1 := hdF_at (show s[1]? = some _ by assumption)
  all_goals try have h1 := hdF_none (s := s) (i := 1) (by omega)
  all_goals first
    | (have e := expN_no (l := s) (by omega); exact fin h (int_ret (by omega)))
    | (have e := expN_0 (l := s) (j := 1) (by omega) (by rw [signN_0 (by omega)]) (by assumption); exact fin h (int_ret (by omega)))
    | (have e := expN_1 (l := s) (j := 1) (by omega) (by rw [signN_0 (by omega)]) (by assumption); exact fin h (int_ret (by omega)))
    | (have e := expN_0 (l := s) (j := 2) (by omega) (by rw [signN_1 (by omega)]) (by assumption); exact fin h (int_ret (by omega)))
    | (have e := expN_1 (l := s) (j := 2) (by omega) (by rw [signN_1 (by omega)]) (by assumption); exact fin h (int_ret (by omega)))
end
end Go.Proofs.YtkcapphlemoccaaGreatDoor
set_option linter.unusedVariables false
namespace Go.Aw
open Go
theorem numF_b {l : List UInt8} (h : (prefF l).1 ≠ 10) : numF l = (11, 2 + rowN (prefF l).1 (l.drop 2)) := if_pos h
theorem numF_0 {l : List UInt8} (h : (prefF l).1 = 10) (k : rowN 10 l = 0) : numF l = (0, 0) := by unfold numF; rw [if_neg (fun e => e h), if_pos k]
theorem numF_n {l : List UInt8} {n f e : Nat} (h : (prefF l).1 = 10) (hn : rowN 10 l = n) (h0 : n ≠ 0) (hf : fracN (l.drop n) = f) (he : expN (l.drop (n + f)) = e) : numF l = (if 0 < f ∨ 0 < e then 12 else 11, n + f + e) := by
  subst hn; subst hf; subst he
  unfold numF; rw [if_neg (fun e => e h), if_neg h0]
theorem prefF_2 {l : List UInt8} {b : Int} (h : prefF l = (b, 2)) : hdF l = 48 ∧ 2 ≤ l.length := by
  unfold prefF at h
  split at h
  · rename_i hc
    refine ⟨hc.1, ?_⟩
    have := hc.2.2
    have h1 := rowN_le (baseF l) (l.drop 2)
    rw [List.length_drop] at h1
    omega
  · injection h with _ h; cases h
def nscF (s : List UInt8) (pos : Nat) : Int × Int := if (numF (s.drop pos)).1 = 0 then (0, 0) else ((numF (s.drop pos)).1, (pos + (numF (s.drop pos)).2 : Nat))
end Go.Aw
namespace Go.Proofs.YtkcapphlemoccaaGreatDoor
open Go Go.Aw
section
variable {st : St} {R : Res → St → Prop}
theorem dot_e {s : List UInt8} {i : Int} {n : Nat} (e : i.toNat = n) (h : R (.ret (.bool (decide (hdF (s.drop n) = 46)))) st) : PC 36 [.str (s.drop i.toNat), .str [46]] st R := by
  refine prefix_c ?_
  rw [pre1, e]
  exact h
theorem exponent_e {s : List UInt8} {i : Int} {n : Nat} (e : i.toNat = n) (hl : s.length ≤ 100000000) (h : R (.ret (.int .i64 (expN (s.drop n) : Nat))) st) : PC 103 [.str (s.drop i.toNat)] st R := by
  rw [e]; exact exponent_c (by rw [List.length_drop]; omega) h
theorem row_e {s : List UInt8} {i b : Int} {n : Nat} (e : i.toNat = n) (hl : s.length ≤ 100000000) (h : R (.ret (.int .i64 (rowN b (s.drop n) : Nat))) st) : PC 102 [.str (s.drop i.toNat), .int .i64 b] st R := by
  rw [e]; exact row_c (by rw [List.length_drop]; omega) h
theorem row_v {s : List UInt8} {i b : Int} {n v : Nat} (e : i.toNat = n) (hv : rowN b (s.drop n) = v) (hl : s.length ≤ 100000000) (h : R (.ret (.int .i64 v)) st) : PC 102 [.str (s.drop i.toNat), .int .i64 b] st R :=
  row_e e hl (by rw [hv]; exact h)
theorem exponent_v {s : List UInt8} {i : Int} {n v : Nat} (e : i.toNat = n) (hv : expN (s.drop n) = v) (hl : s.length ≤ 100000000) (h : R (.ret (.int .i64 v)) st) : PC 103 [.str (s.drop i.toNat)] st R :=
  exponent_e e hl (by rw [hv]; exact h)
theorem num_ret {s : List UInt8} {k i : Int} {n : Nat} (e1 : numF s = (k, n)) (e2 : i.toNat = n) : Res.ret (.tup [.int .i64 (numF s).1, .str (s.take (numF s).2)]) = Res.ret (.tup [.int .i64 k, .str (s.take i.toNat)]) := by rw [e1, e2]
theorem num_ret0 {s : List UInt8} (e1 : numF s = (0, 0)) : Res.ret (.tup [.int .i64 (numF s).1, .str (s.take (numF s).2)]) = Res.ret (.tup [.int .i64 0, .str []]) := by rw [e1]; rfl
theorem prefixed_k {s : List UInt8} {b : Int} {n : Nat} (hp : prefF s = (b, n)) (hl : s.length ≤ 100000000) (h : R (.ret (.tup [.int .i64 b, .int .i64 n])) st) : PC 101 [.str s] st R :=
  prefixed_c hl (by rw [hp]; exact h)
theorem nscan_c {s : List UInt8} (hl : s.length ≤ 100000000) (h : R (.ret (.tup [.int .i64 (numF s).1, .str (s.take (numF s).2)])) st) : PC 87 [.str s] st R := by
  have hle := numF_le s
  refine pcalls_of_body tys_ok [] Tryz.func87 rfl (by decide) ?_
  rcases prefF_or s with hp | ⟨hp, _⟩ | ⟨hp, _⟩
  · have h1 := rowN_le 10 s
    have h2 := fracN_le (s.drop (rowN 10 s))
    have h3 := expN_le (s.drop (rowN 10 s + fracN (s.drop (rowN 10 s))))
    rw [List.length_drop] at h2 h3
    generalize hr : rowN 10 s = r at h1 h2 h3
    have hr0 : rowN 10 (s.drop 0) = r := hr
    generalize hf : fracN (s.drop r) = f at h2 h3
    generalize he : expN (s.drop (r + f)) = e at h3
    have h4 := rowN_le 10 (s.drop (r + 1))
    have e0 : (prefF s).1 = 10 := by rw [hp]
    have hlt := dot_lt s r
    have hfd : (hdF (s.drop r) = 46 ∧ rowN 10 (s.drop (r + 1)) ≠ 0 ∧ f = 1 + rowN 10 (s.drop (r + 1))) ∨ ((hdF (s.drop r) ≠ 46 ∨ rowN 10 (s.drop (r + 1)) = 0) ∧ f = 0) := by
      rw [← hf]
      unfold fracN
      rw [List.drop_drop]
      split <;> omega
    rw [List.length_drop] at h4
    generalize hd : rowN 10 (s.drop (r + 1)) = d at h4 hfd
    repeat' ((conv => whnf); first
      | (with_reducible first | exact Wa | exact Wb | exact Wc | refine Wd (by kernel_rfl) ?_ | refine We ?_ ?_ ?_ | refine W8 (by decide +kernel) ?_ ?_ ?_ | refine W9 ?_ ?_ ?_ | refine Wt (by first | assumption | omega) ?_ | refine Wu (by first | assumption | omega) ?_ | refine Wv (by omega) ?_ | refine Ww (by omega) ?_ | refine Wf (by decide) (fun _ => ?_) (fun _ => ?_) | refine Wg (fun _ => ?_) (fun _ => ?_) | refine Wh (fun _ => ?_) (fun _ => ?_) | refine Wi ?_ | refine Wj ?_ | refine Wk (fun _ => ?_) (fun _ => ?_) | refine Wl (fun _ => ?_) | refine Wm (by assumption) (by omega) ?_ | refine Wn (by omega) (by omega) (fun _ _ _ => ?_) | refine Wo (by omega) (by omega) ?_ | refine Wp (by omega) (by omega) (by omega) ?_ | refine Wq (by omega) (by omega) ?_ | refine Wr (by decide) (by omega) (by omega) ?_ | refine Ws (by decide) ?_ | refine Wx (fun _ => ?_) ?_ | refine Wy (fun _ => ?_) ?_ | refine Wz (fun _ => ?_) | refine WA (fun _ => ?_) | refine WB (by assumption) (by omega) ?_ | refine WC (by omega) (by omega) (fun _ _ => ?_) | refine WD (by omega) (by omega) (fun _ _ => ?_) | refine WE (by omega) (by omega) (by omega) ?_ | refine WJ (fun _ => ?_) | refine WK (fun _ _ _ => ?_) | refine WL (by assumption) (by omega) ?_ | refine WM (by omega) (by omega) (fun _ _ => ?_) | refine WN (by omega) (by omega) ?_ | refine WO (by omega) (by omega) ?_ | refine WP (by omega) (by omega) (by omega) ?_)
      | refine prefixed_k hp hl ?_
      | refine row_v (by omega) hr0 hl ?_
      | refine row_v (by omega) hd hl ?_
      | refine dot_e (n := r) (by omega) ?_
      | refine exponent_v (by omega) he hl ?_
      | refine exponent_v (by omega) he' hl ?_
      | with_reducible refine WF ?_)
    all_goals first
      | (have e1 := numF_0 e0 (by omega); exact fin h (num_ret0 e1))
      | (have e1 := numF_n e0 hr (by omega) hf he; rw [if_pos (by omega)] at e1; exact fin h (num_ret e1 (by omega)))
      | (have e1 := numF_n e0 hr (by omega) hf he; rw [if_neg (by omega)] at e1; exact fin h (num_ret e1 (by omega)))
  · have hr := rowN_le 8 (s.drop 2)
    have h2 := (prefF_2 hp).2
    rw [List.length_drop] at hr
    repeat' ((conv => whnf); first
      | (with_reducible first | exact Wa | exact Wb | exact Wc | refine Wd (by kernel_rfl) ?_ | refine We ?_ ?_ ?_ | refine W8 (by decide +kernel) ?_ ?_ ?_ | refine W9 ?_ ?_ ?_ | refine Wt (by first | assumption | omega) ?_ | refine Wu (by first | assumption | omega) ?_ | refine Wv (by omega) ?_ | refine Ww (by omega) ?_ | refine Wf (by decide) (fun _ => ?_) (fun _ => ?_) | refine Wg (fun _ => ?_) (fun _ => ?_) | refine Wh (fun _ => ?_) (fun _ => ?_) | refine Wi ?_ | refine Wj ?_ | refine Wk (fun _ => ?_) (fun _ => ?_) | refine Wl (fun _ => ?_) | refine Wm (by assumption) (by omega) ?_ | refine Wn (by omega) (by omega) (fun _ _ _ => ?_) | refine Wo (by omega) (by omega) ?_ | refine Wp (by omega) (by omega) (by omega) ?_ | refine Wq (by omega) (by omega) ?_ | refine Wr (by decide) (by omega) (by omega) ?_ | refine Ws (by decide) ?_ | refine Wx (fun _ => ?_) ?_ | refine Wy (fun _ => ?_) ?_ | refine Wz (fun _ => ?_) | refine WA (fun _ => ?_) | refine WB (by assumption) (by omega) ?_ | refine WC (by omega) (by omega) (fun _ _ => ?_) | refine WD (by omega) (by omega) (fun _ _ => ?_) | refine WE (by omega) (by omega) (by omega) ?_ | refine WJ (fun _ => ?_) | refine WK (fun _ _ _ => ?_) | refine WL (by assumption) (by omega) ?_ | refine WM (by omega) (by omega) (fun _ _ => ?_) | refine WN (by omega) (by omega) ?_ | refine WO (by omega) (by omega) ?_ | refine WP (by omega) (by omega) (by omega) ?_)
      | refine prefixed_k hp hl ?_
      | refine row_e (n := 2) (by omega) hl ?_
      | with_reducible refine WF ?_)
    all_goals (have e1 := numF_b (l := s) (by rw [hp]; decide); rw [hp] at e1; dsimp only at e1; exact fin h (num_ret e1 (by omega)))
  · have hr := rowN_le 16 (s.drop 2)
    have h2 := (prefF_2 hp).2
    rw [List.length_drop] at hr
    repeat' ((conv => whnf); first
      | (with_reducible first | exact Wa | exact Wb | exact Wc | refine Wd (by kernel_rfl) ?_ | refine We ?_ ?_ ?_ | refine W8 (by decide +kernel) ?_ ?_ ?_ | refine W9 ?_ ?_ ?_ | refine Wt (by first | assumption | omega) ?_ | refine Wu (by first | assumption | omega) ?_ | refine Wv (by omega) ?_ | refine Ww (by omega) ?_ | refine Wf (by decide) (fun _ => ?_) (fun _ => ?_) | refine Wg (fun _ => ?_) (fun _ => ?_) | refine Wh (fun _ => ?_) (fun _ => ?_) | refine Wi ?_ | refine Wj ?_ | refine Wk (fun _ => ?_) (fun _ => ?_) | refine Wl (fun _ => ?_) | refine Wm (by assumption) (by omega) ?_ | refine Wn (by omega) (by omega) (fun _ _ _ => ?_) | refine Wo (by omega) (by omega) ?_ | refine Wp (by omega) (by omega) (by omega) ?_ | refine Wq (by omega) (by omega) ?_ | refine Wr (by decide) (by omega) (by omega) ?_ | refine Ws (by decide) ?_ | refine Wx (fun _ => ?_) ?_ | refine Wy (fun _ => ?_) ?_ | refine Wz (fun _ => ?_) | refine WA (fun _ => ?_) | refine WB (by assumption) (by omega) ?_ | refine WC (by omega) (by omega) (fun _ _ => ?_) | refine WD (by omega) (by omega) (fun _ _ => ?_) | refine WE (by omega) (by omega) (by omega) ?_ | refine WJ (fun _ => ?_) | refine WK (fun _ _ _ => ?_) | refine WL (by assumption) (by omega) ?_ | refine WM (by omega) (by omega) (fun _ _ => ?_) | refine WN (by omega) (by omega) ?_ | refine WO (by omega) (by omega) ?_ | refine WP (by omega) (by omega) (by omega) ?_)
      | refine prefixed_k hp hl ?_
      | refine row_e (n := 2) (by omega) hl ?_
      | with_reducible refine WF ?_)
    all_goals (have e1 := numF_b (l := s) (by rw [hp]; decide); rw [hp] at e1; dsimp only at e1; exact fin h (num_ret e1 (by omega)))
theorem nscanX_c {s : List UInt8} {pos : Nat} (hl : s.length ≤ 100000000) (hp : pos < s.length) (h : R (.ret (.tup [.int .i64 (nscF s pos).1, .int .i64 (nscF s pos).2])) st) : PC 62 [.str s, .int .i64 pos] st R := by
  have hw := numF_le (s.drop pos)
  have ht : ((s.drop pos).take (numF (s.drop pos)).2).length = (numF (s.drop pos)).2 := by rw [List.length_take]; omega
  rw [List.length_drop] at hw
  have hld : (s.drop pos).length ≤ 100000000 := by rw [List.length_drop]; omega
  refine pcalls_of_body tys_ok [] Tryz.func62 rfl (by decide) ?_
  repeat' ((conv => whnf); first
    | (with_reducible first | exact Wa | exact Wb | exact Wc | refine Wd (by kernel_rfl) ?_ | refine We ?_ ?_ ?_ | refine W8 (by decide +kernel) ?_ ?_ ?_ | refine W9 ?_ ?_ ?_ | refine Wt (by first | assumption | omega) ?_ | refine Wu (by first | assumption | omega) ?_ | refine Wv (by omega) ?_ | refine Ww (by omega) ?_ | refine Wf (by decide) (fun _ => ?_) (fun _ => ?_) | refine Wg (fun _ => ?_) (fun _ => ?_) | refine Wh (fun _ => ?_) (fun _ => ?_) | refine Wi ?_ | refine Wj ?_ | refine Wk (fun _ => ?_) (fun _ => ?_) | refine Wl (fun _ => ?_) | refine Wm (by assumption) (by omega) ?_ | refine Wn (by omega) (by omega) (fun _ _ _ => ?_) | refine Wo (by omega) (by omega) ?_ | refine Wp (by omega) (by omega) (by omega) ?_ | refine Wq (by omega) (by omega) ?_ | refine Wr (by decide) (by omega) (by omega) ?_ | refine Ws (by decide) ?_ | refine Wx (fun _ => ?_) ?_ | refine Wy (fun _ => ?_) ?_ | refine Wz (fun _ => ?_) | refine WA (fun _ => ?_) | refine WB (by assumption) (by omega) ?_ | refine WC (by omega) (by omega) (fun _ _ => ?_) | refine WD (by omega) (by omega) (fun _ _ => ?_) | refine WE (by omega) (by omega) (by omega) ?_ | refine WJ (fun _ => ?_) | refine WK (fun _ _ _ => ?_) | refine WL (by assumption) (by omega) ?_ | refine WM (by omega) (by omega) (fun _ _ => ?_) | refine WN (by omega) (by omega) ?_ | refine WO (by omega) (by omega) ?_ | refine WP (by omega) (by omega) (by omega) ?_)
    | refine nscan_c hld ?_
    | with_reducible refine WF ?_)
  · exact fin h (by unfold nscF; rw [if_pos (by assumption)]; simp_all)
  · exact fin h (by unfold nscF; rw [if_neg (by assumption)]; simp only []; rw [show (pos : Int).toNat = pos by omega] at *; rw [ht]; rfl)
end
end Go.Proofs.YtkcapphlemoccaaGreatDoor
set_option linter.unusedVariables false
namespace Go.Proofs.YtkcapphlemoccaaGreatDoor
open Go Go.Aw
section
variable {st : St} {R : Res → St → Prop}
theorem digits_v {s : List UInt8} {i b : Int} {n v : Nat} (e : i = n) (hv : rowN b (s.drop n) = v) (hl : s.length ≤ 100000000) (hn : n ≤ 100000002) (h : R (.ret (.int .i64 (n + v : Nat))) st) : PC 68 [.str s, .int .i64 i, .int .i64 b] st R := by
  subst e
  exact rdigits_c hl hn (by rw [hv]; exact h)
theorem nscF_none {s : List UInt8} {pos : Nat} (h : rowN 10 (s.drop pos) = 0) : nscF s pos = (0, 0) := by
  have e : numF (s.drop pos) = (0, 0) := by
    refine numF_0 ?_ h
    unfold prefF
    rw [if_neg]
    rintro ⟨h1, _⟩
    have hp : pos < s.length := hdF_lt_len (k := pos) (by omega)
    rw [List.drop_eq_getElem_cons hp] at h1 h
    have h1 : ((s[pos].toNat : Nat) : Int) = 48 := h1
    rw [rowN, h1, if_neg (by decide)] at h
    cases h
  unfold nscF; rw [e]; rfl
theorem nscF_some {s : List UInt8} {pos n : Nat} {k i : Int} (h : numF (s.drop pos) = (k, n)) (hk : k ≠ 0) (hi : i = (pos + n : Nat)) : Res.ret (.tup [.int .i64 (nscF s pos).1, .int .i64 (nscF s pos).2]) = Res.ret (.tup [.int .i64 k, .int .i64 i]) := by
  unfold nscF; rw [h, if_neg hk, hi]
set_option maxHeartbeats 4000000 in
theorem rnum_c {s : List UInt8} {pos : Nat} (hl : s.length ≤ 100000000) (hp : pos < s.length) (h : R (.ret (.tup [.int .i64 (nscF s pos).1, .int .i64 (nscF s pos).2])) st) : PC 50 [.str s, .int .i64 pos] st R := by
  have h1 := rowN_le 10 (s.drop pos)
  rw [List.length_drop] at h1
  generalize hr : rowN 10 (s.drop pos) = r at h1
  refine pcalls_of_aw tys_ok [] Tryz.func50 rfl (by decide) rfl ?_
  refine AW_seq2 (aw_of tys_ok ?_)
  repeat' ((conv => whnf); first
    | (with_reducible first | exact Wa | exact Wb | exact Wc | refine Wd (by kernel_rfl) ?_ | refine We ?_ ?_ ?_ | refine W8 (by decide +kernel) ?_ ?_ ?_ | refine W9 ?_ ?_ ?_ | refine Wt (by first | assumption | omega) ?_ | refine Wu (by first | assumption | omega) ?_ | refine Wv (by omega) ?_ | refine Ww (by omega) ?_ | refine Wf (by decide) (fun _ => ?_) (fun _ => ?_) | refine Wg (fun _ => ?_) (fun _ => ?_) | refine Wh (fun _ => ?_) (fun _ => ?_) | refine Wi ?_ | refine Wj ?_ | refine Wk (fun _ => ?_) (fun _ => ?_) | refine Wl (fun _ => ?_) | refine Wm (by assumption) (by omega) ?_ | refine Wn (by omega) (by omega) (fun _ _ _ => ?_) | refine Wo (by omega) (by omega) ?_ | refine Wp (by omega) (by omega) (by omega) ?_ | refine Wq (by omega) (by omega) ?_ | refine Wr (by decide) (by omega) (by omega) ?_ | refine Ws (by decide) ?_ | refine Wx (fun _ => ?_) ?_ | refine Wy (fun _ => ?_) ?_ | refine Wz (fun _ => ?_) | refine WA (fun _ => ?_) | refine WB (by assumption) (by omega) ?_ | refine WC (by omega) (by omega) (fun _ _ => ?_) | refine WD (by omega) (by omega) (fun _ _ => ?_) | refine WE (by omega) (by omega) (by omega) ?_ | refine WJ (fun _ => ?_) | refine WK (fun _ _ _ => ?_) | refine WL (by assumption) (by omega) ?_ | refine WM (by omega) (by omega) (fun _ _ => ?_) | refine WN (by omega) (by omega) ?_ | refine WO (by omega) (by omega) ?_ | refine WP (by omega) (by omega) (by omega) ?_)
    | with_reducible refine WF ?_)
  refine AW_seq2 (aw_of tys_ok ?_)
  repeat' ((conv => whnf); first
    | (with_reducible first | exact Wa | exact Wb | exact Wc | refine Wd (by kernel_rfl) ?_ | refine We ?_ ?_ ?_ | refine W8 (by decide +kernel) ?_ ?_ ?_ | refine W9 ?_ ?_ ?_ | refine Wt (by first | assumption | omega) ?_ | refine Wu (by first | assumption | omega) ?_ | refine Wv (by omega) ?_ | refine Ww (by omega) ?_ | refine Wf (by decide) (fun _ => ?_) (fun _ => ?_) | refine Wg (fun _ => ?_) (fun _ => ?_) | refine Wh (fun _ => ?_) (fun _ => ?_) | refine Wi ?_ | refine Wj ?_ | refine Wk (fun _ => ?_) (fun _ => ?_) | refine Wl (fun _ => ?_) | refine Wm (by assumption) (by omega) ?_ | refine Wn (by omega) (by omega) (fun _ _ _ => ?_) | refine Wo (by omega) (by omega) ?_ | refine Wp (by omega) (by omega) (by omega) ?_ | refine Wq (by omega) (by omega) ?_ | refine Wr (by decide) (by omega) (by omega) ?_ | refine Ws (by decide) ?_ | refine Wx (fun _ => ?_) ?_ | refine Wy (fun _ => ?_) ?_ | refine Wz (fun _ => ?_) | refine WA (fun _ => ?_) | refine WB (by assumption) (by omega) ?_ | refine WC (by omega) (by omega) (fun _ _ => ?_) | refine WD (by omega) (by omega) (fun _ _ => ?_) | refine WE (by omega) (by omega) (by omega) ?_ | refine WJ (fun _ => ?_) | refine WK (fun _ _ _ => ?_) | refine WL (by assumption) (by omega) ?_ | refine WM (by omega) (by omega) (fun _ _ => ?_) | refine WN (by omega) (by omega) ?_ | refine WO (by omega) (by omega) ?_ | refine WP (by omega) (by omega) (by omega) ?_)
    | refine digits_v (by omega) hr hl (by omega) ?_
    | with_reducible refine WF ?_)
  · exact fin h (by rw [nscF_none (by omega)])
  have hr0 : r ≠ 0 := by omega
  refine AW_join (α := Unit) (fun _ => { tmps := [(0, .str s), (1, .int .i64 (pos : Int))], boxes := [], nxt := 0, sz := 149, gl := [] }) (fun _ => st) (fun _ => (prefF (s.drop pos)).1 = 10) (fun _ e0 => ?_) (aw_of tys_ok ?_)
  · have h2 := fracN_le (s.drop (pos + r))
    rw [List.length_drop] at h2
    have hlt := dot_lt s (pos + r)
    have h4 := rowN_le 10 (s.drop (pos + r + 1))
    rw [List.length_drop] at h4
    generalize hf : fracN (s.drop (pos + r)) = f at h2
    generalize hd : rowN 10 (s.drop (pos + r + 1)) = d at h4
    have hfd : (hdF (s.drop (pos + r)) = 46 ∧ d ≠ 0 ∧ f = 1 + d) ∨ ((hdF (s.drop (pos + r)) ≠ 46 ∨ d = 0) ∧ f = 0) := by
      rw [← hf, ← hd]
      unfold fracN
      rw [List.drop_drop]
      split <;> omega
    refine AW_seq2 (aw_of tys_ok ?_)
    repeat' ((conv => whnf); first
      | (with_reducible first | exact Wa | exact Wb | exact Wc | refine Wd (by kernel_rfl) ?_ | refine We ?_ ?_ ?_ | refine W8 (by decide +kernel) ?_ ?_ ?_ | refine W9 ?_ ?_ ?_ | refine Wt (by first | assumption | omega) ?_ | refine Wu (by first | assumption | omega) ?_ | refine Wv (by omega) ?_ | refine Ww (by omega) ?_ | refine Wf (by decide) (fun _ => ?_) (fun _ => ?_) | refine Wg (fun _ => ?_) (fun _ => ?_) | refine Wh (fun _ => ?_) (fun _ => ?_) | refine Wi ?_ | refine Wj ?_ | refine Wk (fun _ => ?_) (fun _ => ?_) | refine Wl (fun _ => ?_) | refine Wm (by assumption) (by omega) ?_ | refine Wn (by omega) (by omega) (fun _ _ _ => ?_) | refine Wo (by omega) (by omega) ?_ | refine Wp (by omega) (by omega) (by omega) ?_ | refine Wq (by omega) (by omega) ?_ | refine Wr (by decide) (by omega) (by omega) ?_ | refine Ws (by decide) ?_ | refine Wx (fun _ => ?_) ?_ | refine Wy (fun _ => ?_) ?_ | refine Wz (fun _ => ?_) | refine WA (fun _ => ?_) | refine WB (by assumption) (by omega) ?_ | refine WC (by omega) (by omega) (fun _ _ => ?_) | refine WD (by omega) (by omega) (fun _ _ => ?_) | refine WE (by omega) (by omega) (by omega) ?_ | refine WJ (fun _ => ?_) | refine WK (fun _ _ _ => ?_) | refine WL (by assumption) (by omega) ?_ | refine WM (by omega) (by omega) (fun _ _ => ?_) | refine WN (by omega) (by omega) ?_ | refine WO (by omega) (by omega) ?_ | refine WP (by omega) (by omega) (by omega) ?_)
      | with_reducible refine WF ?_)
    refine AW_seq2 (aw_of tys_ok ?_)
    repeat' ((conv => whnf); first
      | (with_reducible first | exact Wa | exact Wb | exact Wc | refine Wd (by kernel_rfl) ?_ | refine We ?_ ?_ ?_ | refine W8 (by decide +kernel) ?_ ?_ ?_ | refine W9 ?_ ?_ ?_ | refine Wt (by first | assumption | omega) ?_ | refine Wu (by first | assumption | omega) ?_ | refine Wv (by omega) ?_ | refine Ww (by omega) ?_ | refine Wf (by decide) (fun _ => ?_) (fun _ => ?_) | refine Wg (fun _ => ?_) (fun _ => ?_) | refine Wh (fun _ => ?_) (fun _ => ?_) | refine Wi ?_ | refine Wj ?_ | refine Wk (fun _ => ?_) (fun _ => ?_) | refine Wl (fun _ => ?_) | refine Wm (by assumption) (by omega) ?_ | refine Wn (by omega) (by omega) (fun _ _ _ => ?_) | refine Wo (by omega) (by omega) ?_ | refine Wp (by omega) (by omega) (by omega) ?_ | refine Wq (by omega) (by omega) ?_ | refine Wr (by decide) (by omega) (by omega) ?_ | refine Ws (by decide) ?_ | refine Wx (fun _ => ?_) ?_ | refine Wy (fun _ => ?_) ?_ | refine Wz (fun _ => ?_) | refine WA (fun _ => ?_) | refine WB (by assumption) (by omega) ?_ | refine WC (by omega) (by omega) (fun _ _ => ?_) | refine WD (by omega) (by omega) (fun _ _ => ?_) | refine WE (by omega) (by omega) (by omega) ?_ | refine WJ (fun _ => ?_) | refine WK (fun _ _ _ => ?_) | refine WL (by assumption) (by omega) ?_ | refine WM (by omega) (by omega) (fun _ _ => ?_) | refine WN (by omega) (by omega) ?_ | refine WO (by omega) (by omega) ?_ | refine WP (by omega) (by omega) (by omega) ?_)
      | refine digits_v (by omega) hr hl (by omega) ?_
      | with_reducible refine WF ?_)
    refine AW_join (α := Int × Nat) (fun p => { tmps := [(0, .str s), (1, .int .i64 (pos : Int)), (7, .int .i64 p.1), (8, .int .i64 (p.2 : Int))], boxes := [], nxt := 0, sz := 149, gl := [] }) (fun _ => st) (fun p => p.1 = (if f = 0 then 11 else 12) ∧ p.2 = pos + r + f) ?_ (aw_of tys_ok ?_)
    · rintro ⟨k, n⟩ ⟨hk, hn⟩
      dsimp only at hk hn ⊢
      subst hk; subst hn
      have h3 := expN_le (s.drop (pos + r + f))
      rw [List.length_drop] at h3
      have e1 := numF_n (f := f) e0 hr hr0 (by rw [List.drop_drop]; exact hf) rfl
      rw [List.drop_drop, ← Nat.add_assoc] at e1
      have ha := rowN_le 10 (s.drop (pos + r + f + 1))
      have hb := rowN_le 10 (s.drop (pos + r + f + 2))
      rw [List.length_drop] at ha hb
      generalize hra : rowN 10 (s.drop (pos + r + f + 1)) = ra at ha
      generalize hrb : rowN 10 (s.drop (pos + r + f + 2)) = rb at hb
      have d1 : (s.drop (pos + r + f)).drop 1 = s.drop (pos + r + f + 1) := List.drop_drop
      have d2 : (s.drop (pos + r + f)).drop 2 = s.drop (pos + r + f + 2) := List.drop_drop
      have hx : ((hdF (s.drop (pos + r + f)) = 101 ∨ hdF (s.drop (pos + r + f)) = 69) ∧ (hdF (s.drop (pos + r + f + 1)) = 43 ∨ hdF (s.drop (pos + r + f + 1)) = 45) ∧ rb ≠ 0 → expN (s.drop (pos + r + f)) = 2 + rb) ∧
          ((hdF (s.drop (pos + r + f)) = 101 ∨ hdF (s.drop (pos + r + f)) = 69) ∧ ¬ (hdF (s.drop (pos + r + f + 1)) = 43 ∨ hdF (s.drop (pos + r + f + 1)) = 45) ∧ ra ≠ 0 → expN (s.drop (pos + r + f)) = 1 + ra) ∧
          (¬ (hdF (s.drop (pos + r + f)) = 101 ∨ hdF (s.drop (pos + r + f)) = 69) → expN (s.drop (pos + r + f)) = 0) ∧
          ((hdF (s.drop (pos + r + f)) = 101 ∨ hdF (s.drop (pos + r + f)) = 69) ∧ (hdF (s.drop (pos + r + f + 1)) = 43 ∨ hdF (s.drop (pos + r + f + 1)) = 45) ∧ rb = 0 → expN (s.drop (pos + r + f)) = 0) ∧
          ((hdF (s.drop (pos + r + f)) = 101 ∨ hdF (s.drop (pos + r + f)) = 69) ∧ ¬ (hdF (s.drop (pos + r + f + 1)) = 43 ∨ hdF (s.drop (pos + r + f + 1)) = 45) ∧ ra = 0 → expN (s.drop (pos + r + f)) = 0) :=
        ⟨fun k => by rw [expN_1 (j := 2) k.1 (by rw [d1, signN_1 k.2.1]) (by rw [d2, hrb]; exact k.2.2), d2, hrb],
         fun k => by rw [expN_1 (j := 1) k.1 (by rw [d1, signN_0 k.2.1]) (by rw [d1, hra]; exact k.2.2), d1, hra],
         fun k => expN_no k,
         fun k => expN_0 (j := 2) k.1 (by rw [d1, signN_1 k.2.1]) (by rw [d2, hrb]; exact k.2.2),
         fun k => expN_0 (j := 1) k.1 (by rw [d1, signN_0 k.2.1]) (by rw [d1, hra]; exact k.2.2)⟩
      generalize hx0 : expN (s.drop (pos + r + f)) = x at hx h3 e1
      refine aw_of tys_ok ?_
      repeat' ((conv => whnf); first
        | (with_reducible first | exact Wa | exact Wb | exact Wc | refine Wd (by kernel_rfl) ?_ | refine We ?_ ?_ ?_ | refine W8 (by decide +kernel) ?_ ?_ ?_ | refine W9 ?_ ?_ ?_ | refine Wt (by first | assumption | omega) ?_ | refine Wu (by first | assumption | omega) ?_ | refine Wv (by omega) ?_ | refine Ww (by omega) ?_ | refine Wf (by decide) (fun _ => ?_) (fun _ => ?_) | refine Wg (fun _ => ?_) (fun _ => ?_) | refine Wh (fun _ => ?_) (fun _ => ?_) | refine Wi ?_ | refine Wj ?_ | refine Wk (fun _ => ?_) (fun _ => ?_) | refine Wl (fun _ => ?_) | refine Wm (by assumption) (by omega) ?_ | refine Wn (by omega) (by omega) (fun _ _ _ => ?_) | refine Wo (by omega) (by omega) ?_ | refine Wp (by omega) (by omega) (by omega) ?_ | refine Wq (by omega) (by omega) ?_ | refine Wr (by decide) (by omega) (by omega) ?_ | refine Ws (by decide) ?_ | refine Wx (fun _ => ?_) ?_ | refine Wy (fun _ => ?_) ?_ | refine Wz (fun _ => ?_) | refine WA (fun _ => ?_) | refine WB (by assumption) (by omega) ?_ | refine WC (by omega) (by omega) (fun _ _ => ?_) | refine WD (by omega) (by omega) (fun _ _ => ?_) | refine WE (by omega) (by omega) (by omega) ?_ | refine WJ (fun _ => ?_) | refine WK (fun _ _ _ => ?_) | refine WL (by assumption) (by omega) ?_ | refine WM (by omega) (by omega) (fun _ _ => ?_) | refine WN (by omega) (by omega) ?_ | refine WO (by omega) (by omega) ?_ | refine WP (by omega) (by omega) (by omega) ?_)
        | refine digits_v (by omega) hra hl (by omega) ?_
        | refine digits_v (by omega) hrb hl (by omega) ?_
        | with_reducible refine WF ?_)
      all_goals try have f0 := hdF_at (show s[pos + r + f]? = some _ by assumption)
      all_goals try have f0 := hdF_none (s := s) (i := pos + r + f) (by omega)
      all_goals try have f1 := hdF_at (show s[pos + r + f + 1]? = some _ by assumption)
      all_goals try have f1 := hdF_none (s := s) (i := pos + r + f + 1) (by omega)
      all_goals first
        | (have hq : 0 < x := by omega
           rw [if_pos (.inr hq)] at e1
           exact fin h (nscF_some e1 (by decide) (by omega)))
        | (have hq : x = 0 := by omega
           have e2 : numF (s.drop pos) = (if f = 0 then 11 else 12, r + f + x) := by rw [e1]; congr 1; (split <;> split <;> first | rfl | omega)
           exact fin h (nscF_some e2 (by split <;> decide) (by omega)))
    · skip
      repeat' ((conv => whnf); first
        | (with_reducible first | exact Wa | exact Wb | exact Wc | refine Wd (by kernel_rfl) ?_ | refine We ?_ ?_ ?_ | refine W8 (by decide +kernel) ?_ ?_ ?_ | refine W9 ?_ ?_ ?_ | refine Wt (by first | assumption | omega) ?_ | refine Wu (by first | assumption | omega) ?_ | refine Wv (by omega) ?_ | refine Ww (by omega) ?_ | refine Wf (by decide) (fun _ => ?_) (fun _ => ?_) | refine Wg (fun _ => ?_) (fun _ => ?_) | refine Wh (fun _ => ?_) (fun _ => ?_) | refine Wi ?_ | refine Wj ?_ | refine Wk (fun _ => ?_) (fun _ => ?_) | refine Wl (fun _ => ?_) | refine Wm (by assumption) (by omega) ?_ | refine Wn (by omega) (by omega) (fun _ _ _ => ?_) | refine Wo (by omega) (by omega) ?_ | refine Wp (by omega) (by omega) (by omega) ?_ | refine Wq (by omega) (by omega) ?_ | refine Wr (by decide) (by omega) (by omega) ?_ | refine Ws (by decide) ?_ | refine Wx (fun _ => ?_) ?_ | refine Wy (fun _ => ?_) ?_ | refine Wz (fun _ => ?_) | refine WA (fun _ => ?_) | refine WB (by assumption) (by omega) ?_ | refine WC (by omega) (by omega) (fun _ _ => ?_) | refine WD (by omega) (by omega) (fun _ _ => ?_) | refine WE (by omega) (by omega) (by omega) ?_ | refine WJ (fun _ => ?_) | refine WK (fun _ _ _ => ?_) | refine WL (by assumption) (by omega) ?_ | refine WM (by omega) (by omega) (fun _ _ => ?_) | refine WN (by omega) (by omega) ?_ | refine WO (by omega) (by omega) ?_ | refine WP (by omega) (by omega) (by omega) ?_)
        | refine digits_v (by omega) hd hl (by omega) ?_
        | with_reducible refine WF ?_)
      all_goals try have f0 := hdF_at (show s[pos + r]? = some _ by assumption)
      all_goals try have f0 := hdF_none (s := s) (i := pos + r) (by omega)
      · have : f = 1 + d := by omega
        conv => whnf
        exact ⟨(12, pos + r + 1 + d), ⟨(if_neg (by omega)).symm, by dsimp only; omega⟩, (by refine ⟨rfl, ?_, ?_, rfl⟩ <;> repeat' (first | exact trivial | exact rfl | refine And.intro ?_ ?_)), St.le_refl _⟩
      all_goals have : f = 0 := by omega
      all_goals conv => whnf
      all_goals exact ⟨(11, pos + r), ⟨(if_pos this).symm, by dsimp only; omega⟩, (by refine ⟨rfl, ?_, ?_, rfl⟩ <;> repeat' (first | exact trivial | exact rfl | refine And.intro ?_ ?_)), St.le_refl _⟩
  · have h8 := rowN_le 8 (s.drop (pos + 2))
    have h16 := rowN_le 16 (s.drop (pos + 2))
    rw [List.length_drop] at h8 h16
    generalize hr8 : rowN 8 (s.drop (pos + 2)) = r8 at h8
    generalize hr16 : rowN 16 (s.drop (pos + 2)) = r16 at h16
    have d1 : (s.drop pos).drop 1 = s.drop (pos + 1) := List.drop_drop
    have d2 : (s.drop pos).drop 2 = s.drop (pos + 2) := List.drop_drop
    have p8 : hdF (s.drop pos) = 48 → (hdF (s.drop (pos + 1)) = 111 ∨ hdF (s.drop (pos + 1)) = 79) → r8 ≠ 0 → numF (s.drop pos) = (11, 2 + r8) := fun k1 k2 k3 => by
      have e := prefF_yes k1 (baseF_8 (by rw [d1]; exact k2)) (by decide) (by rw [d2, hr8]; exact k3)
      rw [numF_b (by rw [e]; decide), e, d2, hr8]
    have p16 : hdF (s.drop pos) = 48 → (hdF (s.drop (pos + 1)) = 120 ∨ hdF (s.drop (pos + 1)) = 88) → r16 ≠ 0 → numF (s.drop pos) = (11, 2 + r16) := fun k1 k2 k3 => by
      have e := prefF_yes k1 (baseF_16 (by rw [d1]; exact k2)) (by decide) (by rw [d2, hr16]; exact k3)
      rw [numF_b (by rw [e]; decide), e, d2, hr16]
    have p10 : (hdF (s.drop pos) ≠ 48 ∨ (hdF (s.drop (pos + 1)) ≠ 111 ∧ hdF (s.drop (pos + 1)) ≠ 79 ∧ hdF (s.drop (pos + 1)) ≠ 120 ∧ hdF (s.drop (pos + 1)) ≠ 88) ∨ ((hdF (s.drop (pos + 1)) = 111 ∨ hdF (s.drop (pos + 1)) = 79) ∧ r8 = 0) ∨ ((hdF (s.drop (pos + 1)) = 120 ∨ hdF (s.drop (pos + 1)) = 88) ∧ r16 = 0)) → (prefF (s.drop pos)).1 = 10 := fun k => by
      rcases k with k | k | k | k
      · rw [prefF_no (.inl k)]
      · rw [prefF_no (.inr (.inl (baseF_10 (by rw [d1]; exact k))))]
      · rw [prefF_no (.inr (.inr (by rw [baseF_8 (by rw [d1]; exact k.1), d2, hr8]; exact k.2)))]
      · rw [prefF_no (.inr (.inr (by rw [baseF_16 (by rw [d1]; exact k.1), d2, hr16]; exact k.2)))]
    repeat' ((conv => whnf); first
      | (with_reducible first | exact Wa | exact Wb | exact Wc | refine Wd (by kernel_rfl) ?_ | refine We ?_ ?_ ?_ | refine W8 (by decide +kernel) ?_ ?_ ?_ | refine W9 ?_ ?_ ?_ | refine Wt (by first | assumption | omega) ?_ | refine Wu (by first | assumption | omega) ?_ | refine Wv (by omega) ?_ | refine Ww (by omega) ?_ | refine Wf (by decide) (fun _ => ?_) (fun _ => ?_) | refine Wg (fun _ => ?_) (fun _ => ?_) | refine Wh (fun _ => ?_) (fun _ => ?_) | refine Wi ?_ | refine Wj ?_ | refine Wk (fun _ => ?_) (fun _ => ?_) | refine Wl (fun _ => ?_) | refine Wm (by assumption) (by omega) ?_ | refine Wn (by omega) (by omega) (fun _ _ _ => ?_) | refine Wo (by omega) (by omega) ?_ | refine Wp (by omega) (by omega) (by omega) ?_ | refine Wq (by omega) (by omega) ?_ | refine Wr (by decide) (by omega) (by omega) ?_ | refine Ws (by decide) ?_ | refine Wx (fun _ => ?_) ?_ | refine Wy (fun _ => ?_) ?_ | refine Wz (fun _ => ?_) | refine WA (fun _ => ?_) | refine WB (by assumption) (by omega) ?_ | refine WC (by omega) (by omega) (fun _ _ => ?_) | refine WD (by omega) (by omega) (fun _ _ => ?_) | refine WE (by omega) (by omega) (by omega) ?_ | refine WJ (fun _ => ?_) | refine WK (fun _ _ _ => ?_) | refine WL (by assumption) (by omega) ?_ | refine WM (by omega) (by omega) (fun _ _ => ?_) | refine WN (by omega) (by omega) ?_ | refine WO (by omega) (by omega) ?_ | refine WP (by omega) (by omega) (by omega) ?_)
      | refine digits_v (by omega) hr8 hl (by omega) ?_
      | refine digits_v (by omega) hr16 hl (by omega) ?_
      | with_reducible refine WF ?_)
    all_goals try have f0 := hdF_at (show s[pos]? = some _ by assumption)
    all_goals try have f1 := hdF_at (show s[pos + 1]? = some _ by assumption)
    all_goals try have f1 := hdF_none (s := s) (i := pos + 1) (by omega)
    all_goals first
      | exact fin h (nscF_some (p8 (by omega) (by omega) (by omega)) (by decide) (by omega))
      | exact fin h (nscF_some (p16 (by omega) (by omega) (by omega)) (by decide) (by omega))
      | (have e0 := p10 (by omega)
         conv => whnf
         exact ⟨(), e0, (by refine ⟨rfl, ?_, ?_, rfl⟩ <;> repeat' (first | exact trivial | exact rfl | refine And.intro ?_ ?_)), St.le_refl _⟩)
end
end Go.Proofs.YtkcapphlemoccaaGreatDoor
set_option linter.unusedVariables false
namespace Go.Aw
open Go
theorem span_45 {s : List UInt8} {p : Nat} (h : hdF (s.drop p) = 45) : spanR (fun c => classF c == 5) (s.drop p) = 1 + spanR (fun c => classF c == 5) (s.drop (p + 1)) := by
  have hp := hdF_lt_len (k := p) (l := s) (by omega)
  have e0 : s.drop p = s[p] :: s.drop (p + 1) := List.drop_eq_getElem_cons hp
  have hb : ((s[p].toNat : Nat) : Int) = 45 := by rw [e0] at h; exact h
  have hd : decR (s.drop p) = (45, 1) := by
    rw [e0, decR_lo (by omega)]
    exact Prod.ext (by show s[p].toNat = 45; omega) rfl
  rw [spanR_yes (drop_ne hp) (by rw [hd]; decide), hd, List.drop_drop]
theorem rowLen_0 {l : List UInt8} (h : ¬ hdF (l.drop 1) = 45) : rowLen l = 0 := by
  unfold rowLen
  dsimp only
  rw [if_neg]
  rintro ⟨h1, h2⟩
  rcases l with _ | ⟨a, _ | ⟨b, r⟩⟩
  · rw [spanR_nil] at h1; omega
  · have := spanR_le (fun c => classF c == 5) [a]; simp only [List.length_singleton] at this; omega
  · generalize hn : spanR (fun c => classF c == 5) (a :: b :: r) = n at h1 h2
    obtain ⟨m, rfl⟩ : ∃ m, n = m + 2 := ⟨n - 2, by omega⟩
    simp only [List.take_succ_cons, List.all_cons, Bool.and_eq_true, beq_iff_eq] at h2
    exact h (by show ((b.toNat : Nat) : Int) = 45; rw [h2.2.1]; rfl)
theorem all_step {s : List UInt8} {k m : Nat} {e : UInt8} (he : s[k]? = some e) : ((s.drop k).take (m + 1)).all (fun b => b == 45) = ((e == 45) && ((s.drop (k + 1)).take m).all (fun b => b == 45)) := by
  rw [drop_at he, List.take_succ_cons, List.all_cons]
end Go.Aw
namespace Go.Proofs.YtkcapphlemoccaaGreatDoor
open Go Go.Aw
section
variable {st : St} {R : Res → St → Prop}
theorem two_c {s : List UInt8} {pos : Nat} {a b : Int} (hl : s.length ≤ 100000000) (hp : pos ≤ 1000000000) (h : R (.ret (.bool (decide (pos + 1 < s.length ∧ hdF (s.drop pos) = a ∧ hdF (s.drop (pos + 1)) = b)))) st) : PC 48 [.str s, .int .i64 pos, .int .u8 a, .int .u8 b] st R := by
  refine pcalls_of_body tys_ok [] Tryz.func48 rfl (by decide) ?_
  repeat' ((conv => whnf); first
    | (with_reducible first | exact Wa | exact Wb | exact Wc | refine Wd (by kernel_rfl) ?_ | refine We ?_ ?_ ?_ | refine W8 (by decide +kernel) ?_ ?_ ?_ | refine W9 ?_ ?_ ?_ | refine Wt (by first | assumption | omega) ?_ | refine Wu (by first | assumption | omega) ?_ | refine Wv (by omega) ?_ | refine Ww (by omega) ?_ | refine Wf (by decide) (fun _ => ?_) (fun _ => ?_) | refine Wg (fun _ => ?_) (fun _ => ?_) | refine Wh (fun _ => ?_) (fun _ => ?_) | refine Wi ?_ | refine Wj ?_ | refine Wk (fun _ => ?_) (fun _ => ?_) | refine Wl (fun _ => ?_) | refine Wm (by assumption) (by omega) ?_ | refine Wn (by omega) (by omega) (fun _ _ _ => ?_) | refine Wo (by omega) (by omega) ?_ | refine Wp (by omega) (by omega) (by omega) ?_ | refine Wq (by omega) (by omega) ?_ | refine Wr (by decide) (by omega) (by omega) ?_ | refine Ws (by decide) ?_ | refine Wx (fun _ => ?_) ?_ | refine Wy (fun _ => ?_) ?_ | refine Wz (fun _ => ?_) | refine WA (fun _ => ?_) | refine WB (by assumption) (by omega) ?_ | refine WC (by omega) (by omega) (fun _ _ => ?_) | refine WD (by omega) (by omega) (fun _ _ => ?_) | refine WE (by omega) (by omega) (by omega) ?_ | refine WJ (fun _ => ?_) | refine WK (fun _ _ _ => ?_) | refine WL (by assumption) (by omega) ?_ | refine WM (by omega) (by omega) (fun _ _ => ?_) | refine WN (by omega) (by omega) ?_ | refine WO (by omega) (by omega) ?_ | refine WP (by omega) (by omega) (by omega) ?_)
    | with_reducible refine WF ?_)
  all_goals try have f0 := hdF_at (show s[pos]? = some _ by assumption)
  all_goals try have f1 := hdF_at (show s[pos + 1]? = some _ by assumption)
  all_goals exact fin h (congrArg (fun b => Res.ret (V.bool b)) (by first | exact decide_eq_true (by omega) | exact decide_eq_false (by omega)))
theorem rnote_c {s : List UInt8} {pos : Nat} (hl : s.length ≤ 100000000) (hp : pos < s.length) (h : R (.ret (.tup [.int .i64 (noteF s pos).1, .int .i64 (noteF s pos).2])) st) : PC 27 [.str s, .int .i64 pos] st R := by
  have d1 : (s.drop pos).drop 1 = s.drop (pos + 1) := List.drop_drop
  have d2 : (s.drop pos).drop 2 = s.drop (pos + 2) := List.drop_drop
  have q1 := fun h => hdF_lt_len (l := s) (k := pos + 1) h
  refine pcalls_of_body tys_ok [] Tryz.func27 rfl (by decide) ?_
  by_cases c1 : hdF (s.drop pos) = 45 ∧ hdF (s.drop (pos + 1)) = 45
  · have k1 : pos + 1 < s.length ∧ hdF (s.drop pos) = 45 ∧ hdF (s.drop (pos + 1)) = 45 := ⟨q1 (by omega), c1⟩
    have hsp := span_45 c1.1
    rw [span_45 c1.2] at hsp
    have hle := spanR_le (fun c => classF c == 5) (s.drop pos)
    rw [List.length_drop] at hle
    have hrl : rowLen (s.drop pos) = if 2 ≤ spanR (fun c => classF c == 5) (s.drop pos) ∧ ((s.drop pos).take (spanR (fun c => classF c == 5) (s.drop pos))).all (fun b => b == 45) = true then spanR (fun c => classF c == 5) (s.drop pos) + eolN ((s.drop pos).drop (spanR (fun c => classF c == 5) (s.drop pos))) else 0 := rfl
    have hN : noteN (s.drop pos) = (rowLen (s.drop pos) : Nat) := by unfold noteN; rw [if_neg (by rw [d1]; omega), if_pos c1.1]
    generalize hn : spanR (fun c => classF c == 5) (s.drop pos) = n at hsp hle hrl
    rw [List.drop_drop] at hrl
    have hrun : ∀ {R : Res → St → Prop}, R (.ret (.int .i64 (pos + n : Nat))) st → PC 49 [.str s, .int .i64 pos, .int .i64 5] st R := fun h => rrun_k hl (by omega) (by rw [hn]; exact h)
    repeat' ((conv => whnf); first
      | (with_reducible first | exact Wa | exact Wb | exact Wc | refine Wd (by kernel_rfl) ?_ | refine We ?_ ?_ ?_ | refine W8 (by decide +kernel) ?_ ?_ ?_ | refine W9 ?_ ?_ ?_ | refine Wt (by first | assumption | omega) ?_ | refine Wu (by first | assumption | omega) ?_ | refine Wv (by omega) ?_ | refine Ww (by omega) ?_ | refine Wf (by decide) (fun _ => ?_) (fun _ => ?_) | refine Wg (fun _ => ?_) (fun _ => ?_) | refine Wh (fun _ => ?_) (fun _ => ?_) | refine Wi ?_ | refine Wj ?_ | refine Wk (fun _ => ?_) (fun _ => ?_) | refine Wl (fun _ => ?_) | refine Wm (by assumption) (by omega) ?_ | refine Wn (by omega) (by omega) (fun _ _ _ => ?_) | refine Wo (by omega) (by omega) ?_ | refine Wp (by omega) (by omega) (by omega) ?_ | refine Wq (by omega) (by omega) ?_ | refine Wr (by decide) (by omega) (by omega) ?_ | refine Ws (by decide) ?_ | refine Wx (fun _ => ?_) ?_ | refine Wy (fun _ => ?_) ?_ | refine Wz (fun _ => ?_) | refine WA (fun _ => ?_) | refine WB (by assumption) (by omega) ?_ | refine WC (by omega) (by omega) (fun _ _ => ?_) | refine WD (by omega) (by omega) (fun _ _ => ?_) | refine WE (by omega) (by omega) (by omega) ?_ | refine WJ (fun _ => ?_) | refine WK (fun _ _ _ => ?_) | refine WL (by assumption) (by omega) ?_ | refine WM (by omega) (by omega) (fun _ _ => ?_) | refine WN (by omega) (by omega) ?_ | refine WO (by omega) (by omega) ?_ | refine WP (by omega) (by omega) (by omega) ?_)
      | refine two_c hl (by omega) ?_
      | refine hrun ?_
      | with_reducible refine WF ?_)
    refine loop_g (α := Nat) (fun k => [(7, .int .i64 (k : Int))]) [0, 6] [] (fun _ => st) (fun k => pos ≤ k ∧ k ≤ pos + n ∧ ((s.drop pos).take n).all (fun b => b == 45) = ((s.drop k).take (pos + n - k)).all (fun b => b == 45)) (fun k => pos + n - k) pos ⟨Nat.le_refl _, by omega, by rw [Nat.add_sub_cancel_left]⟩ (by refine ⟨rfl, ?_, ?_, rfl⟩ <;> repeat' (first | exact trivial | exact rfl | refine And.intro ?_ ?_)) (St.le_refl _) ?_
    rintro k ⟨h1, h2, h3⟩
    repeat' ((conv => whnf); first
      | (with_reducible first | exact Wa | exact Wb | exact Wc | refine Wd (by kernel_rfl) ?_ | refine We ?_ ?_ ?_ | refine W8 (by decide +kernel) ?_ ?_ ?_ | refine W9 ?_ ?_ ?_ | refine Wt (by first | assumption | omega) ?_ | refine Wu (by first | assumption | omega) ?_ | refine Wv (by omega) ?_ | refine Ww (by omega) ?_ | refine Wf (by decide) (fun _ => ?_) (fun _ => ?_) | refine Wg (fun _ => ?_) (fun _ => ?_) | refine Wh (fun _ => ?_) (fun _ => ?_) | refine Wi ?_ | refine Wj ?_ | refine Wk (fun _ => ?_) (fun _ => ?_) | refine Wl (fun _ => ?_) | refine Wm (by assumption) (by omega) ?_ | refine Wn (by omega) (by omega) (fun _ _ _ => ?_) | refine Wo (by omega) (by omega) ?_ | refine Wp (by omega) (by omega) (by omega) ?_ | refine Wq (by omega) (by omega) ?_ | refine Wr (by decide) (by omega) (by omega) ?_ | refine Ws (by decide) ?_ | refine Wx (fun _ => ?_) ?_ | refine Wy (fun _ => ?_) ?_ | refine Wz (fun _ => ?_) | refine WA (fun _ => ?_) | refine WB (by assumption) (by omega) ?_ | refine WC (by omega) (by omega) (fun _ _ => ?_) | refine WD (by omega) (by omega) (fun _ _ => ?_) | refine WE (by omega) (by omega) (by omega) ?_ | refine WJ (fun _ => ?_) | refine WK (fun _ _ _ => ?_) | refine WL (by assumption) (by omega) ?_ | refine WM (by omega) (by omega) (fun _ _ => ?_) | refine WN (by omega) (by omega) ?_ | refine WO (by omega) (by omega) ?_ | refine WP (by omega) (by omega) (by omega) ?_)
      | with_reducible refine WF ?_)
    · rename_i hlt e he heq
      have he : s[k]? = some e := he
      obtain ⟨m, hm⟩ : ∃ m, pos + n - k = m + 1 := ⟨pos + n - k - 1, by omega⟩
      rw [hm, all_step he, beq_iff_eq.2 (UInt8.toNat_inj.1 (show e.toNat = 45 by omega)), Bool.true_and, show m = pos + n - (k + 1) by omega] at h3
      conv => whnf
      exact ⟨k + 1, ⟨by omega, by omega, h3⟩, by omega, (by refine ⟨rfl, ?_, ?_, rfl⟩ <;> repeat' (first | exact trivial | exact rfl | refine And.intro ?_ ?_)), St.le_refl _⟩
    · rename_i hlt e he hne
      have he : s[k]? = some e := he
      obtain ⟨m, hm⟩ : ∃ m, pos + n - k = m + 1 := ⟨pos + n - k - 1, by omega⟩
      rw [hm, all_step he, beq_eq_false_iff_ne.2 (fun e => hne (by rw [e]; rfl)), Bool.false_and] at h3
      rw [if_neg (fun e => by rw [h3] at e; cases e.2)] at hrl
      exact fin h (by rw [noteF_0 (by omega)])
    · rw [show pos + n - k = 0 by omega, List.take_zero, List.all_nil] at h3
      rw [if_pos ⟨by omega, h3⟩] at hrl
      have hel := eolN_le (s.drop (pos + n))
      rw [List.length_drop] at hel
      refine loop_g (α := Nat) (fun e => [(6, .int .i64 (e : Int))]) [0] [] (fun _ => st) (fun e => pos + n ≤ e ∧ e ≤ s.length ∧ pos + n + eolN (s.drop (pos + n)) = e + eolN (s.drop e)) (fun e => s.length - e) (pos + n) ⟨Nat.le_refl _, by omega, rfl⟩ (by refine ⟨rfl, ?_, ?_, rfl⟩ <;> repeat' (first | exact trivial | exact rfl | refine And.intro ?_ ?_)) (St.le_refl _) ?_
      rintro e ⟨g1, g2, g3⟩
      repeat' ((conv => whnf); first
        | (with_reducible first | exact Wa | exact Wb | exact Wc | refine Wd (by kernel_rfl) ?_ | refine We ?_ ?_ ?_ | refine W8 (by decide +kernel) ?_ ?_ ?_ | refine W9 ?_ ?_ ?_ | refine Wt (by first | assumption | omega) ?_ | refine Wu (by first | assumption | omega) ?_ | refine Wv (by omega) ?_ | refine Ww (by omega) ?_ | refine Wf (by decide) (fun _ => ?_) (fun _ => ?_) | refine Wg (fun _ => ?_) (fun _ => ?_) | refine Wh (fun _ => ?_) (fun _ => ?_) | refine Wi ?_ | refine Wj ?_ | refine Wk (fun _ => ?_) (fun _ => ?_) | refine Wl (fun _ => ?_) | refine Wm (by assumption) (by omega) ?_ | refine Wn (by omega) (by omega) (fun _ _ _ => ?_) | refine Wo (by omega) (by omega) ?_ | refine Wp (by omega) (by omega) (by omega) ?_ | refine Wq (by omega) (by omega) ?_ | refine Wr (by decide) (by omega) (by omega) ?_ | refine Ws (by decide) ?_ | refine Wx (fun _ => ?_) ?_ | refine Wy (fun _ => ?_) ?_ | refine Wz (fun _ => ?_) | refine WA (fun _ => ?_) | refine WB (by assumption) (by omega) ?_ | refine WC (by omega) (by omega) (fun _ _ => ?_) | refine WD (by omega) (by omega) (fun _ _ => ?_) | refine WE (by omega) (by omega) (by omega) ?_ | refine WJ (fun _ => ?_) | refine WK (fun _ _ _ => ?_) | refine WL (by assumption) (by omega) ?_ | refine WM (by omega) (by omega) (fun _ _ => ?_) | refine WN (by omega) (by omega) ?_ | refine WO (by omega) (by omega) ?_ | refine WP (by omega) (by omega) (by omega) ?_)
        | refine end_c hl (by omega) ?_
        | with_reducible refine WF ?_)
      all_goals try have z1 := eolN_go (s := s) (pos := e) (by omega) (by omega)
      all_goals try have z1 := eolN_no (s := s) (pos := e) (by omega)
      all_goals try have z1 := eolN_end (s := s) (pos := e) (by omega)
      all_goals first
        | exact fin h (note_ret hN (by omega) (by omega))
        | (conv => whnf
           exact ⟨e + 1, ⟨by omega, by omega, by omega⟩, by omega, (by refine ⟨rfl, ?_, ?_, rfl⟩ <;> repeat' (first | exact trivial | exact rfl | refine And.intro ?_ ?_)), St.le_refl _⟩)
  by_cases c2 : hdF (s.drop pos) = 123 ∧ hdF (s.drop (pos + 1)) = 45
  · have k1 : pos + 1 < s.length ∧ hdF (s.drop pos) = 123 ∧ hdF (s.drop (pos + 1)) = 45 := ⟨q1 (by omega), c2⟩
    have hN : noteN (s.drop pos) = endAt 2 (nestN 1 (s.drop (pos + 2))) := by unfold noteN; rw [if_pos (by rw [d1]; exact c2), d2]
    have hA : (endAt (pos + 2) (nestN 1 (s.drop (pos + 2))) = -1 ∧ noteN (s.drop pos) = -1) ∨ (endAt (pos + 2) (nestN 1 (s.drop (pos + 2))) = pos + noteN (s.drop pos) ∧ 0 < noteN (s.drop pos)) := by
      rw [hN]
      cases nestN 1 (s.drop (pos + 2)) with
      | none => exact .inl ⟨rfl, rfl⟩
      | some m => refine .inr ⟨?_, ?_⟩ <;> simp only [endAt] <;> omega
    repeat' ((conv => whnf); first
      | (with_reducible first | exact Wa | exact Wb | exact Wc | refine Wd (by kernel_rfl) ?_ | refine We ?_ ?_ ?_ | refine W8 (by decide +kernel) ?_ ?_ ?_ | refine W9 ?_ ?_ ?_ | refine Wt (by first | assumption | omega) ?_ | refine Wu (by first | assumption | omega) ?_ | refine Wv (by omega) ?_ | refine Ww (by omega) ?_ | refine Wf (by decide) (fun _ => ?_) (fun _ => ?_) | refine Wg (fun _ => ?_) (fun _ => ?_) | refine Wh (fun _ => ?_) (fun _ => ?_) | refine Wi ?_ | refine Wj ?_ | refine Wk (fun _ => ?_) (fun _ => ?_) | refine Wl (fun _ => ?_) | refine Wm (by assumption) (by omega) ?_ | refine Wn (by omega) (by omega) (fun _ _ _ => ?_) | refine Wo (by omega) (by omega) ?_ | refine Wp (by omega) (by omega) (by omega) ?_ | refine Wq (by omega) (by omega) ?_ | refine Wr (by decide) (by omega) (by omega) ?_ | refine Ws (by decide) ?_ | refine Wx (fun _ => ?_) ?_ | refine Wy (fun _ => ?_) ?_ | refine Wz (fun _ => ?_) | refine WA (fun _ => ?_) | refine WB (by assumption) (by omega) ?_ | refine WC (by omega) (by omega) (fun _ _ => ?_) | refine WD (by omega) (by omega) (fun _ _ => ?_) | refine WE (by omega) (by omega) (by omega) ?_ | refine WJ (fun _ => ?_) | refine WK (fun _ _ _ => ?_) | refine WL (by assumption) (by omega) ?_ | refine WM (by omega) (by omega) (fun _ _ => ?_) | refine WN (by omega) (by omega) ?_ | refine WO (by omega) (by omega) ?_ | refine WP (by omega) (by omega) (by omega) ?_)
      | refine two_c hl (by omega) ?_
      | with_reducible refine WF ?_)
    refine loop_2 (α := Nat) (β := Nat) (fun d k => [(8, .int .i64 (d : Int)), (9, .int .i64 (k : Int))]) (fun _ _ => []) [0] [] (fun _ _ => st)
      (fun d k => k ≤ s.length ∧ d ≤ k ∧ pos + 2 ≤ k ∧ ((1 ≤ d ∧ endAt (pos + 2) (nestN 1 (s.drop (pos + 2))) = endAt k (nestN d (s.drop k))) ∨ (d = 0 ∧ endAt (pos + 2) (nestN 1 (s.drop (pos + 2))) = k))) (fun _ k => s.length - k) 1 (pos + 2) ⟨by omega, by omega, by omega, .inl ⟨Nat.le_refl _, rfl⟩⟩ (by refine ⟨rfl, ?_, ?_, rfl⟩ <;> repeat' (first | exact trivial | exact rfl | refine And.intro ?_ ?_)) (St.le_refl _) ?_
    rintro d k ⟨h1, h2, h3, h4⟩
    have q2 := fun h => hdF_lt_len (l := s) (k := k + 1) h
    repeat' ((conv => whnf); first
      | (with_reducible first | exact Wa | exact Wb | exact Wc | refine Wd (by kernel_rfl) ?_ | refine We ?_ ?_ ?_ | refine W8 (by decide +kernel) ?_ ?_ ?_ | refine W9 ?_ ?_ ?_ | refine Wt (by first | assumption | omega) ?_ | refine Wu (by first | assumption | omega) ?_ | refine Wv (by omega) ?_ | refine Ww (by omega) ?_ | refine Wf (by decide) (fun _ => ?_) (fun _ => ?_) | refine Wg (fun _ => ?_) (fun _ => ?_) | refine Wh (fun _ => ?_) (fun _ => ?_) | refine Wi ?_ | refine Wj ?_ | refine Wk (fun _ => ?_) (fun _ => ?_) | refine Wl (fun _ => ?_) | refine Wm (by assumption) (by omega) ?_ | refine Wn (by omega) (by omega) (fun _ _ _ => ?_) | refine Wo (by omega) (by omega) ?_ | refine Wp (by omega) (by omega) (by omega) ?_ | refine Wq (by omega) (by omega) ?_ | refine Wr (by decide) (by omega) (by omega) ?_ | refine Ws (by decide) ?_ | refine Wx (fun _ => ?_) ?_ | refine Wy (fun _ => ?_) ?_ | refine Wz (fun _ => ?_) | refine WA (fun _ => ?_) | refine WB (by assumption) (by omega) ?_ | refine WC (by omega) (by omega) (fun _ _ => ?_) | refine WD (by omega) (by omega) (fun _ _ => ?_) | refine WE (by omega) (by omega) (by omega) ?_ | refine WJ (fun _ => ?_) | refine WK (fun _ _ _ => ?_) | refine WL (by assumption) (by omega) ?_ | refine WM (by omega) (by omega) (fun _ _ => ?_) | refine WN (by omega) (by omega) ?_ | refine WO (by omega) (by omega) ?_ | refine WP (by omega) (by omega) (by omega) ?_)
      | refine two_c hl (by omega) ?_
      | with_reducible refine WF ?_)
    · rw [nest_out (pos := k) (d := d) (by omega)] at h4
      exact fin h (by rw [noteF_neg (by omega)])
    · have kk : hdF (s.drop k) = 123 ∧ hdF (s.drop (k + 1)) = 45 := And.right (by assumption)
      rcases h4 with ⟨h4, h5⟩ | ⟨h4, h5⟩
      · rw [nest_open (pos := k) kk.1 kk.2] at h5
        conv => whnf
        exact ⟨(d + 1, k + 2), ⟨by dsimp only; omega, by dsimp only; omega, by dsimp only; omega, .inl ⟨by dsimp only; omega, h5⟩⟩, by dsimp only; omega, (by refine ⟨rfl, ?_, ?_, rfl⟩ <;> repeat' (first | exact trivial | exact rfl | refine And.intro ?_ ?_)), St.le_refl _⟩
      · exfalso; omega
    · have kk : hdF (s.drop k) = 45 ∧ hdF (s.drop (k + 1)) = 125 := And.right (by assumption)
      rcases h4 with ⟨h4, h5⟩ | ⟨h4, h5⟩
      · rw [nest_close (pos := k) kk.1 kk.2] at h5
        obtain ⟨d', rfl⟩ : ∃ d', d = d' + 1 := ⟨d - 1, by omega⟩
        have e2 : ((d' + 1 : Nat) : Int) - 1 = (d' : Int) := by omega
        rw [Nat.add_sub_cancel] at h5
        refine ⟨(d', k + 2), ⟨?_, ?_, ?_, ?_⟩, ?_, by rw [← e2]; exact (by refine ⟨rfl, ?_, ?_, rfl⟩ <;> repeat' (first | exact trivial | exact rfl | refine And.intro ?_ ?_)), St.le_refl _⟩
        all_goals dsimp only
        · omega
        · omega
        · omega
        · by_cases hd : d' = 0
          · rw [if_pos (by omega)] at h5; exact .inr ⟨hd, h5⟩
          · rw [if_neg (by omega)] at h5; exact .inl ⟨by omega, h5⟩
        · omega
      · exfalso; omega
    · rcases h4 with ⟨h4, h5⟩ | ⟨h4, h5⟩
      · have n1 : ¬ (hdF (s.drop k) = 123 ∧ hdF (s.drop (k + 1)) = 45) := fun e => absurd (And.intro (q2 (by omega)) e) (by assumption)
        have n2 : ¬ (hdF (s.drop k) = 45 ∧ hdF (s.drop (k + 1)) = 125) := fun e => absurd (And.intro (q2 (by omega)) e) (by assumption)
        rw [nest_go (pos := k) (d := d) (by omega) n1 n2] at h5
        conv => whnf
        exact ⟨(d, k + 1), ⟨by dsimp only; omega, by dsimp only; omega, by dsimp only; omega, .inl ⟨h4, h5⟩⟩, by dsimp only; omega, (by refine ⟨rfl, ?_, ?_, rfl⟩ <;> repeat' (first | exact trivial | exact rfl | refine And.intro ?_ ?_)), St.le_refl _⟩
      · exfalso; omega
    · exact fin h (note_ret rfl (by omega) (by omega))
  · have hz : noteN (s.drop pos) = 0 := by
      unfold noteN
      rw [if_neg (by rw [d1]; exact c2)]
      split
      · rw [rowLen_0 (by rw [d1]; omega)]; rfl
      · rfl
    have k1 : ¬ (pos + 1 < s.length ∧ hdF (s.drop pos) = 45 ∧ hdF (s.drop (pos + 1)) = 45) := fun e => c1 e.2
    have k2 : ¬ (pos + 1 < s.length ∧ hdF (s.drop pos) = 123 ∧ hdF (s.drop (pos + 1)) = 45) := fun e => c2 e.2
    repeat' ((conv => whnf); first
      | (with_reducible first | exact Wa | exact Wb | exact Wc | refine Wd (by kernel_rfl) ?_ | refine We ?_ ?_ ?_ | refine W8 (by decide +kernel) ?_ ?_ ?_ | refine W9 ?_ ?_ ?_ | refine Wt (by first | assumption | omega) ?_ | refine Wu (by first | assumption | omega) ?_ | refine Wv (by omega) ?_ | refine Ww (by omega) ?_ | refine Wf (by decide) (fun _ => ?_) (fun _ => ?_) | refine Wg (fun _ => ?_) (fun _ => ?_) | refine Wh (fun _ => ?_) (fun _ => ?_) | refine Wi ?_ | refine Wj ?_ | refine Wk (fun _ => ?_) (fun _ => ?_) | refine Wl (fun _ => ?_) | refine Wm (by assumption) (by omega) ?_ | refine Wn (by omega) (by omega) (fun _ _ _ => ?_) | refine Wo (by omega) (by omega) ?_ | refine Wp (by omega) (by omega) (by omega) ?_ | refine Wq (by omega) (by omega) ?_ | refine Wr (by decide) (by omega) (by omega) ?_ | refine Ws (by decide) ?_ | refine Wx (fun _ => ?_) ?_ | refine Wy (fun _ => ?_) ?_ | refine Wz (fun _ => ?_) | refine WA (fun _ => ?_) | refine WB (by assumption) (by omega) ?_ | refine WC (by omega) (by omega) (fun _ _ => ?_) | refine WD (by omega) (by omega) (fun _ _ => ?_) | refine WE (by omega) (by omega) (by omega) ?_ | refine WJ (fun _ => ?_) | refine WK (fun _ _ _ => ?_) | refine WL (by assumption) (by omega) ?_ | refine WM (by omega) (by omega) (fun _ _ => ?_) | refine WN (by omega) (by omega) ?_ | refine WO (by omega) (by omega) ?_ | refine WP (by omega) (by omega) (by omega) ?_)
      | refine two_c hl (by omega) ?_
      | with_reducible refine WF ?_)
    all_goals exact fin h (by rw [noteF_0 hz])
end
end Go.Proofs.YtkcapphlemoccaaGreatDoor
set_option linter.unusedVariables false
namespace Go.Aw
open Go
def lexmF (s : List UInt8) (p : Nat) : Int × Int × Int :=
  if (nscF s p).1 ≠ 0 then ((nscF s p).1, (nscF s p).2, 0)
  else if (quoF s p).1 = 0 ∧ (quoF s p).2.2 = 0 then
    if (wscanF s p).1 = 0 then (0, p, 70) else ((wscanF s p).1, (wscanF s p).2, 0)
  else quoF s p
def lxC (s : List UInt8) (p sp : Nat) (ln col : Int) (toks notes : List (List V)) (w1 w2 : Own) (gap ends : Int) (j : Bool) : List V :=
  [.str s, .int .i64 p, .int .i64 sp, .int .i64 ln, .int .i64 col, .slice 4 toks w1, .slice 5 notes w2, .int .i64 gap, .int .i64 ends, .bool j]
end Go.Aw
namespace Go.Proofs.YtkcapphlemoccaaGreatDoor
open Go Go.Aw
section
variable {st : St} {R : Res → St → Prop}
theorem lnum_c {s : List UInt8} {b p sp : Nat} {ln col gap ends : Int} {toks notes : List (List V)} {w1 w2 : Own} {j : Bool} (hl : s.length ≤ 100000000) (hp : p < s.length) (hb : st.box b = some (lxC s p sp ln col toks notes w1 w2 gap ends j))
    (h : R (.ret (.agg [.int .i64 (nscF s p).1, .int .i64 (nscF s p).2, .int .i64 0])) st) : PC 40 [.ptr b 0] st R := by
  refine pcalls_of_body tys_ok [] Tryz.func40 rfl (by decide) ?_
  repeat' ((conv => whnf); first
    | (with_reducible first | exact Wa | exact Wb | exact Wc | refine Wd (by kernel_rfl) ?_ | refine We ?_ ?_ ?_ | refine W8 (by decide +kernel) ?_ ?_ ?_ | refine W9 ?_ ?_ ?_ | refine Wt (by first | assumption | omega) ?_ | refine Wu (by first | assumption | omega) ?_ | refine Wv (by omega) ?_ | refine Ww (by omega) ?_ | refine Wf (by decide) (fun _ => ?_) (fun _ => ?_) | refine Wg (fun _ => ?_) (fun _ => ?_) | refine Wh (fun _ => ?_) (fun _ => ?_) | refine Wi ?_ | refine Wj ?_ | refine Wk (fun _ => ?_) (fun _ => ?_) | refine Wl (fun _ => ?_) | refine Wm (by assumption) (by omega) ?_ | refine Wn (by omega) (by omega) (fun _ _ _ => ?_) | refine Wo (by omega) (by omega) ?_ | refine Wp (by omega) (by omega) (by omega) ?_ | refine Wq (by omega) (by omega) ?_ | refine Wr (by decide) (by omega) (by omega) ?_ | refine Ws (by decide) ?_ | refine Wx (fun _ => ?_) ?_ | refine Wy (fun _ => ?_) ?_ | refine Wz (fun _ => ?_) | refine WA (fun _ => ?_) | refine WB (by assumption) (by omega) ?_ | refine WC (by omega) (by omega) (fun _ _ => ?_) | refine WD (by omega) (by omega) (fun _ _ => ?_) | refine WE (by omega) (by omega) (by omega) ?_)
    | refine on_box hb ?_
    | refine nscanX_c hl hp ?_
    | with_reducible refine WF ?_)
  all_goals exact fin h rfl
theorem lwrd_c {s : List UInt8} {b p sp : Nat} {ln col gap ends : Int} {toks notes : List (List V)} {w1 w2 : Own} {j : Bool} (hl : s.length ≤ 100000000) (hp : p < s.length) (hb : st.box b = some (lxC s p sp ln col toks notes w1 w2 gap ends j))
    (h : R (.ret (.agg [.int .i64 (wscanF s p).1, .int .i64 (wscanF s p).2, .int .i64 0])) st) : PC 42 [.ptr b 0] st R := by
  refine pcalls_of_body tys_ok [] Tryz.func42 rfl (by decide) ?_
  repeat' ((conv => whnf); first
    | (with_reducible first | exact Wa | exact Wb | exact Wc | refine Wd (by kernel_rfl) ?_ | refine We ?_ ?_ ?_ | refine W8 (by decide +kernel) ?_ ?_ ?_ | refine W9 ?_ ?_ ?_ | refine Wt (by first | assumption | omega) ?_ | refine Wu (by first | assumption | omega) ?_ | refine Wv (by omega) ?_ | refine Ww (by omega) ?_ | refine Wf (by decide) (fun _ => ?_) (fun _ => ?_) | refine Wg (fun _ => ?_) (fun _ => ?_) | refine Wh (fun _ => ?_) (fun _ => ?_) | refine Wi ?_ | refine Wj ?_ | refine Wk (fun _ => ?_) (fun _ => ?_) | refine Wl (fun _ => ?_) | refine Wm (by assumption) (by omega) ?_ | refine Wn (by omega) (by omega) (fun _ _ _ => ?_) | refine Wo (by omega) (by omega) ?_ | refine Wp (by omega) (by omega) (by omega) ?_ | refine Wq (by omega) (by omega) ?_ | refine Wr (by decide) (by omega) (by omega) ?_ | refine Ws (by decide) ?_ | refine Wx (fun _ => ?_) ?_ | refine Wy (fun _ => ?_) ?_ | refine Wz (fun _ => ?_) | refine WA (fun _ => ?_) | refine WB (by assumption) (by omega) ?_ | refine WC (by omega) (by omega) (fun _ _ => ?_) | refine WD (by omega) (by omega) (fun _ _ => ?_) | refine WE (by omega) (by omega) (by omega) ?_)
    | refine on_box hb ?_
    | refine wscanX_c hl hp ?_
    | with_reducible refine WF ?_)
  all_goals exact fin h rfl
theorem llit_c {s : List UInt8} {b p sp : Nat} {ln col gap ends : Int} {toks notes : List (List V)} {w1 w2 : Own} {j : Bool} (hl : s.length ≤ 100000000) (hp : p < s.length) (hb : st.box b = some (lxC s p sp ln col toks notes w1 w2 gap ends j))
    (h : R (.ret (.agg [.int .i64 (quoF s p).1, .int .i64 (quoF s p).2.1, .int .i64 (quoF s p).2.2])) st) : PC 41 [.ptr b 0] st R := by
  refine pcalls_of_body tys_ok [] Tryz.func41 rfl (by decide) ?_
  repeat' ((conv => whnf); first
    | (with_reducible first | exact Wa | exact Wb | exact Wc | refine Wd (by kernel_rfl) ?_ | refine We ?_ ?_ ?_ | refine W8 (by decide +kernel) ?_ ?_ ?_ | refine W9 ?_ ?_ ?_ | refine Wt (by first | assumption | omega) ?_ | refine Wu (by first | assumption | omega) ?_ | refine Wv (by omega) ?_ | refine Ww (by omega) ?_ | refine Wf (by decide) (fun _ => ?_) (fun _ => ?_) | refine Wg (fun _ => ?_) (fun _ => ?_) | refine Wh (fun _ => ?_) (fun _ => ?_) | refine Wi ?_ | refine Wj ?_ | refine Wk (fun _ => ?_) (fun _ => ?_) | refine Wl (fun _ => ?_) | refine Wm (by assumption) (by omega) ?_ | refine Wn (by omega) (by omega) (fun _ _ _ => ?_) | refine Wo (by omega) (by omega) ?_ | refine Wp (by omega) (by omega) (by omega) ?_ | refine Wq (by omega) (by omega) ?_ | refine Wr (by decide) (by omega) (by omega) ?_ | refine Ws (by decide) ?_ | refine Wx (fun _ => ?_) ?_ | refine Wy (fun _ => ?_) ?_ | refine Wz (fun _ => ?_) | refine WA (fun _ => ?_) | refine WB (by assumption) (by omega) ?_ | refine WC (by omega) (by omega) (fun _ _ => ?_) | refine WD (by omega) (by omega) (fun _ _ => ?_) | refine WE (by omega) (by omega) (by omega) ?_)
    | refine on_box hb ?_
    | refine qscan_c hl hp ?_
    | with_reducible refine WF ?_)
  all_goals exact fin h rfl
theorem lexeme_c {s : List UInt8} {b p sp : Nat} {ln col gap ends : Int} {toks notes : List (List V)} {w1 w2 : Own} {j : Bool} (hl : s.length ≤ 100000000) (hp : p < s.length) (hb : st.box b = some (lxC s p sp ln col toks notes w1 w2 gap ends j))
    (h : R (.ret (.agg [.int .i64 (lexmF s p).1, .int .i64 (lexmF s p).2.1, .int .i64 (lexmF s p).2.2])) st) : PC 22 [.ptr b 0] st R := by
  refine pcalls_of_body tys_ok [] Tryz.func22 rfl (by decide) ?_
  have hh : ∀ a b c, lexmF s p = (a, b, c) → R (.ret (.agg [.int .i64 a, .int .i64 b, .int .i64 c])) st := fun a b c e => by rw [e] at h; exact h
  clear h
  unfold lexmF at hh
  repeat' ((conv => whnf); first
    | (with_reducible first | exact Wa | exact Wb | exact Wc | refine Wd (by kernel_rfl) ?_ | refine We ?_ ?_ ?_ | refine W8 (by decide +kernel) ?_ ?_ ?_ | refine W9 ?_ ?_ ?_ | refine Wt (by first | assumption | omega) ?_ | refine Wu (by first | assumption | omega) ?_ | refine Wv (by omega) ?_ | refine Ww (by omega) ?_ | refine Wf (by decide) (fun _ => ?_) (fun _ => ?_) | refine Wg (fun _ => ?_) (fun _ => ?_) | refine Wh (fun _ => ?_) (fun _ => ?_) | refine Wi ?_ | refine Wj ?_ | refine Wk (fun _ => ?_) (fun _ => ?_) | refine Wl (fun _ => ?_) | refine Wm (by assumption) (by omega) ?_ | refine Wn (by omega) (by omega) (fun _ _ _ => ?_) | refine Wo (by omega) (by omega) ?_ | refine Wp (by omega) (by omega) (by omega) ?_ | refine Wq (by omega) (by omega) ?_ | refine Wr (by decide) (by omega) (by omega) ?_ | refine Ws (by decide) ?_ | refine Wx (fun _ => ?_) ?_ | refine Wy (fun _ => ?_) ?_ | refine Wz (fun _ => ?_) | refine WA (fun _ => ?_) | refine WB (by assumption) (by omega) ?_ | refine WC (by omega) (by omega) (fun _ _ => ?_) | refine WD (by omega) (by omega) (fun _ _ => ?_) | refine WE (by omega) (by omega) (by omega) ?_)
    | refine lnum_c hl hp hb ?_
    | refine llit_c hl hp hb ?_
    | refine lwrd_c hl hp hb ?_
    | refine on_box hb ?_
    | with_reducible refine WF ?_)
  · exact fin (hh _ _ _ (by rw [if_neg (by omega), if_pos ⟨by omega, by omega⟩, if_pos (by omega)])) rfl
  · exact fin (hh _ _ _ (by rw [if_neg (by omega), if_pos ⟨by omega, by omega⟩, if_neg (by omega)])) rfl
  · exact fin (hh _ _ _ (by rw [if_neg (by omega), if_neg (fun x => by omega)])) rfl
  · exact fin (hh _ _ _ (by rw [if_neg (by omega), if_neg (fun x => by omega)])) rfl
  · exact fin (hh _ _ _ (by rw [if_pos (by omega)])) rfl
end
end Go.Proofs.YtkcapphlemoccaaGreatDoor
set_option linter.unusedVariables false
namespace Go.Proofs.YtkcapphlemoccaaGreatDoor
open Go Go.Aw
section
variable {st : St} {R : Res → St → Prop}
theorem counts_c {k ln col : Int} {t : List UInt8} (h : R (.ret (.bool (decide (¬ k = 15) || !Lib.contains [123, 125, 59] t))) st) : PC 43 [.agg [.int .i64 k, .str t, .int .i64 ln, .int .i64 col]] st R := by
  refine pcalls_of_body tys_ok [] Tryz.func43 rfl (by decide) ?_
  repeat' ((conv => whnf); first
    | (with_reducible first | exact Wa | exact Wb | exact Wc | refine Wd (by kernel_rfl) ?_ | refine We ?_ ?_ ?_ | refine W8 (by decide +kernel) ?_ ?_ ?_ | refine W9 ?_ ?_ ?_ | refine Wt (by first | assumption | omega) ?_ | refine Wu (by first | assumption | omega) ?_ | refine Wv (by omega) ?_ | refine Ww (by omega) ?_ | refine Wf (by decide) (fun _ => ?_) (fun _ => ?_) | refine Wg (fun _ => ?_) (fun _ => ?_) | refine Wh (fun _ => ?_) (fun _ => ?_) | refine Wi ?_ | refine Wj ?_ | refine Wk (fun _ => ?_) (fun _ => ?_) | refine Wl (fun _ => ?_) | refine Wm (by assumption) (by omega) ?_ | refine Wn (by omega) (by omega) (fun _ _ _ => ?_) | refine Wo (by omega) (by omega) ?_ | refine Wp (by omega) (by omega) (by omega) ?_ | refine Wq (by omega) (by omega) ?_ | refine Wr (by decide) (by omega) (by omega) ?_ | refine Ws (by decide) ?_ | refine Wx (fun _ => ?_) ?_ | refine Wy (fun _ => ?_) ?_ | refine Wz (fun _ => ?_) | refine WA (fun _ => ?_) | refine WB (by assumption) (by omega) ?_ | refine WC (by omega) (by omega) (fun _ _ => ?_) | refine WD (by omega) (by omega) (fun _ _ => ?_) | refine WE (by omega) (by omega) (by omega) ?_)
    | refine contains_c (by decide) ?_
    | with_reducible refine WF ?_)
  all_goals first
    | exact fin_bool h (by simp [*])
    | (rename_i hk _; exact fin_bool h (by simp [hk]))
theorem blanks_c {s : List UInt8} {b p sp : Nat} {ln col gap ends : Int} {toks notes : List (List V)} {w1 w2 : Own} {j : Bool} (hl : s.length ≤ 100000000) (hp : p ≤ s.length) (hb : st.box b = some (lxC s p sp ln col toks notes w1 w2 gap ends j))
    (h : R (.ret (.tup [])) (st.setBox b (lxC s (p + spanR (fun c => classF c == 1) (s.drop p)) sp ln col toks notes w1 w2 gap ends j))) : PC 19 [.ptr b 0] st R := by
  refine pcalls_of_body tys_ok [] Tryz.func19 rfl (by decide) ?_
  repeat' ((conv => whnf); first
    | refine draw_mix [(0, true), (1, true), (2, true), (3, true), (4, true), (5, true), (6, true), (7, true), (8, true), (9, false), (10, true), (11, true), (12, false)] [] (by decide +kernel) ?_
    | (with_reducible first | exact Wa | exact Wb | exact Wc | refine Wd (by kernel_rfl) ?_ | refine We ?_ ?_ ?_ | refine W8 (by decide +kernel) ?_ ?_ ?_ | refine W9 ?_ ?_ ?_ | refine Wt (by first | assumption | omega) ?_ | refine Wu (by first | assumption | omega) ?_ | refine Wv (by omega) ?_ | refine Ww (by omega) ?_ | refine Wf (by decide) (fun _ => ?_) (fun _ => ?_) | refine Wg (fun _ => ?_) (fun _ => ?_) | refine Wh (fun _ => ?_) (fun _ => ?_) | refine Wi ?_ | refine Wj ?_ | refine Wk (fun _ => ?_) (fun _ => ?_) | refine Wl (fun _ => ?_) | refine Wm (by assumption) (by omega) ?_ | refine Wn (by omega) (by omega) (fun _ _ _ => ?_) | refine Wo (by omega) (by omega) ?_ | refine Wp (by omega) (by omega) (by omega) ?_ | refine Wq (by omega) (by omega) ?_ | refine Wr (by decide) (by omega) (by omega) ?_ | refine Ws (by decide) ?_ | refine Wx (fun _ => ?_) ?_ | refine Wy (fun _ => ?_) ?_ | refine Wz (fun _ => ?_) | refine WA (fun _ => ?_) | refine WB (by assumption) (by omega) ?_ | refine WC (by omega) (by omega) (fun _ _ => ?_) | refine WD (by omega) (by omega) (fun _ _ => ?_) | refine WE (by omega) (by omega) (by omega) ?_)
    | refine on_box hb ?_
    | refine run_blank hl hp rfl rfl ?_
    | with_reducible refine WF ?_)
  all_goals exact fin h rfl
end
end Go.Proofs.YtkcapphlemoccaaGreatDoor
set_option linter.unusedVariables false
namespace Go.Aw
open Go
def pieceF (s : List UInt8) (a b : Nat) : List UInt8 := (s.take b).drop a
theorem piece_k {s : List UInt8} {a b : Nat} {K : List UInt8 → Prop} (h1 : a ≤ b) (h2 : b ≤ s.length) (k : K (pieceF s a b)) :
    (0 ≤ (a : Int) ∧ (a : Int) ≤ b ∧ (b : Int) ≤ s.length) ∧ ∀ s', s' = (s.take (b : Int).toNat).drop (a : Int).toNat → K s' :=
  ⟨⟨by omega, by omega, by omega⟩, fun s' e => by
    rw [show (b : Int).toNat = b by omega, show (a : Int).toNat = a by omega] at e
    subst e; exact k⟩
end Go.Aw
namespace Go.Proofs.YtkcapphlemoccaaGreatDoor
open Go Go.Aw
section
variable {st : St} {R : Res → St → Prop}
theorem to_c {s : List UInt8} {b p sp q : Nat} {ln col gap ends : Int} {toks notes : List (List V)} {w1 w2 : Own} {j : Bool} (hl : s.length ≤ 100000000) (hsp : sp ≤ q) (hq : q ≤ s.length) (hln : 1 ≤ ln ∧ ln ≤ 1000000000) (hcol : 1 ≤ col ∧ col ≤ 2147483648)
    (hw : 1 ≤ (walkP (pieceF s sp q) (pieceF s sp q).length (1, 1)).1 ∧ (walkP (pieceF s sp q) (pieceF s sp q).length (1, 1)).1 ≤ 1000000000)
    (hb : st.box b = some (lxC s p sp ln col toks notes w1 w2 gap ends j))
    (h : R (.ret (.tup [.int .i64 (ln + (walkP (pieceF s sp q) (pieceF s sp q).length (1, 1)).1 - 1), .int .i64 (walkP (pieceF s sp q) (pieceF s sp q).length (1, col)).2]))
      (st.setBox b (lxC s p q (ln + (walkP (pieceF s sp q) (pieceF s sp q).length (1, 1)).1 - 1) (walkP (pieceF s sp q) (pieceF s sp q).length (1, col)).2 toks notes w1 w2 gap ends j))) : PC 39 [.ptr b 0, .int .i64 q] st R := by
  have hpl : (pieceF s sp q).length ≤ 100000000 := by unfold pieceF; rw [List.length_drop, List.length_take]; omega
  have b2 : ∀ cs, (st.setBox b cs).box b = some cs := fun cs => St.box_at _ _ _
  refine pcalls_of_body tys_ok [] Tryz.func39 rfl (by decide) ?_
  repeat' ((conv => whnf); first
    | (with_reducible first | exact Wa | exact Wb | exact Wc | refine Wd (by kernel_rfl) ?_ | refine We ?_ ?_ ?_ | refine W8 (by decide +kernel) ?_ ?_ ?_ | refine W9 ?_ ?_ ?_ | refine Wt (by first | assumption | omega) ?_ | refine Wu (by first | assumption | omega) ?_ | refine Wv (by omega) ?_ | refine Ww (by omega) ?_ | refine Wf (by decide) (fun _ => ?_) (fun _ => ?_) | refine Wg (fun _ => ?_) (fun _ => ?_) | refine Wh (fun _ => ?_) (fun _ => ?_) | refine Wi ?_ | refine Wj ?_ | refine Wk (fun _ => ?_) (fun _ => ?_) | refine Wl (fun _ => ?_) | refine Wm (by assumption) (by omega) ?_ | refine Wn (by omega) (by omega) (fun _ _ _ => ?_) | refine Wo (by omega) (by omega) ?_ | refine Wp (by omega) (by omega) (by omega) ?_ | refine Wq (by omega) (by omega) ?_ | refine Wr (by decide) (by omega) (by omega) ?_ | refine Ws (by decide) ?_ | refine Wx (fun _ => ?_) ?_ | refine Wy (fun _ => ?_) ?_ | refine Wz (fun _ => ?_) | refine WA (fun _ => ?_) | refine WB (by assumption) (by omega) ?_ | refine WC (by omega) (by omega) (fun _ _ => ?_) | refine WD (by omega) (by omega) (fun _ _ => ?_) | refine WE (by omega) (by omega) (by omega) ?_)
    | refine piece_k hsp hq ?_
    | refine (fun (_ : (pieceF s sp q).length < lim) => ?_)
    | refine of_c hpl (Nat.le_refl _) ?_
    | refine width_c hpl hcol.1 hcol.2 ?_
    | refine on_box hb ?_
    | refine on_box (b2 _) ?_
    | with_reducible refine WF ?_)
  all_goals exact fin h rfl
end
end Go.Proofs.YtkcapphlemoccaaGreatDoor
set_option linter.unusedVariables false
namespace Go.Aw
open Go
def placeF (s : List UInt8) (a b : Nat) (p : Int × Int) : Int × Int := walkP (pieceF s a b) (pieceF s a b).length p
theorem piece_len {s : List UInt8} {a b : Nat} (h1 : a ≤ b) (h2 : b ≤ s.length) : (pieceF s a b).length = b - a := by
  unfold pieceF; rw [List.length_drop, List.length_take]; omega
theorem place_b {s : List UInt8} {a b : Nat} {p : Int × Int} (h1 : a ≤ b) (h2 : b ≤ s.length) (h : 1 ≤ p.2) : p.1 ≤ (placeF s a b p).1 ∧ (placeF s a b p).1 ≤ p.1 + (b - a : Nat) ∧ 1 ≤ (placeF s a b p).2 ∧ (placeF s a b p).2 ≤ p.2 + 8 * (b - a : Nat) := by
  have := walk_b _ (pieceF s a b) (pieceF s a b).length p (Nat.le_refl _) h
  rw [piece_len h1 h2] at this
  unfold placeF
  rw [piece_len h1 h2]
  omega
end Go.Aw
namespace Go.Proofs.YtkcapphlemoccaaGreatDoor
open Go Go.Aw
section
variable {st : St} {R : Res → St → Prop}
theorem to_k {s : List UInt8} {b p sp q : Nat} {ln col gap ends : Int} {toks notes : List (List V)} {w1 w2 : Own} {j : Bool} (hl : s.length ≤ 100000000) (hsp : sp ≤ q) (hq : q ≤ s.length) (hln : 1 ≤ ln ∧ ln ≤ 1000000000) (hcol : 1 ≤ col ∧ col ≤ 2147483648)
    (hb : st.box b = some (lxC s p sp ln col toks notes w1 w2 gap ends j))
    (h : R (.ret (.tup [.int .i64 (placeF s sp q (ln, col)).1, .int .i64 (placeF s sp q (ln, col)).2]))
      (st.setBox b (lxC s p q (placeF s sp q (ln, col)).1 (placeF s sp q (ln, col)).2 toks notes w1 w2 gap ends j))) : PC 39 [.ptr b 0, .int .i64 q] st R := by
  have hlen := piece_len hsp hq
  have h1 := walk_b _ (pieceF s sp q) (pieceF s sp q).length (1, 1) (Nat.le_refl _) (by decide)
  have h2 := walk_line _ (pieceF s sp q) (pieceF s sp q).length 1 1 col ln (Nat.le_refl _)
  have h3 := walk_col _ (pieceF s sp q) (pieceF s sp q).length 1 col ln (Nat.le_refl _)
  have e1 : ln + (walkP (pieceF s sp q) (pieceF s sp q).length (1, 1)).1 - 1 = (placeF s sp q (ln, col)).1 := by unfold placeF; omega
  have e2 : (walkP (pieceF s sp q) (pieceF s sp q).length (1, col)).2 = (placeF s sp q (ln, col)).2 := h3
  refine to_c hl hsp hq hln hcol ⟨by dsimp only at h1; omega, by dsimp only at h1; omega⟩ hb ?_
  rw [e1, e2]
  exact h
end
end Go.Proofs.YtkcapphlemoccaaGreatDoor
set_option linter.unusedVariables false
set_option linter.unusedSimpArgs false
namespace Go.Aw
open Go
theorem walk_add {l : List UInt8} {a : Nat} (h : Cut l a) (k : Nat) (p : Int × Int) : walkP l (a + k) p = walkP (l.drop a) k (walkP l a p) := by
  induction h generalizing p with
  | zero l => rw [walkP_zero, Nat.zero_add, List.drop_zero]
  | @step l j hne h ih =>
    rw [walkP_go hne (by omega), walkP_go (k := stepN l + j) hne (by omega), show stepN l + j + k - stepN l = j + k by omega, show stepN l + j - stepN l = j by omega, ih, List.drop_drop]
theorem hdF_take {l : List UInt8} {m : Nat} (h : 0 < m) : hdF (l.take m) = hdF l := by
  cases l with
  | nil => rw [List.take_nil]
  | cons a r =>
    obtain ⟨m, rfl⟩ : ∃ k, m = k + 1 := ⟨m - 1, by omega⟩
    rfl
theorem hdF_take1 {l : List UInt8} {m : Nat} : hdF ((l.take m).drop 1) = if 1 < m then hdF (l.drop 1) else -1 := by
  rw [List.drop_take]
  by_cases h : 1 < m
  · rw [if_pos h, hdF_take (by omega)]
  · rw [if_neg h, show m - 1 = 0 by omega, List.take_zero]; rfl
theorem nlF_take {l : List UInt8} {m : Nat} (h : 0 < m) (h2 : nlF l ≤ m) : nlF (l.take m) = nlF l := by
  rcases nlF_cases l with ⟨e, h1⟩ | ⟨e, h1, h3⟩ | ⟨e, h1, h3⟩
  · rw [e]; unfold nlF; rw [hdF_take h, if_neg (fun x => h1 (.inl x.1)), if_neg h1]
  · rw [e]; unfold nlF; rw [hdF_take h, hdF_take1, if_neg, if_pos h1]
    rintro ⟨x, y⟩
    split at y
    · exact h3 ⟨x, y⟩
    · exact absurd y (by decide)
  · rw [e]; unfold nlF; rw [hdF_take h, hdF_take1, if_pos (show 1 < m by omega), if_pos ⟨h1, h3⟩]
theorem walk_take {l : List UInt8} {k : Nat} (h : Cut l k) (hv : Vd l) (p : Int × Int) : walkP (l.take k) k p = walkP l k p := by
  induction h generalizing p with
  | zero l => rw [walkP_zero, walkP_zero]
  | @step l j hne h ih =>
    have h1 := stepN_le hne
    have hn : nlF (l.take (stepN l + j)) = nlF l := nlF_take (by omega) (by
      by_cases hc : 0 < nlF l
      · have e : stepN l = nlF l := if_pos hc
        omega
      · omega)
    have hr := hv.rune hne
    have es : stepN (l.take (stepN l + j)) = stepN l := by
      by_cases hc : 0 < nlF l
      · have e3 : stepN (l.take (stepN l + j)) = nlF (l.take (stepN l + j)) := if_pos (by rw [hn]; exact hc)
        rw [e3, hn]; exact (if_pos hc).symm
      · have e1 : stepN l = (decR l).2 := if_neg hc
        have e2 : decR (l.take (stepN l + j)) = decR l := by
          have := decR_pre hne hr.1 ((l.take (stepN l + j)).drop (decR l).2)
          rwa [show l.take (decR l).2 = (l.take (stepN l + j)).take (decR l).2 by rw [List.take_take, Nat.min_eq_left (by omega)], List.take_append_drop] at this
        have e3 : stepN (l.take (stepN l + j)) = (decR (l.take (stepN l + j))).2 := if_neg (by rw [hn]; exact hc)
        rw [e3, e2]; exact e1.symm
    have hne' : l.take (stepN l + j) ≠ [] := fun e => by
      have := congrArg List.length e
      rw [List.length_take, List.length_nil] at this; omega
    have hv' : Vd (l.drop (stepN l)) := (Cut.step hne (.zero (l.drop (stepN l)))).bd.vd hv
    rw [walkP_go hne' (by omega), walkP_go hne (by omega), es, show stepN l + j - stepN l = j by omega, List.drop_take, show stepN l + j - stepN l = j by omega, ih hv']
    congr 1
    unfold stepL stepC
    rw [hn, hdF_take (by omega)]
def atP (s : List UInt8) (p : Nat) : Int × Int := walkP s p (1, 1)
theorem place_at {s : List UInt8} {a b : Nat} (hv : Vd s) (ha : Cut s a) (hb : Cut (s.drop a) (b - a)) (h : a ≤ b) (hl : b ≤ s.length) : placeF s a b (atP s a) = atP s b := by
  have e : pieceF s a b = (s.drop a).take (b - a) := by unfold pieceF; rw [List.drop_take]
  have hp := piece_len h hl
  unfold placeF atP
  rw [hp, e, walk_take hb (ha.bd.vd hv), ← walk_add ha, show a + (b - a) = b by omega]
end Go.Aw
set_option linter.unusedVariables false
set_option linter.unusedSimpArgs false
namespace Go.Aw
open Go
def tr (l : List UInt8) (m : Nat) (r : List UInt8) : List UInt8 := l.take m ++ r
def Brk (r : List UInt8) : Prop := hdF r = -1 ∨ hdF r = 32 ∨ hdF r = 10
theorem hdF_nil {r : List UInt8} (h : hdF r = -1) : r = [] := by
  cases r with
  | nil => rfl
  | cons a r => have h : ((a.toNat : Nat) : Int) = -1 := h; omega
theorem tr_zero {l r : List UInt8} : tr l 0 r = r := by unfold tr; rw [List.take_zero]; rfl
theorem tr_drop {l r : List UInt8} {m j : Nat} (h : j ≤ m) (hm : m ≤ l.length) : (tr l m r).drop j = tr (l.drop j) (m - j) r := by
  unfold tr; rw [List.drop_append_of_le_length (by rw [List.length_take]; omega), List.drop_take]
theorem tr_hd {l r : List UInt8} {m : Nat} (h : 0 < m) (hm : m ≤ l.length) : hdF (tr l m r) = hdF l := by
  cases l with
  | nil => simp only [List.length_nil] at hm; omega
  | cons a l =>
    obtain ⟨m, rfl⟩ : ∃ k, m = k + 1 := ⟨m - 1, by omega⟩
    rfl
theorem tr_hd_at {l r : List UInt8} {m j : Nat} (h : j < m) (hm : m ≤ l.length) : hdF ((tr l m r).drop j) = hdF (l.drop j) := by
  rw [tr_drop (by omega) hm, tr_hd (by omega) (by rw [List.length_drop]; omega)]
theorem tr_take {l r : List UInt8} {m n : Nat} (h : n ≤ m) (hm : m ≤ l.length) : (tr l m r).take n = l.take n := by
  unfold tr
  rw [List.take_append_of_le_length (by rw [List.length_take]; omega), List.take_take, Nat.min_eq_left h]
theorem tr_len {l r : List UInt8} {m : Nat} (hm : m ≤ l.length) : (tr l m r).length = m + r.length := by
  unfold tr; rw [List.length_append, List.length_take, Nat.min_eq_left hm]
theorem dec_tr {l r : List UInt8} {m : Nat} (hv : Vd l) (h0 : 0 < m) (hm : m ≤ l.length) (hb : Bd l m) : decR (tr l m r) = decR l ∧ (decR l).2 ≤ m := by
  have hne : l ≠ [] := fun e => by rw [e] at hm; simp only [List.length_nil] at hm; omega
  have hd : (decR l).2 ≤ m := by
    cases hb with
    | zero => omega
    | step _ _ => omega
  have := decR_pre hne (hv.rune hne).1 ((l.take m).drop (decR l).2 ++ r)
  rw [← List.append_assoc] at this
  rw [show l.take (decR l).2 = (l.take m).take (decR l).2 by rw [List.take_take, Nat.min_eq_left hd], List.take_append_drop] at this
  exact ⟨this, hd⟩
theorem span_tr {p : Nat × Nat → Bool} {l r : List UInt8} {m : Nat} (hv : Vd l) (hb : Bd l m) (hm : m ≤ l.length) (hr : spanD p r = 0) (h : spanD p l ≤ m) : spanD p (tr l m r) = spanD p l := by
  induction hb with
  | zero l => rw [tr_zero, hr]; omega
  | @step l k hne hb ih =>
    have hp := decR_pos l
    have hd := dec_tr (r := r) hv (by omega) hm (.step hne hb)
    have hne' : tr l ((decR l).2 + k) r ≠ [] := fun e => by
      have := congrArg List.length e
      rw [tr_len hm] at this; simp only [List.length_nil] at this; omega
    cases hc : p (decR l) with
    | false => rw [spanD_no hc, spanD_no (by rw [hd.1]; exact hc)]
    | true =>
      rw [spanD_yes hne hc] at h ⊢
      rw [spanD_yes hne' (by rw [hd.1]; exact hc), hd.1, tr_drop (by omega) hm, show (decR l).2 + k - (decR l).2 = k by omega, ih (hv.rune hne).2 (by rw [List.length_drop]; omega) (by omega)]
theorem brk_dec {r : List UInt8} (hr : Brk r) : r = [] ∨ (r ≠ [] ∧ (((decR r).1 : Nat) : Int) = 32) ∨ (r ≠ [] ∧ (((decR r).1 : Nat) : Int) = 10) := by
  rcases hr with h | h | h
  · exact .inl (hdF_nil h)
  · exact .inr (.inl ⟨fun e => by rw [e] at h; exact absurd h (by decide), by rw [(decR_hd (by omega) (by omega)).2, h]⟩)
  · exact .inr (.inr ⟨fun e => by rw [e] at h; exact absurd h (by decide), by rw [(decR_hd (by omega) (by omega)).2, h]⟩)
theorem span_brk {p : Int → Bool} {r : List UInt8} (hr : Brk r) (h1 : p 32 = false) (h2 : p 10 = false) : spanR p r = 0 := by
  rcases brk_dec hr with rfl | ⟨_, h⟩ | ⟨_, h⟩
  · exact spanR_nil p
  · exact spanR_no (by rw [h]; exact h1)
  · exact spanR_no (by rw [h]; exact h2)
theorem Bd.sub {l : List UInt8} {i j : Nat} (h : Bd l i) (k : Bd l j) (hij : i ≤ j) : Bd (l.drop i) (j - i) := by
  induction h generalizing j with
  | zero l => exact k
  | @step l i hne h ih =>
    cases k with
    | zero => have := decR_pos l; omega
    | @step _ j' _ k =>
      rw [show (decR l).2 + j' - ((decR l).2 + i) = j' - i by omega, ← List.drop_drop]
      exact ih k (by omega)
theorem scanG_ge (s : List UInt8) (n : Nat) (k : Int) : n ≤ (scanG s n k).2 := by
  fun_induction scanG s n k with
  | case1 n k hn hc ih => omega
  | case2 n k hn hc => exact Nat.le_refl _
  | case3 n k hn => exact Nat.le_refl _
theorem plain_pos {l : List UInt8} (h : (plainF l).1 ≠ 0) : 0 < (plainF l).2 := by
  by_cases h0 : 0 < (plainF l).2
  · exact h0
  · exfalso
    cases l with
    | nil => exact h rfl
    | cons a r =>
      have hne : a :: r ≠ [] := by simp
      have hp := decR_pos (a :: r)
      apply h
      unfold plainF at h0 ⊢
      split
      · rename_i h6; rw [if_pos h6] at h0; simp only at h0; omega
      · rename_i h6
        rw [if_neg h6] at h0
        have key : ∀ p : Int → Bool, p (((decR (a :: r)).1 : Nat) : Int) = true → 0 < spanR p (a :: r) := fun p hp' => by
          rw [spanR_yes hne hp']; omega
        split
        · rename_i h5
          rw [if_pos h5] at h0
          have := key (fun c => classF c == 5) (beq_iff_eq.2 h5)
          simp only at h0; omega
        · rename_i h5
          rw [if_neg h5] at h0
          split
          · rename_i h3
            rw [if_pos h3] at h0
            have h3' : classF (((decR (a :: r)).1 : Nat) : Int) = 3 := h3
            have := key inName (by unfold inName; rw [h3']; rfl)
            unfold nameN at h0; simp only at h0; omega
          · rename_i h3
            rw [if_neg h3] at h0
            split
            · rename_i h2
              rw [if_pos h2] at h0
              have h2' : classF (((decR (a :: r)).1 : Nat) : Int) = 2 := h2
              have := key inName (by unfold inName; rw [h2']; rfl)
              unfold nameN at h0; simp only at h0; omega
            · rfl
end Go.Aw
set_option linter.unusedVariables false
namespace Go.Aw
open Go
def tokV (k : Int) (t : List UInt8) (p : Int × Int) : List V := [.int .i64 k, .str t, .int .i64 p.1, .int .i64 p.2]
theorem rows_tok {st0 st : St} {w1 w2 : Own} {n2 : Nat} {o : List (List V)} {k a b : Int} {t : List UInt8} {K : V → St → Prop} (h : Rows2 st0 st w1 (o.length * 4) w2 n2) (hl : o.length ≤ 1000000000)
    (kk : ∀ w1' st', Rows2 st0 st' w1' ((o.length + 1) * 4) w2 n2 → st'.box = st.box → K (.slice 4 (o ++ [tokV k t (a, b)]) w1') st') : appendTo 4 40 o w1 [[.int .i64 k, .str t, .int .i64 a, .int .i64 b]] st K :=
  rows2_app h rfl (by rw [List.length_singleton]; omega) (by rw [List.length_singleton]; unfold lim; omega) rfl (by simp) (fun w1' st' hr hb => kk w1' st' hr hb)
end Go.Aw
namespace Go.Proofs.YtkcapphlemoccaaGreatDoor
open Go Go.Aw
section
variable {st : St} {R : Res → St → Prop}
attribute [local irreducible] Go.Aw.appendTo
theorem token_c {st0 : St} {s : List UInt8} {b p sp q n2 : Nat} {k e0 ln col gap ends : Int} {toks notes : List (List V)} {w1 w2 : Own} {j : Bool} (hl : s.length ≤ 100000000) (hsp : sp ≤ p) (hpq : p ≤ q) (hq : q ≤ s.length) (hln : 1 ≤ ln ∧ ln ≤ 800000000) (hcol : 1 ≤ col ∧ col ≤ 1000000000)
    (hg : 0 ≤ gap ∧ gap ≤ 1000000000) (ht : toks.length ≤ 1000000000) (hb0 : st0.box b = none) (hR : Rows2 st0 st w1 (toks.length * 4) w2 n2) (hb : st.box b = some (lxC s p sp ln col toks notes w1 w2 gap ends j))
    (h : ∀ w1' st', Rows2 st0 st' w1' ((toks.length + 1) * 4) w2 n2 → st'.box b = some (lxC s q q (placeF s p q (placeF s sp p (ln, col))).1 (placeF s p q (placeF s sp p (ln, col))).2 (toks ++ [tokV k (pieceF s p q) (placeF s sp p (ln, col))]) notes w1' w2
        (if decide (¬ k = 15) || !Lib.contains [123, 125, 59] (pieceF s p q) then gap + 1 else gap) (placeF s p q (placeF s sp p (ln, col))).1 true) → R (.ret (.tup [])) st') : PC 23 [.ptr b 0, .agg [.int .i64 k, .int .i64 q, .int .i64 e0]] st R := by
  have z1 := place_b (s := s) (p := (ln, col)) hsp (by omega) hcol.1
  refine pcalls_of_aw tys_ok [] Tryz.func23 rfl (by decide) rfl ?_
  refine AW_seq2 (aw_of tys_ok ?_)
  repeat' ((conv => whnf); first
    | (with_reducible first | exact Wa | exact Wb | exact Wc | refine Wd (by kernel_rfl) ?_ | refine We ?_ ?_ ?_ | refine W8 (by decide +kernel) ?_ ?_ ?_ | refine W9 ?_ ?_ ?_ | refine Wt (by first | assumption | omega) ?_ | refine Wu (by first | assumption | omega) ?_ | refine Wv (by omega) ?_ | refine Ww (by omega) ?_ | refine Wf (by decide) (fun _ => ?_) (fun _ => ?_) | refine Wg (fun _ => ?_) (fun _ => ?_) | refine Wh (fun _ => ?_) (fun _ => ?_) | refine Wi ?_ | refine Wj ?_ | refine Wk (fun _ => ?_) (fun _ => ?_) | refine Wl (fun _ => ?_) | refine Wm (by assumption) (by omega) ?_ | refine Wn (by omega) (by omega) (fun _ _ _ => ?_) | refine Wo (by omega) (by omega) ?_ | refine Wp (by omega) (by omega) (by omega) ?_ | refine Wq (by omega) (by omega) ?_ | refine Wr (by decide) (by omega) (by omega) ?_ | refine Ws (by decide) ?_ | refine Wx (fun _ => ?_) ?_ | refine Wy (fun _ => ?_) ?_ | refine Wz (fun _ => ?_) | refine WA (fun _ => ?_) | refine WB (by assumption) (by omega) ?_ | refine WC (by omega) (by omega) (fun _ _ => ?_) | refine WD (by omega) (by omega) (fun _ _ => ?_) | refine WE (by omega) (by omega) (by omega) ?_)
    | with_reducible refine WF ?_)
  refine AW_seq2 (aw_of tys_ok ?_)
  repeat' ((conv => whnf); first
    | (with_reducible first | exact Wa | exact Wb | exact Wc | refine Wd (by kernel_rfl) ?_ | refine We ?_ ?_ ?_ | refine W8 (by decide +kernel) ?_ ?_ ?_ | refine W9 ?_ ?_ ?_ | refine Wt (by first | assumption | omega) ?_ | refine Wu (by first | assumption | omega) ?_ | refine Wv (by omega) ?_ | refine Ww (by omega) ?_ | refine Wf (by decide) (fun _ => ?_) (fun _ => ?_) | refine Wg (fun _ => ?_) (fun _ => ?_) | refine Wh (fun _ => ?_) (fun _ => ?_) | refine Wi ?_ | refine Wj ?_ | refine Wk (fun _ => ?_) (fun _ => ?_) | refine Wl (fun _ => ?_) | refine Wm (by assumption) (by omega) ?_ | refine Wn (by omega) (by omega) (fun _ _ _ => ?_) | refine Wo (by omega) (by omega) ?_ | refine Wp (by omega) (by omega) (by omega) ?_ | refine Wq (by omega) (by omega) ?_ | refine Wr (by decide) (by omega) (by omega) ?_ | refine Ws (by decide) ?_ | refine Wx (fun _ => ?_) ?_ | refine Wy (fun _ => ?_) ?_ | refine Wz (fun _ => ?_) | refine WA (fun _ => ?_) | refine WB (by assumption) (by omega) ?_ | refine WC (by omega) (by omega) (fun _ _ => ?_) | refine WD (by omega) (by omega) (fun _ _ => ?_) | refine WE (by omega) (by omega) (by omega) ?_)
    | refine to_k hl hsp (by omega) (by omega) (by omega) hb ?_
    | refine on_box hb ?_
    | with_reducible refine WF ?_)
  generalize placeF s sp p (ln, col) = pl1 at h z1 ⊢
  have z2 := place_b (s := s) (p := pl1) hpq hq z1.2.2.1
  dsimp only at z1 z2
  refine AW_seq2 (aw_of tys_ok ?_)
  repeat' ((conv => whnf); first
    | (with_reducible first | exact Wa | exact Wb | exact Wc | refine Wd (by kernel_rfl) ?_ | refine We ?_ ?_ ?_ | refine W8 (by decide +kernel) ?_ ?_ ?_ | refine W9 ?_ ?_ ?_ | refine Wt (by first | assumption | omega) ?_ | refine Wu (by first | assumption | omega) ?_ | refine Wv (by omega) ?_ | refine Ww (by omega) ?_ | refine Wf (by decide) (fun _ => ?_) (fun _ => ?_) | refine Wg (fun _ => ?_) (fun _ => ?_) | refine Wh (fun _ => ?_) (fun _ => ?_) | refine Wi ?_ | refine Wj ?_ | refine Wk (fun _ => ?_) (fun _ => ?_) | refine Wl (fun _ => ?_) | refine Wm (by assumption) (by omega) ?_ | refine Wn (by omega) (by omega) (fun _ _ _ => ?_) | refine Wo (by omega) (by omega) ?_ | refine Wp (by omega) (by omega) (by omega) ?_ | refine Wq (by omega) (by omega) ?_ | refine Wr (by decide) (by omega) (by omega) ?_ | refine Ws (by decide) ?_ | refine Wx (fun _ => ?_) ?_ | refine Wy (fun _ => ?_) ?_ | refine Wz (fun _ => ?_) | refine WA (fun _ => ?_) | refine WB (by assumption) (by omega) ?_ | refine WC (by omega) (by omega) (fun _ _ => ?_) | refine WD (by omega) (by omega) (fun _ _ => ?_) | refine WE (by omega) (by omega) (by omega) ?_)
    | refine piece_k hpq hq ?_
    | refine on_box (St.box_at _ _ _) ?_
    | with_reducible refine WF ?_)
  refine AW_seq2 (aw_of tys_ok ?_)
  repeat' ((conv => whnf); first
    | refine draw_mix [(0, true), (1, true), (2, true), (3, true), (4, true), (5, true), (6, true), (7, false), (8, true), (9, true), (10, false)] [] (by decide +kernel) ?_
    | (with_reducible first | exact Wa | exact Wb | exact Wc | refine Wd (by kernel_rfl) ?_ | refine We ?_ ?_ ?_ | refine W8 (by decide +kernel) ?_ ?_ ?_ | refine W9 ?_ ?_ ?_ | refine Wt (by first | assumption | omega) ?_ | refine Wu (by first | assumption | omega) ?_ | refine Wv (by omega) ?_ | refine Ww (by omega) ?_ | refine Wf (by decide) (fun _ => ?_) (fun _ => ?_) | refine Wg (fun _ => ?_) (fun _ => ?_) | refine Wh (fun _ => ?_) (fun _ => ?_) | refine Wi ?_ | refine Wj ?_ | refine Wk (fun _ => ?_) (fun _ => ?_) | refine Wl (fun _ => ?_) | refine Wm (by assumption) (by omega) ?_ | refine Wn (by omega) (by omega) (fun _ _ _ => ?_) | refine Wo (by omega) (by omega) ?_ | refine Wp (by omega) (by omega) (by omega) ?_ | refine Wq (by omega) (by omega) ?_ | refine Wr (by decide) (by omega) (by omega) ?_ | refine Ws (by decide) ?_ | refine Wx (fun _ => ?_) ?_ | refine Wy (fun _ => ?_) ?_ | refine Wz (fun _ => ?_) | refine WA (fun _ => ?_) | refine WB (by assumption) (by omega) ?_ | refine WC (by omega) (by omega) (fun _ _ => ?_) | refine WD (by omega) (by omega) (fun _ _ => ?_) | refine WE (by omega) (by omega) (by omega) ?_)
    | refine on_box (St.box_at _ _ _) ?_
    | refine rows_tok (hR.set hb0 _) ht (fun w1' st1 hr1 hb1 => ?_)
    | refine on_box ((congrFun hb1 b).trans (St.box_at _ _ _)) ?_
    | with_reducible refine WF ?_)
  clear hR hb
  rcases hc : (decide (¬ k = 15) || !Lib.contains [123, 125, 59] (pieceF s p q)) with _ | _
  all_goals rw [hc] at h
  · have hcc : ∀ {st : St} {R : Res → St → Prop}, R (.ret (.bool false)) st → PC 43 [.agg [.int .i64 k, .str (pieceF s p q), .int .i64 pl1.1, .int .i64 pl1.2]] st R := fun h => counts_c (by rw [hc]; exact h)
    refine AW_seq2 (aw_of tys_ok ?_)
    repeat' ((conv => whnf); first
      | (with_reducible first | exact Wa | exact Wb | exact Wc | refine Wd (by kernel_rfl) ?_ | refine We ?_ ?_ ?_ | refine W8 (by decide +kernel) ?_ ?_ ?_ | refine W9 ?_ ?_ ?_ | refine Wt (by first | assumption | omega) ?_ | refine Wu (by first | assumption | omega) ?_ | refine Wv (by omega) ?_ | refine Ww (by omega) ?_ | refine Wf (by decide) (fun _ => ?_) (fun _ => ?_) | refine Wg (fun _ => ?_) (fun _ => ?_) | refine Wh (fun _ => ?_) (fun _ => ?_) | refine Wi ?_ | refine Wj ?_ | refine Wk (fun _ => ?_) (fun _ => ?_) | refine Wl (fun _ => ?_) | refine Wm (by assumption) (by omega) ?_ | refine Wn (by omega) (by omega) (fun _ _ _ => ?_) | refine Wo (by omega) (by omega) ?_ | refine Wp (by omega) (by omega) (by omega) ?_ | refine Wq (by omega) (by omega) ?_ | refine Wr (by decide) (by omega) (by omega) ?_ | refine Ws (by decide) ?_ | refine Wx (fun _ => ?_) ?_ | refine Wy (fun _ => ?_) ?_ | refine Wz (fun _ => ?_) | refine WA (fun _ => ?_) | refine WB (by assumption) (by omega) ?_ | refine WC (by omega) (by omega) (fun _ _ => ?_) | refine WD (by omega) (by omega) (fun _ _ => ?_) | refine WE (by omega) (by omega) (by omega) ?_)
      | refine hcc ?_
      | refine on_box (St.box_at _ _ _) ?_
      | with_reducible refine WF ?_)
    refine aw_of tys_ok ?_
    repeat' ((conv => whnf); first
      | (with_reducible first | exact Wa | exact Wb | exact Wc | refine Wd (by kernel_rfl) ?_ | refine We ?_ ?_ ?_ | refine W8 (by decide +kernel) ?_ ?_ ?_ | refine W9 ?_ ?_ ?_ | refine Wt (by first | assumption | omega) ?_ | refine Wu (by first | assumption | omega) ?_ | refine Wv (by omega) ?_ | refine Ww (by omega) ?_ | refine Wf (by decide) (fun _ => ?_) (fun _ => ?_) | refine Wg (fun _ => ?_) (fun _ => ?_) | refine Wh (fun _ => ?_) (fun _ => ?_) | refine Wi ?_ | refine Wj ?_ | refine Wk (fun _ => ?_) (fun _ => ?_) | refine Wl (fun _ => ?_) | refine Wm (by assumption) (by omega) ?_ | refine Wn (by omega) (by omega) (fun _ _ _ => ?_) | refine Wo (by omega) (by omega) ?_ | refine Wp (by omega) (by omega) (by omega) ?_ | refine Wq (by omega) (by omega) ?_ | refine Wr (by decide) (by omega) (by omega) ?_ | refine Ws (by decide) ?_ | refine Wx (fun _ => ?_) ?_ | refine Wy (fun _ => ?_) ?_ | refine Wz (fun _ => ?_) | refine WA (fun _ => ?_) | refine WB (by assumption) (by omega) ?_ | refine WC (by omega) (by omega) (fun _ _ => ?_) | refine WD (by omega) (by omega) (fun _ _ => ?_) | refine WE (by omega) (by omega) (by omega) ?_)
      | refine to_k hl hpq hq (by omega) (by omega) (St.box_at _ _ _) ?_
      | refine on_box (St.box_at _ _ _) ?_
      | with_reducible refine WF ?_)
    all_goals exact fin (h w1' _ ((((hr1.set hb0 _).set hb0 _).set hb0 _).set hb0 _) (St.box_at _ _ _)) rfl
  · have hcc : ∀ {st : St} {R : Res → St → Prop}, R (.ret (.bool true)) st → PC 43 [.agg [.int .i64 k, .str (pieceF s p q), .int .i64 pl1.1, .int .i64 pl1.2]] st R := fun h => counts_c (by rw [hc]; exact h)
    refine AW_seq2 (aw_of tys_ok ?_)
    repeat' ((conv => whnf); first
      | (with_reducible first | exact Wa | exact Wb | exact Wc | refine Wd (by kernel_rfl) ?_ | refine We ?_ ?_ ?_ | refine W8 (by decide +kernel) ?_ ?_ ?_ | refine W9 ?_ ?_ ?_ | refine Wt (by first | assumption | omega) ?_ | refine Wu (by first | assumption | omega) ?_ | refine Wv (by omega) ?_ | refine Ww (by omega) ?_ | refine Wf (by decide) (fun _ => ?_) (fun _ => ?_) | refine Wg (fun _ => ?_) (fun _ => ?_) | refine Wh (fun _ => ?_) (fun _ => ?_) | refine Wi ?_ | refine Wj ?_ | refine Wk (fun _ => ?_) (fun _ => ?_) | refine Wl (fun _ => ?_) | refine Wm (by assumption) (by omega) ?_ | refine Wn (by omega) (by omega) (fun _ _ _ => ?_) | refine Wo (by omega) (by omega) ?_ | refine Wp (by omega) (by omega) (by omega) ?_ | refine Wq (by omega) (by omega) ?_ | refine Wr (by decide) (by omega) (by omega) ?_ | refine Ws (by decide) ?_ | refine Wx (fun _ => ?_) ?_ | refine Wy (fun _ => ?_) ?_ | refine Wz (fun _ => ?_) | refine WA (fun _ => ?_) | refine WB (by assumption) (by omega) ?_ | refine WC (by omega) (by omega) (fun _ _ => ?_) | refine WD (by omega) (by omega) (fun _ _ => ?_) | refine WE (by omega) (by omega) (by omega) ?_)
      | refine hcc ?_
      | refine on_box (St.box_at _ _ _) ?_
      | with_reducible refine WF ?_)
    refine aw_of tys_ok ?_
    repeat' ((conv => whnf); first
      | (with_reducible first | exact Wa | exact Wb | exact Wc | refine Wd (by kernel_rfl) ?_ | refine We ?_ ?_ ?_ | refine W8 (by decide +kernel) ?_ ?_ ?_ | refine W9 ?_ ?_ ?_ | refine Wt (by first | assumption | omega) ?_ | refine Wu (by first | assumption | omega) ?_ | refine Wv (by omega) ?_ | refine Ww (by omega) ?_ | refine Wf (by decide) (fun _ => ?_) (fun _ => ?_) | refine Wg (fun _ => ?_) (fun _ => ?_) | refine Wh (fun _ => ?_) (fun _ => ?_) | refine Wi ?_ | refine Wj ?_ | refine Wk (fun _ => ?_) (fun _ => ?_) | refine Wl (fun _ => ?_) | refine Wm (by assumption) (by omega) ?_ | refine Wn (by omega) (by omega) (fun _ _ _ => ?_) | refine Wo (by omega) (by omega) ?_ | refine Wp (by omega) (by omega) (by omega) ?_ | refine Wq (by omega) (by omega) ?_ | refine Wr (by decide) (by omega) (by omega) ?_ | refine Ws (by decide) ?_ | refine Wx (fun _ => ?_) ?_ | refine Wy (fun _ => ?_) ?_ | refine Wz (fun _ => ?_) | refine WA (fun _ => ?_) | refine WB (by assumption) (by omega) ?_ | refine WC (by omega) (by omega) (fun _ _ => ?_) | refine WD (by omega) (by omega) (fun _ _ => ?_) | refine WE (by omega) (by omega) (by omega) ?_)
      | refine to_k hl hpq hq (by omega) (by omega) (St.box_at _ _ _) ?_
      | refine on_box (St.box_at _ _ _) ?_
      | with_reducible refine WF ?_)
    all_goals exact fin (h w1' _ (((((hr1.set hb0 _).set hb0 _).set hb0 _).set hb0 _).set hb0 _) (St.box_at _ _ _)) rfl
end
end Go.Proofs.YtkcapphlemoccaaGreatDoor
set_option linter.unusedVariables false
namespace Go.Proofs.YtkcapphlemoccaaGreatDoor
open Go Go.Aw
structure Nt where
  text : List UInt8
  gap : Int
  wh : Int
  line : Int
  col : Int
def Nt.cells (n : Nt) : List V := [.str n.text, .int .i64 n.gap, .int .i64 n.wh, .int .i64 n.line, .int .i64 n.col]
def encNs (l : List Nt) : List (List V) := l.map Nt.cells
structure Lx where
  toks : List Tk
  notes : List Nt
  gap : Int
  ends : Int
  j : Bool
def lx0 : Lx := ⟨[], [], 0, 0, false⟩
def cntF (k : Int) (t : List UInt8) : Bool := decide (¬ k = 15) || !Lib.contains [123, 125, 59] t
def tokX (s : List UInt8) (p q : Nat) (k : Int) (x : Lx) : Lx :=
  ⟨x.toks ++ [⟨k, pieceF s p q, (atP s p).1, (atP s p).2⟩], x.notes, if cntF k (pieceF s p q) then x.gap + 1 else x.gap, (atP s q).1, true⟩
def blkF (s : List UInt8) (p : Nat) : Nat := p + spanR (fun c => classF c == 1) (s.drop p)
theorem blkF_le {s : List UInt8} {p : Nat} (h : p ≤ s.length) : p ≤ blkF s p ∧ blkF s p ≤ s.length := by
  have := spanR_le (fun c => classF c == 1) (s.drop p)
  rw [List.length_drop] at this
  unfold blkF; omega
def behF (s : List UInt8) (p q : Nat) (x : Lx) : Bool := x.j && decide (x.ends = (atP s p).1) && decide ((atP s q).1 = (atP s p).1)
def inlF (s : List UInt8) (p q : Nat) : Bool := decide (blkF s q < s.length) && decide ((atP s (blkF s q)).1 = (atP s p).1)
def noteX (s : List UInt8) (p q : Nat) (x : Lx) : Lx :=
  ⟨x.toks, x.notes ++ [⟨pieceF s p q, x.gap, if behF s p q x then (if inlF s p q then 1 else 2) else 3, (atP s p).1, (atP s p).2⟩], x.gap, (atP s q).1, behF s p q x && inlF s p q⟩
def lexL (s : List UInt8) (p : Nat) (x : Lx) : Sum (Int × Int) Lx :=
  if hp : p < s.length then
    if (noteF s p).2 ≠ 0 then .inl ((p : Nat), (noteF s p).2)
    else if 0 < (noteF s p).1 then
      (if hq : p < (noteF s p).1.toNat then lexL s (blkF s (noteF s p).1.toNat) (noteX s p (noteF s p).1.toNat x) else .inr x)
    else if (lexmF s p).2.2 ≠ 0 then .inl ((lexmF s p).2.1, (lexmF s p).2.2)
    else (if hq : p < (lexmF s p).2.1.toNat then lexL s (blkF s (lexmF s p).2.1.toNat) (tokX s p (lexmF s p).2.1.toNat (lexmF s p).1 x) else .inr x)
  else .inr x
termination_by s.length - p
decreasing_by
  all_goals unfold blkF; omega
def lexF (s : List UInt8) : Sum (Int × Int) Lx :=
  if 16777216 < s.length then .inl (0, 3)
  else if (chkF s).2 ≠ 0 then .inl (chkF s)
  else if 0 ≤ idxF (fun c => classF (c : Nat) == 0) s then .inl (idxF (fun c => classF (c : Nat) == 0) s, 70)
  else lexL s (blkF s 0) lx0
theorem chk_vd {s : List UInt8} (h : (chkF s).2 = 0) : Vd s := by
  unfold chkF at h
  split at h
  · exact absurd h (show ¬ (10 : Int) = 0 by decide)
  · have := spanD_le goodD s
    unfold Vd; omega
end Go.Proofs.YtkcapphlemoccaaGreatDoor
set_option linter.unusedVariables false
set_option linter.unusedSimpArgs false
namespace Go.Aw
open Go
theorem Cut.le {l : List UInt8} {k : Nat} (h : Cut l k) : k ≤ l.length := by
  induction h with
  | zero l => exact Nat.zero_le _
  | step hne h ih => have := stepN_le hne; rw [List.length_drop] at ih; omega
theorem Cut.blank {l : List UInt8} (hv : Vd l) : Cut l (spanR (fun c => classF c == 1) l) := by
  refine Bd.cut (Bd.span _ l) ?_
  rintro ⟨h0, _, h2⟩
  have h2 : hdF (l.drop (spanR (fun c => classF c == 1) l)) = 10 := h2
  have hlt := hdF_lt_len (l := l) (k := spanR (fun c => classF c == 1) l) (by omega)
  have := spanR_stop (fun c => classF c == 1) l hlt
  rw [(decR_hd (by omega) (by omega)).2, h2] at this
  exact absurd this (by decide)
theorem noteF_at {s : List UInt8} {p : Nat} (e : (noteF s p).2 = 0) (h0 : 0 < (noteF s p).1) : ∃ n : Nat, 0 < n ∧ noteN (s.drop p) = (n : Nat) ∧ (noteF s p).1 = (p + n : Nat) := by
  unfold noteF at e h0 ⊢
  split
  · rename_i h; rw [if_pos h] at e; exact absurd e (by decide)
  · rename_i h
    rw [if_neg h] at e h0
    split
    · rename_i h1; rw [if_pos h1] at h0; exact absurd h0 (by decide)
    · rename_i h1
      exact ⟨(noteN (s.drop p)).toNat, by omega, by omega, by dsimp only; omega⟩
theorem note_cut {s : List UInt8} {p : Nat} (hv : Vd s) (h : Cut s p) (e : (noteF s p).2 = 0) (h0 : 0 < (noteF s p).1) : ∃ q, (noteF s p).1 = (q : Nat) ∧ p < q ∧ q ≤ s.length ∧ Cut s q := by
  obtain ⟨n, h1, h2, h3⟩ := noteF_at e h0
  have hc := Cut.add h (Cut.note (h.bd.vd hv) h2)
  exact ⟨p + n, h3, by omega, hc.le, hc⟩
theorem num_pos {l : List UInt8} (h : (numF l).1 ≠ 0) : 0 < (numF l).2 := by
  unfold numF at h ⊢
  split
  · dsimp only; omega
  · rename_i h1
    rw [if_neg h1] at h
    split
    · rename_i h2; rw [if_pos h2] at h; exact absurd rfl h
    · dsimp only; omega
theorem word_pos {l : List UInt8} (h : (wordF l).1 ≠ 0) : 0 < (wordF l).2 := by
  have hge := scanG_ge l (plainF l).2 (plainF l).1
  by_cases hp : (plainF l).1 = 0
  · unfold wordF at h
    rw [scanG_no (fun x => by rw [hp] at x; rcases x.2.1 with y | y <;> exact absurd y (by decide))] at h
    exact absurd hp h
  · have := plain_pos hp
    unfold wordF; omega
theorem lexm_cut {s : List UInt8} {p : Nat} (hv : Vd s) (h : Cut s p) (e : (lexmF s p).2.2 = 0) : (lexmF s p).1 ≠ 0 ∧ ∃ q, (lexmF s p).2.1 = (q : Nat) ∧ p < q ∧ q ≤ s.length ∧ Cut s q := by
  have hv' := h.bd.vd hv
  unfold lexmF at e ⊢
  split
  · rename_i h1
    refine ⟨h1, p + (numF (s.drop p)).2, ?_⟩
    have hn : (numF (s.drop p)).1 ≠ 0 := fun x => by
      unfold nscF at h1; rw [if_pos x] at h1; exact h1 rfl
    have hc := Cut.add h (Cut.num (s.drop p))
    have := num_pos hn
    refine ⟨?_, by omega, hc.le, hc⟩
    unfold nscF; rw [if_neg hn]
  · rename_i h1
    rw [if_neg h1] at e
    split
    · rename_i h2
      rw [if_pos h2] at e
      split
      · rename_i h3; rw [if_pos h3] at e; exact absurd e (by decide : ¬ (70 : Int) = 0)
      · rename_i h3
        refine ⟨h3, p + (wordF (s.drop p)).2, ?_⟩
        have hn : (wordF (s.drop p)).1 ≠ 0 := fun x => by
          unfold wscanF at h3; rw [if_pos x] at h3; exact h3 rfl
        have hc := Cut.add h (Cut.word (s.drop p))
        have := word_pos hn
        refine ⟨?_, by omega, hc.le, hc⟩
        unfold wscanF; rw [if_neg hn]
    · rename_i h2
      rw [if_neg h2] at e
      have hk : (quoF s p).1 ≠ 0 := fun x => h2 ⟨x, e⟩
      obtain ⟨n, e1, e2, e3⟩ := Cut.quote hv' hk
      have hc := Cut.add h e3
      exact ⟨hk, p + n, e1, by omega, hc.le, hc⟩
theorem Cut.blk {s : List UInt8} {p : Nat} (hv : Vd s) (h : Cut s p) : Cut s (Go.Proofs.YtkcapphlemoccaaGreatDoor.blkF s p) := Cut.add h (Cut.blank (h.bd.vd hv))
def ltP (a b : Int × Int) : Prop := a.1 < b.1 ∨ (a.1 = b.1 ∧ a.2 < b.2)
theorem ltP.trans {a b c : Int × Int} (h : ltP a b) (k : ltP b c) : ltP a c := by unfold ltP at *; omega
theorem step_lt {l : List UInt8} {p : Int × Int} (h : 1 ≤ p.2) : ltP p (stepL l p.1, stepC l p.2) := by
  unfold ltP stepL stepC stopF
  by_cases h1 : 0 < nlF l
  · rw [if_pos h1]; left; dsimp only; omega
  · rw [if_neg h1, if_neg h1]
    right
    refine ⟨rfl, ?_⟩
    dsimp only
    split <;> omega
theorem walk_le {l : List UInt8} {k : Nat} (h : Cut l k) (p : Int × Int) (hp : 1 ≤ p.2) : (k = 0 ∧ walkP l k p = p) ∨ (0 < k ∧ ltP p (walkP l k p)) := by
  induction h generalizing p with
  | zero l => exact .inl ⟨rfl, walkP_zero⟩
  | @step l j hne h ih =>
    have h1 := stepN_le hne
    have h2 := step_lt (l := l) hp
    refine .inr ⟨by omega, ?_⟩
    rw [walkP_go hne (by omega), show stepN l + j - stepN l = j by omega]
    rcases ih (stepL l p.1, stepC l p.2) (stepC_b l hp).1 with ⟨_, e⟩ | ⟨_, e⟩
    · rw [e]; exact h2
    · exact h2.trans e
theorem Cut.sub {l : List UInt8} {i j : Nat} (h : Cut l i) (k : Cut l j) (hij : i ≤ j) : Cut (l.drop i) (j - i) := by
  induction h generalizing j with
  | zero l => exact k
  | @step l i hne h ih =>
    cases k with
    | zero => have := stepN_le hne; omega
    | @step _ j' _ k =>
      rw [show stepN l + j' - (stepN l + i) = j' - i by omega, ← List.drop_drop]
      exact ih k (by omega)
theorem at_col {s : List UInt8} {p : Nat} : 1 ≤ (atP s p).1 ∧ (atP s p).1 ≤ 1 + s.length ∧ 1 ≤ (atP s p).2 ∧ (atP s p).2 ≤ 1 + 8 * s.length := by
  have := walk_b _ s p (1, 1) (Nat.le_refl _) (by decide)
  unfold atP
  omega
theorem at_lt {s : List UInt8} {p q : Nat} (h : Cut s p) (k : Cut s q) (hpq : p < q) : ltP (atP s p) (atP s q) := by
  have c := h.sub k (by omega)
  have e : atP s q = walkP (s.drop p) (q - p) (atP s p) := by
    unfold atP
    rw [← walk_add h, show p + (q - p) = q by omega]
  rw [e]
  rcases walk_le c (atP s p) at_col.2.2.1 with ⟨x, _⟩ | ⟨_, x⟩
  · omega
  · exact x
theorem place_cut {s : List UInt8} {a b : Nat} (hv : Vd s) (ha : Cut s a) (hb : Cut s b) (h : a ≤ b) : placeF s a b (atP s a) = atP s b := place_at hv ha (ha.sub hb h) h hb.le
end Go.Aw
set_option linter.unusedVariables false
namespace Go.Aw
open Go
def ntV (t : List UInt8) (gap wh : Int) (p : Int × Int) : List V := [.str t, .int .i64 gap, .int .i64 wh, .int .i64 p.1, .int .i64 p.2]
theorem rows_note {st0 st : St} {w1 w2 : Own} {n1 : Nat} {o : List (List V)} {g k a b : Int} {t : List UInt8} {K : V → St → Prop} (h : Rows2 st0 st w1 n1 w2 (o.length * 5)) (hl : o.length ≤ 1000000000)
    (kk : ∀ w2' st', Rows2 st0 st' w1 n1 w2' ((o.length + 1) * 5) → st'.box = st.box → K (.slice 5 (o ++ [ntV t g k (a, b)]) w2') st') : appendTo 5 48 o w2 [[.str t, .int .i64 g, .int .i64 k, .int .i64 a, .int .i64 b]] st K :=
  rows2_app h.swap rfl (by rw [List.length_singleton]; omega) (by rw [List.length_singleton]; unfold lim; omega) rfl (by simp) (fun w1' st' hr hb => kk w1' st' hr.swap hb)
end Go.Aw
namespace Go.Proofs.YtkcapphlemoccaaGreatDoor
open Go Go.Aw
section
variable {st : St} {R : Res → St → Prop}
attribute [local irreducible] Go.Aw.appendTo
theorem to_at {s : List UInt8} {b p sp q : Nat} {gap ends : Int} {toks notes : List (List V)} {w1 w2 : Own} {j : Bool} (hl : s.length ≤ 100000000) (hv : Vd s) (c1 : Cut s sp) (c2 : Cut s q) (hsp : sp ≤ q)
    (hb : st.box b = some (lxC s p sp (atP s sp).1 (atP s sp).2 toks notes w1 w2 gap ends j))
    (h : R (.ret (.tup [.int .i64 (atP s q).1, .int .i64 (atP s q).2])) (st.setBox b (lxC s p q (atP s q).1 (atP s q).2 toks notes w1 w2 gap ends j))) : PC 39 [.ptr b 0, .int .i64 q] st R := by
  have e : placeF s sp q ((atP s sp).1, (atP s sp).2) = atP s q := place_cut hv c1 c2 hsp
  have hc := at_col (s := s) (p := sp)
  refine to_k hl hsp c2.le (by omega) (by omega) hb ?_
  rw [e]; exact h
theorem token_at {st0 : St} {s : List UInt8} {b p sp q n2 : Nat} {k e0 gap ends : Int} {toks notes : List (List V)} {w1 w2 : Own} {j : Bool} (hl : s.length ≤ 50000000) (hv : Vd s) (c1 : Cut s sp) (c2 : Cut s p) (c3 : Cut s q) (hsp : sp ≤ p) (hpq : p ≤ q)
    (hg : 0 ≤ gap ∧ gap ≤ 1000000000) (ht : toks.length ≤ 1000000000) (hb0 : st0.box b = none) (hR : Rows2 st0 st w1 (toks.length * 4) w2 n2) (hb : st.box b = some (lxC s p sp (atP s sp).1 (atP s sp).2 toks notes w1 w2 gap ends j))
    (h : ∀ w1' st', Rows2 st0 st' w1' ((toks.length + 1) * 4) w2 n2 → st'.box b = some (lxC s q q (atP s q).1 (atP s q).2 (toks ++ [tokV k (pieceF s p q) (atP s p)]) notes w1' w2
        (if cntF k (pieceF s p q) then gap + 1 else gap) (atP s q).1 true) → R (.ret (.tup [])) st') : PC 23 [.ptr b 0, .agg [.int .i64 k, .int .i64 q, .int .i64 e0]] st R := by
  have e1 : placeF s sp p ((atP s sp).1, (atP s sp).2) = atP s p := place_cut hv c1 c2 hsp
  have e2 : placeF s p q (atP s p) = atP s q := place_cut hv c2 c3 hpq
  have hc := at_col (s := s) (p := sp)
  refine token_c (by omega) hsp hpq c3.le (by omega) (by omega) hg ht hb0 hR hb (fun w1' st' hr hb' => h w1' st' hr ?_)
  rw [e1, e2] at hb'; exact hb'
theorem note_c {st0 : St} {s : List UInt8} {b p sp q n1 : Nat} {gap ends : Int} {toks notes : List (List V)} {w1 w2 : Own} {j : Bool} (hl : s.length ≤ 50000000) (hv : Vd s) (c1 : Cut s sp) (c2 : Cut s p) (c3 : Cut s q) (hsp : sp ≤ p) (hpq : p ≤ q)
    (hg : 0 ≤ gap ∧ gap ≤ 1000000000) (ht : notes.length ≤ 1000000000) (hb0 : st0.box b = none) (hR : Rows2 st0 st w1 n1 w2 (notes.length * 5)) (hb : st.box b = some (lxC s p sp (atP s sp).1 (atP s sp).2 toks notes w1 w2 gap ends j))
    (h : ∀ w2' st' sp', Cut s sp' → sp' ≤ blkF s q → Rows2 st0 st' w1 n1 w2' ((notes.length + 1) * 5) →
      st'.box b = some (lxC s (blkF s q) sp' (atP s sp').1 (atP s sp').2 toks (notes ++ [ntV (pieceF s p q) gap (if j && decide (ends = (atP s p).1) && decide ((atP s q).1 = (atP s p).1) then (if inlF s p q then 1 else 2) else 3) (atP s p)]) w1 w2' gap (atP s q).1
        (j && decide (ends = (atP s p).1) && decide ((atP s q).1 = (atP s p).1) && inlF s p q)) → R (.ret (.tup [])) st') : PC 21 [.ptr b 0, .int .i64 q] st R := by
  have c4 := c3.blk hv
  have hq := c3.le
  have hr := blkF_le hq
  have z1 := at_col (s := s) (p := p)
  have z2 := at_col (s := s) (p := q)
  have z3 := at_col (s := s) (p := blkF s q)
  refine pcalls_of_aw tys_ok [] Tryz.func21 rfl (by decide) rfl ?_
  refine AW_seq2 (aw_of tys_ok ?_)
  repeat' ((conv => whnf); first
    | (with_reducible first | exact Wa | exact Wb | exact Wc | refine Wd (by kernel_rfl) ?_ | refine We ?_ ?_ ?_ | refine W8 (by decide +kernel) ?_ ?_ ?_ | refine W9 ?_ ?_ ?_ | refine Wt (by first | assumption | omega) ?_ | refine Wu (by first | assumption | omega) ?_ | refine Wv (by omega) ?_ | refine Ww (by omega) ?_ | refine Wf (by decide) (fun _ => ?_) (fun _ => ?_) | refine Wg (fun _ => ?_) (fun _ => ?_) | refine Wh (fun _ => ?_) (fun _ => ?_) | refine Wi ?_ | refine Wj ?_ | refine Wk (fun _ => ?_) (fun _ => ?_) | refine Wl (fun _ => ?_) | refine Wm (by assumption) (by omega) ?_ | refine Wn (by omega) (by omega) (fun _ _ _ => ?_) | refine Wo (by omega) (by omega) ?_ | refine Wp (by omega) (by omega) (by omega) ?_ | refine Wq (by omega) (by omega) ?_ | refine Wr (by decide) (by omega) (by omega) ?_ | refine Ws (by decide) ?_ | refine Wx (fun _ => ?_) ?_ | refine Wy (fun _ => ?_) ?_ | refine Wz (fun _ => ?_) | refine WA (fun _ => ?_) | refine WB (by assumption) (by omega) ?_ | refine WC (by omega) (by omega) (fun _ _ => ?_) | refine WD (by omega) (by omega) (fun _ _ => ?_) | refine WE (by omega) (by omega) (by omega) ?_)
    | refine to_at (by omega) hv c1 c2 hsp hb ?_
    | refine on_box hb ?_
    | with_reducible refine WF ?_)
  refine AW_seq2 (aw_of tys_ok ?_)
  repeat' ((conv => whnf); first
    | (with_reducible first | exact Wa | exact Wb | exact Wc | refine Wd (by kernel_rfl) ?_ | refine We ?_ ?_ ?_ | refine W8 (by decide +kernel) ?_ ?_ ?_ | refine W9 ?_ ?_ ?_ | refine Wt (by first | assumption | omega) ?_ | refine Wu (by first | assumption | omega) ?_ | refine Wv (by omega) ?_ | refine Ww (by omega) ?_ | refine Wf (by decide) (fun _ => ?_) (fun _ => ?_) | refine Wg (fun _ => ?_) (fun _ => ?_) | refine Wh (fun _ => ?_) (fun _ => ?_) | refine Wi ?_ | refine Wj ?_ | refine Wk (fun _ => ?_) (fun _ => ?_) | refine Wl (fun _ => ?_) | refine Wm (by assumption) (by omega) ?_ | refine Wn (by omega) (by omega) (fun _ _ _ => ?_) | refine Wo (by omega) (by omega) ?_ | refine Wp (by omega) (by omega) (by omega) ?_ | refine Wq (by omega) (by omega) ?_ | refine Wr (by decide) (by omega) (by omega) ?_ | refine Ws (by decide) ?_ | refine Wx (fun _ => ?_) ?_ | refine Wy (fun _ => ?_) ?_ | refine Wz (fun _ => ?_) | refine WA (fun _ => ?_) | refine WB (by assumption) (by omega) ?_ | refine WC (by omega) (by omega) (fun _ _ => ?_) | refine WD (by omega) (by omega) (fun _ _ => ?_) | refine WE (by omega) (by omega) (by omega) ?_)
    | refine piece_k hpq hq ?_
    | refine on_box (St.box_at _ _ _) ?_
    | with_reducible refine WF ?_)
  refine AW_seq2 (aw_of tys_ok ?_)
  repeat' ((conv => whnf); first
    | (with_reducible first | exact Wa | exact Wb | exact Wc | refine Wd (by kernel_rfl) ?_ | refine We ?_ ?_ ?_ | refine W8 (by decide +kernel) ?_ ?_ ?_ | refine W9 ?_ ?_ ?_ | refine Wt (by first | assumption | omega) ?_ | refine Wu (by first | assumption | omega) ?_ | refine Wv (by omega) ?_ | refine Ww (by omega) ?_ | refine Wf (by decide) (fun _ => ?_) (fun _ => ?_) | refine Wg (fun _ => ?_) (fun _ => ?_) | refine Wh (fun _ => ?_) (fun _ => ?_) | refine Wi ?_ | refine Wj ?_ | refine Wk (fun _ => ?_) (fun _ => ?_) | refine Wl (fun _ => ?_) | refine Wm (by assumption) (by omega) ?_ | refine Wn (by omega) (by omega) (fun _ _ _ => ?_) | refine Wo (by omega) (by omega) ?_ | refine Wp (by omega) (by omega) (by omega) ?_ | refine Wq (by omega) (by omega) ?_ | refine Wr (by decide) (by omega) (by omega) ?_ | refine Ws (by decide) ?_ | refine Wx (fun _ => ?_) ?_ | refine Wy (fun _ => ?_) ?_ | refine Wz (fun _ => ?_) | refine WA (fun _ => ?_) | refine WB (by assumption) (by omega) ?_ | refine WC (by omega) (by omega) (fun _ _ => ?_) | refine WD (by omega) (by omega) (fun _ _ => ?_) | refine WE (by omega) (by omega) (by omega) ?_)
    | refine to_at (by omega) hv c2 c3 hpq (St.box_at _ _ _) ?_
    | refine on_box (St.box_at _ _ _) ?_
    | with_reducible refine WF ?_)
  have hbl : ∀ {st : St} {R : Res → St → Prop} {sp : Nat} {gap ends : Int} {j : Bool} {notes : List (List V)} {w2 : Own}, st.box b = some (lxC s q sp (atP s sp).1 (atP s sp).2 toks notes w1 w2 gap ends j) →
      R (.ret (.tup [])) (st.setBox b (lxC s (blkF s q) sp (atP s sp).1 (atP s sp).2 toks notes w1 w2 gap ends j)) → PC 19 [.ptr b 0] st R := fun hb h => blanks_c (by omega) hq hb h
  have hcase : (j = false ∨ (j = true ∧ ¬ ends = (atP s p).1) ∨ (j = true ∧ ends = (atP s p).1 ∧ ¬ (atP s q).1 = (atP s p).1)) ∨ (j = true ∧ ends = (atP s p).1 ∧ (atP s q).1 = (atP s p).1) := by
    cases j
    · exact .inl (.inl rfl)
    · by_cases e1 : ends = (atP s p).1
      · by_cases e2 : (atP s q).1 = (atP s p).1
        · exact .inr ⟨rfl, e1, e2⟩
        · exact .inl (.inr (.inr ⟨rfl, e1, e2⟩))
      · exact .inl (.inr (.inl ⟨rfl, e1⟩))
  rcases hcase with hc | ⟨rfl, he1, he2⟩
  · have e : (j && decide (ends = (atP s p).1) && decide ((atP s q).1 = (atP s p).1)) = false := by
      rcases hc with rfl | ⟨rfl, e1⟩ | ⟨rfl, e1, e2⟩ <;> simp [*]
    rw [e] at h
    rcases hc with rfl | ⟨rfl, e1⟩ | ⟨rfl, e1, e2⟩
    all_goals refine AW_seq2 (aw_of tys_ok ?_)
    repeat' ((conv => whnf); first
      | (with_reducible first | exact Wa | exact Wb | exact Wc | refine Wd (by kernel_rfl) ?_ | refine We ?_ ?_ ?_ | refine W8 (by decide +kernel) ?_ ?_ ?_ | refine W9 ?_ ?_ ?_ | refine Wt (by first | assumption | omega) ?_ | refine Wu (by first | assumption | omega) ?_ | refine Wv (by omega) ?_ | refine Ww (by omega) ?_ | refine Wf (by decide) (fun _ => ?_) (fun _ => ?_) | refine Wg (fun _ => ?_) (fun _ => ?_) | refine Wh (fun _ => ?_) (fun _ => ?_) | refine Wi ?_ | refine Wj ?_ | refine Wk (fun _ => ?_) (fun _ => ?_) | refine Wl (fun _ => ?_) | refine Wm (by assumption) (by omega) ?_ | refine Wn (by omega) (by omega) (fun _ _ _ => ?_) | refine Wo (by omega) (by omega) ?_ | refine Wp (by omega) (by omega) (by omega) ?_ | refine Wq (by omega) (by omega) ?_ | refine Wr (by decide) (by omega) (by omega) ?_ | refine Ws (by decide) ?_ | refine Wx (fun _ => ?_) ?_ | refine Wy (fun _ => ?_) ?_ | refine Wz (fun _ => ?_) | refine WA (fun _ => ?_) | refine WB (by assumption) (by omega) ?_ | refine WC (by omega) (by omega) (fun _ _ => ?_) | refine WD (by omega) (by omega) (fun _ _ => ?_) | refine WE (by omega) (by omega) (by omega) ?_)
      | refine on_box (St.box_at _ _ _) ?_
      | with_reducible refine WF ?_)
    all_goals refine AW_seq2 (aw_of tys_ok ?_)
    repeat' ((conv => whnf); first
      | (with_reducible first | exact Wa | exact Wb | exact Wc | refine Wd (by kernel_rfl) ?_ | refine We ?_ ?_ ?_ | refine W8 (by decide +kernel) ?_ ?_ ?_ | refine W9 ?_ ?_ ?_ | refine Wt (by first | assumption | omega) ?_ | refine Wu (by first | assumption | omega) ?_ | refine Wv (by omega) ?_ | refine Ww (by omega) ?_ | refine Wf (by decide) (fun _ => ?_) (fun _ => ?_) | refine Wg (fun _ => ?_) (fun _ => ?_) | refine Wh (fun _ => ?_) (fun _ => ?_) | refine Wi ?_ | refine Wj ?_ | refine Wk (fun _ => ?_) (fun _ => ?_) | refine Wl (fun _ => ?_) | refine Wm (by assumption) (by omega) ?_ | refine Wn (by omega) (by omega) (fun _ _ _ => ?_) | refine Wo (by omega) (by omega) ?_ | refine Wp (by omega) (by omega) (by omega) ?_ | refine Wq (by omega) (by omega) ?_ | refine Wr (by decide) (by omega) (by omega) ?_ | refine Ws (by decide) ?_ | refine Wx (fun _ => ?_) ?_ | refine Wy (fun _ => ?_) ?_ | refine Wz (fun _ => ?_) | refine WA (fun _ => ?_) | refine WB (by assumption) (by omega) ?_ | refine WC (by omega) (by omega) (fun _ _ => ?_) | refine WD (by omega) (by omega) (fun _ _ => ?_) | refine WE (by omega) (by omega) (by omega) ?_)
      | refine on_box (St.box_at _ _ _) ?_
      | with_reducible refine WF ?_)
    all_goals refine AW_seq2 (aw_of tys_ok ?_)
    repeat' ((conv => whnf); first
      | (with_reducible first | exact Wa | exact Wb | exact Wc | refine Wd (by kernel_rfl) ?_ | refine We ?_ ?_ ?_ | refine W8 (by decide +kernel) ?_ ?_ ?_ | refine W9 ?_ ?_ ?_ | refine Wt (by first | assumption | omega) ?_ | refine Wu (by first | assumption | omega) ?_ | refine Wv (by omega) ?_ | refine Ww (by omega) ?_ | refine Wf (by decide) (fun _ => ?_) (fun _ => ?_) | refine Wg (fun _ => ?_) (fun _ => ?_) | refine Wh (fun _ => ?_) (fun _ => ?_) | refine Wi ?_ | refine Wj ?_ | refine Wk (fun _ => ?_) (fun _ => ?_) | refine Wl (fun _ => ?_) | refine Wm (by assumption) (by omega) ?_ | refine Wn (by omega) (by omega) (fun _ _ _ => ?_) | refine Wo (by omega) (by omega) ?_ | refine Wp (by omega) (by omega) (by omega) ?_ | refine Wq (by omega) (by omega) ?_ | refine Wr (by decide) (by omega) (by omega) ?_ | refine Ws (by decide) ?_ | refine Wx (fun _ => ?_) ?_ | refine Wy (fun _ => ?_) ?_ | refine Wz (fun _ => ?_) | refine WA (fun _ => ?_) | refine WB (by assumption) (by omega) ?_ | refine WC (by omega) (by omega) (fun _ _ => ?_) | refine WD (by omega) (by omega) (fun _ _ => ?_) | refine WE (by omega) (by omega) (by omega) ?_)
      | refine hbl (St.box_at _ _ _) ?_
      | with_reducible refine WF ?_)
    all_goals refine AW_seq2 (aw_of tys_ok ?_)
    repeat' ((conv => whnf); first
      | (with_reducible first | exact Wa | exact Wb | exact Wc | refine Wd (by kernel_rfl) ?_ | refine We ?_ ?_ ?_ | refine W8 (by decide +kernel) ?_ ?_ ?_ | refine W9 ?_ ?_ ?_ | refine Wt (by first | assumption | omega) ?_ | refine Wu (by first | assumption | omega) ?_ | refine Wv (by omega) ?_ | refine Ww (by omega) ?_ | refine Wf (by decide) (fun _ => ?_) (fun _ => ?_) | refine Wg (fun _ => ?_) (fun _ => ?_) | refine Wh (fun _ => ?_) (fun _ => ?_) | refine Wi ?_ | refine Wj ?_ | refine Wk (fun _ => ?_) (fun _ => ?_) | refine Wl (fun _ => ?_) | refine Wm (by assumption) (by omega) ?_ | refine Wn (by omega) (by omega) (fun _ _ _ => ?_) | refine Wo (by omega) (by omega) ?_ | refine Wp (by omega) (by omega) (by omega) ?_ | refine Wq (by omega) (by omega) ?_ | refine Wr (by decide) (by omega) (by omega) ?_ | refine Ws (by decide) ?_ | refine Wx (fun _ => ?_) ?_ | refine Wy (fun _ => ?_) ?_ | refine Wz (fun _ => ?_) | refine WA (fun _ => ?_) | refine WB (by assumption) (by omega) ?_ | refine WC (by omega) (by omega) (fun _ _ => ?_) | refine WD (by omega) (by omega) (fun _ _ => ?_) | refine WE (by omega) (by omega) (by omega) ?_)
      | refine on_box (St.box_at _ _ _) ?_
      | with_reducible refine WF ?_)
    all_goals refine AW_seq2 (aw_of tys_ok ?_)
    repeat' ((conv => whnf); first
      | (with_reducible first | exact Wa | exact Wb | exact Wc | refine Wd (by kernel_rfl) ?_ | refine We ?_ ?_ ?_ | refine W8 (by decide +kernel) ?_ ?_ ?_ | refine W9 ?_ ?_ ?_ | refine Wt (by first | assumption | omega) ?_ | refine Wu (by first | assumption | omega) ?_ | refine Wv (by omega) ?_ | refine Ww (by omega) ?_ | refine Wf (by decide) (fun _ => ?_) (fun _ => ?_) | refine Wg (fun _ => ?_) (fun _ => ?_) | refine Wh (fun _ => ?_) (fun _ => ?_) | refine Wi ?_ | refine Wj ?_ | refine Wk (fun _ => ?_) (fun _ => ?_) | refine Wl (fun _ => ?_) | refine Wm (by assumption) (by omega) ?_ | refine Wn (by omega) (by omega) (fun _ _ _ => ?_) | refine Wo (by omega) (by omega) ?_ | refine Wp (by omega) (by omega) (by omega) ?_ | refine Wq (by omega) (by omega) ?_ | refine Wr (by decide) (by omega) (by omega) ?_ | refine Ws (by decide) ?_ | refine Wx (fun _ => ?_) ?_ | refine Wy (fun _ => ?_) ?_ | refine Wz (fun _ => ?_) | refine WA (fun _ => ?_) | refine WB (by assumption) (by omega) ?_ | refine WC (by omega) (by omega) (fun _ _ => ?_) | refine WD (by omega) (by omega) (fun _ _ => ?_) | refine WE (by omega) (by omega) (by omega) ?_)
      | with_reducible refine WF ?_)
    all_goals refine aw_of tys_ok ?_
    repeat' ((conv => whnf); first
      | refine draw_mix [(0, true), (1, true), (2, true), (3, true), (4, true), (5, true), (6, true), (7, false), (8, true), (9, true), (10, false)] [] (by decide +kernel) ?_
      | (with_reducible first | exact Wa | exact Wb | exact Wc | refine Wd (by kernel_rfl) ?_ | refine We ?_ ?_ ?_ | refine W8 (by decide +kernel) ?_ ?_ ?_ | refine W9 ?_ ?_ ?_ | refine Wt (by first | assumption | omega) ?_ | refine Wu (by first | assumption | omega) ?_ | refine Wv (by omega) ?_ | refine Ww (by omega) ?_ | refine Wf (by decide) (fun _ => ?_) (fun _ => ?_) | refine Wg (fun _ => ?_) (fun _ => ?_) | refine Wh (fun _ => ?_) (fun _ => ?_) | refine Wi ?_ | refine Wj ?_ | refine Wk (fun _ => ?_) (fun _ => ?_) | refine Wl (fun _ => ?_) | refine Wm (by assumption) (by omega) ?_ | refine Wn (by omega) (by omega) (fun _ _ _ => ?_) | refine Wo (by omega) (by omega) ?_ | refine Wp (by omega) (by omega) (by omega) ?_ | refine Wq (by omega) (by omega) ?_ | refine Wr (by decide) (by omega) (by omega) ?_ | refine Ws (by decide) ?_ | refine Wx (fun _ => ?_) ?_ | refine Wy (fun _ => ?_) ?_ | refine Wz (fun _ => ?_) | refine WA (fun _ => ?_) | refine WB (by assumption) (by omega) ?_ | refine WC (by omega) (by omega) (fun _ _ => ?_) | refine WD (by omega) (by omega) (fun _ _ => ?_) | refine WE (by omega) (by omega) (by omega) ?_)
      | refine on_box (St.box_at _ _ _) ?_
      | refine rows_note (((((hR.set hb0 _).set hb0 _).set hb0 _).set hb0 _).set hb0 _) ht (fun w1' st1 hr1 hb1 => ?_)
      | refine on_box ((congrFun hb1 b).trans (St.box_at _ _ _)) ?_
      | with_reducible refine WF ?_)
    all_goals exact fin (h w1' _ q c3 hr.1 (hr1.set hb0 _) (St.box_at _ _ _)) rfl
  · have e : (true && decide (ends = (atP s p).1) && decide ((atP s q).1 = (atP s p).1)) = true := by simp [*]
    rw [e] at h
    refine AW_seq2 (aw_of tys_ok ?_)
    repeat' ((conv => whnf); first
      | (with_reducible first | exact Wa | exact Wb | exact Wc | refine Wd (by kernel_rfl) ?_ | refine We ?_ ?_ ?_ | refine W8 (by decide +kernel) ?_ ?_ ?_ | refine W9 ?_ ?_ ?_ | refine Wt (by first | assumption | omega) ?_ | refine Wu (by first | assumption | omega) ?_ | refine Wv (by omega) ?_ | refine Ww (by omega) ?_ | refine Wf (by decide) (fun _ => ?_) (fun _ => ?_) | refine Wg (fun _ => ?_) (fun _ => ?_) | refine Wh (fun _ => ?_) (fun _ => ?_) | refine Wi ?_ | refine Wj ?_ | refine Wk (fun _ => ?_) (fun _ => ?_) | refine Wl (fun _ => ?_) | refine Wm (by assumption) (by omega) ?_ | refine Wn (by omega) (by omega) (fun _ _ _ => ?_) | refine Wo (by omega) (by omega) ?_ | refine Wp (by omega) (by omega) (by omega) ?_ | refine Wq (by omega) (by omega) ?_ | refine Wr (by decide) (by omega) (by omega) ?_ | refine Ws (by decide) ?_ | refine Wx (fun _ => ?_) ?_ | refine Wy (fun _ => ?_) ?_ | refine Wz (fun _ => ?_) | refine WA (fun _ => ?_) | refine WB (by assumption) (by omega) ?_ | refine WC (by omega) (by omega) (fun _ _ => ?_) | refine WD (by omega) (by omega) (fun _ _ => ?_) | refine WE (by omega) (by omega) (by omega) ?_)
      | refine on_box (St.box_at _ _ _) ?_
      | with_reducible refine WF ?_)
    refine AW_seq2 (aw_of tys_ok ?_)
    repeat' ((conv => whnf); first
      | (with_reducible first | exact Wa | exact Wb | exact Wc | refine Wd (by kernel_rfl) ?_ | refine We ?_ ?_ ?_ | refine W8 (by decide +kernel) ?_ ?_ ?_ | refine W9 ?_ ?_ ?_ | refine Wt (by first | assumption | omega) ?_ | refine Wu (by first | assumption | omega) ?_ | refine Wv (by omega) ?_ | refine Ww (by omega) ?_ | refine Wf (by decide) (fun _ => ?_) (fun _ => ?_) | refine Wg (fun _ => ?_) (fun _ => ?_) | refine Wh (fun _ => ?_) (fun _ => ?_) | refine Wi ?_ | refine Wj ?_ | refine Wk (fun _ => ?_) (fun _ => ?_) | refine Wl (fun _ => ?_) | refine Wm (by assumption) (by omega) ?_ | refine Wn (by omega) (by omega) (fun _ _ _ => ?_) | refine Wo (by omega) (by omega) ?_ | refine Wp (by omega) (by omega) (by omega) ?_ | refine Wq (by omega) (by omega) ?_ | refine Wr (by decide) (by omega) (by omega) ?_ | refine Ws (by decide) ?_ | refine Wx (fun _ => ?_) ?_ | refine Wy (fun _ => ?_) ?_ | refine Wz (fun _ => ?_) | refine WA (fun _ => ?_) | refine WB (by assumption) (by omega) ?_ | refine WC (by omega) (by omega) (fun _ _ => ?_) | refine WD (by omega) (by omega) (fun _ _ => ?_) | refine WE (by omega) (by omega) (by omega) ?_)
      | refine on_box (St.box_at _ _ _) ?_
      | with_reducible refine WF ?_)
    refine AW_seq2 (aw_of tys_ok ?_)
    repeat' ((conv => whnf); first
      | (with_reducible first | exact Wa | exact Wb | exact Wc | refine Wd (by kernel_rfl) ?_ | refine We ?_ ?_ ?_ | refine W8 (by decide +kernel) ?_ ?_ ?_ | refine W9 ?_ ?_ ?_ | refine Wt (by first | assumption | omega) ?_ | refine Wu (by first | assumption | omega) ?_ | refine Wv (by omega) ?_ | refine Ww (by omega) ?_ | refine Wf (by decide) (fun _ => ?_) (fun _ => ?_) | refine Wg (fun _ => ?_) (fun _ => ?_) | refine Wh (fun _ => ?_) (fun _ => ?_) | refine Wi ?_ | refine Wj ?_ | refine Wk (fun _ => ?_) (fun _ => ?_) | refine Wl (fun _ => ?_) | refine Wm (by assumption) (by omega) ?_ | refine Wn (by omega) (by omega) (fun _ _ _ => ?_) | refine Wo (by omega) (by omega) ?_ | refine Wp (by omega) (by omega) (by omega) ?_ | refine Wq (by omega) (by omega) ?_ | refine Wr (by decide) (by omega) (by omega) ?_ | refine Ws (by decide) ?_ | refine Wx (fun _ => ?_) ?_ | refine Wy (fun _ => ?_) ?_ | refine Wz (fun _ => ?_) | refine WA (fun _ => ?_) | refine WB (by assumption) (by omega) ?_ | refine WC (by omega) (by omega) (fun _ _ => ?_) | refine WD (by omega) (by omega) (fun _ _ => ?_) | refine WE (by omega) (by omega) (by omega) ?_)
      | refine hbl (St.box_at _ _ _) ?_
      | with_reducible refine WF ?_)
    refine AW_seq2 (aw_of tys_ok ?_)
    repeat' ((conv => whnf); first
      | (with_reducible first | exact Wa | exact Wb | exact Wc | refine Wd (by kernel_rfl) ?_ | refine We ?_ ?_ ?_ | refine W8 (by decide +kernel) ?_ ?_ ?_ | refine W9 ?_ ?_ ?_ | refine Wt (by first | assumption | omega) ?_ | refine Wu (by first | assumption | omega) ?_ | refine Wv (by omega) ?_ | refine Ww (by omega) ?_ | refine Wf (by decide) (fun _ => ?_) (fun _ => ?_) | refine Wg (fun _ => ?_) (fun _ => ?_) | refine Wh (fun _ => ?_) (fun _ => ?_) | refine Wi ?_ | refine Wj ?_ | refine Wk (fun _ => ?_) (fun _ => ?_) | refine Wl (fun _ => ?_) | refine Wm (by assumption) (by omega) ?_ | refine Wn (by omega) (by omega) (fun _ _ _ => ?_) | refine Wo (by omega) (by omega) ?_ | refine Wp (by omega) (by omega) (by omega) ?_ | refine Wq (by omega) (by omega) ?_ | refine Wr (by decide) (by omega) (by omega) ?_ | refine Ws (by decide) ?_ | refine Wx (fun _ => ?_) ?_ | refine Wy (fun _ => ?_) ?_ | refine Wz (fun _ => ?_) | refine WA (fun _ => ?_) | refine WB (by assumption) (by omega) ?_ | refine WC (by omega) (by omega) (fun _ _ => ?_) | refine WD (by omega) (by omega) (fun _ _ => ?_) | refine WE (by omega) (by omega) (by omega) ?_)
      | refine on_box (St.box_at _ _ _) ?_
      | with_reducible refine WF ?_)
    rcases hin : inlF s p q with _ | _
    all_goals rw [hin] at h
    · have hno : ¬ blkF s q < s.length ∨ (blkF s q < s.length ∧ ¬ (atP s (blkF s q)).1 = (atP s p).1) := by
        by_cases h1 : blkF s q < s.length
        · exact .inr ⟨h1, fun x => by unfold inlF at hin; simp [h1, x] at hin⟩
        · exact .inl h1
      rcases hno with hno | ⟨hy, hno⟩
      all_goals refine AW_seq2 (aw_of tys_ok ?_)
      repeat' ((conv => whnf); first
        | (with_reducible first | exact Wa | exact Wb | exact Wc | refine Wd (by kernel_rfl) ?_ | refine We ?_ ?_ ?_ | refine W8 (by decide +kernel) ?_ ?_ ?_ | refine W9 ?_ ?_ ?_ | refine Wt (by first | assumption | omega) ?_ | refine Wu (by first | assumption | omega) ?_ | refine Wv (by omega) ?_ | refine Ww (by omega) ?_ | refine Wf (by decide) (fun _ => ?_) (fun _ => ?_) | refine Wg (fun _ => ?_) (fun _ => ?_) | refine Wh (fun _ => ?_) (fun _ => ?_) | refine Wi ?_ | refine Wj ?_ | refine Wk (fun _ => ?_) (fun _ => ?_) | refine Wl (fun _ => ?_) | refine Wm (by assumption) (by omega) ?_ | refine Wn (by omega) (by omega) (fun _ _ _ => ?_) | refine Wo (by omega) (by omega) ?_ | refine Wp (by omega) (by omega) (by omega) ?_ | refine Wq (by omega) (by omega) ?_ | refine Wr (by decide) (by omega) (by omega) ?_ | refine Ws (by decide) ?_ | refine Wx (fun _ => ?_) ?_ | refine Wy (fun _ => ?_) ?_ | refine Wz (fun _ => ?_) | refine WA (fun _ => ?_) | refine WB (by assumption) (by omega) ?_ | refine WC (by omega) (by omega) (fun _ _ => ?_) | refine WD (by omega) (by omega) (fun _ _ => ?_) | refine WE (by omega) (by omega) (by omega) ?_)
        | refine to_at (by omega) hv c3 c4 hr.1 (St.box_at _ _ _) ?_
        | refine on_box (St.box_at _ _ _) ?_
        | refine WJ (fun _ => ?_)
        | with_reducible refine WF ?_)
      all_goals refine aw_of tys_ok ?_
      repeat' ((conv => whnf); first
        | refine draw_mix [(0, true), (1, true), (2, true), (3, true), (4, true), (5, true), (6, true), (7, false), (8, true), (9, true), (10, false)] [] (by decide +kernel) ?_
        | (with_reducible first | exact Wa | exact Wb | exact Wc | refine Wd (by kernel_rfl) ?_ | refine We ?_ ?_ ?_ | refine W8 (by decide +kernel) ?_ ?_ ?_ | refine W9 ?_ ?_ ?_ | refine Wt (by first | assumption | omega) ?_ | refine Wu (by first | assumption | omega) ?_ | refine Wv (by omega) ?_ | refine Ww (by omega) ?_ | refine Wf (by decide) (fun _ => ?_) (fun _ => ?_) | refine Wg (fun _ => ?_) (fun _ => ?_) | refine Wh (fun _ => ?_) (fun _ => ?_) | refine Wi ?_ | refine Wj ?_ | refine Wk (fun _ => ?_) (fun _ => ?_) | refine Wl (fun _ => ?_) | refine Wm (by assumption) (by omega) ?_ | refine Wn (by omega) (by omega) (fun _ _ _ => ?_) | refine Wo (by omega) (by omega) ?_ | refine Wp (by omega) (by omega) (by omega) ?_ | refine Wq (by omega) (by omega) ?_ | refine Wr (by decide) (by omega) (by omega) ?_ | refine Ws (by decide) ?_ | refine Wx (fun _ => ?_) ?_ | refine Wy (fun _ => ?_) ?_ | refine Wz (fun _ => ?_) | refine WA (fun _ => ?_) | refine WB (by assumption) (by omega) ?_ | refine WC (by omega) (by omega) (fun _ _ => ?_) | refine WD (by omega) (by omega) (fun _ _ => ?_) | refine WE (by omega) (by omega) (by omega) ?_)
        | refine on_box (St.box_at _ _ _) ?_
        | refine rows_note ((((((hR.set hb0 _).set hb0 _).set hb0 _).set hb0 _).set hb0 _).set hb0 _) ht (fun w1' st1 hr1 hb1 => ?_)
        | refine on_box ((congrFun hb1 b).trans (St.box_at _ _ _)) ?_
        | with_reducible refine WF ?_)
      all_goals exact fin (h w1' _ (blkF s q) c4 (Nat.le_refl _) (hr1.set hb0 _) (St.box_at _ _ _)) rfl
    · have hy : blkF s q < s.length ∧ (atP s (blkF s q)).1 = (atP s p).1 := by unfold inlF at hin; simpa using hin
      obtain ⟨hy1, hy2⟩ := hy
      refine AW_seq2 (aw_of tys_ok ?_)
      repeat' ((conv => whnf); first
        | (with_reducible first | exact Wa | exact Wb | exact Wc | refine Wd (by kernel_rfl) ?_ | refine We ?_ ?_ ?_ | refine W8 (by decide +kernel) ?_ ?_ ?_ | refine W9 ?_ ?_ ?_ | refine Wt (by first | assumption | omega) ?_ | refine Wu (by first | assumption | omega) ?_ | refine Wv (by omega) ?_ | refine Ww (by omega) ?_ | refine Wf (by decide) (fun _ => ?_) (fun _ => ?_) | refine Wg (fun _ => ?_) (fun _ => ?_) | refine Wh (fun _ => ?_) (fun _ => ?_) | refine Wi ?_ | refine Wj ?_ | refine Wk (fun _ => ?_) (fun _ => ?_) | refine Wl (fun _ => ?_) | refine Wm (by assumption) (by omega) ?_ | refine Wn (by omega) (by omega) (fun _ _ _ => ?_) | refine Wo (by omega) (by omega) ?_ | refine Wp (by omega) (by omega) (by omega) ?_ | refine Wq (by omega) (by omega) ?_ | refine Wr (by decide) (by omega) (by omega) ?_ | refine Ws (by decide) ?_ | refine Wx (fun _ => ?_) ?_ | refine Wy (fun _ => ?_) ?_ | refine Wz (fun _ => ?_) | refine WA (fun _ => ?_) | refine WB (by assumption) (by omega) ?_ | refine WC (by omega) (by omega) (fun _ _ => ?_) | refine WD (by omega) (by omega) (fun _ _ => ?_) | refine WE (by omega) (by omega) (by omega) ?_)
        | refine to_at (by omega) hv c3 c4 hr.1 (St.box_at _ _ _) ?_
        | refine on_box (St.box_at _ _ _) ?_
        | refine WJ (fun _ => ?_)
        | with_reducible refine WF ?_)
      refine aw_of tys_ok ?_
      repeat' ((conv => whnf); first
        | refine draw_mix [(0, true), (1, true), (2, true), (3, true), (4, true), (5, true), (6, true), (7, false), (8, true), (9, true), (10, false)] [] (by decide +kernel) ?_
        | (with_reducible first | exact Wa | exact Wb | exact Wc | refine Wd (by kernel_rfl) ?_ | refine We ?_ ?_ ?_ | refine W8 (by decide +kernel) ?_ ?_ ?_ | refine W9 ?_ ?_ ?_ | refine Wt (by first | assumption | omega) ?_ | refine Wu (by first | assumption | omega) ?_ | refine Wv (by omega) ?_ | refine Ww (by omega) ?_ | refine Wf (by decide) (fun _ => ?_) (fun _ => ?_) | refine Wg (fun _ => ?_) (fun _ => ?_) | refine Wh (fun _ => ?_) (fun _ => ?_) | refine Wi ?_ | refine Wj ?_ | refine Wk (fun _ => ?_) (fun _ => ?_) | refine Wl (fun _ => ?_) | refine Wm (by assumption) (by omega) ?_ | refine Wn (by omega) (by omega) (fun _ _ _ => ?_) | refine Wo (by omega) (by omega) ?_ | refine Wp (by omega) (by omega) (by omega) ?_ | refine Wq (by omega) (by omega) ?_ | refine Wr (by decide) (by omega) (by omega) ?_ | refine Ws (by decide) ?_ | refine Wx (fun _ => ?_) ?_ | refine Wy (fun _ => ?_) ?_ | refine Wz (fun _ => ?_) | refine WA (fun _ => ?_) | refine WB (by assumption) (by omega) ?_ | refine WC (by omega) (by omega) (fun _ _ => ?_) | refine WD (by omega) (by omega) (fun _ _ => ?_) | refine WE (by omega) (by omega) (by omega) ?_)
        | refine on_box (St.box_at _ _ _) ?_
        | refine rows_note (((((((hR.set hb0 _).set hb0 _).set hb0 _).set hb0 _).set hb0 _).set hb0 _).set hb0 _) ht (fun w1' st1 hr1 hb1 => ?_)
        | refine on_box ((congrFun hb1 b).trans (St.box_at _ _ _)) ?_
        | with_reducible refine WF ?_)
      all_goals exact fin (h w1' _ (blkF s q) c4 (Nat.le_refl _) (hr1.set hb0 _) (St.box_at _ _ _)) rfl
end
end Go.Proofs.YtkcapphlemoccaaGreatDoor
set_option linter.unusedVariables false
set_option linter.unusedSimpArgs false
namespace Go.Aw
open Go
theorem Bd.word {w t : List UInt8} (h : ∀ b ∈ w, b.toNat < 128) : Bd (w ++ t) w.length := by
  induction w with
  | nil => exact .zero _
  | cons a w ih =>
    have e : (decR (a :: (w ++ t))).2 = 1 := by rw [decR_lo (h a List.mem_cons_self)]
    have := Bd.step (l := a :: (w ++ t)) (k := w.length) (by simp) (by rw [e]; exact ih (fun b hb => h b (List.mem_cons_of_mem _ hb)))
    rw [e, Nat.add_comm] at this
    exact this
end Go.Aw
set_option linter.unusedVariables false
set_option linter.unusedSimpArgs false
namespace Go.Aw
open Go
theorem nl_iff (l : List UInt8) : 0 < nlF l ↔ (hdF l = 13 ∨ hdF l = 10 ∨ hdF l = 12) := by
  rcases nlF_cases l with ⟨e, h⟩ | ⟨e, h, _⟩ | ⟨e, h, _⟩
  · rw [e]; exact ⟨fun x => absurd x (by decide), fun x => absurd x h⟩
  · rw [e]; exact ⟨fun _ => h, fun _ => by decide⟩
  · rw [e]; exact ⟨fun _ => .inl h, fun _ => by decide⟩
theorem nest_tr {d : Nat} {l r : List UInt8} {m n : Nat} (hm : m ≤ l.length) (h : nestN d l = some n) (hn : n ≤ m) : nestN d (tr l m r) = some n := by
  fun_induction nestN d l generalizing m n with
  | case1 => cases h
  | case2 d a l hc ih =>
    obtain ⟨k, hk, rfl⟩ := Option.map_eq_some_iff.1 h
    have h2 := nestN_last _ _ _ hk
    obtain ⟨m, rfl⟩ : ∃ j, m = j + 1 := ⟨m - 1, by omega⟩
    have hl : m ≤ l.length := by simpa using hm
    show nestN d (a :: tr l m r) = _
    rw [nestN, if_pos ⟨hc.1, by rw [tr_hd (by omega) hl]; exact hc.2⟩, tr_drop (by omega) hl, ih (by rw [List.length_drop]; omega) hk (by omega)]
    rfl
  | case3 d a l hc hk hd =>
    injection h with h
    subst h
    obtain ⟨m, rfl⟩ : ∃ j, m = j + 1 := ⟨m - 1, by omega⟩
    have hl : m ≤ l.length := by simpa using hm
    show nestN d (a :: tr l m r) = _
    rw [nestN, if_neg (by rw [tr_hd (by omega) hl]; exact hc), if_pos ⟨hk.1, by rw [tr_hd (by omega) hl]; exact hk.2⟩, if_pos hd]
  | case4 d a l hc hk hd ih =>
    obtain ⟨k, hk', rfl⟩ := Option.map_eq_some_iff.1 h
    have h2 := nestN_last _ _ _ hk'
    obtain ⟨m, rfl⟩ : ∃ j, m = j + 1 := ⟨m - 1, by omega⟩
    have hl : m ≤ l.length := by simpa using hm
    show nestN d (a :: tr l m r) = _
    rw [nestN, if_neg (by rw [tr_hd (by omega) hl]; exact hc), if_pos ⟨hk.1, by rw [tr_hd (by omega) hl]; exact hk.2⟩, if_neg hd, tr_drop (by omega) hl, ih (by rw [List.length_drop]; omega) hk' (by omega)]
    rfl
  | case5 d a l hc hk ih =>
    obtain ⟨k, hk', rfl⟩ := Option.map_eq_some_iff.1 h
    have h2 := nestN_last _ _ _ hk'
    obtain ⟨m, rfl⟩ : ∃ j, m = j + 1 := ⟨m - 1, by omega⟩
    have hl : m ≤ l.length := by simpa using hm
    show nestN d (a :: tr l m r) = _
    rw [nestN, if_neg (by rw [tr_hd (by omega) hl]; exact hc), if_neg (by rw [tr_hd (by omega) hl]; exact hk), ih hl hk' (by omega)]
    rfl
def Nlk (r : List UInt8) : Prop := hdF r = -1 ∨ hdF r = 10
theorem Nlk.brk {r : List UInt8} (h : Nlk r) : Brk r := by unfold Nlk at h; unfold Brk; omega
theorem eol_tr {l r : List UInt8} {m : Nat} (hr : Nlk r) (hm : m ≤ l.length) (h : eolN l ≤ m) : eolN (tr l m r) = eolN l := by
  have e0 : eolN r = 0 := by
    cases r with
    | nil => rfl
    | cons a r =>
      unfold Nlk at hr
      have : ((a.toNat : Nat) : Int) = hdF (a :: r) := rfl
      rw [eolN, if_pos ((nl_iff _).2 (by omega))]
  induction l generalizing m with
  | nil =>
    have : m = 0 := by simpa using hm
    subst this
    rw [tr_zero, e0]; rfl
  | cons a l ih =>
    cases m with
    | zero => rw [tr_zero, e0]; omega
    | succ m =>
      have hl : m ≤ l.length := by simpa using hm
      show eolN (a :: tr l m r) = _
      have hp : 0 < nlF (a :: tr l m r) ↔ 0 < nlF (a :: l) := by rw [nl_iff, nl_iff]; exact Iff.rfl
      unfold eolN at h ⊢
      by_cases hc : 0 < nlF (a :: l)
      · rw [if_pos hc, if_pos (hp.2 hc)]
      · rw [if_neg hc] at h
        rw [if_neg hc, if_neg (fun x => hc (hp.1 x)), ih hl (by omega)]
theorem rowLen_tr {l r : List UInt8} {m : Nat} (hr : Nlk r) (hv : Vd l) (hb : Bd l m) (hm : m ≤ l.length) (h : 0 < rowLen l) (hn : rowLen l ≤ m) : rowLen (tr l m r) = rowLen l := by
  unfold rowLen at h hn ⊢
  dsimp only at h hn ⊢
  split at h
  · rename_i hc
    rw [if_pos hc] at hn ⊢
    have e : spanR (fun c => classF c == 5) (tr l m r) = spanR (fun c => classF c == 5) l := span_tr hv hb hm (span_brk (p := fun c => classF c == 5) hr.brk (by decide) (by decide)) (show spanD _ l ≤ m by show spanR (fun c => classF c == 5) l ≤ m; omega)
    rw [e, tr_take (by omega) hm, if_pos hc, tr_drop (by omega) hm, eol_tr hr (by rw [List.length_drop]; omega) (by omega)]
  · omega
theorem note_tr {l r : List UInt8} {m n : Nat} (hr : Nlk r) (hv : Vd l) (hb : Bd l m) (hm : m ≤ l.length) (h0 : 0 < n) (h : noteN l = n) (hn : n ≤ m) : noteN (tr l m r) = n := by
  unfold noteN at h ⊢
  split at h
  · rename_i hc
    cases ht : nestN 1 (l.drop 2) with
    | none => rw [ht] at h; simp only [endAt] at h; omega
    | some k =>
      rw [ht] at h
      simp only [endAt] at h
      have h2 := nestN_last _ _ _ ht
      rw [tr_hd (by omega) hm, tr_hd_at (by omega) hm, if_pos hc, tr_drop (by omega) hm, nest_tr (by rw [List.length_drop]; omega) ht (by omega)]
      simp only [endAt]; omega
  · rename_i hc
    split at h
    · rename_i hd
      have h : rowLen l = n := by omega
      rw [tr_hd (by omega) hm, if_neg, if_pos hd, rowLen_tr hr hv hb hm (by omega) (by omega), h]
      rintro ⟨x, _⟩; omega
    · omega
theorem note_self {l : List UInt8} {n : Nat} (hv : Vd l) (h0 : 0 < n) (h : noteN l = n) : noteN (l.take n) = (l.take n).length ∧ (l.take n).length = n := by
  have hle := noteN_le l
  have hc := Cut.note hv h
  have e := note_tr (r := []) (.inl rfl) hv hc.bd (by omega) h0 h (Nat.le_refl _)
  unfold tr at e
  rw [List.append_nil] at e
  have hl : (l.take n).length = n := by rw [List.length_take]; omega
  rw [hl]; exact ⟨e, rfl⟩
end Go.Aw
namespace Go.Proofs.YtkcapphlemoccaaGreatDoor
open Go Go.Aw
def tkP (t : Tk) : Int × Int := (t.line, t.col)
def ntP (n : Nt) : Int × Int := (n.line, n.col)
def NoteT (t : List UInt8) : Prop := t ≠ [] ∧ noteN t = (t.length : Nat)
structure Rise (s : List UInt8) (p : Nat) (x : Lx) : Prop where
  t : x.toks.Pairwise fun a b => ltP (tkP a) (tkP b)
  tp : ∀ a ∈ x.toks, ltP (tkP a) (atP s p)
  n : x.notes.Pairwise fun a b => ltP (ntP a) (ntP b) ∧ a.gap ≤ b.gap
  np : ∀ a ∈ x.notes, ltP (ntP a) (atP s p) ∧ 0 ≤ a.gap ∧ a.gap ≤ x.gap ∧ (a.wh = 1 ∨ a.wh = 2 ∨ a.wh = 3) ∧ NoteT a.text
  g : 0 ≤ x.gap ∧ x.gap ≤ x.toks.length
theorem piece_eq {s : List UInt8} {a b : Nat} : pieceF s a b = (s.drop a).take (b - a) := by unfold pieceF; rw [List.drop_take]
theorem Rise.le {s : List UInt8} {p q : Nat} {x : Lx} (h : Rise s p x) (hp : Cut s p) (hq : Cut s q) (hpq : p < q) : Rise s q x :=
  have l := at_lt hp hq hpq
  ⟨h.t, fun a ha => (h.tp a ha).trans l, h.n, fun a ha => ⟨(h.np a ha).1.trans l, (h.np a ha).2⟩, h.g⟩
theorem Rise.tok {s : List UInt8} {p q : Nat} {k : Int} {x : Lx} (h : Rise s p x) (hp : Cut s p) (hq : Cut s q) (hpq : p < q) : Rise s q (tokX s p q k x) := by
  have h' := h.le hp hq hpq
  have hg := h.g
  have hgg : x.gap ≤ (tokX s p q k x).gap ∧ (tokX s p q k x).gap ≤ x.gap + 1 := by
    show x.gap ≤ (if cntF k (pieceF s p q) then x.gap + 1 else x.gap) ∧ (if cntF k (pieceF s p q) then x.gap + 1 else x.gap) ≤ x.gap + 1
    split <;> omega
  refine ⟨?_, ?_, h.n, fun a ha => ?_, ?_⟩
  · refine List.pairwise_append.2 ⟨h.t, List.pairwise_singleton _ _, fun a ha b hb => ?_⟩
    rw [List.mem_singleton] at hb; subst hb
    exact h.tp a ha
  · intro a ha
    rcases List.mem_append.1 ha with ha | ha
    · exact h'.tp a ha
    · rw [List.mem_singleton] at ha; subst ha
      exact at_lt hp hq hpq
  · have := h'.np a ha
    exact ⟨this.1, this.2.1, by omega, this.2.2.2⟩
  · have : (tokX s p q k x).toks.length = x.toks.length + 1 := by simp [tokX]
    omega
theorem Rise.note {s : List UInt8} {p q : Nat} {x : Lx} (hv : Vd s) (h : Rise s p x) (hp : Cut s p) (hq : Cut s q) (hpq : p < q) (hn : noteN (s.drop p) = (q - p : Nat)) : Rise s q (noteX s p q x) := by
  have h' := h.le hp hq hpq
  have hg := h.g
  refine ⟨h.t, h'.tp, ?_, ?_, h.g⟩
  · refine List.pairwise_append.2 ⟨h.n, List.pairwise_singleton _ _, fun a ha b hb => ?_⟩
    rw [List.mem_singleton] at hb; subst hb
    exact ⟨(h.np a ha).1, (h.np a ha).2.2.1⟩
  · intro a ha
    rcases List.mem_append.1 ha with ha | ha
    · exact h'.np a ha
    · rw [List.mem_singleton] at ha; subst ha
      refine ⟨at_lt hp hq hpq, hg.1, Int.le_refl _, ?_, ?_⟩
      · show (if behF s p q x then (if inlF s p q then (1 : Int) else 2) else 3) = 1 ∨ (if behF s p q x then (if inlF s p q then (1 : Int) else 2) else 3) = 2 ∨ (if behF s p q x then (if inlF s p q then (1 : Int) else 2) else 3) = 3
        split
        · split
          · exact .inl rfl
          · exact .inr (.inl rfl)
        · exact .inr (.inr rfl)
      · show NoteT (pieceF s p q)
        rw [piece_eq]
        have e := note_self (hp.bd.vd hv) (by omega) hn
        refine ⟨fun e0 => ?_, e.1⟩
        rw [e0] at e
        have := e.2
        simp only [List.length_nil] at this; omega
theorem Rise.blk {s : List UInt8} {p : Nat} {x : Lx} (hv : Vd s) (h : Rise s p x) (hp : Cut s p) : Rise s (blkF s p) x := by
  by_cases e : p = blkF s p
  · rw [← e]; exact h
  · exact h.le hp (hp.blk hv) (by have := (blkF_le hp.le).1; omega)
end Go.Proofs.YtkcapphlemoccaaGreatDoor
set_option linter.unusedVariables false
set_option linter.unusedSimpArgs false
set_option linter.unusedVariables false
set_option linter.unusedSimpArgs false
namespace Go.Aw
open Go
def blkN (l : List UInt8) : Nat := spanR (fun c => classF c == 1) l
def bdr (l : List UInt8) : List UInt8 := l.drop (blkN l)
def Cl (l : List UInt8) : Prop := spanD (fun d => !(classF (d.1 : Nat) == 0)) l = l.length
theorem all_tr {p : Nat × Nat → Bool} {l : List UInt8} {k : Nat} (hv : Vd l) (hb : Bd l k) (hk : k ≤ l.length) (h : spanD p l = l.length) : spanD p (l.take k) = (l.take k).length ∧ spanD p (l.drop k) = (l.drop k).length := by
  have e : l.take k = tr l k [] := by unfold tr; rw [List.append_nil]
  rw [e]
  induction hb with
  | zero l => exact ⟨by rw [tr_zero, spanD_nil]; rfl, h⟩
  | @step l k hne hb ih =>
    have hd := dec_tr (r := []) hv (by have := decR_pos l; omega) hk (.step hne hb)
    have hl := decR_le hne
    have hp := decR_pos l
    have hc : p (decR l) = true := by
      cases hc : p (decR l) with
      | true => rfl
      | false => rw [spanD_no hc] at h; have := List.length_pos_iff.2 hne; omega
    have hne' : tr l ((decR l).2 + k) [] ≠ [] := fun e => by
      have := congrArg List.length e
      rw [tr_len hk] at this; simp only [List.length_nil] at this; omega
    rw [spanD_yes hne hc] at h
    have ih := ih (hv.rune hne).2 (by rw [List.length_drop]; omega) (by rw [List.length_drop]; omega) (by unfold tr; rw [List.append_nil])
    rw [spanD_yes hne' (by rw [hd.1]; exact hc), hd.1, tr_drop (by omega) hk, show (decR l).2 + k - (decR l).2 = k by omega, ih.1]
    rw [List.drop_drop] at ih
    refine ⟨?_, ih.2⟩
    rw [tr_len hk, tr_len (by rw [List.length_drop]; omega)]
    simp only [List.length_nil]; omega
theorem Vd.take {l : List UInt8} {k : Nat} (hv : Vd l) (hb : Bd l k) (hk : k ≤ l.length) : Vd (l.take k) := (all_tr (p := goodD) hv hb hk hv).1
theorem Cl.take {l : List UInt8} {k : Nat} (h : Cl l) (hv : Vd l) (hb : Bd l k) (hk : k ≤ l.length) : Cl (l.take k) := (all_tr hv hb hk h).1
theorem Cl.drop {l : List UInt8} {k : Nat} (h : Cl l) (hv : Vd l) (hb : Bd l k) (hk : k ≤ l.length) : Cl (l.drop k) := (all_tr hv hb hk h).2
theorem bdr_bdr (l : List UInt8) : blkN (bdr l) = 0 := by
  by_cases h : blkN l < l.length
  · have := spanR_stop (fun c => classF c == 1) l h
    exact spanR_no this
  · have : bdr l = [] := List.drop_eq_nil_iff.2 (by omega)
    rw [this]; exact spanR_nil _
theorem Vd.sp : Vd [32] := by unfold Vd; rw [spanD_yes (by simp) (by decide)]; rw [show (([32] : List UInt8).drop (decR [32]).2) = [] from by rw [decR_lo (by decide)]; rfl, spanD_nil, decR_lo (by decide)]; rfl
theorem Vd.nl : Vd [10] := by unfold Vd; rw [spanD_yes (by simp) (by decide)]; rw [show (([10] : List UInt8).drop (decR [10]).2) = [] from by rw [decR_lo (by decide)]; rfl, spanD_nil, decR_lo (by decide)]; rfl
theorem Cl.sp : Cl [32] := by unfold Cl; rw [spanD_yes (by simp) (by decide)]; rw [show (([32] : List UInt8).drop (decR [32]).2) = [] from by rw [decR_lo (by decide)]; rfl, spanD_nil, decR_lo (by decide)]; rfl
theorem Cl.nl : Cl [10] := by unfold Cl; rw [spanD_yes (by simp) (by decide)]; rw [show (([10] : List UInt8).drop (decR [10]).2) = [] from by rw [decR_lo (by decide)]; rfl, spanD_nil, decR_lo (by decide)]; rfl
end Go.Aw
namespace Go.Proofs.YtkcapphlemoccaaGreatDoor
open Go Go.Aw
def kts (l : List Tk) : List (Int × List UInt8) := l.map fun t => (t.kind, t.text)
def LexIs (is : Option (List (Int × List UInt8))) (x : Lx) (r : Sum (Int × Int) Lx) : Prop := match is with
  | none => ∃ e, r = .inl e
  | some is => ∃ y, r = .inr y ∧ kts y.toks = kts x.toks ++ is.filter (fun t => t.1 != 0) ∧ y.notes.map (·.text) = x.notes.map (·.text) ++ (is.filter (fun t => t.1 == 0)).map (·.2)
theorem LexIs.tok {o : Option (List (Int × List UInt8))} {s : List UInt8} {p q : Nat} {k : Int} {x : Lx} {r : Sum (Int × Int) Lx} (h : LexIs o (tokX s p q k x) r) (hk : k ≠ 0) {t : List UInt8} (ht : t = pieceF s p q) : LexIs (o.map ((k, t) :: ·)) x r := by
  subst ht
  cases o with
  | none => exact h
  | some is =>
    obtain ⟨y, h1, h2, h3⟩ := h
    refine ⟨y, h1, ?_, ?_⟩
    · have hf : (((k, pieceF s p q) :: is).filter fun t : Int × List UInt8 => t.1 != 0) = (k, pieceF s p q) :: is.filter fun t => t.1 != 0 := List.filter_cons_of_pos (by simpa using hk)
      rw [hf, h2]
      simp [kts, tokX]
    · have hf : (((k, pieceF s p q) :: is).filter fun t : Int × List UInt8 => t.1 == 0) = is.filter fun t => t.1 == 0 := List.filter_cons_of_neg (by simpa using hk)
      rw [hf, h3]; rfl
theorem LexIs.note {o : Option (List (Int × List UInt8))} {s : List UInt8} {p q : Nat} {x : Lx} {r : Sum (Int × Int) Lx} (h : LexIs o (noteX s p q x) r) {t : List UInt8} (ht : t = pieceF s p q) : LexIs (o.map ((0, t) :: ·)) x r := by
  subst ht
  cases o with
  | none => exact h
  | some is =>
    obtain ⟨y, h1, h2, h3⟩ := h
    refine ⟨y, h1, ?_, ?_⟩
    · have hf : (((0, pieceF s p q) :: is).filter fun t : Int × List UInt8 => t.1 != 0) = is.filter fun t => t.1 != 0 := List.filter_cons_of_neg (by simp)
      rw [hf, h2]; rfl
    · have hf : (((0, pieceF s p q) :: is).filter fun t : Int × List UInt8 => t.1 == 0) = (0, pieceF s p q) :: is.filter fun t => t.1 == 0 := List.filter_cons_of_pos (by simp)
      rw [hf, h3]
      simp [noteX]
end Go.Proofs.YtkcapphlemoccaaGreatDoor
set_option linter.unusedVariables false
namespace Go.Proofs.YtkcapphlemoccaaGreatDoor
open Go Go.Aw
theorem lexL_end {s : List UInt8} {p : Nat} {x : Lx} (h : ¬ p < s.length) : lexL s p x = .inr x := by rw [lexL, dif_neg h]
theorem lexL_bad {s : List UInt8} {p : Nat} {x : Lx} (h : p < s.length) (h1 : (noteF s p).2 ≠ 0) : lexL s p x = .inl ((p : Nat), (noteF s p).2) := by rw [lexL, dif_pos h, if_pos h1]
theorem lexL_note {s : List UInt8} {p q : Nat} {x : Lx} (h : p < s.length) (h1 : (noteF s p).2 = 0) (h2 : (noteF s p).1 = (q : Nat)) (h3 : p < q) : lexL s p x = lexL s (blkF s q) (noteX s p q x) := by
  rw [lexL, dif_pos h, if_neg (fun e => e h1), if_pos (by omega), h2, Int.toNat_natCast, dif_pos h3]
theorem lexL_err {s : List UInt8} {p : Nat} {x : Lx} (h : p < s.length) (h1 : (noteF s p).2 = 0) (h2 : ¬ 0 < (noteF s p).1) (h3 : (lexmF s p).2.2 ≠ 0) : lexL s p x = .inl ((lexmF s p).2.1, (lexmF s p).2.2) := by
  rw [lexL, dif_pos h, if_neg (fun e => e h1), if_neg h2, if_pos h3]
theorem lexL_tok {s : List UInt8} {p q : Nat} {x : Lx} (h : p < s.length) (h1 : (noteF s p).2 = 0) (h2 : ¬ 0 < (noteF s p).1) (h3 : (lexmF s p).2.2 = 0) (h4 : (lexmF s p).2.1 = (q : Nat)) (h5 : p < q) : lexL s p x = lexL s (blkF s q) (tokX s p q (lexmF s p).1 x) := by
  rw [lexL, dif_pos h, if_neg (fun e => e h1), if_neg h2, if_neg (fun e => e h3), h4, Int.toNat_natCast, dif_pos h5]
structure LW where
  p : Nat
  sp : Nat
  x : Lx
  w1 : Own
  w2 : Own
  m : St
theorem toks_snoc (l : List Tk) (t : Tk) : encTs (l ++ [t]) = encTs l ++ [t.cells] := by simp [encTs]
theorem notes_snoc (l : List Nt) (t : Nt) : encNs (l ++ [t]) = encNs l ++ [t.cells] := by simp [encNs]
theorem notes_length (l : List Nt) : (encNs l).length = l.length := by simp [encNs]
theorem blk_blk (s : List UInt8) (p : Nat) : blkF s (blkF s p) = blkF s p := by
  have h := bdr_bdr (s.drop p)
  have e : bdr (s.drop p) = s.drop (blkF s p) := by unfold bdr; rw [List.drop_drop]; rfl
  rw [e] at h
  exact Nat.add_eq_left.2 h
section
variable {st : St} {R : Res → St → Prop}
attribute [local irreducible] Go.Aw.appendTo
theorem lexidx_c (c : Nat) (hc : c ≤ 1114111) : PC 17 [.int .i32 (c : Int)] noSt fun r _ => r = .ret (.bool (classF (c : Int) == 0)) := by
  refine pcalls_of_body tys_ok [] Tryz.func17 rfl (by decide) ?_
  repeat' ((conv => whnf); first
    | (with_reducible first | exact Wa | exact Wb | exact Wc | refine Wd (by kernel_rfl) ?_ | refine We ?_ ?_ ?_ | refine W8 (by decide +kernel) ?_ ?_ ?_ | refine W9 ?_ ?_ ?_ | refine Wt (by first | assumption | omega) ?_ | refine Wu (by first | assumption | omega) ?_ | refine Wv (by omega) ?_ | refine Ww (by omega) ?_ | refine Wf (by decide) (fun _ => ?_) (fun _ => ?_) | refine Wg (fun _ => ?_) (fun _ => ?_) | refine Wh (fun _ => ?_) (fun _ => ?_) | refine Wi ?_ | refine Wj ?_ | refine Wk (fun _ => ?_) (fun _ => ?_) | refine Wl (fun _ => ?_) | refine Wm (by assumption) (by omega) ?_ | refine Wn (by omega) (by omega) (fun _ _ _ => ?_) | refine Wo (by omega) (by omega) ?_ | refine Wp (by omega) (by omega) (by omega) ?_ | refine Wq (by omega) (by omega) ?_ | refine Wr (by decide) (by omega) (by omega) ?_ | refine Ws (by decide) ?_ | refine Wx (fun _ => ?_) ?_ | refine Wy (fun _ => ?_) ?_ | refine Wz (fun _ => ?_) | refine WA (fun _ => ?_) | refine WB (by assumption) (by omega) ?_ | refine WC (by omega) (by omega) (fun _ _ => ?_) | refine WD (by omega) (by omega) (fun _ _ => ?_) | refine WE (by omega) (by omega) (by omega) ?_)
    | refine class_c ?_
    | with_reducible refine WF ?_)
  all_goals first | exact fin_bool rfl (by simp [*]) | (conv => whnf; simp [*])
set_option maxHeartbeats 8000000 in
theorem lex_c {s : List UInt8} (h1 : ∀ i e, lexF s = .inl (i, e) → R (.ret (.tup [.slice 4 [] .full, .slice 5 [] .full, .int .i64 i, .int .i64 e])) st)
    (h1' : ∀ i e st', st.le st' → lexF s = .inl (i, e) → R (.ret (.tup [.slice 4 [] .full, .slice 5 [] .full, .int .i64 i, .int .i64 e])) st')
    (h2 : ∀ x w1 w2 st', lexF s = .inr x → st.le st' → R (.ret (.tup [.slice 4 (encTs x.toks) w1, .slice 5 (encNs x.notes) w2, .int .i64 0, .int .i64 0])) st') : PC 7 [.str s] st R := by
  refine pcalls_of_aw tys_ok [30] Tryz.func7 rfl (by decide) rfl ?_
  by_cases hl : 16777216 < s.length
  · have e : lexF s = .inl (0, 3) := by unfold lexF; rw [if_pos hl]
    refine aw_of tys_ok ?_
    repeat' ((conv => whnf); first
      | (with_reducible first | exact Wa | exact Wb | exact Wc | refine Wd (by kernel_rfl) ?_ | refine We ?_ ?_ ?_ | refine W8 (by decide +kernel) ?_ ?_ ?_ | refine W9 ?_ ?_ ?_ | refine Wt (by first | assumption | omega) ?_ | refine Wu (by first | assumption | omega) ?_ | refine Wv (by omega) ?_ | refine Ww (by omega) ?_ | refine Wf (by decide) (fun _ => ?_) (fun _ => ?_) | refine Wg (fun _ => ?_) (fun _ => ?_) | refine Wh (fun _ => ?_) (fun _ => ?_) | refine Wi ?_ | refine Wj ?_ | refine Wk (fun _ => ?_) (fun _ => ?_) | refine Wl (fun _ => ?_) | refine Wm (by assumption) (by omega) ?_ | refine Wn (by omega) (by omega) (fun _ _ _ => ?_) | refine Wo (by omega) (by omega) ?_ | refine Wp (by omega) (by omega) (by omega) ?_ | refine Wq (by omega) (by omega) ?_ | refine Wr (by decide) (by omega) (by omega) ?_ | refine Ws (by decide) ?_ | refine Wx (fun _ => ?_) ?_ | refine Wy (fun _ => ?_) ?_ | refine Wz (fun _ => ?_) | refine WA (fun _ => ?_) | refine WB (by assumption) (by omega) ?_ | refine WC (by omega) (by omega) (fun _ _ => ?_) | refine WD (by omega) (by omega) (fun _ _ => ?_) | refine WE (by omega) (by omega) (by omega) ?_)
      | refine WJ (fun _ => ?_)
      | with_reducible refine WF ?_)
    exact fin (h1 _ _ e) rfl
  · by_cases hk : (chkF s).2 = 0
    · by_cases hx : 0 ≤ idxF (fun c => classF (c : Nat) == 0) s
      · have e : lexF s = .inl (idxF (fun c => classF (c : Nat) == 0) s, 70) := by unfold lexF; rw [if_neg hl, if_neg (fun x => x hk), if_pos hx]
        refine aw_of tys_ok ?_
        repeat' ((conv => whnf); first
          | (with_reducible first | exact Wa | exact Wb | exact Wc | refine Wd (by kernel_rfl) ?_ | refine We ?_ ?_ ?_ | refine W8 (by decide +kernel) ?_ ?_ ?_ | refine W9 ?_ ?_ ?_ | refine Wt (by first | assumption | omega) ?_ | refine Wu (by first | assumption | omega) ?_ | refine Wv (by omega) ?_ | refine Ww (by omega) ?_ | refine Wf (by decide) (fun _ => ?_) (fun _ => ?_) | refine Wg (fun _ => ?_) (fun _ => ?_) | refine Wh (fun _ => ?_) (fun _ => ?_) | refine Wi ?_ | refine Wj ?_ | refine Wk (fun _ => ?_) (fun _ => ?_) | refine Wl (fun _ => ?_) | refine Wm (by assumption) (by omega) ?_ | refine Wn (by omega) (by omega) (fun _ _ _ => ?_) | refine Wo (by omega) (by omega) ?_ | refine Wp (by omega) (by omega) (by omega) ?_ | refine Wq (by omega) (by omega) ?_ | refine Wr (by decide) (by omega) (by omega) ?_ | refine Ws (by decide) ?_ | refine Wx (fun _ => ?_) ?_ | refine Wy (fun _ => ?_) ?_ | refine Wz (fun _ => ?_) | refine WA (fun _ => ?_) | refine WB (by assumption) (by omega) ?_ | refine WC (by omega) (by omega) (fun _ _ => ?_) | refine WD (by omega) (by omega) (fun _ _ => ?_) | refine WE (by omega) (by omega) (by omega) ?_)
          | refine WJ (fun _ => ?_)
          | refine check_c ?_
          | refine index_c (p := fun c => classF (c : Nat) == 0) lexidx_c ?_
          | with_reducible refine WF ?_)
        exact fin (h1 _ _ e) rfl
      · have e : lexF s = lexL s (blkF s 0) lx0 := by unfold lexF; rw [if_neg hl, if_neg (fun x => x hk), if_neg hx]
        have hv := chk_vd hk
        refine AW_seq2 (aw_of tys_ok ?_)
        repeat' ((conv => whnf); first
          | (with_reducible first | exact Wa | exact Wb | exact Wc | refine Wd (by kernel_rfl) ?_ | refine We ?_ ?_ ?_ | refine W8 (by decide +kernel) ?_ ?_ ?_ | refine W9 ?_ ?_ ?_ | refine Wt (by first | assumption | omega) ?_ | refine Wu (by first | assumption | omega) ?_ | refine Wv (by omega) ?_ | refine Ww (by omega) ?_ | refine Wf (by decide) (fun _ => ?_) (fun _ => ?_) | refine Wg (fun _ => ?_) (fun _ => ?_) | refine Wh (fun _ => ?_) (fun _ => ?_) | refine Wi ?_ | refine Wj ?_ | refine Wk (fun _ => ?_) (fun _ => ?_) | refine Wl (fun _ => ?_) | refine Wm (by assumption) (by omega) ?_ | refine Wn (by omega) (by omega) (fun _ _ _ => ?_) | refine Wo (by omega) (by omega) ?_ | refine Wp (by omega) (by omega) (by omega) ?_ | refine Wq (by omega) (by omega) ?_ | refine Wr (by decide) (by omega) (by omega) ?_ | refine Ws (by decide) ?_ | refine Wx (fun _ => ?_) ?_ | refine Wy (fun _ => ?_) ?_ | refine Wz (fun _ => ?_) | refine WA (fun _ => ?_) | refine WB (by assumption) (by omega) ?_ | refine WC (by omega) (by omega) (fun _ _ => ?_) | refine WD (by omega) (by omega) (fun _ _ => ?_) | refine WE (by omega) (by omega) (by omega) ?_)
          | with_reducible refine WF ?_)
        refine AW_seq2 (aw_of tys_ok ?_)
        repeat' ((conv => whnf); first
          | (with_reducible first | exact Wa | exact Wb | exact Wc | refine Wd (by kernel_rfl) ?_ | refine We ?_ ?_ ?_ | refine W8 (by decide +kernel) ?_ ?_ ?_ | refine W9 ?_ ?_ ?_ | refine Wt (by first | assumption | omega) ?_ | refine Wu (by first | assumption | omega) ?_ | refine Wv (by omega) ?_ | refine Ww (by omega) ?_ | refine Wf (by decide) (fun _ => ?_) (fun _ => ?_) | refine Wg (fun _ => ?_) (fun _ => ?_) | refine Wh (fun _ => ?_) (fun _ => ?_) | refine Wi ?_ | refine Wj ?_ | refine Wk (fun _ => ?_) (fun _ => ?_) | refine Wl (fun _ => ?_) | refine Wm (by assumption) (by omega) ?_ | refine Wn (by omega) (by omega) (fun _ _ _ => ?_) | refine Wo (by omega) (by omega) ?_ | refine Wp (by omega) (by omega) (by omega) ?_ | refine Wq (by omega) (by omega) ?_ | refine Wr (by decide) (by omega) (by omega) ?_ | refine Ws (by decide) ?_ | refine Wx (fun _ => ?_) ?_ | refine Wy (fun _ => ?_) ?_ | refine Wz (fun _ => ?_) | refine WA (fun _ => ?_) | refine WB (by assumption) (by omega) ?_ | refine WC (by omega) (by omega) (fun _ _ => ?_) | refine WD (by omega) (by omega) (fun _ _ => ?_) | refine WE (by omega) (by omega) (by omega) ?_)
          | refine WJ (fun _ => ?_)
          | with_reducible refine WF ?_)
        refine AW_seq2 (aw_of tys_ok ?_)
        repeat' ((conv => whnf); first
          | (with_reducible first | exact Wa | exact Wb | exact Wc | refine Wd (by kernel_rfl) ?_ | refine We ?_ ?_ ?_ | refine W8 (by decide +kernel) ?_ ?_ ?_ | refine W9 ?_ ?_ ?_ | refine Wt (by first | assumption | omega) ?_ | refine Wu (by first | assumption | omega) ?_ | refine Wv (by omega) ?_ | refine Ww (by omega) ?_ | refine Wf (by decide) (fun _ => ?_) (fun _ => ?_) | refine Wg (fun _ => ?_) (fun _ => ?_) | refine Wh (fun _ => ?_) (fun _ => ?_) | refine Wi ?_ | refine Wj ?_ | refine Wk (fun _ => ?_) (fun _ => ?_) | refine Wl (fun _ => ?_) | refine Wm (by assumption) (by omega) ?_ | refine Wn (by omega) (by omega) (fun _ _ _ => ?_) | refine Wo (by omega) (by omega) ?_ | refine Wp (by omega) (by omega) (by omega) ?_ | refine Wq (by omega) (by omega) ?_ | refine Wr (by decide) (by omega) (by omega) ?_ | refine Ws (by decide) ?_ | refine Wx (fun _ => ?_) ?_ | refine Wy (fun _ => ?_) ?_ | refine Wz (fun _ => ?_) | refine WA (fun _ => ?_) | refine WB (by assumption) (by omega) ?_ | refine WC (by omega) (by omega) (fun _ _ => ?_) | refine WD (by omega) (by omega) (fun _ _ => ?_) | refine WE (by omega) (by omega) (by omega) ?_)
          | refine check_c ?_
          | with_reducible refine WF ?_)
        refine AW_seq2 (aw_of tys_ok ?_)
        repeat' ((conv => whnf); first
          | (with_reducible first | exact Wa | exact Wb | exact Wc | refine Wd (by kernel_rfl) ?_ | refine We ?_ ?_ ?_ | refine W8 (by decide +kernel) ?_ ?_ ?_ | refine W9 ?_ ?_ ?_ | refine Wt (by first | assumption | omega) ?_ | refine Wu (by first | assumption | omega) ?_ | refine Wv (by omega) ?_ | refine Ww (by omega) ?_ | refine Wf (by decide) (fun _ => ?_) (fun _ => ?_) | refine Wg (fun _ => ?_) (fun _ => ?_) | refine Wh (fun _ => ?_) (fun _ => ?_) | refine Wi ?_ | refine Wj ?_ | refine Wk (fun _ => ?_) (fun _ => ?_) | refine Wl (fun _ => ?_) | refine Wm (by assumption) (by omega) ?_ | refine Wn (by omega) (by omega) (fun _ _ _ => ?_) | refine Wo (by omega) (by omega) ?_ | refine Wp (by omega) (by omega) (by omega) ?_ | refine Wq (by omega) (by omega) ?_ | refine Wr (by decide) (by omega) (by omega) ?_ | refine Ws (by decide) ?_ | refine Wx (fun _ => ?_) ?_ | refine Wy (fun _ => ?_) ?_ | refine Wz (fun _ => ?_) | refine WA (fun _ => ?_) | refine WB (by assumption) (by omega) ?_ | refine WC (by omega) (by omega) (fun _ _ => ?_) | refine WD (by omega) (by omega) (fun _ _ => ?_) | refine WE (by omega) (by omega) (by omega) ?_)
          | refine index_c (p := fun c => classF (c : Nat) == 0) lexidx_c ?_
          | with_reducible refine WF ?_)
        refine AW_seq2 (aw_of tys_ok ?_)
        repeat' ((conv => whnf); first
          | (with_reducible first | exact Wa | exact Wb | exact Wc | refine Wd (by kernel_rfl) ?_ | refine We ?_ ?_ ?_ | refine W8 (by decide +kernel) ?_ ?_ ?_ | refine W9 ?_ ?_ ?_ | refine Wt (by first | assumption | omega) ?_ | refine Wu (by first | assumption | omega) ?_ | refine Wv (by omega) ?_ | refine Ww (by omega) ?_ | refine Wf (by decide) (fun _ => ?_) (fun _ => ?_) | refine Wg (fun _ => ?_) (fun _ => ?_) | refine Wh (fun _ => ?_) (fun _ => ?_) | refine Wi ?_ | refine Wj ?_ | refine Wk (fun _ => ?_) (fun _ => ?_) | refine Wl (fun _ => ?_) | refine Wm (by assumption) (by omega) ?_ | refine Wn (by omega) (by omega) (fun _ _ _ => ?_) | refine Wo (by omega) (by omega) ?_ | refine Wp (by omega) (by omega) (by omega) ?_ | refine Wq (by omega) (by omega) ?_ | refine Wr (by decide) (by omega) (by omega) ?_ | refine Ws (by decide) ?_ | refine Wx (fun _ => ?_) ?_ | refine Wy (fun _ => ?_) ?_ | refine Wz (fun _ => ?_) | refine WA (fun _ => ?_) | refine WB (by assumption) (by omega) ?_ | refine WC (by omega) (by omega) (fun _ _ => ?_) | refine WD (by omega) (by omega) (fun _ _ => ?_) | refine WE (by omega) (by omega) (by omega) ?_)
          | refine box_new (fun b fb => ?_)
          | with_reducible refine WF ?_)
        have hb0 := fb.1
        have hq0 := blkF_le (s := s) (p := 0) (by omega)
        refine aw_of tys_ok ?_
        repeat' ((conv => whnf); first
          | (with_reducible first | exact Wa | exact Wb | exact Wc | refine Wd (by kernel_rfl) ?_ | refine We ?_ ?_ ?_ | refine W8 (by decide +kernel) ?_ ?_ ?_ | refine W9 ?_ ?_ ?_ | refine Wt (by first | assumption | omega) ?_ | refine Wu (by first | assumption | omega) ?_ | refine Wv (by omega) ?_ | refine Ww (by omega) ?_ | refine Wf (by decide) (fun _ => ?_) (fun _ => ?_) | refine Wg (fun _ => ?_) (fun _ => ?_) | refine Wh (fun _ => ?_) (fun _ => ?_) | refine Wi ?_ | refine Wj ?_ | refine Wk (fun _ => ?_) (fun _ => ?_) | refine Wl (fun _ => ?_) | refine Wm (by assumption) (by omega) ?_ | refine Wn (by omega) (by omega) (fun _ _ _ => ?_) | refine Wo (by omega) (by omega) ?_ | refine Wp (by omega) (by omega) (by omega) ?_ | refine Wq (by omega) (by omega) ?_ | refine Wr (by decide) (by omega) (by omega) ?_ | refine Ws (by decide) ?_ | refine Wx (fun _ => ?_) ?_ | refine Wy (fun _ => ?_) ?_ | refine Wz (fun _ => ?_) | refine WA (fun _ => ?_) | refine WB (by assumption) (by omega) ?_ | refine WC (by omega) (by omega) (fun _ _ => ?_) | refine WD (by omega) (by omega) (fun _ _ => ?_) | refine WE (by omega) (by omega) (by omega) ?_)
          | refine blanks_c (p := 0) (by omega) (by omega) (St.box_at _ _ _) ?_
          | with_reducible refine WF ?_)
        refine loop_g (α := LW) (fun _ => []) [0, 6] [] (fun y => y.m) (fun y => y.m.box b = some (lxC s y.p y.sp (atP s y.sp).1 (atP s y.sp).2 (encTs y.x.toks) (encNs y.x.notes) y.w1 y.w2 y.x.gap y.x.ends y.x.j) ∧ Rows2 st y.m y.w1 (y.x.toks.length * 4) y.w2 (y.x.notes.length * 5) ∧
            Cut s y.sp ∧ Cut s y.p ∧ y.sp ≤ y.p ∧ 0 ≤ y.x.gap ∧ y.x.gap ≤ y.p ∧ y.x.toks.length ≤ y.p ∧ y.x.notes.length ≤ y.p ∧ lexL s (blkF s 0) lx0 = lexL s y.p y.x)
          (fun y => s.length - y.p) ⟨blkF s 0, 0, lx0, .full, .full, _⟩ ⟨?_, ⟨trivial, trivial, trivial, trivial, trivial, St.le_setBox (St.le_setBox (St.le_refl _) hb0 _) hb0 _⟩, .zero s, Cut.blk hv (.zero s), by simp only []; omega, Int.le_refl _, by simp only [lx0]; omega, Nat.zero_le _, Nat.zero_le _, rfl⟩ (by refine ⟨rfl, ?_, ?_, rfl⟩ <;> repeat' (first | exact trivial | exact rfl | refine And.intro ?_ ?_)) (St.le_refl _) ?_
        · have e0 : atP s 0 = (1, 1) := walkP_zero
          dsimp only
          rw [e0]
          exact St.box_at _ _ _
        rintro ⟨p, sp, x, w1, w2, m⟩ ⟨j1, j2, j3, j4, j5, j6, j7, j8, j9, j10⟩
        dsimp only at j1 j2 j3 j4 j5 j6 j7 j8 j9 j10 ⊢
        have hp := j4.le
        by_cases hpl : p < s.length
        · have hns := fun {R : Res → St → Prop} => noteX_c (st := m) (R := R) (s := s) (pos := p) (by omega) hpl
          by_cases n2 : (noteF s p).2 = 0
          · rw [n2] at hns
            by_cases n1 : 0 < (noteF s p).1
            · obtain ⟨q, e1, e2, e3, e4⟩ := note_cut hv j4 n2 n1
              rw [e1] at hns
              rw [lexL_note hpl n2 e1 e2] at j10
              have hq := blkF_le e3
              have hnt := fun {R : Res → St → Prop} => note_c (st := m) (R := R) (st0 := st) (by omega) hv j3 j4 e4 j5 (by omega) ⟨j6, by omega⟩ (by rw [notes_length]; omega) hb0 (by rw [notes_length]; exact j2) j1
              repeat' ((conv => whnf); first
                | (with_reducible first | exact Wa | exact Wb | exact Wc | refine Wd (by kernel_rfl) ?_ | refine We ?_ ?_ ?_ | refine W8 (by decide +kernel) ?_ ?_ ?_ | refine W9 ?_ ?_ ?_ | refine Wt (by first | assumption | omega) ?_ | refine Wu (by first | assumption | omega) ?_ | refine Wv (by omega) ?_ | refine Ww (by omega) ?_ | refine Wf (by decide) (fun _ => ?_) (fun _ => ?_) | refine Wg (fun _ => ?_) (fun _ => ?_) | refine Wh (fun _ => ?_) (fun _ => ?_) | refine Wi ?_ | refine Wj ?_ | refine Wk (fun _ => ?_) (fun _ => ?_) | refine Wl (fun _ => ?_) | refine Wm (by assumption) (by omega) ?_ | refine Wn (by omega) (by omega) (fun _ _ _ => ?_) | refine Wo (by omega) (by omega) ?_ | refine Wp (by omega) (by omega) (by omega) ?_ | refine Wq (by omega) (by omega) ?_ | refine Wr (by decide) (by omega) (by omega) ?_ | refine Ws (by decide) ?_ | refine Wx (fun _ => ?_) ?_ | refine Wy (fun _ => ?_) ?_ | refine Wz (fun _ => ?_) | refine WA (fun _ => ?_) | refine WB (by assumption) (by omega) ?_ | refine WC (by omega) (by omega) (fun _ _ => ?_) | refine WD (by omega) (by omega) (fun _ _ => ?_) | refine WE (by omega) (by omega) (by omega) ?_)
                | refine hns ?_
                | refine on_box j1 ?_
                | refine WJ (fun _ => ?_)
                | refine hnt (fun v2 st' sp' c' hs' hR hB => ?_)
                | refine blanks_c (p := blkF s q) (by omega) (by omega) hB ?_
                | with_reducible refine WF ?_)
              all_goals conv => whnf
              have eb := blk_blk s q
              refine ⟨⟨blkF s q, sp', noteX s p q x, w1, v2, _⟩, ⟨?_, ?_, c', e4.blk hv, hs', j6, by show x.gap ≤ _; simp only []; omega, by show x.toks.length ≤ _; simp only []; omega, by show (x.notes ++ [_]).length ≤ _; rw [List.length_append, List.length_singleton]; simp only []; omega, j10⟩, by simp only []; omega, (by refine ⟨rfl, ?_, ?_, rfl⟩ <;> repeat' (first | exact trivial | exact rfl | refine And.intro ?_ ?_)), St.le_refl _⟩
              · refine (St.box_at _ _ _).trans ?_
                show _ = some (lxC s (blkF s q) sp' _ _ (encTs x.toks) (encNs (x.notes ++ [_])) w1 v2 x.gap (atP s q).1 _)
                rw [notes_snoc]
                exact congrArg (fun z => some (lxC s z sp' _ _ _ _ _ _ _ _ _)) eb
              · show Rows2 st _ w1 (x.toks.length * 4) v2 ((x.notes ++ [_]).length * 5)
                rw [List.length_append, List.length_singleton]
                rw [notes_length] at hR
                exact hR.set hb0 _
            · have hlx := fun {R : Res → St → Prop} => lexeme_c (st := m) (R := R) (by omega) hpl j1
              by_cases k2 : (lexmF s p).2.2 = 0
              · obtain ⟨k1, q, e1, e2, e3, e4⟩ := lexm_cut hv j4 k2
                rw [k2, e1] at hlx
                rw [lexL_tok hpl n2 n1 k2 e1 e2] at j10
                have hq := blkF_le e3
                have htk := fun {R : Res → St → Prop} => token_at (st := m) (R := R) (st0 := st) (k := (lexmF s p).1) (e0 := 0) (by omega) hv j3 j4 e4 j5 (by omega) ⟨j6, by omega⟩ (by rw [toks_length]; omega) hb0 (by rw [toks_length]; exact j2) j1
                repeat' ((conv => whnf); first
                  | (with_reducible first | exact Wa | exact Wb | exact Wc | refine Wd (by kernel_rfl) ?_ | refine We ?_ ?_ ?_ | refine W8 (by decide +kernel) ?_ ?_ ?_ | refine W9 ?_ ?_ ?_ | refine Wt (by first | assumption | omega) ?_ | refine Wu (by first | assumption | omega) ?_ | refine Wv (by omega) ?_ | refine Ww (by omega) ?_ | refine Wf (by decide) (fun _ => ?_) (fun _ => ?_) | refine Wg (fun _ => ?_) (fun _ => ?_) | refine Wh (fun _ => ?_) (fun _ => ?_) | refine Wi ?_ | refine Wj ?_ | refine Wk (fun _ => ?_) (fun _ => ?_) | refine Wl (fun _ => ?_) | refine Wm (by assumption) (by omega) ?_ | refine Wn (by omega) (by omega) (fun _ _ _ => ?_) | refine Wo (by omega) (by omega) ?_ | refine Wp (by omega) (by omega) (by omega) ?_ | refine Wq (by omega) (by omega) ?_ | refine Wr (by decide) (by omega) (by omega) ?_ | refine Ws (by decide) ?_ | refine Wx (fun _ => ?_) ?_ | refine Wy (fun _ => ?_) ?_ | refine Wz (fun _ => ?_) | refine WA (fun _ => ?_) | refine WB (by assumption) (by omega) ?_ | refine WC (by omega) (by omega) (fun _ _ => ?_) | refine WD (by omega) (by omega) (fun _ _ => ?_) | refine WE (by omega) (by omega) (by omega) ?_)
                  | refine hns ?_
                  | refine on_box j1 ?_
                  | refine WJ (fun _ => ?_)
                  | refine hlx ?_
                  | refine htk (fun v1 st' hR hB => ?_)
                  | refine blanks_c (p := q) (by omega) e3 hB ?_
                  | with_reducible refine WF ?_)
                all_goals conv => whnf
                have hgap : (tokX s p q (lexmF s p).1 x).gap = x.gap ∨ (tokX s p q (lexmF s p).1 x).gap = x.gap + 1 := by
                  show (if cntF (lexmF s p).1 (pieceF s p q) then x.gap + 1 else x.gap) = _ ∨ (if cntF (lexmF s p).1 (pieceF s p q) then x.gap + 1 else x.gap) = _
                  split
                  · exact .inr rfl
                  · exact .inl rfl
                refine ⟨⟨blkF s q, q, tokX s p q (lexmF s p).1 x, v1, w2, _⟩, ⟨?_, ?_, e4, e4.blk hv, hq.1, by simp only []; omega, by simp only []; omega, by show (x.toks ++ [_]).length ≤ _; rw [List.length_append, List.length_singleton]; simp only []; omega, by show x.notes.length ≤ _; simp only []; omega, j10⟩, by simp only []; omega, (by refine ⟨rfl, ?_, ?_, rfl⟩ <;> repeat' (first | exact trivial | exact rfl | refine And.intro ?_ ?_)), St.le_refl _⟩
                · refine (St.box_at _ _ _).trans ?_
                  show _ = some (lxC s (blkF s q) q _ _ (encTs (x.toks ++ [_])) (encNs x.notes) v1 w2 _ (atP s q).1 true)
                  rw [toks_snoc]
                  rfl
                · show Rows2 st _ v1 ((x.toks ++ [_]).length * 4) w2 (x.notes.length * 5)
                  rw [List.length_append, List.length_singleton]
                  rw [toks_length] at hR
                  exact hR.set hb0 _
              · rw [lexL_err hpl n2 n1 k2] at j10
                repeat' ((conv => whnf); first
                  | (with_reducible first | exact Wa | exact Wb | exact Wc | refine Wd (by kernel_rfl) ?_ | refine We ?_ ?_ ?_ | refine W8 (by decide +kernel) ?_ ?_ ?_ | refine W9 ?_ ?_ ?_ | refine Wt (by first | assumption | omega) ?_ | refine Wu (by first | assumption | omega) ?_ | refine Wv (by omega) ?_ | refine Ww (by omega) ?_ | refine Wf (by decide) (fun _ => ?_) (fun _ => ?_) | refine Wg (fun _ => ?_) (fun _ => ?_) | refine Wh (fun _ => ?_) (fun _ => ?_) | refine Wi ?_ | refine Wj ?_ | refine Wk (fun _ => ?_) (fun _ => ?_) | refine Wl (fun _ => ?_) | refine Wm (by assumption) (by omega) ?_ | refine Wn (by omega) (by omega) (fun _ _ _ => ?_) | refine Wo (by omega) (by omega) ?_ | refine Wp (by omega) (by omega) (by omega) ?_ | refine Wq (by omega) (by omega) ?_ | refine Wr (by decide) (by omega) (by omega) ?_ | refine Ws (by decide) ?_ | refine Wx (fun _ => ?_) ?_ | refine Wy (fun _ => ?_) ?_ | refine Wz (fun _ => ?_) | refine WA (fun _ => ?_) | refine WB (by assumption) (by omega) ?_ | refine WC (by omega) (by omega) (fun _ _ => ?_) | refine WD (by omega) (by omega) (fun _ _ => ?_) | refine WE (by omega) (by omega) (by omega) ?_)
                  | refine hns ?_
                  | refine on_box j1 ?_
                  | refine WJ (fun _ => ?_)
                  | refine hlx ?_
                  | with_reducible refine WF ?_)
                exact fin (h1' _ _ _ j2.le (e.trans j10)) rfl
          · rw [lexL_bad hpl n2] at j10
            repeat' ((conv => whnf); first
              | (with_reducible first | exact Wa | exact Wb | exact Wc | refine Wd (by kernel_rfl) ?_ | refine We ?_ ?_ ?_ | refine W8 (by decide +kernel) ?_ ?_ ?_ | refine W9 ?_ ?_ ?_ | refine Wt (by first | assumption | omega) ?_ | refine Wu (by first | assumption | omega) ?_ | refine Wv (by omega) ?_ | refine Ww (by omega) ?_ | refine Wf (by decide) (fun _ => ?_) (fun _ => ?_) | refine Wg (fun _ => ?_) (fun _ => ?_) | refine Wh (fun _ => ?_) (fun _ => ?_) | refine Wi ?_ | refine Wj ?_ | refine Wk (fun _ => ?_) (fun _ => ?_) | refine Wl (fun _ => ?_) | refine Wm (by assumption) (by omega) ?_ | refine Wn (by omega) (by omega) (fun _ _ _ => ?_) | refine Wo (by omega) (by omega) ?_ | refine Wp (by omega) (by omega) (by omega) ?_ | refine Wq (by omega) (by omega) ?_ | refine Wr (by decide) (by omega) (by omega) ?_ | refine Ws (by decide) ?_ | refine Wx (fun _ => ?_) ?_ | refine Wy (fun _ => ?_) ?_ | refine Wz (fun _ => ?_) | refine WA (fun _ => ?_) | refine WB (by assumption) (by omega) ?_ | refine WC (by omega) (by omega) (fun _ _ => ?_) | refine WD (by omega) (by omega) (fun _ _ => ?_) | refine WE (by omega) (by omega) (by omega) ?_)
              | refine hns ?_
              | refine on_box j1 ?_
              | refine WJ (fun _ => ?_)
              | with_reducible refine WF ?_)
            exact fin (h1' _ _ _ j2.le (e.trans j10)) rfl
        · rw [lexL_end hpl] at j10
          repeat' ((conv => whnf); first
            | (with_reducible first | exact Wa | exact Wb | exact Wc | refine Wd (by kernel_rfl) ?_ | refine We ?_ ?_ ?_ | refine W8 (by decide +kernel) ?_ ?_ ?_ | refine W9 ?_ ?_ ?_ | refine Wt (by first | assumption | omega) ?_ | refine Wu (by first | assumption | omega) ?_ | refine Wv (by omega) ?_ | refine Ww (by omega) ?_ | refine Wf (by decide) (fun _ => ?_) (fun _ => ?_) | refine Wg (fun _ => ?_) (fun _ => ?_) | refine Wh (fun _ => ?_) (fun _ => ?_) | refine Wi ?_ | refine Wj ?_ | refine Wk (fun _ => ?_) (fun _ => ?_) | refine Wl (fun _ => ?_) | refine Wm (by assumption) (by omega) ?_ | refine Wn (by omega) (by omega) (fun _ _ _ => ?_) | refine Wo (by omega) (by omega) ?_ | refine Wp (by omega) (by omega) (by omega) ?_ | refine Wq (by omega) (by omega) ?_ | refine Wr (by decide) (by omega) (by omega) ?_ | refine Ws (by decide) ?_ | refine Wx (fun _ => ?_) ?_ | refine Wy (fun _ => ?_) ?_ | refine Wz (fun _ => ?_) | refine WA (fun _ => ?_) | refine WB (by assumption) (by omega) ?_ | refine WC (by omega) (by omega) (fun _ _ => ?_) | refine WD (by omega) (by omega) (fun _ _ => ?_) | refine WE (by omega) (by omega) (by omega) ?_)
            | refine on_box j1 ?_
            | refine WJ (fun _ => ?_)
            | with_reducible refine WF ?_)
          exact fin (h2 x w1 w2 m (e.trans j10) j2.le) rfl
    · have e : lexF s = .inl ((chkF s).1, (chkF s).2) := by unfold lexF; rw [if_neg hl, if_pos hk]
      refine aw_of tys_ok ?_
      repeat' ((conv => whnf); first
        | (with_reducible first | exact Wa | exact Wb | exact Wc | refine Wd (by kernel_rfl) ?_ | refine We ?_ ?_ ?_ | refine W8 (by decide +kernel) ?_ ?_ ?_ | refine W9 ?_ ?_ ?_ | refine Wt (by first | assumption | omega) ?_ | refine Wu (by first | assumption | omega) ?_ | refine Wv (by omega) ?_ | refine Ww (by omega) ?_ | refine Wf (by decide) (fun _ => ?_) (fun _ => ?_) | refine Wg (fun _ => ?_) (fun _ => ?_) | refine Wh (fun _ => ?_) (fun _ => ?_) | refine Wi ?_ | refine Wj ?_ | refine Wk (fun _ => ?_) (fun _ => ?_) | refine Wl (fun _ => ?_) | refine Wm (by assumption) (by omega) ?_ | refine Wn (by omega) (by omega) (fun _ _ _ => ?_) | refine Wo (by omega) (by omega) ?_ | refine Wp (by omega) (by omega) (by omega) ?_ | refine Wq (by omega) (by omega) ?_ | refine Wr (by decide) (by omega) (by omega) ?_ | refine Ws (by decide) ?_ | refine Wx (fun _ => ?_) ?_ | refine Wy (fun _ => ?_) ?_ | refine Wz (fun _ => ?_) | refine WA (fun _ => ?_) | refine WB (by assumption) (by omega) ?_ | refine WC (by omega) (by omega) (fun _ _ => ?_) | refine WD (by omega) (by omega) (fun _ _ => ?_) | refine WE (by omega) (by omega) (by omega) ?_)
        | refine WJ (fun _ => ?_)
        | refine check_c ?_
        | with_reducible refine WF ?_)
      exact fin (h1 _ _ e) rfl
end
end Go.Proofs.YtkcapphlemoccaaGreatDoor
set_option linter.unusedVariables false
namespace Go.Proofs.YtkcapphlemoccaaGreatDoor
open Go Go.Aw
theorem runes_bad {s : List UInt8} (h : (runesF s).2 ≠ 0) : lexF s = .inl ((runesF s).1, (runesF s).2) := by
  unfold runesF at h ⊢
  unfold lexF idxF
  split
  · rfl
  · rename_i h1
    rw [if_neg h1] at h
    split
    · rfl
    · rename_i h2
      rw [if_neg h2] at h
      have e : spanD (fun d => !((fun c : Nat => classF (c : Nat) == 0) d.1)) s = spanR (fun c => classF c != 0) s := rfl
      rw [e]
      split
      · rename_i h3; rw [if_pos (by omega)]
      · rename_i h3; rw [if_neg h3] at h; exact absurd rfl h
theorem runes_ok {s : List UInt8} (h : (runesF s).2 = 0) : s.length ≤ 16777216 ∧ (chkF s).2 = 0 ∧ lexF s = lexL s (blkF s 0) lx0 := by
  unfold runesF at h
  unfold lexF idxF
  split at h
  · exact absurd h (by decide : ¬ (3 : Int) = 0)
  · rename_i h1
    split at h
    · rename_i h2; exact absurd h h2
    · rename_i h2
      have e : spanD (fun d => !((fun c : Nat => classF (c : Nat) == 0) d.1)) s = spanR (fun c => classF c != 0) s := rfl
      rw [e]
      split at h
      · exact absurd h (by decide : ¬ (70 : Int) = 0)
      · rename_i h3
        refine ⟨by omega, by omega, ?_⟩
        rw [if_neg h1, if_neg h2, if_neg (by rw [if_neg h3]; decide)]
section
variable {st : St} {R : Res → St → Prop}
theorem rlexm_c {s : List UInt8} {p : Nat} (hl : s.length ≤ 100000000) (hp : p < s.length)
    (h : R (.ret (.tup [.int .i64 (lexmF s p).1, .int .i64 (lexmF s p).2.1, .int .i64 (lexmF s p).2.2])) st) : PC 28 [.str s, .int .i64 p] st R := by
  refine pcalls_of_body tys_ok [] Tryz.func28 rfl (by decide) ?_
  have hh : ∀ a b c, lexmF s p = (a, b, c) → R (.ret (.tup [.int .i64 a, .int .i64 b, .int .i64 c])) st := fun a b c e => by rw [e] at h; exact h
  clear h
  unfold lexmF at hh
  repeat' ((conv => whnf); first
    | (with_reducible first | exact Wa | exact Wb | exact Wc | refine Wd (by kernel_rfl) ?_ | refine We ?_ ?_ ?_ | refine W8 (by decide +kernel) ?_ ?_ ?_ | refine W9 ?_ ?_ ?_ | refine Wt (by first | assumption | omega) ?_ | refine Wu (by first | assumption | omega) ?_ | refine Wv (by omega) ?_ | refine Ww (by omega) ?_ | refine Wf (by decide) (fun _ => ?_) (fun _ => ?_) | refine Wg (fun _ => ?_) (fun _ => ?_) | refine Wh (fun _ => ?_) (fun _ => ?_) | refine Wi ?_ | refine Wj ?_ | refine Wk (fun _ => ?_) (fun _ => ?_) | refine Wl (fun _ => ?_) | refine Wm (by assumption) (by omega) ?_ | refine Wn (by omega) (by omega) (fun _ _ _ => ?_) | refine Wo (by omega) (by omega) ?_ | refine Wp (by omega) (by omega) (by omega) ?_ | refine Wq (by omega) (by omega) ?_ | refine Wr (by decide) (by omega) (by omega) ?_ | refine Ws (by decide) ?_ | refine Wx (fun _ => ?_) ?_ | refine Wy (fun _ => ?_) ?_ | refine Wz (fun _ => ?_) | refine WA (fun _ => ?_) | refine WB (by assumption) (by omega) ?_ | refine WC (by omega) (by omega) (fun _ _ => ?_) | refine WD (by omega) (by omega) (fun _ _ => ?_) | refine WE (by omega) (by omega) (by omega) ?_)
    | refine rnum_c hl hp ?_
    | refine rqscan_c hl hp ?_
    | refine rwscan_c hl hp ?_
    | with_reducible refine WF ?_)
  all_goals first
    | exact fin (hh _ _ _ (by rw [if_pos (by omega)])) rfl
    | exact fin (hh _ _ _ (by rw [if_neg (by omega), if_neg (fun x => by omega)])) rfl
    | exact fin (hh _ _ _ (by rw [if_neg (by omega), if_pos ⟨by omega, by omega⟩, if_neg (by omega)])) rfl
    | (rename_i hz; rw [hz]; exact fin (hh _ _ _ (by rw [if_neg (by omega), if_pos ⟨by omega, by omega⟩, if_pos (by omega)])) rfl)
    | exact fin (hh _ _ _ (by rw [if_neg (by omega), if_pos ⟨by omega, by omega⟩, if_pos (by omega)])) rfl
def rcntF (k : Int) (t : List UInt8) : Bool := decide (¬ k = 15) || (!(t == [123]) && !(t == [125]) && !(t == [59]))
theorem contains_brace (c : UInt8) : Lib.contains [123, 125, 59] [c] = (([c] == [123]) || ([c] == [125]) || ([c] == [59])) := by
  have key : ∀ n : Nat, n < 256 → Lib.contains [123, 125, 59] [UInt8.ofNat n] = (([UInt8.ofNat n] == [123]) || ([UInt8.ofNat n] == [125]) || ([UInt8.ofNat n] == [59])) := by decide +kernel
  have := key c.toNat c.toNat_lt
  rwa [show UInt8.ofNat c.toNat = c by simp] at this
theorem scanG_15 {l : List UInt8} {n : Nat} {k : Int} (h : (scanG l n k).1 = 15) (hk : k ≠ 15) : False := by
  fun_induction scanG l n k with
  | case1 n k hn hc ih =>
    refine ih h ?_
    unfold qualF
    repeat' split
    all_goals decide
  | case2 n k hn hc => exact hk h
  | case3 n k hn => exact hk h
theorem word_15 {l : List UInt8} (h : (wordF l).1 = 15) : (wordF l).2 = 1 := by
  by_cases h6 : firstF l = 6
  · have e : plainF l = (15, 1) := by unfold plainF; rw [if_pos h6]
    unfold wordF
    rw [e, scanG_no]
    rintro ⟨_, x, _⟩
    rcases x with x | x <;> exact absurd x (by decide)
  · exfalso
    refine scanG_15 h ?_
    unfold plainF
    rw [if_neg h6]
    split
    · show symF _ ≠ 15
      unfold symF
      split
      · decide
      · split <;> decide
    · split
      · exact (by decide : (2 : Int) ≠ 15)
      · split
        · show (if resF (l.take (nameN l)) then (9 : Int) else 1) ≠ 15
          split <;> decide
        · exact (by decide : (0 : Int) ≠ 15)
theorem lexm_15 {s : List UInt8} {p : Nat} (h : (lexmF s p).1 = 15) : (lexmF s p).2.1 = (p + 1 : Nat) := by
  unfold lexmF at h ⊢
  split
  · rename_i h1
    rw [if_pos h1] at h
    have : (nscF s p).1 ≠ 15 := by
      unfold nscF
      split
      · decide
      · unfold numF
        split
        · exact (by decide : (11 : Int) ≠ 15)
        · split
          · exact (by decide : (0 : Int) ≠ 15)
          · dsimp only; split <;> decide
    exact absurd h this
  · rename_i h1
    rw [if_neg h1] at h
    split
    · rename_i h2
      rw [if_pos h2] at h
      split
      · rename_i h3; rw [if_pos h3] at h; exact absurd h (by decide : ¬ (0 : Int) = 15)
      · rename_i h3
        rw [if_neg h3] at h
        dsimp only at h ⊢
        unfold wscanF at h h3 ⊢
        split
        · rename_i h4; rw [if_pos h4] at h3; exact absurd rfl h3
        · rename_i h4
          rw [if_neg h4] at h
          show ((p + (wordF (s.drop p)).2 : Nat) : Int) = _
          rw [word_15 h]
    · rename_i h2
      rw [if_neg h2] at h
      exfalso
      unfold quoF at h
      split at h
      · split at h
        · exact absurd h (by decide : ¬ (0 : Int) = 15)
        · exact absurd h (by decide : ¬ (14 : Int) = 15)
      · split at h
        · split at h
          · exact absurd h (by decide : ¬ (0 : Int) = 15)
          · exact absurd h (by decide : ¬ (13 : Int) = 15)
        · exact absurd h (by decide : ¬ (0 : Int) = 15)
theorem cnt_eq {s : List UInt8} {p q : Nat} (h : (lexmF s p).2.1 = (q : Nat)) (hq : q ≤ s.length) : rcntF (lexmF s p).1 (pieceF s p q) = cntF (lexmF s p).1 (pieceF s p q) := by
  unfold rcntF cntF
  by_cases hk : (lexmF s p).1 = 15
  · have e := lexm_15 hk
    have e2 : q = p + 1 := by omega
    subst e2
    obtain ⟨c, hc⟩ : ∃ c, pieceF s p (p + 1) = [c] := by
      refine ⟨s[p], ?_⟩
      rw [piece_eq, Nat.add_sub_cancel_left, List.drop_eq_getElem_cons (show p < s.length by omega)]; rfl
    rw [hc, contains_brace]
    cases ([c] == [(123 : UInt8)]) <;> cases ([c] == [(125 : UInt8)]) <;> cases ([c] == [(59 : UInt8)]) <;> rfl
  · rw [decide_eq_true hk]; rfl
theorem rcounts_c {k ln col : Int} {t : List UInt8} (h : R (.ret (.bool (rcntF k t))) st) : PC 29 [.agg [.int .i64 k, .str t, .int .i64 ln, .int .i64 col]] st R := by
  refine pcalls_of_body tys_ok [] Tryz.func29 rfl (by decide) ?_
  unfold rcntF at h
  repeat' ((conv => whnf); first
    | (with_reducible first | exact Wa | exact Wb | exact Wc | refine Wd (by kernel_rfl) ?_ | refine We ?_ ?_ ?_ | refine W8 (by decide +kernel) ?_ ?_ ?_ | refine W9 ?_ ?_ ?_ | refine Wt (by first | assumption | omega) ?_ | refine Wu (by first | assumption | omega) ?_ | refine Wv (by omega) ?_ | refine Ww (by omega) ?_ | refine Wf (by decide) (fun _ => ?_) (fun _ => ?_) | refine Wg (fun _ => ?_) (fun _ => ?_) | refine Wh (fun _ => ?_) (fun _ => ?_) | refine Wi ?_ | refine Wj ?_ | refine Wk (fun _ => ?_) (fun _ => ?_) | refine Wl (fun _ => ?_) | refine Wm (by assumption) (by omega) ?_ | refine Wn (by omega) (by omega) (fun _ _ _ => ?_) | refine Wo (by omega) (by omega) ?_ | refine Wp (by omega) (by omega) (by omega) ?_ | refine Wq (by omega) (by omega) ?_ | refine Wr (by decide) (by omega) (by omega) ?_ | refine Ws (by decide) ?_ | refine Wx (fun _ => ?_) ?_ | refine Wy (fun _ => ?_) ?_ | refine Wz (fun _ => ?_) | refine WA (fun _ => ?_) | refine WB (by assumption) (by omega) ?_ | refine WC (by omega) (by omega) (fun _ _ => ?_) | refine WD (by omega) (by omega) (fun _ _ => ?_) | refine WE (by omega) (by omega) (by omega) ?_)
    | with_reducible refine WF ?_)
  all_goals first
    | (refine fin_bool h ?_; simp only [*]; rfl)
    | (refine fin_bool h ?_; simp [*])
    | (rename_i h1; refine fin_bool h ?_; simp [h1])
    | (rename_i h1 h2; refine fin_bool h ?_; simp [h1, h2])
    | (rename_i h1 h2 h3; refine fin_bool h ?_; simp [h1, h2, h3])
    | (rename_i h1 h2 h3 h4; refine fin_bool h ?_; simp [h1, h2, h3, h4])
end
end Go.Proofs.YtkcapphlemoccaaGreatDoor
set_option linter.unusedVariables false
namespace Go.Aw
open Go
section
variable {P : Program}
theorem AW_loop {c : Code} {Q : AExit → Env → St → Prop} {env : Env} {st : St} {α : Type} (E : α → Env) (S : α → St) (J : α → Prop) (μ : α → Nat) (x0 : α) (h0 : J x0) (he : (E x0).leC env) (hs : St.le (S x0) st)
    (round : ∀ x, J x → AW P c (thenQ (fun env' st' => ∃ y, J y ∧ μ y < μ x ∧ (E y).leC env' ∧ St.le (S y) st') Q) (E x) (S x)) : AW P (.loop c) Q env st := fun D I0 st0 w0 I β a w h => by
  refine wp_loop_idx (fun n a w => ∃ I β x, Rel D I0 st0 w0 I β (E x) (S x) a w ∧ J x ∧ n = μ x) (n0 := μ x0) ⟨I, _, x0, (h.stLe hs).envLe (Env.le_of he), h0, rfl⟩ ?_
  rintro n a w ⟨I, β, x, h, hi, rfl⟩
  refine wp_mono (round x hi D I0 st0 w0 I β a w h) ?_
  rintro e a w ⟨I, β, env, st, ae, h1, h2, h3⟩
  cases ae with
  | normal =>
    cases e <;> try exact h2.elim
    obtain ⟨y, g1, g2, g3, g4⟩ := h3
    exact ⟨μ y, g2, I, _, y, (h1.stLe g4).envLe (Env.le_of g3), g1, rfl⟩
  | exit i => cases e <;> first | exact ⟨I, β, env, st, .exit i, h1, h2, h3⟩ | exact h2.elim
  | goto i => cases e <;> first | exact ⟨I, β, env, st, .goto i, h1, h2, h3⟩ | exact h2.elim
  | ret => cases e <;> first | exact ⟨I, β, env, st, .ret, h1, h2, h3⟩ | exact h2.elim
  | pan v => cases e <;> first | exact ⟨I, β, env, st, .pan v, h1, h2, h3⟩ | exact h2.elim
theorem AW_block {c : Code} {id : Nat} {Q : AExit → Env → St → Prop} {env : Env} {st : St} (h : AW P c (blockQ id Q) env st) : AW P (.block id c) Q env st := fun D I0 st0 w0 I β a w hr => by
  refine wp_block (wp_mono (h D I0 st0 w0 I β a w hr) ?_)
  rintro e a w ⟨I, β, env, st, ae, h1, h2, h3⟩
  cases ae with
  | normal => cases e <;> first | exact ⟨I, β, env, st, .normal, h1, trivial, h3⟩ | exact h2.elim
  | exit i =>
    cases e <;> try exact h2.elim
    rename_i i'
    have h2 : i' = i := h2
    subst h2
    simp only [blockQ] at h3
    show (if i' = id then liftQ D I0 st0 w0 Q .normal a w else liftQ D I0 st0 w0 Q (.exit i') a w)
    by_cases hi : i' = id
    · subst hi
      rw [if_pos rfl]
      simp only [Nat.beq_refl, cond_true] at h3
      exact ⟨I, β, env, st, .normal, h1, trivial, h3⟩
    · rw [if_neg hi]
      have : Nat.beq i' id = false := by
        cases hb : Nat.beq i' id with
        | false => rfl
        | true => exact absurd (Nat.eq_of_beq_eq_true hb) hi
      rw [this] at h3
      exact ⟨I, β, env, st, .exit i', h1, rfl, h3⟩
  | goto i => cases e <;> first | exact ⟨I, β, env, st, .goto i, h1, h2, h3⟩ | exact h2.elim
  | ret => cases e <;> first | exact ⟨I, β, env, st, .ret, h1, h2, h3⟩ | exact h2.elim
  | pan v => cases e <;> first | exact ⟨I, β, env, st, .pan v, h1, h2, h3⟩ | exact h2.elim
end
theorem store_row {cs : List V} {off : Nat} {v : V} {K : List V → Prop} (h1 : noIt cs = true) (h2 : off < cs.length) (h3 : v.sc = true) (k : K (cs.take off ++ v :: cs.drop (off + 1))) : storeTo cs off [v] K := by
  unfold storeTo
  refine chk_intro h1 (chk_intro (by rw [Nat.ble_eq]; exact h2) (chk_intro (by simp [h3]) (forceL_iff.2 ?_)))
  simpa using k
theorem at_mrow {m j sz : Nat} {n : Int} {K : Nat → Prop} (h : n = (j : Nat)) (hj : j < m) (k : K (j * sz)) : (0 ≤ n ∧ n < (m : Int)) ∧ ∀ k, k = n.toNat * sz → K k :=
  ⟨⟨by omega, by omega⟩, fun k' e => by
    rw [h, Int.toNat_natCast] at e
    subst e; exact k⟩
theorem app_first {sz bytes : Nat} {new : List (List V)} {st : St} {K : V → St → Prop} (h1 : new.length * bytes ≤ 140737488355328) (h2 : new.length < lim) (h3 : (new.all fun v => v.all V.sc) = true) (hn : new ≠ [])
    (k : ∀ b cap rest, st.fresh b → ((new.map (·.map V.wk0)).flatten ++ rest).length = cap * sz → K (.mrow sz b new.length cap) (st.setBox b ((new.map (·.map V.wk0)).flatten ++ rest))) (hz : ∀ e ∈ new, e.length = sz) : appendTo sz bytes [] .full new st K := by
  refine appendTo_mrow (by simpa using h1) (by simpa using h2) h3 hn (fun b cap m hb hm => ?_)
  simp only [List.length_nil, Nat.zero_add, List.nil_append] at hm ⊢
  refine k b cap (List.replicate m .junk) hb ?_
  rw [List.length_append, List.length_replicate, ← hm]
  congr 1
  have : ∀ l : List (List V), (∀ e ∈ l, e.length = sz) → (l.map (·.map V.wk0)).flatten.length = l.length * sz := by
    intro l
    induction l with
    | nil => intro _; simp
    | cons a r ih =>
      intro h
      simp only [List.map_cons, List.flatten_cons, List.length_append, List.length_map, List.length_cons]
      rw [ih (fun e he => h e (List.mem_cons_of_mem _ he)), h a List.mem_cons_self, Nat.succ_mul, Nat.add_comm]
  exact this new hz
theorem app_next {sz bytes b n cap : Nat} {new cs : List V} {st : St} {K : V → St → Prop} (hb : st.box b = some cs) (hc : cs.length = cap * sz) (h1 : (n + 1) * bytes ≤ 140737488355328) (h2 : n + 1 < lim) (h3 : new.all V.sc = true) (hn : n * sz ≤ cs.length) (hz : new.length = sz)
    (k : ∀ b' cap' rest, (b' = b ∨ st.fresh b') → (cs.take (n * sz) ++ new.map V.wk0 ++ rest).length = cap' * sz → K (.mrow sz b' (n + 1) cap') (st.setBox b' (cs.take (n * sz) ++ new.map V.wk0 ++ rest))) : appendRow sz bytes b n cap [new] st K := by
  refine ⟨h1, h2, chk_intro (by simpa using h3) ⟨by simp, cs, hb, hc, fun b' cap' m hb' hm => ?_⟩⟩
  simp only [List.map_cons, List.map_nil, List.flatten_cons, List.flatten_nil, List.append_nil, List.length_singleton] at hm ⊢
  refine k b' cap' (List.replicate m .junk) hb' ?_
  rw [List.length_append, List.length_append, List.length_take, List.length_map, List.length_replicate, Nat.min_eq_left hn, hz, ← hm, Nat.succ_mul]
end Go.Aw
set_option linter.unusedVariables false
namespace Go.Aw
open Go
theorem AW_loopx {P : Program} {c : Code} {Q : AExit → Env → St → Prop} {env : Env} {st : St} {α : Type} (f : α → List (Nat × V)) (g : α → List (Nat × List V)) (keep kb : List Nat) (S : α → St) (J : α → Prop) (μ : α → Nat) (x0 : α) (h0 : J x0) (he : (env.atx (f x0) (g x0) keep kb).leC env) (hs : St.le (S x0) st)
    (round : ∀ x, J x → AW P c (thenQ (fun env' st' => ∃ y, J y ∧ μ y < μ x ∧ (env.atx (f y) (g y) keep kb).leC env' ∧ St.le (S y) st') Q) (env.atx (f x) (g x) keep kb) (S x)) : AW P (.loop c) Q env st :=
  AW_loop (fun y => env.atx (f y) (g y) keep kb) S J μ x0 h0 he hs round
theorem AW_joinx {P : Program} {x y : Code} {Q : AExit → Env → St → Prop} {env : Env} {st : St} {α : Type} (f : α → List (Nat × V)) (g : α → List (Nat × List V)) (keep kb : List Nat) (S : α → St) (J : α → Prop)
    (hx : AW P x (thenQ (fun env' st' => ∃ p, J p ∧ (env.atx (f p) (g p) keep kb).leC env' ∧ St.le (S p) st') Q) env st)
    (hy : ∀ p, J p → AW P y Q (env.atx (f p) (g p) keep kb) (S p)) : AW P (.seq x y) Q env st :=
  AW_join (fun p => env.atx (f p) (g p) keep kb) S J hy hx
end Go.Aw
