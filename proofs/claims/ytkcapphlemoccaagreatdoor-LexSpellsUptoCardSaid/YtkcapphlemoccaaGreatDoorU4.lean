/-
  Parts of a proof: lemmas that the last text uses.
-/
import Derived.Test.YtkcapphlemoccaaGreatDoorU3
import Derived.Lib.Join
set_option linter.unusedVariables false
set_option linter.unusedSimpArgs false
namespace Go.Aw
open Go
theorem nl_iff (l : List UInt8) : 0 < nlF l ↔ (hdF l = 13 ∨ hdF l = 10 ∨ hdF l = 12) := by
  rcases nlF_cases l with ⟨e, h⟩ | ⟨e, h, _⟩ | ⟨e, h, _⟩
  · rw [e]; exact ⟨fun x => absurd x (by decide), fun x => absurd x h⟩
  · rw [e]; exact ⟨fun _ => h, fun _ => by decide⟩
  · rw [e]; exact ⟨fun _ => .inl h, fun _ => by decide⟩
theorem nest_tr {d : Nat} {l r : List UInt8} {m n : Nat} (hm : m ≤ l.length) (h : nestN d l = some n) (hn : n ≤ m) : nestN d (tr l m r) = some n := by
  fun_induction nestN d l generalizing m n with
  | case1 => cases h
  | case2 d a l hc ih =>
    obtain ⟨k, hk, rfl⟩ := Option.map_eq_some_iff.1 h
    have h2 := nestN_last _ _ _ hk
    obtain ⟨m, rfl⟩ : ∃ j, m = j + 1 := ⟨m - 1, by omega⟩
    have hl : m ≤ l.length := by simpa using hm
    show nestN d (a :: tr l m r) = _
    rw [nestN, if_pos ⟨hc.1, by rw [tr_hd (by omega) hl]; exact hc.2⟩, tr_drop (by omega) hl, ih (by rw [List.length_drop]; omega) hk (by omega)]
    rfl
  | case3 d a l hc hk hd =>
    injection h with h
    subst h
    obtain ⟨m, rfl⟩ : ∃ j, m = j + 1 := ⟨m - 1, by omega⟩
    have hl : m ≤ l.length := by simpa using hm
    show nestN d (a :: tr l m r) = _
    rw [nestN, if_neg (by rw [tr_hd (by omega) hl]; exact hc), if_pos ⟨hk.1, by rw [tr_hd (by omega) hl]; exact hk.2⟩, if_pos hd]
  | case4 d a l hc hk hd ih =>
    obtain ⟨k, hk', rfl⟩ := Option.map_eq_some_iff.1 h
    have h2 := nestN_last _ _ _ hk'
    obtain ⟨m, rfl⟩ : ∃ j, m = j + 1 := ⟨m - 1, by omega⟩
    have hl : m ≤ l.length := by simpa using hm
    show nestN d (a :: tr l m r) = _
    rw [nestN, if_neg (by rw [tr_hd (by omega) hl]; exact hc), if_pos ⟨hk.1, by rw [tr_hd (by omega) hl]; exact hk.2⟩, if_neg hd, tr_drop (by omega) hl, ih (by rw [List.length_drop]; omega) hk' (by omega)]
    rfl
  | case5 d a l hc hk ih =>
    obtain ⟨k, hk', rfl⟩ := Option.map_eq_some_iff.1 h
    have h2 := nestN_last _ _ _ hk'
    obtain ⟨m, rfl⟩ : ∃ j, m = j + 1 := ⟨m - 1, by omega⟩
    have hl : m ≤ l.length := by simpa using hm
    show nestN d (a :: tr l m r) = _
    rw [nestN, if_neg (by rw [tr_hd (by omega) hl]; exact hc), if_neg (by rw [tr_hd (by omega) hl]; exact hk), ih hl hk' (by omega)]
    rfl
def Nlk (r : List UInt8) : Prop := hdF r = -1 ∨ hdF r = 10
theorem Nlk.brk {r : List UInt8} (h : Nlk r) : Brk r := by unfold Nlk at h; unfold Brk; omega
theorem eol_tr {l r : List UInt8} {m : Nat} (hr : Nlk r) (hm : m ≤ l.length) (h : eolN l ≤ m) : eolN (tr l m r) = eolN l := by
  have e0 : eolN r = 0 := by
    cases r with
    | nil => rfl
    | cons a r =>
      unfold Nlk at hr
      have : ((a.toNat : Nat) : Int) = hdF (a :: r) := rfl
      rw [eolN, if_pos ((nl_iff _).2 (by omega))]
  induction l generalizing m with
  | nil =>
    have : m = 0 := by simpa using hm
    subst this
    rw [tr_zero, e0]; rfl
  | cons a l ih =>
    cases m with
    | zero => rw [tr_zero, e0]; omega
    | succ m =>
      have hl : m ≤ l.length := by simpa using hm
      show eolN (a :: tr l m r) = _
      have hp : 0 < nlF (a :: tr l m r) ↔ 0 < nlF (a :: l) := by rw [nl_iff, nl_iff]; exact Iff.rfl
      unfold eolN at h ⊢
      by_cases hc : 0 < nlF (a :: l)
      · rw [if_pos hc, if_pos (hp.2 hc)]
      · rw [if_neg hc] at h
        rw [if_neg hc, if_neg (fun x => hc (hp.1 x)), ih hl (by omega)]
theorem rowLen_tr {l r : List UInt8} {m : Nat} (hr : Nlk r) (hv : Vd l) (hb : Bd l m) (hm : m ≤ l.length) (h : 0 < rowLen l) (hn : rowLen l ≤ m) : rowLen (tr l m r) = rowLen l := by
  unfold rowLen at h hn ⊢
  dsimp only at h hn ⊢
  split at h
  · rename_i hc
    rw [if_pos hc] at hn ⊢
    have e : spanR (fun c => classF c == 5) (tr l m r) = spanR (fun c => classF c == 5) l := span_tr hv hb hm (span_brk (p := fun c => classF c == 5) hr.brk (by decide) (by decide)) (show spanD _ l ≤ m by show spanR (fun c => classF c == 5) l ≤ m; omega)
    rw [e, tr_take (by omega) hm, if_pos hc, tr_drop (by omega) hm, eol_tr hr (by rw [List.length_drop]; omega) (by omega)]
  · omega
theorem note_tr {l r : List UInt8} {m n : Nat} (hr : Nlk r) (hv : Vd l) (hb : Bd l m) (hm : m ≤ l.length) (h0 : 0 < n) (h : noteN l = n) (hn : n ≤ m) : noteN (tr l m r) = n := by
  unfold noteN at h ⊢
  split at h
  · rename_i hc
    cases ht : nestN 1 (l.drop 2) with
    | none => rw [ht] at h; simp only [endAt] at h; omega
    | some k =>
      rw [ht] at h
      simp only [endAt] at h
      have h2 := nestN_last _ _ _ ht
      rw [tr_hd (by omega) hm, tr_hd_at (by omega) hm, if_pos hc, tr_drop (by omega) hm, nest_tr (by rw [List.length_drop]; omega) ht (by omega)]
      simp only [endAt]; omega
  · rename_i hc
    split at h
    · rename_i hd
      have h : rowLen l = n := by omega
      rw [tr_hd (by omega) hm, if_neg, if_pos hd, rowLen_tr hr hv hb hm (by omega) (by omega), h]
      rintro ⟨x, _⟩; omega
    · omega
theorem note_self {l : List UInt8} {n : Nat} (hv : Vd l) (h0 : 0 < n) (h : noteN l = n) : noteN (l.take n) = (l.take n).length ∧ (l.take n).length = n := by
  have hle := noteN_le l
  have hc := Cut.note hv h
  have e := note_tr (r := []) (.inl rfl) hv hc.bd (by omega) h0 h (Nat.le_refl _)
  unfold tr at e
  rw [List.append_nil] at e
  have hl : (l.take n).length = n := by rw [List.length_take]; omega
  rw [hl]; exact ⟨e, rfl⟩
end Go.Aw
namespace Go.Proofs.YtkcapphlemoccaaGreatDoor
open Go Go.Aw
def tkP (t : Tk) : Int × Int := (t.line, t.col)
def ntP (n : Nt) : Int × Int := (n.line, n.col)
def NoteT (t : List UInt8) : Prop := t ≠ [] ∧ noteN t = (t.length : Nat)
structure Rise (s : List UInt8) (p : Nat) (x : Lx) : Prop where
  t : x.toks.Pairwise fun a b => ltP (tkP a) (tkP b)
  tp : ∀ a ∈ x.toks, ltP (tkP a) (atP s p)
  n : x.notes.Pairwise fun a b => ltP (ntP a) (ntP b) ∧ a.gap ≤ b.gap
  np : ∀ a ∈ x.notes, ltP (ntP a) (atP s p) ∧ 0 ≤ a.gap ∧ a.gap ≤ x.gap ∧ (a.wh = 1 ∨ a.wh = 2 ∨ a.wh = 3) ∧ NoteT a.text
  g : 0 ≤ x.gap ∧ x.gap ≤ x.toks.length
theorem piece_eq {s : List UInt8} {a b : Nat} : pieceF s a b = (s.drop a).take (b - a) := by unfold pieceF; rw [List.drop_take]
theorem Rise.le {s : List UInt8} {p q : Nat} {x : Lx} (h : Rise s p x) (hp : Cut s p) (hq : Cut s q) (hpq : p < q) : Rise s q x :=
  have l := at_lt hp hq hpq
  ⟨h.t, fun a ha => (h.tp a ha).trans l, h.n, fun a ha => ⟨(h.np a ha).1.trans l, (h.np a ha).2⟩, h.g⟩
theorem Rise.tok {s : List UInt8} {p q : Nat} {k : Int} {x : Lx} (h : Rise s p x) (hp : Cut s p) (hq : Cut s q) (hpq : p < q) : Rise s q (tokX s p q k x) := by
  have h' := h.le hp hq hpq
  have hg := h.g
  have hgg : x.gap ≤ (tokX s p q k x).gap ∧ (tokX s p q k x).gap ≤ x.gap + 1 := by
    show x.gap ≤ (if cntF k (pieceF s p q) then x.gap + 1 else x.gap) ∧ (if cntF k (pieceF s p q) then x.gap + 1 else x.gap) ≤ x.gap + 1
    split <;> omega
  refine ⟨?_, ?_, h.n, fun a ha => ?_, ?_⟩
  · refine List.pairwise_append.2 ⟨h.t, List.pairwise_singleton _ _, fun a ha b hb => ?_⟩
    rw [List.mem_singleton] at hb; subst hb
    exact h.tp a ha
  · intro a ha
    rcases List.mem_append.1 ha with ha | ha
    · exact h'.tp a ha
    · rw [List.mem_singleton] at ha; subst ha
      exact at_lt hp hq hpq
  · have := h'.np a ha
    exact ⟨this.1, this.2.1, by omega, this.2.2.2⟩
  · have : (tokX s p q k x).toks.length = x.toks.length + 1 := by simp [tokX]
    omega
theorem Rise.note {s : List UInt8} {p q : Nat} {x : Lx} (hv : Vd s) (h : Rise s p x) (hp : Cut s p) (hq : Cut s q) (hpq : p < q) (hn : noteN (s.drop p) = (q - p : Nat)) : Rise s q (noteX s p q x) := by
  have h' := h.le hp hq hpq
  have hg := h.g
  refine ⟨h.t, h'.tp, ?_, ?_, h.g⟩
  · refine List.pairwise_append.2 ⟨h.n, List.pairwise_singleton _ _, fun a ha b hb => ?_⟩
    rw [List.mem_singleton] at hb; subst hb
    exact ⟨(h.np a ha).1, (h.np a ha).2.2.1⟩
  · intro a ha
    rcases List.mem_append.1 ha with ha | ha
    · exact h'.np a ha
    · rw [List.mem_singleton] at ha; subst ha
      refine ⟨at_lt hp hq hpq, hg.1, Int.le_refl _, ?_, ?_⟩
      · show (if behF s p q x then (if inlF s p q then (1 : Int) else 2) else 3) = 1 ∨ (if behF s p q x then (if inlF s p q then (1 : Int) else 2) else 3) = 2 ∨ (if behF s p q x then (if inlF s p q then (1 : Int) else 2) else 3) = 3
        split
        · split
          · exact .inl rfl
          · exact .inr (.inl rfl)
        · exact .inr (.inr rfl)
      · show NoteT (pieceF s p q)
        rw [piece_eq]
        have e := note_self (hp.bd.vd hv) (by omega) hn
        refine ⟨fun e0 => ?_, e.1⟩
        rw [e0] at e
        have := e.2
        simp only [List.length_nil] at this; omega
theorem Rise.blk {s : List UInt8} {p : Nat} {x : Lx} (hv : Vd s) (h : Rise s p x) (hp : Cut s p) : Rise s (blkF s p) x := by
  by_cases e : p = blkF s p
  · rw [← e]; exact h
  · exact h.le hp (hp.blk hv) (by have := (blkF_le hp.le).1; omega)
end Go.Proofs.YtkcapphlemoccaaGreatDoor
set_option linter.unusedVariables false
set_option linter.unusedSimpArgs false
namespace Go.Aw
open Go
def lexH (l : List UInt8) : Int × Nat × Int := ((lexmF l 0).1, (lexmF l 0).2.1.toNat, (lexmF l 0).2.2)
theorem quo_shift {s : List UInt8} {p : Nat} (h : (quoF s p).1 ≠ 0 ∨ (quoF s p).2.2 ≠ 0) : quoF s p = ((quoF (s.drop p) 0).1, p + (quoF (s.drop p) 0).2.1, (quoF (s.drop p) 0).2.2) := by
  unfold quoF at h ⊢
  simp only [List.drop_drop, Nat.add_zero, Nat.zero_add] at h ⊢
  split
  · split <;> (dsimp only; congr 2; omega)
  · split
    · split <;> (dsimp only; congr 2; omega)
    · rename_i h1 h2
      rw [if_neg h1, if_neg h2] at h
      exfalso
      rcases h with h | h <;> exact h rfl
theorem quo_shift0 {s : List UInt8} {p : Nat} : (quoF (s.drop p) 0).1 = (quoF s p).1 ∧ (quoF (s.drop p) 0).2.2 = (quoF s p).2.2 := by
  unfold quoF
  simp only [List.drop_drop, Nat.add_zero, Nat.zero_add]
  split
  · split <;> exact ⟨rfl, rfl⟩
  · split
    · split <;> exact ⟨rfl, rfl⟩
    · exact ⟨rfl, rfl⟩
theorem quo_nn {l : List UInt8} : 0 ≤ (quoF l 0).2.1 := by
  unfold quoF
  split
  · split <;> (dsimp only; omega)
  · split
    · split <;> (dsimp only; omega)
    · exact Int.le_refl _
theorem lexm_at {s : List UInt8} {p : Nat} : lexmF s p = ((lexH (s.drop p)).1, ((p + (lexH (s.drop p)).2.1 : Nat) : Int), (lexH (s.drop p)).2.2) := by
  have q0 := quo_shift0 (s := s) (p := p)
  have qn := quo_nn (l := s.drop p)
  unfold lexH lexmF
  have en : nscF (s.drop p) 0 = (if (numF (s.drop p)).1 = 0 then ((0 : Int), (0 : Int)) else ((numF (s.drop p)).1, ((numF (s.drop p)).2 : Nat))) := by unfold nscF; rw [List.drop_zero, Nat.zero_add]
  have ew : wscanF (s.drop p) 0 = (if (wordF (s.drop p)).1 = 0 then ((0 : Int), (0 : Int)) else ((wordF (s.drop p)).1, ((wordF (s.drop p)).2 : Nat))) := by unfold wscanF; rw [List.drop_zero, Nat.zero_add]
  have en' : nscF s p = (if (numF (s.drop p)).1 = 0 then ((0 : Int), (0 : Int)) else ((numF (s.drop p)).1, ((p + (numF (s.drop p)).2 : Nat) : Int))) := rfl
  have ew' : wscanF s p = (if (wordF (s.drop p)).1 = 0 then ((0 : Int), (0 : Int)) else ((wordF (s.drop p)).1, ((p + (wordF (s.drop p)).2 : Nat) : Int))) := rfl
  rw [en, ew, en', ew']
  by_cases h1 : (numF (s.drop p)).1 = 0
  · rw [if_pos h1, if_pos h1]
    dsimp only
    have z0 : ¬ ((0 : Int) ≠ 0) := fun x => x rfl
    rw [if_neg z0, if_neg z0, q0.1, q0.2]
    by_cases h2 : (quoF s p).1 = 0 ∧ (quoF s p).2.2 = 0
    · rw [if_pos h2, if_pos h2]
      by_cases h3 : (wordF (s.drop p)).1 = 0
      · rw [if_pos h3, if_pos h3]; rfl
      · rw [if_neg h3, if_neg h3]
        dsimp only
        rw [if_neg h3, if_neg h3]; rfl
    · rw [if_neg h2, if_neg h2]
      rw [quo_shift (s := s) (p := p) (by omega)]
      refine Prod.ext rfl (Prod.ext ?_ rfl)
      dsimp only
      omega
  · rw [if_neg h1, if_neg h1]
    dsimp only
    rw [if_pos h1, if_pos h1]; rfl
theorem note_at {s : List UInt8} {p : Nat} : noteF s p = if noteN (s.drop p) < 0 then (0, 60) else if noteN (s.drop p) = 0 then (0, 0) else (p + noteN (s.drop p), 0) := rfl
theorem lexH_cut {l : List UInt8} (hv : Vd l) (e : (lexH l).2.2 = 0) : (lexH l).1 ≠ 0 ∧ 0 < (lexH l).2.1 ∧ (lexH l).2.1 ≤ l.length ∧ Cut l (lexH l).2.1 := by
  obtain ⟨h1, q, h2, h3, h4, h5⟩ := lexm_cut hv (.zero l) (show (lexmF l 0).2.2 = 0 from e)
  have : (lexH l).2.1 = q := by show (lexmF l 0).2.1.toNat = q; omega
  rw [this]; exact ⟨h1, h3, h4, h5⟩
theorem lexH_tr {l r : List UInt8} {m : Nat} (hr : Brk r) (hv : Vd l) (hb : Bd l m) (h0 : 0 < m) (hm : m ≤ l.length) (e : (lexH l).2.2 = 0) (h : (lexH l).2.1 ≤ m) (hM : m = (lexH l).2.1 ∨ m = l.length) : lexH (tr l m r) = lexH l := by
  have key : lexmF (tr l m r) 0 = lexmF l 0 := by
    have d0 : ∀ x : List UInt8, x.drop 0 = x := fun x => rfl
    have hnn := quo_nn (l := l)
    unfold lexH at e h hM
    dsimp only at e h hM
    by_cases h1 : (numF l).1 = 0
    · have n2 : (numF l).2 = 0 := by
        unfold numF at h1 ⊢
        split
        · rename_i hc; rw [if_pos hc] at h1; exact absurd h1 (by decide : ¬ (11 : Int) = 0)
        · rename_i hc
          rw [if_neg hc] at h1
          split
          · rfl
          · rename_i hc2
            rw [if_neg hc2] at h1
            dsimp only at h1
            split at h1 <;> exact absurd h1 (by decide)
      have e1 := num_tr (l := l) (r := r) (m := m) hr h0 hm (by omega)
      have en : nscF l 0 = (0, 0) := by unfold nscF; rw [d0, if_pos h1]
      have en' : nscF (tr l m r) 0 = (0, 0) := by unfold nscF; rw [d0, e1, if_pos h1]
      unfold lexmF at e h hM ⊢
      rw [en] at e h hM ⊢
      rw [en']
      rw [if_neg (fun x => x rfl)] at e h hM
      have z0 : ¬ (((0 : Int), (0 : Int)).1 ≠ 0) := fun x => x rfl
      rw [if_neg z0, if_neg z0]
      by_cases h2 : (quoF l 0).1 = 0 ∧ (quoF l 0).2.2 = 0
      · have q1 : (quoF l 0).2.1 = 0 := by
          have h21 := h2.1
          have h22 := h2.2
          unfold quoF at h21 h22 ⊢
          by_cases c1 : hdF (l.drop 0) = 34
          · rw [if_pos c1] at h21 h22
            split at h21
            · rename_i q hq; rw [hq] at h22; exact absurd h22 (text_err hq)
            · exact absurd h21 (show ¬ (14 : Int) = 0 by decide)
          · rw [if_neg c1] at h21 h22 ⊢
            by_cases c2 : hdF (l.drop 0) = 39
            · rw [if_pos c2] at h21 h22
              split at h21
              · rename_i q hq; rw [hq] at h22; exact absurd h22 (char_err hq)
              · exact absurd h21 (show ¬ (13 : Int) = 0 by decide)
            · rw [if_neg c2]
        have e2 := quo_tr (l := l) (r := r) (m := m) hr hv hb h0 hm h2.2 (by omega)
        rw [if_pos h2] at e h hM
        rw [e2, if_pos h2, if_pos h2]
        by_cases h3 : (wordF l).1 = 0
        · have ew : wscanF l 0 = (0, 0) := by unfold wscanF; rw [d0, if_pos h3]
          rw [ew, if_pos rfl] at e
          exact absurd e (by decide : ¬ (70 : Int) = 0)
        · have ew : wscanF l 0 = ((wordF l).1, (((wordF l).2 : Nat) : Int)) := by unfold wscanF; rw [d0, if_neg h3, Nat.zero_add]
          rw [ew, if_neg h3] at h hM
          dsimp only at h hM
          have e3 := word_tr (l := l) (r := r) (m := m) hr hv hb h0 hm (by omega) (by omega)
          have ew' : wscanF (tr l m r) 0 = wscanF l 0 := by unfold wscanF; rw [d0, d0, e3]
          rw [ew']
      · rw [if_neg h2] at e h hM
        have e2 := quo_tr (l := l) (r := r) (m := m) hr hv hb h0 hm e (by omega)
        rw [e2, if_neg h2, if_neg h2]
    · have en : nscF l 0 = ((numF l).1, (((numF l).2 : Nat) : Int)) := by unfold nscF; rw [d0, if_neg h1, Nat.zero_add]
      unfold lexmF at h hM ⊢
      rw [en, if_pos h1] at h hM
      dsimp only at h hM
      have e1 := num_tr (l := l) (r := r) (m := m) hr h0 hm (by omega)
      have en' : nscF (tr l m r) 0 = nscF l 0 := by unfold nscF; rw [d0, d0, e1]
      rw [en', en, if_pos h1, if_pos h1]
  unfold lexH
  rw [key]
theorem note0_tr {l r : List UInt8} {m : Nat} (hr : Brk r) (hv : Vd l) (hb : Bd l m) (h0 : 0 < m) (hm : m ≤ l.length) (e : (lexH l).2.2 = 0) (h : (lexH l).2.1 ≤ m) (hn : noteN l = 0) : noteN (tr l m r) = 0 := by
  have h1 := tr_hd (l := l) (r := r) h0 hm
  unfold noteN at hn ⊢
  split at hn
  · exfalso
    cases ht : nestN 1 (l.drop 2) with
    | none => rw [ht] at hn; exact absurd hn (by decide : ¬ (-1 : Int) = 0)
    | some k => rw [ht] at hn; simp only [endAt] at hn; omega
  · rename_i hc
    rw [h1, if_neg]
    · split at hn
      · rename_i h45
        rw [if_pos h45]
        have hs : spanR (fun c => classF c == 5) l ≤ m := by
          by_cases hle : spanR (fun c => classF c == 5) l ≤ m
          · exact hle
          · exfalso
            have hf : firstF l = 5 := by
              cases l with
              | nil => exact absurd h45 (by decide)
              | cons a t =>
                show classF (((decR (a :: t)).1 : Nat) : Int) = 5
                rw [(decR_hd (by omega) (by omega)).2, h45]; decide
            have hp : plainF l = (symF (l.take (spanR (fun c => classF c == 5) l)), spanR (fun c => classF c == 5) l) := by
              unfold plainF; rw [if_neg (by omega), if_pos hf]
            have hk : symF (l.take (spanR (fun c => classF c == 5) l)) ≠ 2 ∧ symF (l.take (spanR (fun c => classF c == 5) l)) ≠ 4 ∧ symF (l.take (spanR (fun c => classF c == 5) l)) ≠ 0 := by
              unfold symF; split
              · decide
              · split <;> decide
            have hw : wordF l = plainF l := by
              unfold wordF
              rw [scanG_no]
              rw [hp]; rintro ⟨_, x, _⟩
              exact x.elim hk.1 hk.2.1
            have hnum : (numF l).1 = 0 := by
              unfold numF
              have p0 : (prefF l).1 = 10 := by unfold prefF; rw [if_neg (fun x => by omega)]
              have r0 : rowN 10 l = 0 := by
                cases l with
                | nil => rfl
                | cons a t =>
                  have h45 : ((a.toNat : Nat) : Int) = 45 := h45
                  unfold rowN
                  rw [if_pos (by rw [h45]; decide)]
              rw [if_neg (by omega), if_pos r0]
            have hq : quoF l 0 = (0, 0, 0) := by
              unfold quoF
              rw [List.drop_zero, if_neg (by omega), if_neg (by omega)]
            have : (lexH l).2.1 = (wordF l).2 := by
              unfold lexH lexmF
              have en : nscF l 0 = (0, 0) := by unfold nscF; rw [List.drop_zero, if_pos hnum]
              have ew : wscanF l 0 = ((wordF l).1, (((wordF l).2 : Nat) : Int)) := by unfold wscanF; rw [List.drop_zero, if_neg (by rw [hw, hp]; exact hk.2.2), Nat.zero_add]
              rw [en, hq, ew]
              dsimp only
              rw [if_neg (fun x => x rfl), if_pos ⟨rfl, rfl⟩, if_neg (by rw [hw, hp]; exact hk.2.2)]
              rfl
            rw [hw, hp] at this
            dsimp only at this
            omega
        have es : spanR (fun c => classF c == 5) (tr l m r) = spanR (fun c => classF c == 5) l := span_tr hv hb hm (span_brk (p := fun c => classF c == 5) hr (by decide) (by decide)) hs
        have hn : rowLen l = 0 := by omega
        have : rowLen (tr l m r) = 0 := by
          unfold rowLen at hn ⊢
          dsimp only at hn ⊢
          rw [es, tr_take hs hm]
          split
          · rename_i hc2
            rw [if_pos hc2] at hn; omega
          · rfl
        rw [this]; rfl
      · rename_i h45
        rw [if_neg h45]
    · rintro ⟨x, y⟩
      by_cases hm1 : 1 < m
      · rw [tr_hd_at hm1 hm] at y; exact hc ⟨x, y⟩
      · have : m = 1 := by omega
        subst this
        rw [tr_hd_end hm] at y
        unfold Brk at hr; omega
end Go.Aw
set_option linter.unusedVariables false
set_option linter.unusedSimpArgs false
namespace Go.Aw
open Go
def blkN (l : List UInt8) : Nat := spanR (fun c => classF c == 1) l
def bdr (l : List UInt8) : List UInt8 := l.drop (blkN l)
theorem bdr_len (l : List UInt8) : (bdr l).length ≤ l.length := by unfold bdr; rw [List.length_drop]; omega
def itF (l : List UInt8) : Option (List (Int × List UInt8)) :=
  if h0 : bdr l = [] then some []
  else if noteN (bdr l) < 0 then none
  else if h1 : 0 < noteN (bdr l) then (itF ((bdr l).drop (noteN (bdr l)).toNat)).map ((0, (bdr l).take (noteN (bdr l)).toNat) :: ·)
  else if (lexH (bdr l)).2.2 ≠ 0 then none
  else if h2 : 0 < (lexH (bdr l)).2.1 then (itF ((bdr l).drop (lexH (bdr l)).2.1)).map (((lexH (bdr l)).1, (bdr l).take (lexH (bdr l)).2.1) :: ·)
  else none
termination_by l.length
decreasing_by
  all_goals
    have := bdr_len l
    have h0' := List.length_pos_iff.2 h0
    rw [List.length_drop]; omega
theorem it_bdr {l l' : List UInt8} (h : bdr l = bdr l') : itF l = itF l' := by
  rw [itF]
  conv => rhs; rw [itF]
  simp only [h]
theorem bdr_nil : bdr [] = [] := by
  show ([] : List UInt8).drop _ = []
  exact List.drop_nil
theorem it_nil : itF [] = some [] := by rw [itF, dif_pos bdr_nil]
theorem bdr_cut {l : List UInt8} (hv : Vd l) : Vd (bdr l) := (Cut.blank hv).bd.vd hv
def Cl (l : List UInt8) : Prop := spanD (fun d => !(classF (d.1 : Nat) == 0)) l = l.length
theorem all_tr {p : Nat × Nat → Bool} {l : List UInt8} {k : Nat} (hv : Vd l) (hb : Bd l k) (hk : k ≤ l.length) (h : spanD p l = l.length) : spanD p (l.take k) = (l.take k).length ∧ spanD p (l.drop k) = (l.drop k).length := by
  have e : l.take k = tr l k [] := by unfold tr; rw [List.append_nil]
  rw [e]
  induction hb with
  | zero l => exact ⟨by rw [tr_zero, spanD_nil]; rfl, h⟩
  | @step l k hne hb ih =>
    have hd := dec_tr (r := []) hv (by have := decR_pos l; omega) hk (.step hne hb)
    have hl := decR_le hne
    have hp := decR_pos l
    have hc : p (decR l) = true := by
      cases hc : p (decR l) with
      | true => rfl
      | false => rw [spanD_no hc] at h; have := List.length_pos_iff.2 hne; omega
    have hne' : tr l ((decR l).2 + k) [] ≠ [] := fun e => by
      have := congrArg List.length e
      rw [tr_len hk] at this; simp only [List.length_nil] at this; omega
    rw [spanD_yes hne hc] at h
    have ih := ih (hv.rune hne).2 (by rw [List.length_drop]; omega) (by rw [List.length_drop]; omega) (by unfold tr; rw [List.append_nil])
    rw [spanD_yes hne' (by rw [hd.1]; exact hc), hd.1, tr_drop (by omega) hk, show (decR l).2 + k - (decR l).2 = k by omega, ih.1]
    rw [List.drop_drop] at ih
    refine ⟨?_, ih.2⟩
    rw [tr_len hk, tr_len (by rw [List.length_drop]; omega)]
    simp only [List.length_nil]; omega
theorem Vd.take {l : List UInt8} {k : Nat} (hv : Vd l) (hb : Bd l k) (hk : k ≤ l.length) : Vd (l.take k) := (all_tr (p := goodD) hv hb hk hv).1
theorem Cl.take {l : List UInt8} {k : Nat} (h : Cl l) (hv : Vd l) (hb : Bd l k) (hk : k ≤ l.length) : Cl (l.take k) := (all_tr hv hb hk h).1
theorem Cl.drop {l : List UInt8} {k : Nat} (h : Cl l) (hv : Vd l) (hb : Bd l k) (hk : k ≤ l.length) : Cl (l.drop k) := (all_tr hv hb hk h).2
theorem Cl.app {l t : List UInt8} (h : Cl l) (hv : Vd l) (k : Cl t) : Cl (l ++ t) := by
  unfold Cl at *
  rw [spanD_app l t hv, if_pos h, k, List.length_append]
theorem bdr_32 (r : List UInt8) : bdr (32 :: r) = bdr r := by
  have e : blkN (32 :: r) = 1 + blkN r := by
    have h1 : decR (32 :: r) = (32, 1) := decR_lo (by decide)
    show spanR _ (32 :: r) = _
    rw [spanR_yes (by simp) (by rw [h1]; decide), h1]; rfl
  unfold bdr
  rw [e, Nat.add_comm]; rfl
def Self (t : Int × List UInt8) : Prop :=
  t.1 ≠ 0 ∧ t.2 ≠ [] ∧ Vd t.2 ∧ Cl t.2 ∧ ∀ r, Brk r → bdr (t.2 ++ r) = t.2 ++ r ∧ noteN (t.2 ++ r) = 0 ∧ lexH (t.2 ++ r) = (t.1, t.2.length, 0)
theorem bdr_bdr (l : List UInt8) : blkN (bdr l) = 0 := by
  by_cases h : blkN l < l.length
  · have := spanR_stop (fun c => classF c == 1) l h
    exact spanR_no this
  · have : bdr l = [] := List.drop_eq_nil_iff.2 (by omega)
    rw [this]; exact spanR_nil _
theorem self_of {l : List UInt8} (hv : Vd l) (hcl : Cl l) (hb : blkN l = 0) (h0 : l ≠ []) (hn : noteN l = 0) (h : (lexH l).2.2 = 0) : Self ((lexH l).1, l.take (lexH l).2.1) := by
  obtain ⟨k1, k2, k3, k4⟩ := lexH_cut hv h
  have hl : (l.take (lexH l).2.1).length = (lexH l).2.1 := by rw [List.length_take]; omega
  refine ⟨k1, fun e => ?_, hv.take k4.bd k3, hcl.take hv k4.bd k3, fun r hr => ?_⟩
  · have := congrArg List.length e
    dsimp only at this
    rw [hl, List.length_nil] at this; omega
  · have e2 := lexH_tr (r := r) hr hv k4.bd k2 k3 h (Nat.le_refl _) (.inl rfl)
    have e3 := note0_tr (r := r) hr hv k4.bd k2 k3 h (Nat.le_refl _) hn
    have hd := dec_tr (r := r) hv k2 k3 k4.bd
    dsimp only
    rw [hl]
    refine ⟨?_, e3, by rw [show l.take (lexH l).2.1 ++ r = tr l (lexH l).2.1 r from rfl, e2]; exact Prod.ext rfl (Prod.ext rfl h)⟩
    show (tr l (lexH l).2.1 r).drop (blkN (tr l (lexH l).2.1 r)) = _
    have : blkN (tr l (lexH l).2.1 r) = 0 := by
      cases hc : classF ((decR l).1 : Nat) == 1 with
      | true =>
        have := spanR_yes (p := fun c => classF c == 1) h0 hc
        have hp := decR_pos l
        unfold blkN at hb; omega
      | false => exact spanR_no (by rw [hd.1]; exact hc)
    rw [this]; rfl
theorem it_self {l : List UInt8} {is : List (Int × List UInt8)} (hv : Vd l) (hcl : Cl l) (h : itF l = some is) : ∀ t ∈ is, t.1 ≠ 0 → Self t := by
  have hle := spanR_le (fun c => classF c == 1) l
  fun_induction itF l generalizing is with
  | case1 l h0 => injection h with h; subst h; intro t ht; cases ht
  | case2 l h0 h1 => cases h
  | case3 l h0 h1 h2 ih =>
    obtain ⟨k, hk, rfl⟩ := Option.map_eq_some_iff.1 h
    have hv' := bdr_cut hv
    have hcl' : Cl (bdr l) := hcl.drop hv (Cut.blank hv).bd hle
    have e : noteN (bdr l) = ((noteN (bdr l)).toNat : Nat) := by omega
    have hc := Cut.note hv' e
    intro t ht hk0
    rcases List.mem_cons.1 ht with rfl | ht
    · exact absurd rfl hk0
    · exact ih (hc.bd.vd hv') (hcl'.drop hv' hc.bd hc.le) hk (spanR_le _ _) t ht hk0
  | case4 l h0 h1 h2 h3 => cases h
  | case5 l h0 h1 h2 h3 h4 ih =>
    obtain ⟨k, hk, rfl⟩ := Option.map_eq_some_iff.1 h
    have hv' := bdr_cut hv
    have hcl' : Cl (bdr l) := hcl.drop hv (Cut.blank hv).bd hle
    have h3' : (lexH (bdr l)).2.2 = 0 := by omega
    obtain ⟨k1, k2, k3, k4⟩ := lexH_cut hv' h3'
    intro t ht hk0
    rcases List.mem_cons.1 ht with rfl | ht
    · exact self_of hv' hcl' (bdr_bdr l) h0 (by omega) h3'
    · exact ih (k4.bd.vd hv') (hcl'.drop hv' k4.bd k3) hk (spanR_le _ _) t ht hk0
  | case6 l h0 h1 h2 h3 h4 => cases h
def spellW : List (List UInt8) → List UInt8
  | [] => []
  | [w] => w
  | w :: v :: r => w ++ 32 :: spellW (v :: r)
theorem it_one {t : Int × List UInt8} {r : List UInt8} (h : Self t) (hr : Brk r) : itF (t.2 ++ r) = (itF r).map (t :: ·) := by
  obtain ⟨h1, h2, h3, h4, h5⟩ := h
  obtain ⟨e1, e2, e3⟩ := h5 r hr
  have hl := List.length_pos_iff.2 h2
  rw [itF, dif_neg (by rw [e1]; simp [h2]), e1, e2, if_neg (by omega), dif_neg (by omega), e3, if_neg (fun x => x rfl), dif_pos hl]
  dsimp only
  rw [List.drop_left, List.take_left]
theorem it_spell : ∀ ts : List (Int × List UInt8), (∀ t ∈ ts, Self t) → itF (spellW (ts.map (·.2))) = some ts
  | [], _ => by
    exact it_nil
  | [t], h => by
    have e := it_one (r := []) (h t List.mem_cons_self) (.inl rfl)
    rw [List.append_nil] at e
    show itF t.2 = _
    rw [e, it_nil]; rfl
  | t :: u :: r, h => by
    show itF (t.2 ++ 32 :: spellW ((u :: r).map (·.2))) = _
    rw [it_one (h t List.mem_cons_self) (.inr (.inl rfl)), it_bdr (bdr_32 _), it_spell (u :: r) (fun x hx => h x (List.mem_cons_of_mem _ hx))]; rfl
theorem Vd.sp : Vd [32] := by unfold Vd; rw [spanD_yes (by simp) (by decide)]; rw [show (([32] : List UInt8).drop (decR [32]).2) = [] from by rw [decR_lo (by decide)]; rfl, spanD_nil, decR_lo (by decide)]; rfl
theorem Vd.nl : Vd [10] := by unfold Vd; rw [spanD_yes (by simp) (by decide)]; rw [show (([10] : List UInt8).drop (decR [10]).2) = [] from by rw [decR_lo (by decide)]; rfl, spanD_nil, decR_lo (by decide)]; rfl
theorem Cl.sp : Cl [32] := by unfold Cl; rw [spanD_yes (by simp) (by decide)]; rw [show (([32] : List UInt8).drop (decR [32]).2) = [] from by rw [decR_lo (by decide)]; rfl, spanD_nil, decR_lo (by decide)]; rfl
theorem Cl.nl : Cl [10] := by unfold Cl; rw [spanD_yes (by simp) (by decide)]; rw [show (([10] : List UInt8).drop (decR [10]).2) = [] from by rw [decR_lo (by decide)]; rfl, spanD_nil, decR_lo (by decide)]; rfl
theorem spell_ok : ∀ ws : List (List UInt8), (∀ w ∈ ws, Vd w ∧ Cl w) → Vd (spellW ws) ∧ Cl (spellW ws)
  | [], _ => ⟨Vd.nil, spanD_nil _⟩
  | [w], h => h w List.mem_cons_self
  | w :: v :: r, h => by
    have h1 := h w List.mem_cons_self
    have h2 := spell_ok (v :: r) (fun x hx => h x (List.mem_cons_of_mem _ hx))
    have e : (32 :: spellW (v :: r) : List UInt8) = [32] ++ spellW (v :: r) := rfl
    show Vd (w ++ 32 :: spellW (v :: r)) ∧ Cl (w ++ 32 :: spellW (v :: r))
    rw [e]
    exact ⟨h1.1.app (Vd.sp.app h2.1), h1.2.app h1.1 (Cl.sp.app Vd.sp h2.2)⟩
end Go.Aw
namespace Go.Proofs.YtkcapphlemoccaaGreatDoor
open Go Go.Aw
def kts (l : List Tk) : List (Int × List UInt8) := l.map fun t => (t.kind, t.text)
def LexIs (is : Option (List (Int × List UInt8))) (x : Lx) (r : Sum (Int × Int) Lx) : Prop := match is with
  | none => ∃ e, r = .inl e
  | some is => ∃ y, r = .inr y ∧ kts y.toks = kts x.toks ++ is.filter (fun t => t.1 != 0) ∧ y.notes.map (·.text) = x.notes.map (·.text) ++ (is.filter (fun t => t.1 == 0)).map (·.2)
theorem LexIs.tok {o : Option (List (Int × List UInt8))} {s : List UInt8} {p q : Nat} {k : Int} {x : Lx} {r : Sum (Int × Int) Lx} (h : LexIs o (tokX s p q k x) r) (hk : k ≠ 0) {t : List UInt8} (ht : t = pieceF s p q) : LexIs (o.map ((k, t) :: ·)) x r := by
  subst ht
  cases o with
  | none => exact h
  | some is =>
    obtain ⟨y, h1, h2, h3⟩ := h
    refine ⟨y, h1, ?_, ?_⟩
    · have hf : (((k, pieceF s p q) :: is).filter fun t : Int × List UInt8 => t.1 != 0) = (k, pieceF s p q) :: is.filter fun t => t.1 != 0 := List.filter_cons_of_pos (by simpa using hk)
      rw [hf, h2]
      simp [kts, tokX]
    · have hf : (((k, pieceF s p q) :: is).filter fun t : Int × List UInt8 => t.1 == 0) = is.filter fun t => t.1 == 0 := List.filter_cons_of_neg (by simpa using hk)
      rw [hf, h3]; rfl
theorem LexIs.note {o : Option (List (Int × List UInt8))} {s : List UInt8} {p q : Nat} {x : Lx} {r : Sum (Int × Int) Lx} (h : LexIs o (noteX s p q x) r) {t : List UInt8} (ht : t = pieceF s p q) : LexIs (o.map ((0, t) :: ·)) x r := by
  subst ht
  cases o with
  | none => exact h
  | some is =>
    obtain ⟨y, h1, h2, h3⟩ := h
    refine ⟨y, h1, ?_, ?_⟩
    · have hf : (((0, pieceF s p q) :: is).filter fun t : Int × List UInt8 => t.1 != 0) = is.filter fun t => t.1 != 0 := List.filter_cons_of_neg (by simp)
      rw [hf, h2]; rfl
    · have hf : (((0, pieceF s p q) :: is).filter fun t : Int × List UInt8 => t.1 == 0) = (0, pieceF s p q) :: is.filter fun t => t.1 == 0 := List.filter_cons_of_pos (by simp)
      rw [hf, h3]
      simp [noteX]
theorem lexL_it {s : List UInt8} (hv : Vd s) : ∀ (n q : Nat) (x : Lx), s.length - q ≤ n → Cut s q → LexIs (itF (s.drop q)) x (lexL s (blkF s q) x) := by
  intro n
  induction n with
  | zero =>
    intro q x hn c
    have hb := blkF_le c.le
    have hq := c.le
    have e0 : s.drop q = [] := List.drop_eq_nil_iff.2 (by omega)
    rw [e0, it_nil, lexL, dif_neg (by omega)]
    exact ⟨x, rfl, by simp, by simp⟩
  | succ n ih =>
    intro q x hn c
    have hb := blkF_le c.le
    have c' := c.blk hv
    have e1 : bdr (s.drop q) = s.drop (blkF s q) := by unfold bdr; rw [List.drop_drop]; rfl
    by_cases hp : blkF s q < s.length
    · rw [itF, dif_neg (by rw [e1]; exact drop_ne hp), e1, lexL, dif_pos hp]
      have hna := note_at (s := s) (p := blkF s q)
      by_cases h1 : noteN (s.drop (blkF s q)) < 0
      · rw [if_pos h1] at hna
        rw [if_pos h1, hna, if_pos (by decide)]
        exact ⟨_, rfl⟩
      · rw [if_neg h1] at hna
        rw [if_neg h1]
        by_cases h2 : 0 < noteN (s.drop (blkF s q))
        · rw [if_neg (by omega)] at hna
          rw [dif_pos h2, hna, if_neg (fun x => x rfl), if_pos (by dsimp only; omega)]
          dsimp only
          have eq : ((blkF s q : Int) + noteN (s.drop (blkF s q))).toNat = blkF s q + (noteN (s.drop (blkF s q))).toNat := by omega
          rw [eq, dif_pos (by omega), List.drop_drop]
          have cc := c'.add (Cut.note (c'.bd.vd hv) (n := (noteN (s.drop (blkF s q))).toNat) (by omega))
          exact LexIs.note (ih _ _ (by omega) cc) (by rw [piece_eq, Nat.add_sub_cancel_left])
        · rw [if_pos (by omega)] at hna
          rw [dif_neg h2, hna, if_neg (show ¬ (((0 : Int), (0 : Int)).2 ≠ 0) from fun x => x rfl), if_neg (show ¬ (0 : Int) < ((0 : Int), (0 : Int)).1 by decide), lexm_at]
          dsimp only
          by_cases h3 : (lexH (s.drop (blkF s q))).2.2 = 0
          · obtain ⟨k1, k2, k3, k4⟩ := lexH_cut (c'.bd.vd hv) h3
            rw [if_neg (fun x => x h3), if_neg (fun x => x h3), dif_pos k2, Int.toNat_natCast, dif_pos (by omega), List.drop_drop]
            exact LexIs.tok (ih _ _ (by omega) (c'.add k4)) k1 (by rw [piece_eq, Nat.add_sub_cancel_left])
          · rw [if_pos h3, if_pos h3]
            exact ⟨_, rfl⟩
    · rw [itF, dif_pos (by rw [e1]; exact List.drop_eq_nil_iff.2 (by omega)), lexL, dif_neg hp]
      exact ⟨x, rfl, by simp, by simp⟩
def Okt (s : List UInt8) : Prop := s.length ≤ 16777216 ∧ Vd s ∧ Cl s
theorem lexF_of {s : List UInt8} (h : Okt s) : LexIs (itF s) lx0 (lexF s) := by
  have e : lexF s = lexL s (blkF s 0) lx0 := by
    unfold lexF
    rw [if_neg (by have := h.1; omega), if_neg, if_neg]
    · unfold idxF
      have := h.2.2
      rw [if_neg (fun x => Nat.lt_irrefl _ (Nat.lt_of_lt_of_le x (Nat.le_of_eq (show s.length = spanD (fun d => !(classF (d.1 : Nat) == 0)) s from h.2.2.symm))))]
      decide
    · unfold chkF
      rw [if_neg (by have : spanD goodD s = s.length := h.2.1; omega)]
      exact fun x => x rfl
  rw [e]
  exact lexL_it h.2.1 _ 0 lx0 (Nat.le_refl _) (.zero s)
theorem lexF_ok {s : List UInt8} {y : Lx} (h : lexF s = .inr y) : Okt s := by
  unfold lexF at h
  split at h
  · cases h
  · split at h
    · cases h
    · rename_i h1 h2
      split at h
      · cases h
      · rename_i h3
        refine ⟨by omega, chk_vd (by omega), ?_⟩
        unfold idxF at h3
        have hle := spanD_le (fun d => !((fun c : Nat => classF (c : Nat) == 0) d.1)) s
        split at h3
        · omega
        · show spanD (fun d => !((fun c : Nat => classF (c : Nat) == 0) d.1)) s = _
          omega
theorem lexF_it {s : List UInt8} {y : Lx} (h : lexF s = .inr y) : ∃ is, itF s = some is ∧ kts y.toks = is.filter (fun t => t.1 != 0) ∧ y.notes.map (·.text) = (is.filter (fun t => t.1 == 0)).map (·.2) := by
  have h1 := lexF_of (lexF_ok h)
  cases hi : itF s with
  | none => rw [hi] at h1; obtain ⟨e, h1⟩ := h1; rw [h1] at h; cases h
  | some is =>
    rw [hi] at h1
    obtain ⟨z, h2, h3, h4⟩ := h1
    rw [h2] at h
    injection h with h; subst h
    exact ⟨is, rfl, by rw [h3]; rfl, by rw [h4]; rfl⟩
theorem lexF_some {s : List UInt8} {is : List (Int × List UInt8)} (h : Okt s) (hi : itF s = some is) : ∃ y, lexF s = .inr y ∧ kts y.toks = is.filter (fun t => t.1 != 0) ∧ y.notes.map (·.text) = (is.filter (fun t => t.1 == 0)).map (·.2) := by
  have h1 := lexF_of h
  rw [hi] at h1
  obtain ⟨z, h2, h3, h4⟩ := h1
  exact ⟨z, h2, by rw [h3]; rfl, by rw [h4]; rfl⟩
theorem lex_back {s : List UInt8} {y : Lx} (h : lexF s = .inr y) (hl : (spellW (y.toks.map (·.text))).length ≤ 16777216) : ∃ w, lexF (spellW (y.toks.map (·.text))) = .inr w ∧ kts w.toks = kts y.toks ∧ w.notes = [] := by
  obtain ⟨is, h1, h2, _⟩ := lexF_it h
  have ok := lexF_ok h
  have hs : ∀ t ∈ kts y.toks, Self t := fun t ht => by
    rw [h2, List.mem_filter] at ht
    exact it_self ok.2.1 ok.2.2 h1 t ht.1 (by simpa using ht.2)
  have e1 : y.toks.map (·.text) = (kts y.toks).map (·.2) := by simp [kts]
  have e2 := it_spell (kts y.toks) hs
  rw [e1] at hl ⊢
  have hok : Okt (spellW ((kts y.toks).map (·.2))) := by
    have := spell_ok ((kts y.toks).map (·.2)) (fun w hw => by
      obtain ⟨t, ht, rfl⟩ := List.mem_map.1 hw
      exact ⟨(hs t ht).2.2.1, (hs t ht).2.2.2.1⟩)
    exact ⟨hl, this⟩
  obtain ⟨w, w1, w2, w3⟩ := lexF_some hok e2
  refine ⟨w, w1, ?_, ?_⟩
  · rw [w2]
    exact List.filter_eq_self.2 (fun t ht => by simpa using (hs t ht).1)
  · have : (kts y.toks).filter (fun t => t.1 == 0) = [] := List.filter_eq_nil_iff.2 (fun t ht => by simpa using (hs t ht).1)
    rw [this] at w3
    exact List.map_eq_nil_iff.1 w3
end Go.Proofs.YtkcapphlemoccaaGreatDoor
set_option linter.unusedVariables false
namespace Go.Proofs.YtkcapphlemoccaaGreatDoor
open Go Go.Aw
theorem lexL_end {s : List UInt8} {p : Nat} {x : Lx} (h : ¬ p < s.length) : lexL s p x = .inr x := by rw [lexL, dif_neg h]
theorem lexL_bad {s : List UInt8} {p : Nat} {x : Lx} (h : p < s.length) (h1 : (noteF s p).2 ≠ 0) : lexL s p x = .inl ((p : Nat), (noteF s p).2) := by rw [lexL, dif_pos h, if_pos h1]
theorem lexL_note {s : List UInt8} {p q : Nat} {x : Lx} (h : p < s.length) (h1 : (noteF s p).2 = 0) (h2 : (noteF s p).1 = (q : Nat)) (h3 : p < q) : lexL s p x = lexL s (blkF s q) (noteX s p q x) := by
  rw [lexL, dif_pos h, if_neg (fun e => e h1), if_pos (by omega), h2, Int.toNat_natCast, dif_pos h3]
theorem lexL_err {s : List UInt8} {p : Nat} {x : Lx} (h : p < s.length) (h1 : (noteF s p).2 = 0) (h2 : ¬ 0 < (noteF s p).1) (h3 : (lexmF s p).2.2 ≠ 0) : lexL s p x = .inl ((lexmF s p).2.1, (lexmF s p).2.2) := by
  rw [lexL, dif_pos h, if_neg (fun e => e h1), if_neg h2, if_pos h3]
theorem lexL_tok {s : List UInt8} {p q : Nat} {x : Lx} (h : p < s.length) (h1 : (noteF s p).2 = 0) (h2 : ¬ 0 < (noteF s p).1) (h3 : (lexmF s p).2.2 = 0) (h4 : (lexmF s p).2.1 = (q : Nat)) (h5 : p < q) : lexL s p x = lexL s (blkF s q) (tokX s p q (lexmF s p).1 x) := by
  rw [lexL, dif_pos h, if_neg (fun e => e h1), if_neg h2, if_neg (fun e => e h3), h4, Int.toNat_natCast, dif_pos h5]
structure LW where
  p : Nat
  sp : Nat
  x : Lx
  w1 : Own
  w2 : Own
  m : St
theorem toks_snoc (l : List Tk) (t : Tk) : encTs (l ++ [t]) = encTs l ++ [t.cells] := by simp [encTs]
theorem notes_snoc (l : List Nt) (t : Nt) : encNs (l ++ [t]) = encNs l ++ [t.cells] := by simp [encNs]
theorem notes_length (l : List Nt) : (encNs l).length = l.length := by simp [encNs]
theorem blk_blk (s : List UInt8) (p : Nat) : blkF s (blkF s p) = blkF s p := by
  have h := bdr_bdr (s.drop p)
  have e : bdr (s.drop p) = s.drop (blkF s p) := by unfold bdr; rw [List.drop_drop]; rfl
  rw [e] at h
  exact Nat.add_eq_left.2 h
section
variable {st : St} {R : Res → St → Prop}
attribute [local irreducible] Go.Aw.appendTo
theorem lexidx_c (c : Nat) (hc : c ≤ 1114111) : PC 17 [.int .i32 (c : Int)] noSt fun r _ => r = .ret (.bool (classF (c : Int) == 0)) := by
  refine pcalls_of_body tys_ok [] Tryz.func17 rfl (by decide) ?_
  repeat' ((conv => whnf); first
    | (with_reducible first | exact Wa | exact Wb | exact Wc | refine Wd (by kernel_rfl) ?_ | refine We ?_ ?_ ?_ | refine W8 (by decide +kernel) ?_ ?_ ?_ | refine W9 ?_ ?_ ?_ | refine Wt (by first | assumption | omega) ?_ | refine Wu (by first | assumption | omega) ?_ | refine Wv (by omega) ?_ | refine Ww (by omega) ?_ | refine Wf (by decide) (fun _ => ?_) (fun _ => ?_) | refine Wg (fun _ => ?_) (fun _ => ?_) | refine Wh (fun _ => ?_) (fun _ => ?_) | refine Wi ?_ | refine Wj ?_ | refine Wk (fun _ => ?_) (fun _ => ?_) | refine Wl (fun _ => ?_) | refine Wm (by assumption) (by omega) ?_ | refine Wn (by omega) (by omega) (fun _ _ _ => ?_) | refine Wo (by omega) (by omega) ?_ | refine Wp (by omega) (by omega) (by omega) ?_ | refine Wq (by omega) (by omega) ?_ | refine Wr (by decide) (by omega) (by omega) ?_ | refine Ws (by decide) ?_ | refine Wx (fun _ => ?_) ?_ | refine Wy (fun _ => ?_) ?_ | refine Wz (fun _ => ?_) | refine WA (fun _ => ?_) | refine WB (by assumption) (by omega) ?_ | refine WC (by omega) (by omega) (fun _ _ => ?_) | refine WD (by omega) (by omega) (fun _ _ => ?_) | refine WE (by omega) (by omega) (by omega) ?_)
    | refine class_c ?_
    | with_reducible refine WF ?_)
  all_goals first | exact fin_bool rfl (by simp [*]) | (conv => whnf; simp [*])
set_option maxHeartbeats 8000000 in
theorem lex_c {s : List UInt8} (h1 : ∀ i e, lexF s = .inl (i, e) → R (.ret (.tup [.slice 4 [] .full, .slice 5 [] .full, .int .i64 i, .int .i64 e])) st)
    (h1' : ∀ i e st', st.le st' → lexF s = .inl (i, e) → R (.ret (.tup [.slice 4 [] .full, .slice 5 [] .full, .int .i64 i, .int .i64 e])) st')
    (h2 : ∀ x w1 w2 st', lexF s = .inr x → st.le st' → R (.ret (.tup [.slice 4 (encTs x.toks) w1, .slice 5 (encNs x.notes) w2, .int .i64 0, .int .i64 0])) st') : PC 7 [.str s] st R := by
  refine pcalls_of_aw tys_ok [30] Tryz.func7 rfl (by decide) rfl ?_
  by_cases hl : 16777216 < s.length
  · have e : lexF s = .inl (0, 3) := by unfold lexF; rw [if_pos hl]
    refine aw_of tys_ok ?_
    repeat' ((conv => whnf); first
      | (with_reducible first | exact Wa | exact Wb | exact Wc | refine Wd (by kernel_rfl) ?_ | refine We ?_ ?_ ?_ | refine W8 (by decide +kernel) ?_ ?_ ?_ | refine W9 ?_ ?_ ?_ | refine Wt (by first | assumption | omega) ?_ | refine Wu (by first | assumption | omega) ?_ | refine Wv (by omega) ?_ | refine Ww (by omega) ?_ | refine Wf (by decide) (fun _ => ?_) (fun _ => ?_) | refine Wg (fun _ => ?_) (fun _ => ?_) | refine Wh (fun _ => ?_) (fun _ => ?_) | refine Wi ?_ | refine Wj ?_ | refine Wk (fun _ => ?_) (fun _ => ?_) | refine Wl (fun _ => ?_) | refine Wm (by assumption) (by omega) ?_ | refine Wn (by omega) (by omega) (fun _ _ _ => ?_) | refine Wo (by omega) (by omega) ?_ | refine Wp (by omega) (by omega) (by omega) ?_ | refine Wq (by omega) (by omega) ?_ | refine Wr (by decide) (by omega) (by omega) ?_ | refine Ws (by decide) ?_ | refine Wx (fun _ => ?_) ?_ | refine Wy (fun _ => ?_) ?_ | refine Wz (fun _ => ?_) | refine WA (fun _ => ?_) | refine WB (by assumption) (by omega) ?_ | refine WC (by omega) (by omega) (fun _ _ => ?_) | refine WD (by omega) (by omega) (fun _ _ => ?_) | refine WE (by omega) (by omega) (by omega) ?_)
      | refine WJ (fun _ => ?_)
      | with_reducible refine WF ?_)
    exact fin (h1 _ _ e) rfl
  · by_cases hk : (chkF s).2 = 0
    · by_cases hx : 0 ≤ idxF (fun c => classF (c : Nat) == 0) s
      · have e : lexF s = .inl (idxF (fun c => classF (c : Nat) == 0) s, 70) := by unfold lexF; rw [if_neg hl, if_neg (fun x => x hk), if_pos hx]
        refine aw_of tys_ok ?_
        repeat' ((conv => whnf); first
          | (with_reducible first | exact Wa | exact Wb | exact Wc | refine Wd (by kernel_rfl) ?_ | refine We ?_ ?_ ?_ | refine W8 (by decide +kernel) ?_ ?_ ?_ | refine W9 ?_ ?_ ?_ | refine Wt (by first | assumption | omega) ?_ | refine Wu (by first | assumption | omega) ?_ | refine Wv (by omega) ?_ | refine Ww (by omega) ?_ | refine Wf (by decide) (fun _ => ?_) (fun _ => ?_) | refine Wg (fun _ => ?_) (fun _ => ?_) | refine Wh (fun _ => ?_) (fun _ => ?_) | refine Wi ?_ | refine Wj ?_ | refine Wk (fun _ => ?_) (fun _ => ?_) | refine Wl (fun _ => ?_) | refine Wm (by assumption) (by omega) ?_ | refine Wn (by omega) (by omega) (fun _ _ _ => ?_) | refine Wo (by omega) (by omega) ?_ | refine Wp (by omega) (by omega) (by omega) ?_ | refine Wq (by omega) (by omega) ?_ | refine Wr (by decide) (by omega) (by omega) ?_ | refine Ws (by decide) ?_ | refine Wx (fun _ => ?_) ?_ | refine Wy (fun _ => ?_) ?_ | refine Wz (fun _ => ?_) | refine WA (fun _ => ?_) | refine WB (by assumption) (by omega) ?_ | refine WC (by omega) (by omega) (fun _ _ => ?_) | refine WD (by omega) (by omega) (fun _ _ => ?_) | refine WE (by omega) (by omega) (by omega) ?_)
          | refine WJ (fun _ => ?_)
          | refine check_c ?_
          | refine index_c (p := fun c => classF (c : Nat) == 0) lexidx_c ?_
          | with_reducible refine WF ?_)
        exact fin (h1 _ _ e) rfl
      · have e : lexF s = lexL s (blkF s 0) lx0 := by unfold lexF; rw [if_neg hl, if_neg (fun x => x hk), if_neg hx]
        have hv := chk_vd hk
        refine AW_seq2 (aw_of tys_ok ?_)
        repeat' ((conv => whnf); first
          | (with_reducible first | exact Wa | exact Wb | exact Wc | refine Wd (by kernel_rfl) ?_ | refine We ?_ ?_ ?_ | refine W8 (by decide +kernel) ?_ ?_ ?_ | refine W9 ?_ ?_ ?_ | refine Wt (by first | assumption | omega) ?_ | refine Wu (by first | assumption | omega) ?_ | refine Wv (by omega) ?_ | refine Ww (by omega) ?_ | refine Wf (by decide) (fun _ => ?_) (fun _ => ?_) | refine Wg (fun _ => ?_) (fun _ => ?_) | refine Wh (fun _ => ?_) (fun _ => ?_) | refine Wi ?_ | refine Wj ?_ | refine Wk (fun _ => ?_) (fun _ => ?_) | refine Wl (fun _ => ?_) | refine Wm (by assumption) (by omega) ?_ | refine Wn (by omega) (by omega) (fun _ _ _ => ?_) | refine Wo (by omega) (by omega) ?_ | refine Wp (by omega) (by omega) (by omega) ?_ | refine Wq (by omega) (by omega) ?_ | refine Wr (by decide) (by omega) (by omega) ?_ | refine Ws (by decide) ?_ | refine Wx (fun _ => ?_) ?_ | refine Wy (fun _ => ?_) ?_ | refine Wz (fun _ => ?_) | refine WA (fun _ => ?_) | refine WB (by assumption) (by omega) ?_ | refine WC (by omega) (by omega) (fun _ _ => ?_) | refine WD (by omega) (by omega) (fun _ _ => ?_) | refine WE (by omega) (by omega) (by omega) ?_)
          | with_reducible refine WF ?_)
        refine AW_seq2 (aw_of tys_ok ?_)
        repeat' ((conv => whnf); first
          | (with_reducible first | exact Wa | exact Wb | exact Wc | refine Wd (by kernel_rfl) ?_ | refine We ?_ ?_ ?_ | refine W8 (by decide +kernel) ?_ ?_ ?_ | refine W9 ?_ ?_ ?_ | refine Wt (by first | assumption | omega) ?_ | refine Wu (by first | assumption | omega) ?_ | refine Wv (by omega) ?_ | refine Ww (by omega) ?_ | refine Wf (by decide) (fun _ => ?_) (fun _ => ?_) | refine Wg (fun _ => ?_) (fun _ => ?_) | refine Wh (fun _ => ?_) (fun _ => ?_) | refine Wi ?_ | refine Wj ?_ | refine Wk (fun _ => ?_) (fun _ => ?_) | refine Wl (fun _ => ?_) | refine Wm (by assumption) (by omega) ?_ | refine Wn (by omega) (by omega) (fun _ _ _ => ?_) | refine Wo (by omega) (by omega) ?_ | refine Wp (by omega) (by omega) (by omega) ?_ | refine Wq (by omega) (by omega) ?_ | refine Wr (by decide) (by omega) (by omega) ?_ | refine Ws (by decide) ?_ | refine Wx (fun _ => ?_) ?_ | refine Wy (fun _ => ?_) ?_ | refine Wz (fun _ => ?_) | refine WA (fun _ => ?_) | refine WB (by assumption) (by omega) ?_ | refine WC (by omega) (by omega) (fun _ _ => ?_) | refine WD (by omega) (by omega) (fun _ _ => ?_) | refine WE (by omega) (by omega) (by omega) ?_)
          | refine WJ (fun _ => ?_)
          | with_reducible refine WF ?_)
        refine AW_seq2 (aw_of tys_ok ?_)
        repeat' ((conv => whnf); first
          | (with_reducible first | exact Wa | exact Wb | exact Wc | refine Wd (by kernel_rfl) ?_ | refine We ?_ ?_ ?_ | refine W8 (by decide +kernel) ?_ ?_ ?_ | refine W9 ?_ ?_ ?_ | refine Wt (by first | assumption | omega) ?_ | refine Wu (by first | assumption | omega) ?_ | refine Wv (by omega) ?_ | refine Ww (by omega) ?_ | refine Wf (by decide) (fun _ => ?_) (fun _ => ?_) | refine Wg (fun _ => ?_) (fun _ => ?_) | refine Wh (fun _ => ?_) (fun _ => ?_) | refine Wi ?_ | refine Wj ?_ | refine Wk (fun _ => ?_) (fun _ => ?_) | refine Wl (fun _ => ?_) | refine Wm (by assumption) (by omega) ?_ | refine Wn (by omega) (by omega) (fun _ _ _ => ?_) | refine Wo (by omega) (by omega) ?_ | refine Wp (by omega) (by omega) (by omega) ?_ | refine Wq (by omega) (by omega) ?_ | refine Wr (by decide) (by omega) (by omega) ?_ | refine Ws (by decide) ?_ | refine Wx (fun _ => ?_) ?_ | refine Wy (fun _ => ?_) ?_ | refine Wz (fun _ => ?_) | refine WA (fun _ => ?_) | refine WB (by assumption) (by omega) ?_ | refine WC (by omega) (by omega) (fun _ _ => ?_) | refine WD (by omega) (by omega) (fun _ _ => ?_) | refine WE (by omega) (by omega) (by omega) ?_)
          | refine check_c ?_
          | with_reducible refine WF ?_)
        refine AW_seq2 (aw_of tys_ok ?_)
        repeat' ((conv => whnf); first
          | (with_reducible first | exact Wa | exact Wb | exact Wc | refine Wd (by kernel_rfl) ?_ | refine We ?_ ?_ ?_ | refine W8 (by decide +kernel) ?_ ?_ ?_ | refine W9 ?_ ?_ ?_ | refine Wt (by first | assumption | omega) ?_ | refine Wu (by first | assumption | omega) ?_ | refine Wv (by omega) ?_ | refine Ww (by omega) ?_ | refine Wf (by decide) (fun _ => ?_) (fun _ => ?_) | refine Wg (fun _ => ?_) (fun _ => ?_) | refine Wh (fun _ => ?_) (fun _ => ?_) | refine Wi ?_ | refine Wj ?_ | refine Wk (fun _ => ?_) (fun _ => ?_) | refine Wl (fun _ => ?_) | refine Wm (by assumption) (by omega) ?_ | refine Wn (by omega) (by omega) (fun _ _ _ => ?_) | refine Wo (by omega) (by omega) ?_ | refine Wp (by omega) (by omega) (by omega) ?_ | refine Wq (by omega) (by omega) ?_ | refine Wr (by decide) (by omega) (by omega) ?_ | refine Ws (by decide) ?_ | refine Wx (fun _ => ?_) ?_ | refine Wy (fun _ => ?_) ?_ | refine Wz (fun _ => ?_) | refine WA (fun _ => ?_) | refine WB (by assumption) (by omega) ?_ | refine WC (by omega) (by omega) (fun _ _ => ?_) | refine WD (by omega) (by omega) (fun _ _ => ?_) | refine WE (by omega) (by omega) (by omega) ?_)
          | refine index_c (p := fun c => classF (c : Nat) == 0) lexidx_c ?_
          | with_reducible refine WF ?_)
        refine AW_seq2 (aw_of tys_ok ?_)
        repeat' ((conv => whnf); first
          | (with_reducible first | exact Wa | exact Wb | exact Wc | refine Wd (by kernel_rfl) ?_ | refine We ?_ ?_ ?_ | refine W8 (by decide +kernel) ?_ ?_ ?_ | refine W9 ?_ ?_ ?_ | refine Wt (by first | assumption | omega) ?_ | refine Wu (by first | assumption | omega) ?_ | refine Wv (by omega) ?_ | refine Ww (by omega) ?_ | refine Wf (by decide) (fun _ => ?_) (fun _ => ?_) | refine Wg (fun _ => ?_) (fun _ => ?_) | refine Wh (fun _ => ?_) (fun _ => ?_) | refine Wi ?_ | refine Wj ?_ | refine Wk (fun _ => ?_) (fun _ => ?_) | refine Wl (fun _ => ?_) | refine Wm (by assumption) (by omega) ?_ | refine Wn (by omega) (by omega) (fun _ _ _ => ?_) | refine Wo (by omega) (by omega) ?_ | refine Wp (by omega) (by omega) (by omega) ?_ | refine Wq (by omega) (by omega) ?_ | refine Wr (by decide) (by omega) (by omega) ?_ | refine Ws (by decide) ?_ | refine Wx (fun _ => ?_) ?_ | refine Wy (fun _ => ?_) ?_ | refine Wz (fun _ => ?_) | refine WA (fun _ => ?_) | refine WB (by assumption) (by omega) ?_ | refine WC (by omega) (by omega) (fun _ _ => ?_) | refine WD (by omega) (by omega) (fun _ _ => ?_) | refine WE (by omega) (by omega) (by omega) ?_)
          | refine box_new (fun b fb => ?_)
          | with_reducible refine WF ?_)
        have hb0 := fb.1
        have hq0 := blkF_le (s := s) (p := 0) (by omega)
        refine aw_of tys_ok ?_
        repeat' ((conv => whnf); first
          | (with_reducible first | exact Wa | exact Wb | exact Wc | refine Wd (by kernel_rfl) ?_ | refine We ?_ ?_ ?_ | refine W8 (by decide +kernel) ?_ ?_ ?_ | refine W9 ?_ ?_ ?_ | refine Wt (by first | assumption | omega) ?_ | refine Wu (by first | assumption | omega) ?_ | refine Wv (by omega) ?_ | refine Ww (by omega) ?_ | refine Wf (by decide) (fun _ => ?_) (fun _ => ?_) | refine Wg (fun _ => ?_) (fun _ => ?_) | refine Wh (fun _ => ?_) (fun _ => ?_) | refine Wi ?_ | refine Wj ?_ | refine Wk (fun _ => ?_) (fun _ => ?_) | refine Wl (fun _ => ?_) | refine Wm (by assumption) (by omega) ?_ | refine Wn (by omega) (by omega) (fun _ _ _ => ?_) | refine Wo (by omega) (by omega) ?_ | refine Wp (by omega) (by omega) (by omega) ?_ | refine Wq (by omega) (by omega) ?_ | refine Wr (by decide) (by omega) (by omega) ?_ | refine Ws (by decide) ?_ | refine Wx (fun _ => ?_) ?_ | refine Wy (fun _ => ?_) ?_ | refine Wz (fun _ => ?_) | refine WA (fun _ => ?_) | refine WB (by assumption) (by omega) ?_ | refine WC (by omega) (by omega) (fun _ _ => ?_) | refine WD (by omega) (by omega) (fun _ _ => ?_) | refine WE (by omega) (by omega) (by omega) ?_)
          | refine blanks_c (p := 0) (by omega) (by omega) (St.box_at _ _ _) ?_
          | with_reducible refine WF ?_)
        refine loop_g (α := LW) (fun _ => []) [0, 6] [] (fun y => y.m) (fun y => y.m.box b = some (lxC s y.p y.sp (atP s y.sp).1 (atP s y.sp).2 (encTs y.x.toks) (encNs y.x.notes) y.w1 y.w2 y.x.gap y.x.ends y.x.j) ∧ Rows2 st y.m y.w1 (y.x.toks.length * 4) y.w2 (y.x.notes.length * 5) ∧
            Cut s y.sp ∧ Cut s y.p ∧ y.sp ≤ y.p ∧ 0 ≤ y.x.gap ∧ y.x.gap ≤ y.p ∧ y.x.toks.length ≤ y.p ∧ y.x.notes.length ≤ y.p ∧ lexL s (blkF s 0) lx0 = lexL s y.p y.x)
          (fun y => s.length - y.p) ⟨blkF s 0, 0, lx0, .full, .full, _⟩ ⟨?_, ⟨trivial, trivial, trivial, trivial, trivial, St.le_setBox (St.le_setBox (St.le_refl _) hb0 _) hb0 _⟩, .zero s, Cut.blk hv (.zero s), by simp only []; omega, Int.le_refl _, by simp only [lx0]; omega, Nat.zero_le _, Nat.zero_le _, rfl⟩ (by refine ⟨rfl, ?_, ?_, rfl⟩ <;> repeat' (first | exact trivial | exact rfl | refine And.intro ?_ ?_)) (St.le_refl _) ?_
        · have e0 : atP s 0 = (1, 1) := walkP_zero
          dsimp only
          rw [e0]
          exact St.box_at _ _ _
        rintro ⟨p, sp, x, w1, w2, m⟩ ⟨j1, j2, j3, j4, j5, j6, j7, j8, j9, j10⟩
        dsimp only at j1 j2 j3 j4 j5 j6 j7 j8 j9 j10 ⊢
        have hp := j4.le
        by_cases hpl : p < s.length
        · have hns := fun {R : Res → St → Prop} => noteX_c (st := m) (R := R) (s := s) (pos := p) (by omega) hpl
          by_cases n2 : (noteF s p).2 = 0
          · rw [n2] at hns
            by_cases n1 : 0 < (noteF s p).1
            · obtain ⟨q, e1, e2, e3, e4⟩ := note_cut hv j4 n2 n1
              rw [e1] at hns
              rw [lexL_note hpl n2 e1 e2] at j10
              have hq := blkF_le e3
              have hnt := fun {R : Res → St → Prop} => note_c (st := m) (R := R) (st0 := st) (by omega) hv j3 j4 e4 j5 (by omega) ⟨j6, by omega⟩ (by rw [notes_length]; omega) hb0 (by rw [notes_length]; exact j2) j1
              repeat' ((conv => whnf); first
                | (with_reducible first | exact Wa | exact Wb | exact Wc | refine Wd (by kernel_rfl) ?_ | refine We ?_ ?_ ?_ | refine W8 (by decide +kernel) ?_ ?_ ?_ | refine W9 ?_ ?_ ?_ | refine Wt (by first | assumption | omega) ?_ | refine Wu (by first | assumption | omega) ?_ | refine Wv (by omega) ?_ | refine Ww (by omega) ?_ | refine Wf (by decide) (fun _ => ?_) (fun _ => ?_) | refine Wg (fun _ => ?_) (fun _ => ?_) | refine Wh (fun _ => ?_) (fun _ => ?_) | refine Wi ?_ | refine Wj ?_ | refine Wk (fun _ => ?_) (fun _ => ?_) | refine Wl (fun _ => ?_) | refine Wm (by assumption) (by omega) ?_ | refine Wn (by omega) (by omega) (fun _ _ _ => ?_) | refine Wo (by omega) (by omega) ?_ | refine Wp (by omega) (by omega) (by omega) ?_ | refine Wq (by omega) (by omega) ?_ | refine Wr (by decide) (by omega) (by omega) ?_ | refine Ws (by decide) ?_ | refine Wx (fun _ => ?_) ?_ | refine Wy (fun _ => ?_) ?_ | refine Wz (fun _ => ?_) | refine WA (fun _ => ?_) | refine WB (by assumption) (by omega) ?_ | refine WC (by omega) (by omega) (fun _ _ => ?_) | refine WD (by omega) (by omega) (fun _ _ => ?_) | refine WE (by omega) (by omega) (by omega) ?_)
                | refine hns ?_
                | refine on_box j1 ?_
                | refine WJ (fun _ => ?_)
                | refine hnt (fun v2 st' sp' c' hs' hR hB => ?_)
                | refine blanks_c (p := blkF s q) (by omega) (by omega) hB ?_
                | with_reducible refine WF ?_)
              all_goals conv => whnf
              have eb := blk_blk s q
              refine ⟨⟨blkF s q, sp', noteX s p q x, w1, v2, _⟩, ⟨?_, ?_, c', e4.blk hv, hs', j6, by show x.gap ≤ _; simp only []; omega, by show x.toks.length ≤ _; simp only []; omega, by show (x.notes ++ [_]).length ≤ _; rw [List.length_append, List.length_singleton]; simp only []; omega, j10⟩, by simp only []; omega, (by refine ⟨rfl, ?_, ?_, rfl⟩ <;> repeat' (first | exact trivial | exact rfl | refine And.intro ?_ ?_)), St.le_refl _⟩
              · refine (St.box_at _ _ _).trans ?_
                show _ = some (lxC s (blkF s q) sp' _ _ (encTs x.toks) (encNs (x.notes ++ [_])) w1 v2 x.gap (atP s q).1 _)
                rw [notes_snoc]
                exact congrArg (fun z => some (lxC s z sp' _ _ _ _ _ _ _ _ _)) eb
              · show Rows2 st _ w1 (x.toks.length * 4) v2 ((x.notes ++ [_]).length * 5)
                rw [List.length_append, List.length_singleton]
                rw [notes_length] at hR
                exact hR.set hb0 _
            · have hlx := fun {R : Res → St → Prop} => lexeme_c (st := m) (R := R) (by omega) hpl j1
              by_cases k2 : (lexmF s p).2.2 = 0
              · obtain ⟨k1, q, e1, e2, e3, e4⟩ := lexm_cut hv j4 k2
                rw [k2, e1] at hlx
                rw [lexL_tok hpl n2 n1 k2 e1 e2] at j10
                have hq := blkF_le e3
                have htk := fun {R : Res → St → Prop} => token_at (st := m) (R := R) (st0 := st) (k := (lexmF s p).1) (e0 := 0) (by omega) hv j3 j4 e4 j5 (by omega) ⟨j6, by omega⟩ (by rw [toks_length]; omega) hb0 (by rw [toks_length]; exact j2) j1
                repeat' ((conv => whnf); first
                  | (with_reducible first | exact Wa | exact Wb | exact Wc | refine Wd (by kernel_rfl) ?_ | refine We ?_ ?_ ?_ | refine W8 (by decide +kernel) ?_ ?_ ?_ | refine W9 ?_ ?_ ?_ | refine Wt (by first | assumption | omega) ?_ | refine Wu (by first | assumption | omega) ?_ | refine Wv (by omega) ?_ | refine Ww (by omega) ?_ | refine Wf (by decide) (fun _ => ?_) (fun _ => ?_) | refine Wg (fun _ => ?_) (fun _ => ?_) | refine Wh (fun _ => ?_) (fun _ => ?_) | refine Wi ?_ | refine Wj ?_ | refine Wk (fun _ => ?_) (fun _ => ?_) | refine Wl (fun _ => ?_) | refine Wm (by assumption) (by omega) ?_ | refine Wn (by omega) (by omega) (fun _ _ _ => ?_) | refine Wo (by omega) (by omega) ?_ | refine Wp (by omega) (by omega) (by omega) ?_ | refine Wq (by omega) (by omega) ?_ | refine Wr (by decide) (by omega) (by omega) ?_ | refine Ws (by decide) ?_ | refine Wx (fun _ => ?_) ?_ | refine Wy (fun _ => ?_) ?_ | refine Wz (fun _ => ?_) | refine WA (fun _ => ?_) | refine WB (by assumption) (by omega) ?_ | refine WC (by omega) (by omega) (fun _ _ => ?_) | refine WD (by omega) (by omega) (fun _ _ => ?_) | refine WE (by omega) (by omega) (by omega) ?_)
                  | refine hns ?_
                  | refine on_box j1 ?_
                  | refine WJ (fun _ => ?_)
                  | refine hlx ?_
                  | refine htk (fun v1 st' hR hB => ?_)
                  | refine blanks_c (p := q) (by omega) e3 hB ?_
                  | with_reducible refine WF ?_)
                all_goals conv => whnf
                have hgap : (tokX s p q (lexmF s p).1 x).gap = x.gap ∨ (tokX s p q (lexmF s p).1 x).gap = x.gap + 1 := by
                  show (if cntF (lexmF s p).1 (pieceF s p q) then x.gap + 1 else x.gap) = _ ∨ (if cntF (lexmF s p).1 (pieceF s p q) then x.gap + 1 else x.gap) = _
                  split
                  · exact .inr rfl
                  · exact .inl rfl
                refine ⟨⟨blkF s q, q, tokX s p q (lexmF s p).1 x, v1, w2, _⟩, ⟨?_, ?_, e4, e4.blk hv, hq.1, by simp only []; omega, by simp only []; omega, by show (x.toks ++ [_]).length ≤ _; rw [List.length_append, List.length_singleton]; simp only []; omega, by show x.notes.length ≤ _; simp only []; omega, j10⟩, by simp only []; omega, (by refine ⟨rfl, ?_, ?_, rfl⟩ <;> repeat' (first | exact trivial | exact rfl | refine And.intro ?_ ?_)), St.le_refl _⟩
                · refine (St.box_at _ _ _).trans ?_
                  show _ = some (lxC s (blkF s q) q _ _ (encTs (x.toks ++ [_])) (encNs x.notes) v1 w2 _ (atP s q).1 true)
                  rw [toks_snoc]
                  rfl
                · show Rows2 st _ v1 ((x.toks ++ [_]).length * 4) w2 (x.notes.length * 5)
                  rw [List.length_append, List.length_singleton]
                  rw [toks_length] at hR
                  exact hR.set hb0 _
              · rw [lexL_err hpl n2 n1 k2] at j10
                repeat' ((conv => whnf); first
                  | (with_reducible first | exact Wa | exact Wb | exact Wc | refine Wd (by kernel_rfl) ?_ | refine We ?_ ?_ ?_ | refine W8 (by decide +kernel) ?_ ?_ ?_ | refine W9 ?_ ?_ ?_ | refine Wt (by first | assumption | omega) ?_ | refine Wu (by first | assumption | omega) ?_ | refine Wv (by omega) ?_ | refine Ww (by omega) ?_ | refine Wf (by decide) (fun _ => ?_) (fun _ => ?_) | refine Wg (fun _ => ?_) (fun _ => ?_) | refine Wh (fun _ => ?_) (fun _ => ?_) | refine Wi ?_ | refine Wj ?_ | refine Wk (fun _ => ?_) (fun _ => ?_) | refine Wl (fun _ => ?_) | refine Wm (by assumption) (by omega) ?_ | refine Wn (by omega) (by omega) (fun _ _ _ => ?_) | refine Wo (by omega) (by omega) ?_ | refine Wp (by omega) (by omega) (by omega) ?_ | refine Wq (by omega) (by omega) ?_ | refine Wr (by decide) (by omega) (by omega) ?_ | refine Ws (by decide) ?_ | refine Wx (fun _ => ?_) ?_ | refine Wy (fun _ => ?_) ?_ | refine Wz (fun _ => ?_) | refine WA (fun _ => ?_) | refine WB (by assumption) (by omega) ?_ | refine WC (by omega) (by omega) (fun _ _ => ?_) | refine WD (by omega) (by omega) (fun _ _ => ?_) | refine WE (by omega) (by omega) (by omega) ?_)
                  | refine hns ?_
                  | refine on_box j1 ?_
                  | refine WJ (fun _ => ?_)
                  | refine hlx ?_
                  | with_reducible refine WF ?_)
                exact fin (h1' _ _ _ j2.le (e.trans j10)) rfl
          · rw [lexL_bad hpl n2] at j10
            repeat' ((conv => whnf); first
              | (with_reducible first | exact Wa | exact Wb | exact Wc | refine Wd (by kernel_rfl) ?_ | refine We ?_ ?_ ?_ | refine W8 (by decide +kernel) ?_ ?_ ?_ | refine W9 ?_ ?_ ?_ | refine Wt (by first | assumption | omega) ?_ | refine Wu (by first | assumption | omega) ?_ | refine Wv (by omega) ?_ | refine Ww (by omega) ?_ | refine Wf (by decide) (fun _ => ?_) (fun _ => ?_) | refine Wg (fun _ => ?_) (fun _ => ?_) | refine Wh (fun _ => ?_) (fun _ => ?_) | refine Wi ?_ | refine Wj ?_ | refine Wk (fun _ => ?_) (fun _ => ?_) | refine Wl (fun _ => ?_) | refine Wm (by assumption) (by omega) ?_ | refine Wn (by omega) (by omega) (fun _ _ _ => ?_) | refine Wo (by omega) (by omega) ?_ | refine Wp (by omega) (by omega) (by omega) ?_ | refine Wq (by omega) (by omega) ?_ | refine Wr (by decide) (by omega) (by omega) ?_ | refine Ws (by decide) ?_ | refine Wx (fun _ => ?_) ?_ | refine Wy (fun _ => ?_) ?_ | refine Wz (fun _ => ?_) | refine WA (fun _ => ?_) | refine WB (by assumption) (by omega) ?_ | refine WC (by omega) (by omega) (fun _ _ => ?_) | refine WD (by omega) (by omega) (fun _ _ => ?_) | refine WE (by omega) (by omega) (by omega) ?_)
              | refine hns ?_
              | refine on_box j1 ?_
              | refine WJ (fun _ => ?_)
              | with_reducible refine WF ?_)
            exact fin (h1' _ _ _ j2.le (e.trans j10)) rfl
        · rw [lexL_end hpl] at j10
          repeat' ((conv => whnf); first
            | (with_reducible first | exact Wa | exact Wb | exact Wc | refine Wd (by kernel_rfl) ?_ | refine We ?_ ?_ ?_ | refine W8 (by decide +kernel) ?_ ?_ ?_ | refine W9 ?_ ?_ ?_ | refine Wt (by first | assumption | omega) ?_ | refine Wu (by first | assumption | omega) ?_ | refine Wv (by omega) ?_ | refine Ww (by omega) ?_ | refine Wf (by decide) (fun _ => ?_) (fun _ => ?_) | refine Wg (fun _ => ?_) (fun _ => ?_) | refine Wh (fun _ => ?_) (fun _ => ?_) | refine Wi ?_ | refine Wj ?_ | refine Wk (fun _ => ?_) (fun _ => ?_) | refine Wl (fun _ => ?_) | refine Wm (by assumption) (by omega) ?_ | refine Wn (by omega) (by omega) (fun _ _ _ => ?_) | refine Wo (by omega) (by omega) ?_ | refine Wp (by omega) (by omega) (by omega) ?_ | refine Wq (by omega) (by omega) ?_ | refine Wr (by decide) (by omega) (by omega) ?_ | refine Ws (by decide) ?_ | refine Wx (fun _ => ?_) ?_ | refine Wy (fun _ => ?_) ?_ | refine Wz (fun _ => ?_) | refine WA (fun _ => ?_) | refine WB (by assumption) (by omega) ?_ | refine WC (by omega) (by omega) (fun _ _ => ?_) | refine WD (by omega) (by omega) (fun _ _ => ?_) | refine WE (by omega) (by omega) (by omega) ?_)
            | refine on_box j1 ?_
            | refine WJ (fun _ => ?_)
            | with_reducible refine WF ?_)
          exact fin (h2 x w1 w2 m (e.trans j10) j2.le) rfl
    · have e : lexF s = .inl ((chkF s).1, (chkF s).2) := by unfold lexF; rw [if_neg hl, if_pos hk]
      refine aw_of tys_ok ?_
      repeat' ((conv => whnf); first
        | (with_reducible first | exact Wa | exact Wb | exact Wc | refine Wd (by kernel_rfl) ?_ | refine We ?_ ?_ ?_ | refine W8 (by decide +kernel) ?_ ?_ ?_ | refine W9 ?_ ?_ ?_ | refine Wt (by first | assumption | omega) ?_ | refine Wu (by first | assumption | omega) ?_ | refine Wv (by omega) ?_ | refine Ww (by omega) ?_ | refine Wf (by decide) (fun _ => ?_) (fun _ => ?_) | refine Wg (fun _ => ?_) (fun _ => ?_) | refine Wh (fun _ => ?_) (fun _ => ?_) | refine Wi ?_ | refine Wj ?_ | refine Wk (fun _ => ?_) (fun _ => ?_) | refine Wl (fun _ => ?_) | refine Wm (by assumption) (by omega) ?_ | refine Wn (by omega) (by omega) (fun _ _ _ => ?_) | refine Wo (by omega) (by omega) ?_ | refine Wp (by omega) (by omega) (by omega) ?_ | refine Wq (by omega) (by omega) ?_ | refine Wr (by decide) (by omega) (by omega) ?_ | refine Ws (by decide) ?_ | refine Wx (fun _ => ?_) ?_ | refine Wy (fun _ => ?_) ?_ | refine Wz (fun _ => ?_) | refine WA (fun _ => ?_) | refine WB (by assumption) (by omega) ?_ | refine WC (by omega) (by omega) (fun _ _ => ?_) | refine WD (by omega) (by omega) (fun _ _ => ?_) | refine WE (by omega) (by omega) (by omega) ?_)
        | refine WJ (fun _ => ?_)
        | refine check_c ?_
        | with_reducible refine WF ?_)
      exact fin (h1 _ _ e) rfl
end
end Go.Proofs.YtkcapphlemoccaaGreatDoor
set_option linter.unusedVariables false
set_option linter.unusedVariables false
namespace Go.Aw
open Go
theorem store_row {cs : List V} {off : Nat} {v : V} {K : List V → Prop} (h1 : noIt cs = true) (h2 : off < cs.length) (h3 : v.sc = true) (k : K (cs.take off ++ v :: cs.drop (off + 1))) : storeTo cs off [v] K := by
  unfold storeTo
  refine chk_intro h1 (chk_intro (by rw [Nat.ble_eq]; exact h2) (chk_intro (by simp [h3]) (forceL_iff.2 ?_)))
  simpa using k
theorem at_mrow {m j sz : Nat} {n : Int} {K : Nat → Prop} (h : n = (j : Nat)) (hj : j < m) (k : K (j * sz)) : (0 ≤ n ∧ n < (m : Int)) ∧ ∀ k, k = n.toNat * sz → K k :=
  ⟨⟨by omega, by omega⟩, fun k' e => by
    rw [h, Int.toNat_natCast] at e
    subst e; exact k⟩
end Go.Aw
set_option linter.unusedVariables false
namespace Go.Aw
open Go
theorem AW_joinx {P : Program} {x y : Code} {Q : AExit → Env → St → Prop} {env : Env} {st : St} {α : Type} (f : α → List (Nat × V)) (g : α → List (Nat × List V)) (keep kb : List Nat) (S : α → St) (J : α → Prop)
    (hx : AW P x (thenQ (fun env' st' => ∃ p, J p ∧ (env.atx (f p) (g p) keep kb).leC env' ∧ St.le (S p) st') Q) env st)
    (hy : ∀ p, J p → AW P y Q (env.atx (f p) (g p) keep kb) (S p)) : AW P (.seq x y) Q env st :=
  AW_join (fun p => env.atx (f p) (g p) keep kb) S J hy hx
end Go.Aw
set_option linter.unusedVariables false
namespace Go.Proofs.YtkcapphlemoccaaGreatDoor
open Go Go.Aw
def NotesAt (st m : St) (nv : V) (l : List Nt) : Prop :=
  (nv = .slice 5 [] .full ∧ l = []) ∨ ∃ b cap rest, nv = .mrow 5 b l.length cap ∧ m.box b = some ((encNs l).flatten ++ rest) ∧ ((encNs l).flatten ++ rest).length = cap * 5 ∧ st.box b = none ∧ l ≠ []
structure RW where
  i : Nat
  x : Lx
  wait : Bool
  w1 : Own
  nv : V
  m : St
def RW.good (s : List UInt8) (st : St) (y : RW) : Prop :=
  NotesAt st y.m y.nv y.x.notes ∧ Rows2 st y.m y.w1 (y.x.toks.length * 4) .full 0 ∧ Cut s y.i ∧ 0 ≤ y.x.gap ∧ y.x.gap ≤ y.i ∧ y.x.toks.length ≤ y.i ∧ y.x.notes.length ≤ y.i ∧ (y.wait = true → y.x.notes ≠ [])
end Go.Proofs.YtkcapphlemoccaaGreatDoor
set_option linter.unusedVariables false
namespace Go.Aw
theorem bc_t2 {b : Bool} {p q : Prop} (h : b = true) (k : p) : bcase b p q := Wk (fun _ => k) (fun e => by rw [h] at e; cases e)
theorem bc_f2 {b : Bool} {p q : Prop} (h : b = false) (k : q) : bcase b p q := Wk (fun e => by rw [h] at e; cases e) (fun _ => k)
end Go.Aw
namespace Go.Proofs.YtkcapphlemoccaaGreatDoor
open Go Go.Aw
def sameL : List Tk → List Tk → Bool
  | [], [] => true
  | x :: a, y :: b => x.kind == y.kind && (x.text == y.text && sameL a b)
  | _, _ => false
theorem sameL_iff : ∀ {a b : List Tk}, sameL a b = true ↔ kts a = kts b
  | [], [] => by simp [sameL, kts]
  | [], y :: b => by simp [sameL, kts]
  | x :: a, [] => by simp [sameL, kts]
  | x :: a, y :: b => by
    have := sameL_iff (a := a) (b := b)
    simp only [kts] at this
    simp [sameL, kts, this, and_assoc]
theorem sameL_len {a b : List Tk} (h : a.length ≠ b.length) : sameL a b = false := by
  cases e : sameL a b with
  | false => rfl
  | true =>
    have := congrArg List.length (sameL_iff.1 e)
    simp only [kts, List.length_map] at this
    exact absurd this h
theorem sameL_at {a b : List Tk} {k : Nat} {x y : Tk} (hx : a[k]? = some x) (hy : b[k]? = some y) : sameL (a.drop k) (b.drop k) = (x.kind == y.kind && (x.text == y.text && sameL (a.drop (k + 1)) (b.drop (k + 1)))) := by
  rw [drop_at hx, drop_at hy]; rfl
section
variable {st : St} {R : Res → St → Prop}
theorem same_c {a b : List Tk} {w1 w2 : Own} (h : R (.ret (.bool (sameL a b))) st) : PC 13 [.slice 4 (encTs a) w1, .slice 4 (encTs b) w2] st R := by
  refine pcalls_of_body tys_ok [] Tryz.func13 rfl (by decide) ?_
  by_cases hl : a.length = b.length
  · skip
    repeat' ((conv => whnf); first
      | (with_reducible first | exact Wa | exact Wb | exact Wc | refine Wd (by kernel_rfl) ?_ | refine We ?_ ?_ ?_ | refine W8 (by decide +kernel) ?_ ?_ ?_ | refine W9 ?_ ?_ ?_ | refine Wt (by first | assumption | omega) ?_ | refine Wu (by first | assumption | omega) ?_ | refine Wv (by omega) ?_ | refine Ww (by omega) ?_ | refine Wf (by decide) (fun _ => ?_) (fun _ => ?_) | refine Wg (fun _ => ?_) (fun _ => ?_) | refine Wh (fun _ => ?_) (fun _ => ?_) | refine Wi ?_ | refine Wj ?_ | refine Wk (fun _ => ?_) (fun _ => ?_) | refine Wl (fun _ => ?_) | refine Wm (by assumption) (by omega) ?_ | refine Wn (by omega) (by omega) (fun _ _ _ => ?_) | refine Wo (by omega) (by omega) ?_ | refine Wp (by omega) (by omega) (by omega) ?_ | refine Wq (by omega) (by omega) ?_ | refine Wr (by decide) (by omega) (by omega) ?_ | refine Ws (by decide) ?_ | refine Wx (fun _ => ?_) ?_ | refine Wy (fun _ => ?_) ?_ | refine Wz (fun _ => ?_) | refine WA (fun _ => ?_) | refine WB (by assumption) (by omega) ?_ | refine WC (by omega) (by omega) (fun _ _ => ?_) | refine WD (by omega) (by omega) (fun _ _ => ?_) | refine WE (by omega) (by omega) (by omega) ?_)
      | refine Wz (fun _ => ?_)
      | with_reducible refine WF ?_)
    refine loop_nb 14 [0, 1, 12, 13] [] a.length (fun k => k ≤ a.length ∧ sameL a b = sameL (a.drop k) (b.drop k)) ⟨Nat.zero_le _, rfl⟩ (by refine ⟨rfl, ?_, ?_, rfl⟩ <;> repeat' (first | exact trivial | exact rfl | refine And.intro ?_ ?_)) ?_
    rintro k ⟨hk, hi⟩
    by_cases hlt : k < a.length
    · obtain ⟨x, hx⟩ : ∃ x, a[(k : Int).toNat]? = some x := ⟨_, List.getElem?_eq_getElem hlt⟩
      obtain ⟨y, hy⟩ : ∃ y, b[(k : Int).toNat]? = some y := ⟨_, List.getElem?_eq_getElem (show (k : Int).toNat < b.length by omega)⟩
      rw [sameL_at (k := k) hx hy] at hi
      by_cases hk1 : x.kind = y.kind
      · have hn1 : (!(x.kind == y.kind)) = false := by simp [hk1]
        by_cases ht1 : x.text = y.text
        · have hn2 : (!(x.text == y.text)) = false := by simp [ht1]
          repeat' ((conv => whnf); first
            | refine bc_f2 hn1 ?_
            | refine bc_f2 hn2 ?_
            | (with_reducible first | exact Wa | exact Wb | exact Wc | refine Wd (by kernel_rfl) ?_ | refine We ?_ ?_ ?_ | refine W8 (by decide +kernel) ?_ ?_ ?_ | refine W9 ?_ ?_ ?_ | refine Wt (by first | assumption | omega) ?_ | refine Wu (by first | assumption | omega) ?_ | refine Wv (by omega) ?_ | refine Ww (by omega) ?_ | refine Wf (by decide) (fun _ => ?_) (fun _ => ?_) | refine Wg (fun _ => ?_) (fun _ => ?_) | refine Wh (fun _ => ?_) (fun _ => ?_) | refine Wi ?_ | refine Wj ?_ | refine Wk (fun _ => ?_) (fun _ => ?_) | refine Wl (fun _ => ?_) | refine Wm (by assumption) (by omega) ?_ | refine Wn (by omega) (by omega) (fun _ _ _ => ?_) | refine Wo (by omega) (by omega) ?_ | refine Wp (by omega) (by omega) (by omega) ?_ | refine Wq (by omega) (by omega) ?_ | refine Wr (by decide) (by omega) (by omega) ?_ | refine Ws (by decide) ?_ | refine Wx (fun _ => ?_) ?_ | refine Wy (fun _ => ?_) ?_ | refine Wz (fun _ => ?_) | refine WA (fun _ => ?_) | refine WB (by assumption) (by omega) ?_ | refine WC (by omega) (by omega) (fun _ _ => ?_) | refine WD (by omega) (by omega) (fun _ _ => ?_) | refine WE (by omega) (by omega) (by omega) ?_)
            | refine Wz (fun _ => ?_)
            | with_reducible refine WF ?_)
          all_goals conv => whnf
          all_goals exact ⟨k + 1, ⟨hlt, by rw [hi]; simp [hk1, ht1]⟩, Nat.sub_lt_sub_left hlt (Nat.lt_succ_self k), (by refine ⟨rfl, ?_, ?_, rfl⟩ <;> repeat' (first | exact trivial | exact rfl | refine And.intro ?_ ?_)), St.le_refl _⟩
        · have hn2 : (!(x.text == y.text)) = true := by simp [ht1]
          have hi0 : sameL a b = false := by rw [hi, beq_eq_false_iff_ne.2 ht1]; simp
          repeat' ((conv => whnf); first
            | refine bc_f2 hn1 ?_
            | refine bc_t2 hn2 ?_
            | (with_reducible first | exact Wa | exact Wb | exact Wc | refine Wd (by kernel_rfl) ?_ | refine We ?_ ?_ ?_ | refine W8 (by decide +kernel) ?_ ?_ ?_ | refine W9 ?_ ?_ ?_ | refine Wt (by first | assumption | omega) ?_ | refine Wu (by first | assumption | omega) ?_ | refine Wv (by omega) ?_ | refine Ww (by omega) ?_ | refine Wf (by decide) (fun _ => ?_) (fun _ => ?_) | refine Wg (fun _ => ?_) (fun _ => ?_) | refine Wh (fun _ => ?_) (fun _ => ?_) | refine Wi ?_ | refine Wj ?_ | refine Wk (fun _ => ?_) (fun _ => ?_) | refine Wl (fun _ => ?_) | refine Wm (by assumption) (by omega) ?_ | refine Wn (by omega) (by omega) (fun _ _ _ => ?_) | refine Wo (by omega) (by omega) ?_ | refine Wp (by omega) (by omega) (by omega) ?_ | refine Wq (by omega) (by omega) ?_ | refine Wr (by decide) (by omega) (by omega) ?_ | refine Ws (by decide) ?_ | refine Wx (fun _ => ?_) ?_ | refine Wy (fun _ => ?_) ?_ | refine Wz (fun _ => ?_) | refine WA (fun _ => ?_) | refine WB (by assumption) (by omega) ?_ | refine WC (by omega) (by omega) (fun _ _ => ?_) | refine WD (by omega) (by omega) (fun _ _ => ?_) | refine WE (by omega) (by omega) (by omega) ?_)
            | refine Wz (fun _ => ?_)
            | with_reducible refine WF ?_)
          all_goals exact fin_bool h hi0
      · have hn1 : (!(x.kind == y.kind)) = true := by simp [hk1]
        have hi0 : sameL a b = false := by rw [hi, beq_eq_false_iff_ne.2 hk1]; rfl
        repeat' ((conv => whnf); first
          | refine bc_t2 hn1 ?_
          | (with_reducible first | exact Wa | exact Wb | exact Wc | refine Wd (by kernel_rfl) ?_ | refine We ?_ ?_ ?_ | refine W8 (by decide +kernel) ?_ ?_ ?_ | refine W9 ?_ ?_ ?_ | refine Wt (by first | assumption | omega) ?_ | refine Wu (by first | assumption | omega) ?_ | refine Wv (by omega) ?_ | refine Ww (by omega) ?_ | refine Wf (by decide) (fun _ => ?_) (fun _ => ?_) | refine Wg (fun _ => ?_) (fun _ => ?_) | refine Wh (fun _ => ?_) (fun _ => ?_) | refine Wi ?_ | refine Wj ?_ | refine Wk (fun _ => ?_) (fun _ => ?_) | refine Wl (fun _ => ?_) | refine Wm (by assumption) (by omega) ?_ | refine Wn (by omega) (by omega) (fun _ _ _ => ?_) | refine Wo (by omega) (by omega) ?_ | refine Wp (by omega) (by omega) (by omega) ?_ | refine Wq (by omega) (by omega) ?_ | refine Wr (by decide) (by omega) (by omega) ?_ | refine Ws (by decide) ?_ | refine Wx (fun _ => ?_) ?_ | refine Wy (fun _ => ?_) ?_ | refine Wz (fun _ => ?_) | refine WA (fun _ => ?_) | refine WB (by assumption) (by omega) ?_ | refine WC (by omega) (by omega) (fun _ _ => ?_) | refine WD (by omega) (by omega) (fun _ _ => ?_) | refine WE (by omega) (by omega) (by omega) ?_)
          | refine Wz (fun _ => ?_)
          | with_reducible refine WF ?_)
        all_goals exact fin_bool h hi0
    · have e1 : a.drop k = [] := List.drop_eq_nil_iff.2 (by omega)
      have e2 : b.drop k = [] := List.drop_eq_nil_iff.2 (by omega)
      rw [e1, e2] at hi
      repeat' ((conv => whnf); first
        | (with_reducible first | exact Wa | exact Wb | exact Wc | refine Wd (by kernel_rfl) ?_ | refine We ?_ ?_ ?_ | refine W8 (by decide +kernel) ?_ ?_ ?_ | refine W9 ?_ ?_ ?_ | refine Wt (by first | assumption | omega) ?_ | refine Wu (by first | assumption | omega) ?_ | refine Wv (by omega) ?_ | refine Ww (by omega) ?_ | refine Wf (by decide) (fun _ => ?_) (fun _ => ?_) | refine Wg (fun _ => ?_) (fun _ => ?_) | refine Wh (fun _ => ?_) (fun _ => ?_) | refine Wi ?_ | refine Wj ?_ | refine Wk (fun _ => ?_) (fun _ => ?_) | refine Wl (fun _ => ?_) | refine Wm (by assumption) (by omega) ?_ | refine Wn (by omega) (by omega) (fun _ _ _ => ?_) | refine Wo (by omega) (by omega) ?_ | refine Wp (by omega) (by omega) (by omega) ?_ | refine Wq (by omega) (by omega) ?_ | refine Wr (by decide) (by omega) (by omega) ?_ | refine Ws (by decide) ?_ | refine Wx (fun _ => ?_) ?_ | refine Wy (fun _ => ?_) ?_ | refine Wz (fun _ => ?_) | refine WA (fun _ => ?_) | refine WB (by assumption) (by omega) ?_ | refine WC (by omega) (by omega) (fun _ _ => ?_) | refine WD (by omega) (by omega) (fun _ _ => ?_) | refine WE (by omega) (by omega) (by omega) ?_)
        | refine Wz (fun _ => ?_)
        | with_reducible refine WF ?_)
      all_goals exact fin_bool h (show sameL a b = true by rw [hi]; rfl)
  · skip
    repeat' ((conv => whnf); first
      | (with_reducible first | exact Wa | exact Wb | exact Wc | refine Wd (by kernel_rfl) ?_ | refine We ?_ ?_ ?_ | refine W8 (by decide +kernel) ?_ ?_ ?_ | refine W9 ?_ ?_ ?_ | refine Wt (by first | assumption | omega) ?_ | refine Wu (by first | assumption | omega) ?_ | refine Wv (by omega) ?_ | refine Ww (by omega) ?_ | refine Wf (by decide) (fun _ => ?_) (fun _ => ?_) | refine Wg (fun _ => ?_) (fun _ => ?_) | refine Wh (fun _ => ?_) (fun _ => ?_) | refine Wi ?_ | refine Wj ?_ | refine Wk (fun _ => ?_) (fun _ => ?_) | refine Wl (fun _ => ?_) | refine Wm (by assumption) (by omega) ?_ | refine Wn (by omega) (by omega) (fun _ _ _ => ?_) | refine Wo (by omega) (by omega) ?_ | refine Wp (by omega) (by omega) (by omega) ?_ | refine Wq (by omega) (by omega) ?_ | refine Wr (by decide) (by omega) (by omega) ?_ | refine Ws (by decide) ?_ | refine Wx (fun _ => ?_) ?_ | refine Wy (fun _ => ?_) ?_ | refine Wz (fun _ => ?_) | refine WA (fun _ => ?_) | refine WB (by assumption) (by omega) ?_ | refine WC (by omega) (by omega) (fun _ _ => ?_) | refine WD (by omega) (by omega) (fun _ _ => ?_) | refine WE (by omega) (by omega) (by omega) ?_)
      | refine Wz (fun _ => ?_)
      | with_reducible refine WF ?_)
    all_goals exact fin_bool h (sameL_len hl)
theorem rsame_c {a b : List Tk} {w1 w2 : Own} (h : R (.ret (.bool (sameL a b))) st) : PC 14 [.slice 4 (encTs a) w1, .slice 4 (encTs b) w2] st R := by
  refine pcalls_of_body tys_ok [] Tryz.func14 rfl (by decide) ?_
  by_cases hl : a.length = b.length
  · skip
    repeat' ((conv => whnf); first
      | (with_reducible first | exact Wa | exact Wb | exact Wc | refine Wd (by kernel_rfl) ?_ | refine We ?_ ?_ ?_ | refine W8 (by decide +kernel) ?_ ?_ ?_ | refine W9 ?_ ?_ ?_ | refine Wt (by first | assumption | omega) ?_ | refine Wu (by first | assumption | omega) ?_ | refine Wv (by omega) ?_ | refine Ww (by omega) ?_ | refine Wf (by decide) (fun _ => ?_) (fun _ => ?_) | refine Wg (fun _ => ?_) (fun _ => ?_) | refine Wh (fun _ => ?_) (fun _ => ?_) | refine Wi ?_ | refine Wj ?_ | refine Wk (fun _ => ?_) (fun _ => ?_) | refine Wl (fun _ => ?_) | refine Wm (by assumption) (by omega) ?_ | refine Wn (by omega) (by omega) (fun _ _ _ => ?_) | refine Wo (by omega) (by omega) ?_ | refine Wp (by omega) (by omega) (by omega) ?_ | refine Wq (by omega) (by omega) ?_ | refine Wr (by decide) (by omega) (by omega) ?_ | refine Ws (by decide) ?_ | refine Wx (fun _ => ?_) ?_ | refine Wy (fun _ => ?_) ?_ | refine Wz (fun _ => ?_) | refine WA (fun _ => ?_) | refine WB (by assumption) (by omega) ?_ | refine WC (by omega) (by omega) (fun _ _ => ?_) | refine WD (by omega) (by omega) (fun _ _ => ?_) | refine WE (by omega) (by omega) (by omega) ?_)
      | refine Wz (fun _ => ?_)
      | with_reducible refine WF ?_)
    refine loop_nb 5 [0, 1] [] a.length (fun k => k ≤ a.length ∧ sameL a b = sameL (a.drop k) (b.drop k)) ⟨Nat.zero_le _, rfl⟩ (by refine ⟨rfl, ?_, ?_, rfl⟩ <;> repeat' (first | exact trivial | exact rfl | refine And.intro ?_ ?_)) ?_
    rintro k ⟨hk, hi⟩
    by_cases hlt : k < a.length
    · obtain ⟨x, hx⟩ : ∃ x, a[(k : Int).toNat]? = some x := ⟨_, List.getElem?_eq_getElem hlt⟩
      obtain ⟨y, hy⟩ : ∃ y, b[(k : Int).toNat]? = some y := ⟨_, List.getElem?_eq_getElem (show (k : Int).toNat < b.length by omega)⟩
      rw [sameL_at (k := k) hx hy] at hi
      by_cases hk1 : x.kind = y.kind
      · have hn1 : (!(x.kind == y.kind)) = false := by simp [hk1]
        by_cases ht1 : x.text = y.text
        · have hn2 : (!(x.text == y.text)) = false := by simp [ht1]
          repeat' ((conv => whnf); first
            | refine bc_f2 hn1 ?_
            | refine bc_f2 hn2 ?_
            | (with_reducible first | exact Wa | exact Wb | exact Wc | refine Wd (by kernel_rfl) ?_ | refine We ?_ ?_ ?_ | refine W8 (by decide +kernel) ?_ ?_ ?_ | refine W9 ?_ ?_ ?_ | refine Wt (by first | assumption | omega) ?_ | refine Wu (by first | assumption | omega) ?_ | refine Wv (by omega) ?_ | refine Ww (by omega) ?_ | refine Wf (by decide) (fun _ => ?_) (fun _ => ?_) | refine Wg (fun _ => ?_) (fun _ => ?_) | refine Wh (fun _ => ?_) (fun _ => ?_) | refine Wi ?_ | refine Wj ?_ | refine Wk (fun _ => ?_) (fun _ => ?_) | refine Wl (fun _ => ?_) | refine Wm (by assumption) (by omega) ?_ | refine Wn (by omega) (by omega) (fun _ _ _ => ?_) | refine Wo (by omega) (by omega) ?_ | refine Wp (by omega) (by omega) (by omega) ?_ | refine Wq (by omega) (by omega) ?_ | refine Wr (by decide) (by omega) (by omega) ?_ | refine Ws (by decide) ?_ | refine Wx (fun _ => ?_) ?_ | refine Wy (fun _ => ?_) ?_ | refine Wz (fun _ => ?_) | refine WA (fun _ => ?_) | refine WB (by assumption) (by omega) ?_ | refine WC (by omega) (by omega) (fun _ _ => ?_) | refine WD (by omega) (by omega) (fun _ _ => ?_) | refine WE (by omega) (by omega) (by omega) ?_)
            | refine Wz (fun _ => ?_)
            | with_reducible refine WF ?_)
          all_goals conv => whnf
          all_goals exact ⟨k + 1, ⟨hlt, by rw [hi]; simp [hk1, ht1]⟩, Nat.sub_lt_sub_left hlt (Nat.lt_succ_self k), (by refine ⟨rfl, ?_, ?_, rfl⟩ <;> repeat' (first | exact trivial | exact rfl | refine And.intro ?_ ?_)), St.le_refl _⟩
        · have hn2 : (!(x.text == y.text)) = true := by simp [ht1]
          have hi0 : sameL a b = false := by rw [hi, beq_eq_false_iff_ne.2 ht1]; simp
          repeat' ((conv => whnf); first
            | refine bc_f2 hn1 ?_
            | refine bc_t2 hn2 ?_
            | (with_reducible first | exact Wa | exact Wb | exact Wc | refine Wd (by kernel_rfl) ?_ | refine We ?_ ?_ ?_ | refine W8 (by decide +kernel) ?_ ?_ ?_ | refine W9 ?_ ?_ ?_ | refine Wt (by first | assumption | omega) ?_ | refine Wu (by first | assumption | omega) ?_ | refine Wv (by omega) ?_ | refine Ww (by omega) ?_ | refine Wf (by decide) (fun _ => ?_) (fun _ => ?_) | refine Wg (fun _ => ?_) (fun _ => ?_) | refine Wh (fun _ => ?_) (fun _ => ?_) | refine Wi ?_ | refine Wj ?_ | refine Wk (fun _ => ?_) (fun _ => ?_) | refine Wl (fun _ => ?_) | refine Wm (by assumption) (by omega) ?_ | refine Wn (by omega) (by omega) (fun _ _ _ => ?_) | refine Wo (by omega) (by omega) ?_ | refine Wp (by omega) (by omega) (by omega) ?_ | refine Wq (by omega) (by omega) ?_ | refine Wr (by decide) (by omega) (by omega) ?_ | refine Ws (by decide) ?_ | refine Wx (fun _ => ?_) ?_ | refine Wy (fun _ => ?_) ?_ | refine Wz (fun _ => ?_) | refine WA (fun _ => ?_) | refine WB (by assumption) (by omega) ?_ | refine WC (by omega) (by omega) (fun _ _ => ?_) | refine WD (by omega) (by omega) (fun _ _ => ?_) | refine WE (by omega) (by omega) (by omega) ?_)
            | refine Wz (fun _ => ?_)
            | with_reducible refine WF ?_)
          all_goals exact fin_bool h hi0
      · have hn1 : (!(x.kind == y.kind)) = true := by simp [hk1]
        have hi0 : sameL a b = false := by rw [hi, beq_eq_false_iff_ne.2 hk1]; rfl
        repeat' ((conv => whnf); first
          | refine bc_t2 hn1 ?_
          | (with_reducible first | exact Wa | exact Wb | exact Wc | refine Wd (by kernel_rfl) ?_ | refine We ?_ ?_ ?_ | refine W8 (by decide +kernel) ?_ ?_ ?_ | refine W9 ?_ ?_ ?_ | refine Wt (by first | assumption | omega) ?_ | refine Wu (by first | assumption | omega) ?_ | refine Wv (by omega) ?_ | refine Ww (by omega) ?_ | refine Wf (by decide) (fun _ => ?_) (fun _ => ?_) | refine Wg (fun _ => ?_) (fun _ => ?_) | refine Wh (fun _ => ?_) (fun _ => ?_) | refine Wi ?_ | refine Wj ?_ | refine Wk (fun _ => ?_) (fun _ => ?_) | refine Wl (fun _ => ?_) | refine Wm (by assumption) (by omega) ?_ | refine Wn (by omega) (by omega) (fun _ _ _ => ?_) | refine Wo (by omega) (by omega) ?_ | refine Wp (by omega) (by omega) (by omega) ?_ | refine Wq (by omega) (by omega) ?_ | refine Wr (by decide) (by omega) (by omega) ?_ | refine Ws (by decide) ?_ | refine Wx (fun _ => ?_) ?_ | refine Wy (fun _ => ?_) ?_ | refine Wz (fun _ => ?_) | refine WA (fun _ => ?_) | refine WB (by assumption) (by omega) ?_ | refine WC (by omega) (by omega) (fun _ _ => ?_) | refine WD (by omega) (by omega) (fun _ _ => ?_) | refine WE (by omega) (by omega) (by omega) ?_)
          | refine Wz (fun _ => ?_)
          | with_reducible refine WF ?_)
        all_goals exact fin_bool h hi0
    · have e1 : a.drop k = [] := List.drop_eq_nil_iff.2 (by omega)
      have e2 : b.drop k = [] := List.drop_eq_nil_iff.2 (by omega)
      rw [e1, e2] at hi
      repeat' ((conv => whnf); first
        | (with_reducible first | exact Wa | exact Wb | exact Wc | refine Wd (by kernel_rfl) ?_ | refine We ?_ ?_ ?_ | refine W8 (by decide +kernel) ?_ ?_ ?_ | refine W9 ?_ ?_ ?_ | refine Wt (by first | assumption | omega) ?_ | refine Wu (by first | assumption | omega) ?_ | refine Wv (by omega) ?_ | refine Ww (by omega) ?_ | refine Wf (by decide) (fun _ => ?_) (fun _ => ?_) | refine Wg (fun _ => ?_) (fun _ => ?_) | refine Wh (fun _ => ?_) (fun _ => ?_) | refine Wi ?_ | refine Wj ?_ | refine Wk (fun _ => ?_) (fun _ => ?_) | refine Wl (fun _ => ?_) | refine Wm (by assumption) (by omega) ?_ | refine Wn (by omega) (by omega) (fun _ _ _ => ?_) | refine Wo (by omega) (by omega) ?_ | refine Wp (by omega) (by omega) (by omega) ?_ | refine Wq (by omega) (by omega) ?_ | refine Wr (by decide) (by omega) (by omega) ?_ | refine Ws (by decide) ?_ | refine Wx (fun _ => ?_) ?_ | refine Wy (fun _ => ?_) ?_ | refine Wz (fun _ => ?_) | refine WA (fun _ => ?_) | refine WB (by assumption) (by omega) ?_ | refine WC (by omega) (by omega) (fun _ _ => ?_) | refine WD (by omega) (by omega) (fun _ _ => ?_) | refine WE (by omega) (by omega) (by omega) ?_)
        | refine Wz (fun _ => ?_)
        | with_reducible refine WF ?_)
      all_goals exact fin_bool h (show sameL a b = true by rw [hi]; rfl)
  · skip
    repeat' ((conv => whnf); first
      | (with_reducible first | exact Wa | exact Wb | exact Wc | refine Wd (by kernel_rfl) ?_ | refine We ?_ ?_ ?_ | refine W8 (by decide +kernel) ?_ ?_ ?_ | refine W9 ?_ ?_ ?_ | refine Wt (by first | assumption | omega) ?_ | refine Wu (by first | assumption | omega) ?_ | refine Wv (by omega) ?_ | refine Ww (by omega) ?_ | refine Wf (by decide) (fun _ => ?_) (fun _ => ?_) | refine Wg (fun _ => ?_) (fun _ => ?_) | refine Wh (fun _ => ?_) (fun _ => ?_) | refine Wi ?_ | refine Wj ?_ | refine Wk (fun _ => ?_) (fun _ => ?_) | refine Wl (fun _ => ?_) | refine Wm (by assumption) (by omega) ?_ | refine Wn (by omega) (by omega) (fun _ _ _ => ?_) | refine Wo (by omega) (by omega) ?_ | refine Wp (by omega) (by omega) (by omega) ?_ | refine Wq (by omega) (by omega) ?_ | refine Wr (by decide) (by omega) (by omega) ?_ | refine Ws (by decide) ?_ | refine Wx (fun _ => ?_) ?_ | refine Wy (fun _ => ?_) ?_ | refine Wz (fun _ => ?_) | refine WA (fun _ => ?_) | refine WB (by assumption) (by omega) ?_ | refine WC (by omega) (by omega) (fun _ _ => ?_) | refine WD (by omega) (by omega) (fun _ _ => ?_) | refine WE (by omega) (by omega) (by omega) ?_)
      | refine Wz (fun _ => ?_)
      | with_reducible refine WF ?_)
    all_goals exact fin_bool h (sameL_len hl)
end
end Go.Proofs.YtkcapphlemoccaaGreatDoor
set_option linter.unusedVariables false
namespace Go.Aw
open Go
theorem join_snoc {l : List (List UInt8)} {x : List UInt8} (h : l ≠ []) : Lib.join (l ++ [x]) [32] = Lib.join l [32] ++ [32] ++ x := by
  cases l with
  | nil => exact absurd rfl h
  | cons a r =>
    rw [List.cons_append, Lib.join_cons, Lib.join_cons]
    simp [Lib.joinTail]
theorem join_spell : ∀ l : List (List UInt8), Lib.join l [32] = spellW l
  | [] => rfl
  | [w] => Lib.join_one w _
  | w :: v :: r => by
    have ih := join_spell (v :: r)
    show _ = w ++ 32 :: spellW (v :: r)
    rw [← ih, Lib.join_cons, Lib.join_cons]
    simp [Lib.joinTail]
theorem take_snoc {α : Type} {l : List α} {k : Nat} {x : α} (h : l[k]? = some x) : l.take (k + 1) = l.take k ++ [x] := by
  obtain ⟨hk, rfl⟩ := List.getElem?_eq_some_iff.1 h
  rw [List.take_succ_eq_append_getElem hk]
theorem join_take {l : List (List UInt8)} (k : Nat) : (Lib.join (l.take k) [32]).length ≤ (Lib.join l [32]).length := by
  cases l with
  | nil => simp
  | cons a r =>
    cases k with
    | zero => simp [Lib.join_nil]
    | succ k =>
      rw [List.take_succ_cons, Lib.join_cons, Lib.join_cons, List.length_append, List.length_append]
      have := Lib.joinTail_take_le [32] r k
      omega
def strC (l : List (List UInt8)) (n : Nat) : List V := l.map V.str ++ List.replicate (n - l.length) (V.str [])
theorem strC_no {l : List (List UInt8)} {n : Nat} : noIt (strC l n) = true := by
  have key : ∀ cs : List V, (∀ v ∈ cs, ∃ s, v = V.str s) → noIt cs = true := by
    intro cs h
    match cs, h with
    | [], h => rfl
    | [v], h => obtain ⟨s, rfl⟩ := h v List.mem_cons_self; rfl
    | a :: b :: r, h => rfl
  refine key _ (fun v hv => ?_)
  unfold strC at hv
  rcases List.mem_append.1 hv with hv | hv
  · obtain ⟨s, _, rfl⟩ := List.mem_map.1 hv; exact ⟨s, rfl⟩
  · exact ⟨[], (List.mem_replicate.1 hv).2⟩
theorem strC_set {l : List (List UInt8)} {n : Nat} {x : List UInt8} (h : l.length < n) : (strC l n).take l.length ++ V.str x :: (strC l n).drop (l.length + 1) = strC (l ++ [x]) n := by
  unfold strC
  have e : (l.map V.str).length = l.length := List.length_map _
  rw [List.take_append_of_le_length (by omega), List.take_of_length_le (by omega), List.drop_append, e, List.drop_of_length_le (by omega), List.drop_replicate, List.map_append, List.length_append]
  simp only [List.map_cons, List.map_nil, List.nil_append, List.append_assoc, List.cons_append, List.length_singleton]
  congr 3
  omega
theorem store_str {l : List (List UInt8)} {n k : Nat} {x : List UInt8} {K : List V → Prop} (hl : l.length = k) (h : k < n) (kk : K (strC (l ++ [x]) n)) : storeTo (strC l n) k [.str x] K := by
  subst hl
  refine store_row strC_no (by unfold strC; rw [List.length_append, List.length_map, List.length_replicate]; omega) rfl ?_
  rw [strC_set h]
  exact kk
theorem strC_0 {n : Nat} : (List.replicate n [V.str []]).flatten = strC [] n := by
  unfold strC
  induction n with
  | zero => rfl
  | succ n ih => rw [List.replicate_succ, List.flatten_cons, ih]; rfl
theorem strC_all {l : List (List UInt8)} : strC l l.length = (strs l).flatten ++ [] := by
  unfold strC
  rw [Nat.sub_self]
  simp [strs, ← List.flatMap_def]
  induction l with
  | nil => rfl
  | cons a r ih => simp [ih]
end Go.Aw
namespace Go.Proofs.YtkcapphlemoccaaGreatDoor
open Go Go.Aw
section
variable {st : St} {R : Res → St → Prop}
attribute [local irreducible] Go.Aw.storeTo
theorem len_is {α : Type} {es : List α} {n : Nat} {K : Nat → Prop} (h : es.length = n) (k : K n) : ∀ m, m = es.length → m < lim → K m := fun m hm _ => by rw [h] at hm; subst hm; exact k
theorem mk_some {st : St} {n : Nat} {by' : Nat} {Q : Prop} {K : Nat → Nat → Prop} (h1 : (n : Int) * (by' : Int) ≤ 140737488355328) (h2 : n < 1000000000) (k : ∀ b, st.fresh b → K b n) :
    (0 ≤ (n : Int) ∧ (n : Int) ≤ n ∧ (n : Int) * (by' : Int) ≤ 140737488355328 ∧ (n : Int) < (lim : Nat)) ∧ (Q ∨ ((n : Int) = n ∧ ∀ b k, st.fresh b → k = (n : Int).toNat → K b k)) :=
  ⟨⟨by omega, by omega, h1, by unfold lim; omega⟩, .inr ⟨rfl, fun b k' hb hk => by
    rw [Int.toNat_natCast] at hk; subst hk; exact k b hb⟩⟩
theorem text_at {a : List Tk} {k : Nat} {x : Tk} (h : a[k]? = some x) : (a.map Tk.text).take (k + 1) = (a.map Tk.text).take k ++ [x.text] := take_snoc (by simp [h])
theorem le_dropB {st m : St} {b : Nat} (h : st.le m) (h0 : st.box b = none) : st.le (m.dropBox b) := ⟨fun y c hy => by
  have hyb : y ≠ b := fun e => by subst e; rw [h0] at hy; cases hy
  show (if y = b then none else m.box y) = some c
  rw [if_neg hyb]
  exact h.1 _ _ hy, h.2⟩
theorem spell_c {a : List Tk} {w : Own} (ha : a.length ≤ 2000000) (hj : (Lib.join (a.map Tk.text) [32]).length ≤ 100000000) (h : ∀ st', st.le st' → R (.ret (.str (Lib.join (a.map Tk.text) [32]))) st') : PC 11 [.slice 4 (encTs a) w] st R := by
  refine pcalls_of_aw tys_ok [] Tryz.func11 rfl (by decide) rfl ?_
  by_cases h0 : a = []
  · subst h0
    refine aw_of tys_ok ?_
    repeat' ((conv => whnf); first
      | refine len_is (n := 0) rfl ?_
      | (with_reducible first | exact Wa | exact Wb | exact Wc | refine Wd (by kernel_rfl) ?_ | refine We ?_ ?_ ?_ | refine W8 (by decide +kernel) ?_ ?_ ?_ | refine W9 ?_ ?_ ?_ | refine Wt (by first | assumption | omega) ?_ | refine Wu (by first | assumption | omega) ?_ | refine Wv (by omega) ?_ | refine Ww (by omega) ?_ | refine Wf (by decide) (fun _ => ?_) (fun _ => ?_) | refine Wg (fun _ => ?_) (fun _ => ?_) | refine Wh (fun _ => ?_) (fun _ => ?_) | refine Wi ?_ | refine Wj ?_ | refine Wk (fun _ => ?_) (fun _ => ?_) | refine Wl (fun _ => ?_) | refine Wm (by assumption) (by omega) ?_ | refine Wn (by omega) (by omega) (fun _ _ _ => ?_) | refine Wo (by omega) (by omega) ?_ | refine Wp (by omega) (by omega) (by omega) ?_ | refine Wq (by omega) (by omega) ?_ | refine Wr (by decide) (by omega) (by omega) ?_ | refine Ws (by decide) ?_ | refine Wx (fun _ => ?_) ?_ | refine Wy (fun _ => ?_) ?_ | refine Wz (fun _ => ?_) | refine WA (fun _ => ?_) | refine WB (by assumption) (by omega) ?_ | refine WC (by omega) (by omega) (fun _ _ => ?_) | refine WD (by omega) (by omega) (fun _ _ => ?_) | refine WE (by omega) (by omega) (by omega) ?_)
      | refine ⟨by decide, .inl ⟨rfl, fun b fb => ?_⟩⟩
      | refine join_c (xs := []) (by decide) (by decide) ?_
      | with_reducible refine WF ?_)
    refine loop_nb 11 [0, 3, 9, 10] [] 0 (fun k => k = 0) rfl (by refine ⟨rfl, ?_, ?_, rfl⟩ <;> repeat' (first | exact trivial | exact rfl | refine And.intro ?_ ?_)) ?_
    rintro k rfl
    repeat' ((conv => whnf); first
      | (with_reducible first | exact Wa | exact Wb | exact Wc | refine Wd (by kernel_rfl) ?_ | refine We ?_ ?_ ?_ | refine W8 (by decide +kernel) ?_ ?_ ?_ | refine W9 ?_ ?_ ?_ | refine Wt (by first | assumption | omega) ?_ | refine Wu (by first | assumption | omega) ?_ | refine Wv (by omega) ?_ | refine Ww (by omega) ?_ | refine Wf (by decide) (fun _ => ?_) (fun _ => ?_) | refine Wg (fun _ => ?_) (fun _ => ?_) | refine Wh (fun _ => ?_) (fun _ => ?_) | refine Wi ?_ | refine Wj ?_ | refine Wk (fun _ => ?_) (fun _ => ?_) | refine Wl (fun _ => ?_) | refine Wm (by assumption) (by omega) ?_ | refine Wn (by omega) (by omega) (fun _ _ _ => ?_) | refine Wo (by omega) (by omega) ?_ | refine Wp (by omega) (by omega) (by omega) ?_ | refine Wq (by omega) (by omega) ?_ | refine Wr (by decide) (by omega) (by omega) ?_ | refine Ws (by decide) ?_ | refine Wx (fun _ => ?_) ?_ | refine Wy (fun _ => ?_) ?_ | refine Wz (fun _ => ?_) | refine WA (fun _ => ?_) | refine WB (by assumption) (by omega) ?_ | refine WC (by omega) (by omega) (fun _ _ => ?_) | refine WD (by omega) (by omega) (fun _ _ => ?_) | refine WE (by omega) (by omega) (by omega) ?_)
      | refine join_c (xs := []) (by decide) (by decide) ?_
      | with_reducible refine WF ?_)
    exact fin (h _ (St.le_setHw (St.le_refl _) fb.2 _)) rfl
  · refine AW_seq2 (aw_of tys_ok ?_)
    repeat' ((conv => whnf); first
      | (with_reducible first | exact Wa | exact Wb | exact Wc | refine Wd (by kernel_rfl) ?_ | refine We ?_ ?_ ?_ | refine W8 (by decide +kernel) ?_ ?_ ?_ | refine W9 ?_ ?_ ?_ | refine Wt (by first | assumption | omega) ?_ | refine Wu (by first | assumption | omega) ?_ | refine Wv (by omega) ?_ | refine Ww (by omega) ?_ | refine Wf (by decide) (fun _ => ?_) (fun _ => ?_) | refine Wg (fun _ => ?_) (fun _ => ?_) | refine Wh (fun _ => ?_) (fun _ => ?_) | refine Wi ?_ | refine Wj ?_ | refine Wk (fun _ => ?_) (fun _ => ?_) | refine Wl (fun _ => ?_) | refine Wm (by assumption) (by omega) ?_ | refine Wn (by omega) (by omega) (fun _ _ _ => ?_) | refine Wo (by omega) (by omega) ?_ | refine Wp (by omega) (by omega) (by omega) ?_ | refine Wq (by omega) (by omega) ?_ | refine Wr (by decide) (by omega) (by omega) ?_ | refine Ws (by decide) ?_ | refine Wx (fun _ => ?_) ?_ | refine Wy (fun _ => ?_) ?_ | refine Wz (fun _ => ?_) | refine WA (fun _ => ?_) | refine WB (by assumption) (by omega) ?_ | refine WC (by omega) (by omega) (fun _ _ => ?_) | refine WD (by omega) (by omega) (fun _ _ => ?_) | refine WE (by omega) (by omega) (by omega) ?_)
      | with_reducible refine WF ?_)
    refine AW_seq2 (aw_of tys_ok ?_)
    repeat' ((conv => whnf); first
      | (with_reducible first | exact Wa | exact Wb | exact Wc | refine Wd (by kernel_rfl) ?_ | refine We ?_ ?_ ?_ | refine W8 (by decide +kernel) ?_ ?_ ?_ | refine W9 ?_ ?_ ?_ | refine Wt (by first | assumption | omega) ?_ | refine Wu (by first | assumption | omega) ?_ | refine Wv (by omega) ?_ | refine Ww (by omega) ?_ | refine Wf (by decide) (fun _ => ?_) (fun _ => ?_) | refine Wg (fun _ => ?_) (fun _ => ?_) | refine Wh (fun _ => ?_) (fun _ => ?_) | refine Wi ?_ | refine Wj ?_ | refine Wk (fun _ => ?_) (fun _ => ?_) | refine Wl (fun _ => ?_) | refine Wm (by assumption) (by omega) ?_ | refine Wn (by omega) (by omega) (fun _ _ _ => ?_) | refine Wo (by omega) (by omega) ?_ | refine Wp (by omega) (by omega) (by omega) ?_ | refine Wq (by omega) (by omega) ?_ | refine Wr (by decide) (by omega) (by omega) ?_ | refine Ws (by decide) ?_ | refine Wx (fun _ => ?_) ?_ | refine Wy (fun _ => ?_) ?_ | refine Wz (fun _ => ?_) | refine WA (fun _ => ?_) | refine WB (by assumption) (by omega) ?_ | refine WC (by omega) (by omega) (fun _ _ => ?_) | refine WD (by omega) (by omega) (fun _ _ => ?_) | refine WE (by omega) (by omega) (by omega) ?_)
      | refine Wz (fun _ => ?_)
      | refine mk_some (by omega) (by omega) (fun b fb => ?_)
      | with_reducible refine WF ?_)
    refine AW_joinx (α := St) (fun m => [(3, .mrow 1 b a.length a.length)]) (fun _ => []) [3] [] (fun m => m) (fun m => m.box b = some (strC (a.map Tk.text) a.length) ∧ st.le m) ?_ ?_
    · refine aw_of tys_ok ?_
      repeat' ((conv => whnf); first
        | (with_reducible first | exact Wa | exact Wb | exact Wc | refine Wd (by kernel_rfl) ?_ | refine We ?_ ?_ ?_ | refine W8 (by decide +kernel) ?_ ?_ ?_ | refine W9 ?_ ?_ ?_ | refine Wt (by first | assumption | omega) ?_ | refine Wu (by first | assumption | omega) ?_ | refine Wv (by omega) ?_ | refine Ww (by omega) ?_ | refine Wf (by decide) (fun _ => ?_) (fun _ => ?_) | refine Wg (fun _ => ?_) (fun _ => ?_) | refine Wh (fun _ => ?_) (fun _ => ?_) | refine Wi ?_ | refine Wj ?_ | refine Wk (fun _ => ?_) (fun _ => ?_) | refine Wl (fun _ => ?_) | refine Wm (by assumption) (by omega) ?_ | refine Wn (by omega) (by omega) (fun _ _ _ => ?_) | refine Wo (by omega) (by omega) ?_ | refine Wp (by omega) (by omega) (by omega) ?_ | refine Wq (by omega) (by omega) ?_ | refine Wr (by decide) (by omega) (by omega) ?_ | refine Ws (by decide) ?_ | refine Wx (fun _ => ?_) ?_ | refine Wy (fun _ => ?_) ?_ | refine Wz (fun _ => ?_) | refine WA (fun _ => ?_) | refine WB (by assumption) (by omega) ?_ | refine WC (by omega) (by omega) (fun _ _ => ?_) | refine WD (by omega) (by omega) (fun _ _ => ?_) | refine WE (by omega) (by omega) (by omega) ?_)
        | refine Wz (fun _ => ?_)
        | with_reducible refine WF ?_)
      refine loop_g (α := Nat × St) (fun x => [(11, .int .i64 (x.1 : Int))]) [0, 3, 9, 10] [] (fun x => x.2) (fun x => x.1 ≤ a.length ∧ x.2.box b = some (strC ((a.map Tk.text).take x.1) a.length) ∧ st.le x.2) (fun x => a.length - x.1) (0, _) ⟨Nat.zero_le _, (St.box_at _ _ _).trans (congrArg some strC_0), St.le_setBox (St.le_refl _) fb.1 _⟩ (by refine ⟨rfl, ?_, ?_, rfl⟩ <;> repeat' (first | exact trivial | exact rfl | refine And.intro ?_ ?_)) (St.le_refl _) ?_
      rintro ⟨k, m⟩ ⟨hk, hm, hle⟩
      dsimp only at hk hm hle ⊢
      by_cases hlt : k < a.length
      · obtain ⟨x, hx⟩ : ∃ x, a[(k : Int).toNat]? = some x := ⟨_, List.getElem?_eq_getElem hlt⟩
        have ht := text_at (k := k) hx
        have hlt1 : k * 1 < a.length := by omega
        have hts : ((a.map Tk.text).take k).length = k * 1 := by rw [List.length_take, List.length_map]; omega
        have htl : ((a.map Tk.text).take k).length = k := by rw [List.length_take, List.length_map]; omega
        repeat' ((conv => whnf); first
          | (with_reducible first | exact Wa | exact Wb | exact Wc | refine Wd (by kernel_rfl) ?_ | refine We ?_ ?_ ?_ | refine W8 (by decide +kernel) ?_ ?_ ?_ | refine W9 ?_ ?_ ?_ | refine Wt (by first | assumption | omega) ?_ | refine Wu (by first | assumption | omega) ?_ | refine Wv (by omega) ?_ | refine Ww (by omega) ?_ | refine Wf (by decide) (fun _ => ?_) (fun _ => ?_) | refine Wg (fun _ => ?_) (fun _ => ?_) | refine Wh (fun _ => ?_) (fun _ => ?_) | refine Wi ?_ | refine Wj ?_ | refine Wk (fun _ => ?_) (fun _ => ?_) | refine Wl (fun _ => ?_) | refine Wm (by assumption) (by omega) ?_ | refine Wn (by omega) (by omega) (fun _ _ _ => ?_) | refine Wo (by omega) (by omega) ?_ | refine Wp (by omega) (by omega) (by omega) ?_ | refine Wq (by omega) (by omega) ?_ | refine Wr (by decide) (by omega) (by omega) ?_ | refine Ws (by decide) ?_ | refine Wx (fun _ => ?_) ?_ | refine Wy (fun _ => ?_) ?_ | refine Wz (fun _ => ?_) | refine WA (fun _ => ?_) | refine WB (by assumption) (by omega) ?_ | refine WC (by omega) (by omega) (fun _ _ => ?_) | refine WD (by omega) (by omega) (fun _ _ => ?_) | refine WE (by omega) (by omega) (by omega) ?_)
          | refine Wz (fun _ => ?_)
          | refine at_mrow (j := k) (by omega) (by omega) ?_
          | refine on_box hm ?_
          | refine store_str hts hlt1 ?_
          | unfold Go.Aw.storeTo
          | with_reducible refine WF ?_)
        all_goals conv => whnf
        exact ⟨(k + 1, m.setBox b (strC ((a.map Tk.text).take k ++ [x.text]) a.length)), ⟨hlt, by dsimp only; rw [ht]; exact St.box_at _ _ _, St.le_setBox hle fb.1 _⟩, Nat.sub_lt_sub_left hlt (Nat.lt_succ_self k), (by refine ⟨rfl, ?_, ?_, rfl⟩ <;> repeat' (first | exact trivial | exact rfl | refine And.intro ?_ ?_)), St.le_refl _⟩
      · have hke : k = a.length := by omega
        repeat' ((conv => whnf); first
          | (with_reducible first | exact Wa | exact Wb | exact Wc | refine Wd (by kernel_rfl) ?_ | refine We ?_ ?_ ?_ | refine W8 (by decide +kernel) ?_ ?_ ?_ | refine W9 ?_ ?_ ?_ | refine Wt (by first | assumption | omega) ?_ | refine Wu (by first | assumption | omega) ?_ | refine Wv (by omega) ?_ | refine Ww (by omega) ?_ | refine Wf (by decide) (fun _ => ?_) (fun _ => ?_) | refine Wg (fun _ => ?_) (fun _ => ?_) | refine Wh (fun _ => ?_) (fun _ => ?_) | refine Wi ?_ | refine Wj ?_ | refine Wk (fun _ => ?_) (fun _ => ?_) | refine Wl (fun _ => ?_) | refine Wm (by assumption) (by omega) ?_ | refine Wn (by omega) (by omega) (fun _ _ _ => ?_) | refine Wo (by omega) (by omega) ?_ | refine Wp (by omega) (by omega) (by omega) ?_ | refine Wq (by omega) (by omega) ?_ | refine Wr (by decide) (by omega) (by omega) ?_ | refine Ws (by decide) ?_ | refine Wx (fun _ => ?_) ?_ | refine Wy (fun _ => ?_) ?_ | refine Wz (fun _ => ?_) | refine WA (fun _ => ?_) | refine WB (by assumption) (by omega) ?_ | refine WC (by omega) (by omega) (fun _ _ => ?_) | refine WD (by omega) (by omega) (fun _ _ => ?_) | refine WE (by omega) (by omega) (by omega) ?_)
          | refine Wz (fun _ => ?_)
          | with_reducible refine WF ?_)
        all_goals conv => whnf
        refine ⟨m, ⟨?_, hle⟩, (by refine ⟨rfl, ?_, ?_, rfl⟩ <;> repeat' (first | exact trivial | exact rfl | refine And.intro ?_ ?_)), St.le_refl _⟩
        rw [hm, hke, List.take_of_length_le (by rw [List.length_map]; omega)]
    · rintro m ⟨hm, hle⟩
      have hml : (a.map Tk.text).length ≤ 140737488355328 := by rw [List.length_map]; omega
      rw [show strC (a.map Tk.text) a.length = (strs (a.map Tk.text)).flatten ++ [] from (by rw [← strC_all, List.length_map])] at hm
      refine AW_freeze 3 [] rfl (show 3 < Tryz.f11.ntmps by decide) hm (fun e he => by obtain ⟨s, _, rfl⟩ := List.mem_map.1 he; rfl) (by simp [strs]) ?_
      refine aw_of tys_ok ?_
      repeat' ((conv => whnf); first
        | (with_reducible first | exact Wa | exact Wb | exact Wc | refine Wd (by kernel_rfl) ?_ | refine We ?_ ?_ ?_ | refine W8 (by decide +kernel) ?_ ?_ ?_ | refine W9 ?_ ?_ ?_ | refine Wt (by first | assumption | omega) ?_ | refine Wu (by first | assumption | omega) ?_ | refine Wv (by omega) ?_ | refine Ww (by omega) ?_ | refine Wf (by decide) (fun _ => ?_) (fun _ => ?_) | refine Wg (fun _ => ?_) (fun _ => ?_) | refine Wh (fun _ => ?_) (fun _ => ?_) | refine Wi ?_ | refine Wj ?_ | refine Wk (fun _ => ?_) (fun _ => ?_) | refine Wl (fun _ => ?_) | refine Wm (by assumption) (by omega) ?_ | refine Wn (by omega) (by omega) (fun _ _ _ => ?_) | refine Wo (by omega) (by omega) ?_ | refine Wp (by omega) (by omega) (by omega) ?_ | refine Wq (by omega) (by omega) ?_ | refine Wr (by decide) (by omega) (by omega) ?_ | refine Ws (by decide) ?_ | refine Wx (fun _ => ?_) ?_ | refine Wy (fun _ => ?_) ?_ | refine Wz (fun _ => ?_) | refine WA (fun _ => ?_) | refine WB (by assumption) (by omega) ?_ | refine WC (by omega) (by omega) (fun _ _ => ?_) | refine WD (by omega) (by omega) (fun _ _ => ?_) | refine WE (by omega) (by omega) (by omega) ?_)
        | refine join_c hml (by omega) ?_
        | with_reducible refine WF ?_)
      exact fin (h _ (le_dropB hle fb.1)) rfl
theorem rspell_c {a : List Tk} {w : Own} (hj : (Lib.join (a.map Tk.text) [32]).length ≤ 100000000) (h : R (.ret (.str (Lib.join (a.map Tk.text) [32]))) st) : PC 12 [.slice 4 (encTs a) w] st R := by
  refine pcalls_of_body tys_ok [] Tryz.func12 rfl (by decide) ?_
  repeat' ((conv => whnf); first
    | (with_reducible first | exact Wa | exact Wb | exact Wc | refine Wd (by kernel_rfl) ?_ | refine We ?_ ?_ ?_ | refine W8 (by decide +kernel) ?_ ?_ ?_ | refine W9 ?_ ?_ ?_ | refine Wt (by first | assumption | omega) ?_ | refine Wu (by first | assumption | omega) ?_ | refine Wv (by omega) ?_ | refine Ww (by omega) ?_ | refine Wf (by decide) (fun _ => ?_) (fun _ => ?_) | refine Wg (fun _ => ?_) (fun _ => ?_) | refine Wh (fun _ => ?_) (fun _ => ?_) | refine Wi ?_ | refine Wj ?_ | refine Wk (fun _ => ?_) (fun _ => ?_) | refine Wl (fun _ => ?_) | refine Wm (by assumption) (by omega) ?_ | refine Wn (by omega) (by omega) (fun _ _ _ => ?_) | refine Wo (by omega) (by omega) ?_ | refine Wp (by omega) (by omega) (by omega) ?_ | refine Wq (by omega) (by omega) ?_ | refine Wr (by decide) (by omega) (by omega) ?_ | refine Ws (by decide) ?_ | refine Wx (fun _ => ?_) ?_ | refine Wy (fun _ => ?_) ?_ | refine Wz (fun _ => ?_) | refine WA (fun _ => ?_) | refine WB (by assumption) (by omega) ?_ | refine WC (by omega) (by omega) (fun _ _ => ?_) | refine WD (by omega) (by omega) (fun _ _ => ?_) | refine WE (by omega) (by omega) (by omega) ?_)
    | with_reducible refine WF ?_)
  refine loop_g (α := Nat) (fun k => [(4, .int .i64 (k : Int)), (3, .str (Lib.join ((a.map Tk.text).take k) [32]))]) [0] [] (fun _ => st) (fun k => k ≤ a.length) (fun k => a.length - k) 0 (Nat.zero_le _) (by refine ⟨rfl, ?_, ?_, rfl⟩ <;> repeat' (first | exact trivial | exact rfl | refine And.intro ?_ ?_)) (St.le_refl _) ?_
  intro k hk
  have hj1 := join_take (l := a.map Tk.text) k
  have hj2 := join_take (l := a.map Tk.text) (k + 1)
  by_cases hlt : k < a.length
  · obtain ⟨x, hx⟩ : ∃ x, a[(k : Int).toNat]? = some x := ⟨_, List.getElem?_eq_getElem hlt⟩
    have ht := text_at (k := k) hx
    by_cases h0 : k = 0
    · have e0 : Lib.join ((a.map Tk.text).take (k + 1)) [32] = x.text := by rw [ht, h0, List.take_zero, List.nil_append, Lib.join_one]
      have e1 : Lib.join ((a.map Tk.text).take k) [32] = [] := by rw [h0]; rfl
      rw [e1]
      have q1 : ([] : List UInt8).length + x.text.length < lim := by rw [List.length_nil]; rw [e0] at hj2; unfold lim; omega
      repeat' ((conv => whnf); first
        | (with_reducible first | exact Wa | exact Wb | exact Wc | refine Wd (by kernel_rfl) ?_ | refine We ?_ ?_ ?_ | refine W8 (by decide +kernel) ?_ ?_ ?_ | refine W9 ?_ ?_ ?_ | refine Wt (by first | assumption | omega) ?_ | refine Wu (by first | assumption | omega) ?_ | refine Wv (by omega) ?_ | refine Ww (by omega) ?_ | refine Wf (by decide) (fun _ => ?_) (fun _ => ?_) | refine Wg (fun _ => ?_) (fun _ => ?_) | refine Wh (fun _ => ?_) (fun _ => ?_) | refine Wi ?_ | refine Wj ?_ | refine Wk (fun _ => ?_) (fun _ => ?_) | refine Wl (fun _ => ?_) | refine Wm (by assumption) (by omega) ?_ | refine Wn (by omega) (by omega) (fun _ _ _ => ?_) | refine Wo (by omega) (by omega) ?_ | refine Wp (by omega) (by omega) (by omega) ?_ | refine Wq (by omega) (by omega) ?_ | refine Wr (by decide) (by omega) (by omega) ?_ | refine Ws (by decide) ?_ | refine Wx (fun _ => ?_) ?_ | refine Wy (fun _ => ?_) ?_ | refine Wz (fun _ => ?_) | refine WA (fun _ => ?_) | refine WB (by assumption) (by omega) ?_ | refine WC (by omega) (by omega) (fun _ _ => ?_) | refine WD (by omega) (by omega) (fun _ _ => ?_) | refine WE (by omega) (by omega) (by omega) ?_)
        | refine Wz (fun _ => ?_)
        | refine ⟨q1, ?_⟩
        | with_reducible refine WF ?_)
      all_goals conv => whnf
      exact ⟨k + 1, hlt, Nat.sub_lt_sub_left hlt (Nat.lt_succ_self k), (by rw [e0]; exact (by refine ⟨rfl, ?_, ?_, rfl⟩ <;> repeat' (first | exact trivial | exact rfl | refine And.intro ?_ ?_))), St.le_refl _⟩
    · have hne : (a.map Tk.text).take k ≠ [] := fun e => by
        have := congrArg List.length e
        rw [List.length_take, List.length_map, List.length_nil] at this; omega
      have e0 : Lib.join ((a.map Tk.text).take (k + 1)) [32] = Lib.join ((a.map Tk.text).take k) [32] ++ [32] ++ x.text := by rw [ht]; exact join_snoc hne
      have hj2' := hj2
      rw [e0, List.length_append] at hj2'
      have q1 : (Lib.join ((a.map Tk.text).take k) [32]).length + ([32] : List UInt8).length < lim := by rw [List.length_append] at hj2'; unfold lim; omega
      have q2 : (Lib.join ((a.map Tk.text).take k) [32] ++ [32]).length + x.text.length < lim := by unfold lim; omega
      repeat' ((conv => whnf); first
        | (with_reducible first | exact Wa | exact Wb | exact Wc | refine Wd (by kernel_rfl) ?_ | refine We ?_ ?_ ?_ | refine W8 (by decide +kernel) ?_ ?_ ?_ | refine W9 ?_ ?_ ?_ | refine Wt (by first | assumption | omega) ?_ | refine Wu (by first | assumption | omega) ?_ | refine Wv (by omega) ?_ | refine Ww (by omega) ?_ | refine Wf (by decide) (fun _ => ?_) (fun _ => ?_) | refine Wg (fun _ => ?_) (fun _ => ?_) | refine Wh (fun _ => ?_) (fun _ => ?_) | refine Wi ?_ | refine Wj ?_ | refine Wk (fun _ => ?_) (fun _ => ?_) | refine Wl (fun _ => ?_) | refine Wm (by assumption) (by omega) ?_ | refine Wn (by omega) (by omega) (fun _ _ _ => ?_) | refine Wo (by omega) (by omega) ?_ | refine Wp (by omega) (by omega) (by omega) ?_ | refine Wq (by omega) (by omega) ?_ | refine Wr (by decide) (by omega) (by omega) ?_ | refine Ws (by decide) ?_ | refine Wx (fun _ => ?_) ?_ | refine Wy (fun _ => ?_) ?_ | refine Wz (fun _ => ?_) | refine WA (fun _ => ?_) | refine WB (by assumption) (by omega) ?_ | refine WC (by omega) (by omega) (fun _ _ => ?_) | refine WD (by omega) (by omega) (fun _ _ => ?_) | refine WE (by omega) (by omega) (by omega) ?_)
        | refine Wz (fun _ => ?_)
        | refine ⟨q1, ?_⟩
        | refine ⟨q2, ?_⟩
        | with_reducible refine WF ?_)
      all_goals conv => whnf
      exact ⟨k + 1, hlt, Nat.sub_lt_sub_left hlt (Nat.lt_succ_self k), (by rw [e0]; exact (by refine ⟨rfl, ?_, ?_, rfl⟩ <;> repeat' (first | exact trivial | exact rfl | refine And.intro ?_ ?_))), St.le_refl _⟩
  · have hke : k = a.length := by omega
    have e0 : (a.map Tk.text).take k = a.map Tk.text := List.take_of_length_le (by rw [List.length_map]; omega)
    rw [e0]
    repeat' ((conv => whnf); first
      | (with_reducible first | exact Wa | exact Wb | exact Wc | refine Wd (by kernel_rfl) ?_ | refine We ?_ ?_ ?_ | refine W8 (by decide +kernel) ?_ ?_ ?_ | refine W9 ?_ ?_ ?_ | refine Wt (by first | assumption | omega) ?_ | refine Wu (by first | assumption | omega) ?_ | refine Wv (by omega) ?_ | refine Ww (by omega) ?_ | refine Wf (by decide) (fun _ => ?_) (fun _ => ?_) | refine Wg (fun _ => ?_) (fun _ => ?_) | refine Wh (fun _ => ?_) (fun _ => ?_) | refine Wi ?_ | refine Wj ?_ | refine Wk (fun _ => ?_) (fun _ => ?_) | refine Wl (fun _ => ?_) | refine Wm (by assumption) (by omega) ?_ | refine Wn (by omega) (by omega) (fun _ _ _ => ?_) | refine Wo (by omega) (by omega) ?_ | refine Wp (by omega) (by omega) (by omega) ?_ | refine Wq (by omega) (by omega) ?_ | refine Wr (by decide) (by omega) (by omega) ?_ | refine Ws (by decide) ?_ | refine Wx (fun _ => ?_) ?_ | refine Wy (fun _ => ?_) ?_ | refine Wz (fun _ => ?_) | refine WA (fun _ => ?_) | refine WB (by assumption) (by omega) ?_ | refine WC (by omega) (by omega) (fun _ _ => ?_) | refine WD (by omega) (by omega) (fun _ _ => ?_) | refine WE (by omega) (by omega) (by omega) ?_)
      | refine Wz (fun _ => ?_)
      | with_reducible refine WF ?_)
    exact fin h rfl
end
end Go.Proofs.YtkcapphlemoccaaGreatDoor
set_option linter.unusedVariables false
namespace Go.Proofs.YtkcapphlemoccaaGreatDoor
open Go Go.Aw
def awk1 : List UInt8 := [120, 32, 45, 45, 32, 97, 10, 123, 45, 32, 98, 32, 45, 125, 32, 61, 32, 123, 45, 32, 99, 32, 45, 125, 32, 49]
def awk2 : List UInt8 := [97, 10, 32, 32, 39]
theorem awk1_eq : lexF awk1 = .inr ⟨[⟨1, [120], 1, 1⟩, ⟨10, [61], 2, 9⟩, ⟨11, [49], 2, 19⟩], [⟨[45, 45, 32, 97], 1, 2, 1, 3⟩, ⟨[123, 45, 32, 98, 32, 45, 125], 1, 3, 2, 1⟩, ⟨[123, 45, 32, 99, 32, 45, 125], 2, 1, 2, 11⟩], 3, 2, true⟩ := by
  kernel_rfl
theorem awk2_eq : lexF awk2 = .inl (5, 50) := by
  kernel_rfl
end Go.Proofs.YtkcapphlemoccaaGreatDoor
set_option linter.unusedVariables false
namespace Go.Proofs.YtkcapphlemoccaaGreatDoor
open Go Go.Aw
theorem at_const {es : List (List V)} {i : Int} {e : List V} {K : List V → Prop} (h0 : 0 ≤ i) (h : es[i.toNat]? = some e) (k : K e) : 0 ≤ i ∧ ∃ e, es[i.toNat]? = some e ∧ K e := ⟨h0, e, h, k⟩
theorem join_len2 (l : List (List UInt8)) : (Lib.join l [32]).length ≤ l.length + Lib.lens l := by
  cases l with
  | nil => simp [Lib.join_nil]
  | cons a r => rw [Lib.join_length, show ([32] : List UInt8).length = 1 from rfl, List.length_cons]; omega
theorem lens_app (a b : List (List UInt8)) : Lib.lens (a ++ b) = Lib.lens a + Lib.lens b := by simp [Lib.lens]
theorem lexL_len {s : List UInt8} {p : Nat} {x y : Lx} (hv : Vd s) (hp : Cut s p) (h : x.toks.length ≤ p ∧ Lib.lens (x.toks.map Tk.text) ≤ p) (e : lexL s p x = .inr y) : y.toks.length ≤ s.length ∧ Lib.lens (y.toks.map Tk.text) ≤ s.length := by
  have hpl := hp.le
  fun_induction lexL s p x with
  | case1 p x hl h1 => cases e
  | case2 p x hl h1 h2 h3 ih =>
    obtain ⟨q, e1, e2, e3, e4⟩ := note_cut hv hp (by omega) h2
    have eq : (noteF s p).1.toNat = q := by omega
    rw [eq] at ih e
    have hb := blkF_le e3
    exact ih (e4.blk hv) ⟨by show x.toks.length ≤ _; omega, by show Lib.lens (x.toks.map Tk.text) ≤ _; omega⟩ e hb.2
  | case3 p x hl h1 h2 h3 => injection e with e; subst e; omega
  | case4 p x hl h1 h2 h3 => cases e
  | case5 p x hl h1 h2 h3 h4 ih =>
    obtain ⟨e0, q, e1, e2, e3, e4⟩ := lexm_cut hv hp (by omega)
    have eq : (lexmF s p).2.1.toNat = q := by omega
    rw [eq] at ih e
    have hb := blkF_le e3
    have hpc : (pieceF s p q).length = q - p := piece_len (by omega) e3
    have l1 : (tokX s p q (lexmF s p).1 x).toks.length = x.toks.length + 1 := by simp [tokX]
    have l2 : Lib.lens ((tokX s p q (lexmF s p).1 x).toks.map Tk.text) = Lib.lens (x.toks.map Tk.text) + (q - p) := by
      show Lib.lens ((x.toks ++ [_]).map Tk.text) = _
      rw [List.map_append, lens_app]
      simp [Lib.lens, hpc]
    exact ih (e4.blk hv) ⟨by omega, by omega⟩ e hb.2
  | case6 p x hl h1 h2 h3 h4 => injection e with e; subst e; omega
  | case7 p x hl => injection e with e; subst e; omega
theorem lexF_len {s : List UInt8} {y : Lx} (e : lexF s = .inr y) : y.toks.length ≤ s.length ∧ Lib.lens (y.toks.map Tk.text) ≤ s.length := by
  have ok := lexF_ok e
  unfold lexF at e
  split at e
  · cases e
  · split at e
    · cases e
    · split at e
      · cases e
      · exact lexL_len ok.2.1 (Cut.blk ok.2.1 (.zero s)) ⟨Nat.zero_le _, Nat.zero_le _⟩ e
theorem lexL_err0 {s : List UInt8} {p : Nat} {x : Lx} {i e : Int} (h : lexL s p x = .inl (i, e)) : e ≠ 0 := by
  fun_induction lexL s p x with
  | case1 p x hl h1 => injection h with h; injection h with h h'; omega
  | case2 p x hl h1 h2 h3 ih => exact ih h
  | case3 p x hl h1 h2 h3 => cases h
  | case4 p x hl h1 h2 h3 => injection h with h; injection h with h h'; omega
  | case5 p x hl h1 h2 h3 h4 ih => exact ih h
  | case6 p x hl h1 h2 h3 h4 => cases h
  | case7 p x hl => cases h
theorem lexF_err {s : List UInt8} {i e : Int} (h : lexF s = .inl (i, e)) : e ≠ 0 := by
  unfold lexF at h
  split at h
  · injection h with h; injection h with h h'; omega
  · split at h
    · rename_i h2
      injection h with h
      rw [h] at h2; exact h2
    · split at h
      · injection h with h; injection h with h h'; omega
      · exact lexL_err0 h
section
variable {st : St} {R : Res → St → Prop}
theorem lex_l {s : List UInt8} {i e : Int} (hs : lexF s = .inl (i, e)) (h : ∀ st', st.le st' → R (.ret (.tup [.slice 4 [] .full, .slice 5 [] .full, .int .i64 i, .int .i64 e])) st') : PC 7 [.str s] st R := by
  refine lex_c (fun i' e' he => ?_) (fun i' e' st' hle he => ?_) (fun x w1 w2 st' he => ?_)
  · rw [hs] at he; injection he with he; injection he with e1 e2; subst e1; subst e2; exact h st (St.le_refl _)
  · rw [hs] at he; injection he with he; injection he with e1 e2; subst e1; subst e2; exact h st' hle
  · rw [hs] at he; cases he
theorem lex_r {s : List UInt8} {x : Lx} (hs : lexF s = .inr x) (h : ∀ w1 w2 st', st.le st' → R (.ret (.tup [.slice 4 (encTs x.toks) w1, .slice 5 (encNs x.notes) w2, .int .i64 0, .int .i64 0])) st') : PC 7 [.str s] st R := by
  refine lex_c (fun i' e' he => ?_) (fun i' e' st' hle he => ?_) (fun x w1 w2 st' he hle => ?_)
  · rw [hs] at he; cases he
  · rw [hs] at he; cases he
  · rw [hs] at he; injection he with he; subst he; exact h w1 w2 st' hle
theorem awake_c (h : ∀ st', st.le st' → R (.ret (.bool true)) st') : PC 6 [] st R := by
  refine pcalls_of_body tys_ok [] Tryz.func6 rfl (by decide) ?_
  repeat' ((conv => whnf); first
    | refine bc_t2 rfl ?_
    | refine bc_f2 rfl ?_
    | refine len_is (n := 3) rfl ?_
    | (with_reducible first | exact Wa | exact Wb | exact Wc | refine Wd (by kernel_rfl) ?_ | refine We ?_ ?_ ?_ | refine W8 (by decide +kernel) ?_ ?_ ?_ | refine W9 ?_ ?_ ?_ | refine Wt (by first | assumption | omega) ?_ | refine Wu (by first | assumption | omega) ?_ | refine Wv (by omega) ?_ | refine Ww (by omega) ?_ | refine Wf (by decide) (fun _ => ?_) (fun _ => ?_) | refine Wg (fun _ => ?_) (fun _ => ?_) | refine Wh (fun _ => ?_) (fun _ => ?_) | refine Wi ?_ | refine Wj ?_ | refine Wk (fun _ => ?_) (fun _ => ?_) | refine Wl (fun _ => ?_) | refine Wm (by assumption) (by omega) ?_ | refine Wn (by omega) (by omega) (fun _ _ _ => ?_) | refine Wo (by omega) (by omega) ?_ | refine Wp (by omega) (by omega) (by omega) ?_ | refine Wq (by omega) (by omega) ?_ | refine Wr (by decide) (by omega) (by omega) ?_ | refine Ws (by decide) ?_ | refine Wx (fun _ => ?_) ?_ | refine Wy (fun _ => ?_) ?_ | refine Wz (fun _ => ?_) | refine WA (fun _ => ?_) | refine WB (by assumption) (by omega) ?_ | refine WC (by omega) (by omega) (fun _ _ => ?_) | refine WD (by omega) (by omega) (fun _ _ => ?_) | refine WE (by omega) (by omega) (by omega) ?_)
    | refine lex_r awk1_eq (fun w1 w2 st1 hle1 => ?_)
    | refine lex_l awk2_eq (fun st2 hle2 => ?_)
    | refine at_const (by omega) rfl ?_
    | with_reducible refine WF ?_)
  all_goals exact fin (h st2 (St.le_trans hle1 hle2)) rfl
theorem lexBack_c {s : List UInt8} (hl : s.length ≤ 1048576) (h : ∀ st', R (.ret (.bool true)) st') : PC 5 [.str s] st R := by
  refine pcalls_of_body tys_ok [] Tryz.func5 rfl (by decide) ?_
  cases e : lexF s with
  | inl q =>
    obtain ⟨i, e'⟩ := q
    have he := lexF_err e
    repeat' ((conv => whnf); first
      | refine len_is (n := 0) rfl ?_
      | (with_reducible first | exact Wa | exact Wb | exact Wc | refine Wd (by kernel_rfl) ?_ | refine We ?_ ?_ ?_ | refine W8 (by decide +kernel) ?_ ?_ ?_ | refine W9 ?_ ?_ ?_ | refine Wt (by first | assumption | omega) ?_ | refine Wu (by first | assumption | omega) ?_ | refine Wv (by omega) ?_ | refine Ww (by omega) ?_ | refine Wf (by decide) (fun _ => ?_) (fun _ => ?_) | refine Wg (fun _ => ?_) (fun _ => ?_) | refine Wh (fun _ => ?_) (fun _ => ?_) | refine Wi ?_ | refine Wj ?_ | refine Wk (fun _ => ?_) (fun _ => ?_) | refine Wl (fun _ => ?_) | refine Wm (by assumption) (by omega) ?_ | refine Wn (by omega) (by omega) (fun _ _ _ => ?_) | refine Wo (by omega) (by omega) ?_ | refine Wp (by omega) (by omega) (by omega) ?_ | refine Wq (by omega) (by omega) ?_ | refine Wr (by decide) (by omega) (by omega) ?_ | refine Ws (by decide) ?_ | refine Wx (fun _ => ?_) ?_ | refine Wy (fun _ => ?_) ?_ | refine Wz (fun _ => ?_) | refine WA (fun _ => ?_) | refine WB (by assumption) (by omega) ?_ | refine WC (by omega) (by omega) (fun _ _ => ?_) | refine WD (by omega) (by omega) (fun _ _ => ?_) | refine WE (by omega) (by omega) (by omega) ?_)
      | refine awake_c (fun st3 hle3 => ?_)
      | refine WJ (fun _ => ?_)
      | refine lex_l e (fun st1 hle1 => ?_)
      | with_reducible refine WF ?_)
    all_goals exact fin (h _) rfl
  | inr x =>
    obtain ⟨h1, h2⟩ := lexF_len e
    have hj : (Lib.join (x.toks.map Tk.text) [32]).length ≤ 2097152 := by have := join_len2 (x.toks.map Tk.text); rw [List.length_map] at this; omega
    obtain ⟨y, k1, k2, k3⟩ := lex_back e (by rw [← join_spell]; exact Nat.le_trans hj (by decide))
    rw [← join_spell] at k1
    have hs : sameL x.toks y.toks = true := sameL_iff.2 k2.symm
    have hsame := fun {st : St} {R : Res → St → Prop} {w1 w2 : Own} => same_c (st := st) (R := R) (a := x.toks) (b := y.toks) (w1 := w1) (w2 := w2)
    rw [hs] at hsame
    have hn0 : (encNs y.notes).length = 0 := by rw [k3]; rfl
    repeat' ((conv => whnf); first
      | refine len_is hn0 ?_
      | (with_reducible first | exact Wa | exact Wb | exact Wc | refine Wd (by kernel_rfl) ?_ | refine We ?_ ?_ ?_ | refine W8 (by decide +kernel) ?_ ?_ ?_ | refine W9 ?_ ?_ ?_ | refine Wt (by first | assumption | omega) ?_ | refine Wu (by first | assumption | omega) ?_ | refine Wv (by omega) ?_ | refine Ww (by omega) ?_ | refine Wf (by decide) (fun _ => ?_) (fun _ => ?_) | refine Wg (fun _ => ?_) (fun _ => ?_) | refine Wh (fun _ => ?_) (fun _ => ?_) | refine Wi ?_ | refine Wj ?_ | refine Wk (fun _ => ?_) (fun _ => ?_) | refine Wl (fun _ => ?_) | refine Wm (by assumption) (by omega) ?_ | refine Wn (by omega) (by omega) (fun _ _ _ => ?_) | refine Wo (by omega) (by omega) ?_ | refine Wp (by omega) (by omega) (by omega) ?_ | refine Wq (by omega) (by omega) ?_ | refine Wr (by decide) (by omega) (by omega) ?_ | refine Ws (by decide) ?_ | refine Wx (fun _ => ?_) ?_ | refine Wy (fun _ => ?_) ?_ | refine Wz (fun _ => ?_) | refine WA (fun _ => ?_) | refine WB (by assumption) (by omega) ?_ | refine WC (by omega) (by omega) (fun _ _ => ?_) | refine WD (by omega) (by omega) (fun _ _ => ?_) | refine WE (by omega) (by omega) (by omega) ?_)
      | refine awake_c (fun st3 hle3 => ?_)
      | refine WJ (fun _ => ?_)
      | refine lex_r e (fun w1 w2 st1 hle1 => ?_)
      | refine lex_r k1 (fun w1 w2 st1 hle1 => ?_)
      | refine spell_c (by omega) (by omega) (fun st4 hle4 => ?_)
      | refine hsame ?_
      | with_reducible refine WF ?_)
    all_goals exact fin (h _) rfl
end
end Go.Proofs.YtkcapphlemoccaaGreatDoor
set_option linter.unusedVariables false
namespace Go.Proofs.YtkcapphlemoccaaGreatDoor
open Go Go.Aw
theorem spells_len {a : List Tk} {n : Nat} (h : (a.map fun t => t.text.length + 1).sum + 1 ≤ n) : a.length ≤ n ∧ (Lib.join (a.map Tk.text) [32]).length ≤ 2 * n := by
  have e : (a.map fun t => t.text.length + 1).sum = a.length + Lib.lens (a.map Tk.text) := by
    clear h
    unfold Lib.lens
    induction a with
    | nil => rfl
    | cons x r ih => simp only [List.map_cons, List.sum_cons, List.length_cons]; rw [ih]; omega
  have := join_len2 (a.map Tk.text)
  rw [List.length_map] at this
  omega
section
variable {st : St} {R : Res → St → Prop}
theorem lexSpells_c {a b : List Tk} {w1 w2 : Own} (ha : a.length ≤ 2000000) (hj : (Lib.join (a.map Tk.text) [32]).length ≤ 100000000) (h : ∀ st', R (.ret (.bool true)) st') : PC 4 [.slice 4 (encTs a) w1, .slice 4 (encTs b) w2] st R := by
  refine pcalls_of_body tys_ok [] Tryz.func4 rfl (by decide) ?_
  cases hab : sameL a b
  all_goals have s1 := fun {st : St} {R : Res → St → Prop} {w1 w2 : Own} => same_c (st := st) (R := R) (a := a) (b := b) (w1 := w1) (w2 := w2)
  all_goals have s2 := fun {st : St} {R : Res → St → Prop} {w1 w2 : Own} => rsame_c (st := st) (R := R) (a := a) (b := b) (w1 := w1) (w2 := w2)
  all_goals rw [hab] at s1 s2
  all_goals have ht : (Lib.join (a.map Tk.text) [32] == Lib.join (a.map Tk.text) [32]) = true := beq_self_eq_true _
  repeat' ((conv => whnf); first
    | refine bc_t2 ht ?_
    | (with_reducible first | exact Wa | exact Wb | exact Wc | refine Wd (by kernel_rfl) ?_ | refine We ?_ ?_ ?_ | refine W8 (by decide +kernel) ?_ ?_ ?_ | refine W9 ?_ ?_ ?_ | refine Wt (by first | assumption | omega) ?_ | refine Wu (by first | assumption | omega) ?_ | refine Wv (by omega) ?_ | refine Ww (by omega) ?_ | refine Wf (by decide) (fun _ => ?_) (fun _ => ?_) | refine Wg (fun _ => ?_) (fun _ => ?_) | refine Wh (fun _ => ?_) (fun _ => ?_) | refine Wi ?_ | refine Wj ?_ | refine Wk (fun _ => ?_) (fun _ => ?_) | refine Wl (fun _ => ?_) | refine Wm (by assumption) (by omega) ?_ | refine Wn (by omega) (by omega) (fun _ _ _ => ?_) | refine Wo (by omega) (by omega) ?_ | refine Wp (by omega) (by omega) (by omega) ?_ | refine Wq (by omega) (by omega) ?_ | refine Wr (by decide) (by omega) (by omega) ?_ | refine Ws (by decide) ?_ | refine Wx (fun _ => ?_) ?_ | refine Wy (fun _ => ?_) ?_ | refine Wz (fun _ => ?_) | refine WA (fun _ => ?_) | refine WB (by assumption) (by omega) ?_ | refine WC (by omega) (by omega) (fun _ _ => ?_) | refine WD (by omega) (by omega) (fun _ _ => ?_) | refine WE (by omega) (by omega) (by omega) ?_)
    | refine awake_c (fun st3 hle3 => ?_)
    | refine spell_c ha hj (fun st4 hle4 => ?_)
    | refine rspell_c hj ?_
    | refine s1 ?_
    | refine s2 ?_
    | with_reducible refine WF ?_)
  all_goals exact fin (h _) rfl
end
end Go.Proofs.YtkcapphlemoccaaGreatDoor
