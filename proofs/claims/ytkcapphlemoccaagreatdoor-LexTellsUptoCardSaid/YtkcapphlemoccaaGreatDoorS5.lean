/-
  Parts of a proof: lemmas that the last text uses.
-/
import Derived.Test.YtkcapphlemoccaaGreatDoorS4
import Derived.Lib.Join
set_option linter.unusedVariables false
namespace Go.Proofs.YtkcapphlemoccaaGreatDoor
open Go Go.Aw
def NotesAt (st m : St) (nv : V) (l : List Nt) : Prop :=
  (nv = .slice 5 [] .full ∧ l = []) ∨ ∃ b cap rest, nv = .mrow 5 b l.length cap ∧ m.box b = some ((encNs l).flatten ++ rest) ∧ ((encNs l).flatten ++ rest).length = cap * 5 ∧ st.box b = none ∧ l ≠ []
def setWh (l : List Nt) (w : Int) : List Nt := match l.getLast? with
  | none => l
  | some n => l.dropLast ++ [{ n with wh := w }]
def adjX (s : List UInt8) (i : Nat) (wait : Bool) (x : Lx) : Lx := bif wait then
    ⟨x.toks, setWh x.notes (if decide (blkF s i < s.length) && decide ((atP s (blkF s i)).1 = x.ends) then 1 else 2), x.gap, x.ends, decide (blkF s i < s.length) && decide ((atP s (blkF s i)).1 = x.ends)⟩
  else x
structure RW where
  i : Nat
  x : Lx
  wait : Bool
  w1 : Own
  nv : V
  m : St
def RW.good (s : List UInt8) (st : St) (y : RW) : Prop :=
  NotesAt st y.m y.nv y.x.notes ∧ Rows2 st y.m y.w1 (y.x.toks.length * 4) .full 0 ∧ Cut s y.i ∧ 0 ≤ y.x.gap ∧ y.x.gap ≤ y.i ∧ y.x.toks.length ≤ y.i ∧ y.x.notes.length ≤ y.i ∧ (y.wait = true → y.x.notes ≠ [])
theorem flat_len (l : List Nt) : (encNs l).flatten.length = l.length * 5 := by
  induction l with
  | nil => rfl
  | cons a r ih => simp only [encNs, List.map_cons, List.flatten_cons, List.length_append, List.length_cons] at ih ⊢; rw [ih]; simp [Nt.cells, Nat.succ_mul, Nat.add_comm]
theorem noIt_two {cs : List V} (h : 2 ≤ cs.length) : noIt cs = true := by
  match cs, h with
  | [], h => simp at h
  | [v], h => simp at h
  | a :: b :: r, h => rfl
theorem set_wh {ns : List Nt} {n : Nt} {rest : List V} {w : Int} : ((encNs (ns ++ [n])).flatten ++ rest).take (ns.length * 5 + 2) ++ .int .i64 w :: ((encNs (ns ++ [n])).flatten ++ rest).drop (ns.length * 5 + 2 + 1) = (encNs (ns ++ [{ n with wh := w }])).flatten ++ rest := by
  have h1 : ∀ k : Nt, (encNs (ns ++ [k])).flatten ++ rest = (encNs ns).flatten ++ (k.cells ++ rest) := fun k => by
    rw [notes_snoc, List.flatten_append, List.append_assoc]; simp
  rw [h1, h1]
  have hl := flat_len ns
  rw [List.take_append, List.drop_append, hl, List.take_of_length_le (by omega), List.drop_of_length_le (by omega), show ns.length * 5 + 2 - ns.length * 5 = 2 by omega, show ns.length * 5 + 2 + 1 - ns.length * 5 = 3 by omega]
  simp [Nt.cells]
theorem store_wh {ns : List Nt} {n : Nt} {rest : List V} {w : Int} {K : List V → Prop} (k : K ((encNs (ns ++ [{ n with wh := w }])).flatten ++ rest)) : storeTo ((encNs (ns ++ [n])).flatten ++ rest) (ns.length * 5 + 2) [.int .i64 w] K := by
  have hl : ((encNs (ns ++ [n])).flatten ++ rest).length = ns.length * 5 + 5 + rest.length := by
    rw [List.length_append, flat_len, List.length_append, List.length_singleton, Nat.succ_mul]
  refine store_row (noIt_two (by omega)) (by omega) rfl ?_
  rw [set_wh]
  exact k
theorem wh_len {ns : List Nt} {n : Nt} {rest : List V} {w : Int} : ((encNs (ns ++ [{ n with wh := w }])).flatten ++ rest).length = ((encNs (ns ++ [n])).flatten ++ rest).length := by
  rw [List.length_append, flat_len, List.length_append, List.length_singleton, List.length_append, flat_len, List.length_append, List.length_singleton]
theorem setWh_snoc (ns : List Nt) (n : Nt) (w : Int) : setWh (ns ++ [n]) w = ns ++ [{ n with wh := w }] := by
  unfold setWh
  rw [List.getLast?_concat]
  dsimp only
  rw [List.dropLast_concat]
def nt3 (t : List UInt8) (g a b : Int) : Nt := ⟨t, g, 3, a, b⟩
theorem app_n1 {m : St} {t : List UInt8} {g a b : Int} {K : V → St → Prop} (k : ∀ bk cap rest, m.fresh bk → ((encNs [nt3 t g a b]).flatten ++ rest).length = cap * 5 → K (.mrow 5 bk 1 cap) (m.setBox bk ((encNs [nt3 t g a b]).flatten ++ rest))) :
    appendTo 5 48 [] .full [[.str t, .int .i64 g, .int .i64 3, .int .i64 a, .int .i64 b]] m K :=
  app_first (by simp) (by simp [lim]) rfl (by simp) (fun bk cap rest h1 h2 => k bk cap rest h1 h2) (fun e he => by rw [List.mem_singleton] at he; subst he; rfl)
theorem app_n2 {m : St} {t : List UInt8} {g a b : Int} {l : List Nt} {bk cap : Nat} {rest : List V} {K : V → St → Prop} (hb : m.box bk = some ((encNs l).flatten ++ rest)) (hc : ((encNs l).flatten ++ rest).length = cap * 5) (hl : l.length ≤ 1000000000)
    (k : ∀ b' cap' rest', (b' = bk ∨ m.fresh b') → ((encNs (l ++ [nt3 t g a b])).flatten ++ rest').length = cap' * 5 → K (.mrow 5 b' (l.length + 1) cap') (m.setBox b' ((encNs (l ++ [nt3 t g a b])).flatten ++ rest'))) :
    appendRow 5 48 bk l.length cap [[.str t, .int .i64 g, .int .i64 3, .int .i64 a, .int .i64 b]] m K := by
  have hf := flat_len l
  have e : ∀ r', ((encNs l).flatten ++ rest).take (l.length * 5) ++ [V.str t, .int .i64 g, .int .i64 3, .int .i64 a, .int .i64 b].map V.wk0 ++ r' = (encNs (l ++ [nt3 t g a b])).flatten ++ r' := fun r' => by
    rw [List.take_append_of_le_length (by omega), List.take_of_length_le (by omega), notes_snoc, List.flatten_append]
    simp [nt3, Nt.cells, V.wk0]
  refine app_next hb hc (by omega) (by unfold lim; omega) rfl (by rw [List.length_append]; omega) rfl (fun b' cap' r' h1 h2 => ?_)
  rw [e] at h2 ⊢
  exact k b' cap' r' h1 h2
theorem adj_beh {s : List UInt8} {p q : Nat} {x : Lx} (h : behF s p q x = true) : adjX s q true ⟨x.toks, x.notes ++ [nt3 (pieceF s p q) x.gap (atP s p).1 (atP s p).2], x.gap, (atP s q).1, true⟩ = noteX s p q x := by
  have hto : (atP s q).1 = (atP s p).1 := by
    unfold behF at h
    simp only [Bool.and_eq_true, decide_eq_true_eq] at h
    exact h.2
  unfold adjX noteX
  dsimp only [cond_true]
  rw [setWh_snoc, h, if_pos rfl]
  unfold inlF
  rw [hto]
  rfl
theorem adj_no {s : List UInt8} {p q : Nat} {x : Lx} (h : behF s p q x = false) : adjX s q false ⟨x.toks, x.notes ++ [nt3 (pieceF s p q) x.gap (atP s p).1 (atP s p).2], x.gap, (atP s q).1, false⟩ = noteX s p q x := by
  unfold adjX noteX
  dsimp only [cond_false]
  rw [h]
  rfl
theorem le_none {st m : St} {b bk : Nat} (h : st.le m) (h0 : st.box bk = none) (hb : b = bk ∨ m.fresh b) : st.box b = none := by
  rcases hb with rfl | hb
  · exact h0
  · cases e : st.box b with
    | none => rfl
    | some c => have := h.1 _ _ e; rw [hb.1] at this; cases this
section
variable {st : St} {R : Res → St → Prop}
attribute [local irreducible] Go.Aw.appendTo Go.Aw.appendRow Go.Aw.storeTo
theorem rof_at {s : List UInt8} {k : Nat} (hl : s.length ≤ 100000000) (hk : k ≤ s.length) (h : R (.ret (.tup [.int .i64 (atP s k).1, .int .i64 (atP s k).2, .int .i64 0])) st) : PC 26 [.str s, .int .i64 k] st R := rof_c hl hk h
set_option maxHeartbeats 8000000 in
theorem rlex0_c {s : List UInt8} (hl : s.length < 4611686018427387904) (h1 : ∀ i e st', st.le st' → lexF s = .inl (i, e) → R (.ret (.agg [.slice 4 [] .full, .slice 5 [] .full, .int .i64 i, .int .i64 e])) st')
    (h2 : ∀ x w1 nv st', st.le st' → lexF s = .inr x → NotesAt st st' nv x.notes → R (.ret (.agg [.slice 4 (encTs x.toks) w1, nv, .int .i64 0, .int .i64 0])) st') : PC 8 [.str s] st R := by
  refine pcalls_of_aw tys_ok [] Tryz.func8 rfl (by decide) rfl ?_
  by_cases hk : (runesF s).2 = 0
  · obtain ⟨hs, hck, e⟩ := runes_ok hk
    have hv := chk_vd hck
    refine AW_seq2 (aw_of tys_ok ?_)
    repeat' ((conv => whnf); first
      | (with_reducible first | exact Wa | exact Wb | exact Wc | refine Wd (by kernel_rfl) ?_ | refine We ?_ ?_ ?_ | refine W8 (by decide +kernel) ?_ ?_ ?_ | refine W9 ?_ ?_ ?_ | refine Wt (by first | assumption | omega) ?_ | refine Wu (by first | assumption | omega) ?_ | refine Wv (by omega) ?_ | refine Ww (by omega) ?_ | refine Wf (by decide) (fun _ => ?_) (fun _ => ?_) | refine Wg (fun _ => ?_) (fun _ => ?_) | refine Wh (fun _ => ?_) (fun _ => ?_) | refine Wi ?_ | refine Wj ?_ | refine Wk (fun _ => ?_) (fun _ => ?_) | refine Wl (fun _ => ?_) | refine Wm (by assumption) (by omega) ?_ | refine Wn (by omega) (by omega) (fun _ _ _ => ?_) | refine Wo (by omega) (by omega) ?_ | refine Wp (by omega) (by omega) (by omega) ?_ | refine Wq (by omega) (by omega) ?_ | refine Wr (by decide) (by omega) (by omega) ?_ | refine Ws (by decide) ?_ | refine Wx (fun _ => ?_) ?_ | refine Wy (fun _ => ?_) ?_ | refine Wz (fun _ => ?_) | refine WA (fun _ => ?_) | refine WB (by assumption) (by omega) ?_ | refine WC (by omega) (by omega) (fun _ _ => ?_) | refine WD (by omega) (by omega) (fun _ _ => ?_) | refine WE (by omega) (by omega) (by omega) ?_)
      | with_reducible refine WF ?_)
    refine AW_seq2 (aw_of tys_ok ?_)
    repeat' ((conv => whnf); first
      | (with_reducible first | exact Wa | exact Wb | exact Wc | refine Wd (by kernel_rfl) ?_ | refine We ?_ ?_ ?_ | refine W8 (by decide +kernel) ?_ ?_ ?_ | refine W9 ?_ ?_ ?_ | refine Wt (by first | assumption | omega) ?_ | refine Wu (by first | assumption | omega) ?_ | refine Wv (by omega) ?_ | refine Ww (by omega) ?_ | refine Wf (by decide) (fun _ => ?_) (fun _ => ?_) | refine Wg (fun _ => ?_) (fun _ => ?_) | refine Wh (fun _ => ?_) (fun _ => ?_) | refine Wi ?_ | refine Wj ?_ | refine Wk (fun _ => ?_) (fun _ => ?_) | refine Wl (fun _ => ?_) | refine Wm (by assumption) (by omega) ?_ | refine Wn (by omega) (by omega) (fun _ _ _ => ?_) | refine Wo (by omega) (by omega) ?_ | refine Wp (by omega) (by omega) (by omega) ?_ | refine Wq (by omega) (by omega) ?_ | refine Wr (by decide) (by omega) (by omega) ?_ | refine Ws (by decide) ?_ | refine Wx (fun _ => ?_) ?_ | refine Wy (fun _ => ?_) ?_ | refine Wz (fun _ => ?_) | refine WA (fun _ => ?_) | refine WB (by assumption) (by omega) ?_ | refine WC (by omega) (by omega) (fun _ _ => ?_) | refine WD (by omega) (by omega) (fun _ _ => ?_) | refine WE (by omega) (by omega) (by omega) ?_)
      | refine rrunes_c hl ?_
      | with_reducible refine WF ?_)
    refine AW_seq2 (aw_of tys_ok ?_)
    repeat' ((conv => whnf); first
      | (with_reducible first | exact Wa | exact Wb | exact Wc | refine Wd (by kernel_rfl) ?_ | refine We ?_ ?_ ?_ | refine W8 (by decide +kernel) ?_ ?_ ?_ | refine W9 ?_ ?_ ?_ | refine Wt (by first | assumption | omega) ?_ | refine Wu (by first | assumption | omega) ?_ | refine Wv (by omega) ?_ | refine Ww (by omega) ?_ | refine Wf (by decide) (fun _ => ?_) (fun _ => ?_) | refine Wg (fun _ => ?_) (fun _ => ?_) | refine Wh (fun _ => ?_) (fun _ => ?_) | refine Wi ?_ | refine Wj ?_ | refine Wk (fun _ => ?_) (fun _ => ?_) | refine Wl (fun _ => ?_) | refine Wm (by assumption) (by omega) ?_ | refine Wn (by omega) (by omega) (fun _ _ _ => ?_) | refine Wo (by omega) (by omega) ?_ | refine Wp (by omega) (by omega) (by omega) ?_ | refine Wq (by omega) (by omega) ?_ | refine Wr (by decide) (by omega) (by omega) ?_ | refine Ws (by decide) ?_ | refine Wx (fun _ => ?_) ?_ | refine Wy (fun _ => ?_) ?_ | refine Wz (fun _ => ?_) | refine WA (fun _ => ?_) | refine WB (by assumption) (by omega) ?_ | refine WC (by omega) (by omega) (fun _ _ => ?_) | refine WD (by omega) (by omega) (fun _ _ => ?_) | refine WE (by omega) (by omega) (by omega) ?_)
      | with_reducible refine WF ?_)
    refine AW_seq2 (aw_of tys_ok ?_)
    repeat' ((conv => whnf); first
      | (with_reducible first | exact Wa | exact Wb | exact Wc | refine Wd (by kernel_rfl) ?_ | refine We ?_ ?_ ?_ | refine W8 (by decide +kernel) ?_ ?_ ?_ | refine W9 ?_ ?_ ?_ | refine Wt (by first | assumption | omega) ?_ | refine Wu (by first | assumption | omega) ?_ | refine Wv (by omega) ?_ | refine Ww (by omega) ?_ | refine Wf (by decide) (fun _ => ?_) (fun _ => ?_) | refine Wg (fun _ => ?_) (fun _ => ?_) | refine Wh (fun _ => ?_) (fun _ => ?_) | refine Wi ?_ | refine Wj ?_ | refine Wk (fun _ => ?_) (fun _ => ?_) | refine Wl (fun _ => ?_) | refine Wm (by assumption) (by omega) ?_ | refine Wn (by omega) (by omega) (fun _ _ _ => ?_) | refine Wo (by omega) (by omega) ?_ | refine Wp (by omega) (by omega) (by omega) ?_ | refine Wq (by omega) (by omega) ?_ | refine Wr (by decide) (by omega) (by omega) ?_ | refine Ws (by decide) ?_ | refine Wx (fun _ => ?_) ?_ | refine Wy (fun _ => ?_) ?_ | refine Wz (fun _ => ?_) | refine WA (fun _ => ?_) | refine WB (by assumption) (by omega) ?_ | refine WC (by omega) (by omega) (fun _ _ => ?_) | refine WD (by omega) (by omega) (fun _ _ => ?_) | refine WE (by omega) (by omega) (by omega) ?_)
      | with_reducible refine WF ?_)
    refine AW_seq2 (aw_of tys_ok ?_)
    repeat' ((conv => whnf); first
      | (with_reducible first | exact Wa | exact Wb | exact Wc | refine Wd (by kernel_rfl) ?_ | refine We ?_ ?_ ?_ | refine W8 (by decide +kernel) ?_ ?_ ?_ | refine W9 ?_ ?_ ?_ | refine Wt (by first | assumption | omega) ?_ | refine Wu (by first | assumption | omega) ?_ | refine Wv (by omega) ?_ | refine Ww (by omega) ?_ | refine Wf (by decide) (fun _ => ?_) (fun _ => ?_) | refine Wg (fun _ => ?_) (fun _ => ?_) | refine Wh (fun _ => ?_) (fun _ => ?_) | refine Wi ?_ | refine Wj ?_ | refine Wk (fun _ => ?_) (fun _ => ?_) | refine Wl (fun _ => ?_) | refine Wm (by assumption) (by omega) ?_ | refine Wn (by omega) (by omega) (fun _ _ _ => ?_) | refine Wo (by omega) (by omega) ?_ | refine Wp (by omega) (by omega) (by omega) ?_ | refine Wq (by omega) (by omega) ?_ | refine Wr (by decide) (by omega) (by omega) ?_ | refine Ws (by decide) ?_ | refine Wx (fun _ => ?_) ?_ | refine Wy (fun _ => ?_) ?_ | refine Wz (fun _ => ?_) | refine WA (fun _ => ?_) | refine WB (by assumption) (by omega) ?_ | refine WC (by omega) (by omega) (fun _ _ => ?_) | refine WD (by omega) (by omega) (fun _ _ => ?_) | refine WE (by omega) (by omega) (by omega) ?_)
      | with_reducible refine WF ?_)
    refine AW_seq2 (aw_of tys_ok ?_)
    repeat' ((conv => whnf); first
      | (with_reducible first | exact Wa | exact Wb | exact Wc | refine Wd (by kernel_rfl) ?_ | refine We ?_ ?_ ?_ | refine W8 (by decide +kernel) ?_ ?_ ?_ | refine W9 ?_ ?_ ?_ | refine Wt (by first | assumption | omega) ?_ | refine Wu (by first | assumption | omega) ?_ | refine Wv (by omega) ?_ | refine Ww (by omega) ?_ | refine Wf (by decide) (fun _ => ?_) (fun _ => ?_) | refine Wg (fun _ => ?_) (fun _ => ?_) | refine Wh (fun _ => ?_) (fun _ => ?_) | refine Wi ?_ | refine Wj ?_ | refine Wk (fun _ => ?_) (fun _ => ?_) | refine Wl (fun _ => ?_) | refine Wm (by assumption) (by omega) ?_ | refine Wn (by omega) (by omega) (fun _ _ _ => ?_) | refine Wo (by omega) (by omega) ?_ | refine Wp (by omega) (by omega) (by omega) ?_ | refine Wq (by omega) (by omega) ?_ | refine Wr (by decide) (by omega) (by omega) ?_ | refine Ws (by decide) ?_ | refine Wx (fun _ => ?_) ?_ | refine Wy (fun _ => ?_) ?_ | refine Wz (fun _ => ?_) | refine WA (fun _ => ?_) | refine WB (by assumption) (by omega) ?_ | refine WC (by omega) (by omega) (fun _ _ => ?_) | refine WD (by omega) (by omega) (fun _ _ => ?_) | refine WE (by omega) (by omega) (by omega) ?_)
      | with_reducible refine WF ?_)
    refine AW_seq2 (aw_of tys_ok ?_)
    repeat' ((conv => whnf); first
      | (with_reducible first | exact Wa | exact Wb | exact Wc | refine Wd (by kernel_rfl) ?_ | refine We ?_ ?_ ?_ | refine W8 (by decide +kernel) ?_ ?_ ?_ | refine W9 ?_ ?_ ?_ | refine Wt (by first | assumption | omega) ?_ | refine Wu (by first | assumption | omega) ?_ | refine Wv (by omega) ?_ | refine Ww (by omega) ?_ | refine Wf (by decide) (fun _ => ?_) (fun _ => ?_) | refine Wg (fun _ => ?_) (fun _ => ?_) | refine Wh (fun _ => ?_) (fun _ => ?_) | refine Wi ?_ | refine Wj ?_ | refine Wk (fun _ => ?_) (fun _ => ?_) | refine Wl (fun _ => ?_) | refine Wm (by assumption) (by omega) ?_ | refine Wn (by omega) (by omega) (fun _ _ _ => ?_) | refine Wo (by omega) (by omega) ?_ | refine Wp (by omega) (by omega) (by omega) ?_ | refine Wq (by omega) (by omega) ?_ | refine Wr (by decide) (by omega) (by omega) ?_ | refine Ws (by decide) ?_ | refine Wx (fun _ => ?_) ?_ | refine Wy (fun _ => ?_) ?_ | refine Wz (fun _ => ?_) | refine WA (fun _ => ?_) | refine WB (by assumption) (by omega) ?_ | refine WC (by omega) (by omega) (fun _ _ => ?_) | refine WD (by omega) (by omega) (fun _ _ => ?_) | refine WE (by omega) (by omega) (by omega) ?_)
      | with_reducible refine WF ?_)
    refine AW_block (AW_loopx (α := RW) (fun y => [(6, .int .i64 y.x.gap), (7, .int .i64 (y.i : Int)), (8, .int .i64 y.x.ends), (9, .bool y.x.j), (10, .bool y.wait)]) (fun y => [(1, [.slice 4 (encTs y.x.toks) y.w1, y.nv, .int .i64 0, .int .i64 0])]) [0, 2, 5] [0] (fun y => y.m)
      (fun y => y.good s st ∧ lexL s (blkF s 0) lx0 = lexL s (blkF s y.i) (adjX s y.i y.wait y.x)) (fun y => s.length - y.i) ⟨0, lx0, false, .full, .slice 5 [] .full, st⟩ ⟨⟨.inl ⟨rfl, rfl⟩, ⟨trivial, trivial, trivial, trivial, trivial, St.le_refl _⟩, .zero s, Int.le_refl _, Int.le_refl _, Nat.zero_le _, Nat.zero_le _, fun h => by cases h⟩, rfl⟩ (by refine ⟨rfl, ?_, ?_, rfl⟩ <;> repeat' (first | exact trivial | exact rfl | refine And.intro ?_ ?_)) (St.le_refl _) ?_)
    rintro ⟨i, x, wait, w1, nv, m⟩ ⟨⟨g1, g2, g3, g4, g5, g6, g7, g8⟩, g9⟩
    dsimp only at g1 g2 g3 g4 g5 g6 g7 g8 g9 ⊢
    have hi := g3.le
    have hb := blkF_le hi
    have hrb : ∀ {R : Res → St → Prop}, R (.ret (.int .i64 (blkF s i : Nat))) m → PC 25 [.str s, .int .i64 i] m R := fun {R} => rblanks_c (st := m) (R := R) hl hi
    have c4 := g3.blk hv
    refine AW_block ?_
    refine AW_seq2 (aw_of tys_ok ?_)
    repeat' ((conv => whnf); first
      | (with_reducible first | exact Wa | exact Wb | exact Wc | refine Wd (by kernel_rfl) ?_ | refine We ?_ ?_ ?_ | refine W8 (by decide +kernel) ?_ ?_ ?_ | refine W9 ?_ ?_ ?_ | refine Wt (by first | assumption | omega) ?_ | refine Wu (by first | assumption | omega) ?_ | refine Wv (by omega) ?_ | refine Ww (by omega) ?_ | refine Wf (by decide) (fun _ => ?_) (fun _ => ?_) | refine Wg (fun _ => ?_) (fun _ => ?_) | refine Wh (fun _ => ?_) (fun _ => ?_) | refine Wi ?_ | refine Wj ?_ | refine Wk (fun _ => ?_) (fun _ => ?_) | refine Wl (fun _ => ?_) | refine Wm (by assumption) (by omega) ?_ | refine Wn (by omega) (by omega) (fun _ _ _ => ?_) | refine Wo (by omega) (by omega) ?_ | refine Wp (by omega) (by omega) (by omega) ?_ | refine Wq (by omega) (by omega) ?_ | refine Wr (by decide) (by omega) (by omega) ?_ | refine Ws (by decide) ?_ | refine Wx (fun _ => ?_) ?_ | refine Wy (fun _ => ?_) ?_ | refine Wz (fun _ => ?_) | refine WA (fun _ => ?_) | refine WB (by assumption) (by omega) ?_ | refine WC (by omega) (by omega) (fun _ _ => ?_) | refine WD (by omega) (by omega) (fun _ _ => ?_) | refine WE (by omega) (by omega) (by omega) ?_)
      | refine hrb ?_
      | with_reducible refine WF ?_)
    refine AW_seq2 (aw_of tys_ok ?_)
    repeat' ((conv => whnf); first
      | (with_reducible first | exact Wa | exact Wb | exact Wc | refine Wd (by kernel_rfl) ?_ | refine We ?_ ?_ ?_ | refine W8 (by decide +kernel) ?_ ?_ ?_ | refine W9 ?_ ?_ ?_ | refine Wt (by first | assumption | omega) ?_ | refine Wu (by first | assumption | omega) ?_ | refine Wv (by omega) ?_ | refine Ww (by omega) ?_ | refine Wf (by decide) (fun _ => ?_) (fun _ => ?_) | refine Wg (fun _ => ?_) (fun _ => ?_) | refine Wh (fun _ => ?_) (fun _ => ?_) | refine Wi ?_ | refine Wj ?_ | refine Wk (fun _ => ?_) (fun _ => ?_) | refine Wl (fun _ => ?_) | refine Wm (by assumption) (by omega) ?_ | refine Wn (by omega) (by omega) (fun _ _ _ => ?_) | refine Wo (by omega) (by omega) ?_ | refine Wp (by omega) (by omega) (by omega) ?_ | refine Wq (by omega) (by omega) ?_ | refine Wr (by decide) (by omega) (by omega) ?_ | refine Ws (by decide) ?_ | refine Wx (fun _ => ?_) ?_ | refine Wy (fun _ => ?_) ?_ | refine Wz (fun _ => ?_) | refine WA (fun _ => ?_) | refine WB (by assumption) (by omega) ?_ | refine WC (by omega) (by omega) (fun _ _ => ?_) | refine WD (by omega) (by omega) (fun _ _ => ?_) | refine WE (by omega) (by omega) (by omega) ?_)
      | refine rof_at (k := blkF s i) (by omega) hb.2 ?_
      | with_reducible refine WF ?_)
    refine AW_joinx (α := RW) (fun y => [(6, .int .i64 y.x.gap), (7, .int .i64 (blkF s i : Nat)), (8, .int .i64 y.x.ends), (9, .bool y.x.j), (10, .bool false), (11, .int .i64 (atP s (blkF s i)).1), (12, .int .i64 (atP s (blkF s i)).2)]) (fun y => [(1, [.slice 4 (encTs y.x.toks) y.w1, y.nv, .int .i64 0, .int .i64 0])]) [0, 2, 5] [0] (fun y => y.m)
      (fun y => y.good s st ∧ y.i = i ∧ lexL s (blkF s 0) lx0 = lexL s (blkF s i) y.x) ?_ ?_
    · cases wait
      · refine aw_of tys_ok ?_
        repeat' ((conv => whnf); first
          | (with_reducible first | exact Wa | exact Wb | exact Wc | refine Wd (by kernel_rfl) ?_ | refine We ?_ ?_ ?_ | refine W8 (by decide +kernel) ?_ ?_ ?_ | refine W9 ?_ ?_ ?_ | refine Wt (by first | assumption | omega) ?_ | refine Wu (by first | assumption | omega) ?_ | refine Wv (by omega) ?_ | refine Ww (by omega) ?_ | refine Wf (by decide) (fun _ => ?_) (fun _ => ?_) | refine Wg (fun _ => ?_) (fun _ => ?_) | refine Wh (fun _ => ?_) (fun _ => ?_) | refine Wi ?_ | refine Wj ?_ | refine Wk (fun _ => ?_) (fun _ => ?_) | refine Wl (fun _ => ?_) | refine Wm (by assumption) (by omega) ?_ | refine Wn (by omega) (by omega) (fun _ _ _ => ?_) | refine Wo (by omega) (by omega) ?_ | refine Wp (by omega) (by omega) (by omega) ?_ | refine Wq (by omega) (by omega) ?_ | refine Wr (by decide) (by omega) (by omega) ?_ | refine Ws (by decide) ?_ | refine Wx (fun _ => ?_) ?_ | refine Wy (fun _ => ?_) ?_ | refine Wz (fun _ => ?_) | refine WA (fun _ => ?_) | refine WB (by assumption) (by omega) ?_ | refine WC (by omega) (by omega) (fun _ _ => ?_) | refine WD (by omega) (by omega) (fun _ _ => ?_) | refine WE (by omega) (by omega) (by omega) ?_)
          | with_reducible refine WF ?_)
        all_goals conv => whnf
        exact ⟨⟨i, x, false, w1, nv, m⟩, ⟨⟨g1, g2, g3, g4, g5, g6, g7, g8⟩, rfl, g9⟩, (by refine ⟨rfl, ?_, ?_, rfl⟩ <;> repeat' (first | exact trivial | exact rfl | refine And.intro ?_ ?_)), St.le_refl _⟩
      · obtain ⟨toks, notes, gap, ends, j⟩ := x
        dsimp only at g1 g2 g3 g4 g5 g6 g7 g8 g9 ⊢
        rcases g1 with ⟨_, h0⟩ | ⟨b, cap, rest, hnv, hmb, hrl, hb0, hne⟩
        · exact absurd h0 (g8 rfl)
        obtain ⟨ns, n, rfl⟩ : ∃ ns n, notes = ns ++ [n] := ⟨_, _, (List.dropLast_concat_getLast hne).symm⟩
        have hlen : (ns ++ [n]).length = ns.length + 1 := by simp
        rw [hlen] at hnv g7
        subst hnv
        have e9 : adjX s i true ⟨toks, ns ++ [n], gap, ends, j⟩ = ⟨toks, ns ++ [{ n with wh := if decide (blkF s i < s.length) && decide ((atP s (blkF s i)).1 = ends) then 1 else 2 }], gap, ends, decide (blkF s i < s.length) && decide ((atP s (blkF s i)).1 = ends)⟩ := by
          unfold adjX
          dsimp only [cond_true]
          rw [setWh_snoc]
        rw [e9] at g9
        have hcase : (¬ blkF s i < s.length ∨ (blkF s i < s.length ∧ ¬ (atP s (blkF s i)).1 = ends)) ∨ (blkF s i < s.length ∧ (atP s (blkF s i)).1 = ends) := by
          by_cases c1 : blkF s i < s.length
          · by_cases c2 : (atP s (blkF s i)).1 = ends
            · exact .inr ⟨c1, c2⟩
            · exact .inl (.inr ⟨c1, c2⟩)
          · exact .inl (.inl c1)
        rcases hcase with hc | ⟨k1, k2⟩
        · have ei : (decide (blkF s i < s.length) && decide ((atP s (blkF s i)).1 = ends)) = false := by rcases hc with k | ⟨k1, k2⟩ <;> simp [*]
          rw [ei] at g9
          rcases hc with k1 | ⟨k1, k2⟩
          all_goals refine aw_of tys_ok ?_
          repeat' ((conv => whnf); first
            | (with_reducible first | exact Wa | exact Wb | exact Wc | refine Wd (by kernel_rfl) ?_ | refine We ?_ ?_ ?_ | refine W8 (by decide +kernel) ?_ ?_ ?_ | refine W9 ?_ ?_ ?_ | refine Wt (by first | assumption | omega) ?_ | refine Wu (by first | assumption | omega) ?_ | refine Wv (by omega) ?_ | refine Ww (by omega) ?_ | refine Wf (by decide) (fun _ => ?_) (fun _ => ?_) | refine Wg (fun _ => ?_) (fun _ => ?_) | refine Wh (fun _ => ?_) (fun _ => ?_) | refine Wi ?_ | refine Wj ?_ | refine Wk (fun _ => ?_) (fun _ => ?_) | refine Wl (fun _ => ?_) | refine Wm (by assumption) (by omega) ?_ | refine Wn (by omega) (by omega) (fun _ _ _ => ?_) | refine Wo (by omega) (by omega) ?_ | refine Wp (by omega) (by omega) (by omega) ?_ | refine Wq (by omega) (by omega) ?_ | refine Wr (by decide) (by omega) (by omega) ?_ | refine Ws (by decide) ?_ | refine Wx (fun _ => ?_) ?_ | refine Wy (fun _ => ?_) ?_ | refine Wz (fun _ => ?_) | refine WA (fun _ => ?_) | refine WB (by assumption) (by omega) ?_ | refine WC (by omega) (by omega) (fun _ _ => ?_) | refine WD (by omega) (by omega) (fun _ _ => ?_) | refine WE (by omega) (by omega) (by omega) ?_)
            | refine (fun (_ : ns.length + 1 < lim) => ?_)
            | refine at_mrow (j := ns.length) (by omega) (by omega) ?_
            | refine on_box hmb ?_
            | refine store_wh ?_
            | refine WJ (fun _ => ?_)
            | with_reducible refine WF ?_)
          all_goals conv => whnf
          all_goals exact ⟨⟨i, ⟨toks, ns ++ [{ n with wh := 2 }], gap, ends, false⟩, false, w1, .mrow 5 b (ns.length + 1) cap, _⟩, ⟨⟨.inr ⟨b, cap, rest, by simp only [List.length_append, List.length_singleton], St.box_at _ _ _, wh_len.trans hrl, hb0, by simp⟩, g2.set hb0 _, g3, g4, g5, g6, by simp only [List.length_append, List.length_singleton]; exact g7, fun h => by cases h⟩, rfl, g9⟩, (by refine ⟨rfl, ?_, ?_, rfl⟩ <;> repeat' (first | exact trivial | exact rfl | refine And.intro ?_ ?_)), St.le_refl _⟩
        · have ei : (decide (blkF s i < s.length) && decide ((atP s (blkF s i)).1 = ends)) = true := by simp [*]
          rw [ei] at g9
          have hcell2 : ∀ cs, (m.setBox b cs).box b = some cs := fun cs => St.box_at _ _ _
          refine aw_of tys_ok ?_
          repeat' ((conv => whnf); first
            | (with_reducible first | exact Wa | exact Wb | exact Wc | refine Wd (by kernel_rfl) ?_ | refine We ?_ ?_ ?_ | refine W8 (by decide +kernel) ?_ ?_ ?_ | refine W9 ?_ ?_ ?_ | refine Wt (by first | assumption | omega) ?_ | refine Wu (by first | assumption | omega) ?_ | refine Wv (by omega) ?_ | refine Ww (by omega) ?_ | refine Wf (by decide) (fun _ => ?_) (fun _ => ?_) | refine Wg (fun _ => ?_) (fun _ => ?_) | refine Wh (fun _ => ?_) (fun _ => ?_) | refine Wi ?_ | refine Wj ?_ | refine Wk (fun _ => ?_) (fun _ => ?_) | refine Wl (fun _ => ?_) | refine Wm (by assumption) (by omega) ?_ | refine Wn (by omega) (by omega) (fun _ _ _ => ?_) | refine Wo (by omega) (by omega) ?_ | refine Wp (by omega) (by omega) (by omega) ?_ | refine Wq (by omega) (by omega) ?_ | refine Wr (by decide) (by omega) (by omega) ?_ | refine Ws (by decide) ?_ | refine Wx (fun _ => ?_) ?_ | refine Wy (fun _ => ?_) ?_ | refine Wz (fun _ => ?_) | refine WA (fun _ => ?_) | refine WB (by assumption) (by omega) ?_ | refine WC (by omega) (by omega) (fun _ _ => ?_) | refine WD (by omega) (by omega) (fun _ _ => ?_) | refine WE (by omega) (by omega) (by omega) ?_)
            | refine (fun (_ : ns.length + 1 < lim) => ?_)
            | refine at_mrow (j := ns.length) (by omega) (by omega) ?_
            | refine on_box hmb ?_
            | refine on_box (hcell2 _) ?_
            | refine store_wh ?_
            | refine store_wh (n := { n with wh := 2 }) ?_
            | refine WJ (fun _ => ?_)
            | with_reducible refine WF ?_)
          all_goals conv => whnf
          exact ⟨⟨i, ⟨toks, ns ++ [{ n with wh := 1 }], gap, ends, true⟩, false, w1, .mrow 5 b (ns.length + 1) cap, _⟩, ⟨⟨.inr ⟨b, cap, rest, by simp only [List.length_append, List.length_singleton], St.box_at _ _ _, wh_len.trans hrl, hb0, by simp⟩, (g2.set hb0 _).set hb0 _, g3, g4, g5, g6, by simp only [List.length_append, List.length_singleton]; exact g7, fun h => by cases h⟩, rfl, g9⟩, (by refine ⟨rfl, ?_, ?_, rfl⟩ <;> repeat' (first | exact trivial | exact rfl | refine And.intro ?_ ?_)), St.le_refl _⟩
    · clear hrb g9 g8 g7 g6 g5 g4 g2 g1
      rintro ⟨i', x, wait, w1, nv, m⟩ ⟨⟨g1, g2, g3, g4, g5, g6, g7, g8⟩, hii, g9⟩
      dsimp only at g1 g2 g3 g4 g5 g6 g7 g8 g9 hii ⊢
      subst hii
      by_cases hpl : blkF s i' < s.length
      · have hns := fun {R : Res → St → Prop} => rnote_c (st := m) (R := R) (s := s) (pos := blkF s i') (by omega) hpl
        by_cases n2 : (noteF s (blkF s i')).2 = 0
        · rw [n2] at hns
          by_cases n1 : 0 < (noteF s (blkF s i')).1
          · obtain ⟨q, e1, e2, e3, e4⟩ := note_cut hv c4 n2 n1
            rw [e1] at hns
            rw [lexL_note hpl n2 e1 e2] at g9
            have hof := fun {st : St} {R : Res → St → Prop} => rof_at (st := st) (R := R) (s := s) (k := q) (by omega) e3
            cases hbe : behF s (blkF s i') q x with
            | true =>
              have hx9 := g9
              rw [← adj_beh hbe] at hx9
              have hbb := hbe
              unfold behF at hbb
              simp only [Bool.and_eq_true, decide_eq_true_eq] at hbb
              obtain ⟨⟨b1, b2⟩, b3⟩ := hbb
              rw [b1]
              rcases g1 with ⟨hnv, hn0⟩ | ⟨b, cap, rest, hnv, hmb, hrl, hb0, hne⟩
              · subst hnv
                rw [hn0] at hx9 g7
                refine aw_of tys_ok ?_
                repeat' ((conv => whnf); first
                  | (with_reducible first | exact Wa | exact Wb | exact Wc | refine Wd (by kernel_rfl) ?_ | refine We ?_ ?_ ?_ | refine W8 (by decide +kernel) ?_ ?_ ?_ | refine W9 ?_ ?_ ?_ | refine Wt (by first | assumption | omega) ?_ | refine Wu (by first | assumption | omega) ?_ | refine Wv (by omega) ?_ | refine Ww (by omega) ?_ | refine Wf (by decide) (fun _ => ?_) (fun _ => ?_) | refine Wg (fun _ => ?_) (fun _ => ?_) | refine Wh (fun _ => ?_) (fun _ => ?_) | refine Wi ?_ | refine Wj ?_ | refine Wk (fun _ => ?_) (fun _ => ?_) | refine Wl (fun _ => ?_) | refine Wm (by assumption) (by omega) ?_ | refine Wn (by omega) (by omega) (fun _ _ _ => ?_) | refine Wo (by omega) (by omega) ?_ | refine Wp (by omega) (by omega) (by omega) ?_ | refine Wq (by omega) (by omega) ?_ | refine Wr (by decide) (by omega) (by omega) ?_ | refine Ws (by decide) ?_ | refine Wx (fun _ => ?_) ?_ | refine Wy (fun _ => ?_) ?_ | refine Wz (fun _ => ?_) | refine WA (fun _ => ?_) | refine WB (by assumption) (by omega) ?_ | refine WC (by omega) (by omega) (fun _ _ => ?_) | refine WD (by omega) (by omega) (fun _ _ => ?_) | refine WE (by omega) (by omega) (by omega) ?_)
                  | refine hns ?_
                  | refine hof ?_
                  | refine WJ (fun _ => ?_)
                  | refine piece_k (by omega) e3 ?_
                  | refine app_n1 (fun bk cap rest hfr hln => ?_)
                  | unfold Go.Aw.storeTo
                  | with_reducible refine WF ?_)
                all_goals conv => whnf
                all_goals exact ⟨⟨q, ⟨x.toks, [nt3 (pieceF s (blkF s i') q) x.gap (atP s (blkF s i')).1 (atP s (blkF s i')).2], x.gap, (atP s q).1, true⟩, true, w1, _, _⟩, ⟨⟨.inr ⟨bk, cap, rest, rfl, St.box_at _ _ _, hln, le_none g2.le (b := bk) (bk := bk) (by cases ez : st.box bk with | none => rfl | some c => have := g2.le.1 _ _ ez; rw [hfr.1] at this; cases this) (.inl rfl), by simp⟩, g2.set (by cases ez : st.box bk with | none => rfl | some c => have := g2.le.1 _ _ ez; rw [hfr.1] at this; cases this) _, e4, g4, by simp only []; omega, by simp only []; omega, by simp only [List.length_singleton]; omega, fun _ => by simp⟩, hx9⟩, by simp only []; omega, (by refine ⟨rfl, ?_, ?_, rfl⟩ <;> repeat' (first | exact trivial | exact rfl | refine And.intro ?_ ?_)), St.le_refl _⟩
              · subst hnv
                refine aw_of tys_ok ?_
                repeat' ((conv => whnf); first
                  | (with_reducible first | exact Wa | exact Wb | exact Wc | refine Wd (by kernel_rfl) ?_ | refine We ?_ ?_ ?_ | refine W8 (by decide +kernel) ?_ ?_ ?_ | refine W9 ?_ ?_ ?_ | refine Wt (by first | assumption | omega) ?_ | refine Wu (by first | assumption | omega) ?_ | refine Wv (by omega) ?_ | refine Ww (by omega) ?_ | refine Wf (by decide) (fun _ => ?_) (fun _ => ?_) | refine Wg (fun _ => ?_) (fun _ => ?_) | refine Wh (fun _ => ?_) (fun _ => ?_) | refine Wi ?_ | refine Wj ?_ | refine Wk (fun _ => ?_) (fun _ => ?_) | refine Wl (fun _ => ?_) | refine Wm (by assumption) (by omega) ?_ | refine Wn (by omega) (by omega) (fun _ _ _ => ?_) | refine Wo (by omega) (by omega) ?_ | refine Wp (by omega) (by omega) (by omega) ?_ | refine Wq (by omega) (by omega) ?_ | refine Wr (by decide) (by omega) (by omega) ?_ | refine Ws (by decide) ?_ | refine Wx (fun _ => ?_) ?_ | refine Wy (fun _ => ?_) ?_ | refine Wz (fun _ => ?_) | refine WA (fun _ => ?_) | refine WB (by assumption) (by omega) ?_ | refine WC (by omega) (by omega) (fun _ _ => ?_) | refine WD (by omega) (by omega) (fun _ _ => ?_) | refine WE (by omega) (by omega) (by omega) ?_)
                  | refine hns ?_
                  | refine hof ?_
                  | refine WJ (fun _ => ?_)
                  | refine piece_k (by omega) e3 ?_
                  | refine app_n2 hmb hrl (by omega) (fun bk cap' rest' hfr hln => ?_)
                  | unfold Go.Aw.storeTo
                  | with_reducible refine WF ?_)
                all_goals conv => whnf
                all_goals exact ⟨⟨q, ⟨x.toks, x.notes ++ [nt3 (pieceF s (blkF s i') q) x.gap (atP s (blkF s i')).1 (atP s (blkF s i')).2], x.gap, (atP s q).1, true⟩, true, w1, .mrow 5 bk (x.notes.length + 1) cap', _⟩, ⟨⟨.inr ⟨bk, cap', rest', by simp only [List.length_append, List.length_singleton], St.box_at _ _ _, hln, le_none g2.le hb0 hfr, by simp⟩, g2.set (le_none g2.le hb0 hfr) _, e4, g4, by simp only []; omega, by simp only []; omega, by simp only [List.length_append, List.length_singleton]; omega, fun _ => by simp⟩, hx9⟩, by simp only []; omega, (by refine ⟨rfl, ?_, ?_, rfl⟩ <;> repeat' (first | exact trivial | exact rfl | refine And.intro ?_ ?_)), St.le_refl _⟩
            | false =>
              have hx9 := g9
              rw [← adj_no hbe] at hx9
              have hcs : x.j = false ∨ (x.j = true ∧ ¬ x.ends = (atP s (blkF s i')).1) ∨ (x.j = true ∧ x.ends = (atP s (blkF s i')).1 ∧ ¬ (atP s q).1 = (atP s (blkF s i')).1) := by
                unfold behF at hbe
                cases hj : x.j with
                | false => exact .inl rfl
                | true =>
                  by_cases c1 : x.ends = (atP s (blkF s i')).1
                  · by_cases c2 : (atP s q).1 = (atP s (blkF s i')).1
                    · rw [hj, decide_eq_true c1, decide_eq_true c2] at hbe; cases hbe
                    · exact .inr (.inr ⟨rfl, c1, c2⟩)
                  · exact .inr (.inl ⟨rfl, c1⟩)
              rcases hcs with b1 | ⟨b1, b2⟩ | ⟨b1, b2, b3⟩
              · rw [b1]
                rcases g1 with ⟨hnv, hn0⟩ | ⟨b, cap, rest, hnv, hmb, hrl, hb0, hne⟩
                · subst hnv
                  rw [hn0] at hx9 g7
                  refine aw_of tys_ok ?_
                  repeat' ((conv => whnf); first
                    | (with_reducible first | exact Wa | exact Wb | exact Wc | refine Wd (by kernel_rfl) ?_ | refine We ?_ ?_ ?_ | refine W8 (by decide +kernel) ?_ ?_ ?_ | refine W9 ?_ ?_ ?_ | refine Wt (by first | assumption | omega) ?_ | refine Wu (by first | assumption | omega) ?_ | refine Wv (by omega) ?_ | refine Ww (by omega) ?_ | refine Wf (by decide) (fun _ => ?_) (fun _ => ?_) | refine Wg (fun _ => ?_) (fun _ => ?_) | refine Wh (fun _ => ?_) (fun _ => ?_) | refine Wi ?_ | refine Wj ?_ | refine Wk (fun _ => ?_) (fun _ => ?_) | refine Wl (fun _ => ?_) | refine Wm (by assumption) (by omega) ?_ | refine Wn (by omega) (by omega) (fun _ _ _ => ?_) | refine Wo (by omega) (by omega) ?_ | refine Wp (by omega) (by omega) (by omega) ?_ | refine Wq (by omega) (by omega) ?_ | refine Wr (by decide) (by omega) (by omega) ?_ | refine Ws (by decide) ?_ | refine Wx (fun _ => ?_) ?_ | refine Wy (fun _ => ?_) ?_ | refine Wz (fun _ => ?_) | refine WA (fun _ => ?_) | refine WB (by assumption) (by omega) ?_ | refine WC (by omega) (by omega) (fun _ _ => ?_) | refine WD (by omega) (by omega) (fun _ _ => ?_) | refine WE (by omega) (by omega) (by omega) ?_)
                    | refine hns ?_
                    | refine hof ?_
                    | refine WJ (fun _ => ?_)
                    | refine piece_k (by omega) e3 ?_
                    | refine app_n1 (fun bk cap rest hfr hln => ?_)
                    | unfold Go.Aw.storeTo
                    | with_reducible refine WF ?_)
                  all_goals conv => whnf
                  all_goals exact ⟨⟨q, ⟨x.toks, [nt3 (pieceF s (blkF s i') q) x.gap (atP s (blkF s i')).1 (atP s (blkF s i')).2], x.gap, (atP s q).1, false⟩, false, w1, _, _⟩, ⟨⟨.inr ⟨bk, cap, rest, rfl, St.box_at _ _ _, hln, le_none g2.le (b := bk) (bk := bk) (by cases ez : st.box bk with | none => rfl | some c => have := g2.le.1 _ _ ez; rw [hfr.1] at this; cases this) (.inl rfl), by simp⟩, g2.set (by cases ez : st.box bk with | none => rfl | some c => have := g2.le.1 _ _ ez; rw [hfr.1] at this; cases this) _, e4, g4, by simp only []; omega, by simp only []; omega, by simp only [List.length_singleton]; omega, fun _ => by simp⟩, hx9⟩, by simp only []; omega, (by refine ⟨rfl, ?_, ?_, rfl⟩ <;> repeat' (first | exact trivial | exact rfl | refine And.intro ?_ ?_)), St.le_refl _⟩
                · subst hnv
                  refine aw_of tys_ok ?_
                  repeat' ((conv => whnf); first
                    | (with_reducible first | exact Wa | exact Wb | exact Wc | refine Wd (by kernel_rfl) ?_ | refine We ?_ ?_ ?_ | refine W8 (by decide +kernel) ?_ ?_ ?_ | refine W9 ?_ ?_ ?_ | refine Wt (by first | assumption | omega) ?_ | refine Wu (by first | assumption | omega) ?_ | refine Wv (by omega) ?_ | refine Ww (by omega) ?_ | refine Wf (by decide) (fun _ => ?_) (fun _ => ?_) | refine Wg (fun _ => ?_) (fun _ => ?_) | refine Wh (fun _ => ?_) (fun _ => ?_) | refine Wi ?_ | refine Wj ?_ | refine Wk (fun _ => ?_) (fun _ => ?_) | refine Wl (fun _ => ?_) | refine Wm (by assumption) (by omega) ?_ | refine Wn (by omega) (by omega) (fun _ _ _ => ?_) | refine Wo (by omega) (by omega) ?_ | refine Wp (by omega) (by omega) (by omega) ?_ | refine Wq (by omega) (by omega) ?_ | refine Wr (by decide) (by omega) (by omega) ?_ | refine Ws (by decide) ?_ | refine Wx (fun _ => ?_) ?_ | refine Wy (fun _ => ?_) ?_ | refine Wz (fun _ => ?_) | refine WA (fun _ => ?_) | refine WB (by assumption) (by omega) ?_ | refine WC (by omega) (by omega) (fun _ _ => ?_) | refine WD (by omega) (by omega) (fun _ _ => ?_) | refine WE (by omega) (by omega) (by omega) ?_)
                    | refine hns ?_
                    | refine hof ?_
                    | refine WJ (fun _ => ?_)
                    | refine piece_k (by omega) e3 ?_
                    | refine app_n2 hmb hrl (by omega) (fun bk cap' rest' hfr hln => ?_)
                    | unfold Go.Aw.storeTo
                    | with_reducible refine WF ?_)
                  all_goals conv => whnf
                  all_goals exact ⟨⟨q, ⟨x.toks, x.notes ++ [nt3 (pieceF s (blkF s i') q) x.gap (atP s (blkF s i')).1 (atP s (blkF s i')).2], x.gap, (atP s q).1, false⟩, false, w1, .mrow 5 bk (x.notes.length + 1) cap', _⟩, ⟨⟨.inr ⟨bk, cap', rest', by simp only [List.length_append, List.length_singleton], St.box_at _ _ _, hln, le_none g2.le hb0 hfr, by simp⟩, g2.set (le_none g2.le hb0 hfr) _, e4, g4, by simp only []; omega, by simp only []; omega, by simp only [List.length_append, List.length_singleton]; omega, fun _ => by simp⟩, hx9⟩, by simp only []; omega, (by refine ⟨rfl, ?_, ?_, rfl⟩ <;> repeat' (first | exact trivial | exact rfl | refine And.intro ?_ ?_)), St.le_refl _⟩
              · rw [b1]
                rcases g1 with ⟨hnv, hn0⟩ | ⟨b, cap, rest, hnv, hmb, hrl, hb0, hne⟩
                · subst hnv
                  rw [hn0] at hx9 g7
                  refine aw_of tys_ok ?_
                  repeat' ((conv => whnf); first
                    | (with_reducible first | exact Wa | exact Wb | exact Wc | refine Wd (by kernel_rfl) ?_ | refine We ?_ ?_ ?_ | refine W8 (by decide +kernel) ?_ ?_ ?_ | refine W9 ?_ ?_ ?_ | refine Wt (by first | assumption | omega) ?_ | refine Wu (by first | assumption | omega) ?_ | refine Wv (by omega) ?_ | refine Ww (by omega) ?_ | refine Wf (by decide) (fun _ => ?_) (fun _ => ?_) | refine Wg (fun _ => ?_) (fun _ => ?_) | refine Wh (fun _ => ?_) (fun _ => ?_) | refine Wi ?_ | refine Wj ?_ | refine Wk (fun _ => ?_) (fun _ => ?_) | refine Wl (fun _ => ?_) | refine Wm (by assumption) (by omega) ?_ | refine Wn (by omega) (by omega) (fun _ _ _ => ?_) | refine Wo (by omega) (by omega) ?_ | refine Wp (by omega) (by omega) (by omega) ?_ | refine Wq (by omega) (by omega) ?_ | refine Wr (by decide) (by omega) (by omega) ?_ | refine Ws (by decide) ?_ | refine Wx (fun _ => ?_) ?_ | refine Wy (fun _ => ?_) ?_ | refine Wz (fun _ => ?_) | refine WA (fun _ => ?_) | refine WB (by assumption) (by omega) ?_ | refine WC (by omega) (by omega) (fun _ _ => ?_) | refine WD (by omega) (by omega) (fun _ _ => ?_) | refine WE (by omega) (by omega) (by omega) ?_)
                    | refine hns ?_
                    | refine hof ?_
                    | refine WJ (fun _ => ?_)
                    | refine piece_k (by omega) e3 ?_
                    | refine app_n1 (fun bk cap rest hfr hln => ?_)
                    | unfold Go.Aw.storeTo
                    | with_reducible refine WF ?_)
                  all_goals conv => whnf
                  all_goals exact ⟨⟨q, ⟨x.toks, [nt3 (pieceF s (blkF s i') q) x.gap (atP s (blkF s i')).1 (atP s (blkF s i')).2], x.gap, (atP s q).1, false⟩, false, w1, _, _⟩, ⟨⟨.inr ⟨bk, cap, rest, rfl, St.box_at _ _ _, hln, le_none g2.le (b := bk) (bk := bk) (by cases ez : st.box bk with | none => rfl | some c => have := g2.le.1 _ _ ez; rw [hfr.1] at this; cases this) (.inl rfl), by simp⟩, g2.set (by cases ez : st.box bk with | none => rfl | some c => have := g2.le.1 _ _ ez; rw [hfr.1] at this; cases this) _, e4, g4, by simp only []; omega, by simp only []; omega, by simp only [List.length_singleton]; omega, fun _ => by simp⟩, hx9⟩, by simp only []; omega, (by refine ⟨rfl, ?_, ?_, rfl⟩ <;> repeat' (first | exact trivial | exact rfl | refine And.intro ?_ ?_)), St.le_refl _⟩
                · subst hnv
                  refine aw_of tys_ok ?_
                  repeat' ((conv => whnf); first
                    | (with_reducible first | exact Wa | exact Wb | exact Wc | refine Wd (by kernel_rfl) ?_ | refine We ?_ ?_ ?_ | refine W8 (by decide +kernel) ?_ ?_ ?_ | refine W9 ?_ ?_ ?_ | refine Wt (by first | assumption | omega) ?_ | refine Wu (by first | assumption | omega) ?_ | refine Wv (by omega) ?_ | refine Ww (by omega) ?_ | refine Wf (by decide) (fun _ => ?_) (fun _ => ?_) | refine Wg (fun _ => ?_) (fun _ => ?_) | refine Wh (fun _ => ?_) (fun _ => ?_) | refine Wi ?_ | refine Wj ?_ | refine Wk (fun _ => ?_) (fun _ => ?_) | refine Wl (fun _ => ?_) | refine Wm (by assumption) (by omega) ?_ | refine Wn (by omega) (by omega) (fun _ _ _ => ?_) | refine Wo (by omega) (by omega) ?_ | refine Wp (by omega) (by omega) (by omega) ?_ | refine Wq (by omega) (by omega) ?_ | refine Wr (by decide) (by omega) (by omega) ?_ | refine Ws (by decide) ?_ | refine Wx (fun _ => ?_) ?_ | refine Wy (fun _ => ?_) ?_ | refine Wz (fun _ => ?_) | refine WA (fun _ => ?_) | refine WB (by assumption) (by omega) ?_ | refine WC (by omega) (by omega) (fun _ _ => ?_) | refine WD (by omega) (by omega) (fun _ _ => ?_) | refine WE (by omega) (by omega) (by omega) ?_)
                    | refine hns ?_
                    | refine hof ?_
                    | refine WJ (fun _ => ?_)
                    | refine piece_k (by omega) e3 ?_
                    | refine app_n2 hmb hrl (by omega) (fun bk cap' rest' hfr hln => ?_)
                    | unfold Go.Aw.storeTo
                    | with_reducible refine WF ?_)
                  all_goals conv => whnf
                  all_goals exact ⟨⟨q, ⟨x.toks, x.notes ++ [nt3 (pieceF s (blkF s i') q) x.gap (atP s (blkF s i')).1 (atP s (blkF s i')).2], x.gap, (atP s q).1, false⟩, false, w1, .mrow 5 bk (x.notes.length + 1) cap', _⟩, ⟨⟨.inr ⟨bk, cap', rest', by simp only [List.length_append, List.length_singleton], St.box_at _ _ _, hln, le_none g2.le hb0 hfr, by simp⟩, g2.set (le_none g2.le hb0 hfr) _, e4, g4, by simp only []; omega, by simp only []; omega, by simp only [List.length_append, List.length_singleton]; omega, fun _ => by simp⟩, hx9⟩, by simp only []; omega, (by refine ⟨rfl, ?_, ?_, rfl⟩ <;> repeat' (first | exact trivial | exact rfl | refine And.intro ?_ ?_)), St.le_refl _⟩
              · rw [b1]
                rcases g1 with ⟨hnv, hn0⟩ | ⟨b, cap, rest, hnv, hmb, hrl, hb0, hne⟩
                · subst hnv
                  rw [hn0] at hx9 g7
                  refine aw_of tys_ok ?_
                  repeat' ((conv => whnf); first
                    | (with_reducible first | exact Wa | exact Wb | exact Wc | refine Wd (by kernel_rfl) ?_ | refine We ?_ ?_ ?_ | refine W8 (by decide +kernel) ?_ ?_ ?_ | refine W9 ?_ ?_ ?_ | refine Wt (by first | assumption | omega) ?_ | refine Wu (by first | assumption | omega) ?_ | refine Wv (by omega) ?_ | refine Ww (by omega) ?_ | refine Wf (by decide) (fun _ => ?_) (fun _ => ?_) | refine Wg (fun _ => ?_) (fun _ => ?_) | refine Wh (fun _ => ?_) (fun _ => ?_) | refine Wi ?_ | refine Wj ?_ | refine Wk (fun _ => ?_) (fun _ => ?_) | refine Wl (fun _ => ?_) | refine Wm (by assumption) (by omega) ?_ | refine Wn (by omega) (by omega) (fun _ _ _ => ?_) | refine Wo (by omega) (by omega) ?_ | refine Wp (by omega) (by omega) (by omega) ?_ | refine Wq (by omega) (by omega) ?_ | refine Wr (by decide) (by omega) (by omega) ?_ | refine Ws (by decide) ?_ | refine Wx (fun _ => ?_) ?_ | refine Wy (fun _ => ?_) ?_ | refine Wz (fun _ => ?_) | refine WA (fun _ => ?_) | refine WB (by assumption) (by omega) ?_ | refine WC (by omega) (by omega) (fun _ _ => ?_) | refine WD (by omega) (by omega) (fun _ _ => ?_) | refine WE (by omega) (by omega) (by omega) ?_)
                    | refine hns ?_
                    | refine hof ?_
                    | refine WJ (fun _ => ?_)
                    | refine piece_k (by omega) e3 ?_
                    | refine app_n1 (fun bk cap rest hfr hln => ?_)
                    | unfold Go.Aw.storeTo
                    | with_reducible refine WF ?_)
                  all_goals conv => whnf
                  all_goals exact ⟨⟨q, ⟨x.toks, [nt3 (pieceF s (blkF s i') q) x.gap (atP s (blkF s i')).1 (atP s (blkF s i')).2], x.gap, (atP s q).1, false⟩, false, w1, _, _⟩, ⟨⟨.inr ⟨bk, cap, rest, rfl, St.box_at _ _ _, hln, le_none g2.le (b := bk) (bk := bk) (by cases ez : st.box bk with | none => rfl | some c => have := g2.le.1 _ _ ez; rw [hfr.1] at this; cases this) (.inl rfl), by simp⟩, g2.set (by cases ez : st.box bk with | none => rfl | some c => have := g2.le.1 _ _ ez; rw [hfr.1] at this; cases this) _, e4, g4, by simp only []; omega, by simp only []; omega, by simp only [List.length_singleton]; omega, fun _ => by simp⟩, hx9⟩, by simp only []; omega, (by refine ⟨rfl, ?_, ?_, rfl⟩ <;> repeat' (first | exact trivial | exact rfl | refine And.intro ?_ ?_)), St.le_refl _⟩
                · subst hnv
                  refine aw_of tys_ok ?_
                  repeat' ((conv => whnf); first
                    | (with_reducible first | exact Wa | exact Wb | exact Wc | refine Wd (by kernel_rfl) ?_ | refine We ?_ ?_ ?_ | refine W8 (by decide +kernel) ?_ ?_ ?_ | refine W9 ?_ ?_ ?_ | refine Wt (by first | assumption | omega) ?_ | refine Wu (by first | assumption | omega) ?_ | refine Wv (by omega) ?_ | refine Ww (by omega) ?_ | refine Wf (by decide) (fun _ => ?_) (fun _ => ?_) | refine Wg (fun _ => ?_) (fun _ => ?_) | refine Wh (fun _ => ?_) (fun _ => ?_) | refine Wi ?_ | refine Wj ?_ | refine Wk (fun _ => ?_) (fun _ => ?_) | refine Wl (fun _ => ?_) | refine Wm (by assumption) (by omega) ?_ | refine Wn (by omega) (by omega) (fun _ _ _ => ?_) | refine Wo (by omega) (by omega) ?_ | refine Wp (by omega) (by omega) (by omega) ?_ | refine Wq (by omega) (by omega) ?_ | refine Wr (by decide) (by omega) (by omega) ?_ | refine Ws (by decide) ?_ | refine Wx (fun _ => ?_) ?_ | refine Wy (fun _ => ?_) ?_ | refine Wz (fun _ => ?_) | refine WA (fun _ => ?_) | refine WB (by assumption) (by omega) ?_ | refine WC (by omega) (by omega) (fun _ _ => ?_) | refine WD (by omega) (by omega) (fun _ _ => ?_) | refine WE (by omega) (by omega) (by omega) ?_)
                    | refine hns ?_
                    | refine hof ?_
                    | refine WJ (fun _ => ?_)
                    | refine piece_k (by omega) e3 ?_
                    | refine app_n2 hmb hrl (by omega) (fun bk cap' rest' hfr hln => ?_)
                    | unfold Go.Aw.storeTo
                    | with_reducible refine WF ?_)
                  all_goals conv => whnf
                  all_goals exact ⟨⟨q, ⟨x.toks, x.notes ++ [nt3 (pieceF s (blkF s i') q) x.gap (atP s (blkF s i')).1 (atP s (blkF s i')).2], x.gap, (atP s q).1, false⟩, false, w1, .mrow 5 bk (x.notes.length + 1) cap', _⟩, ⟨⟨.inr ⟨bk, cap', rest', by simp only [List.length_append, List.length_singleton], St.box_at _ _ _, hln, le_none g2.le hb0 hfr, by simp⟩, g2.set (le_none g2.le hb0 hfr) _, e4, g4, by simp only []; omega, by simp only []; omega, by simp only [List.length_append, List.length_singleton]; omega, fun _ => by simp⟩, hx9⟩, by simp only []; omega, (by refine ⟨rfl, ?_, ?_, rfl⟩ <;> repeat' (first | exact trivial | exact rfl | refine And.intro ?_ ?_)), St.le_refl _⟩
          · have hlx := fun {R : Res → St → Prop} => rlexm_c (st := m) (R := R) (s := s) (p := blkF s i') (by omega) hpl
            by_cases k2 : (lexmF s (blkF s i')).2.2 = 0
            · obtain ⟨k1, q, e1, e2, e3, e4⟩ := lexm_cut hv c4 k2
              rw [k2, e1] at hlx
              rw [lexL_tok hpl n2 n1 k2 e1 e2] at g9
              have hof := fun {st : St} {R : Res → St → Prop} => rof_at (st := st) (R := R) (s := s) (k := q) (by omega) e3
              have hcq := cnt_eq e1 e3
              have g2' : Rows2 st m w1 ((encTs x.toks).length * 4) .full 0 := by rw [toks_length]; exact g2
              have htl : (encTs x.toks).length ≤ 1000000000 := by rw [toks_length]; omega
              cases hcv : cntF (lexmF s (blkF s i')).1 (pieceF s (blkF s i') q) with
              | true =>
                have hcn : ∀ {st : St} {R : Res → St → Prop}, R (.ret (.bool true)) st → PC 29 [.agg [.int .i64 (lexmF s (blkF s i')).1, .str (pieceF s (blkF s i') q), .int .i64 (atP s (blkF s i')).1, .int .i64 (atP s (blkF s i')).2]] st R := fun h => rcounts_c (by rw [hcq, hcv]; exact h)
                have hx9 : lexL s (blkF s 0) lx0 = lexL s (blkF s q) (adjX s q false ⟨x.toks ++ [⟨(lexmF s (blkF s i')).1, pieceF s (blkF s i') q, (atP s (blkF s i')).1, (atP s (blkF s i')).2⟩], x.notes, x.gap + 1, (atP s q).1, true⟩) := by
                  rw [g9]; unfold tokX; rw [hcv]; rfl
                rcases g1 with ⟨hnv, hn0⟩ | ⟨b, cap, rest, hnv, hmb, hrl, hb0, hne⟩
                · subst hnv
                  refine aw_of tys_ok ?_
                  repeat' ((conv => whnf); first
                    | (with_reducible first | exact Wa | exact Wb | exact Wc | refine Wd (by kernel_rfl) ?_ | refine We ?_ ?_ ?_ | refine W8 (by decide +kernel) ?_ ?_ ?_ | refine W9 ?_ ?_ ?_ | refine Wt (by first | assumption | omega) ?_ | refine Wu (by first | assumption | omega) ?_ | refine Wv (by omega) ?_ | refine Ww (by omega) ?_ | refine Wf (by decide) (fun _ => ?_) (fun _ => ?_) | refine Wg (fun _ => ?_) (fun _ => ?_) | refine Wh (fun _ => ?_) (fun _ => ?_) | refine Wi ?_ | refine Wj ?_ | refine Wk (fun _ => ?_) (fun _ => ?_) | refine Wl (fun _ => ?_) | refine Wm (by assumption) (by omega) ?_ | refine Wn (by omega) (by omega) (fun _ _ _ => ?_) | refine Wo (by omega) (by omega) ?_ | refine Wp (by omega) (by omega) (by omega) ?_ | refine Wq (by omega) (by omega) ?_ | refine Wr (by decide) (by omega) (by omega) ?_ | refine Ws (by decide) ?_ | refine Wx (fun _ => ?_) ?_ | refine Wy (fun _ => ?_) ?_ | refine Wz (fun _ => ?_) | refine WA (fun _ => ?_) | refine WB (by assumption) (by omega) ?_ | refine WC (by omega) (by omega) (fun _ _ => ?_) | refine WD (by omega) (by omega) (fun _ _ => ?_) | refine WE (by omega) (by omega) (by omega) ?_)
                    | refine hns ?_
                    | refine hlx ?_
                    | refine hof ?_
                    | refine hcn ?_
                    | refine WJ (fun _ => ?_)
                    | refine piece_k (by omega) e3 ?_
                    | refine rows_tok g2' htl (fun w1' st1 hr1 hb1 => ?_)
                    | unfold Go.Aw.storeTo
                    | with_reducible refine WF ?_)
                  all_goals conv => whnf
                  all_goals rw [toks_length] at hr1
                  all_goals exact ⟨⟨q, ⟨x.toks ++ [⟨(lexmF s (blkF s i')).1, pieceF s (blkF s i') q, (atP s (blkF s i')).1, (atP s (blkF s i')).2⟩], x.notes, x.gap + 1, (atP s q).1, true⟩, false, w1', .slice 5 [] .full, st1⟩, ⟨⟨.inl ⟨rfl, hn0⟩, by simp only [List.length_append, List.length_singleton]; exact hr1, e4, by simp only []; omega, by simp only []; omega, by simp only [List.length_append, List.length_singleton]; omega, by simp only []; omega, fun h => by cases h⟩, hx9⟩, by simp only []; omega, (by rw [toks_snoc]; exact (by refine ⟨rfl, ?_, ?_, rfl⟩ <;> repeat' (first | exact trivial | exact rfl | refine And.intro ?_ ?_))), St.le_refl _⟩
                · subst hnv
                  refine aw_of tys_ok ?_
                  repeat' ((conv => whnf); first
                    | (with_reducible first | exact Wa | exact Wb | exact Wc | refine Wd (by kernel_rfl) ?_ | refine We ?_ ?_ ?_ | refine W8 (by decide +kernel) ?_ ?_ ?_ | refine W9 ?_ ?_ ?_ | refine Wt (by first | assumption | omega) ?_ | refine Wu (by first | assumption | omega) ?_ | refine Wv (by omega) ?_ | refine Ww (by omega) ?_ | refine Wf (by decide) (fun _ => ?_) (fun _ => ?_) | refine Wg (fun _ => ?_) (fun _ => ?_) | refine Wh (fun _ => ?_) (fun _ => ?_) | refine Wi ?_ | refine Wj ?_ | refine Wk (fun _ => ?_) (fun _ => ?_) | refine Wl (fun _ => ?_) | refine Wm (by assumption) (by omega) ?_ | refine Wn (by omega) (by omega) (fun _ _ _ => ?_) | refine Wo (by omega) (by omega) ?_ | refine Wp (by omega) (by omega) (by omega) ?_ | refine Wq (by omega) (by omega) ?_ | refine Wr (by decide) (by omega) (by omega) ?_ | refine Ws (by decide) ?_ | refine Wx (fun _ => ?_) ?_ | refine Wy (fun _ => ?_) ?_ | refine Wz (fun _ => ?_) | refine WA (fun _ => ?_) | refine WB (by assumption) (by omega) ?_ | refine WC (by omega) (by omega) (fun _ _ => ?_) | refine WD (by omega) (by omega) (fun _ _ => ?_) | refine WE (by omega) (by omega) (by omega) ?_)
                    | refine hns ?_
                    | refine hlx ?_
                    | refine hof ?_
                    | refine hcn ?_
                    | refine WJ (fun _ => ?_)
                    | refine piece_k (by omega) e3 ?_
                    | refine rows_tok g2' htl (fun w1' st1 hr1 hb1 => ?_)
                    | unfold Go.Aw.storeTo
                    | with_reducible refine WF ?_)
                  all_goals conv => whnf
                  all_goals rw [toks_length] at hr1
                  all_goals exact ⟨⟨q, ⟨x.toks ++ [⟨(lexmF s (blkF s i')).1, pieceF s (blkF s i') q, (atP s (blkF s i')).1, (atP s (blkF s i')).2⟩], x.notes, x.gap + 1, (atP s q).1, true⟩, false, w1', .mrow 5 b x.notes.length cap, st1⟩, ⟨⟨.inr ⟨b, cap, rest, rfl, (congrFun hb1 b).trans hmb, hrl, hb0, hne⟩, by simp only [List.length_append, List.length_singleton]; exact hr1, e4, by simp only []; omega, by simp only []; omega, by simp only [List.length_append, List.length_singleton]; omega, by simp only []; omega, fun h => by cases h⟩, hx9⟩, by simp only []; omega, (by rw [toks_snoc]; exact (by refine ⟨rfl, ?_, ?_, rfl⟩ <;> repeat' (first | exact trivial | exact rfl | refine And.intro ?_ ?_))), St.le_refl _⟩
              | false =>
                have hcn : ∀ {st : St} {R : Res → St → Prop}, R (.ret (.bool false)) st → PC 29 [.agg [.int .i64 (lexmF s (blkF s i')).1, .str (pieceF s (blkF s i') q), .int .i64 (atP s (blkF s i')).1, .int .i64 (atP s (blkF s i')).2]] st R := fun h => rcounts_c (by rw [hcq, hcv]; exact h)
                have hx9 : lexL s (blkF s 0) lx0 = lexL s (blkF s q) (adjX s q false ⟨x.toks ++ [⟨(lexmF s (blkF s i')).1, pieceF s (blkF s i') q, (atP s (blkF s i')).1, (atP s (blkF s i')).2⟩], x.notes, x.gap, (atP s q).1, true⟩) := by
                  rw [g9]; unfold tokX; rw [hcv]; rfl
                rcases g1 with ⟨hnv, hn0⟩ | ⟨b, cap, rest, hnv, hmb, hrl, hb0, hne⟩
                · subst hnv
                  refine aw_of tys_ok ?_
                  repeat' ((conv => whnf); first
                    | (with_reducible first | exact Wa | exact Wb | exact Wc | refine Wd (by kernel_rfl) ?_ | refine We ?_ ?_ ?_ | refine W8 (by decide +kernel) ?_ ?_ ?_ | refine W9 ?_ ?_ ?_ | refine Wt (by first | assumption | omega) ?_ | refine Wu (by first | assumption | omega) ?_ | refine Wv (by omega) ?_ | refine Ww (by omega) ?_ | refine Wf (by decide) (fun _ => ?_) (fun _ => ?_) | refine Wg (fun _ => ?_) (fun _ => ?_) | refine Wh (fun _ => ?_) (fun _ => ?_) | refine Wi ?_ | refine Wj ?_ | refine Wk (fun _ => ?_) (fun _ => ?_) | refine Wl (fun _ => ?_) | refine Wm (by assumption) (by omega) ?_ | refine Wn (by omega) (by omega) (fun _ _ _ => ?_) | refine Wo (by omega) (by omega) ?_ | refine Wp (by omega) (by omega) (by omega) ?_ | refine Wq (by omega) (by omega) ?_ | refine Wr (by decide) (by omega) (by omega) ?_ | refine Ws (by decide) ?_ | refine Wx (fun _ => ?_) ?_ | refine Wy (fun _ => ?_) ?_ | refine Wz (fun _ => ?_) | refine WA (fun _ => ?_) | refine WB (by assumption) (by omega) ?_ | refine WC (by omega) (by omega) (fun _ _ => ?_) | refine WD (by omega) (by omega) (fun _ _ => ?_) | refine WE (by omega) (by omega) (by omega) ?_)
                    | refine hns ?_
                    | refine hlx ?_
                    | refine hof ?_
                    | refine hcn ?_
                    | refine WJ (fun _ => ?_)
                    | refine piece_k (by omega) e3 ?_
                    | refine rows_tok g2' htl (fun w1' st1 hr1 hb1 => ?_)
                    | unfold Go.Aw.storeTo
                    | with_reducible refine WF ?_)
                  all_goals conv => whnf
                  all_goals rw [toks_length] at hr1
                  all_goals exact ⟨⟨q, ⟨x.toks ++ [⟨(lexmF s (blkF s i')).1, pieceF s (blkF s i') q, (atP s (blkF s i')).1, (atP s (blkF s i')).2⟩], x.notes, x.gap, (atP s q).1, true⟩, false, w1', .slice 5 [] .full, st1⟩, ⟨⟨.inl ⟨rfl, hn0⟩, by simp only [List.length_append, List.length_singleton]; exact hr1, e4, by simp only []; omega, by simp only []; omega, by simp only [List.length_append, List.length_singleton]; omega, by simp only []; omega, fun h => by cases h⟩, hx9⟩, by simp only []; omega, (by rw [toks_snoc]; exact (by refine ⟨rfl, ?_, ?_, rfl⟩ <;> repeat' (first | exact trivial | exact rfl | refine And.intro ?_ ?_))), St.le_refl _⟩
                · subst hnv
                  refine aw_of tys_ok ?_
                  repeat' ((conv => whnf); first
                    | (with_reducible first | exact Wa | exact Wb | exact Wc | refine Wd (by kernel_rfl) ?_ | refine We ?_ ?_ ?_ | refine W8 (by decide +kernel) ?_ ?_ ?_ | refine W9 ?_ ?_ ?_ | refine Wt (by first | assumption | omega) ?_ | refine Wu (by first | assumption | omega) ?_ | refine Wv (by omega) ?_ | refine Ww (by omega) ?_ | refine Wf (by decide) (fun _ => ?_) (fun _ => ?_) | refine Wg (fun _ => ?_) (fun _ => ?_) | refine Wh (fun _ => ?_) (fun _ => ?_) | refine Wi ?_ | refine Wj ?_ | refine Wk (fun _ => ?_) (fun _ => ?_) | refine Wl (fun _ => ?_) | refine Wm (by assumption) (by omega) ?_ | refine Wn (by omega) (by omega) (fun _ _ _ => ?_) | refine Wo (by omega) (by omega) ?_ | refine Wp (by omega) (by omega) (by omega) ?_ | refine Wq (by omega) (by omega) ?_ | refine Wr (by decide) (by omega) (by omega) ?_ | refine Ws (by decide) ?_ | refine Wx (fun _ => ?_) ?_ | refine Wy (fun _ => ?_) ?_ | refine Wz (fun _ => ?_) | refine WA (fun _ => ?_) | refine WB (by assumption) (by omega) ?_ | refine WC (by omega) (by omega) (fun _ _ => ?_) | refine WD (by omega) (by omega) (fun _ _ => ?_) | refine WE (by omega) (by omega) (by omega) ?_)
                    | refine hns ?_
                    | refine hlx ?_
                    | refine hof ?_
                    | refine hcn ?_
                    | refine WJ (fun _ => ?_)
                    | refine piece_k (by omega) e3 ?_
                    | refine rows_tok g2' htl (fun w1' st1 hr1 hb1 => ?_)
                    | unfold Go.Aw.storeTo
                    | with_reducible refine WF ?_)
                  all_goals conv => whnf
                  all_goals rw [toks_length] at hr1
                  all_goals exact ⟨⟨q, ⟨x.toks ++ [⟨(lexmF s (blkF s i')).1, pieceF s (blkF s i') q, (atP s (blkF s i')).1, (atP s (blkF s i')).2⟩], x.notes, x.gap, (atP s q).1, true⟩, false, w1', .mrow 5 b x.notes.length cap, st1⟩, ⟨⟨.inr ⟨b, cap, rest, rfl, (congrFun hb1 b).trans hmb, hrl, hb0, hne⟩, by simp only [List.length_append, List.length_singleton]; exact hr1, e4, by simp only []; omega, by simp only []; omega, by simp only [List.length_append, List.length_singleton]; omega, by simp only []; omega, fun h => by cases h⟩, hx9⟩, by simp only []; omega, (by rw [toks_snoc]; exact (by refine ⟨rfl, ?_, ?_, rfl⟩ <;> repeat' (first | exact trivial | exact rfl | refine And.intro ?_ ?_))), St.le_refl _⟩
            · rw [lexL_err hpl n2 n1 k2] at g9
              rcases g1 with ⟨hnv, _⟩ | ⟨b, cap, rest, hnv, _⟩
              all_goals subst hnv
              all_goals refine aw_of tys_ok ?_
              repeat' ((conv => whnf); first
                | (with_reducible first | exact Wa | exact Wb | exact Wc | refine Wd (by kernel_rfl) ?_ | refine We ?_ ?_ ?_ | refine W8 (by decide +kernel) ?_ ?_ ?_ | refine W9 ?_ ?_ ?_ | refine Wt (by first | assumption | omega) ?_ | refine Wu (by first | assumption | omega) ?_ | refine Wv (by omega) ?_ | refine Ww (by omega) ?_ | refine Wf (by decide) (fun _ => ?_) (fun _ => ?_) | refine Wg (fun _ => ?_) (fun _ => ?_) | refine Wh (fun _ => ?_) (fun _ => ?_) | refine Wi ?_ | refine Wj ?_ | refine Wk (fun _ => ?_) (fun _ => ?_) | refine Wl (fun _ => ?_) | refine Wm (by assumption) (by omega) ?_ | refine Wn (by omega) (by omega) (fun _ _ _ => ?_) | refine Wo (by omega) (by omega) ?_ | refine Wp (by omega) (by omega) (by omega) ?_ | refine Wq (by omega) (by omega) ?_ | refine Wr (by decide) (by omega) (by omega) ?_ | refine Ws (by decide) ?_ | refine Wx (fun _ => ?_) ?_ | refine Wy (fun _ => ?_) ?_ | refine Wz (fun _ => ?_) | refine WA (fun _ => ?_) | refine WB (by assumption) (by omega) ?_ | refine WC (by omega) (by omega) (fun _ _ => ?_) | refine WD (by omega) (by omega) (fun _ _ => ?_) | refine WE (by omega) (by omega) (by omega) ?_)
                | refine hns ?_
                | refine hlx ?_
                | refine WJ (fun _ => ?_)
                | unfold Go.Aw.storeTo
                | with_reducible refine WF ?_)
              all_goals exact fin (h1 _ _ _ g2.le (e.trans g9)) rfl
        · rw [lexL_bad hpl n2] at g9
          rcases g1 with ⟨hnv, _⟩ | ⟨b, cap, rest, hnv, _⟩
          all_goals subst hnv
          all_goals refine aw_of tys_ok ?_
          repeat' ((conv => whnf); first
            | (with_reducible first | exact Wa | exact Wb | exact Wc | refine Wd (by kernel_rfl) ?_ | refine We ?_ ?_ ?_ | refine W8 (by decide +kernel) ?_ ?_ ?_ | refine W9 ?_ ?_ ?_ | refine Wt (by first | assumption | omega) ?_ | refine Wu (by first | assumption | omega) ?_ | refine Wv (by omega) ?_ | refine Ww (by omega) ?_ | refine Wf (by decide) (fun _ => ?_) (fun _ => ?_) | refine Wg (fun _ => ?_) (fun _ => ?_) | refine Wh (fun _ => ?_) (fun _ => ?_) | refine Wi ?_ | refine Wj ?_ | refine Wk (fun _ => ?_) (fun _ => ?_) | refine Wl (fun _ => ?_) | refine Wm (by assumption) (by omega) ?_ | refine Wn (by omega) (by omega) (fun _ _ _ => ?_) | refine Wo (by omega) (by omega) ?_ | refine Wp (by omega) (by omega) (by omega) ?_ | refine Wq (by omega) (by omega) ?_ | refine Wr (by decide) (by omega) (by omega) ?_ | refine Ws (by decide) ?_ | refine Wx (fun _ => ?_) ?_ | refine Wy (fun _ => ?_) ?_ | refine Wz (fun _ => ?_) | refine WA (fun _ => ?_) | refine WB (by assumption) (by omega) ?_ | refine WC (by omega) (by omega) (fun _ _ => ?_) | refine WD (by omega) (by omega) (fun _ _ => ?_) | refine WE (by omega) (by omega) (by omega) ?_)
            | refine hns ?_
            | refine WJ (fun _ => ?_)
            | unfold Go.Aw.storeTo
            | with_reducible refine WF ?_)
          all_goals exact fin (h1 _ _ _ g2.le (e.trans g9)) rfl
      · have hpe : blkF s i' = s.length := by omega
        rw [lexL_end hpl] at g9
        rcases g1 with ⟨hnv, k1⟩ | ⟨b, cap, rest, hnv, k1⟩
        · subst hnv
          refine aw_of tys_ok ?_
          repeat' ((conv => whnf); first
            | (with_reducible first | exact Wa | exact Wb | exact Wc | refine Wd (by kernel_rfl) ?_ | refine We ?_ ?_ ?_ | refine W8 (by decide +kernel) ?_ ?_ ?_ | refine W9 ?_ ?_ ?_ | refine Wt (by first | assumption | omega) ?_ | refine Wu (by first | assumption | omega) ?_ | refine Wv (by omega) ?_ | refine Ww (by omega) ?_ | refine Wf (by decide) (fun _ => ?_) (fun _ => ?_) | refine Wg (fun _ => ?_) (fun _ => ?_) | refine Wh (fun _ => ?_) (fun _ => ?_) | refine Wi ?_ | refine Wj ?_ | refine Wk (fun _ => ?_) (fun _ => ?_) | refine Wl (fun _ => ?_) | refine Wm (by assumption) (by omega) ?_ | refine Wn (by omega) (by omega) (fun _ _ _ => ?_) | refine Wo (by omega) (by omega) ?_ | refine Wp (by omega) (by omega) (by omega) ?_ | refine Wq (by omega) (by omega) ?_ | refine Wr (by decide) (by omega) (by omega) ?_ | refine Ws (by decide) ?_ | refine Wx (fun _ => ?_) ?_ | refine Wy (fun _ => ?_) ?_ | refine Wz (fun _ => ?_) | refine WA (fun _ => ?_) | refine WB (by assumption) (by omega) ?_ | refine WC (by omega) (by omega) (fun _ _ => ?_) | refine WD (by omega) (by omega) (fun _ _ => ?_) | refine WE (by omega) (by omega) (by omega) ?_)
            | refine WJ (fun _ => ?_)
            | unfold Go.Aw.storeTo
            | with_reducible refine WF ?_)
          all_goals exact fin (h2 x w1 _ m g2.le (e.trans g9) (.inl ⟨rfl, k1⟩)) rfl
        · subst hnv
          refine aw_of tys_ok ?_
          repeat' ((conv => whnf); first
            | (with_reducible first | exact Wa | exact Wb | exact Wc | refine Wd (by kernel_rfl) ?_ | refine We ?_ ?_ ?_ | refine W8 (by decide +kernel) ?_ ?_ ?_ | refine W9 ?_ ?_ ?_ | refine Wt (by first | assumption | omega) ?_ | refine Wu (by first | assumption | omega) ?_ | refine Wv (by omega) ?_ | refine Ww (by omega) ?_ | refine Wf (by decide) (fun _ => ?_) (fun _ => ?_) | refine Wg (fun _ => ?_) (fun _ => ?_) | refine Wh (fun _ => ?_) (fun _ => ?_) | refine Wi ?_ | refine Wj ?_ | refine Wk (fun _ => ?_) (fun _ => ?_) | refine Wl (fun _ => ?_) | refine Wm (by assumption) (by omega) ?_ | refine Wn (by omega) (by omega) (fun _ _ _ => ?_) | refine Wo (by omega) (by omega) ?_ | refine Wp (by omega) (by omega) (by omega) ?_ | refine Wq (by omega) (by omega) ?_ | refine Wr (by decide) (by omega) (by omega) ?_ | refine Ws (by decide) ?_ | refine Wx (fun _ => ?_) ?_ | refine Wy (fun _ => ?_) ?_ | refine Wz (fun _ => ?_) | refine WA (fun _ => ?_) | refine WB (by assumption) (by omega) ?_ | refine WC (by omega) (by omega) (fun _ _ => ?_) | refine WD (by omega) (by omega) (fun _ _ => ?_) | refine WE (by omega) (by omega) (by omega) ?_)
            | refine WJ (fun _ => ?_)
            | unfold Go.Aw.storeTo
            | with_reducible refine WF ?_)
          all_goals exact fin (h2 x w1 _ m g2.le (e.trans g9) (.inr ⟨b, cap, rest, rfl, k1⟩)) rfl
  · have e := runes_bad hk
    refine aw_of tys_ok ?_
    repeat' ((conv => whnf); first
      | (with_reducible first | exact Wa | exact Wb | exact Wc | refine Wd (by kernel_rfl) ?_ | refine We ?_ ?_ ?_ | refine W8 (by decide +kernel) ?_ ?_ ?_ | refine W9 ?_ ?_ ?_ | refine Wt (by first | assumption | omega) ?_ | refine Wu (by first | assumption | omega) ?_ | refine Wv (by omega) ?_ | refine Ww (by omega) ?_ | refine Wf (by decide) (fun _ => ?_) (fun _ => ?_) | refine Wg (fun _ => ?_) (fun _ => ?_) | refine Wh (fun _ => ?_) (fun _ => ?_) | refine Wi ?_ | refine Wj ?_ | refine Wk (fun _ => ?_) (fun _ => ?_) | refine Wl (fun _ => ?_) | refine Wm (by assumption) (by omega) ?_ | refine Wn (by omega) (by omega) (fun _ _ _ => ?_) | refine Wo (by omega) (by omega) ?_ | refine Wp (by omega) (by omega) (by omega) ?_ | refine Wq (by omega) (by omega) ?_ | refine Wr (by decide) (by omega) (by omega) ?_ | refine Ws (by decide) ?_ | refine Wx (fun _ => ?_) ?_ | refine Wy (fun _ => ?_) ?_ | refine Wz (fun _ => ?_) | refine WA (fun _ => ?_) | refine WB (by assumption) (by omega) ?_ | refine WC (by omega) (by omega) (fun _ _ => ?_) | refine WD (by omega) (by omega) (fun _ _ => ?_) | refine WE (by omega) (by omega) (by omega) ?_)
      | refine rrunes_c hl ?_
      | unfold Go.Aw.storeTo
      | with_reducible refine WF ?_)
    exact fin (h1 _ _ _ (St.le_refl _) e) rfl
end
end Go.Proofs.YtkcapphlemoccaaGreatDoor
set_option linter.unusedVariables false
namespace Go.Aw
theorem bc_t2 {b : Bool} {p q : Prop} (h : b = true) (k : p) : bcase b p q := Wk (fun _ => k) (fun e => by rw [h] at e; cases e)
theorem bc_f2 {b : Bool} {p q : Prop} (h : b = false) (k : q) : bcase b p q := Wk (fun e => by rw [h] at e; cases e) (fun _ => k)
theorem bc_tok {k l c : Int} {t : List UInt8} {p q : Prop} (h : p) : bcase (k == k && (t == t && (l == l && (c == c && true)))) p q := bc_t2 (by simp) h
theorem bc_tokn {k l c : Int} {t : List UInt8} {p q : Prop} (h : q) : bcase (!(k == k && (t == t && (l == l && (c == c && true))))) p q := bc_f2 (by simp) h
theorem bc_nt {g w l c : Int} {t : List UInt8} {p q : Prop} (h : p) : bcase (t == t && (g == g && (w == w && (l == l && (c == c && true))))) p q := bc_t2 (by simp) h
theorem bc_ntn {g w l c : Int} {t : List UInt8} {p q : Prop} (h : q) : bcase (!(t == t && (g == g && (w == w && (l == l && (c == c && true)))))) p q := bc_f2 (by simp) h
end Go.Aw
namespace Go.Proofs.YtkcapphlemoccaaGreatDoor
open Go Go.Aw
theorem note_known {l : List Nt} {i : Int} {x : Nt} {K : List V → Prop} (h : l[i.toNat]? = some x) (h0 : 0 ≤ i) (k : K x.cells) : 0 ≤ i ∧ ∃ e, (encNs l)[i.toNat]? = some e ∧ K e :=
  ⟨h0, x.cells, by simp [encNs, h], k⟩
theorem len_notes {l : List Nt} {K : Nat → Prop} (k : l.length < 4611686018427387904 → K l.length) : ∀ m, m = (encNs l).length → m < lim → K m := fun m hm h => by
  rw [notes_length] at hm; subst hm; exact k h
section
variable {st : St} {R : Res → St → Prop}
theorem rlex_c {s : List UInt8} (hl : s.length < 4611686018427387904) (h1 : ∀ i e st', st.le st' → lexF s = .inl (i, e) → R (.ret (.agg [.slice 4 [] .full, .slice 5 [] .full, .int .i64 i, .int .i64 e])) st')
    (h2 : ∀ x w1 w2 st', st.le st' → lexF s = .inr x → R (.ret (.agg [.slice 4 (encTs x.toks) w1, .slice 5 (encNs x.notes) w2, .int .i64 0, .int .i64 0])) st') : PC 8 [.str s] st R := by
  refine PCalls.freeze (rlex0_c (R := fun r st' => R r st' ∨ ∃ x w1 b cap rest, r = .ret (.agg [.slice 4 (encTs x.toks) w1, .mrow 5 b x.notes.length cap, .int .i64 0, .int .i64 0]) ∧ st.le st' ∧ lexF s = .inr x ∧ st'.box b = some ((encNs x.notes).flatten ++ rest) ∧ st.box b = none) hl (fun i e st' hle he => .inl (h1 i e st' hle he)) (fun x w1 nv st' hle he hn => ?_)) ?_
  · rcases hn with ⟨rfl, h0⟩ | ⟨b, cap, rest, rfl, hb, _, hb0, _⟩
    · left
      have := h2 x w1 .full st' hle he
      rw [h0] at this
      exact this
    · right
      exact ⟨x, w1, b, cap, rest, rfl, hle, he, hb, hb0⟩
  · rintro r s' (h | ⟨x, w1, b, cap, rest, rfl, hle, he, hb, hb0⟩)
    · exact .inl h
    · refine .inr ⟨b, 5, x.notes.length, cap, encNs x.notes, rest, .ret (.agg [.slice 4 (encTs x.toks) w1, .slice 5 (encNs x.notes) .any, .int .i64 0, .int .i64 0]), hb, ?_, notes_length _, .agg (.cons (.same _) (.cons .here (.cons (.same _) (.cons (.same _) .nil)))), ?_⟩
      · intro e he'
        obtain ⟨n, _, rfl⟩ := List.mem_map.1 he'
        rfl
      · refine h2 x w1 .any _ ⟨fun y c hy => ?_, hle.2⟩ he
        have hyb : y ≠ b := fun e => by subst e; rw [hb0] at hy; cases hy
        show (if y = b then none else s'.box y) = some c
        rw [if_neg hyb]
        exact hle.1 _ _ hy
theorem toksame_c {a : List Tk} {w1 w2 : Own} (h : R (.ret (.bool true)) st) : PC 9 [.slice 4 (encTs a) w1, .slice 4 (encTs a) w2] st R := by
  refine pcalls_of_body tys_ok [] Tryz.func9 rfl (by decide) ?_
  repeat' ((conv => whnf); first
    | (with_reducible first | exact Wa | exact Wb | exact Wc | refine Wd (by kernel_rfl) ?_ | refine We ?_ ?_ ?_ | refine W8 (by decide +kernel) ?_ ?_ ?_ | refine W9 ?_ ?_ ?_ | refine Wt (by first | assumption | omega) ?_ | refine Wu (by first | assumption | omega) ?_ | refine Wv (by omega) ?_ | refine Ww (by omega) ?_ | refine Wf (by decide) (fun _ => ?_) (fun _ => ?_) | refine Wg (fun _ => ?_) (fun _ => ?_) | refine Wh (fun _ => ?_) (fun _ => ?_) | refine Wi ?_ | refine Wj ?_ | refine Wk (fun _ => ?_) (fun _ => ?_) | refine Wl (fun _ => ?_) | refine Wm (by assumption) (by omega) ?_ | refine Wn (by omega) (by omega) (fun _ _ _ => ?_) | refine Wo (by omega) (by omega) ?_ | refine Wp (by omega) (by omega) (by omega) ?_ | refine Wq (by omega) (by omega) ?_ | refine Wr (by decide) (by omega) (by omega) ?_ | refine Ws (by decide) ?_ | refine Wx (fun _ => ?_) ?_ | refine Wy (fun _ => ?_) ?_ | refine Wz (fun _ => ?_) | refine WA (fun _ => ?_) | refine WB (by assumption) (by omega) ?_ | refine WC (by omega) (by omega) (fun _ _ => ?_) | refine WD (by omega) (by omega) (fun _ _ => ?_) | refine WE (by omega) (by omega) (by omega) ?_)
    | refine Wz (fun _ => ?_)
    | with_reducible refine WF ?_)
  refine loop_nb 5 [0, 1] [] a.length (fun k => k ≤ a.length) (Nat.zero_le _) (by refine ⟨rfl, ?_, ?_, rfl⟩ <;> repeat' (first | exact trivial | exact rfl | refine And.intro ?_ ?_)) ?_
  intro k hk
  by_cases hlt : k < a.length
  · obtain ⟨x, hx⟩ : ∃ x, a[(k : Int).toNat]? = some x := ⟨_, List.getElem?_eq_getElem hlt⟩
    repeat' ((conv => whnf); first
      | refine bc_tok ?_
      | refine bc_tokn ?_
      | (with_reducible first | exact Wa | exact Wb | exact Wc | refine Wd (by kernel_rfl) ?_ | refine We ?_ ?_ ?_ | refine W8 (by decide +kernel) ?_ ?_ ?_ | refine W9 ?_ ?_ ?_ | refine Wt (by first | assumption | omega) ?_ | refine Wu (by first | assumption | omega) ?_ | refine Wv (by omega) ?_ | refine Ww (by omega) ?_ | refine Wf (by decide) (fun _ => ?_) (fun _ => ?_) | refine Wg (fun _ => ?_) (fun _ => ?_) | refine Wh (fun _ => ?_) (fun _ => ?_) | refine Wi ?_ | refine Wj ?_ | refine Wk (fun _ => ?_) (fun _ => ?_) | refine Wl (fun _ => ?_) | refine Wm (by assumption) (by omega) ?_ | refine Wn (by omega) (by omega) (fun _ _ _ => ?_) | refine Wo (by omega) (by omega) ?_ | refine Wp (by omega) (by omega) (by omega) ?_ | refine Wq (by omega) (by omega) ?_ | refine Wr (by decide) (by omega) (by omega) ?_ | refine Ws (by decide) ?_ | refine Wx (fun _ => ?_) ?_ | refine Wy (fun _ => ?_) ?_ | refine Wz (fun _ => ?_) | refine WA (fun _ => ?_) | refine WB (by assumption) (by omega) ?_ | refine WC (by omega) (by omega) (fun _ _ => ?_) | refine WD (by omega) (by omega) (fun _ _ => ?_) | refine WE (by omega) (by omega) (by omega) ?_)
      | refine Wz (fun _ => ?_)
      | with_reducible refine WF ?_)
    all_goals conv => whnf
    all_goals exact ⟨k + 1, hlt, Nat.sub_lt_sub_left hlt (Nat.lt_succ_self k), (by refine ⟨rfl, ?_, ?_, rfl⟩ <;> repeat' (first | exact trivial | exact rfl | refine And.intro ?_ ?_)), St.le_refl _⟩
  · skip
    repeat' ((conv => whnf); first
      | (with_reducible first | exact Wa | exact Wb | exact Wc | refine Wd (by kernel_rfl) ?_ | refine We ?_ ?_ ?_ | refine W8 (by decide +kernel) ?_ ?_ ?_ | refine W9 ?_ ?_ ?_ | refine Wt (by first | assumption | omega) ?_ | refine Wu (by first | assumption | omega) ?_ | refine Wv (by omega) ?_ | refine Ww (by omega) ?_ | refine Wf (by decide) (fun _ => ?_) (fun _ => ?_) | refine Wg (fun _ => ?_) (fun _ => ?_) | refine Wh (fun _ => ?_) (fun _ => ?_) | refine Wi ?_ | refine Wj ?_ | refine Wk (fun _ => ?_) (fun _ => ?_) | refine Wl (fun _ => ?_) | refine Wm (by assumption) (by omega) ?_ | refine Wn (by omega) (by omega) (fun _ _ _ => ?_) | refine Wo (by omega) (by omega) ?_ | refine Wp (by omega) (by omega) (by omega) ?_ | refine Wq (by omega) (by omega) ?_ | refine Wr (by decide) (by omega) (by omega) ?_ | refine Ws (by decide) ?_ | refine Wx (fun _ => ?_) ?_ | refine Wy (fun _ => ?_) ?_ | refine Wz (fun _ => ?_) | refine WA (fun _ => ?_) | refine WB (by assumption) (by omega) ?_ | refine WC (by omega) (by omega) (fun _ _ => ?_) | refine WD (by omega) (by omega) (fun _ _ => ?_) | refine WE (by omega) (by omega) (by omega) ?_)
      | refine Wz (fun _ => ?_)
      | with_reducible refine WF ?_)
    all_goals exact fin h rfl
theorem notesame_c {a : List Nt} {w1 w2 : Own} (h : R (.ret (.bool true)) st) : PC 10 [.slice 5 (encNs a) w1, .slice 5 (encNs a) w2] st R := by
  refine pcalls_of_body tys_ok [] Tryz.func10 rfl (by decide) ?_
  repeat' ((conv => whnf); first
    | (with_reducible first | exact Wa | exact Wb | exact Wc | refine Wd (by kernel_rfl) ?_ | refine We ?_ ?_ ?_ | refine W8 (by decide +kernel) ?_ ?_ ?_ | refine W9 ?_ ?_ ?_ | refine Wt (by first | assumption | omega) ?_ | refine Wu (by first | assumption | omega) ?_ | refine Wv (by omega) ?_ | refine Ww (by omega) ?_ | refine Wf (by decide) (fun _ => ?_) (fun _ => ?_) | refine Wg (fun _ => ?_) (fun _ => ?_) | refine Wh (fun _ => ?_) (fun _ => ?_) | refine Wi ?_ | refine Wj ?_ | refine Wk (fun _ => ?_) (fun _ => ?_) | refine Wl (fun _ => ?_) | refine Wm (by assumption) (by omega) ?_ | refine Wn (by omega) (by omega) (fun _ _ _ => ?_) | refine Wo (by omega) (by omega) ?_ | refine Wp (by omega) (by omega) (by omega) ?_ | refine Wq (by omega) (by omega) ?_ | refine Wr (by decide) (by omega) (by omega) ?_ | refine Ws (by decide) ?_ | refine Wx (fun _ => ?_) ?_ | refine Wy (fun _ => ?_) ?_ | refine Wz (fun _ => ?_) | refine WA (fun _ => ?_) | refine WB (by assumption) (by omega) ?_ | refine WC (by omega) (by omega) (fun _ _ => ?_) | refine WD (by omega) (by omega) (fun _ _ => ?_) | refine WE (by omega) (by omega) (by omega) ?_)
    | refine len_notes (fun _ => ?_)
    | with_reducible refine WF ?_)
  refine loop_nb 5 [0, 1] [] a.length (fun k => k ≤ a.length) (Nat.zero_le _) (by refine ⟨rfl, ?_, ?_, rfl⟩ <;> repeat' (first | exact trivial | exact rfl | refine And.intro ?_ ?_)) ?_
  intro k hk
  by_cases hlt : k < a.length
  · obtain ⟨x, hx⟩ : ∃ x, a[(k : Int).toNat]? = some x := ⟨_, List.getElem?_eq_getElem hlt⟩
    repeat' ((conv => whnf); first
      | refine bc_nt ?_
      | refine bc_ntn ?_
      | (with_reducible first | exact Wa | exact Wb | exact Wc | refine Wd (by kernel_rfl) ?_ | refine We ?_ ?_ ?_ | refine W8 (by decide +kernel) ?_ ?_ ?_ | refine W9 ?_ ?_ ?_ | refine Wt (by first | assumption | omega) ?_ | refine Wu (by first | assumption | omega) ?_ | refine Wv (by omega) ?_ | refine Ww (by omega) ?_ | refine Wf (by decide) (fun _ => ?_) (fun _ => ?_) | refine Wg (fun _ => ?_) (fun _ => ?_) | refine Wh (fun _ => ?_) (fun _ => ?_) | refine Wi ?_ | refine Wj ?_ | refine Wk (fun _ => ?_) (fun _ => ?_) | refine Wl (fun _ => ?_) | refine Wm (by assumption) (by omega) ?_ | refine Wn (by omega) (by omega) (fun _ _ _ => ?_) | refine Wo (by omega) (by omega) ?_ | refine Wp (by omega) (by omega) (by omega) ?_ | refine Wq (by omega) (by omega) ?_ | refine Wr (by decide) (by omega) (by omega) ?_ | refine Ws (by decide) ?_ | refine Wx (fun _ => ?_) ?_ | refine Wy (fun _ => ?_) ?_ | refine Wz (fun _ => ?_) | refine WA (fun _ => ?_) | refine WB (by assumption) (by omega) ?_ | refine WC (by omega) (by omega) (fun _ _ => ?_) | refine WD (by omega) (by omega) (fun _ _ => ?_) | refine WE (by omega) (by omega) (by omega) ?_)
      | refine len_notes (fun _ => ?_)
      | refine note_known hx (by omega) ?_
      | with_reducible refine WF ?_)
    all_goals conv => whnf
    all_goals exact ⟨k + 1, hlt, Nat.sub_lt_sub_left hlt (Nat.lt_succ_self k), (by refine ⟨rfl, ?_, ?_, rfl⟩ <;> repeat' (first | exact trivial | exact rfl | refine And.intro ?_ ?_)), St.le_refl _⟩
  · skip
    repeat' ((conv => whnf); first
      | (with_reducible first | exact Wa | exact Wb | exact Wc | refine Wd (by kernel_rfl) ?_ | refine We ?_ ?_ ?_ | refine W8 (by decide +kernel) ?_ ?_ ?_ | refine W9 ?_ ?_ ?_ | refine Wt (by first | assumption | omega) ?_ | refine Wu (by first | assumption | omega) ?_ | refine Wv (by omega) ?_ | refine Ww (by omega) ?_ | refine Wf (by decide) (fun _ => ?_) (fun _ => ?_) | refine Wg (fun _ => ?_) (fun _ => ?_) | refine Wh (fun _ => ?_) (fun _ => ?_) | refine Wi ?_ | refine Wj ?_ | refine Wk (fun _ => ?_) (fun _ => ?_) | refine Wl (fun _ => ?_) | refine Wm (by assumption) (by omega) ?_ | refine Wn (by omega) (by omega) (fun _ _ _ => ?_) | refine Wo (by omega) (by omega) ?_ | refine Wp (by omega) (by omega) (by omega) ?_ | refine Wq (by omega) (by omega) ?_ | refine Wr (by decide) (by omega) (by omega) ?_ | refine Ws (by decide) ?_ | refine Wx (fun _ => ?_) ?_ | refine Wy (fun _ => ?_) ?_ | refine Wz (fun _ => ?_) | refine WA (fun _ => ?_) | refine WB (by assumption) (by omega) ?_ | refine WC (by omega) (by omega) (fun _ _ => ?_) | refine WD (by omega) (by omega) (fun _ _ => ?_) | refine WE (by omega) (by omega) (by omega) ?_)
      | refine len_notes (fun _ => ?_)
      | with_reducible refine WF ?_)
    all_goals exact fin h rfl
end
end Go.Proofs.YtkcapphlemoccaaGreatDoor
set_option linter.unusedVariables false
namespace Go.Proofs.YtkcapphlemoccaaGreatDoor
open Go Go.Aw
section
variable {st : St} {R : Res → St → Prop}
attribute [local irreducible] Go.Aw.storeTo
theorem len_is {α : Type} {es : List α} {n : Nat} {K : Nat → Prop} (h : es.length = n) (k : K n) : ∀ m, m = es.length → m < lim → K m := fun m hm _ => by rw [h] at hm; subst hm; exact k
end
end Go.Proofs.YtkcapphlemoccaaGreatDoor
set_option linter.unusedVariables false
namespace Go.Proofs.YtkcapphlemoccaaGreatDoor
open Go Go.Aw
def awk1 : List UInt8 := [120, 32, 45, 45, 32, 97, 10, 123, 45, 32, 98, 32, 45, 125, 32, 61, 32, 123, 45, 32, 99, 32, 45, 125, 32, 49]
def awk2 : List UInt8 := [97, 10, 32, 32, 39]
theorem awk1_eq : lexF awk1 = .inr ⟨[⟨1, [120], 1, 1⟩, ⟨10, [61], 2, 9⟩, ⟨11, [49], 2, 19⟩], [⟨[45, 45, 32, 97], 1, 2, 1, 3⟩, ⟨[123, 45, 32, 98, 32, 45, 125], 1, 3, 2, 1⟩, ⟨[123, 45, 32, 99, 32, 45, 125], 2, 1, 2, 11⟩], 3, 2, true⟩ := by
  kernel_rfl
theorem awk2_eq : lexF awk2 = .inl (5, 50) := by
  kernel_rfl
end Go.Proofs.YtkcapphlemoccaaGreatDoor
set_option linter.unusedVariables false
namespace Go.Proofs.YtkcapphlemoccaaGreatDoor
open Go Go.Aw
theorem at_const {es : List (List V)} {i : Int} {e : List V} {K : List V → Prop} (h0 : 0 ≤ i) (h : es[i.toNat]? = some e) (k : K e) : 0 ≤ i ∧ ∃ e, es[i.toNat]? = some e ∧ K e := ⟨h0, e, h, k⟩
section
variable {st : St} {R : Res → St → Prop}
theorem lex_l {s : List UInt8} {i e : Int} (hs : lexF s = .inl (i, e)) (h : ∀ st', st.le st' → R (.ret (.tup [.slice 4 [] .full, .slice 5 [] .full, .int .i64 i, .int .i64 e])) st') : PC 7 [.str s] st R := by
  refine lex_c (fun i' e' he => ?_) (fun i' e' st' hle he => ?_) (fun x w1 w2 st' he => ?_)
  · rw [hs] at he; injection he with he; injection he with e1 e2; subst e1; subst e2; exact h st (St.le_refl _)
  · rw [hs] at he; injection he with he; injection he with e1 e2; subst e1; subst e2; exact h st' hle
  · rw [hs] at he; cases he
theorem lex_r {s : List UInt8} {x : Lx} (hs : lexF s = .inr x) (h : ∀ w1 w2 st', st.le st' → R (.ret (.tup [.slice 4 (encTs x.toks) w1, .slice 5 (encNs x.notes) w2, .int .i64 0, .int .i64 0])) st') : PC 7 [.str s] st R := by
  refine lex_c (fun i' e' he => ?_) (fun i' e' st' hle he => ?_) (fun x w1 w2 st' he hle => ?_)
  · rw [hs] at he; cases he
  · rw [hs] at he; cases he
  · rw [hs] at he; injection he with he; subst he; exact h w1 w2 st' hle
theorem rlex_l {s : List UInt8} {i e : Int} (hl : s.length < 4611686018427387904) (hs : lexF s = .inl (i, e)) (h : ∀ st', st.le st' → R (.ret (.agg [.slice 4 [] .full, .slice 5 [] .full, .int .i64 i, .int .i64 e])) st') : PC 8 [.str s] st R := by
  refine rlex_c hl (fun i' e' st' hle he => ?_) (fun x w1 w2 st' hle he => ?_)
  · rw [hs] at he; injection he with he; injection he with e1 e2; subst e1; subst e2; exact h st' hle
  · rw [hs] at he; cases he
theorem rlex_r {s : List UInt8} {x : Lx} (hl : s.length < 4611686018427387904) (hs : lexF s = .inr x) (h : ∀ w1 w2 st', st.le st' → R (.ret (.agg [.slice 4 (encTs x.toks) w1, .slice 5 (encNs x.notes) w2, .int .i64 0, .int .i64 0])) st') : PC 8 [.str s] st R := by
  refine rlex_c hl (fun i' e' st' hle he => ?_) (fun x w1 w2 st' hle he => ?_)
  · rw [hs] at he; cases he
  · rw [hs] at he; injection he with he; subst he; exact h w1 w2 st' hle
theorem awake_c (h : ∀ st', st.le st' → R (.ret (.bool true)) st') : PC 6 [] st R := by
  refine pcalls_of_body tys_ok [] Tryz.func6 rfl (by decide) ?_
  repeat' ((conv => whnf); first
    | refine bc_t2 rfl ?_
    | refine bc_f2 rfl ?_
    | refine len_is (n := 3) rfl ?_
    | (with_reducible first | exact Wa | exact Wb | exact Wc | refine Wd (by kernel_rfl) ?_ | refine We ?_ ?_ ?_ | refine W8 (by decide +kernel) ?_ ?_ ?_ | refine W9 ?_ ?_ ?_ | refine Wt (by first | assumption | omega) ?_ | refine Wu (by first | assumption | omega) ?_ | refine Wv (by omega) ?_ | refine Ww (by omega) ?_ | refine Wf (by decide) (fun _ => ?_) (fun _ => ?_) | refine Wg (fun _ => ?_) (fun _ => ?_) | refine Wh (fun _ => ?_) (fun _ => ?_) | refine Wi ?_ | refine Wj ?_ | refine Wk (fun _ => ?_) (fun _ => ?_) | refine Wl (fun _ => ?_) | refine Wm (by assumption) (by omega) ?_ | refine Wn (by omega) (by omega) (fun _ _ _ => ?_) | refine Wo (by omega) (by omega) ?_ | refine Wp (by omega) (by omega) (by omega) ?_ | refine Wq (by omega) (by omega) ?_ | refine Wr (by decide) (by omega) (by omega) ?_ | refine Ws (by decide) ?_ | refine Wx (fun _ => ?_) ?_ | refine Wy (fun _ => ?_) ?_ | refine Wz (fun _ => ?_) | refine WA (fun _ => ?_) | refine WB (by assumption) (by omega) ?_ | refine WC (by omega) (by omega) (fun _ _ => ?_) | refine WD (by omega) (by omega) (fun _ _ => ?_) | refine WE (by omega) (by omega) (by omega) ?_)
    | refine lex_r awk1_eq (fun w1 w2 st1 hle1 => ?_)
    | refine lex_l awk2_eq (fun st2 hle2 => ?_)
    | refine at_const (by omega) rfl ?_
    | with_reducible refine WF ?_)
  all_goals exact fin (h st2 (St.le_trans hle1 hle2)) rfl
theorem lexTells_c {s : List UInt8} (hl : s.length < 4611686018427387904) (h : ∀ st', R (.ret (.bool true)) st') : PC 3 [.str s] st R := by
  refine pcalls_of_body tys_ok [] Tryz.func3 rfl (by decide) ?_
  cases e : lexF s with
  | inl q =>
    obtain ⟨i, e'⟩ := q
    have r0 : ∀ {st : St} {R : Res → St → Prop} {w1 w2 : Own}, R (.ret (.bool true)) st → PC 9 [.slice 4 [] w1, .slice 4 [] w2] st R := fun h => toksame_c (a := []) h
    have r1 : ∀ {st : St} {R : Res → St → Prop} {w1 w2 : Own}, R (.ret (.bool true)) st → PC 10 [.slice 5 [] w1, .slice 5 [] w2] st R := fun h => notesame_c (a := []) h
    repeat' ((conv => whnf); first
      | (with_reducible first | exact Wa | exact Wb | exact Wc | refine Wd (by kernel_rfl) ?_ | refine We ?_ ?_ ?_ | refine W8 (by decide +kernel) ?_ ?_ ?_ | refine W9 ?_ ?_ ?_ | refine Wt (by first | assumption | omega) ?_ | refine Wu (by first | assumption | omega) ?_ | refine Wv (by omega) ?_ | refine Ww (by omega) ?_ | refine Wf (by decide) (fun _ => ?_) (fun _ => ?_) | refine Wg (fun _ => ?_) (fun _ => ?_) | refine Wh (fun _ => ?_) (fun _ => ?_) | refine Wi ?_ | refine Wj ?_ | refine Wk (fun _ => ?_) (fun _ => ?_) | refine Wl (fun _ => ?_) | refine Wm (by assumption) (by omega) ?_ | refine Wn (by omega) (by omega) (fun _ _ _ => ?_) | refine Wo (by omega) (by omega) ?_ | refine Wp (by omega) (by omega) (by omega) ?_ | refine Wq (by omega) (by omega) ?_ | refine Wr (by decide) (by omega) (by omega) ?_ | refine Ws (by decide) ?_ | refine Wx (fun _ => ?_) ?_ | refine Wy (fun _ => ?_) ?_ | refine Wz (fun _ => ?_) | refine WA (fun _ => ?_) | refine WB (by assumption) (by omega) ?_ | refine WC (by omega) (by omega) (fun _ _ => ?_) | refine WD (by omega) (by omega) (fun _ _ => ?_) | refine WE (by omega) (by omega) (by omega) ?_)
      | refine WJ (fun _ => ?_)
      | refine lex_l e (fun st1 hle1 => ?_)
      | refine rlex_l hl e (fun st2 hle2 => ?_)
      | refine awake_c (fun st3 hle3 => ?_)
      | refine r0 ?_
      | refine r1 ?_
      | with_reducible refine WF ?_)
    all_goals exact fin (h _) rfl
  | inr x =>
    repeat' ((conv => whnf); first
      | (with_reducible first | exact Wa | exact Wb | exact Wc | refine Wd (by kernel_rfl) ?_ | refine We ?_ ?_ ?_ | refine W8 (by decide +kernel) ?_ ?_ ?_ | refine W9 ?_ ?_ ?_ | refine Wt (by first | assumption | omega) ?_ | refine Wu (by first | assumption | omega) ?_ | refine Wv (by omega) ?_ | refine Ww (by omega) ?_ | refine Wf (by decide) (fun _ => ?_) (fun _ => ?_) | refine Wg (fun _ => ?_) (fun _ => ?_) | refine Wh (fun _ => ?_) (fun _ => ?_) | refine Wi ?_ | refine Wj ?_ | refine Wk (fun _ => ?_) (fun _ => ?_) | refine Wl (fun _ => ?_) | refine Wm (by assumption) (by omega) ?_ | refine Wn (by omega) (by omega) (fun _ _ _ => ?_) | refine Wo (by omega) (by omega) ?_ | refine Wp (by omega) (by omega) (by omega) ?_ | refine Wq (by omega) (by omega) ?_ | refine Wr (by decide) (by omega) (by omega) ?_ | refine Ws (by decide) ?_ | refine Wx (fun _ => ?_) ?_ | refine Wy (fun _ => ?_) ?_ | refine Wz (fun _ => ?_) | refine WA (fun _ => ?_) | refine WB (by assumption) (by omega) ?_ | refine WC (by omega) (by omega) (fun _ _ => ?_) | refine WD (by omega) (by omega) (fun _ _ => ?_) | refine WE (by omega) (by omega) (by omega) ?_)
      | refine WJ (fun _ => ?_)
      | refine lex_r e (fun w1 w2 st1 hle1 => ?_)
      | refine rlex_r hl e (fun v1 v2 st2 hle2 => ?_)
      | refine awake_c (fun st3 hle3 => ?_)
      | refine toksame_c ?_
      | refine notesame_c ?_
      | with_reducible refine WF ?_)
    all_goals exact fin (h _) rfl
end
end Go.Proofs.YtkcapphlemoccaaGreatDoor
