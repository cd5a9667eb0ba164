/-
  AW, PART 3. A frame over the memory; how the memory may turn, and what stays known.
-/
import Derived.Test.YtngbihfihdheoaaAw2
import Derived.Laws.CopyRow
set_option linter.unusedVariables false
namespace Go.Aw
open Go

/-- what is known of a frame -/
structure RelF (D : List Deferred) (B : Nat) (I : Mem) (β : Nat → Option Nat) (env : Env) (st : St) (a : Act) (w : World) : Prop where
  size : a.tmps.size = env.sz
  tmps : ∀ t v, assoc env.tmps t = some v → RepT I β v (a.tmps.getD t undef)
  box : ∀ id cs, assoc env.boxes id = some cs → ∃ (b : Nat) (vs : List Value) (ty : TypeId), β id = some b ∧ w.heap[b]? = some (.cells vs.toArray ty (0, 0)) ∧ RepL I cs vs
  nxt : ∀ id b, β id = some b → id < env.nxt
  inj : ∀ i j b, β i = some b → β j = some b → i = j
  sep : ∀ id b, β id = some b → B ≤ b ∧ b < w.heap.size ∧ (∀ o, I.cell b o = none) ∧ I.shape b = none ∧ st.box b = none ∧ st.hw b = none
  defers : a.defers = D

structure Rel (D : List Deferred) (I0 : Mem) (st0 : St) (w0 : World) (I : Mem) (β : Nat → Option Nat) (env : Env) (st : St) (a : Act) (w : World) : Prop where
  fr : Fr I0 st0 w0 I st w
  s : RelS I st w
  f : RelF D w0.heap.size I β env st a w

section
variable {D : List Deferred} {I0 I : Mem} {st0 st : St} {w0 w w' : World} {β : Nat → Option Nat} {env : Env} {a : Act}

/-- the memory has more blocks; the old ones are as they were -/
structure Grew (w w' : World) : Prop where
  os : w'.os = w.os
  tape : w'.tape = w.tape
  output : w'.output = w.output
  size : w.heap.size ≤ w'.heap.size
  old : ∀ b, b < w.heap.size → w'.heap[b]? = w.heap[b]?
theorem Grew.refl (w : World) : Grew w w := ⟨rfl, rfl, rfl, Nat.le_refl _, fun _ _ => rfl⟩
theorem Grew.drew (w : World) : Grew w w.drew := ⟨rfl, rfl, rfl, Nat.le_refl _, fun _ _ => rfl⟩
theorem Grew.alloc (w : World) (o : Obj) : Grew w (w.alloc o) :=
  ⟨rfl, rfl, rfl, by simp, fun b hb => by simp only [World.alloc, Array.getElem?_push]; rw [if_neg (by omega)]⟩
theorem Grew.trans {x y z : World} (h : Grew x y) (k : Grew y z) : Grew x z :=
  ⟨k.os.trans h.os, k.tape.trans h.tape, k.output.trans h.output, Nat.le_trans h.size k.size, fun b hb => (k.old b (Nat.lt_of_lt_of_le hb h.size)).trans (h.old b hb)⟩

theorem lt_of_heap {w : World} {b : Nat} {o : Obj} (h : w.heap[b]? = some o) : b < w.heap.size := by
  rcases Nat.lt_or_ge b w.heap.size with h' | h'
  · exact h'
  · rw [Array.getElem?_eq_none h'] at h; cases h
theorem lt_of_cell {w : World} {b o : Nat} {v : Value} (h : w.cell? ⟨b, o, none⟩ = some v) : b < w.heap.size := World.block_lt_of_cell? _ _ h
theorem cell_eq {w w' : World} {b o : Nat} (h : w'.heap[b]? = w.heap[b]?) : w'.cell? ⟨b, o, none⟩ = w.cell? ⟨b, o, none⟩ := by
  simp only [World.cell?, h]

theorem RelS.grew (h : RelS I st w) (g : Grew w w') : RelS I st w' where
  cell b o v k := by have := h.cell b o v k; rw [cell_eq (g.old b (lt_of_cell this))]; exact this
  shape b n k := by obtain ⟨c, ty, h1, h2⟩ := h.shape b n k; exact ⟨c, ty, by rw [g.old b (lt_of_heap h1)]; exact h1, h2⟩
  box b cs k := by obtain ⟨vs, ty, h1, h2⟩ := h.box b cs k; exact ⟨vs, ty, by rw [g.old b (lt_of_heap h1)]; exact h1, h2⟩
  boxI := h.boxI
  hw b n k := ⟨Nat.lt_of_lt_of_le (h.hw b n k).1 g.size, (h.hw b n k).2⟩
theorem Fr.grew (h : Fr I0 st0 w0 I st w) (g : Grew w w') : Fr I0 st0 w0 I st w' where
  os := g.os.trans h.os
  tape := g.tape.trans h.tape
  output := g.output.trans h.output
  size := Nat.le_trans h.size g.size
  old b hb h1 h2 := (g.old b (Nat.lt_of_lt_of_le hb h.size)).trans (h.old b hb h1 h2)
  le := h.le
  new := h.new
  newS := h.newS
  dom := h.dom
theorem RelF.grew {B : Nat} (h : RelF D B I β env st a w) (g : Grew w w') : RelF D B I β env st a w' where
  size := h.size
  tmps := h.tmps
  box id cs k := by obtain ⟨b, vs, ty, h0, h1, h2⟩ := h.box id cs k; exact ⟨b, vs, ty, h0, by rw [g.old b (lt_of_heap h1)]; exact h1, h2⟩
  nxt := h.nxt
  inj := h.inj
  sep id b k := ⟨(h.sep id b k).1, Nat.lt_of_lt_of_le (h.sep id b k).2.1 g.size, (h.sep id b k).2.2⟩
  defers := h.defers
theorem Rel.grew (h : Rel D I0 st0 w0 I β env st a w) (g : Grew w w') : Rel D I0 st0 w0 I β env st a w' := ⟨h.fr.grew g, h.s.grew g, h.f.grew g⟩

theorem heap_alloc_new (w : World) (o : Obj) : (w.alloc o).heap[w.heap.size]? = some o := by
  simp only [World.alloc, Array.getElem?_push, if_true]
theorem st_lt (h : RelS I st w) {b : Nat} (k : st.box b ≠ none ∨ st.hw b ≠ none) : b < w.heap.size := by
  rcases k with k | k
  · cases hb : st.box b with
    | none => exact absurd hb k
    | some cs => obtain ⟨vs, ty, h1, _⟩ := h.box b cs hb; exact lt_of_heap h1
  · cases hb : st.hw b with
    | none => exact absurd hb k
    | some n => exact (h.hw b n hb).1
theorem fresh_new (h : RelS I st w) : st.fresh w.heap.size := by
  constructor
  · cases hb : st.box w.heap.size with
    | none => rfl
    | some cs => exact absurd (st_lt h (.inl (by rw [hb]; simp))) (Nat.lt_irrefl _)
  · cases hb : st.hw w.heap.size with
    | none => rfl
    | some cs => exact absurd (st_lt h (.inr (by rw [hb]; simp))) (Nat.lt_irrefl _)
theorem cell_new (h : RelS I st w) (o : Nat) : I.cell w.heap.size o = none := by
  cases hb : I.cell w.heap.size o with
  | none => rfl
  | some v => exact absurd (lt_of_cell (h.cell _ _ _ hb)) (Nat.lt_irrefl _)
theorem shape_new (h : RelS I st w) : I.shape w.heap.size = none := by
  cases hb : I.shape w.heap.size with
  | none => rfl
  | some v => obtain ⟨c, ty, h1, _⟩ := h.shape _ _ hb; exact absurd (lt_of_heap h1) (Nat.lt_irrefl _)

/-- a new box of the frame's own -/
theorem Rel.localBoxAt (h : Rel D I0 st0 w0 I β env st a w) {cs : List V} {vs : List Value} (k : RepL I cs vs) (ty : TypeId) {x n : Nat} (hx : β x = none) (hn : x < n) (hle : env.nxt ≤ n) :
    Rel D I0 st0 w0 I (fun i => if i = x then some w.heap.size else β i) { env with boxes := (x, cs) :: env.boxes, nxt := n } st a (w.alloc (.cells vs.toArray ty)) := by
  have g := Grew.alloc w (.cells vs.toArray ty)
  have h' := h.grew g
  have hne : ∀ id b, β id = some b → id ≠ x := fun id b e => by rintro rfl; rw [hx] at e; cases e
  refine ⟨h'.fr, h'.s, { h'.f with tmps := ?_, box := ?_, nxt := ?_, inj := ?_, sep := ?_ }⟩
  · intro t v e
    have := h.f.tmps t v e
    cases v <;> first
      | exact this
      | (obtain ⟨b, h1, h2⟩ := this; exact ⟨b, (if_neg (hne _ _ h1)).trans h1, h2⟩)
  · intro id cs' e
    rw [assoc_cons] at e
    cases hb : Nat.beq x id with
    | true =>
      rw [hb] at e
      have := Nat.eq_of_beq_eq_true hb
      subst this
      simp only [cond_true, Option.some.injEq] at e
      subst e
      exact ⟨_, vs, ty, if_pos rfl, heap_alloc_new w _, k⟩
    | false =>
      rw [hb] at e
      obtain ⟨b, vs', ty', h1, h2, h3⟩ := h'.f.box id cs' e
      exact ⟨b, vs', ty', (if_neg (hne _ _ h1)).trans h1, h2, h3⟩
  · intro id b e
    split at e
    · rename_i hid; subst hid; exact hn
    · exact Nat.lt_of_lt_of_le (h.f.nxt id b e) hle
  · intro i j b e1 e2
    split at e1 <;> split at e2
    · rename_i x y; rw [x, y]
    · injection e1 with e1; subst e1; exact absurd (h.f.sep _ _ e2).2.1 (Nat.lt_irrefl _)
    · injection e2 with e2; subst e2; exact absurd (h.f.sep _ _ e1).2.1 (Nat.lt_irrefl _)
    · exact h.f.inj i j b e1 e2
  · intro id b e
    split at e
    · injection e with e
      subst e
      exact ⟨h.fr.size, by simp, cell_new h.s, shape_new h.s, (fresh_new h.s).1, (fresh_new h.s).2⟩
    · exact h'.f.sep id b e

theorem Rel.localBox (h : Rel D I0 st0 w0 I β env st a w) {cs : List V} {vs : List Value} (k : RepL I cs vs) (ty : TypeId) :
    Rel D I0 st0 w0 I (fun i => if i = env.nxt then some w.heap.size else β i) { env with boxes := (env.nxt, cs) :: env.boxes, nxt := env.nxt + 1 } st a (w.alloc (.cells vs.toArray ty)) :=
  h.localBoxAt k ty (by
    cases e : β env.nxt with
    | none => rfl
    | some b => exact absurd (h.f.nxt _ _ e) (Nat.lt_irrefl _)) (Nat.lt_succ_self _) (Nat.le_succ _)
theorem Rel.nxtUp (h : Rel D I0 st0 w0 I β env st a w) {n : Nat} (hn : env.nxt ≤ n) : Rel D I0 st0 w0 I β { env with nxt := n } st a w :=
  ⟨h.fr, h.s, { h.f with nxt := fun id b e => Nat.lt_of_lt_of_le (h.f.nxt id b e) hn }⟩

/-- a new box that may be handed on -/
theorem Rel.globalBox (h : Rel D I0 st0 w0 I β env st a w) {cs : List V} {vs : List Value} (k : RepL I cs vs) (ty : TypeId) :
    Rel D I0 st0 w0 I β env (st.setBox w.heap.size cs) a (w.alloc (.cells vs.toArray ty)) := by
  have g := Grew.alloc w (.cells vs.toArray ty)
  have h' := h.grew g
  refine ⟨{ h'.fr with dom := ?_ }, { h'.s with box := ?_, boxI := ?_ }, { h'.f with sep := ?_ }⟩
  · intro b hb
    by_cases e : b = w.heap.size
    · exact .inl (by rw [e]; exact h.fr.size)
    · refine h.fr.dom b ?_
      simpa [St.setBox, e] using hb
  · intro b cs' e
    simp only [St.setBox] at e
    split at e
    · rename_i hb; subst hb; injection e with e; subst e; exact ⟨vs, ty, heap_alloc_new w _, k⟩
    · exact h'.s.box b cs' e
  · intro b e
    by_cases hb : b = w.heap.size
    · subst hb; exact ⟨cell_new h.s, (fresh_new h.s).2, shape_new h.s⟩
    · exact h.s.boxI b (by simpa [St.setBox, hb] using e)
  · intro id b e
    obtain ⟨h1, h2, h3, h4, h5, h6⟩ := h.f.sep id b e
    have : b ≠ w.heap.size := by omega
    exact ⟨h1, by simp; omega, h3, h4, by simp [St.setBox, this, h5], h6⟩

/-- cells that nobody writes any more, from a place on -/
def Mem.add (I : Mem) (b h : Nat) (vs : List Value) (n : Nat) : Mem where
  cell := fun x o => if x = b ∧ h ≤ o ∧ o < h + vs.length then vs[o - h]? else I.cell x o
  shape := fun x => if x = b then some n else I.shape x
theorem Mem.le_add {I : Mem} {b h n : Nat} {vs : List Value} (k : ∀ o, h ≤ o → I.cell b o = none) (k2 : I.shape b = none ∨ I.shape b = some n) : I.le (I.add b h vs n) := by
  constructor
  · intro x o v e
    simp only [Mem.add]
    rw [if_neg]
    · exact e
    · rintro ⟨rfl, h1, _⟩
      rw [k o h1] at e; cases e
  · intro x m e
    simp only [Mem.add]
    split
    · rename_i hx
      subst hx
      rcases k2 with k2 | k2
      · rw [k2] at e; cases e
      · rw [k2] at e; exact e
    · exact e
/-- they hold what is laid in them -/
theorem RepC.add {I : Mem} {b h n : Nat} {vs : List Value} : ∀ (l : List V) (us : List Value) (o : Nat), RepL I l us → I.le (I.add b h vs n) →
    (∀ j c, us[j]? = some c → (I.add b h vs n).cell b (o + j) = some c) → RepC (I.add b h vs n) b o l
  | [], us, o, k, hl, hc => by simp only [RepC]
  | v :: r, us, o, k, hl, hc => by
    simp only [RepL] at k
    obtain ⟨c, s, e, k1, k2⟩ := k
    subst e
    simp only [RepC]
    refine ⟨⟨c, by simpa using hc 0 c (by simp), Rep.mono hl _ _ k1⟩, RepC.add r s (o + 1) k2 hl fun j c' hj => ?_⟩
    have := hc (j + 1) c' (by simpa using hj)
    rw [show o + 1 + j = o + (j + 1) by omega]; exact this
/-- rows of cells, one behind the other -/
def RepR (I : Mem) (sz : Nat) : List (List V) → List Value → Prop
  | [], vs => vs = []
  | e :: r, vs => ∃ us s, vs = us ++ s ∧ e.length = sz ∧ RepL I e us ∧ RepR I sz r s
theorem RepR.length {I : Mem} {sz : Nat} : ∀ {l : List (List V)} {vs : List Value}, RepR I sz l vs → vs.length = l.length * sz
  | [], vs, k => by simp only [RepR] at k; subst k; simp
  | e :: r, vs, k => by
    simp only [RepR] at k
    obtain ⟨us, s, e1, h1, h2, h3⟩ := k
    subst e1
    rw [List.length_append, ← RepL.length h2, h1, RepR.length h3, List.length_cons, Nat.add_mul]; omega
theorem RepE.add {I : Mem} {b h n sz : Nat} {vs : List Value} : ∀ (l : List (List V)) (us : List Value) (o : Nat), RepR I sz l us → I.le (I.add b h vs n) →
    (∀ j c, us[j]? = some c → (I.add b h vs n).cell b (o + j) = some c) → RepE (I.add b h vs n) sz b o l
  | [], us, o, k, hl, hc => by simp only [RepE]
  | e :: r, us, o, k, hl, hc => by
    simp only [RepR] at k
    obtain ⟨u1, s, e1, h1, h2, h3⟩ := k
    subst e1
    have hu : u1.length = sz := by rw [← RepL.length h2, h1]
    simp only [RepE]
    refine ⟨⟨h1, RepC.add e u1 o h2 hl fun j c hj => hc j c ?_⟩, RepE.add r s (o + sz) h3 hl fun j c hj => ?_⟩
    · have hlt : j < u1.length := by
        rcases Nat.lt_or_ge j u1.length with h | h
        · exact h
        · rw [List.getElem?_eq_none h] at hj; cases hj
      rw [List.getElem?_append_left hlt]; exact hj
    · have := hc (sz + j) c (by rw [List.getElem?_append_right (by omega)]; simpa [hu] using hj)
      rw [show o + sz + j = o + (sz + j) by omega]; exact this
theorem Mem.add_at {I : Mem} {b h n : Nat} {vs : List Value} {j : Nat} {c : Value} (hj : vs[j]? = some c) : (I.add b h vs n).cell b (h + j) = some c := by
  have hlt : j < vs.length := by
    rcases Nat.lt_or_ge j vs.length with h | h
    · exact h
    · rw [List.getElem?_eq_none h] at hj; cases hj
  show (if b = b ∧ h ≤ h + j ∧ h + j < h + vs.length then vs[h + j - h]? else I.cell b (h + j)) = some c
  rw [if_pos ⟨rfl, by omega, by omega⟩, show h + j - h = j by omega, hj]

theorem RepT.beta {v : V} {c : Value} {I : Mem} {β β' : Nat → Option Nat} (h : ∀ id b, β id = some b → β' id = some b) (k : RepT I β v c) : RepT I β' v c := by
  cases v <;> first | exact k | (obtain ⟨b, h1, h2⟩ := k; exact ⟨b, h _ _ h1, h2⟩)

/-- more is known of memory that nobody writes: of blocks that are no box of the frame's -/
theorem RelF.mem {B : Nat} {J : Mem} {st' : St} (h : RelF D B I β env st a w) (hl : I.le J)
    (hs : ∀ id b, β id = some b → (∀ o, J.cell b o = none) ∧ J.shape b = none ∧ st'.box b = none ∧ st'.hw b = none) : RelF D B J β env st' a w where
  size := h.size
  tmps t v e := (h.tmps t v e).mono hl
  box id cs e := by obtain ⟨b, vs, ty, h1, h2, h3⟩ := h.box id cs e; exact ⟨b, vs, ty, h1, h2, RepL.mono hl _ _ h3⟩
  nxt := h.nxt
  inj := h.inj
  sep id b e := ⟨(h.sep id b e).1, (h.sep id b e).2.1, hs id b e⟩
  defers := h.defers

/-- a new row: its first cells are written no more; of the others nothing is known -/
theorem Rel.newRow (h : Rel D I0 st0 w0 I β env st a w) (vs rest : List Value) (ty : TypeId) :
    Rel D I0 st0 w0 (I.add w.heap.size 0 vs (vs.length + rest.length)) β env (st.setHw w.heap.size vs.length) a (w.alloc (.cells (vs ++ rest).toArray ty)) := by
  have g := Grew.alloc w (.cells (vs ++ rest).toArray ty)
  have h' := h.grew g
  have hl : I.le (I.add w.heap.size 0 vs (vs.length + rest.length)) := Mem.le_add (fun o _ => cell_new h.s o) (.inl (shape_new h.s))
  refine ⟨{ h'.fr with le := Mem.le_trans h.fr.le hl, new := ?_, newS := ?_, dom := ?_ }, ⟨?_, ?_, ?_, ?_, ?_⟩, RelF.mem h'.f hl ?_⟩
  · intro b o h1 h2
    by_cases e : b = w.heap.size
    · exact .inl (by rw [e]; exact h.fr.size)
    · exact h.fr.new b o h1 (by simpa [Mem.add, e] using h2)
  · intro b h1 h2
    by_cases e : b = w.heap.size
    · exact .inl (by rw [e]; exact h.fr.size)
    · exact h.fr.newS b h1 (by simpa [Mem.add, e] using h2)
  · intro b hb
    by_cases e : b = w.heap.size
    · exact .inl (by rw [e]; exact h.fr.size)
    · refine h.fr.dom b ?_
      simpa [St.setHw, e] using hb
  · intro b o v e
    simp only [Mem.add] at e
    split at e
    · rename_i hb
      obtain ⟨rfl, h1, h2⟩ := hb
      simp only [World.cell?, heap_alloc_new]
      rw [Nat.sub_zero] at e
      simp only [Option.isSome_none, Bool.false_eq_true, if_false, List.getElem?_toArray]
      rw [List.getElem?_append_left (by omega)]; exact e
    · exact h'.s.cell b o v e
  · intro b n e
    simp only [Mem.add] at e
    split at e
    · rename_i hb; subst hb; injection e with e; subst e; exact ⟨_, ty, heap_alloc_new w _, by simp⟩
    · exact h'.s.shape b n e
  · intro b cs e
    obtain ⟨us, ty', h1, h2⟩ := h'.s.box b cs e
    exact ⟨us, ty', h1, RepL.mono hl _ _ h2⟩
  · intro b e
    have hne : b ≠ w.heap.size := fun hb => e (by rw [hb]; exact (fresh_new h.s).1)
    obtain ⟨h1, h2, h3⟩ := h.s.boxI b e
    exact ⟨fun o => by simp [Mem.add, hne, h1 o], by simp [St.setHw, hne, h2], by simp [Mem.add, hne, h3]⟩
  · intro b n e
    simp only [St.setHw] at e
    split at e
    · rename_i hb
      subst hb
      injection e with e
      subst e
      exact ⟨by simp, fun o ho => by simp only [Mem.add]; rw [if_neg (by omega)]; exact cell_new h.s o⟩
    · rename_i hb
      exact ⟨(h'.s.hw b n e).1, fun o ho => by simp only [Mem.add]; rw [if_neg (by simp [hb])]; exact (h'.s.hw b n e).2 o ho⟩
  · intro id b e
    obtain ⟨h1, h2, h3, h4, h5, h6⟩ := h.f.sep id b e
    have hne : b ≠ w.heap.size := by omega
    exact ⟨fun o => by simp [Mem.add, hne, h3 o], by simp [Mem.add, hne, h4], h5, by simp [St.setHw, hne, h6]⟩

/-- less is known of what may be written -/
theorem Rel.stLe {st' : St} (h : Rel D I0 st0 w0 I β env st a w) (k : st'.le st) : Rel D I0 st0 w0 I β env st' a w := by
  have hb : ∀ b, st'.box b ≠ none → st.box b ≠ none := fun b e => by
    cases hh : st'.box b with
    | none => exact absurd hh e
    | some c => rw [k.1 b c hh]; simp
  have hh : ∀ b, st'.hw b ≠ none → st.hw b ≠ none := fun b e => by
    cases hh : st'.hw b with
    | none => exact absurd hh e
    | some c => rw [k.2 b c hh]; simp
  have nb : ∀ b, st.box b = none → st'.box b = none := fun b e => by
    cases hh' : st'.box b with
    | none => rfl
    | some c => exact absurd e (hb b (by rw [hh']; simp))
  have nh : ∀ b, st.hw b = none → st'.hw b = none := fun b e => by
    cases hh' : st'.hw b with
    | none => rfl
    | some c => exact absurd e (hh b (by rw [hh']; simp))
  refine ⟨{ h.fr with dom := fun b e => h.fr.dom b (e.imp (hb b) (hh b)) }, { h.s with box := fun b cs e => h.s.box b cs (k.1 b cs e), boxI := fun b e => ?_, hw := fun b n e => h.s.hw b n (k.2 b n e) },
    { h.f with sep := fun id b e => ?_ }⟩
  · obtain ⟨h1, h2, h3⟩ := h.s.boxI b (hb b e); exact ⟨h1, nh b h2, h3⟩
  · obtain ⟨h1, h2, h3, h4, h5, h6⟩ := h.f.sep id b e; exact ⟨h1, h2, h3, h4, nb b h5, nh b h6⟩

/-- less is known of the frame -/
theorem Rel.envLe {env' : Env} (h : Rel D I0 st0 w0 I β env st a w) (k : env'.le env) :
    Rel D I0 st0 w0 I (fun id => if (assoc env'.boxes id).isSome then β id else none) env' st a w := by
  obtain ⟨k1, k2, k3, k4⟩ := k
  refine ⟨h.fr, h.s, ⟨h.f.size.trans k1.symm, ?_, ?_, ?_, ?_, ?_, h.f.defers⟩⟩
  · intro t v e
    rcases k2 t v e with rfl | ⟨h1, h2⟩
    · exact RepT.of (v := .junk) (by simp only [Rep])
    · have := h.f.tmps t v h1
      cases v <;> first
        | exact this
        | (obtain ⟨b, h3, h4⟩ := this; exact ⟨b, (if_pos (by simpa only [V.lptrIn] using h2)).trans h3, h4⟩)
  · intro id cs e
    obtain ⟨b, vs, ty, h1, h2, h3⟩ := h.f.box id cs (k3 id cs e)
    exact ⟨b, vs, ty, (if_pos (by rw [e]; rfl)).trans h1, h2, h3⟩
  · intro id b e
    split at e
    · rename_i hs
      cases ha : assoc env'.boxes id with
      | none => rw [ha] at hs; cases hs
      | some cs => exact k4 id cs ha
    · cases e
  · intro i j b e1 e2
    split at e1 <;> split at e2 <;> first | cases e1; done | cases e2; done | exact h.f.inj i j b e1 e2
  · intro id b e
    split at e
    · exact h.f.sep id b e
    · cases e
theorem Rel.put (h : Rel D I0 st0 w0 I β env st a w) {v : V} {c : Value} (k : RepT I β v c) {t : Nat} (ht : t < env.sz) :
    Rel D I0 st0 w0 I β { env with tmps := (t, v) :: env.tmps } st (a.put (some t) c) w := by
  refine ⟨h.fr, h.s, { h.f with size := ?_, tmps := ?_, defers := h.f.defers }⟩
  · simpa [Act.put] using h.f.size
  · intro t' v' e
    rw [assoc_cons] at e
    cases hb : Nat.beq t t' with
    | true =>
      rw [hb] at e
      have := Nat.eq_of_beq_eq_true hb
      subst this
      simp only [cond_true, Option.some.injEq] at e
      subst e
      have hlt : t < a.tmps.size := by rw [h.f.size]; exact ht
      simpa [Act.put, hlt] using k
    | false =>
      rw [hb] at e
      have hne : t ≠ t' := fun x => by subst x; simp at hb
      have := h.f.tmps t' v' e
      simpa [Act.put, Array.getElem?_setIfInBounds_ne hne] using this

theorem setRow_grewBut (w : World) (g : Nat) (cs : Array Value) : (w.setRow g cs).os = w.os ∧ (w.setRow g cs).tape = w.tape ∧ (w.setRow g cs).output = w.output ∧ (w.setRow g cs).heap.size = w.heap.size :=
  ⟨rfl, rfl, rfl, by simp⟩

/-- a box of the frame's own is written -/
theorem Rel.storeLocal (h : Rel D I0 st0 w0 I β env st a w) {id b : Nat} {cs cs' : List V} {vs us : List Value} {ty : TypeId} (hb : β id = some b) (hw : w.heap[b]? = some (.cells vs.toArray ty (0, 0)))
    (k : RepL I cs' us) : Rel D I0 st0 w0 I β { env with boxes := (id, cs') :: env.boxes } st a (w.setRow b us.toArray) := by
  obtain ⟨s1, s2, s3, s4, s5, s6⟩ := h.f.sep id b hb
  have hn := setRow_heap w b vs.toArray us.toArray ty (0, 0) hw
  have ho : ∀ x, x ≠ b → (w.setRow b us.toArray).heap[x]? = w.heap[x]? := fun x hx => setRow_other w b x us.toArray hx
  refine ⟨⟨h.fr.os, h.fr.tape, h.fr.output, by simpa using h.fr.size, fun x hx h1 h2 => ?_, h.fr.le, h.fr.new, h.fr.newS, h.fr.dom⟩, ⟨?_, ?_, ?_, h.s.boxI, ?_⟩, ⟨h.f.size, h.f.tmps, ?_, h.f.nxt, h.f.inj, ?_, h.f.defers⟩⟩
  · rw [ho x (by omega)]; exact h.fr.old x hx h1 h2
  · intro x o v e
    have hx : x ≠ b := fun hx => by subst hx; rw [s3 o] at e; cases e
    rw [cell_eq (ho x hx)]; exact h.s.cell x o v e
  · intro x n e
    have hx : x ≠ b := fun hx => by subst hx; rw [s4] at e; cases e
    obtain ⟨c, ty', h1, h2⟩ := h.s.shape x n e
    exact ⟨c, ty', by rw [ho x hx]; exact h1, h2⟩
  · intro x n e
    have hx : x ≠ b := fun hx => by subst hx; rw [s5] at e; cases e
    obtain ⟨c, ty', h1, h2⟩ := h.s.box x n e
    exact ⟨c, ty', by rw [ho x hx]; exact h1, h2⟩
  · intro x n e
    exact ⟨by simpa using (h.s.hw x n e).1, (h.s.hw x n e).2⟩
  · intro id' c e
    rw [assoc_cons] at e
    cases hq : Nat.beq id id' with
    | true =>
      rw [hq] at e
      have := Nat.eq_of_beq_eq_true hq
      subst this
      simp only [cond_true, Option.some.injEq] at e
      subst e
      exact ⟨b, us, ty, hb, hn, k⟩
    | false =>
      rw [hq] at e
      obtain ⟨b', vs', ty', h1, h2, h3⟩ := h.f.box id' c e
      have hx : b' ≠ b := fun hx => by
        subst hx
        have := h.f.inj _ _ _ h1 hb
        subst this
        simp at hq
      exact ⟨b', vs', ty', h1, by rw [ho b' hx]; exact h2, h3⟩
  · intro id' b' e
    obtain ⟨h1, h2, h3⟩ := h.f.sep id' b' e
    exact ⟨h1, by simpa using h2, h3⟩

/-- a box that may be handed on is written -/
theorem Rel.storeGlobal (h : Rel D I0 st0 w0 I β env st a w) {b : Nat} {cs cs' : List V} {vs us : List Value} {ty : TypeId} (hb : st.box b = some cs) (hw : w.heap[b]? = some (.cells vs.toArray ty (0, 0)))
    (k : RepL I cs' us) : Rel D I0 st0 w0 I β env (st.setBox b cs') a (w.setRow b us.toArray) := by
  obtain ⟨s3, s6, s4⟩ := h.s.boxI b (by rw [hb]; simp)
  have hn := setRow_heap w b vs.toArray us.toArray ty (0, 0) hw
  have ho : ∀ x, x ≠ b → (w.setRow b us.toArray).heap[x]? = w.heap[x]? := fun x hx => setRow_other w b x us.toArray hx
  have hd := h.fr.dom b (.inl (by rw [hb]; simp))
  have nb : ∀ x, (st.setBox b cs').box x ≠ none → st.box x ≠ none := fun x e => by
    by_cases hx : x = b
    · subst hx; rw [hb]; simp
    · simpa [St.setBox, hx] using e
  refine ⟨⟨h.fr.os, h.fr.tape, h.fr.output, by simpa using h.fr.size, fun x hx h1 h2 => ?_, h.fr.le, h.fr.new, h.fr.newS, fun x e => h.fr.dom x (e.imp (nb x) id)⟩, ⟨?_, ?_, ?_, fun x e => h.s.boxI x (nb x e), ?_⟩, ⟨h.f.size, h.f.tmps, ?_, h.f.nxt, h.f.inj, ?_, h.f.defers⟩⟩
  · have hne : x ≠ b := fun e => by
      subst e
      rcases hd with hd | hd | hd
      · omega
      · exact hd h1
      · exact hd h2
    rw [ho x hne]; exact h.fr.old x hx h1 h2
  · intro x o v e
    have hx : x ≠ b := fun hx => by subst hx; rw [s3 o] at e; cases e
    rw [cell_eq (ho x hx)]; exact h.s.cell x o v e
  · intro x n e
    have hx : x ≠ b := fun hx => by subst hx; rw [s4] at e; cases e
    obtain ⟨c, ty', h1, h2⟩ := h.s.shape x n e
    exact ⟨c, ty', by rw [ho x hx]; exact h1, h2⟩
  · intro x c e
    simp only [St.setBox] at e
    split at e
    · rename_i hx; subst hx; injection e with e; subst e; exact ⟨us, ty, hn, k⟩
    · rename_i hx
      obtain ⟨c', ty', h1, h2⟩ := h.s.box x c e
      exact ⟨c', ty', by rw [ho x hx]; exact h1, h2⟩
  · intro x n e
    exact ⟨by simpa using (h.s.hw x n e).1, (h.s.hw x n e).2⟩
  · intro id' c e
    obtain ⟨b', vs', ty', h1, h2, h3⟩ := h.f.box id' c e
    have hx : b' ≠ b := fun hx => by
      subst hx
      have := (h.f.sep id' b' h1).2.2.2.2.1
      rw [hb] at this; cases this
    exact ⟨b', vs', ty', h1, by rw [ho b' hx]; exact h2, h3⟩
  · intro id' b' e
    obtain ⟨h1, h2, h3, h4, h5, h6⟩ := h.f.sep id' b' e
    have hx : b' ≠ b := fun hx => by subst hx; rw [hb] at h5; cases h5
    exact ⟨h1, by simpa using h2, h3, h4, by simp [St.setBox, hx, h5], h6⟩

/-- a row is made longer where it lies -/
theorem Rel.appendIn (h : Rel D I0 st0 w0 I β env st a w) {b n m : Nat} {cur : List Value} {ty : TypeId} (hh : st.hw b = some n) (hw : w.heap[b]? = some (.cells cur.toArray ty (0, 0))) (hs : I.shape b = some m)
    (vs : List Value) (hle : n + vs.length ≤ cur.length) :
    Rel D I0 st0 w0 (I.add b n vs m) β env ((st.dropHw b).setHw b (n + vs.length)) a (w.setRow b (cur.take n ++ vs ++ cur.drop (n + vs.length)).toArray) := by
  have hf := (h.s.hw b n hh).2
  have hl : I.le (I.add b n vs m) := Mem.le_add hf (.inr hs)
  have hn := setRow_heap w b cur.toArray (cur.take n ++ vs ++ cur.drop (n + vs.length)).toArray ty (0, 0) hw
  have ho : ∀ x, x ≠ b → (w.setRow b (cur.take n ++ vs ++ cur.drop (n + vs.length)).toArray).heap[x]? = w.heap[x]? := fun x hx => setRow_other w b x _ hx
  have hd := h.fr.dom b (.inr (by rw [hh]; simp))
  have hbx : st.box b = none := by
    cases e : st.box b with
    | none => rfl
    | some c => have := (h.s.boxI b (by rw [e]; simp)).2.1; rw [hh] at this; cases this
  have nh : ∀ x, ((st.dropHw b).setHw b (n + vs.length)).hw x ≠ none → st.hw x ≠ none := fun x e => by
    by_cases hx : x = b
    · subst hx; rw [hh]; simp
    · simpa [St.setHw, St.dropHw, hx] using e
  have hlen : (cur.take n ++ vs ++ cur.drop (n + vs.length)).length = cur.length := by simp; omega
  refine ⟨⟨h.fr.os, h.fr.tape, h.fr.output, by simpa using h.fr.size, fun x hx h1 h2 => ?_, Mem.le_trans h.fr.le hl, ?_, ?_, fun x e => h.fr.dom x (e.imp id (nh x))⟩, ⟨?_, ?_, ?_, ?_, ?_⟩,
    ⟨h.f.size, fun t v e => (h.f.tmps t v e).mono hl, ?_, h.f.nxt, h.f.inj, ?_, h.f.defers⟩⟩
  · have hne : x ≠ b := fun e => by
      subst e
      rcases hd with hd | hd | hd
      · omega
      · exact hd h1
      · exact hd h2
    rw [ho x hne]; exact h.fr.old x hx h1 h2
  · intro x o h1 h2
    by_cases e : x = b
    · subst e; exact hd
    · exact h.fr.new x o h1 (by simpa [Mem.add, e] using h2)
  · intro x h1 h2
    by_cases e : x = b
    · subst e; exact hd
    · exact h.fr.newS x h1 (by simpa [Mem.add, e] using h2)
  · intro x o v e
    simp only [Mem.add] at e
    split at e
    · rename_i hx
      obtain ⟨rfl, h1, h2⟩ := hx
      simp only [World.cell?, hn, Option.isSome_none, Bool.false_eq_true, if_false, List.getElem?_toArray]
      rw [List.getElem?_append_left (by simp; omega), List.getElem?_append_right (by simp; omega)]
      rw [List.length_take, Nat.min_eq_left (by omega)]
      exact e
    · rename_i hx
      by_cases hxb : x = b
      · subst hxb
        have hc := h.s.cell x o v e
        have hlt : o < n := by
          rcases Nat.lt_or_ge o n with h' | h'
          · exact h'
          · rw [hf o h'] at e; cases e
        simp only [World.cell?, hw, Option.isSome_none, Bool.false_eq_true, if_false, List.getElem?_toArray] at hc
        simp only [World.cell?, hn, Option.isSome_none, Bool.false_eq_true, if_false, List.getElem?_toArray]
        rw [List.append_assoc, List.getElem?_append_left (by simp; omega), List.getElem?_take, if_pos hlt]
        exact hc
      · rw [cell_eq (ho x hxb)]; exact h.s.cell x o v e
  · intro x k e
    simp only [Mem.add] at e
    split at e
    · rename_i hx
      subst hx
      injection e with e
      subst e
      obtain ⟨c, ty', h1, h2⟩ := h.s.shape x _ hs
      rw [hw] at h1
      injection h1 with h1
      injection h1 with h1 _ _
      subst h1
      exact ⟨_, ty, hn, by rw [List.size_toArray, hlen]; simpa using h2⟩
    · rename_i hx
      obtain ⟨c, ty', h1, h2⟩ := h.s.shape x k e
      exact ⟨c, ty', by rw [ho x hx]; exact h1, h2⟩
  · intro x c e
    have hx : x ≠ b := fun hx => by
      subst hx
      rw [show ((st.dropHw x).setHw x (n + vs.length)).box x = st.box x from rfl, hbx] at e; cases e
    obtain ⟨c', ty', h1, h2⟩ := h.s.box x c e
    exact ⟨c', ty', by rw [ho x hx]; exact h1, RepL.mono hl _ _ h2⟩
  · intro x e
    have hx : x ≠ b := fun hx => e (by subst hx; exact hbx)
    obtain ⟨h1, h2, h3⟩ := h.s.boxI x e
    exact ⟨fun o => by simp [Mem.add, hx, h1 o], by simp [St.setHw, St.dropHw, hx, h2], by simp [Mem.add, hx, h3]⟩
  · intro x k e
    simp only [St.setHw, St.dropHw] at e
    split at e
    · rename_i hx
      subst hx
      injection e with e
      subst e
      exact ⟨by simpa using (h.s.hw x n hh).1, fun o ho' => by simp only [Mem.add]; rw [if_neg (by omega)]; exact hf o (by omega)⟩
    · rename_i hx
      first | rw [if_neg hx] at e | skip
      exact ⟨by simpa using (h.s.hw x k e).1, fun o ho' => by simp only [Mem.add]; rw [if_neg (by simp [hx])]; exact (h.s.hw x k e).2 o ho'⟩
  · intro id' c e
    obtain ⟨b', vs', ty', h1, h2, h3⟩ := h.f.box id' c e
    have hx : b' ≠ b := fun hx => by
      subst hx
      have := (h.f.sep id' b' h1).2.2.2.2.2
      rw [hh] at this; cases this
    exact ⟨b', vs', ty', h1, by rw [ho b' hx]; exact h2, RepL.mono hl _ _ h3⟩
  · intro id' b' e
    obtain ⟨h1, h2, h3, h4, h5, h6⟩ := h.f.sep id' b' e
    have hx : b' ≠ b := fun hx => by subst hx; rw [hh] at h6; cases h6
    exact ⟨h1, by simpa using h2, fun o => by simp [Mem.add, hx, h3 o], by simp [Mem.add, hx, h4], h5, by simp [St.setHw, St.dropHw, hx, h6]⟩

/-- behind a call that was let write what this frame was let write -/
theorem Rel.called {I1 : Mem} {st1 : St} {w1 : World} (h : Rel D I0 st0 w0 I β env st a w) (f : Fr I st w I1 st1 w1) (s : RelS I1 st1 w1) : Rel D I0 st0 w0 I1 β env st1 a w1 := by
  have key : ∀ id b, β id = some b → (∀ o, I1.cell b o = none) ∧ st1.box b = none ∧ st1.hw b = none ∧ w1.heap[b]? = w.heap[b]? := fun id b e => by
    obtain ⟨h1, h2, h3, h4, h5, h6⟩ := h.f.sep id b e
    refine ⟨fun o => ?_, ?_, ?_, f.old b h2 h5 h6⟩
    · cases hc : I1.cell b o with
      | none => rfl
      | some v => rcases f.new b o (h3 o) (by rw [hc]; simp) with h | h | h <;> first | omega | contradiction
    · cases hc : st1.box b with
      | none => rfl
      | some v => rcases f.dom b (.inl (by rw [hc]; simp)) with h | h | h <;> first | omega | contradiction
    · cases hc : st1.hw b with
      | none => rfl
      | some v => rcases f.dom b (.inr (by rw [hc]; simp)) with h | h | h <;> first | omega | contradiction
  refine ⟨h.fr.trans f, s, ⟨h.f.size, fun t v e => (h.f.tmps t v e).mono f.le, ?_, h.f.nxt, h.f.inj, ?_, h.f.defers⟩⟩
  · intro id cs e
    obtain ⟨b, vs, ty, h1, h2, h3⟩ := h.f.box id cs e
    exact ⟨b, vs, ty, h1, by rw [(key id b h1).2.2.2]; exact h2, RepL.mono f.le _ _ h3⟩
  · intro id b e
    obtain ⟨h1, h2, h3, h4, h5, h6⟩ := h.f.sep id b e
    obtain ⟨k1, k2, k3, k4⟩ := key id b e
    refine ⟨h1, Nat.lt_of_lt_of_le h2 f.size, k1, ?_, k2, k3⟩
    cases hc : I1.shape b with
    | none => rfl
    | some v => rcases f.newS b h4 (by rw [hc]; simp) with h | h | h <;> first | omega | contradiction
end
end Go.Aw
