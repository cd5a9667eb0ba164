/-
  AW, PART 2. How plain data stands for the machine's values; what is known of the memory.
-/
import Derived.Test.YtngbihfihdheoaaAw1
set_option linter.unusedVariables false
namespace Go.Aw
open Go

/-- memory that nobody writes any more: cells, and how long rows are -/
structure Mem where
  cell : Nat → Nat → Option Value
  shape : Nat → Option Nat

def Mem.le (I J : Mem) : Prop := (∀ b o v, I.cell b o = some v → J.cell b o = some v) ∧ ∀ b n, I.shape b = some n → J.shape b = some n
theorem Mem.le_refl (I : Mem) : I.le I := ⟨fun _ _ _ h => h, fun _ _ h => h⟩
theorem Mem.le_trans {I J K : Mem} (h : I.le J) (k : J.le K) : I.le K := ⟨fun b o v x => k.1 _ _ _ (h.1 _ _ _ x), fun b n x => k.2 _ _ (h.2 _ _ x)⟩

def OwnOk (I : Mem) (sz len cap : Nat) (a : Option Addr) : Own → Prop
  | .any => True
  | .full => cap = len
  | .tok b => a = some ⟨b, 0, none⟩ ∧ I.shape b = some (cap * sz)

mutual
/-- plain data stands for a value -/
def Rep (I : Mem) : V → Value → Prop
  | .junk, _ => True
  | .bool b, c => c = .bool b
  | .int k n, c => c = .int k n
  | .str s, c => c = .string ⟨s.toArray⟩ ∧ s.length < lim
  | .agg cs, c => ∃ vs : List Value, c = .agg vs.toArray ∧ RepL I cs vs
  | .tup cs, c => ∃ vs : List Value, c = .tuple vs.toArray ∧ RepL I cs vs
  | .slice sz es own, c => ∃ a cap, c = .slice a es.length cap ∧ es.length ≤ cap ∧ es.length < lim ∧ 0 < sz ∧ OwnOk I sz es.length cap a own ∧
      (match a with | none => cap = 0 | some ad => (cap = 0 ∨ ad.spot = none) ∧ RepE I sz ad.block ad.off es)
  | .ptr b off, c => c = .pointer (some ⟨b, off, none⟩)
  | .lptr _ _, _ => False
  | .eptr e off, c => ∃ b o, c = .pointer (some ⟨b, o + off, none⟩) ∧ RepC I b o e
  | .nilp, c => c = .pointer none
  | .func f a cap, c => ∃ as cs : List Value, c = .func (.func f) as.toArray cs.toArray ∧ RepL I a as ∧ RepL I cap cs
  | .nilf, c => c = .nilFunc
  | .iface t v, c => ∃ c', c = .iface t c' ∧ Rep I v c'
  | .nili, c => c = .nilIface
def RepL (I : Mem) : List V → List Value → Prop
  | [], vs => vs = []
  | v :: r, vs => ∃ c s, vs = c :: s ∧ Rep I v c ∧ RepL I r s
/-- cells that hold values, from a place on -/
def RepC (I : Mem) (b o : Nat) : List V → Prop
  | [] => True
  | v :: r => (∃ c, I.cell b o = some c ∧ Rep I v c) ∧ RepC I b (o + 1) r
/-- elements of one size, from a place on -/
def RepE (I : Mem) (sz b o : Nat) : List (List V) → Prop
  | [] => True
  | e :: r => (e.length = sz ∧ RepC I b o e) ∧ RepE I sz b (o + sz) r
end

theorem OwnOk.mono {I J : Mem} (h : I.le J) {sz len cap : Nat} {a : Option Addr} {own : Own} (k : OwnOk I sz len cap a own) : OwnOk J sz len cap a own := by
  cases own with
  | any => trivial
  | full => exact k
  | tok b => exact ⟨k.1, h.2 _ _ k.2⟩

mutual
theorem Rep.mono {I J : Mem} (h : I.le J) : ∀ (v : V) (c : Value), Rep I v c → Rep J v c
  | .junk, _, _ => by simp only [Rep]
  | .bool b, c, k => by simpa only [Rep] using k
  | .int _ n, c, k => by simpa only [Rep] using k
  | .str s, c, k => by simpa only [Rep] using k
  | .agg cs, c, k => by
    simp only [Rep] at k ⊢
    obtain ⟨vs, e, k⟩ := k
    exact ⟨vs, e, RepL.mono h cs vs k⟩
  | .tup cs, c, k => by
    simp only [Rep] at k ⊢
    obtain ⟨vs, e, k⟩ := k
    exact ⟨vs, e, RepL.mono h cs vs k⟩
  | .slice sz es own, c, k => by
    simp only [Rep] at k ⊢
    obtain ⟨a, cap, e, h1, h2, h3, h4, h5⟩ := k
    refine ⟨a, cap, e, h1, h2, h3, h4.mono h, ?_⟩
    cases a with
    | none => exact h5
    | some ad => exact ⟨h5.1, RepE.mono h sz ad.block es ad.off h5.2⟩
  | .ptr _ _, c, k => by simpa only [Rep] using k
  | .lptr _ _, c, k => by simp only [Rep] at k
  | .eptr e off, c, k => by
    simp only [Rep] at k ⊢
    obtain ⟨b, o, e1, k⟩ := k
    exact ⟨b, o, e1, RepC.mono h b e o k⟩
  | .nilp, c, k => by simpa only [Rep] using k
  | .func f a cap, c, k => by
    simp only [Rep] at k ⊢
    obtain ⟨as, cs, e, k1, k2⟩ := k
    exact ⟨as, cs, e, RepL.mono h a as k1, RepL.mono h cap cs k2⟩
  | .nilf, c, k => by simpa only [Rep] using k
  | .iface t v, c, k => by
    simp only [Rep] at k ⊢
    obtain ⟨c', e, k⟩ := k
    exact ⟨c', e, Rep.mono h v c' k⟩
  | .nili, c, k => by simpa only [Rep] using k
theorem RepL.mono {I J : Mem} (h : I.le J) : ∀ (l : List V) (vs : List Value), RepL I l vs → RepL J l vs
  | [], vs, k => by simpa only [RepL] using k
  | v :: r, vs, k => by
    simp only [RepL] at k ⊢
    obtain ⟨c, s, e, k1, k2⟩ := k
    exact ⟨c, s, e, Rep.mono h v c k1, RepL.mono h r s k2⟩
theorem RepC.mono {I J : Mem} (h : I.le J) (b : Nat) : ∀ (l : List V) (o : Nat), RepC I b o l → RepC J b o l
  | [], o, k => by simp only [RepC]
  | v :: r, o, k => by
    simp only [RepC] at k ⊢
    obtain ⟨⟨c, k1, k2⟩, k3⟩ := k
    exact ⟨⟨c, h.1 _ _ _ k1, Rep.mono h v c k2⟩, RepC.mono h b r (o + 1) k3⟩
theorem RepE.mono {I J : Mem} (h : I.le J) (sz b : Nat) : ∀ (l : List (List V)) (o : Nat), RepE I sz b o l → RepE J sz b o l
  | [], o, k => by simp only [RepE]
  | v :: r, o, k => by
    simp only [RepE] at k ⊢
    exact ⟨⟨k.1.1, RepC.mono h b v o k.1.2⟩, RepE.mono h sz b r (o + sz) k.2⟩
end

/-- nothing is told of who may append: less is told -/
theorem Rep.wk0 {I : Mem} : ∀ {v : V} {c : Value}, Rep I v c → Rep I v.wk0 c
  | .slice sz es own, c, k => by
    simp only [V.wk0, Rep] at k ⊢
    obtain ⟨a, cap, e, h1, h2, h3, h4, h5⟩ := k
    exact ⟨a, cap, e, h1, h2, h3, trivial, h5⟩
  | .junk, _, k | .bool _, _, k | .int _ _, _, k | .str _, _, k | .agg _, _, k | .tup _, _, k | .ptr _ _, _, k | .lptr _ _, _, k | .eptr _ _, _, k | .nilp, _, k
  | .func _ _ _, _, k | .nilf, _, k | .iface _ _, _, k | .nili, _, k => k
theorem RepL.map {I : Mem} {f : V → V} (hf : ∀ v c, Rep I v c → Rep I (f v) c) : ∀ {l : List V} {vs : List Value}, RepL I l vs → RepL I (l.map f) vs
  | [], vs, k => by simpa only [RepL, List.map_nil] using k
  | v :: r, vs, k => by
    simp only [RepL, List.map_cons] at k ⊢
    obtain ⟨c, s, e, k1, k2⟩ := k
    exact ⟨c, s, e, hf v c k1, RepL.map hf k2⟩
theorem RepC.map {I : Mem} {f : V → V} (hf : ∀ v c, Rep I v c → Rep I (f v) c) (b : Nat) : ∀ {l : List V} {o : Nat}, RepC I b o l → RepC I b o (l.map f)
  | [], o, k => by simp only [RepC, List.map_nil]
  | v :: r, o, k => by
    simp only [RepC, List.map_cons] at k ⊢
    obtain ⟨⟨c, k1, k2⟩, k3⟩ := k
    exact ⟨⟨c, k1, hf v c k2⟩, RepC.map hf b k3⟩
theorem Rep.wk1 {I : Mem} {v : V} {c : Value} (k : Rep I v c) : Rep I v.wk1 c := by
  cases v with
  | agg cs =>
    simp only [V.wk1, Rep] at k ⊢
    obtain ⟨vs, e, k⟩ := k
    exact ⟨vs, e, RepL.map (fun _ _ => Rep.wk0) k⟩
  | slice sz es own => exact Rep.wk0 k
  | _ => exact k
theorem Rep.wk {I : Mem} {v : V} {c : Value} (k : Rep I v c) : Rep I v.wk c := by
  cases v with
  | agg cs => exact Rep.wk1 k
  | tup cs =>
    simp only [V.wk, Rep] at k ⊢
    obtain ⟨vs, e, k⟩ := k
    exact ⟨vs, e, RepL.map (fun _ _ => Rep.wk1) k⟩
  | slice sz es own => exact Rep.wk0 k
  | _ => exact k

theorem RepL.length {I : Mem} : ∀ {l : List V} {vs : List Value}, RepL I l vs → l.length = vs.length
  | [], vs, k => by simp only [RepL] at k; subst k; rfl
  | v :: r, vs, k => by
    simp only [RepL] at k
    obtain ⟨c, s, e, k1, k2⟩ := k
    subst e
    simp [RepL.length k2]
theorem RepL.get {I : Mem} : ∀ {l : List V} {vs : List Value} {i : Nat} {v : V}, RepL I l vs → l[i]? = some v → ∃ c, vs[i]? = some c ∧ Rep I v c
  | [], vs, i, v, k, h => by simp at h
  | u :: r, vs, i, v, k, h => by
    simp only [RepL] at k
    obtain ⟨c, s, e, k1, k2⟩ := k
    subst e
    cases i with
    | zero => simp at h; subst h; exact ⟨c, by simp, k1⟩
    | succ i => simp at h; obtain ⟨c', h1, h2⟩ := RepL.get k2 h; exact ⟨c', by simpa using h1, h2⟩
theorem RepL.append {I : Mem} : ∀ {l r : List V} {vs us : List Value}, RepL I l vs → RepL I r us → RepL I (l ++ r) (vs ++ us)
  | [], r, vs, us, k, h => by simp only [RepL] at k; subst k; simpa using h
  | v :: l, r, vs, us, k, h => by
    simp only [RepL] at k
    obtain ⟨c, s, e, k1, k2⟩ := k
    subst e
    simp only [List.cons_append, RepL]
    exact ⟨c, s ++ us, rfl, k1, RepL.append k2 h⟩
theorem RepL.take {I : Mem} : ∀ {l : List V} {vs : List Value} (n : Nat), RepL I l vs → RepL I (l.take n) (vs.take n)
  | [], vs, n, k => by simp only [RepL] at k; subst k; simp [RepL]
  | v :: l, vs, 0, k => by simp [RepL]
  | v :: l, vs, n + 1, k => by
    simp only [RepL] at k
    obtain ⟨c, s, e, k1, k2⟩ := k
    subst e
    simp only [List.take_succ_cons, RepL]
    exact ⟨c, _, rfl, k1, RepL.take n k2⟩
theorem RepL.drop {I : Mem} : ∀ {l : List V} {vs : List Value} (n : Nat), RepL I l vs → RepL I (l.drop n) (vs.drop n)
  | [], vs, n, k => by simp only [RepL] at k; subst k; simp [RepL]
  | v :: l, vs, 0, k => by simpa using k
  | v :: l, vs, n + 1, k => by
    simp only [RepL] at k
    obtain ⟨c, s, e, k1, k2⟩ := k
    subst e
    simpa using RepL.drop n k2
theorem RepC.get {I : Mem} {b : Nat} : ∀ {l : List V} {o i : Nat} {v : V}, RepC I b o l → l[i]? = some v → ∃ c, I.cell b (o + i) = some c ∧ Rep I v c
  | [], o, i, v, k, h => by simp at h
  | u :: r, o, i, v, k, h => by
    simp only [RepC] at k
    cases i with
    | zero => simp at h; subst h; exact k.1
    | succ i =>
      simp at h
      obtain ⟨c, h1, h2⟩ := RepC.get k.2 h
      exact ⟨c, by rw [show o + (i + 1) = o + 1 + i by omega]; exact h1, h2⟩
theorem RepC.drop {I : Mem} {b : Nat} : ∀ {l : List V} {o : Nat} (n : Nat), RepC I b o l → RepC I b (o + n) (l.drop n)
  | [], o, n, k => by simp [RepC]
  | v :: l, o, 0, k => by simpa using k
  | v :: l, o, n + 1, k => by
    simp only [RepC] at k
    rw [show o + (n + 1) = o + 1 + n by omega]
    simpa using RepC.drop n k.2
theorem RepC.take {I : Mem} {b : Nat} : ∀ {l : List V} {o : Nat} (n : Nat), RepC I b o l → RepC I b o (l.take n)
  | [], o, n, k => by simp [RepC]
  | v :: l, o, 0, k => by simp [RepC]
  | v :: l, o, n + 1, k => by
    simp only [RepC, List.take_succ_cons] at k ⊢
    exact ⟨k.1, RepC.take n k.2⟩
theorem RepE.get {I : Mem} {sz b : Nat} : ∀ {l : List (List V)} {o i : Nat} {e : List V}, RepE I sz b o l → l[i]? = some e → e.length = sz ∧ RepC I b (o + i * sz) e
  | [], o, i, v, k, h => by simp at h
  | u :: r, o, i, v, k, h => by
    simp only [RepE] at k
    cases i with
    | zero => simp at h; subst h; simpa using k.1
    | succ i =>
      simp at h
      have := RepE.get k.2 h
      rw [show o + (i + 1) * sz = o + sz + i * sz by rw [Nat.add_mul]; omega]
      exact this
theorem RepE.drop {I : Mem} {sz b : Nat} : ∀ {l : List (List V)} {o : Nat} (n : Nat), RepE I sz b o l → RepE I sz b (o + n * sz) (l.drop n)
  | [], o, n, k => by simp [RepE]
  | v :: l, o, 0, k => by simpa using k
  | v :: l, o, n + 1, k => by
    simp only [RepE] at k
    rw [show o + (n + 1) * sz = o + sz + n * sz by rw [Nat.add_mul]; omega]
    simpa using RepE.drop n k.2
theorem RepE.take {I : Mem} {sz b : Nat} : ∀ {l : List (List V)} {o : Nat} (n : Nat), RepE I sz b o l → RepE I sz b o (l.take n)
  | [], o, n, k => by simp [RepE]
  | v :: l, o, 0, k => by simp [RepE]
  | v :: l, o, n + 1, k => by
    simp only [RepE, List.take_succ_cons] at k ⊢
    exact ⟨k.1, RepE.take n k.2⟩
theorem RepE.append {I : Mem} {sz b : Nat} : ∀ {l r : List (List V)} {o : Nat}, RepE I sz b o l → RepE I sz b (o + l.length * sz) r → RepE I sz b o (l ++ r)
  | [], r, o, k, h => by simpa using h
  | v :: l, r, o, k, h => by
    simp only [RepE, List.cons_append] at k ⊢
    refine ⟨k.1, RepE.append k.2 ?_⟩
    rw [show o + sz + l.length * sz = o + (l.length + 1) * sz by rw [Nat.add_mul]; omega]
    exact h

/-- what a slot holds: a pointer to one of the frame's own boxes, or plain data -/
def RepT (I : Mem) (β : Nat → Option Nat) : V → Value → Prop
  | .lptr id off, c => ∃ b, β id = some b ∧ c = .pointer (some ⟨b, off, none⟩)
  | v, c => Rep I v c
theorem RepT.of {I : Mem} {β : Nat → Option Nat} {v : V} {c : Value} (h : Rep I v c) : RepT I β v c := by
  cases v <;> first | exact h | exact (by simp only [Rep] at h)
theorem RepT.mono {I J : Mem} (h : I.le J) {β : Nat → Option Nat} {v : V} {c : Value} (k : RepT I β v c) : RepT J β v c := by
  cases v <;> first | exact k | exact Rep.mono h _ _ k

/-- what is known of the memory holds -/
structure RelS (I : Mem) (st : St) (w : World) : Prop where
  cell : ∀ b o v, I.cell b o = some v → w.cell? ⟨b, o, none⟩ = some v
  shape : ∀ b n, I.shape b = some n → ∃ c ty, w.heap[b]? = some (.cells c ty (0, 0)) ∧ c.size = n
  box : ∀ b cs, st.box b = some cs → ∃ (vs : List Value) (ty : TypeId), w.heap[b]? = some (.cells vs.toArray ty (0, 0)) ∧ RepL I cs vs
  boxI : ∀ b, st.box b ≠ none → (∀ o, I.cell b o = none) ∧ st.hw b = none ∧ I.shape b = none
  hw : ∀ b h, st.hw b = some h → b < w.heap.size ∧ ∀ o, h ≤ o → I.cell b o = none

/-- what may have turned since a call began: nothing of the old memory, but where the call was let write -/
structure Fr (I0 : Mem) (st0 : St) (w0 : World) (I : Mem) (st : St) (w : World) : Prop where
  os : w.os = w0.os
  tape : w.tape = w0.tape
  output : w.output = w0.output
  size : w0.heap.size ≤ w.heap.size
  old : ∀ b, b < w0.heap.size → st0.box b = none → st0.hw b = none → w.heap[b]? = w0.heap[b]?
  le : I0.le I
  new : ∀ b o, I0.cell b o = none → I.cell b o ≠ none → w0.heap.size ≤ b ∨ st0.box b ≠ none ∨ st0.hw b ≠ none
  newS : ∀ b, I0.shape b = none → I.shape b ≠ none → w0.heap.size ≤ b ∨ st0.box b ≠ none ∨ st0.hw b ≠ none
  dom : ∀ b, (st.box b ≠ none ∨ st.hw b ≠ none) → w0.heap.size ≤ b ∨ st0.box b ≠ none ∨ st0.hw b ≠ none
theorem Fr.refl {I : Mem} {st : St} {w : World} : Fr I st w I st w :=
  ⟨rfl, rfl, rfl, Nat.le_refl _, fun _ _ _ _ => rfl, Mem.le_refl _, fun _ _ h k => absurd h k, fun _ h k => absurd h k, fun _ h => .inr h⟩
theorem Fr.trans {I0 I1 I2 : Mem} {s0 s1 s2 : St} {w0 w1 w2 : World} (h : Fr I0 s0 w0 I1 s1 w1) (k : Fr I1 s1 w1 I2 s2 w2) : Fr I0 s0 w0 I2 s2 w2 := by
  refine ⟨k.os.trans h.os, k.tape.trans h.tape, k.output.trans h.output, Nat.le_trans h.size k.size, ?_, Mem.le_trans h.le k.le, ?_, ?_, ?_⟩
  · intro b hb h1 h2
    have e1 : s1.box b = none := by
      cases hh : s1.box b with
      | none => rfl
      | some c => rcases h.dom b (.inl (by rw [hh]; simp)) with h | h | h <;> first | omega | contradiction
    have e2 : s1.hw b = none := by
      cases hh : s1.hw b with
      | none => rfl
      | some c => rcases h.dom b (.inr (by rw [hh]; simp)) with h | h | h <;> first | omega | contradiction
    rw [k.old b (Nat.lt_of_lt_of_le hb h.size) e1 e2, h.old b hb h1 h2]
  · intro b o h1 h2
    cases hh : I1.cell b o with
    | some v => exact h.new b o h1 (by rw [hh]; simp)
    | none =>
      rcases k.new b o hh h2 with h3 | h3 | h3
      · exact .inl (Nat.le_trans h.size h3)
      · exact h.dom b (.inl h3)
      · exact h.dom b (.inr h3)
  · intro b h1 h2
    cases hh : I1.shape b with
    | some v => exact h.newS b h1 (by rw [hh]; simp)
    | none =>
      rcases k.newS b hh h2 with h3 | h3 | h3
      · exact .inl (Nat.le_trans h.size h3)
      · exact h.dom b (.inl h3)
      · exact h.dom b (.inr h3)
  · intro b hb
    rcases k.dom b hb with h3 | h3 | h3
    · exact .inl (Nat.le_trans h.size h3)
    · exact h.dom b (.inl h3)
    · exact h.dom b (.inr h3)
end Go.Aw
