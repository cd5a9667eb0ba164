/-
  AW, PART 13. Operations whose order is open: what stands in the slots and boxes, whatever the order.
-/
import Derived.Test.YtngbihfihdheoaaAw12
import Derived.Test.YtngbihfihdheoaaAw9
import Derived.Orders
set_option linter.unusedVariables false
set_option linter.unusedSimpArgs false
namespace Go.Aw
open Go

/-- a slot written -/
def wrT (ts : List (Nat × V)) (d : Option Nat) (v : V) : List (Nat × V) := match d with
  | some t => (t, v) :: ts
  | none => ts
/-- the slots written of those that are listed -/
def putT : List (Nat × V) → List Oper → List V → List Bool → List (Nat × V)
  | ts, o :: r, v :: vs, b :: bs => putT (if b then wrT ts o.dst v else ts) r vs bs
  | ts, _, _, _ => ts
theorem assoc_wrT {ts : List (Nat × V)} {d : Option Nat} {v : V} {t : Nat} : assoc (wrT ts d v) t = if d = some t then some v else assoc ts t := by
  cases d with
  | none => rfl
  | some s =>
    show assoc ((s, v) :: ts) t = _
    rw [assoc_cons]
    by_cases h : s = t
    · subst h; simp
    · have : Nat.beq s t = false := by
        cases hb : Nat.beq s t with
        | false => rfl
        | true => exact absurd (Nat.eq_of_beq_eq_true hb) h
      simp [this, h]
/-- a slot that no listed one writes -/
theorem putT_out {t : Nat} : ∀ {l : List Oper} {vs : List V} {bs : List Bool} {ts : List (Nat × V)}, (∀ (j : Nat) (o : Oper), l[j]? = some o → bs[j]? = some true → o.dst ≠ some t) → assoc (putT ts l vs bs) t = assoc ts t
  | o :: r, v :: vs, b :: bs, ts, h => by
    rw [putT, putT_out (fun j o hj hb => h (j + 1) o (by simpa using hj) (by simpa using hb))]
    cases b with
    | false => rfl
    | true =>
      have := h 0 o rfl rfl
      simp only [if_true]
      rw [assoc_wrT, if_neg this]
  | [], _, _, ts, h => rfl
  | _ :: _, [], _, ts, h => rfl
  | _ :: _, _ :: _, [], ts, h => rfl
/-- a slot that a listed one writes, and no other -/
theorem putT_in {t : Nat} : ∀ {l : List Oper} {vs : List V} {bs : List Bool} {ts : List (Nat × V)} {j : Nat} {o : Oper} {v : V}, l[j]? = some o → vs[j]? = some v → bs[j]? = some true → o.dst = some t →
    (∀ (i : Nat) (o' : Oper), i ≠ j → l[i]? = some o' → o'.dst ≠ some t) → assoc (putT ts l vs bs) t = some v
  | o :: r, v :: vs, b :: bs, ts, 0, o', v', h1, h2, h3, h4, h5 => by
    simp only [List.getElem?_cons_zero, Option.some.injEq] at h1 h2 h3
    subst h1; subst h2; subst h3
    rw [putT, putT_out (fun j o hj _ => h5 (j + 1) o (by omega) (by simpa using hj))]
    simp only [if_true]
    rw [assoc_wrT, if_pos h4]
  | o :: r, v :: vs, b :: bs, ts, j + 1, o', v', h1, h2, h3, h4, h5 => by
    rw [putT]
    exact putT_in (by simpa using h1) (by simpa using h2) (by simpa using h3) h4 (fun i o' hi ho => h5 (i + 1) o' (by omega) (by simpa using ho))
  | [], _, _, ts, j, o, v, h1, h2, h3, h4, h5 => by cases h1
  | _ :: _, [], _, ts, j, o, v, h1, h2, h3, h4, h5 => by cases h2
  | _ :: _, _ :: _, [], ts, j, o, v, h1, h2, h3, h4, h5 => by cases h3

def DstOne (l : List Oper) : Prop := ∀ (i j : Nat) (o p : Oper) (t : Nat), l[i]? = some o → l[j]? = some p → i ≠ j → p.dst = some t → o.dst ≠ some t
theorem putT_val {ts : List (Nat × V)} {l : List Oper} (U : DstOne l) {vs : List V} (hv : vs.length = l.length) (bs : List Bool) (t : Nat) :
    (∃ (j : Nat) (o : Oper) (v : V), l[j]? = some o ∧ vs[j]? = some v ∧ bs[j]? = some true ∧ o.dst = some t ∧ assoc (putT ts l vs bs) t = some v) ∨
    ((∀ (j : Nat) (o : Oper), l[j]? = some o → bs[j]? = some true → o.dst ≠ some t) ∧ assoc (putT ts l vs bs) t = assoc ts t) := by
  by_cases h : ∃ (j : Nat) (o : Oper), l[j]? = some o ∧ bs[j]? = some true ∧ o.dst = some t
  · obtain ⟨j, o, h1, h2, h3⟩ := h
    have hj : j < vs.length := by rw [hv]; exact (List.getElem?_eq_some_iff.1 h1).1
    have h4 : vs[j]? = some vs[j] := List.getElem?_eq_getElem hj
    exact .inl ⟨j, o, _, h1, h4, h2, h3, putT_in h1 h4 h2 h3 fun i o' hi ho => U i j o' o t ho h1 hi h3⟩
  · have h' : ∀ (j : Nat) (o : Oper), l[j]? = some o → bs[j]? = some true → o.dst ≠ some t := fun j o h1 h2 h3 => h ⟨j, o, h1, h2, h3⟩
    exact .inr ⟨h', putT_out h'⟩
theorem putT_agree {ts : List (Nat × V)} {l : List Oper} (U : DstOne l) {vs : List V} (hv : vs.length = l.length) {bs bs' : List Bool} {t : Nat}
    (h : ∀ (j : Nat) (o : Oper), l[j]? = some o → o.dst = some t → (bs[j]? = some true ↔ bs'[j]? = some true)) : assoc (putT ts l vs bs) t = assoc (putT ts l vs bs') t := by
  rcases putT_val (ts := ts) U hv bs t with ⟨j, o, v, h1, h2, h3, h4, h5⟩ | ⟨h1, h2⟩
  · rw [h5, putT_in h1 h2 ((h j o h1 h4).1 h3) h4 fun i o' hi ho => U i j o' o t ho h1 hi h4]
  · rw [h2, putT_out fun j o k1 k2 k3 => h1 j o k1 ((h j o k1 k3).2 k2) k3]

/-- the boxes made, or written, by those that are listed -/
def bxT (l : List (Nat × List V)) : Option (Nat × List V) → List (Nat × List V)
  | some p => p :: l
  | none => l
def putB : List (Option (Nat × List V)) → List Bool → List (Nat × List V) → List (Nat × List V)
  | x :: xs, b :: bs, l => putB xs bs (if b then bxT l x else l)
  | _, _, l => l
theorem beq_ne {a b : Nat} (h : a ≠ b) : Nat.beq a b = false := by
  cases hb : Nat.beq a b with
  | false => rfl
  | true => exact absurd (Nat.eq_of_beq_eq_true hb) h
theorem assoc_bxT {l : List (Nat × List V)} {x : Option (Nat × List V)} {id : Nat} : assoc (bxT l x) id = (match x with | some (i, cs) => if i = id then some cs else assoc l id | none => assoc l id) := by
  cases x with
  | none => rfl
  | some p =>
    obtain ⟨i, cs⟩ := p
    show assoc ((i, cs) :: l) id = _
    rw [assoc_cons]
    by_cases h : i = id
    · subst h; simp
    · rw [beq_ne h]; simp [h]
theorem putB_out {id : Nat} : ∀ {xs : List (Option (Nat × List V))} {bs : List Bool} {l : List (Nat × List V)}, (∀ (j : Nat) (p : Nat × List V), xs[j]? = some (some p) → bs[j]? = some true → p.1 ≠ id) → assoc (putB xs bs l) id = assoc l id
  | x :: xs, b :: bs, l, h => by
    rw [putB, putB_out (fun j p hj hb => h (j + 1) p (by simpa using hj) (by simpa using hb))]
    cases b with
    | false => rfl
    | true =>
      simp only [if_true, assoc_bxT]
      cases x with
      | none => rfl
      | some p => obtain ⟨i, cs⟩ := p; exact if_neg (h 0 (i, cs) rfl rfl)
  | [], _, _, h => rfl
  | _ :: _, [], _, h => rfl
theorem putB_in {id : Nat} {cs : List V} : ∀ {xs : List (Option (Nat × List V))} {bs : List Bool} {l : List (Nat × List V)} {j : Nat}, xs[j]? = some (some (id, cs)) → bs[j]? = some true →
    (∀ (i : Nat) (p : Nat × List V), i ≠ j → xs[i]? = some (some p) → p.1 ≠ id) → assoc (putB xs bs l) id = some cs
  | x :: xs, b :: bs, l, 0, h1, h2, h3 => by
    simp only [List.getElem?_cons_zero, Option.some.injEq] at h1 h2
    subst h1; subst h2
    rw [putB, putB_out (fun j p hj _ => h3 (j + 1) p (by omega) (by simpa using hj))]
    simp only [if_true, assoc_bxT]
  | x :: xs, b :: bs, l, j + 1, h1, h2, h3 => by
    rw [putB]
    exact putB_in (by simpa using h1) (by simpa using h2) (fun i p hi hp => h3 (i + 1) p (by omega) (by simpa using hp))
  | [], _, _, j, h1, h2, h3 => by cases h1
  | _ :: _, [], _, j, h1, h2, h3 => by cases h2
def BoxOne (xs : List (Option (Nat × List V))) : Prop := ∀ (i j : Nat) (p q : Nat × List V), xs[i]? = some (some p) → xs[j]? = some (some q) → i ≠ j → p.1 ≠ q.1
theorem putB_agree {xs : List (Option (Nat × List V))} (U : BoxOne xs) {bs bs' : List Bool} {l : List (Nat × List V)} {id : Nat}
    (h : ∀ (j : Nat) (p : Nat × List V), xs[j]? = some (some p) → p.1 = id → (bs[j]? = some true ↔ bs'[j]? = some true)) : assoc (putB xs bs l) id = assoc (putB xs bs' l) id := by
  by_cases hx : ∃ (j : Nat) (p : Nat × List V), xs[j]? = some (some p) ∧ bs[j]? = some true ∧ p.1 = id
  · obtain ⟨j, ⟨i, cs⟩, h1, h2, rfl⟩ := hx
    rw [putB_in h1 h2 fun k p hk hp => U k j p _ hp h1 hk, putB_in h1 ((h j _ h1 rfl).1 h2) fun k p hk hp => U k j p _ hp h1 hk]
  · have h1 : ∀ (j : Nat) (p : Nat × List V), xs[j]? = some (some p) → bs[j]? = some true → p.1 ≠ id := fun j p a b c => hx ⟨j, p, a, b, c⟩
    rw [putB_out h1, putB_out fun j p a b c => h1 j p a ((h j p a c).2 b) c]

theorem rep_true {i j : Nat} : (List.replicate i true)[j]? = some true ↔ j < i := by
  rw [List.getElem?_replicate]
  split
  · rename_i h; exact ⟨fun _ => h, fun _ => rfl⟩
  · rename_i h; exact ⟨fun x => (by cases x), fun x => absurd x h⟩

/-- the frame when some of them have run -/
def hEnv (env : Env) (n : Nat) (l : List Oper) (vs : List V) (xs : List (Option (Nat × List V))) (bs : List Bool) : Env :=
  { tmps := putT env.tmps l vs bs, boxes := putB xs bs env.boxes, nxt := n, sz := env.sz, gl := env.gl }

noncomputable def headLen (env : Env) (all : List Oper) : List Oper → Nat
  | [] => 0
  | o :: r => bif headK env all o then headLen env all r + 1 else 0
noncomputable def headIds (env : Env) (all : List Oper) : List Oper → List (Option Nat)
  | [] => []
  | o :: r => bif headK env all o then sid env o :: headIds env all r else []
theorem headScan_iff {env : Env} {all : List Oper} : ∀ {l : List Oper} {K : Nat → List (Option Nat) → Prop}, headScan env all l K ↔ K (headLen env all l) (headIds env all l)
  | [], K => Iff.rfl
  | o :: r, K => by
    rw [headScan_cons, headLen, headIds]
    cases headK env all o with
    | false => exact Iff.rfl
    | true =>
      show (match sid env o with | some id => _ | none => _) ↔ _
      cases sid env o <;> exact headScan_iff
theorem headIds_at {env : Env} {all : List Oper} : ∀ {l : List Oper} {i : Nat} {o : Oper}, i < headLen env all l → l[i]? = some o → (headIds env all l)[i]? = some (sid env o)
  | [], i, o, h, e => by cases e
  | p :: r, i, o, h, e => by
    rw [headLen] at h
    rw [headIds]
    cases hk : headK env all p with
    | false => rw [hk] at h; simp at h
    | true =>
      rw [hk] at h
      cases i with
      | zero => simp at e; subst e; rfl
      | succ i => exact headIds_at (by simpa using h) (by simpa using e)
theorem nodupO_spec : ∀ {L : List (Option Nat)} {i j : Nat} {a : Nat}, nodupO L = true → L[i]? = some (some a) → L[j]? = some (some a) → i = j
  | [], i, j, a, h, h1, h2 => by cases h1
  | none :: r, i, j, a, h, h1, h2 => by
    cases i with
    | zero => simp at h1
    | succ i =>
      cases j with
      | zero => simp at h2
      | succ j => exact congrArg Nat.succ (nodupO_spec (L := r) h (by simpa using h1) (by simpa using h2))
  | some b :: r, i, j, a, h, h1, h2 => by
    rw [nodupO] at h
    simp only [Bool.and_eq_true, Bool.not_eq_true', List.contains_eq_mem, decide_eq_false_iff_not] at h
    cases i with
    | zero =>
      cases j with
      | zero => rfl
      | succ j =>
        simp only [List.getElem?_cons_zero, Option.some.injEq] at h1
        subst h1
        exact absurd (List.mem_of_getElem? (by simpa using h2)) h.1
    | succ i =>
      cases j with
      | zero =>
        simp only [List.getElem?_cons_zero, Option.some.injEq] at h2
        subst h2
        exact absurd (List.mem_of_getElem? (by simpa using h1)) h.1
      | succ j => exact congrArg Nat.succ (nodupO_spec (L := r) h.2 (by simpa using h1) (by simpa using h2))
theorem dropIds_at {L : List (Option Nat)} : ∀ {bs : List (Nat × List V)} {id : Nat} {cs : List V}, assoc (dropIds L bs) id = some cs → assoc bs id = some cs ∧ (some id) ∉ L
  | [], id, cs, h => by cases h
  | (k, c) :: r, id, cs, h => by
    have e : dropIds L ((k, c) :: r) = Bool.rec (motive := fun _ => List (Nat × List V)) ((k, c) :: dropIds L r) (dropIds L r) (L.contains (some k)) := rfl
    rw [e] at h
    rw [assoc_cons]
    cases hc : L.contains (some k) with
    | true =>
      rw [hc] at h
      obtain ⟨h1, h2⟩ := dropIds_at (bs := r) h
      have hne : k ≠ id := fun e => by subst e; exact h2 (by simpa using hc)
      rw [beq_ne hne]
      exact ⟨h1, h2⟩
    | false =>
      rw [hc] at h
      have h : assoc ((k, c) :: dropIds L r) id = some cs := h
      rw [assoc_cons] at h
      cases hb : Nat.beq k id with
      | true =>
        rw [hb] at h
        have := Nat.eq_of_beq_eq_true hb
        subst this
        exact ⟨h, by simpa using hc⟩
      | false => rw [hb] at h; exact dropIds_at (bs := r) h
end Go.Aw
