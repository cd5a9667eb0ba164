/-
  AW, PART 13. Operations whose order is open: what stands in the slots and boxes, whatever the order.
-/
import Derived.Test.YtmhmkpiliejmdaaAw12
import Derived.Test.YtmhmkpiliejmdaaAw9
import Derived.Orders
set_option linter.unusedVariables false
set_option linter.unusedSimpArgs false
namespace Go.Aw
open Go

/-- a slot written -/
def wrT (ts : List (Nat × V)) (d : Option Nat) (v : V) : List (Nat × V) := match d with
  | some t => (t, v) :: ts
  | none => ts
/-- the slots written of those that are listed -/
def putT : List (Nat × V) → List Oper → List V → List Bool → List (Nat × V)
  | ts, o :: r, v :: vs, b :: bs => putT (if b then wrT ts o.dst v else ts) r vs bs
  | ts, _, _, _ => ts
theorem assoc_wrT {ts : List (Nat × V)} {d : Option Nat} {v : V} {t : Nat} : assoc (wrT ts d v) t = if d = some t then some v else assoc ts t := by
  cases d with
  | none => rfl
  | some s =>
    show assoc ((s, v) :: ts) t = _
    rw [assoc_cons]
    by_cases h : s = t
    · subst h; simp
    · have : Nat.beq s t = false := by
        cases hb : Nat.beq s t with
        | false => rfl
        | true => exact absurd (Nat.eq_of_beq_eq_true hb) h
      simp [this, h]
/-- a slot that no listed one writes -/
theorem putT_out {t : Nat} : ∀ {l : List Oper} {vs : List V} {bs : List Bool} {ts : List (Nat × V)}, (∀ (j : Nat) (o : Oper), l[j]? = some o → bs[j]? = some true → o.dst ≠ some t) → assoc (putT ts l vs bs) t = assoc ts t
  | o :: r, v :: vs, b :: bs, ts, h => by
    rw [putT, putT_out (fun j o hj hb => h (j + 1) o (by simpa using hj) (by simpa using hb))]
    cases b with
    | false => rfl
    | true =>
      have := h 0 o rfl rfl
      simp only [if_true]
      rw [assoc_wrT, if_neg this]
  | [], _, _, ts, h => rfl
  | _ :: _, [], _, ts, h => rfl
  | _ :: _, _ :: _, [], ts, h => rfl
/-- a slot that a listed one writes, and no other -/
theorem putT_in {t : Nat} : ∀ {l : List Oper} {vs : List V} {bs : List Bool} {ts : List (Nat × V)} {j : Nat} {o : Oper} {v : V}, l[j]? = some o → vs[j]? = some v → bs[j]? = some true → o.dst = some t →
    (∀ (i : Nat) (o' : Oper), i ≠ j → l[i]? = some o' → o'.dst ≠ some t) → assoc (putT ts l vs bs) t = some v
  | o :: r, v :: vs, b :: bs, ts, 0, o', v', h1, h2, h3, h4, h5 => by
    simp only [List.getElem?_cons_zero, Option.some.injEq] at h1 h2 h3
    subst h1; subst h2; subst h3
    rw [putT, putT_out (fun j o hj _ => h5 (j + 1) o (by omega) (by simpa using hj))]
    simp only [if_true]
    rw [assoc_wrT, if_pos h4]
  | o :: r, v :: vs, b :: bs, ts, j + 1, o', v', h1, h2, h3, h4, h5 => by
    rw [putT]
    exact putT_in (by simpa using h1) (by simpa using h2) (by simpa using h3) h4 (fun i o' hi ho => h5 (i + 1) o' (by omega) (by simpa using ho))
  | [], _, _, ts, j, o, v, h1, h2, h3, h4, h5 => by cases h1
  | _ :: _, [], _, ts, j, o, v, h1, h2, h3, h4, h5 => by cases h2
  | _ :: _, _ :: _, [], ts, j, o, v, h1, h2, h3, h4, h5 => by cases h3

def DstOne (l : List Oper) : Prop := ∀ (i j : Nat) (o p : Oper) (t : Nat), l[i]? = some o → l[j]? = some p → i ≠ j → p.dst = some t → o.dst ≠ some t
theorem putT_val {ts : List (Nat × V)} {l : List Oper} (U : DstOne l) {vs : List V} (hv : vs.length = l.length) (bs : List Bool) (t : Nat) :
    (∃ (j : Nat) (o : Oper) (v : V), l[j]? = some o ∧ vs[j]? = some v ∧ bs[j]? = some true ∧ o.dst = some t ∧ assoc (putT ts l vs bs) t = some v) ∨
    ((∀ (j : Nat) (o : Oper), l[j]? = some o → bs[j]? = some true → o.dst ≠ some t) ∧ assoc (putT ts l vs bs) t = assoc ts t) := by
  by_cases h : ∃ (j : Nat) (o : Oper), l[j]? = some o ∧ bs[j]? = some true ∧ o.dst = some t
  · obtain ⟨j, o, h1, h2, h3⟩ := h
    have hj : j < vs.length := by rw [hv]; exact (List.getElem?_eq_some_iff.1 h1).1
    have h4 : vs[j]? = some vs[j] := List.getElem?_eq_getElem hj
    exact .inl ⟨j, o, _, h1, h4, h2, h3, putT_in h1 h4 h2 h3 fun i o' hi ho => U i j o' o t ho h1 hi h3⟩
  · have h' : ∀ (j : Nat) (o : Oper), l[j]? = some o → bs[j]? = some true → o.dst ≠ some t := fun j o h1 h2 h3 => h ⟨j, o, h1, h2, h3⟩
    exact .inr ⟨h', putT_out h'⟩
theorem putT_agree {ts : List (Nat × V)} {l : List Oper} (U : DstOne l) {vs : List V} (hv : vs.length = l.length) {bs bs' : List Bool} {t : Nat}
    (h : ∀ (j : Nat) (o : Oper), l[j]? = some o → o.dst = some t → (bs[j]? = some true ↔ bs'[j]? = some true)) : assoc (putT ts l vs bs) t = assoc (putT ts l vs bs') t := by
  rcases putT_val (ts := ts) U hv bs t with ⟨j, o, v, h1, h2, h3, h4, h5⟩ | ⟨h1, h2⟩
  · rw [h5, putT_in h1 h2 ((h j o h1 h4).1 h3) h4 fun i o' hi ho => U i j o' o t ho h1 hi h4]
  · rw [h2, putT_out fun j o k1 k2 k3 => h1 j o k1 ((h j o k1 k3).2 k2) k3]

/-- the boxes made by those that are listed; each has its number from the text -/
def bxT (l : List (Nat × List V)) (n : Nat) : Option (List V) → List (Nat × List V)
  | some cs => (n, cs) :: l
  | none => l
def putB : Nat → List (Option (List V)) → List Bool → List (Nat × List V) → List (Nat × List V)
  | n, x :: xs, b :: bs, l => putB (n + 1) xs bs (if b then bxT l n x else l)
  | _, _, _, l => l
theorem beq_ne {a b : Nat} (h : a ≠ b) : Nat.beq a b = false := by
  cases hb : Nat.beq a b with
  | false => rfl
  | true => exact absurd (Nat.eq_of_beq_eq_true hb) h
theorem putB_at : ∀ {xs : List (Option (List V))} {bs : List Bool} {n : Nat} {l : List (Nat × List V)} (id : Nat),
    assoc (putB n xs bs l) id = (if n ≤ id ∧ bs[id - n]? = some true then (match xs[id - n]? with | some (some cs) => some cs | _ => assoc l id) else assoc l id)
  | [], bs, n, l, id => by
    rw [putB]
    · split <;> simp
    all_goals (intros; simp_all)
  | x :: xs, [], n, l, id => by
    rw [putB]
    · simp
    all_goals (intros; simp_all)
  | x :: xs, b :: bs, n, l, id => by
    rw [putB, putB_at id]
    have hl : assoc (if b then bxT l n x else l) id = if id = n ∧ b = true then (match x with | some cs => some cs | none => assoc l id) else assoc l id := by
      cases b with
      | false => simp
      | true =>
        simp only [if_true, and_true]
        cases x with
        | none => simp [bxT]
        | some cs =>
          show assoc ((n, cs) :: l) id = _
          rw [assoc_cons]
          by_cases h : id = n
          · subst h; simp
          · rw [beq_ne (fun e => h e.symm), if_neg h]; rfl
    rcases Nat.lt_trichotomy id n with h | h | h
    · rw [if_neg (by omega), hl, if_neg (by omega), if_neg (by omega)]
    · subst h
      rw [if_neg (by omega), hl]
      simp only [Nat.le_refl, Nat.sub_self, List.getElem?_cons_zero, true_and, Option.some.injEq]
      split
      · cases x <;> rfl
      · rfl
    · have e : id - n = (id - (n + 1)) + 1 := by omega
      have hl' : assoc (if b then bxT l n x else l) id = assoc l id := by rw [hl, if_neg (by omega)]
      rw [hl', e]
      simp only [List.getElem?_cons_succ]
      have h1 : (n + 1 ≤ id) := h
      have h2 : n ≤ id := by omega
      simp only [h1, h2, true_and]

theorem rep_true {i j : Nat} : (List.replicate i true)[j]? = some true ↔ j < i := by
  rw [List.getElem?_replicate]
  split
  · rename_i h; exact ⟨fun _ => h, fun _ => rfl⟩
  · rename_i h; exact ⟨fun x => (by cases x), fun x => absurd x h⟩

/-- the frame when some of them have run -/
def hEnv (env : Env) (n : Nat) (l : List Oper) (vs : List V) (xs : List (Option (List V))) (bs : List Bool) : Env :=
  { tmps := putT env.tmps l vs bs, boxes := putB env.nxt xs bs env.boxes, nxt := n, sz := env.sz, gl := env.gl }
end Go.Aw
