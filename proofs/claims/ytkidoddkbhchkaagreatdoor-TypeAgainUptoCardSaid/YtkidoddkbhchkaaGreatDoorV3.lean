/-
  Parts of a proof: lemmas that the last text uses.
-/
import Derived.Test.YtkidoddkbhchkaaGreatDoorV2
set_option maxHeartbeats 16000000
set_option linter.unusedVariables false
namespace Go.Aw
open Go
theorem baseF_8 {l : List UInt8} (h : hdF (l.drop 1) = 111 ∨ hdF (l.drop 1) = 79) : baseF l = 8 := if_pos h
theorem baseF_16 {l : List UInt8} (h : hdF (l.drop 1) = 120 ∨ hdF (l.drop 1) = 88) : baseF l = 16 := by unfold baseF; rw [if_neg (by omega), if_pos h]
theorem baseF_10 {l : List UInt8} (h : hdF (l.drop 1) ≠ 111 ∧ hdF (l.drop 1) ≠ 79 ∧ hdF (l.drop 1) ≠ 120 ∧ hdF (l.drop 1) ≠ 88) : baseF l = 10 := by unfold baseF; rw [if_neg (by omega), if_neg (by omega)]
theorem baseF_or (l : List UInt8) : baseF l = 8 ∨ baseF l = 16 ∨ baseF l = 10 := by
  unfold baseF
  split
  · exact .inl rfl
  · split
    · exact .inr (.inl rfl)
    · exact .inr (.inr rfl)
theorem prefF_yes {l : List UInt8} {b : Int} (h : hdF l = 48) (hb : baseF l = b) (hn : b ≠ 10) (hr : rowN b (l.drop 2) ≠ 0) : prefF l = (b, 2) := by
  subst hb
  exact if_pos ⟨h, hn, hr⟩
theorem prefF_no {l : List UInt8} (h : hdF l ≠ 48 ∨ baseF l = 10 ∨ rowN (baseF l) (l.drop 2) = 0) : prefF l = (10, 0) := if_neg (by omega)
theorem prefF_or (l : List UInt8) : prefF l = (10, 0) ∨ (prefF l = (8, 2) ∧ baseF l = 8) ∨ (prefF l = (16, 2) ∧ baseF l = 16) := by
  by_cases h : hdF l = 48 ∧ baseF l ≠ 10 ∧ rowN (baseF l) (l.drop 2) ≠ 0
  · rcases baseF_or l with hb | hb | hb
    · exact .inr (.inl ⟨prefF_yes h.1 hb (by decide) (hb ▸ h.2.2), hb⟩)
    · exact .inr (.inr ⟨prefF_yes h.1 hb (by decide) (hb ▸ h.2.2), hb⟩)
    · exact absurd hb h.2.1
  · exact .inl (if_neg h)
theorem signN_1 {l : List UInt8} (h : hdF l = 43 ∨ hdF l = 45) : signN l = 1 := if_pos h
theorem signN_0 {l : List UInt8} (h : ¬ (hdF l = 43 ∨ hdF l = 45)) : signN l = 0 := if_neg h
theorem expN_no {l : List UInt8} (h : ¬ (hdF l = 101 ∨ hdF l = 69)) : expN l = 0 := if_neg fun e => h e.1
theorem expN_0 {l : List UInt8} {j : Nat} (h : hdF l = 101 ∨ hdF l = 69) (hk : 1 + signN (l.drop 1) = j) (h0 : rowN 10 (l.drop j) = 0) : expN l = 0 := by
  subst hk
  exact if_neg fun e => e.2 h0
theorem expN_1 {l : List UInt8} {j : Nat} (h : hdF l = 101 ∨ hdF l = 69) (hk : 1 + signN (l.drop 1) = j) (h0 : rowN 10 (l.drop j) ≠ 0) : expN l = j + rowN 10 (l.drop j) := by
  subst hk
  exact if_pos ⟨h, h0⟩
end Go.Aw
namespace Go.Proofs.YtkidoddkbhchkaaGreatDoor
open Go Go.Aw
section
variable {st : St} {R : Res → St → Prop}
theorem row_k {s : List UInt8} {n : Nat} {b : Int} (hl : s.length ≤ 4611686018427387903) (h : R (.ret (.int .i64 (rowN b (s.drop n) : Nat))) st) : PC 279 [.str (s.drop (n : Int).toNat), .int .i64 b] st R :=
  row_c (by rw [List.length_drop]; omega) h
theorem prefixed_c {s : List UInt8} (hl : s.length ≤ 4611686018427387903) (h : R (.ret (.tup [.int .i64 (prefF s).1, .int .i64 (prefF s).2])) st) : PC 278 [.str s] st R := by
  refine pB Tryz.func278 ?_
  repeat' ((conv => whnf); first | (refine Yc1 ?_; intros) | (refine Yc3 ?_ ?_ <;> intro _) | refine row_k (n := 2) hl ?_)
  all_goals try have h0 := hdF_at (show s[0]? = some _ by assumption)
  all_goals try rw [List.drop_zero] at h0
  all_goals try have h1 := hdF_at (show s[1]? = some _ by assumption)
  all_goals try have h1 := hdF_none (s := s) (i := 1) (by omega)
  all_goals first
    | exact fin h (by rw [prefF_no (.inl (by omega))]; rfl)
    | exact fin h (by rw [prefF_no (.inr (.inl (baseF_10 (by omega))))]; rfl)
    | exact fin h (by rw [prefF_no (.inr (.inr (by rw [baseF_8 (by omega)]; assumption)))]; rfl)
    | exact fin h (by rw [prefF_no (.inr (.inr (by rw [baseF_16 (by omega)]; assumption)))]; rfl)
    | exact fin h (by rw [prefF_yes (by omega) (baseF_8 (by omega)) (by decide) (by assumption)]; rfl)
    | exact fin h (by rw [prefF_yes (by omega) (baseF_16 (by omega)) (by decide) (by assumption)]; rfl)
theorem exponent_c {s : List UInt8} (hl : s.length ≤ 4611686018427387903) (h : R (.ret (.int .i64 (expN s : Nat))) st) : PC 280 [.str s] st R := by
  refine pB Tryz.func280 ?_
  by_cases he : s = []
  · subst he
    repeat' ((conv => whnf); first | (refine Yc1 ?_; intros) | (refine Yc3 ?_ ?_ <;> intro _) | fail)
    · exact fin h rfl
    · rename_i hn; exact absurd rfl hn
  have hlen := List.length_pos_iff.2 he
  have r1 : rowN 10 (s.drop 1) ≤ s.length := Nat.le_trans (rowN_le 10 _) (by rw [List.length_drop]; omega)
  have r2 : rowN 10 (s.drop 2) ≤ s.length := Nat.le_trans (rowN_le 10 _) (by rw [List.length_drop]; omega)
  repeat' ((conv => whnf); first | (refine Yc1 ?_; intros) | (refine Yc3 ?_ ?_ <;> intro _) | refine row_k (n := 1) hl ?_ | refine row_k (n := 2) hl ?_)
  all_goals try have h0 := hdF_at (show s[0]? = some _ by assumption)
  all_goals try rw [List.drop_zero] at h0
  all_goals try have h1 := hdF_at (show s[1]? = some _ by assumption)
  all_goals try have h1 := hdF_none (s := s) (i := 1) (by omega)
  all_goals first
    | (have e := expN_no (l := s) (by omega); exact fin h (int_ret (by omega)))
    | (have e := expN_0 (l := s) (j := 1) (by omega) (by rw [signN_0 (by omega)]) (by assumption); exact fin h (int_ret (by omega)))
    | (have e := expN_1 (l := s) (j := 1) (by omega) (by rw [signN_0 (by omega)]) (by assumption); exact fin h (int_ret (by omega)))
    | (have e := expN_0 (l := s) (j := 2) (by omega) (by rw [signN_1 (by omega)]) (by assumption); exact fin h (int_ret (by omega)))
    | (have e := expN_1 (l := s) (j := 2) (by omega) (by rw [signN_1 (by omega)]) (by assumption); exact fin h (int_ret (by omega)))
end
end Go.Proofs.YtkidoddkbhchkaaGreatDoor
set_option maxHeartbeats 16000000
set_option linter.unusedVariables false
namespace Go.Proofs.YtkidoddkbhchkaaGreatDoor
open Go Go.Aw
open Rd (ret seq fail failAt look loop)
def oneK (k : Int) (l : List Nd) : Nd := if l.length = 1 then l.headD nd0 else nodeK k l
def eDeep : Er := ⟨2, by decide⟩
structure Low where
  atom : Rd Nd
  exp : Rd Nd
  ops : Rd Nd
  decls : Rd Nd
  stmts : Rd Nd
  alts : Rd Nd
  brack : Nd → Rd Nd
  list : Nd → Rd Nd
def closeF (s : Sta) : Sta × Bool := if mayF s = true ∧ ¬ s.wait = 1 ∧ ¬ topF s = 0 then (closedF s, true) else (sta0, false)
theorem closed_mu {s : Sta} (h : (closeF s).2 = true) : mu (closeF s).1 ≤ mu s := by
  unfold closeF at h ⊢
  split
  · rename_i hc
    have hne : s.opn ≠ [] := fun e => hc.2.2 (by unfold topF; rw [e]; rfl)
    have := closed_len hne
    simp only [mu, closedF] at *
    omega
  · rename_i hc; rw [if_neg hc] at h; cases h
def blockN (f : Bool) (l : List Nd) : Nd := .mk 2 (if f then 1 else 0) [] 0 0 l
end Go.Proofs.YtkidoddkbhchkaaGreatDoor
set_option maxHeartbeats 16000000
set_option linter.unusedVariables false
namespace Go.Proofs.YtkidoddkbhchkaaGreatDoor
open Go Go.Aw
def slk (k : Int) : Nat := if k = 1 then 3 else if k = 30 then 2 else 1
def sls : List Nd → Nat
  | [] => 0
  | n :: r => slk n.kind + sls r
theorem slk_pos (k : Int) : 1 ≤ slk k := by
  unfold slk
  (repeat' split) <;> omega
theorem sls_append : ∀ {a b : List Nd}, sls (a ++ b) = sls a + sls b
  | [], b => by rw [List.nil_append, sls, Nat.zero_add]
  | n :: r, b => by rw [List.cons_append, sls, sls, sls_append]; omega
theorem sls_len : ∀ {l : List Nd}, l.length ≤ sls l
  | [] => Nat.le_refl _
  | n :: r => by have := sls_len (l := r); have := slk_pos n.kind; rw [sls, List.length_cons]; omega
def idleT (t : Tk) : Bool := t.kind == 18 || t.kind == 19 || t.kind == 20 || (t.kind == 15 && (t.text == [123] || t.text == [125] || t.text == [59]))
inductive Rds : List Nd → Sta → Sta → Prop where
  | nil (s : Sta) : Rds [] s s
  | app {l m : List Nd} {s s1 s2 : Sta} : Rds l s s1 → Rds m s1 s2 → Rds (l ++ m) s s2
  | tok {s : Sta} : (nextM s).2.2 = 0 → (nextM s).1.kind < 18 → (nextM s).1.kind ≠ 0 → Rds [leafT (nextM s).1] s (nextM s).2.1
  | skip {s : Sta} : (nextM s).2.2 = 0 → idleT (nextM s).1 = true → Rds [] s (nextM s).2.1
  | close {s : Sta} : (closeF s).2 = true → Rds [] s (closeF s).1
  | node {k : Int} {l : List Nd} {s s' : Sta} : Rds l s s' → k ≠ 1 → 1 + slk k ≤ sls l → Rds [nodeK k l] s s'
  | block {f : Bool} {l : List Nd} {s s' : Sta} : (nextM s).2.2 = 0 → idleT (nextM s).1 = true → Rds l (nextM s).2.1 s' → Rds [blockN f l] s s'
theorem idle_kd {t : Tk} (h : idleT t = true) : t.kind ≠ 0 ∧ t.kind ≠ 21 := by
  unfold idleT at h
  simp only [Bool.or_eq_true, Bool.and_eq_true, beq_iff_eq] at h
  omega
theorem Rds.size {l : List Nd} {s s' : Sta} (h : Rds l s s') : sizes l + sls l + 4 * mu s' ≤ 4 * mu s := by
  induction h with
  | nil s => simp only [sizes, sls]; omega
  | app _ _ h1 h2 => rw [sizes_append, sls_append]; omega
  | tok h1 h2 h3 =>
    rename_i s
    have := (next_mu h1).2 (by omega)
    have e : sizes [leafT (nextM s).1] + sls [leafT (nextM s).1] = 4 := rfl
    omega
  | skip h1 h2 => have := (next_mu h1).1; simp only [sizes, sls]; omega
  | close h1 => have := closed_mu h1; simp only [sizes, sls]; omega
  | node h1 h2 h3 ih =>
    rename_i k l s s'
    have e : sizes [nodeK k l] + sls [nodeK k l] = (1 + sizes l + 0) + (slk k + 0) := by simp only [nodeK, sizes, Nd.size, sls]; rfl
    omega
  | block h1 h2 h3 ih =>
    rename_i f l s s'
    have := (next_mu h1).2 (idle_kd h2).2
    have e : sizes [blockN f l] + sls [blockN f l] = (1 + sizes l + 0) + (1 + 0) := by simp only [blockN, sizes, Nd.size, sls]; rfl
    omega
theorem Rds.size1 {n : Nd} {s s' : Sta} (h : Rds [n] s s') : n.size + 4 * mu s' ≤ 4 * mu s := by
  have := h.size
  simp only [sizes] at this
  omega
theorem Rds.two {k : Int} {l : List Nd} {s s' : Sta} (h : Rds l s s') (hk : k ≠ 1) (h30 : k ≠ 30) (hl : 2 ≤ l.length) : Rds [nodeK k l] s s' :=
  .node h hk (by have := sls_len (l := l); unfold slk; rw [if_neg hk, if_neg h30]; omega)
theorem Rds.is {s : Sta} {k : Int} {x : List UInt8} (h : isF s k x = true) (h0 : k ≠ 0) (h1 : k < 18) : Rds [leafT (nextM s).1] s (nextM s).2.1 := by
  have e : (nextM s).1.kind = k := by
    unfold isF at h
    simp only [Bool.and_eq_true, beq_iff_eq] at h
    exact h.1
  exact .tok (isF_ok h h0) (by omega) (by omega)
theorem Rds.cons {n : Nd} {l : List Nd} {s s1 s2 : Sta} (h : Rds [n] s s1) (k : Rds l s1 s2) : Rds (n :: l) s s2 := .app h k
theorem Rds.one {k : Int} {l : List Nd} {s s' : Sta} (h : Rds l s s') (hk : k ≠ 1) (h30 : k ≠ 30) (hl : 1 ≤ l.length) : Rds [oneK k l] s s' := by
  unfold oneK
  split
  · match l, ‹l.length = 1› with
    | [x], _ => exact h
  · exact h.two hk h30 (by omega)
variable {A : Sta → Rs}
theorem starts_kd {t : Tk} (h : startsF t = true) : t.kind ≠ 0 ∧ t.kind < 18 := by
  unfold startsF at h
  simp only [Bool.or_eq_true, Bool.and_eq_true, beq_iff_eq] at h
  omega
end Go.Proofs.YtkidoddkbhchkaaGreatDoor
set_option maxHeartbeats 16000000
set_option linter.unusedVariables false
namespace Go.Proofs.YtkidoddkbhchkaaGreatDoor
open Go Go.Aw
structure Tst0 (p : Tk → Bool) : Prop where
  e : p ⟨21, [], 0, 0⟩ = false
  z : p tk0 = false
  k : ∀ a b : Tk, a.kind = b.kind → a.text = b.text → p a = p b
structure Tst (p : Tk → Bool) : Prop extends Tst0 p where
  c : p ⟨15, [41], 0, 0⟩ = false
structure TstT (p : Tk → Bool) : Prop extends Tst0 p where
  b1 : p ⟨15, [123], 0, 0⟩ = false
  b2 : p ⟨15, [125], 0, 0⟩ = false
theorem tst0_is {k : Int} {x : List UInt8} (h : k ≠ 0 ∧ k ≠ 21) : Tst0 (fun t => t.kind == k && t.text == x) :=
  ⟨by show ((21 : Int) == k && _) = false; rw [beq_eq_false_iff_ne.2 (fun e => h.2 e.symm)]; rfl, by show ((0 : Int) == k && _) = false; rw [beq_eq_false_iff_ne.2 (fun e => h.1 e.symm)]; rfl, fun a b h1 h2 => by rw [h1, h2]⟩
theorem tst_is {k : Int} {x : List UInt8} (h : k ≠ 0 ∧ k ≠ 21) (hc : ¬ (k = 15 ∧ x = [41])) : Tst (fun t => t.kind == k && t.text == x) :=
  ⟨tst0_is h, by
    by_cases e : k = 15
    · subst e
      show ((15 : Int) == 15 && ([41] : List UInt8) == x) = false
      rw [beq_eq_false_iff_ne.2 (fun e => hc ⟨rfl, e.symm⟩), Bool.and_false]
    · show ((15 : Int) == k && _) = false
      rw [beq_eq_false_iff_ne.2 (fun f => e f.symm)]; rfl⟩
theorem tstT_is {k : Int} {x : List UInt8} (h : k ≠ 0 ∧ k ≠ 21) (hb : ¬ (k = 15 ∧ (x = [123] ∨ x = [125]))) : TstT (fun t => t.kind == k && t.text == x) :=
  ⟨tst0_is h, by
    by_cases e : k = 15
    · subst e
      show ((15 : Int) == 15 && ([123] : List UInt8) == x) = false
      rw [beq_eq_false_iff_ne.2 (fun e => hb ⟨rfl, .inl e.symm⟩), Bool.and_false]
    · show ((15 : Int) == k && _) = false
      rw [beq_eq_false_iff_ne.2 (fun f => e f.symm)]; rfl, by
    by_cases e : k = 15
    · subst e
      show ((15 : Int) == 15 && ([125] : List UInt8) == x) = false
      rw [beq_eq_false_iff_ne.2 (fun e => hb ⟨rfl, .inr e.symm⟩), Bool.and_false]
    · show ((15 : Int) == k && _) = false
      rw [beq_eq_false_iff_ne.2 (fun f => e f.symm)]; rfl⟩
theorem tstT_starts : TstT startsF := ⟨⟨rfl, rfl, fun a b h1 h2 => by unfold startsF; rw [h1, h2]⟩, rfl, rfl⟩
theorem tst_starts : Tst startsF := ⟨⟨rfl, rfl, fun a b h1 h2 => by unfold startsF; rw [h1, h2]⟩, rfl⟩
inductive All2 (T : Nd → Nd → Prop) : List Nd → List Nd → Prop where
  | nil : All2 T [] []
  | cons {a b : Nd} {l m : List Nd} : T a b → All2 T l m → All2 T (a :: l) (b :: m)
theorem All2.one {T : Nd → Nd → Prop} {a b : Nd} (h : T a b) : All2 T [a] [b] := .cons h .nil
theorem All2.app {T : Nd → Nd → Prop} {l m l' m' : List Nd} (h : All2 T l m) (k : All2 T l' m') : All2 T (l ++ l') (m ++ m') := by
  induction h with
  | nil => exact k
  | cons h1 _ ih => exact .cons h1 ih
theorem All2.len {T : Nd → Nd → Prop} {l m : List Nd} (h : All2 T l m) : l.length = m.length := by
  induction h with
  | nil => rfl
  | cons _ _ ih => rw [List.length_cons, List.length_cons, ih]
structure Sm where
  R : Sta → Sta → Prop
  T : Nd → Nd → Prop
  Out : Sta → Prop
  Lim : Sta → Prop
  out : ∀ {s s' : Sta}, Out s → mu s' ≤ mu s → Out s'
  lim : ∀ {s s' : Sta}, Lim s → mu s' < mu s → Out s'
  yes : ∀ {s t : Sta} {p : Tk → Bool}, R s t → TstT p → p (nextM s).1 = true → (nextM s).2.2 = 0 → Lim s ∨ (p (nextM t).1 = true ∧ (nextM t).2.2 = 0 ∧ R (nextM s).2.1 (nextM t).2.1 ∧ T (leafT (nextM s).1) (leafT (nextM t).1))
  no : ∀ {s t : Sta} {p : Tk → Bool}, R s t → Tst p → p (nextM s).1 = false → p (nextM t).1 = false
  cno : ∀ {s t : Sta}, R s t → isF s 15 [41] = false → isF t 15 [41] = false ∨ ∀ p, Tst p → p (nextM s).1 = false
  mu : ∀ {s t s' t' : Sta}, R s t → R s' t' → Proofs.YtkidoddkbhchkaaGreatDoor.mu s' < Proofs.YtkidoddkbhchkaaGreatDoor.mu s → Proofs.YtkidoddkbhchkaaGreatDoor.mu t' < Proofs.YtkidoddkbhchkaaGreatDoor.mu t
  node : ∀ {k : Int} {l m : List Nd}, All2 T l m → T (nodeK k l) (nodeK k m)
variable (S : Sm)
def ER {α : Type} (T : α → α → Prop) (q q' : Sum (Int × Sta) (α × Sta)) : Prop := ∀ v s1, q = .inr (v, s1) → S.Out s1 ∨ ∃ w t1, q' = .inr (w, t1) ∧ T v w ∧ S.R s1 t1
def Sim (A : Sta → Rs) : Prop := ∀ s t, S.R s t → ER S S.T (A s) (A t)
variable {S}
theorem Sm.is {s t : Sta} {k : Int} {x : List UInt8} (hr : S.R s t) (hk : k ≠ 0 ∧ k ≠ 21) (hb : ¬ (k = 15 ∧ (x = [123] ∨ x = [125]))) (h : isF s k x = true) : S.Lim s ∨ (isF t k x = true ∧ S.R (nextM s).2.1 (nextM t).2.1 ∧ S.T (leafT (nextM s).1) (leafT (nextM t).1)) := by
  rcases S.yes (p := fun t => t.kind == k && t.text == x) hr (tstT_is hk hb) h (isF_ok h hk.1) with h | ⟨h1, _, h3, h4⟩
  · exact .inl h
  · exact .inr ⟨h1, h3, h4⟩
theorem Sm.isnt {s t : Sta} {k : Int} {x : List UInt8} (hr : S.R s t) (hk : k ≠ 0 ∧ k ≠ 21) (hc : ¬ (k = 15 ∧ x = [41])) (h : ¬ isF s k x = true) : ¬ isF t k x = true := by
  have := S.no (p := fun t => t.kind == k && t.text == x) hr (tst_is hk hc) (show isF s k x = false from Bool.eq_false_iff.2 h)
  show ¬ (((nextM t).1.kind == k && (nextM t).1.text == x) = true)
  rw [this]; decide
section
variable {A Y : Sta → Rs}
theorem sm_rowL (hA : Sim S A) (l : List Nd) (s : Sta) : ∀ m t, All2 S.T l m → S.R s t → ER S (All2 S.T) (rowL A l s) (rowL A m t) := by
  fun_induction rowL A l s with
  | case1 l s h1 e1 h2 => intro m t hl hr v s1 h; cases h
  | case2 l s h1 p h2 h3 ih =>
    intro m t hl hr v s1 h
    have hm := rowL_mu _ _ _ _ h
    rcases S.yes hr tstT_starts h1 (kind_no (starts_kd h1).1) with ho | ⟨y1, y2, y3, y4⟩
    · exact .inl (S.out (S.lim ho h3) hm)
    · rcases hA s t hr p.1 p.2 h2 with ho | ⟨w, t1, e, ht, hr1⟩
      · exact .inl (S.out ho hm)
      · rw [rowL_at (A := A) (n := w) (s' := t1) y1 e (S.mu hr hr1 h3)]
        exact ih (m ++ [w]) t1 (hl.app (.one ht)) hr1 v s1 h
  | case3 l s h1 p h2 h3 => intro m t hl hr v s1 h; cases h
  | case4 l s h1 =>
    intro m t hl hr v s1 h
    cases h
    exact .inr ⟨m, t, by rw [rowL, if_neg (by rw [S.no hr tst_starts (by simpa using h1)]; decide)], hl, hr⟩
theorem sm_row (hA : Sim S A) : Sim S (rowP A) := fun s t hr v s1 h => by
  unfold rowP at h
  split at h
  · cases h
  · rename_i p hp
    split at h
    · cases h
    · rename_i q hq
      have hm := rowL_mu _ _ _ _ hq
      have hs : s1 = q.2 := by split at h <;> (cases h; rfl)
      rcases hA s t hr p.1 p.2 hp with ho | ⟨w, t1, e, ht, hr1⟩
      · exact .inl (S.out ho (by rw [hs]; exact hm))
      · rcases sm_rowL hA [p.1] p.2 [w] t1 (.one ht) hr1 q.1 q.2 hq with ho | ⟨m, t2, e2, hl, hr2⟩
        · exact .inl (hs ▸ ho)
        · right
          have hlen := hl.len
          unfold rowP
          rw [e]
          dsimp only
          rw [e2]
          dsimp only
          split at h
          · cases h; rw [if_pos (by omega)]; exact ⟨w, t2, rfl, ht, hr2⟩
          · cases h; rw [if_neg (by omega)]; exact ⟨_, t2, rfl, S.node hl, hr2⟩
theorem sm_arrL (hA : Sim S A) (l : List Nd) (s : Sta) : ∀ m t, All2 S.T l m → S.R s t → ER S (All2 S.T) (arrL A l s) (arrL A m t) := by
  fun_induction arrL A l s with
  | case1 l s h1 e1 h2 => intro m t hl hr v s1 h; cases h
  | case2 l s h1 p h2 h3 ih =>
    intro m t hl hr v s1 h
    have hm := arrL_mu _ _ _ _ h
    rcases Sm.is hr (by decide) (by decide) h1 with ho | ⟨y1, y3, y4⟩
    · exact .inl (S.out (S.lim ho h3) hm)
    · rcases sm_row hA _ _ y3 p.1 p.2 h2 with ho | ⟨w, t1, e, ht, hr1⟩
      · exact .inl (S.out ho hm)
      · rw [arrL_at (A := A) (n := w) (s' := t1) y1 e (S.mu hr hr1 h3)]
        exact ih _ t1 (hl.app (.cons y4 (.one ht))) hr1 v s1 h
  | case3 l s h1 p h2 h3 => intro m t hl hr v s1 h; cases h
  | case4 l s h1 =>
    intro m t hl hr v s1 h
    cases h
    exact .inr ⟨m, t, by rw [arrL, if_neg (Sm.isnt hr (by decide) (by decide) h1)], hl, hr⟩
theorem sm_arrows (hA : Sim S A) {n n' : Nd} (hn : S.T n n') {s t : Sta} (hr : S.R s t) : ER S S.T (arrowsP A n s) (arrowsP A n' t) := fun v s1 h => by
  unfold arrowsP at h
  split at h
  · cases h
  · rename_i q hq
    have hs : s1 = q.2 := by split at h <;> (cases h; rfl)
    rcases sm_arrL hA [n] s [n'] t (.one hn) hr q.1 q.2 hq with ho | ⟨m, t2, e2, hl, hr2⟩
    · exact .inl (hs ▸ ho)
    · right
      have hlen := hl.len
      unfold arrowsP
      rw [e2]
      dsimp only
      split at h
      · cases h; rw [if_pos (by omega)]; exact ⟨n', t2, rfl, hn, hr2⟩
      · cases h; rw [if_neg (by omega)]; exact ⟨_, t2, rfl, S.node hl, hr2⟩
theorem sm_whole (hA : Sim S A) : Sim S (wholeP A) := fun s t hr v s1 h => by
  unfold wholeP at h
  split at h
  · cases h
  · rename_i p hp
    have hm := arrows_mu h
    rcases sm_row hA s t hr p.1 p.2 hp with ho | ⟨w, t1, e, ht, hr1⟩
    · exact .inl (S.out ho hm)
    · unfold wholeP
      rw [e]
      exact sm_arrows hA ht hr1 v s1 h
theorem sm_full (hF : Falls A) (hA : Sim S A) : Sim S (fullP A) := fun s t hr v s1 h => by
  unfold fullP at h
  split at h
  · cases h
  · rename_i p hp
    rcases sm_row hA s t hr p.1 p.2 hp with ho | ⟨w, t1, e, ht, hr1⟩
    · left
      refine S.out ho ?_
      split at h
      · rename_i h1
        have := isF_mu h1 (by decide) (by decide)
        split at h
        · cases h
        · rename_i q hq
          have := falls_whole hF _ _ _ hq
          cases h
          omega
      · exact arrows_mu h
    · unfold fullP
      rw [e]
      dsimp only
      split at h
      · rename_i h1
        have := isF_mu h1 (by decide) (by decide)
        split at h
        · cases h
        · rename_i q hq
          have := falls_whole hF _ _ _ hq
          rcases Sm.is hr1 (by decide) (by decide) h1 with ho | ⟨y1, y3, y4⟩
          · cases h; exact .inl (S.lim ho (by omega))
          · rcases sm_whole hA _ _ y3 q.1 q.2 hq with ho | ⟨w2, t2, e2, ht2, hr2⟩
            · cases h; exact .inl ho
            · cases h
              rw [if_pos y1, e2]
              exact .inr ⟨_, t2, rfl, S.node (.cons ht (.cons y4 (.one ht2))), hr2⟩
      · rename_i h1
        rw [if_neg (Sm.isnt hr1 (by decide) (by decide) h1)]
        exact sm_arrows hA ht hr1 v s1 h
theorem sm_typesL (hA : Sim S A) (l : List Nd) (s : Sta) : ∀ m t, All2 S.T l m → S.R s t → ER S (All2 S.T) (typesL A l s) (typesL A m t) := by
  fun_induction typesL A l s with
  | case1 l s h1 e1 h2 => intro m t hl hr v s1 h; cases h
  | case2 l s h1 p h2 h3 ih =>
    intro m t hl hr v s1 h
    have hm := typesL_mu _ _ _ _ h
    rcases Sm.is hr (by decide) (by decide) h1 with ho | ⟨y1, y3, y4⟩
    · exact .inl (S.out (S.lim ho h3) hm)
    · rcases hA _ _ y3 p.1 p.2 h2 with ho | ⟨w, t1, e, ht, hr1⟩
      · exact .inl (S.out ho hm)
      · rw [typesL_at (Y := A) (n := w) (s' := t1) y1 e (S.mu hr hr1 h3)]
        exact ih _ t1 (hl.app (.cons y4 (.one ht))) hr1 v s1 h
  | case3 l s h1 p h2 h3 => intro m t hl hr v s1 h; cases h
  | case4 l s h1 =>
    intro m t hl hr v s1 h
    cases h
    exact .inr ⟨m, t, by rw [typesL, if_neg (Sm.isnt hr (by decide) (by decide) h1)], hl, hr⟩
theorem sm_comma (l : List Nd) (s : Sta) : ∀ m t, All2 S.T l m → S.R s t → S.Out (commaL l s).2 ∨ (All2 S.T (commaL l s).1 (commaL m t).1 ∧ S.R (commaL l s).2 (commaL m t).2) := by
  fun_induction commaL l s with
  | case1 l s h1 h2 ih =>
    intro m t hl hr
    have hm := commaL_mu (l ++ [leafT (nextM s).1]) (nextM s).2.1
    rcases Sm.is hr (by decide) (by decide) h1 with ho | ⟨y1, y3, y4⟩
    · exact .inl (S.out (S.lim ho h2) hm)
    · rw [show commaL m t = commaL (m ++ [leafT (nextM t).1]) (nextM t).2.1 by rw [commaL, if_pos y1, if_pos (S.mu hr y3 h2)]]
      exact ih _ _ (hl.app (.one y4)) y3
  | case2 l s h1 h2 => exact absurd (isF_mu h1 (by decide) (by decide)) h2
  | case3 l s h1 =>
    intro m t hl hr
    rw [show commaL m t = (m, t) by rw [commaL, if_neg (Sm.isnt hr (by decide) (by decide) h1)]]
    exact .inr ⟨hl, hr⟩
theorem sm_fin {k : Int} {l m : List Nd} {s t : Sta} {x : List UInt8} (hx : x ≠ [123] ∧ x ≠ [125]) (hl : All2 S.T l m) (hr : S.R s t) : ER S S.T (finP k l s x) (finP k m t x) := fun v s1 h => by
  have hm := fin_mu h
  unfold finP wantP at h
  by_cases h1 : isF s 15 x = true
  · rw [if_pos h1, take_is h1 (by decide)] at h
    cases h
    rcases Sm.is hr (by decide) (fun e => e.2.elim hx.1 hx.2) h1 with ho | ⟨y1, y3, y4⟩
    · exact .inl (S.lim ho hm)
    · right
      unfold finP wantP
      rw [if_pos y1, take_is y1 (by decide)]
      exact ⟨_, _, rfl, S.node (hl.app (.one y4)), y3⟩
  · rw [if_neg h1] at h
    cases h
theorem sm_take {s t : Sta} (hr : S.R s t) (h1 : startsF (nextM s).1 = true) : ER S S.T (takeP s) (takeP t) := fun v s1 h => by
  have hm := starts_mu h1 h
  have hz := kind_no (starts_kd h1).1
  rcases S.yes hr tstT_starts h1 hz with ho | ⟨y1, y2, y3, y4⟩
  · exact .inl (S.lim ho hm)
  · unfold takeP at h ⊢
    rw [if_pos hz] at h
    rw [if_pos y2]
    cases h
    exact .inr ⟨_, _, rfl, y4, y3⟩
def Begins (Y : Sta → Rs) : Prop := ∀ s n s', Y s = .inr (n, s') → startsF (nextM s).1 = true
theorem sm_round (hF : Falls Y) (hB : Begins Y) (hY : Sim S Y) {s t : Sta} (hr : S.R s t) (hs : startsF (nextM s).1 = true) : ER S S.T (roundP Y s) (roundP Y t) := fun v s1 h => by
  have hm := round_mu hF hs h
  unfold roundP at h
  split at h
  · cases h
  · rename_i p hp
    rcases sm_take hr hs p.1 p.2 hp with ho | ⟨w, t1, e, ht, hr1⟩
    · left
      refine S.out ho ?_
      split at h
      · rename_i h1; have := isF_mu h1 (by decide) (by decide); have := fin_mu h; omega
      split at h
      · have := fin_mu h; omega
      split at h
      · have := fin_mu h; have := commaL_mu [p.1] p.2; omega
      split at h
      · cases h
      · rename_i q hq
        have := hF _ _ _ hq
        split at h
        · cases h
        · rename_i r hr
          have := typesL_mu _ _ _ _ hr
          have := fin_mu h
          omega
    · unfold roundP
      rw [e]
      dsimp only
      by_cases h1 : isF p.2 10 [45, 62] = true
      · rw [if_pos h1] at h
        have := isF_mu h1 (by decide) (by decide)
        rcases Sm.is hr1 (by decide) (by decide) h1 with ho | ⟨y1, y3, y4⟩
        · have := fin_mu h; exact .inl (S.lim ho (by omega))
        · rw [if_pos y1]
          exact sm_fin (by decide) (.cons ht (.one y4)) y3 v s1 h
      rw [if_neg h1] at h
      rw [if_neg (Sm.isnt hr1 (by decide) (by decide) h1)]
      by_cases h2 : isF p.2 15 [41] = true
      · rw [if_pos h2] at h
        rcases Sm.is hr1 (by decide) (by decide) h2 with ho | ⟨y1, y3, y4⟩
        · have := fin_mu h; exact .inl (S.lim ho (by omega))
        · rw [if_pos y1]
          exact sm_fin (by decide) (.one ht) hr1 v s1 h
      rw [if_neg h2] at h
      by_cases h3 : isF p.2 15 [44] = true
      · rw [if_pos h3] at h
        rcases Sm.is hr1 (by decide) (by decide) h3 with ho | ⟨y1, y3, y4⟩
        · have := fin_mu h; have := commaL_mu [p.1] p.2; exact .inl (S.lim ho (by omega))
        · have hno : ¬ isF t1 15 [41] = true := fun e => by
            unfold isF at e y1
            simp only [Bool.and_eq_true, beq_iff_eq] at e y1
            rw [e.2] at y1
            exact absurd y1.2 (by decide)
          rw [if_neg hno, if_pos y1]
          rcases sm_comma [p.1] p.2 [w] t1 (.one ht) hr1 with ho | ⟨hl, hr2⟩
          · have := fin_mu h; exact .inl (S.out ho (by omega))
          · exact sm_fin (by decide) hl hr2 v s1 h
      rw [if_neg h3] at h
      split at h
      · cases h
      · rename_i q hq
        have hb := hB _ _ _ hq
        have hf := hF _ _ _ hq
        have hno : ¬ isF t1 15 [41] = true := fun e => by
          rcases S.cno hr1 (by simpa using h2) with h4 | h4
          · rw [h4] at e; cases e
          · rw [h4 _ tst_starts] at hb; cases hb
        rw [if_neg hno, if_neg (Sm.isnt hr1 (by decide) (by decide) h3)]
        split at h
        · cases h
        · rename_i r hq2
          have hm2 := typesL_mu _ _ _ _ hq2
          have hm3 := fin_mu h
          rcases hY p.2 t1 hr1 q.1 q.2 hq with ho | ⟨w2, t2, e2, ht2, hr2⟩
          · exact .inl (S.out ho (by omega))
          · rw [e2]
            dsimp only
            rcases sm_typesL hY [p.1, q.1] q.2 [w, w2] t2 (.cons ht (.one ht2)) hr2 r.1 r.2 hq2 with ho | ⟨m, t3, e3, hl, hr3⟩
            · exact .inl (S.out ho (by omega))
            · rw [e3]
              dsimp only
              rw [← hl.len]
              exact sm_fin (by decide) hl hr3 v s1 h
theorem sm_square (hF : Falls Y) (hY : Sim S Y) {s t : Sta} (hr : S.R s t) (hs : startsF (nextM s).1 = true) : ER S S.T (squareP Y s) (squareP Y t) := fun v s1 h => by
  unfold squareP at h
  split at h
  · cases h
  · rename_i p hp
    rcases sm_take hr hs p.1 p.2 hp with ho | ⟨w, t1, e, ht, hr1⟩
    · left
      refine S.out ho ?_
      split at h
      · rename_i h1; have := isF_mu h1 (by decide) (by decide); cases h; omega
      split at h
      · cases h
      · rename_i q hq
        have := hF _ _ _ hq
        have := fin_mu h
        omega
    · unfold squareP
      rw [e]
      dsimp only
      by_cases h1 : isF p.2 15 [93] = true
      · rw [if_pos h1] at h
        have := isF_mu h1 (by decide) (by decide)
        cases h
        rcases Sm.is hr1 (by decide) (by decide) h1 with ho | ⟨y1, y3, y4⟩
        · exact .inl (S.lim ho (by omega))
        · rw [if_pos y1]
          exact .inr ⟨_, _, rfl, S.node (.cons ht (.one y4)), y3⟩
      · rw [if_neg h1] at h
        rw [if_neg (Sm.isnt hr1 (by decide) (by decide) h1)]
        split at h
        · cases h
        · rename_i q hq
          have hm3 := fin_mu h
          rcases hY p.2 t1 hr1 q.1 q.2 hq with ho | ⟨w2, t2, e2, ht2, hr2⟩
          · exact .inl (S.out ho (by omega))
          · rw [e2]
            exact sm_fin (by decide) (.cons ht (.one ht2)) hr2 v s1 h
theorem sm_atom (hF : Falls Y) (hB : Begins Y) (hY : Sim S Y) : Sim S (atomP Y) := fun s t hr v s1 h => by
  have hm := falls_atom hF _ _ _ h
  unfold atomP at h
  split at h
  · rename_i hs
    have hz := kind_no (starts_kd hs).1
    have tk : TstT (fun u => startsF u && (decide (u.kind = (nextM s).1.kind) && decide (u.text = (nextM s).1.text))) := ⟨⟨rfl, rfl, fun a b h1 h2 => by unfold startsF; rw [h1, h2]⟩, rfl, rfl⟩
    rcases S.yes hr tk (by simp [hs]) hz with ho | ⟨y1, _, _, _⟩
    · exact .inl (S.lim ho hm)
    · simp only [Bool.and_eq_true, decide_eq_true_eq] at y1
      obtain ⟨y1, y2, y3⟩ := y1
      unfold atomP
      rw [if_pos y1, y2, y3]
      split at h
      · rename_i h1
        rw [if_pos h1]
        split at h
        · rename_i h2
          rw [if_pos h2]
          exact sm_round hF hB hY hr hs v s1 h
        · rename_i h2
          rw [if_neg h2]
          exact sm_square hF hY hr hs v s1 h
      · rename_i h1
        rw [if_neg h1]
        exact sm_take hr hs v s1 h
  · cases h
theorem begins_atom : Begins (atomP Y) := fun s n s' h => by
  unfold atomP at h
  split at h
  · assumption
  · cases h
theorem begins_whole (hB : Begins A) : Begins (wholeP A) := fun s n s' h => by
  unfold wholeP rowP at h
  cases hA : A s with
  | inl p => rw [hA] at h; cases h
  | inr p => exact hB s p.1 p.2 hA
theorem begins_type : ∀ d, Begins (typeP d)
  | 0 => fun s n s' h => by cases h
  | d + 1 => begins_whole begins_atom
theorem sm_type : ∀ d, Sim S (typeP d)
  | 0 => fun s t hr v s1 h => by cases h
  | d + 1 => sm_whole (sm_atom (falls_type d) (begins_type d) (sm_type d))
end
end Go.Proofs.YtkidoddkbhchkaaGreatDoor
set_option maxHeartbeats 16000000
set_option linter.unusedVariables false
set_option pp.maxSteps 400
set_option maxHeartbeats 16000000
set_option linter.unusedVariables false
namespace Go.Proofs.YtkidoddkbhchkaaGreatDoor
open Go Go.Aw
namespace Rd
variable {α β γ σ : Type}
def Ap (a b : Rd α) : Prop := ∀ s, (∃ e t, a.run s = .inl (e, t) ∧ e.1 = 2) ∨ b.run s = a.run s
theorem Ap.rfl' {a : Rd α} : Ap a a := fun _ => .inr rfl
theorem Ap.trans {a b c : Rd α} (h : Ap a b) (k : Ap b c) : Ap a c := fun s => by
  rcases h s with h | h
  · exact .inl h
  · rcases k s with ⟨e, t, k, ke⟩ | k
    · exact .inl ⟨e, t, h ▸ k, ke⟩
    · exact .inr (k.trans h)
theorem Ap.seq {m m' : Rd α} {k k' : α → Rd β} (h : Ap m m') (hk : ∀ v, Ap (k v) (k' v)) : Ap (seq m k) (seq m' k') := fun s => by
  unfold Rd.seq
  dsimp only
  rcases h s with ⟨e, t, h, he⟩ | h
  · left; rw [h]; exact ⟨e, t, rfl, he⟩
  · rw [h]
    cases m.run s with
    | inl e => exact .inr rfl
    | inr p => exact hk p.1 p.2
theorem Ap.look {f f' : Sta → Rd α} (h : ∀ s, Ap (f s) (f' s)) : Ap (look f) (look f') := fun s => h s s
theorem Ap.ite {c : Prop} [Decidable c] {a b a' b' : Rd α} (h1 : Ap a a') (h2 : Ap b b') : Ap (if c then a else b) (if c then a' else b') := by split <;> assumption
theorem Ap.deep {b : Rd α} : Ap (fail eDeep) b := fun s => .inl ⟨eDeep, s, rfl, rfl⟩
theorem Ap.loop {body body' : σ → Rd (Sum σ β)} (h : ∀ x, Ap (body x) (body' x)) (x : σ) : Ap (loop body x) (loop body' x) := fun s => by
  show (∃ e t, iter body x s = .inl (e, t) ∧ e.1 = 2) ∨ iter body' x s = iter body x s
  fun_induction iter body x s with
  | case1 x s e h1 =>
    rcases h x s with ⟨e', t, h2, he⟩ | h2
    · rw [h1] at h2; cases h2; exact .inl ⟨_, _, rfl, he⟩
    · right; rw [iter, h2, h1]
  | case2 x s y s1 h1 =>
    rcases h x s with ⟨e', t, h2, he⟩ | h2
    · rw [h1] at h2; cases h2
    · right; rw [iter, h2, h1]
  | case3 x s x' s1 h1 hlt ih =>
    rcases h x s with ⟨e', t, h2, he⟩ | h2
    · rw [h1] at h2; cases h2
    · have e : iter body' x s = iter body' x' s1 := by
        rw [iter, h2, h1]; dsimp only; rw [if_pos hlt]
      rw [e]; exact ih
  | case4 x s x' s1 h1 hlt => exact .inl ⟨_, _, rfl, rfl⟩
end Rd
open Rd (Ap)
structure LowAp (L L' : Low) : Prop where
  atom : Ap L.atom L'.atom
  exp : Ap L.exp L'.exp
  ops : Ap L.ops L'.ops
  decls : Ap L.decls L'.decls
  stmts : Ap L.stmts L'.stmts
  alts : Ap L.alts L'.alts
  brack : ∀ o, Ap (L.brack o) (L'.brack o)
  list : ∀ o, Ap (L.list o) (L'.list o)
end Go.Proofs.YtkidoddkbhchkaaGreatDoor
set_option maxHeartbeats 16000000
set_option linter.unusedVariables false
namespace Go.Proofs.YtkidoddkbhchkaaGreatDoor
open Go Go.Aw
def noE : Er → Sta → Prop := fun _ _ => True
def Dv (A : Rd Nd) : Prop := ∀ s, Rd.wp A s (fun n s' => Rds [n] s s') noE
theorem Dv.at {A : Rd Nd} (h : Dv A) {s s' : Sta} {n : Nd} (e : A.run s = .inr (n, s')) : Rds [n] s s' := by
  have := h s
  unfold Rd.wp at this
  rw [e] at this; exact this
theorem Dv.of {A : Rd Nd} (h : ∀ s n s', A.run s = .inr (n, s') → Rds [n] s s') : Dv A := fun s => Rd.wp_of (fun n s' e => h s n s' e) (fun _ _ _ => trivial)
theorem Dv.size {A : Rd Nd} (h : Dv A) {s s' : Sta} {n : Nd} (e : A.run s = .inr (n, s')) : n.size + 4 * mu s' ≤ 4 * mu s := (h.at e).size1
structure Real (s : Sta) : Prop where
  ok : (nextM s).2.2 = 0
  lt : (nextM s).1.kind < 18
  ne : (nextM s).1.kind ≠ 0
section
variable {A B C : Rd Nd} {s s0 s1 s2 s' : Sta} {Q : Nd → Sta → Prop} {L : Low}
theorem Rds.pass {l : List Nd} (h : Rds l s s1) (k : Rds [] s1 s2) : Rds l s s2 := by
  have := Rds.app h k
  rwa [List.append_nil] at this
theorem Rds.pre {l : List Nd} (h : Rds [] s s1) (k : Rds l s1 s2) : Rds l s s2 := Rds.app h k
structure DvL (L : Low) : Prop where
  atom : Dv L.atom
  exp : Dv L.exp
  ops : Dv L.ops
  decls : Dv L.decls
  stmts : Dv L.stmts
  alts : Dv L.alts
  brack : ∀ o s, Rd.wp (L.brack o) s (fun n s' => ∀ s0, Rds [o] s0 s → Rds [n] s0 s') noE
  list : ∀ o s, Rd.wp (L.list o) s (fun n s' => ∀ s0, Rds [o] s0 s → Rds [n] s0 s') noE
end
end Go.Proofs.YtkidoddkbhchkaaGreatDoor
set_option maxHeartbeats 16000000
set_option linter.unusedVariables false
namespace Go.Proofs.YtkidoddkbhchkaaGreatDoor
open Go Go.Aw
abbrev opT : Tk := ⟨15, [40], 0, 0⟩
abbrev clT : Tk := ⟨15, [41], 0, 0⟩
abbrev enT : Tk := ⟨21, [], 0, 0⟩
structure Pl (s : Sta) : Prop where
  tk : ∀ t ∈ s.toks, 0 < t.kind ∧ t.kind < 16
  p0 : 0 ≤ s.pos
  p1 : s.pos ≤ s.toks.length
  op : ∀ x ∈ s.opn, x = 0
  wt : s.wait = 0
def emb (s : Sta) : Sta := ⟨opT :: (s.toks ++ [clT]), s.pos + 1, s.opn, s.wait⟩
theorem Pl.top {s : Sta} (h : Pl s) : topF s = 0 := by
  unfold topF
  cases e : s.opn.getLast? with
  | none => rfl
  | some x => exact h.op x (List.mem_of_getLast? e)
theorem opn_any {l : List Int} (h : ∀ x ∈ l, x = 0) : (l.any fun x => decide (x < 0)) = false := by
  apply Bool.eq_false_iff.2
  intro e
  obtain ⟨x, h1, h2⟩ := List.any_eq_true.1 e
  rw [h x h1] at h2
  exact absurd h2 (by decide)
theorem Pl.may {s : Sta} (h : Pl s) : mayF s = true := by
  unfold mayF
  rw [h.wt, opn_any h.op, decide_eq_true h.p0, decide_eq_true h.p1]; rfl
theorem Pl.may2 {s : Sta} (h : Pl s) : mayF (emb s) = true := by
  unfold mayF emb
  have h0 := h.p0
  have h1 := h.p1
  dsimp only
  rw [h.wt, opn_any h.op, decide_eq_true (show (0 : Int) ≤ s.pos + 1 by omega), decide_eq_true (show s.pos + 1 ≤ ((opT :: (s.toks ++ [clT])).length : Int) by rw [List.length_cons, List.length_append, List.length_singleton]; omega)]; rfl
theorem Pl.next {s : Sta} {t : Tk} (h : Pl s) (ht : s.toks[s.pos.toNat]? = some t) : nextM s = braceF t s := by
  have hk := h.tk t (List.mem_of_getElem? ht)
  unfold nextM
  rw [if_pos h.may, nextF_at ht h.p0, if_neg (by omega), if_neg (by omega)]
theorem Pl.next2 {s : Sta} {t : Tk} (h : Pl s) (hk : t.kind ≠ 16 ∧ t.kind ≠ 17) (ht : (emb s).toks[(emb s).pos.toNat]? = some t) : nextM (emb s) = braceF t (emb s) := by
  have h0 := h.p0
  unfold nextM
  rw [if_pos h.may2, nextF_at ht (show (0 : Int) ≤ s.pos + 1 by omega), if_neg (by omega), if_neg (by omega)]
theorem emb_at {s : Sta} {t : Tk} (h0 : 0 ≤ s.pos) (ht : s.toks[s.pos.toNat]? = some t) : (emb s).toks[(emb s).pos.toNat]? = some t := by
  unfold emb
  dsimp only
  rw [show (s.pos + 1).toNat = s.pos.toNat + 1 by omega, List.getElem?_cons_succ, List.getElem?_append_left (List.getElem?_eq_some_iff.1 ht).1]
  exact ht
theorem emb_end {s : Sta} (h0 : 0 ≤ s.pos) (h : s.pos = s.toks.length) : (emb s).toks[(emb s).pos.toNat]? = some clT := by
  unfold emb
  dsimp only
  rw [show (s.pos + 1).toNat = s.pos.toNat + 1 by omega, List.getElem?_cons_succ, List.getElem?_append_right (by omega), show s.pos.toNat - s.toks.length = 0 by omega]
  rfl
theorem Pl.brace {s : Sta} {t : Tk} (h : Pl s) (ht : s.toks[s.pos.toNat]? = some t) (hz : (braceF t s).2.2 = 0) : Pl (braceF t s).2.1 := by
  have hl := (List.getElem?_eq_some_iff.1 ht).1
  have h0 := h.p0
  unfold braceF at hz ⊢
  split
  · exact ⟨h.tk, by show 0 ≤ s.pos + 1; omega, by show s.pos + 1 ≤ (s.toks.length : Int); omega, fun x hx => by
      rcases List.mem_append.1 hx with hx | hx
      · exact h.op x hx
      · exact List.mem_singleton.1 hx, h.wt⟩
  · rename_i e1
    rw [if_neg e1] at hz
    split
    · rename_i e2
      rw [if_pos e2] at hz
      split
      · rename_i e3; rw [if_pos e3] at hz; cases hz
      · exact ⟨h.tk, by show 0 ≤ s.pos + 1; omega, by show s.pos + 1 ≤ (s.toks.length : Int); omega, fun x hx => h.op x ((List.dropLast_sublist _).subset hx), h.wt⟩
    · exact ⟨h.tk, by show 0 ≤ s.pos + 1; omega, by show s.pos + 1 ≤ (s.toks.length : Int); omega, h.op, h.wt⟩
theorem brace_emb {s : Sta} {t : Tk} : braceF t (emb s) = ((braceF t s).1, emb (braceF t s).2.1, (braceF t s).2.2) := by
  unfold braceF
  have e : topF (emb s) = topF s := rfl
  rw [e]
  by_cases h1 : t.kind = 15 ∧ t.text = [123]
  · rw [if_pos h1, if_pos h1]; rfl
  · rw [if_neg h1, if_neg h1]
    by_cases h2 : t.kind = 15 ∧ t.text = [125]
    · rw [if_pos h2, if_pos h2]
      by_cases h3 : s.opn = [] ∨ topF s ≠ 0
      · rw [if_pos h3, if_pos (show (emb s).opn = [] ∨ topF s ≠ 0 from h3)]
      · rw [if_neg h3, if_neg (show ¬ ((emb s).opn = [] ∨ topF s ≠ 0) from h3)]; rfl
    · rw [if_neg h2, if_neg h2]; rfl
theorem Pl.cases {s : Sta} (h : Pl s) : (∃ t, s.toks[s.pos.toNat]? = some t) ∨ s.pos = s.toks.length := by
  have h0 := h.p0
  have h1 := h.p1
  by_cases e : s.pos = s.toks.length
  · exact .inr e
  · exact .inl ⟨_, List.getElem?_eq_getElem (show s.pos.toNat < s.toks.length by omega)⟩
theorem Pl.fin {s : Sta} (h : Pl s) (e : s.pos = s.toks.length) : (nextM s).1 = enT ∨ (nextM s).1 = tk0 := by
  unfold nextM
  rw [if_pos h.may, nextF_end (by omega) h.p0]
  unfold endFT
  split
  · exact .inl rfl
  · rw [if_neg (by rw [h.top]; decide)]; exact .inr rfl
theorem Pl.fin2 {s : Sta} (h : Pl s) (e : s.pos = s.toks.length) : nextM (emb s) = (clT, { emb s with pos := (emb s).pos + 1 }, 0) := by
  rw [h.next2 (by decide) (emb_end h.p0 e)]; rfl
theorem Pl.test {s : Sta} {p : Tk → Bool} (h : Pl s) (hp : Tst p) : p (nextM (emb s)).1 = p (nextM s).1 := by
  rcases h.cases with ⟨t, ht⟩ | e
  · have hk := h.tk t (List.mem_of_getElem? ht)
    rw [h.next ht, h.next2 (by omega) (emb_at h.p0 ht), brace_emb]
  · rw [h.fin2 e]
    show p clT = _
    rw [hp.c]
    rcases h.fin e with h1 | h1
    · rw [h1]; exact hp.e.symm
    · rw [h1]; exact hp.z.symm
theorem Pl.has {s : Sta} {p : Tk → Bool} (h : Pl s) (hp : Tst0 p) (e : p (nextM s).1 = true) : ∃ t, s.toks[s.pos.toNat]? = some t := by
  rcases h.cases with h1 | h1
  · exact h1
  · rcases h.fin h1 with h2 | h2
    · rw [h2, hp.e] at e; cases e
    · rw [h2, hp.z] at e; cases e
theorem Pl.go {s : Sta} {t : Tk} (h : Pl s) (ht : s.toks[s.pos.toNat]? = some t) : nextM (emb s) = ((nextM s).1, emb (nextM s).2.1, (nextM s).2.2) ∧ ((nextM s).2.2 = 0 → Pl (nextM s).2.1) := by
  have hk := h.tk t (List.mem_of_getElem? ht)
  rw [h.next ht, h.next2 (by omega) (emb_at h.p0 ht)]
  exact ⟨brace_emb, h.brace ht⟩
theorem Pl.is {s : Sta} {k : Int} {x : List UInt8} (h : Pl s) (hk : k ≠ 0 ∧ k ≠ 21) (hc : ¬ (k = 15 ∧ x = [41])) : isF (emb s) k x = isF s k x := h.test (p := fun t => t.kind == k && t.text == x) (tst_is hk hc)
theorem Pl.mu {s : Sta} (h : Pl s) : mu (emb s) = mu s + 4 := by
  have h0 := h.p0
  have h1 := h.p1
  unfold Proofs.YtkidoddkbhchkaaGreatDoor.mu emb
  dsimp only
  rw [List.length_cons, List.length_append, List.length_singleton]
  omega
def EmX {α : Type} (X : α → Sta → Prop) (a b : Rd α) (s : Sta) : Prop := ∀ v s', a.run s = .inr (v, s') → Pl s' ∧ (X v s' ∨ b.run (emb s) = .inr (v, emb s'))
abbrev EmA {α : Type} (a b : Rd α) (s : Sta) : Prop := EmX (fun _ _ => False) a b s
def Em {α : Type} (a : Rd α) : Prop := ∀ s, Pl s → EmA a a s
def Rl (s : Sta) : Prop := ∃ t, s.toks[s.pos.toNat]? = some t
def Fa {α : Type} (A : Rd α) (s : Sta) : Prop := Rd.wp A s (fun _ _ => False) (fun _ _ => True)
section
variable {α β σ : Type} {s : Sta} {X : α → Sta → Prop} {Y : β → Sta → Prop}
theorem Fa.no {A : Rd α} {s' : Sta} {v : α} (h : Fa A s) (e : A.run s = .inr (v, s')) : False := by
  unfold Fa Rd.wp at h
  rw [e] at h; exact h
theorem Fa.of {A : Rd α} (h : ∀ v s', A.run s ≠ .inr (v, s')) : Fa A s := Rd.wp_of (fun v s' e => h v s' e) (fun _ _ _ => trivial)
theorem Fa.seq {m : Rd α} {k : α → Rd β} (h : Fa m s) : Fa (.seq m k) s := by
  unfold Fa
  rw [Rd.wp_seq]
  exact Rd.wp_mono h (fun _ _ _ f => f.elim) (fun _ _ _ _ => trivial)
theorem EmX.fa {A B : Rd α} (h : Fa A s) : EmX X A B s := fun v s' e => (h.no e).elim
theorem EmX.ret {v : α} (h : Pl s) : EmX X (.ret v) (.ret v) s := fun w s' e => by cases e; exact ⟨h, .inr rfl⟩
theorem EmX.fail {e : Er} {b : Rd α} : EmX X (.fail e) b s := fun w s' h => by cases h
theorem EmX.failAt {t : Sta} {e : Er} {b : Rd α} : EmX X (.failAt t e) b s := fun w s' h => by cases h
theorem EmX.wk {a b : Rd α} (h : EmA a b s) : EmX X a b s := fun v s' e => by
  obtain ⟨h1, h2 | h2⟩ := h v s' e
  · exact h2.elim
  · exact ⟨h1, .inr h2⟩
theorem EmX.seqE {m m' : Rd α} {k k' : α → Rd β} (h : EmA m m' s) (hk : ∀ v s', m.run s = .inr (v, s') → Pl s' → EmX Y (k v) (k' v) s') : EmX Y (.seq m k) (.seq m' k') s := fun v s' e => by
  unfold Rd.seq at e ⊢
  dsimp only at e ⊢
  cases hm : m.run s with
  | inl p => rw [hm] at e; cases e
  | inr p =>
    rw [hm] at e
    obtain ⟨h1, h2 | h2⟩ := h p.1 p.2 hm
    · exact h2.elim
    · rw [h2]
      exact hk p.1 p.2 hm h1 v s' e
theorem EmX.seq {m m' : Rd α} {k k' : α → Rd β} (h : EmA m m' s) (hk : ∀ v s', Pl s' → EmX Y (k v) (k' v) s') : EmX Y (.seq m k) (.seq m' k') s := EmX.seqE h fun v s' _ => hk v s'
theorem EmX.look {f f' : Sta → Rd α} (h : EmX X (f s) (f' (emb s)) s) : EmX X (.look f) (.look f') s := h
theorem EmX.ite {c c' : Prop} [Decidable c] [Decidable c'] {a b a' b' : Rd α} (h : c' ↔ c) (h1 : c → EmX X a a' s) (h2 : ¬ c → EmX X b b' s) : EmX X (if c then a else b) (if c' then a' else b') s := by
  by_cases e : c
  · rw [if_pos e, if_pos (h.2 e)]; exact h1 e
  · rw [if_neg e, if_neg (fun e' => e (h.1 e'))]; exact h2 e
theorem EmX.is {k : Int} {x : List UInt8} {a b a' b' : Rd α} (h : Pl s) (hk : k ≠ 0 ∧ k ≠ 21) (hc : ¬ (k = 15 ∧ x = [41])) (h1 : Rl s → EmX X a a' s) (h2 : EmX X b b' s) : EmX X (if isF s k x = true then a else b) (if isF (emb s) k x = true then a' else b') s :=
  EmX.ite (by rw [h.is hk hc]) (fun e => h1 (h.has (p := fun t => t.kind == k && t.text == x) (tst0_is hk) e)) fun _ => h2
theorem Pl.same (h : Pl s) (r : Rl s) : (nextM (emb s)).1 = (nextM s).1 := by
  obtain ⟨t, ht⟩ := r
  rw [(h.go ht).1]
theorem EmX.loop {body : σ → Rd (Sum σ α)} (h : ∀ x s, Pl s → EmX (fun r s1 => ∃ x', r = .inl x' ∧ Fa (.loop body x') s1) (body x) (body x) s) (x : σ) : Em (.loop body x) := fun s => by
  show Pl s → ∀ v s', Rd.iter body x s = .inr (v, s') → Pl s' ∧ (False ∨ Rd.iter body x (emb s) = .inr (v, emb s'))
  fun_induction Rd.iter body x s with
  | case1 x s p h1 => intro hs v s' e; cases e
  | case2 x s y s1 h1 =>
    intro hs v s' e
    cases e
    obtain ⟨h2, ⟨x', h3, _⟩ | h3⟩ := h x s hs _ _ h1
    · cases h3
    · refine ⟨h2, .inr ?_⟩
      rw [Rd.iter, h3]
  | case3 x s x' s1 h1 hlt ih =>
    intro hs v s' e
    obtain ⟨h2, ⟨x2, h3, h4⟩ | h3⟩ := h x s hs _ _ h1
    · cases h3
      exact (h4.no (v := v) (s' := s') e).elim
    · obtain ⟨h4, h5⟩ := ih h2 v s' e
      refine ⟨h4, ?_⟩
      rw [Rd.iter, h3]
      dsimp only
      rw [if_pos (by rw [hs.mu, h2.mu]; omega)]
      exact h5
  | case4 x s x' s1 h1 hlt => intro hs v s' e; cases e
theorem EmX.tk {X : Nd → Sta → Prop} (h : Pl s) (r : Rl s) : EmX X takeR takeR s := fun v s' hr => by
  obtain ⟨t, ht⟩ := r
  obtain ⟨h1, h2⟩ := h.go ht
  by_cases hz : (nextM s).2.2 = 0
  · rw [takeR_ok hz] at hr
    cases hr
    refine ⟨h2 hz, .inr ?_⟩
    rw [takeR_ok (by rw [h1]; exact hz), h1]
  · rw [takeR_no hz] at hr; cases hr
end
end Go.Proofs.YtkidoddkbhchkaaGreatDoor
set_option maxHeartbeats 16000000
set_option linter.unusedVariables false
set_option pp.maxSteps 400
namespace Go.Proofs.YtkidoddkbhchkaaGreatDoor
open Go Go.Aw
theorem Path.mu {s t : Sta} {l : List Tk} (h : Path s l t) : Proofs.YtkidoddkbhchkaaGreatDoor.mu t + l.length ≤ Proofs.YtkidoddkbhchkaaGreatDoor.mu s := by
  induction h with
  | nil s => exact Nat.le_refl _
  | cons h1 h2 _ ih => rw [List.length_cons]; omega
theorem encTs_length (l : List Tk) : (encTs l).length = l.length := by unfold encTs; rw [List.length_map]
theorem app_tk {l : List Tk} {x : Tk} {own : Own} {st : St} {K : V → St → Prop} (h : own.good st) (hb : l.length + 1 ≤ 1000000000)
    (k : ∀ own' : Own, own'.good st → K (.slice 4 (encTs (l ++ [x])) own') (own'.st st ((l ++ [x]).length * 4))) : appendTo 4 40 (encTs l) own [x.cells] (own.st st (l.length * 4)) K := by
  have := appendTo_own (sz := 4) (bytes := 40) (es := encTs l) (new := [x.cells]) (K := K) h (by rw [encTs_length]; show (l.length + 1) * 40 ≤ _; omega) (by rw [encTs_length]; show l.length + 1 < lim; simp only [lim]; omega) rfl (fun own' ho => by
    have := k own' ho
    rw [encTs_length]
    have e : encTs l ++ [x.cells].map (·.map V.wk0) = encTs (l ++ [x]) := by unfold encTs; rw [List.map_append]; rfl
    rw [e]
    rw [List.length_append] at this
    exact this)
  rw [encTs_length] at this
  exact this
end Go.Proofs.YtkidoddkbhchkaaGreatDoor
set_option maxHeartbeats 16000000
set_option linter.unusedVariables false
set_option pp.maxSteps 400
namespace Go.Proofs.YtkidoddkbhchkaaGreatDoor
open Go Go.Aw
def lvM (st : St) (bo : Nat) (l : List Tk) (own : Own) : St := own.st (st.setBox bo [.slice 4 (encTs l) own]) (l.length * 4)
theorem own_box {own : Own} {st : St} {n b : Nat} : (own.st st n).box b = st.box b := by cases own <;> rfl
theorem good_in {own : Own} {st : St} {b : Nat} {cs : List V} (hb : st.box b ≠ none) (h : own.good st) : own.good (st.setBox b cs) := by
  cases own with
  | any => exact h
  | full => trivial
  | tok t =>
    have : b ≠ t := fun e => by subst e; exact hb h.1
    exact ⟨by rw [St.box_ne this]; exact h.1, h.2⟩
theorem good_out {own : Own} {st : St} {b : Nat} {cs : List V} (h : own.good (st.setBox b cs)) : own.good st := by
  cases own with
  | any => exact h
  | full => trivial
  | tok t => exact (fresh_ne h).2
theorem lvM_in {st : St} {bo : Nat} {l : List Tk} {own : Own} : (lvM st bo l own).box bo = some [.slice 4 (encTs l) own] := by unfold lvM; rw [own_box, St.box_same]
theorem lvM_out {st : St} {bo b : Nat} {l : List Tk} {own : Own} (h : bo ≠ b) : (lvM st bo l own).box b = st.box b := by unfold lvM; rw [own_box, St.box_ne h]
theorem lvM_set {st : St} {bo : Nat} {l l' : List Tk} {own own' : Own} : (own'.st (st.setBox bo [.slice 4 (encTs l) own]) (l'.length * 4)).setBox bo [.slice 4 (encTs l') own'] = lvM st bo l' own' := by
  rw [own_set, St.set_set]; rfl
theorem leavesF_in {n : Nd} (h : ¬ n.kind = 1) : leavesF n = leavesFs n.kids := by
  cases n with
  | mk a b c d e ks => rw [leavesF, if_neg (show ¬ a = 1 from h)]; rfl
theorem leavesF_of {n : Nd} (h : n.kind = 1) : leavesF n = [⟨n.form, n.text, n.line, n.col⟩] := by
  cases n with
  | mk a b c d e ks => rw [leavesF, if_pos (show a = 1 from h)]; rfl
theorem leavesFs_take {l : List Nd} {k : Nat} {x : Nd} (h : l[k]? = some x) : leavesFs (l.take (k + 1)) = leavesFs (l.take k) ++ leavesF x := by
  rw [List.take_add_one, h, leavesFs_append]
  show _ ++ leavesFs [x] = _
  rw [leavesFs_one]
theorem leavesFs_le {l : List Nd} {k : Nat} {x : Nd} (h : l[k]? = some x) : (leavesFs (l.take k)).length + (leavesF x).length ≤ (leavesFs l).length := by
  have e : l = l.take (k + 1) ++ l.drop (k + 1) := (List.take_append_drop _ _).symm
  have : leavesFs l = leavesFs (l.take k) ++ leavesF x ++ leavesFs (l.drop (k + 1)) := by
    conv => lhs; rw [e]
    rw [leavesFs_append, leavesFs_take h]
  rw [this]
  simp only [List.length_append]
  omega
section
variable {R : Res → St → Prop}
attribute [local irreducible] Go.Aw.appendTo
theorem leaves1_c : ∀ (m : Nat) {n : Nd} {st : St} {bo bw : Nat} {l : List Tk} {own : Own} {R : Res → St → Prop}, n.size ≤ m → bo ≠ bw → st.box bo ≠ none → st.box bw = some [.func 52 [] [.ptr bo 0, .ptr bw 0]] → own.good st → l.length + (leavesF n).length ≤ 100000000 →
    (∀ own' : Own, own'.good st → R (.ret (.tup [])) (lvM st bo (l ++ leavesF n) own')) → PC 52 [enc n, .ptr bo 0, .ptr bw 0] (lvM st bo l own) R := by
  intro m
  induction m with
  | zero => intro n st bo bw l own R hm; cases n; rw [Nd.size] at hm; omega
  | succ m ih =>
    intro n st bo bw l own R hm hne hb hw hg hl h
    refine pB Tryz.func52 ?_
    by_cases hk : n.kind = 1
    · rw [leavesF_of hk] at h hl
      have hn : l.length + 1 ≤ 1000000000 := by simp only [List.length_singleton] at hl; omega
      repeat' ((conv => whnf); first | (refine Yb1 ?_; intros) | (refine Yb3 ?_ ?_ <;> intro _) | refine at_box lvM_in ?_ | refine app_tk (st := st.setBox bo [.slice 4 (encTs l) own]) (l := l) (x := ⟨n.form, n.text, n.line, n.col⟩) (good_in hb hg) hn (fun own1 ho1 => ?_) | refine at_box (by rw [own_box, St.box_same]) ?_)
      all_goals exact finx rfl lvM_set (h own1 (good_out ho1))
    · rw [leavesF_in hk] at h hl
      repeat' ((conv => whnf); first | (refine Yb1 ?_; intros) | (refine Yb3 ?_ ?_ <;> intro _) | fail)
      refine loop_h (α := Nat × Own) (fun x => [(24, .int .i64 (x.1 : Nat))]) [22, 23, 1, 2] (fun x => []) [] (fun x => lvM st bo (l ++ leavesFs (n.kids.take x.1)) x.2) (fun x => x.2.good st ∧ x.1 ≤ n.kids.length) (fun x => n.kids.length - x.1) (0, own) ⟨hg, Nat.zero_le _⟩ Yl
        (by show St.le (lvM st bo (l ++ leavesFs (n.kids.take 0)) own) _; rw [List.take_zero, leavesFs, List.append_nil]; exact St.le_refl _) ?_
      rintro ⟨k, own1⟩ ⟨j1, j2⟩
      dsimp only at j1 j2
      by_cases hlt : k < n.kids.length
      · obtain ⟨x, hx⟩ : ∃ x, n.kids[(k : Int).toNat]? = some x := ⟨_, List.getElem?_eq_getElem hlt⟩
        have hx' : n.kids[k]? = some x := hx
        have hxs := size_kid (List.mem_of_getElem? hx')
        have hle := leavesFs_le hx'
        have hll : ∀ k x, n.kids[k]? = some x → (l ++ leavesFs (n.kids.take k)).length + (leavesF x).length ≤ 100000000 := fun k x e => by have := leavesFs_le e; rw [List.length_append]; omega
        have hW : (lvM st bo (l ++ leavesFs (n.kids.take k)) own1).box bw = some [.func 52 [] [.ptr bo 0, .ptr bw 0]] := by rw [lvM_out hne]; exact hw
        repeat' ((conv => whnf); first | (refine Yb1 ?_; intros) | (refine Yb3 ?_ ?_ <;> intro _) | refine at_box hW ?_ | refine ih (n := x) (l := l ++ leavesFs (n.kids.take k)) (by omega) hne hb hw j1 (hll k x hx') (fun own2 ho2 => ?_) | refine Wq (a := (k : Int) + 1) (by omega) (by omega) ?_)
        all_goals conv => whnf
        all_goals exact ⟨(k + 1, own2), ⟨ho2, hlt⟩, Nat.sub_lt_sub_left hlt (Nat.lt_succ_self k), Yl, by
          show St.le (lvM st bo (l ++ leavesFs (n.kids.take (k + 1))) own2) _
          rw [leavesFs_take hx', ← List.append_assoc]
          exact St.le_refl _⟩
      · have hk2 : k = n.kids.length := by omega
        repeat' ((conv => whnf); first | (refine Yb1 ?_; intros) | (refine Yb3 ?_ ?_ <;> intro _) | fail)
        all_goals exact finx rfl (by rw [hk2, List.take_length]) (h own1 j1)
theorem fin_toks {l : List Tk} {own : Own} : Res.ret (.slice 4 (encTs l) .any) = (Res.ret (.slice 4 (encTs l) own)).wk := rfl
theorem leaves1_e {n : Nd} {st : St} {bo bw : Nat} {R : Res → St → Prop} (hne : bo ≠ bw) (hb : st.box bo = some [.slice 4 [] .full]) (hw : st.box bw = some [.func 52 [] [.ptr bo 0, .ptr bw 0]]) (hl : (leavesF n).length ≤ 100000000)
    (h : ∀ own' : Own, own'.good st → R (.ret (.tup [])) (lvM st bo (leavesF n) own')) : PC 52 [enc n, .ptr bo 0, .ptr bw 0] st R := by
  have := leaves1_c n.size (n := n) (st := st) (bo := bo) (bw := bw) (l := []) (own := .full) (R := R) (Nat.le_refl _) hne (by rw [hb]; exact fun e => by cases e) hw trivial (by show 0 + _ ≤ _; omega) h
  rw [show lvM st bo [] .full = st from St.set_self hb] at this
  exact this
theorem leaves_c {n : Nd} {st : St} (hl : (leavesF n).length ≤ 100000000) (h : R (.ret (.slice 4 (encTs (leavesF n)) .any)) st) : PC 16 [enc n] st R := by
  refine pcalls_of_body tys_ok [3, 4] Tryz.func16 rfl (by decide) ?_
  repeat' ((conv => whnf); first | (refine Yb1 ?_; intros) | (refine Yb3 ?_ ?_ <;> intro _) | refine Yb4 (fun _ => ?_) ?_ | refine new_box (fun b f => ?_) | refine at_box (St.box_same ..) ?_)
  rename_i b1 f1
  have hne : b1 ≠ b := (fresh_ne f).1
  have hfb : st.fresh b := (fresh_ne (fresh_ne f).2).2
  repeat' ((conv => whnf); first | (refine Yb1 ?_; intros) | (refine Yb3 ?_ ?_ <;> intro _) | refine Yb4 (fun _ => ?_) ?_ | refine leaves1_e hne (by rw [St.box_ne hne.symm, St.box_ne hne.symm, St.box_same]) (St.box_same ..) hl (fun own1 ho1 => ?_) | refine at_box lvM_in ?_)
  all_goals refine finl ?_ fin_toks h
  all_goals exact St.le_trans (St.le_setBox (St.le_setBox (St.le_setBox (St.le_setBox (St.le_setBox (St.le_refl st) f1.1 _) f1.1 _) hfb.1 _) hfb.1 _) f1.1 _) (Own.good_le (good_in (by rw [St.box_ne hne.symm, St.box_ne hne.symm, St.box_same]; exact fun e => by cases e) ho1))
end
end Go.Proofs.YtkidoddkbhchkaaGreatDoor
set_option maxHeartbeats 16000000
set_option linter.unusedVariables false
set_option pp.maxSteps 400
set_option maxHeartbeats 16000000
set_option linter.unusedVariables false
set_option linter.unusedSimpArgs false
namespace Go.Aw
open Go
theorem decR_pre {l : List UInt8} (h : l ≠ []) (g : goodD (decR l) = true) (t : List UInt8) : decR (l.take (decR l).2 ++ t) = decR l := by
  rcases l with _ | ⟨a, r⟩
  · exact absurd rfl h
  revert g
  generalize hx : decR (a :: r) = x
  have hx0 := hx
  unfold decR at hx
  dsimp only at hx
  intro g
  rcases r with _ | ⟨b, _ | ⟨c, _ | ⟨d, r⟩⟩⟩
  all_goals simp only [List.getElem?_nil, List.getElem?_cons_zero, List.getElem?_cons_succ, List.getD_cons_zero, List.getD_cons_succ, Bool.and_false, Bool.false_eq_true, if_false] at hx
  all_goals repeat' split at hx
  all_goals subst hx
  all_goals first
    | (exfalso; revert g; simp [goodD]; done)
    | skip
  all_goals simp only [List.take_succ_cons, List.take_zero, List.cons_append, List.nil_append]
  all_goals unfold decR
  all_goals dsimp only
  all_goals try simp only [List.getElem?_nil, List.getElem?_cons_zero, List.getElem?_cons_succ, List.getD_cons_zero, List.getD_cons_succ]
  all_goals repeat' (first | rfl | rw [if_pos (by assumption)] | rw [if_neg (by assumption)])
theorem decR_app {l : List UInt8} (h : l ≠ []) (g : goodD (decR l) = true) (t : List UInt8) : decR (l ++ t) = decR l := by
  have := decR_pre h g (l.drop (decR l).2 ++ t)
  rwa [← List.append_assoc, List.take_append_drop] at this
theorem spanD_app {p : Nat × Nat → Bool} (l t : List UInt8) (g : spanD goodD l = l.length) : spanD p (l ++ t) = if spanD p l = l.length then l.length + spanD p t else spanD p l := by
  fun_induction spanD p l with
  | case1 => simp
  | case2 a r hp ih =>
    have hne : a :: r ≠ [] := by simp
    have hgood : goodD (decR (a :: r)) = true := by
      cases hg : goodD (decR (a :: r)) with
      | true => rfl
      | false => rw [spanD_no hg] at g; simp at g
    have hle := decR_le hne
    rw [spanD_yes hne hgood] at g
    have g' : spanD goodD ((a :: r).drop (decR (a :: r)).2) = ((a :: r).drop (decR (a :: r)).2).length := by rw [List.length_drop]; omega
    have ih := ih g'
    rw [spanD_yes (by simp) (by rw [decR_app hne hgood]; exact hp), decR_app hne hgood, List.drop_append_of_le_length hle, ih, List.length_drop]
    have hsl := spanD_le p ((a :: r).drop (decR (a :: r)).2)
    rw [List.length_drop] at hsl
    by_cases hc : spanD p ((a :: r).drop (decR (a :: r)).2) = (a :: r).length - (decR (a :: r)).2
    · rw [if_pos hc, if_pos (by omega)]; omega
    · rw [if_neg hc, if_neg (by omega)]
  | case3 a r hp =>
    have hne : a :: r ≠ [] := by simp
    have hgood : goodD (decR (a :: r)) = true := by
      cases hg : goodD (decR (a :: r)) with
      | true => rfl
      | false => rw [spanD_no hg] at g; simp at g
    rw [spanD_no (by rw [decR_app hne hgood]; simpa using hp), if_neg (by simp)]
end Go.Aw
set_option maxHeartbeats 16000000
set_option linter.unusedVariables false
set_option linter.unusedSimpArgs false
namespace Go.Aw
open Go
def Vd (l : List UInt8) : Prop := spanD goodD l = l.length
theorem Vd.rune {l : List UInt8} (h : Vd l) (hne : l ≠ []) : goodD (decR l) = true ∧ Vd (l.drop (decR l).2) := by
  have hg : goodD (decR l) = true := by
    cases hg : goodD (decR l) with
    | true => rfl
    | false =>
      unfold Vd at h
      rw [spanD_no hg] at h
      have := List.length_pos_iff.2 hne
      omega
  refine ⟨hg, ?_⟩
  unfold Vd at h ⊢
  rw [spanD_yes hne hg] at h
  have := decR_le hne
  rw [List.length_drop]; omega
theorem Vd.nil : Vd [] := spanD_nil _
theorem Vd.app {l t : List UInt8} (h : Vd l) (k : Vd t) : Vd (l ++ t) := by
  unfold Vd at *
  rw [spanD_app l t h, if_pos h, k, List.length_append]
inductive Bd : List UInt8 → Nat → Prop
  | zero (l : List UInt8) : Bd l 0
  | step {l : List UInt8} {k : Nat} : l ≠ [] → Bd (l.drop (decR l).2) k → Bd l ((decR l).2 + k)
theorem Bd.add {l : List UInt8} {i j : Nat} (h : Bd l i) (k : Bd (l.drop i) j) : Bd l (i + j) := by
  induction h with
  | zero l => rw [Nat.zero_add]; exact k
  | step hne h ih =>
    rw [Nat.add_assoc]
    refine .step hne (ih ?_)
    rw [List.drop_drop]; exact k
theorem Bd.vd {l : List UInt8} {i : Nat} (h : Bd l i) (k : Vd l) : Vd (l.drop i) := by
  induction h with
  | zero l => exact k
  | step hne h ih =>
    have := ih (k.rune hne).2
    rwa [List.drop_drop] at this
theorem Bd.span (p : Nat × Nat → Bool) (l : List UInt8) : Bd l (spanD p l) := by
  fun_induction spanD p l with
  | case1 => exact .zero _
  | case2 a r hp ih => exact .step (by simp) ih
  | case3 a r hp => exact .zero _
theorem Bd.one {l : List UInt8} (h : l ≠ []) : Bd l (decR l).2 := by
  have := Bd.step h (.zero (l.drop (decR l).2))
  rwa [Nat.add_zero] at this
theorem decR_cont {l : List UInt8} (h : l ≠ []) (g : goodD (decR l) = true) (k : Nat) (hk : 1 ≤ k) (hm : k < (decR l).2) : ∃ b, l[k]? = some b ∧ 128 ≤ b.toNat := by
  rcases l with _ | ⟨a, r⟩
  · exact absurd rfl h
  revert g hm
  generalize hx : decR (a :: r) = x
  unfold decR at hx
  dsimp only at hx
  intro g hm
  have d2 : ∀ b : UInt8, (b.toNat / 64 == 2) = true → 128 ≤ b.toNat := fun b hb => by
    have := beq_iff_eq.1 hb; omega
  rcases r with _ | ⟨b, _ | ⟨c, _ | ⟨d, r⟩⟩⟩
  all_goals simp only [List.getElem?_nil, List.getElem?_cons_zero, List.getElem?_cons_succ, List.getD_cons_zero, List.getD_cons_succ, Bool.and_false, Bool.false_eq_true, if_false] at hx
  all_goals repeat' split at hx
  all_goals subst hx
  all_goals first
    | (exfalso; revert g; simp [goodD]; done)
    | skip
  all_goals first
    | (exfalso; have hm : k < 1 := hm; omega)
    | skip
  all_goals simp only [Bool.and_eq_true] at *
  all_goals have hk' : k = 1 ∨ k = 2 ∨ k = 3 := by first | omega | (dsimp only at hm; omega)
  all_goals rcases hk' with rfl | rfl | rfl
  all_goals first
    | (exfalso; omega)
    | (exfalso; dsimp only at hm; omega)
    | skip
  all_goals refine ⟨_, rfl, d2 _ ?_⟩
  all_goals simp only [beq_iff_eq] at *
  all_goals omega
theorem Bd.ascii {l : List UInt8} {k : Nat} {b : UInt8} (hv : Vd l) (hb : l[k]? = some b) (h : b.toNat < 128) : Bd l k ∧ Bd l (k + 1) := by
  induction hn : l.length using Nat.strongRecOn generalizing l k with
  | _ n ih =>
    have hne : l ≠ [] := fun e => by rw [e] at hb; cases hb
    obtain ⟨g, hv'⟩ := hv.rune hne
    have hp := decR_pos l
    have hle := decR_le hne
    by_cases hk : k < (decR l).2
    · by_cases h0 : k = 0
      · subst h0
        refine ⟨.zero l, ?_⟩
        cases l with
        | nil => exact absurd rfl hne
        | cons a r =>
          simp only [List.getElem?_cons_zero, Option.some.injEq] at hb
          subst hb
          have e : decR (a :: r) = (a.toNat, 1) := by unfold decR; dsimp only; rw [if_pos (by simpa using h)]
          have := Bd.one hne
          rwa [e] at this
      · obtain ⟨b', h1, h2⟩ := decR_cont hne g k (by omega) hk
        rw [hb] at h1
        injection h1 with h1
        subst h1
        omega
    · obtain ⟨j, rfl⟩ : ∃ j, k = (decR l).2 + j := ⟨k - (decR l).2, by omega⟩
      have := ih (l.drop (decR l).2).length (by rw [List.length_drop]; omega) hv' (k := j) (by rw [List.getElem?_drop]; exact hb) rfl
      exact ⟨.step hne this.1, by rw [Nat.add_assoc]; exact .step hne this.2⟩
inductive Cut : List UInt8 → Nat → Prop
  | zero (l : List UInt8) : Cut l 0
  | step {l : List UInt8} {k : Nat} : l ≠ [] → Cut (l.drop (stepN l)) k → Cut l (stepN l + k)
theorem nlF_cases (l : List UInt8) : (nlF l = 0 ∧ ¬ (hdF l = 13 ∨ hdF l = 10 ∨ hdF l = 12)) ∨ (nlF l = 1 ∧ (hdF l = 13 ∨ hdF l = 10 ∨ hdF l = 12) ∧ ¬ (hdF l = 13 ∧ hdF (l.drop 1) = 10)) ∨ (nlF l = 2 ∧ hdF l = 13 ∧ hdF (l.drop 1) = 10) := by
  unfold nlF
  by_cases h1 : hdF l = 13 ∧ hdF (l.drop 1) = 10
  · rw [if_pos h1]; exact .inr (.inr ⟨rfl, h1⟩)
  · rw [if_neg h1]
    by_cases h2 : hdF l = 13 ∨ hdF l = 10 ∨ hdF l = 12
    · rw [if_pos h2]; exact .inr (.inl ⟨rfl, h2, h1⟩)
    · rw [if_neg h2]; exact .inl ⟨rfl, h2⟩
theorem decR_hd {l : List UInt8} (h0 : 0 ≤ hdF l) (h : hdF l < 128) : (decR l).2 = 1 ∧ (((decR l).1 : Nat) : Int) = hdF l := by
  cases l with
  | nil => exact absurd h0 (by decide)
  | cons a r =>
    have h : ((a.toNat : Nat) : Int) < 128 := h
    have e : decR (a :: r) = (a.toNat, 1) := by unfold decR; dsimp only; rw [if_pos (by omega)]
    rw [e]; exact ⟨rfl, rfl⟩
theorem Bd.cut {l : List UInt8} {k : Nat} (h : Bd l k) (hn : ¬ (0 < k ∧ hdF (l.drop (k - 1)) = 13 ∧ hdF (l.drop k) = 10)) : Cut l k := by
  induction hm : l.length using Nat.strongRecOn generalizing l k with
  | _ n ih =>
    cases h with
    | zero => exact .zero l
    | @step _ j hne h =>
      have hp := decR_pos l
      have hle := decR_le hne
      rcases nlF_cases l with ⟨e, h1⟩ | ⟨e, h1, h2⟩ | ⟨e, h1, h2⟩
      · have es : stepN l = (decR l).2 := by unfold stepN; rw [if_neg (by omega)]
        rw [← es]
        refine .step hne ?_
        rw [es]
        refine ih _ (by rw [List.length_drop]; omega) h (fun hc => hn ⟨by omega, ?_, ?_⟩) rfl
        · have := hc.2.1; rw [List.drop_drop] at this; rwa [show (decR l).2 + j - 1 = (decR l).2 + (j - 1) by omega]
        · have := hc.2.2; rwa [List.drop_drop] at this
      · have ed := decR_hd (l := l) (by omega) (by omega)
        have es : stepN l = (decR l).2 := by unfold stepN; rw [if_pos (by omega), e, ed.1]
        rw [← es]
        refine .step hne ?_
        rw [es]
        refine ih _ (by rw [List.length_drop]; omega) h (fun hc => hn ⟨by omega, ?_, ?_⟩) rfl
        · have := hc.2.1; rw [List.drop_drop] at this; rwa [show (decR l).2 + j - 1 = (decR l).2 + (j - 1) by omega]
        · have := hc.2.2; rwa [List.drop_drop] at this
      · have ed := decR_hd (l := l) (by omega) (by omega)
        rw [ed.1] at h hn ⊢
        have es : stepN l = 2 := by unfold stepN; rw [if_pos (by omega), e]
        cases h with
        | zero => exact absurd ⟨by omega, by simpa using h1, by simpa using h2⟩ hn
        | @step _ j hne' h =>
          have ed' := decR_hd (l := l.drop 1) (by omega) (by omega)
          rw [ed'.1] at h hn ⊢
          rw [show 1 + (1 + j) = stepN l + j by omega]
          refine .step hne ?_
          rw [es]
          rw [List.drop_drop] at h
          have hl2 : l.length ≠ 0 := by have := List.length_pos_iff.2 hne; omega
          refine ih _ (by rw [List.length_drop]; omega) h (fun hc => hn ⟨by omega, ?_, ?_⟩) rfl
          · have := hc.2.1; rw [List.drop_drop] at this; rwa [show 1 + (1 + j) - 1 = 1 + 1 + (j - 1) by omega]
          · have := hc.2.2; rw [List.drop_drop] at this; rwa [show 1 + (1 + j) = 1 + 1 + j by omega]
end Go.Aw
set_option maxHeartbeats 16000000
set_option linter.unusedVariables false
namespace Go.Aw
open Go
theorem walk_b : ∀ (n : Nat) (l : List UInt8) (k : Nat) (p : Int × Int), l.length ≤ n → 1 ≤ p.2 → p.1 ≤ (walkP l k p).1 ∧ (walkP l k p).1 ≤ p.1 + l.length ∧ 1 ≤ (walkP l k p).2 ∧ (walkP l k p).2 ≤ p.2 + 8 * l.length
  | n, [], k, p, _, h => by rw [walkP_nil]; simp only [List.length_nil]; omega
  | 0, a :: r, k, p, hn, h => by simp at hn
  | n + 1, a :: r, k, p, hn, h => by
    by_cases hk : k < stepN (a :: r)
    · rw [walkP_stop hk]; omega
    · rw [walkP_go (by simp) hk]
      have h1 := stepN_le (l := a :: r) (by simp)
      have h2 := stepL_b (a :: r) p.1
      have h3 := stepC_b (a :: r) h
      have hd : ((a :: r).drop (stepN (a :: r))).length = (a :: r).length - stepN (a :: r) := List.length_drop
      have ih := walk_b n ((a :: r).drop (stepN (a :: r))) (k - stepN (a :: r)) (stepL (a :: r) p.1, stepC (a :: r) p.2) (by omega) h3.1
      dsimp only at ih
      omega
theorem walk_line : ∀ (n : Nat) (l : List UInt8) (k : Nat) (x c c' y : Int), l.length ≤ n → (walkP l k (x, c)).1 - x = (walkP l k (y, c')).1 - y
  | n, [], k, x, c, c', y, _ => by rw [walkP_nil, walkP_nil]; omega
  | 0, a :: r, k, x, c, c', y, hn => by simp at hn
  | n + 1, a :: r, k, x, c, c', y, hn => by
    by_cases hk : k < stepN (a :: r)
    · rw [walkP_stop hk, walkP_stop hk]; omega
    · rw [walkP_go (by simp) hk, walkP_go (by simp) hk]
      have h1 := stepN_le (l := a :: r) (by simp)
      have hd : ((a :: r).drop (stepN (a :: r))).length = (a :: r).length - stepN (a :: r) := List.length_drop
      have ih := walk_line n ((a :: r).drop (stepN (a :: r))) (k - stepN (a :: r)) (stepL (a :: r) x) (stepC (a :: r) c) (stepC (a :: r) c') (stepL (a :: r) y) (by omega)
      have e : stepL (a :: r) x - x = stepL (a :: r) y - y := by unfold stepL; split <;> omega
      dsimp only
      omega
theorem walk_col : ∀ (n : Nat) (l : List UInt8) (k : Nat) (x c y : Int), l.length ≤ n → (walkP l k (x, c)).2 = (walkP l k (y, c)).2
  | n, [], k, x, c, y, _ => by rw [walkP_nil, walkP_nil]
  | 0, a :: r, k, x, c, y, hn => by simp at hn
  | n + 1, a :: r, k, x, c, y, hn => by
    by_cases hk : k < stepN (a :: r)
    · rw [walkP_stop hk, walkP_stop hk]
    · rw [walkP_go (by simp) hk, walkP_go (by simp) hk]
      have h1 := stepN_le (l := a :: r) (by simp)
      have hd : ((a :: r).drop (stepN (a :: r))).length = (a :: r).length - stepN (a :: r) := List.length_drop
      exact walk_col n _ _ _ _ _ (by omega)
end Go.Aw
set_option maxHeartbeats 16000000
set_option linter.unusedVariables false
namespace Go.Aw
open Go
def nestN (d : Nat) (l : List UInt8) : Option Nat :=
  match l with
  | [] => none
  | a :: r =>
    if (a.toNat : Int) = 123 ∧ hdF r = 45 then (nestN (d + 1) (r.drop 1)).map (· + 2)
    else if (a.toNat : Int) = 45 ∧ hdF r = 125 then (if d ≤ 1 then some 2 else (nestN (d - 1) (r.drop 1)).map (· + 2))
    else (nestN d r).map (· + 1)
termination_by l.length
decreasing_by all_goals simp only [List.length_drop, List.length_cons]; omega
def endAt (pos : Nat) (o : Option Nat) : Int := match o with
  | none => -1
  | some n => (pos + n : Nat)
theorem endAt_map {pos k : Nat} {o : Option Nat} : endAt pos (o.map (· + k)) = endAt (pos + k) o := by
  cases o with
  | none => rfl
  | some n => simp only [endAt, Option.map_some]; omega
theorem nest_out {s : List UInt8} {d pos : Nat} (h : ¬ pos < s.length) : endAt pos (nestN d (s.drop pos)) = -1 := by
  rw [List.drop_eq_nil_iff.2 (by omega), nestN]; rfl
theorem nest_open {s : List UInt8} {d pos : Nat} (h1 : hdF (s.drop pos) = 123) (h2 : hdF (s.drop (pos + 1)) = 45) : endAt pos (nestN d (s.drop pos)) = endAt (pos + 2) (nestN (d + 1) (s.drop (pos + 2))) := by
  have hp : pos < s.length := by
    by_cases hp : pos < s.length
    · exact hp
    · rw [hdF_none (by omega)] at h1; exact absurd h1 (by decide)
  rw [List.drop_eq_getElem_cons hp] at h1 ⊢
  rw [nestN, if_pos ⟨h1, h2⟩, endAt_map, List.drop_drop]
theorem nest_close {s : List UInt8} {d pos : Nat} (h1 : hdF (s.drop pos) = 45) (h2 : hdF (s.drop (pos + 1)) = 125) : endAt pos (nestN d (s.drop pos)) = if d ≤ 1 then ((pos + 2 : Nat) : Int) else endAt (pos + 2) (nestN (d - 1) (s.drop (pos + 2))) := by
  have hp : pos < s.length := by
    by_cases hp : pos < s.length
    · exact hp
    · rw [hdF_none (by omega)] at h1; exact absurd h1 (by decide)
  rw [List.drop_eq_getElem_cons hp] at h1 ⊢
  have h1 : ((s[pos].toNat : Nat) : Int) = 45 := h1
  rw [nestN, if_neg (fun e => by omega), if_pos ⟨h1, h2⟩]
  by_cases hd : d ≤ 1
  · rw [if_pos hd, if_pos hd]; rfl
  · rw [if_neg hd, if_neg hd, endAt_map, List.drop_drop]
theorem nest_go {s : List UInt8} {d pos : Nat} (hp : pos < s.length) (h1 : ¬ (hdF (s.drop pos) = 123 ∧ hdF (s.drop (pos + 1)) = 45)) (h2 : ¬ (hdF (s.drop pos) = 45 ∧ hdF (s.drop (pos + 1)) = 125)) : endAt pos (nestN d (s.drop pos)) = endAt (pos + 1) (nestN d (s.drop (pos + 1))) := by
  rw [List.drop_eq_getElem_cons hp] at h1 h2 ⊢
  have h1 : ¬ (((s[pos].toNat : Nat) : Int) = 123 ∧ hdF (s.drop (pos + 1)) = 45) := h1
  have h2 : ¬ (((s[pos].toNat : Nat) : Int) = 45 ∧ hdF (s.drop (pos + 1)) = 125) := h2
  rw [nestN, if_neg h1, if_neg h2, endAt_map]
def eolN : List UInt8 → Nat
  | [] => 0
  | a :: r => if 0 < nlF (a :: r) then 0 else eolN r + 1
theorem eolN_le (l : List UInt8) : eolN l ≤ l.length := by
  induction l with
  | nil => exact Nat.le_refl _
  | cons a r ih => unfold eolN; split <;> simp only [List.length_cons] <;> omega
theorem eolN_no {s : List UInt8} {pos : Nat} (h : 0 < nlF (s.drop pos)) : eolN (s.drop pos) = 0 := by
  cases hs : s.drop pos with
  | nil => rfl
  | cons a r => rw [hs] at h; rw [eolN, if_pos h]
theorem eolN_go {s : List UInt8} {pos : Nat} (hp : pos < s.length) (h : ¬ 0 < nlF (s.drop pos)) : eolN (s.drop pos) = eolN (s.drop (pos + 1)) + 1 := by
  rw [List.drop_eq_getElem_cons hp] at h ⊢
  rw [eolN, if_neg h]
theorem eolN_end {s : List UInt8} {pos : Nat} (hp : ¬ pos < s.length) : eolN (s.drop pos) = 0 := by
  rw [List.drop_eq_nil_iff.2 (by omega)]; rfl
theorem linesG_hd (s : List UInt8) (frm pos : Nat) (h : frm ≤ pos) (hpl : pos ≤ s.length) : ∃ r, linesG s frm pos = (s.take (pos + eolN (s.drop pos))).drop frm :: r := by
  fun_induction linesG s frm pos with
  | case1 frm pos hp hn ih => rw [eolN_no hn]; exact ⟨_, rfl⟩
  | case2 frm pos hp hn ih =>
    obtain ⟨r, e⟩ := ih (by omega) (by omega)
    rw [eolN_go hp hn]
    exact ⟨r, by rw [e, show pos + 1 + eolN (s.drop (pos + 1)) = pos + (eolN (s.drop (pos + 1)) + 1) by omega]⟩
  | case3 frm pos hp =>
    rw [eolN_end hp, List.take_of_length_le (by omega)]; exact ⟨[], rfl⟩
def rowLen (l : List UInt8) : Nat :=
  let n := spanR (fun c => classF c == 5) l
  if 2 ≤ n ∧ (l.take n).all (fun b => b == 45) = true then n + eolN (l.drop n) else 0
def noteN (l : List UInt8) : Int :=
  if hdF l = 123 ∧ hdF (l.drop 1) = 45 then endAt 2 (nestN 1 (l.drop 2))
  else if hdF l = 45 then (rowLen l : Nat) else 0
def noteF (s : List UInt8) (pos : Nat) : Int × Int :=
  if noteN (s.drop pos) < 0 then (0, 60) else if noteN (s.drop pos) = 0 then (0, 0) else (pos + noteN (s.drop pos), 0)
theorem nestN_le (d : Nat) (l : List UInt8) (n : Nat) (h : nestN d l = some n) : n ≤ l.length := by
  fun_induction nestN d l generalizing n with
  | case1 => cases h
  | case2 d a r hc ih =>
    obtain ⟨m, hm, rfl⟩ := Option.map_eq_some_iff.1 h
    have := ih m hm
    have hr : r ≠ [] := fun e => by rw [e] at hc; exact absurd hc.2 (by decide)
    have := List.length_pos_iff.2 hr
    simp only [List.length_drop, List.length_cons] at *; omega
  | case3 d a r hc hk hd =>
    have hr : r ≠ [] := fun e => by rw [e] at hk; exact absurd hk.2 (by decide)
    have := List.length_pos_iff.2 hr
    injection h with h
    simp only [List.length_cons] at *; omega
  | case4 d a r hc hk hd ih =>
    obtain ⟨m, hm, rfl⟩ := Option.map_eq_some_iff.1 h
    have := ih m hm
    have hr : r ≠ [] := fun e => by rw [e] at hk; exact absurd hk.2 (by decide)
    have := List.length_pos_iff.2 hr
    simp only [List.length_drop, List.length_cons] at *; omega
  | case5 d a r hc hk ih =>
    obtain ⟨m, hm, rfl⟩ := Option.map_eq_some_iff.1 h
    have := ih m hm
    simp only [List.length_cons] at *; omega
theorem rowLen_le (l : List UInt8) : rowLen l ≤ l.length := by
  have h1 := spanR_le (fun c => classF c == 5) l
  have h2 := eolN_le (l.drop (spanR (fun c => classF c == 5) l))
  rw [List.length_drop] at h2
  unfold rowLen
  dsimp only
  split <;> omega
theorem noteN_le (l : List UInt8) : noteN l ≤ l.length := by
  have h1 := rowLen_le l
  unfold noteN
  split
  · rename_i hc
    cases h : nestN 1 (l.drop 2) with
    | none => simp only [endAt]; omega
    | some n =>
      have := nestN_le _ _ _ h
      have hr : l.drop 1 ≠ [] := fun e => by rw [e] at hc; exact absurd hc.2 (by decide)
      have := List.length_pos_iff.2 hr
      simp only [List.length_drop, endAt] at *; omega
  · split <;> omega
end Go.Aw
set_option maxHeartbeats 16000000
set_option linter.unusedVariables false
namespace Go.Aw
open Go
def sgnF (c : Int) : Option Int :=
  if c = 92 ∨ c = 34 ∨ c = 39 then some c
  else if c = 97 then some 7 else if c = 98 then some 8 else if c = 116 then some 9 else if c = 110 then some 10
  else if c = 118 then some 11 else if c = 102 then some 12 else if c = 114 then some 13 else none
def valF (base : Int) : Int → List UInt8 → Int
  | v, [] => v
  | v, a :: r => if digitF ((a.toNat : Nat) : Int) base < 0 then v else valF base (min (v * base + digitF ((a.toNat : Nat) : Int) base) 1114112) r
def numV (base : Int) (l : List UInt8) : Option (Int × Nat) := if rowN base l = 0 ∨ 1114111 < valF base 0 l then none else some (valF base 0 l, rowN base l)
def nameT : List (List UInt8) := [[78, 85, 76], [83, 79, 72], [83, 84, 88], [69, 84, 88], [69, 79, 84], [69, 78, 81], [65, 67, 75], [66, 69, 76], [66, 83], [72, 84], [76, 70], [86, 84], [70, 70], [67, 82], [83, 79], [83, 73], [68, 76, 69], [68, 67, 49], [68, 67, 50], [68, 67, 51], [68, 67, 52], [78, 65, 75], [83, 89, 78], [69, 84, 66], [67, 65, 78], [69, 77], [83, 85, 66], [69, 83, 67], [70, 83], [71, 83], [82, 83], [85, 83], [83, 80], [68, 69, 76]]
def namG (l : List UInt8) : List (List UInt8) → Nat → Nat × Nat → Nat × Nat
  | [], _, p => p
  | w :: ws, i, p => namG l ws (i + 1) (if p.2 < w.length ∧ w.isPrefixOf l = true then (i, w.length) else p)
def namF (l : List UInt8) : Int × Nat := (if (namG l nameT 0 (0, 0)).1 = 33 then 127 else (namG l nameT 0 (0, 0)).1, (namG l nameT 0 (0, 0)).2)
def escF (text : Bool) (l : List UInt8) : Option (Int × Nat) :=
  match sgnF (hdF (l.drop 1)) with
  | some v => some (v, 2)
  | none =>
    if hdF (l.drop 1) = 38 ∧ text = true then some (-1, 2)
    else if hdF (l.drop 1) = 94 ∧ 64 ≤ hdF (l.drop 2) ∧ hdF (l.drop 2) ≤ 95 then some (hdF (l.drop 2) - 64, 3)
    else if hdF (l.drop 1) = 111 then (numV 8 (l.drop 2)).map fun p => (p.1, 2 + p.2)
    else if hdF (l.drop 1) = 120 then (numV 16 (l.drop 2)).map fun p => (p.1, 2 + p.2)
    else if 48 ≤ hdF (l.drop 1) ∧ hdF (l.drop 1) ≤ 57 then (numV 10 (l.drop 1)).map fun p => (p.1, 1 + p.2)
    else if 0 < (namF (l.drop 1)).2 then some ((namF (l.drop 1)).1, 1 + (namF (l.drop 1)).2) else none
def gapN (l : List UInt8) : Nat :=
  if hdF l = 92 ∧ spanR (fun c => classF c == 1) (l.drop 1) ≠ 0 ∧ hdF (l.drop (1 + spanR (fun c => classF c == 1) (l.drop 1))) = 92 then spanR (fun c => classF c == 1) (l.drop 1) + 2 else 0
def badRune (d : Nat × Nat) : Bool := classF (d.1 : Nat) == 0 || (classF (d.1 : Nat) == 1 && !(d.1 == 32)) || (d.1 == 65533 && d.2 == 1)
def oneF (text : Bool) (l : List UInt8) : Sum Int (Int × Nat) :=
  match l with
  | [] => .inl 50
  | a :: r =>
    if hdF (a :: r) = 92 then
      if text = true ∧ 0 < gapN (a :: r) then .inr (-1, gapN (a :: r))
      else match escF text (a :: r) with
        | none => .inl 51
        | some p => .inr p
    else if badRune (decR (a :: r)) then .inl 50 else .inr (((decR (a :: r)).1 : Nat), (decR (a :: r)).2)
theorem namG_le (l : List UInt8) : ∀ (ws : List (List UInt8)) (i : Nat) (p : Nat × Nat), p.2 ≤ l.length → (namG l ws i p).2 ≤ l.length
  | [], _, p, h => h
  | w :: ws, i, p, h => by
    unfold namG
    refine namG_le l ws _ _ ?_
    split
    · rename_i hc
      have := List.isPrefixOf_iff_prefix.1 hc.2
      exact this.length_le
    · exact h
theorem namG_0 (l : List UInt8) (h : ¬ (65 ≤ hdF l ∧ hdF l ≤ 90)) : ∀ (ws : List (List UInt8)) (i : Nat) (p : Nat × Nat), (∀ w ∈ ws, 65 ≤ hdF w ∧ hdF w ≤ 90) → namG l ws i p = p
  | [], _, p, _ => rfl
  | w :: ws, i, p, hw => by
    unfold namG
    rw [if_neg, namG_0 l h ws _ _ (fun x hx => hw x (List.mem_cons_of_mem _ hx))]
    rintro ⟨_, hc⟩
    have h1 := hw w List.mem_cons_self
    obtain ⟨t, rfl⟩ := List.isPrefixOf_iff_prefix.1 hc
    cases w with
    | nil => exact absurd h1.1 (by decide)
    | cons a w => exact h h1
theorem nameT_hd : ∀ w ∈ nameT, 65 ≤ hdF w ∧ hdF w ≤ 90 := by
  have h : nameT.all (fun w => decide (65 ≤ hdF w) && decide (hdF w ≤ 90)) = true := by decide +kernel
  intro w hw
  have := List.all_eq_true.1 h w hw
  simpa using this
theorem namF_0 {l : List UInt8} (h : ¬ (65 ≤ hdF l ∧ hdF l ≤ 90)) : namF l = (0, 0) := by
  have e := namG_0 l h nameT 0 (0, 0) nameT_hd
  have key : ∀ p : Nat × Nat, p = (0, 0) → ((if p.1 = 33 then 127 else (p.1 : Int), p.2) : Int × Nat) = (0, 0) := fun p hp => by subst hp; rfl
  exact key _ e
theorem gapN_le (l : List UInt8) : gapN l ≤ l.length := by
  unfold gapN
  split
  · rename_i h
    have h1 := spanR_le (fun c => classF c == 1) (l.drop 1)
    rw [List.length_drop] at h1
    have h2 : l.drop (1 + spanR (fun c => classF c == 1) (l.drop 1)) ≠ [] := fun e => by rw [e] at h; exact absurd h.2.2 (by decide)
    have := List.length_pos_iff.2 h2
    rw [List.length_drop] at this
    omega
  · exact Nat.zero_le _
theorem sgnF_pos {c v : Int} (h : sgnF c = some v) : 0 ≤ c ∧ 0 ≤ v := by
  unfold sgnF at h
  repeat' split at h
  all_goals first | (injection h with h; omega) | cases h
theorem numV_le {base : Int} {l : List UInt8} {p : Int × Nat} (h : numV base l = some p) : 1 ≤ p.2 ∧ p.2 ≤ l.length := by
  unfold numV at h
  split at h
  · cases h
  · injection h with h
    subst h
    exact ⟨by dsimp only; omega, rowN_le base l⟩
theorem escF_le {text : Bool} {l : List UInt8} {p : Int × Nat} (h : escF text l = some p) : 1 ≤ p.2 ∧ p.2 ≤ l.length := by
  unfold escF at h
  split at h
  · rename_i v hs
    have := hdF_lt_len (l := l) (k := 1) (sgnF_pos hs).1
    injection h with h
    subst h
    exact ⟨by dsimp only; omega, by dsimp only; omega⟩
  · rename_i hs
    have e1 : ∀ k, 0 ≤ hdF (l.drop k) → k < l.length := fun k => hdF_lt_len
    have e2 := e1 1
    have e3 := e1 2
    repeat' split at h
    · injection h with h; subst h; exact ⟨by dsimp only; omega, by dsimp only; omega⟩
    · injection h with h; subst h; exact ⟨by dsimp only; omega, by dsimp only; omega⟩
    · obtain ⟨q, hq, rfl⟩ := Option.map_eq_some_iff.1 h
      have := numV_le hq
      rw [List.length_drop] at this
      exact ⟨by dsimp only; omega, by dsimp only; omega⟩
    · obtain ⟨q, hq, rfl⟩ := Option.map_eq_some_iff.1 h
      have := numV_le hq
      rw [List.length_drop] at this
      exact ⟨by dsimp only; omega, by dsimp only; omega⟩
    · obtain ⟨q, hq, rfl⟩ := Option.map_eq_some_iff.1 h
      have := numV_le hq
      rw [List.length_drop] at this
      exact ⟨by dsimp only; omega, by dsimp only; omega⟩
    · injection h with h; subst h
      have := namG_le (l.drop 1) nameT 0 (0, 0) (Nat.zero_le _)
      rw [List.length_drop] at this
      have h7 : (namF (l.drop 1)).2 = (namG (l.drop 1) nameT 0 (0, 0)).2 := by simp only [namF]
      exact ⟨by dsimp only; omega, by dsimp only; omega⟩
    · cases h
theorem oneF_le {text : Bool} {l : List UInt8} {p : Int × Nat} (h : oneF text l = .inr p) : 1 ≤ p.2 ∧ p.2 ≤ l.length := by
  unfold oneF at h
  split at h
  · cases h
  · rename_i a r
    have h1 := decR_pos (a :: r)
    have h2 := decR_le (l := a :: r) (by simp)
    have h3 := gapN_le (a :: r)
    split at h
    · split at h
      · injection h with h; subst h; exact ⟨by dsimp only; omega, by dsimp only; omega⟩
      · split at h
        · cases h
        · rename_i q hq
          injection h with h; subst h; exact escF_le hq
    · split at h
      · cases h
      · injection h with h; subst h; exact ⟨h1, h2⟩
def textN (l : List UInt8) : Sum (Nat × Int) Nat :=
  if hdF l = 34 then .inr 1
  else match h : oneF true l with
    | .inl e => .inl (0, e)
    | .inr p => match textN (l.drop p.2) with
      | .inl q => .inl (q.1 + p.2, q.2)
      | .inr n => .inr (n + p.2)
termination_by l.length
decreasing_by
  have := oneF_le h
  rw [List.length_drop]; omega
def textO (l : List UInt8) : List Int :=
  if hdF l = 34 then []
  else match h : oneF true l with
    | .inl e => []
    | .inr p => if p.1 = -1 then textO (l.drop p.2) else p.1 :: textO (l.drop p.2)
termination_by l.length
decreasing_by
  all_goals
    have := oneF_le h
    rw [List.length_drop]; omega
def textP (pos : Nat) (l : List UInt8) : List (Nat × Nat) :=
  if hdF l = 34 then []
  else match h : oneF true l with
    | .inl e => []
    | .inr p => if 0 < gapN l then (pos, pos + p.2) :: textP (pos + p.2) (l.drop p.2) else textP (pos + p.2) (l.drop p.2)
termination_by l.length
decreasing_by
  all_goals
    have := oneF_le h
    rw [List.length_drop]; omega
def charN (l : List UInt8) : Sum (Nat × Int) Nat :=
  if hdF l = 39 then .inl (0, 50)
  else match oneF false l with
    | .inl e => .inl (0, e)
    | .inr p => if hdF (l.drop p.2) = 39 then .inr (p.2 + 1) else .inl (p.2, 50)
def quoF (s : List UInt8) (pos : Nat) : Int × Int × Int :=
  if hdF (s.drop pos) = 34 then match textN (s.drop (pos + 1)) with
    | .inl q => (0, (pos + 1 + q.1 : Nat), q.2)
    | .inr n => (14, (pos + 1 + n : Nat), 0)
  else if hdF (s.drop pos) = 39 then match charN (s.drop (pos + 1)) with
    | .inl q => (0, (pos + 1 + q.1 : Nat), q.2)
    | .inr n => (13, (pos + 1 + n : Nat), 0)
  else (0, 0, 0)
end Go.Aw
set_option maxHeartbeats 16000000
set_option linter.unusedVariables false
set_option linter.unusedSimpArgs false
namespace Go.Aw
open Go
theorem Cut.add {l : List UInt8} {i j : Nat} (h : Cut l i) (k : Cut (l.drop i) j) : Cut l (i + j) := by
  induction h with
  | zero l => rw [Nat.zero_add]; exact k
  | step hne h ih =>
    rw [Nat.add_assoc]
    refine .step hne (ih ?_)
    rw [List.drop_drop]; exact k
theorem Cut.bd {l : List UInt8} {k : Nat} (h : Cut l k) : Bd l k := by
  induction h with
  | zero l => exact .zero l
  | @step l k hne h ih =>
    rcases nlF_cases l with ⟨e, h1⟩ | ⟨e, h1, h2⟩ | ⟨e, h1, h2⟩
    · have es : stepN l = (decR l).2 := by unfold stepN; rw [if_neg (by omega)]
      rw [es] at ih ⊢; exact .step hne ih
    · have ed := decR_hd (l := l) (by omega) (by omega)
      have es : stepN l = (decR l).2 := by unfold stepN; rw [if_pos (by omega), e, ed.1]
      rw [es] at ih ⊢; exact .step hne ih
    · have ed := decR_hd (l := l) (by omega) (by omega)
      have ed' := decR_hd (l := l.drop 1) (by omega) (by omega)
      have es : stepN l = 2 := by unfold stepN; rw [if_pos (by omega), e]
      have hne' : l.drop 1 ≠ [] := fun e => by rw [e] at h2; exact absurd h2 (by decide)
      rw [es] at ih ⊢
      have b1 : Bd (l.drop 1) (1 + k) := by
        have := Bd.step hne' (k := k) (by rw [ed'.1, List.drop_drop]; exact ih)
        rwa [ed'.1] at this
      have := Bd.step hne (k := 1 + k) (by rw [ed.1]; exact b1)
      rwa [ed.1, show 1 + (1 + k) = 2 + k by omega] at this
theorem Cut.one {l : List UInt8} (h0 : 0 ≤ hdF l) (h1 : hdF l < 128) (h : ¬ (hdF l = 13 ∨ hdF l = 10 ∨ hdF l = 12)) : Cut l 1 := by
  have hne : l ≠ [] := fun e => by rw [e] at h0; exact absurd h0 (by decide)
  have ed := decR_hd h0 h1
  have es : stepN l = 1 := by
    rcases nlF_cases l with ⟨e, _⟩ | ⟨_, h2, _⟩ | ⟨_, h2, _⟩
    · unfold stepN; rw [if_neg (by omega), ed.1]
    · exact absurd h2 h
    · exact absurd (.inl h2) h
  have := Cut.step hne (.zero (l.drop (stepN l)))
  rwa [es] at this
theorem Cut.span {p : Nat × Nat → Bool} (hp : ∀ d, p d = true → d.1 ≠ 10 ∧ d.1 ≠ 12 ∧ d.1 ≠ 13) (l : List UInt8) : Cut l (spanD p l) := by
  fun_induction spanD p l with
  | case1 => exact .zero _
  | case2 a r hc ih =>
    have h1 := hp _ hc
    have es : stepN (a :: r) = (decR (a :: r)).2 := by
      unfold stepN
      rw [if_neg]
      rcases nlF_cases (a :: r) with ⟨e, _⟩ | ⟨_, h2, _⟩ | ⟨_, h2, _⟩
      · omega
      · have := decR_hd (l := a :: r) (by omega) (by omega); omega
      · have := decR_hd (l := a :: r) (by omega) (by omega); omega
    have := Cut.step (l := a :: r) (k := spanD p ((a :: r).drop (decR (a :: r)).2)) (by simp) (by rw [es]; exact ih)
    rwa [es] at this
  | case3 a r hc => exact .zero _
theorem class_nl {c : Int} {k : Int} (h : classF c = k) (hk : k ≠ 1) : c ≠ 10 ∧ c ≠ 12 ∧ c ≠ 13 := by
  refine ⟨?_, ?_, ?_⟩ <;> (rintro rfl; exact hk (h.symm.trans (by decide)))
theorem Cut.kind {k : Int} (hk : k ≠ 1) (l : List UInt8) : Cut l (spanR (fun c => classF c == k) l) := by
  refine Cut.span (fun d hd => ?_) l
  have := class_nl (beq_iff_eq.1 hd) hk
  omega
theorem Cut.name (l : List UInt8) : Cut l (nameN l) := by
  refine Cut.span (fun d hd => ?_) l
  have hd : inName ((d.1 : Nat) : Int) = true := hd
  refine ⟨?_, ?_, ?_⟩ <;> (intro e; rw [e] at hd; revert hd; decide)
theorem digit_lo {a : UInt8} {base : Int} (h : ¬ digitF ((a.toNat : Nat) : Int) base < 0) : 48 ≤ a.toNat ∧ a.toNat < 128 := by
  unfold digitF at h
  dsimp only at h
  by_cases h1 : 48 ≤ ((a.toNat : Nat) : Int) ∧ ((a.toNat : Nat) : Int) ≤ 57
  · omega
  · rw [if_neg h1] at h
    by_cases h2 : 97 ≤ ((a.toNat : Nat) : Int) ∧ ((a.toNat : Nat) : Int) ≤ 102
    · omega
    · rw [if_neg h2] at h
      by_cases h3 : 65 ≤ ((a.toNat : Nat) : Int) ∧ ((a.toNat : Nat) : Int) ≤ 70
      · omega
      · rw [if_neg h3] at h
        exfalso; apply h
        rw [if_pos (by omega)]; omega
theorem Cut.row (base : Int) (l : List UInt8) : Cut l (rowN base l) := by
  induction l with
  | nil => exact .zero _
  | cons a r ih =>
    unfold rowN
    split
    · exact .zero _
    · rename_i h
      have := digit_lo h
      rw [Nat.add_comm]
      exact Cut.add (Cut.one (l := a :: r) (show (0 : Int) ≤ ((a.toNat : Nat) : Int) by omega) (show ((a.toNat : Nat) : Int) < 128 by omega) (show ¬ (((a.toNat : Nat) : Int) = 13 ∨ ((a.toNat : Nat) : Int) = 10 ∨ ((a.toNat : Nat) : Int) = 12) by omega)) ih
theorem Cut.frac (l : List UInt8) : Cut l (fracN l) := by
  unfold fracN
  split
  · exact Cut.add (Cut.one (by omega) (by omega) (by omega)) (Cut.row _ _)
  · exact .zero _
theorem Cut.sign (l : List UInt8) : Cut l (signN l) := by
  unfold signN
  split
  · exact Cut.one (by omega) (by omega) (by omega)
  · exact .zero _
theorem Cut.exp (l : List UInt8) : Cut l (expN l) := by
  unfold expN
  split
  · rw [Nat.add_assoc]
    refine Cut.add (Cut.one (by omega) (by omega) (by omega)) (Cut.add (Cut.sign _) ?_)
    rw [List.drop_drop]
    exact Cut.row _ _
  · exact .zero _
theorem Cut.num (l : List UInt8) : Cut l (numF l).2 := by
  unfold numF
  split
  · rename_i h
    unfold prefF at h
    split at h
    · rename_i hc
      have hb := hc.2.1
      unfold baseF at hb
      have h1 : 65 ≤ hdF (l.drop 1) ∧ hdF (l.drop 1) < 128 := by
        split at hb
        · omega
        · split at hb
          · omega
          · exact absurd rfl hb
      have c2 : Cut l 2 := Cut.add (i := 1) (j := 1) (Cut.one (by omega) (by omega) (by omega)) (Cut.one (by omega) (by omega) (by omega))
      exact Cut.add c2 (Cut.row _ _)
    · exact absurd rfl h
  · split
    · exact .zero _
    · refine Cut.add (Cut.add (Cut.row _ _) (Cut.frac _)) (Cut.exp _)
theorem class_6 {c : Int} (h : classF c = 6) : 32 < c ∧ c < 128 := by
  unfold classF at h
  split at h
  · omega
  · split at h
    · omega
    · split at h
      · omega
      · split at h
        · omega
        · split at h
          · unfold markF at h
            split at h
            · omega
            · split at h
              · omega
              · split at h <;> omega
          · unfold beyondF at h
            repeat' split at h
            all_goals omega
theorem first_6 {l : List UInt8} (h : firstF l = 6) : 32 < hdF l ∧ hdF l < 128 := by
  cases l with
  | nil => exact absurd h (by decide)
  | cons a r =>
    have h : classF ((decR (a :: r)).1 : Nat) = 6 := h
    have h6 := class_6 h
    by_cases ha : a.toNat < 128
    · rw [decR_lo ha] at h6
      exact h6
    · have := decR_hi (r := r) ha
      omega
theorem Cut.plain (l : List UInt8) : Cut l (plainF l).2 := by
  unfold plainF
  split
  · rename_i h
    have := first_6 h
    exact Cut.one (by omega) (by omega) (by omega)
  · split
    · exact Cut.kind (by decide) l
    · split
      · exact Cut.name l
      · split
        · exact Cut.name l
        · exact .zero _
theorem Cut.scan (s : List UInt8) (n : Nat) (k : Int) (h : Cut s n) : Cut s (scanG s n k).2 := by
  fun_induction scanG s n k with
  | case1 n k hn hc ih =>
    have hd : hdF (s.drop n) = 46 := hc.2.1
    have c1 := Cut.one (l := s.drop n) (by omega) (by omega) (by omega)
    exact ih (Cut.add (Cut.add h c1) (Cut.plain _))
  | case2 n k hn hc => exact h
  | case3 n k hn => exact h
theorem Cut.word (l : List UInt8) : Cut l (wordF l).2 := Cut.scan l _ _ (Cut.plain l)
theorem Vd.end {l : List UInt8} (h : Vd l) : Bd l l.length := by
  have := Bd.span goodD l
  rwa [show spanD goodD l = l.length from h] at this
theorem Cut.behind {l : List UInt8} {k : Nat} (hv : Vd l) (h0 : 0 < hdF (l.drop k)) (h : hdF (l.drop k) < 128) (hn : hdF (l.drop k) ≠ 13) : Cut l (k + 1) := by
  have hk := hdF_lt_len (l := l) (k := k) (by omega)
  have he := List.getElem?_eq_getElem hk
  have e := hdF_at he
  refine ((Bd.ascii hv he (by omega)).2).cut (fun hc => hn ?_)
  exact hc.2.1
theorem nestN_last (d : Nat) (l : List UInt8) (n : Nat) (h : nestN d l = some n) : 2 ≤ n ∧ hdF (l.drop (n - 1)) = 125 := by
  fun_induction nestN d l generalizing n with
  | case1 => cases h
  | case2 d a r hc ih =>
    obtain ⟨m, hm, rfl⟩ := Option.map_eq_some_iff.1 h
    have := ih m hm
    refine ⟨by omega, ?_⟩
    rw [show m + 2 - 1 = (m - 1) + 1 + 1 by omega, List.drop_succ_cons]
    have h2 := this.2
    rwa [List.drop_drop, Nat.add_comm] at h2
  | case3 d a r hc hk hd =>
    injection h with h
    subst h
    exact ⟨Nat.le_refl _, hk.2⟩
  | case4 d a r hc hk hd ih =>
    obtain ⟨m, hm, rfl⟩ := Option.map_eq_some_iff.1 h
    have := ih m hm
    refine ⟨by omega, ?_⟩
    rw [show m + 2 - 1 = (m - 1) + 1 + 1 by omega, List.drop_succ_cons]
    have h2 := this.2
    rwa [List.drop_drop, Nat.add_comm] at h2
  | case5 d a r hc hk ih =>
    obtain ⟨m, hm, rfl⟩ := Option.map_eq_some_iff.1 h
    have := ih m hm
    refine ⟨by omega, ?_⟩
    rw [show m + 1 - 1 = (m - 1) + 1 by omega, List.drop_succ_cons]
    exact this.2
theorem Cut.eol {l : List UInt8} (hv : Vd l) : Cut l (eolN l) := by
  have hb : Bd l (eolN l) ∧ ¬ (0 < eolN l ∧ hdF (l.drop (eolN l - 1)) = 13 ∧ hdF (l.drop (eolN l)) = 10) := by
    have key : ∀ l : List UInt8, (eolN l = l.length ∨ ∃ b, l[eolN l]? = some b ∧ b.toNat < 128) ∧ ¬ (0 < eolN l ∧ hdF (l.drop (eolN l - 1)) = 13) := by
      intro l
      induction l with
      | nil => exact ⟨.inl rfl, fun h => absurd h.1 (by decide)⟩
      | cons a r ih =>
        by_cases hn : 0 < nlF (a :: r)
        · rw [eolN, if_pos hn]
          refine ⟨.inr ⟨a, rfl, ?_⟩, fun h => absurd h.1 (by decide)⟩
          rcases nlF_cases (a :: r) with ⟨e, _⟩ | ⟨_, h2, _⟩ | ⟨_, h2, _⟩
          · omega
          · simp only [hdF] at h2; omega
          · simp only [hdF] at h2; omega
        · rw [eolN, if_neg hn]
          refine ⟨?_, ?_⟩
          · rcases ih.1 with h | ⟨b, h1, h2⟩
            · exact .inl (by rw [h]; rfl)
            · exact .inr ⟨b, by rw [List.getElem?_cons_succ]; exact h1, h2⟩
          · rintro ⟨_, h⟩
            by_cases h0 : 0 < eolN r
            · refine ih.2 ⟨h0, ?_⟩
              rwa [show eolN r + 1 - 1 = (eolN r - 1) + 1 by omega, List.drop_succ_cons] at h
            · rw [show eolN r + 1 - 1 = 0 by omega, List.drop_zero] at h
              rcases nlF_cases (a :: r) with ⟨_, e⟩ | ⟨e, _⟩ | ⟨e, _⟩
              · exact e (.inl h)
              · omega
              · omega
    refine ⟨?_, fun h => (key l).2 ⟨h.1, h.2.1⟩⟩
    rcases (key l).1 with h | ⟨b, h1, h2⟩
    · rw [h]; exact hv.end
    · exact (Bd.ascii hv h1 h2).1
  exact hb.1.cut hb.2
theorem Cut.note {l : List UInt8} (hv : Vd l) {n : Nat} (h : noteN l = n) : Cut l n := by
  unfold noteN at h
  split at h
  · rename_i hc
    cases hn : nestN 1 (l.drop 2) with
    | none => rw [hn] at h; simp only [endAt] at h; omega
    | some m =>
      rw [hn] at h
      simp only [endAt] at h
      have := nestN_last _ _ _ hn
      rw [List.drop_drop] at this
      have e : n = (2 + (m - 1)) + 1 := by omega
      rw [e]
      exact Cut.behind hv (by omega) (by omega) (by omega)
  · split at h
    · have e : n = rowLen l := by omega
      rw [e]
      unfold rowLen
      dsimp only
      split
      · exact Cut.add (Cut.kind (by decide) l) (Cut.eol ((Bd.span _ l).vd hv))
      · exact .zero _
    · have e : n = 0 := by omega
      rw [e]; exact .zero _
theorem textN_last (l : List UInt8) (n : Nat) (h : textN l = .inr n) : 1 ≤ n ∧ hdF (l.drop (n - 1)) = 34 := by
  fun_induction textN l generalizing n with
  | case1 l hc => injection h with h; subst h; exact ⟨Nat.le_refl _, hc⟩
  | case2 l hc e he => cases h
  | case3 l hc p hp q hq ih => cases h
  | case4 l hc p hp m hm ih =>
    injection h with h
    subst h
    have := ih m hm
    refine ⟨by omega, ?_⟩
    have h2 := this.2
    rwa [List.drop_drop, show p.2 + (m - 1) = m + p.2 - 1 by omega] at h2
theorem Cut.quote {s : List UInt8} {p : Nat} (hv : Vd (s.drop p)) (h : (quoF s p).1 ≠ 0) : ∃ n, (quoF s p).2.1 = (p + n : Nat) ∧ 2 ≤ n ∧ Cut (s.drop p) n := by
  unfold quoF at h ⊢
  split
  · rename_i hq
    rw [if_pos hq] at h
    cases ht : textN (s.drop (p + 1)) with
    | inl q => rw [ht] at h; exact absurd rfl h
    | inr n =>
      have := textN_last _ _ ht
      refine ⟨n + 1, by dsimp only; omega, by omega, ?_⟩
      have h2 := this.2
      rw [show s.drop (p + 1) = (s.drop p).drop 1 by rw [List.drop_drop], List.drop_drop, show 1 + (n - 1) = n by omega] at h2
      exact Cut.behind hv (by omega) (by omega) (by omega)
  · rename_i hq
    rw [if_neg hq] at h
    split
    · rename_i hq'
      rw [if_pos hq'] at h
      cases ht : charN (s.drop (p + 1)) with
      | inl q => rw [ht] at h; exact absurd rfl h
      | inr n =>
        have : 1 ≤ n ∧ hdF ((s.drop (p + 1)).drop (n - 1)) = 39 := by
          unfold charN at ht
          split at ht
          · cases ht
          · split at ht
            · cases ht
            · split at ht
              · rename_i hx
                injection ht with ht
                subst ht
                exact ⟨by omega, hx⟩
              · cases ht
        refine ⟨n + 1, by dsimp only; omega, by omega, ?_⟩
        have h2 := this.2
        rw [show s.drop (p + 1) = (s.drop p).drop 1 by rw [List.drop_drop], List.drop_drop, show 1 + (n - 1) = n by omega] at h2
        exact Cut.behind hv (by omega) (by omega) (by omega)
    · rename_i hq'
      rw [if_neg hq'] at h
      exact absurd rfl h
end Go.Aw
set_option maxHeartbeats 16000000
set_option linter.unusedVariables false
set_option linter.unusedSimpArgs false
namespace Go.Aw
open Go
def St.dropBox (st : St) (b : Nat) : St := { st with box := fun x => if x = b then none else st.box x }
theorem RepR.of_flat {I : Mem} {sz : Nat} : ∀ {es : List (List V)} {vs : List Value}, (∀ e ∈ es, e.length = sz) → RepL I es.flatten vs → RepR I sz es vs
  | [], vs, _, h => by simpa only [List.flatten_nil, RepL, RepR] using h
  | e :: r, vs, hl, h => by
    rw [List.flatten_cons] at h
    have h1 := RepL.take e.length h
    have h2 := RepL.drop e.length h
    rw [List.take_left' rfl] at h1
    rw [List.drop_left' rfl] at h2
    simp only [RepR]
    exact ⟨_, _, (List.take_append_drop e.length vs).symm, hl e List.mem_cons_self, h1, RepR.of_flat (fun x hx => hl x (List.mem_cons_of_mem _ hx)) h2⟩
section
variable {P : Program} {D : List Deferred} {I0 I : Mem} {st0 st : St} {w0 w : World} {β : Nat → Option Nat} {env : Env} {a : Act}
theorem Rel.freeze (h : Rel D I0 st0 w0 I β env st a w) {b : Nat} {cs : List V} (hb : st.box b = some cs) :
    ∃ vs : List Value, RepL I cs vs ∧ I.le (I.add b 0 vs vs.length) ∧ Rel D I0 st0 w0 (I.add b 0 vs vs.length) β env (st.dropBox b) a w := by
  obtain ⟨vs, ty, hw, hv⟩ := h.s.box b cs hb
  obtain ⟨i1, i2, i3⟩ := h.s.boxI b (by rw [hb]; simp)
  have hl : I.le (I.add b 0 vs vs.length) := Mem.le_add (fun o _ => i1 o) (.inl i3)
  have hd := h.fr.dom b (.inl (by rw [hb]; simp))
  have nb : ∀ x, (st.dropBox b).box x ≠ none → x ≠ b ∧ st.box x ≠ none := fun x e => by
    by_cases hx : x = b
    · subst hx; exact absurd (if_pos rfl) e
    · refine ⟨hx, ?_⟩
      have e' : (if x = b then none else st.box x) ≠ none := e
      rwa [if_neg hx] at e'
  refine ⟨vs, hv, hl, ⟨⟨h.fr.os, h.fr.tape, h.fr.output, h.fr.size, h.fr.old, Mem.le_trans h.fr.le hl, ?_, ?_, fun x e => h.fr.dom x (e.imp (fun e => (nb x e).2) id)⟩, ⟨?_, ?_, ?_, ?_, ?_, gtab_le hl.1 hl.2 h.s.tab⟩, RelF.mem h.f hl ?_⟩⟩
  · intro x o h1 h2
    by_cases e : x = b
    · subst e; exact hd
    · exact h.fr.new x o h1 (by simpa [Mem.add, e] using h2)
  · intro x h1 h2
    by_cases e : x = b
    · subst e; exact hd
    · exact h.fr.newS x h1 (by simpa [Mem.add, e] using h2)
  · intro x o v e
    simp only [Mem.add] at e
    split at e
    · rename_i hx
      obtain ⟨rfl, h1, h2⟩ := hx
      simp only [World.cell?, hw, Option.isSome_none, Bool.false_eq_true, if_false, List.getElem?_toArray]
      exact e
    · exact h.s.cell x o v e
  · intro x n e
    simp only [Mem.add] at e
    split at e
    · rename_i hx; subst hx; injection e with e; subst e; exact ⟨_, ty, hw, by simp⟩
    · exact h.s.shape x n e
  · intro x c e
    have hx := (nb x (by rw [e]; simp)).1
    have e' : st.box x = some c := by
      have : (if x = b then none else st.box x) = some c := e
      rwa [if_neg hx] at this
    obtain ⟨us, ty', h1, h2⟩ := h.s.box x c e'
    exact ⟨us, ty', h1, RepL.mono hl _ _ h2⟩
  · intro x e
    obtain ⟨hx, e'⟩ := nb x e
    obtain ⟨h1, h2, h3⟩ := h.s.boxI x e'
    exact ⟨fun o => by simp [Mem.add, hx, h1 o], h2, by simp [Mem.add, hx, h3]⟩
  · intro x n e
    have hx : x ≠ b := fun hx => by subst hx; rw [show (st.dropBox x).hw x = st.hw x from rfl, i2] at e; cases e
    exact ⟨(h.s.hw x n e).1, fun o ho => by simp only [Mem.add]; rw [if_neg (by simp [hx])]; exact (h.s.hw x n e).2 o ho⟩
  · intro id x e
    obtain ⟨h1, h2, h3, h4, h5, h6⟩ := h.f.sep id x e
    have hx : x ≠ b := fun hx => by subst hx; rw [hb] at h5; cases h5
    exact ⟨fun o => by simp [Mem.add, hx, h3 o], by simp [Mem.add, hx, h4], by show (if x = b then none else st.box x) = none; rw [if_neg hx]; exact h5, h6⟩
theorem rep_frozen {b sz n cap : Nat} {es : List (List V)} {rest : List V} {vs : List Value} (hv : RepL I (es.flatten ++ rest) vs) (hl : I.le (I.add b 0 vs vs.length)) (hz : ∀ e ∈ es, e.length = sz) (hn : es.length = n) {c : Value} (h : Rep I (.mrow sz b n cap) c) :
    Rep (I.add b 0 vs vs.length) (.slice sz es .any) c := by
  simp only [Rep] at h ⊢
  obtain ⟨rfl, h1, h2, h3⟩ := h
  subst hn
  refine ⟨_, cap, rfl, h1, h2, h3, trivial, .inr rfl, ?_⟩
  have hr := RepL.take es.flatten.length hv
  rw [List.take_left' rfl] at hr
  refine RepE.add es _ 0 (RepR.of_flat hz hr) hl fun j c e => ?_
  rw [Nat.zero_add]
  have e' : vs[j]? = some c := by
    rw [List.getElem?_take] at e
    split at e
    · exact e
    · cases e
  have := Mem.add_at (I := I) (b := b) (h := 0) (n := vs.length) e'
  rwa [Nat.zero_add] at this
inductive Frz (o n : V) : V → V → Prop
  | same (v : V) : Frz o n v v
  | here : Frz o n o n
inductive FrzL (o n : V) : List V → List V → Prop
  | nil : FrzL o n [] []
  | cons {v v' : V} {l l' : List V} : Frz o n v v' → FrzL o n l l' → FrzL o n (v :: l) (v' :: l')
theorem Frz.rep {J : Mem} {o n v v' : V} (h : Frz o n v v') (hl : I.le J) (k : ∀ c, Rep I o c → Rep J n c) {c : Value} (r : Rep I v c) : Rep J v' c := by
  cases h with
  | same => exact Rep.mono hl _ _ r
  | here => exact k c r
theorem FrzL.rep {J : Mem} {o n : V} : ∀ {l l' : List V} {vs : List Value}, FrzL o n l l' → I.le J → (∀ c, Rep I o c → Rep J n c) → RepL I l vs → RepL J l' vs
  | _, _, vs, .nil, hl, k, r => by simpa only [RepL] using r
  | _, _, vs, .cons h1 h2, hl, k, r => by
    simp only [RepL] at r ⊢
    obtain ⟨c, s, rfl, r1, r2⟩ := r
    exact ⟨c, s, rfl, h1.rep hl k r1, h2.rep hl k r2⟩
inductive FrzR (o n : V) : Res → Res → Prop
  | val {v v' : V} : Frz o n v v' → FrzR o n (.ret v) (.ret v')
  | agg {l l' : List V} : FrzL o n l l' → FrzR o n (.ret (.agg l)) (.ret (.agg l'))
  | tup {l l' : List V} : FrzL o n l l' → FrzR o n (.ret (.tup l)) (.ret (.tup l'))
theorem FrzR.rep {J : Mem} {o n : V} {r r' : Res} (h : FrzR o n r r') (hl : I.le J) (k : ∀ c, Rep I o c → Rep J n c) {e : Ending} (m : resM I e r) : resM J e r' := by
  cases e with
  | returned c =>
    cases h with
    | val h => exact Frz.rep h hl k m
    | agg h => have m2 : Rep I _ c := m; simp only [Rep] at m2; obtain ⟨vs, e, m3⟩ := m2; show Rep J _ _; simp only [Rep]; exact ⟨vs, e, h.rep hl k m3⟩
    | tup h => have m2 : Rep I _ c := m; simp only [Rep] at m2; obtain ⟨vs, e, m3⟩ := m2; show Rep J _ _; simp only [Rep]; exact ⟨vs, e, h.rep hl k m3⟩
  | panicked chain => cases h <;> exact m.elim
  | outgrown => cases h <;> exact m.elim
theorem PCalls.freeze {f : FuncId} {args : List V} {R R' : Res → St → Prop} (h : PCalls P f args st R')
    (k : ∀ r s, R' r s → R r s ∨ ∃ b sz n cap es rest r', s.box b = some (es.flatten ++ rest) ∧ (∀ e ∈ es, e.length = sz) ∧ es.length = n ∧ FrzR (.mrow sz b n cap) (.slice sz es .any) r r' ∧ R r' (s.dropBox b)) : PCalls P f args st R := by
  refine ⟨fun I w cargs hs ha => (h.a I w cargs hs ha).mono ?_, h.b⟩
  rintro e w' ⟨I', st', r, k1, k2, k3, k4⟩
  rcases k r st' k4 with k4 | ⟨b, sz, n, cap, es, rest, r', g1, g2, g3, g4, g5⟩
  · exact ⟨I', st', r, k1, k2, k3, k4⟩
  have hr : Rel [] I st w I' (fun _ => none) { tmps := [], boxes := [], nxt := 0, sz := 0, gl := [] } st' { tmps := #[], defers := [] } w' :=
    ⟨k1, k2, ⟨rfl, fun t v e => (by cases e), fun id cs e => (by cases e), fun id b e => (by cases e), fun i j b e => (by cases e), fun id b e => (by cases e), rfl⟩⟩
  obtain ⟨vs, hv, hl, hr'⟩ := hr.freeze g1
  exact ⟨_, _, r', hr'.fr, hr'.s, g4.rep hl (fun c hc => rep_frozen hv hl g2 g3 hc) k3, g5⟩
theorem AW_weak {c : Code} {Q : AExit → Env → St → Prop} {env env' : Env} {st st' : St} (h : AW P c Q env' st') (he : env'.leC env) (hs : St.le st' st) : AW P c Q env st :=
  fun D I0 st0 w0 I β a w hr => h D I0 st0 w0 I _ a w ((hr.envLe (Env.le_of he)).stLe hs)
theorem AW_st {c : Code} {Q : AExit → Env → St → Prop} {env : Env} {st st' : St} (e : st' = st) (h : AW P c Q env st') : AW P c Q env st := e ▸ h
theorem AW_join {x y : Code} {Q : AExit → Env → St → Prop} {env : Env} {st : St} {α : Type} (E : α → Env) (S : α → St) (J : α → Prop) (hy : ∀ p, J p → AW P y Q (E p) (S p))
    (hx : AW P x (thenQ (fun env' st' => ∃ p, J p ∧ (E p).leC env' ∧ St.le (S p) st') Q) env st) : AW P (.seq x y) Q env st :=
  AW_seq2 (AW_mono hx fun e env st h => by
    cases e with
    | normal => obtain ⟨p, h1, h2, h3⟩ := h; exact AW_weak (hy p h1) h2 h3
    | exit i => exact h
    | goto i => exact h
    | ret => exact h
    | pan v => exact h)
theorem AW_freeze {c : Code} {Q : AExit → Env → St → Prop} {env : Env} {st : St} (t : Nat) {b sz n cap : Nat} {es : List (List V)} (rest : List V) (ht : env.get t = .mrow sz b n cap) (hts : t < env.sz) (hb : st.box b = some (es.flatten ++ rest)) (hz : ∀ e ∈ es, e.length = sz) (hn : es.length = n)
    (h : AW P c Q { env with tmps := (t, .slice sz es .any) :: env.tmps } (st.dropBox b)) : AW P c Q env st := fun D I0 st0 w0 I β a w hr => by
  obtain ⟨vs, hv, hl, hr'⟩ := hr.freeze hb
  have h1 := hr.f.get t
  rw [ht] at h1
  have h2 := rep_frozen hv hl hz hn (show Rep I (.mrow sz b n cap) _ from h1)
  refine h D I0 st0 w0 _ β a w ⟨hr'.fr, hr'.s, { hr'.f with tmps := ?_ }⟩
  intro t' v e
  rw [assoc_cons] at e
  cases hbq : Nat.beq t t' with
  | true =>
    rw [hbq] at e
    have := Nat.eq_of_beq_eq_true hbq
    subst this
    simp only [cond_true, Option.some.injEq] at e
    subst e
    exact h2
  | false =>
    rw [hbq] at e
    exact hr'.f.tmps t' v e
theorem pcalls_of_aw {T : List (Nat × Ty)} (hP : POk P T) {f : FuncId} {fn : Func} (gl : List Nat) {args : List V} {R : Res → St → Prop} (hf : P.funcs[f]? = some fn) {c : Code} (hb : fn.body = some c) (hn : (fn.name == "runtime.NumGoroutine") = false) (hle : Nat.ble args.length fn.ntmps = true)
    (h : AW P c (resPost T fn (Ends R)) { tmps := args0 0 args, boxes := [], nxt := 0, sz := fn.ntmps, gl } st) : PCalls P f args st R := by
  refine ⟨?_, fn, hf, by rw [hb]; rfl, hn⟩
  intro I w cargs hs hargs
  refine calls_of_wp hf hb ?_
  refine wp_mono (h [] I st w I _ _ w (start_rel gl hs hargs hle)) ?_
  rintro e a w' ⟨I1, β1, env1, st1, ae, h1, h2, h3⟩
  have hret : (forceRet T env1 st1 fn.results.toList fun vs => match vs with
      | [v] => Ends R (.ret v) st1
      | vs => Ends R (.ret (.tup vs)) st1) →
      a.defers = [] ∧ ∃ v, (results fn a.tmps).run P w' = .ok v w' ∧ ∃ I' st' r, Fr I st w I' st' w' ∧ RelS I' st' w' ∧ resM I' (.returned v) r ∧ R r st' := by
    intro h3
    obtain ⟨v, c, g1, g2, r2, st2, g3, g4, g5⟩ := results_sound (P := P) (R := Ends R) hP.t h1 h3
    have h1' := h1.stLe g4
    refine ⟨h1.f.defers, c, g1, I1, st2, r2, h1'.fr, h1'.s, ?_, g5⟩
    rcases g3 with rfl | rfl
    · exact g2
    · exact g2.wk
  cases ae with
  | normal => cases e <;> first | exact hret h3 | exact h2.elim
  | exit i => exact h3.elim
  | goto i => exact h3.elim
  | ret => cases e <;> first | exact hret h3 | exact h2.elim
  | pan v =>
    cases e <;> try exact h2.elim
    obtain ⟨r2, st2, g3, g4, g5⟩ := h3
    obtain ⟨c', rfl, h2⟩ := h2
    have h1' := h1.stLe g4
    refine ⟨h1.f.defers, I1, st2, r2, h1'.fr, h1'.s, ?_, g5⟩
    rcases g3 with rfl | rfl
    · exact ⟨c', rfl, h2⟩
    · exact ⟨c', rfl, h2.wk⟩
end
end Go.Aw
set_option maxHeartbeats 16000000
set_option linter.unusedVariables false
namespace Go.Aw
open Go
theorem strs_length (l : List (List UInt8)) : (strs l).length = l.length := by simp [strs]
theorem at_strs {l : List (List UInt8)} {i : Int} {x : List UInt8} {K : List V → Prop} (h : l[i.toNat]? = some x) (h0 : 0 ≤ i) (k : K [V.str x]) : 0 ≤ i ∧ ∃ e, (strs l)[i.toNat]? = some e ∧ K e :=
  ⟨h0, [V.str x], by simp [strs, h], k⟩
theorem len_strs {l : List (List UInt8)} {K : Nat → Prop} (k : l.length < 4611686018427387904 → K l.length) : ∀ m, m = (strs l).length → m < lim → K m := fun m hm h => by
  rw [strs_length] at hm; subst hm; exact k h
end Go.Aw
set_option maxHeartbeats 16000000
set_option linter.unusedVariables false
namespace Go.Aw
open Go
theorem all_dropWhile {p : UInt8 → Bool} : ∀ (l : List UInt8), (l.dropWhile p).all p = true → l.all p = true
  | [], _ => rfl
  | a :: r, h => by
    rw [List.dropWhile_cons] at h
    by_cases hp : p a = true
    · rw [if_pos hp] at h; rw [List.all_cons, hp, Bool.true_and]; exact all_dropWhile r h
    · rw [if_neg hp] at h; exact h
theorem dropWhile_nil {p : UInt8 → Bool} : ∀ (l : List UInt8), l.dropWhile p = [] ↔ l.all p = true
  | [] => by simp
  | a :: r => by
    rw [List.dropWhile_cons, List.all_cons]
    by_cases hp : p a = true
    · rw [if_pos hp, hp, Bool.true_and]; exact dropWhile_nil r
    · rw [if_neg hp]; simp only [Bool.not_eq_true] at hp; rw [hp]; simp
theorem trimB_nil (l : List UInt8) : Lib.trimB l 45 = [] ↔ l.all (fun b => b == 45) = true := by
  unfold Lib.trimB Lib.trimLeftB Lib.trimRightB
  rw [dropWhile_nil, List.all_reverse]
  refine ⟨fun h => ?_, fun h => ?_⟩
  · have := all_dropWhile _ h
    rwa [List.all_reverse] at this
  · have : l.reverse.dropWhile (fun b => b == 45) = [] := (dropWhile_nil _).2 (by rw [List.all_reverse]; exact h)
    rw [this]; rfl
theorem pre2 (a b : UInt8) (l : List UInt8) : [a, b].isPrefixOf l = decide (hdF l = (a.toNat : Nat) ∧ hdF (l.drop 1) = (b.toNat : Nat)) := by
  rcases l with _ | ⟨x, _ | ⟨y, r⟩⟩
  · refine (decide_eq_false fun e => ?_).symm
    have h : (-1 : Int) = (a.toNat : Nat) := e.1; omega
  · show (a == x && false) = _
    rw [Bool.and_false]
    refine (decide_eq_false fun e => ?_).symm
    have h : (-1 : Int) = (b.toNat : Nat) := e.2; omega
  · show (a == x && (b == y && true)) = decide (((x.toNat : Nat) : Int) = (a.toNat : Nat) ∧ ((y.toNat : Nat) : Int) = (b.toNat : Nat))
    rw [Bool.and_true, Bool.eq_iff_iff, Bool.and_eq_true, beq_iff_eq, beq_iff_eq, decide_eq_true_iff]
    exact ⟨fun e => by rw [e.1, e.2]; exact ⟨rfl, rfl⟩, fun e => ⟨UInt8.toNat_inj.1 (by omega), UInt8.toNat_inj.1 (by omega)⟩⟩
theorem scope_none {w : (AExit → Env → St → Prop) → Env → St → Prop} {lw : Nat → Option ((AExit → Env → St → Prop) → Env → St → Prop)} {Q : AExit → Env → St → Prop} {env : Env} {st : St}
    (h : w (gotoQ (fun l env' st' => ∃ y : Empty, (fun e : Empty => (e.elim : Nat)) y = l ∧ (fun _ : Empty => True) y ∧ ((fun e : Empty => (e.elim : Env)) y).leC env' ∧ St.le ((fun e : Empty => (e.elim : St)) y) st') Q) env st) : scopeWp w lw Q env st :=
  ⟨Empty, fun e => e.elim, fun e => e.elim, fun e => e.elim, fun _ => True, fun e => e.elim, h, fun x => x.elim⟩
theorem fin_le {R : Res → St → Prop} {r r' : Res} {st st' : St} (hle : St.le st st') (h : R r st) (e : r = r') : ∃ r2 st2, (r2 = r' ∨ r2 = r'.wk) ∧ St.le st2 st' ∧ R r2 st2 := ⟨r, st, .inl e, hle, h⟩
end Go.Aw
namespace Go.Proofs.YtkidoddkbhchkaaGreatDoor
open Go Go.Aw
section
variable {st : St} {R : Res → St → Prop}
theorem open_e {s : List UInt8} {i : Int} {n : Nat} (e : i.toNat = n) (h : R (.ret (.bool (decide (hdF (s.drop n) = 123 ∧ hdF (s.drop (n + 1)) = 45)))) st) : PC 87 [.str (s.drop i.toNat), .str [123, 45]] st R := by
  refine prefix_c ?_
  rw [pre2, e, List.drop_drop]
  exact h
theorem close_e {s : List UInt8} {i : Int} {n : Nat} (e : i.toNat = n) (h : R (.ret (.bool (decide (hdF (s.drop n) = 45 ∧ hdF (s.drop (n + 1)) = 125)))) st) : PC 87 [.str (s.drop i.toNat), .str [45, 125]] st R := by
  refine prefix_c ?_
  rw [pre2, e, List.drop_drop]
  exact h
theorem nested_c {s : List UInt8} (hl : s.length ≤ 100000000) (hs : hdF s = 123 ∧ hdF (s.drop 1) = 45) (h : R (.ret (.int .i64 (endAt 2 (nestN 1 (s.drop 2))))) st) : PC 88 [.str s] st R := by
  have hs0 : hdF (s.drop 0) = 123 := hs.1
  refine pB Tryz.func88 ?_
  repeat' ((conv => whnf); first | (refine Yc1 ?_; intros) | (refine Yc3 ?_ ?_ <;> intro _) | refine scope_none ?_)
  refine loop_2 (α := Nat) (β := Nat) (fun pos d => [(3, .int .i64 (d : Int)), (4, .int .i64 (pos : Int))]) (fun _ _ => []) [0] [] (fun _ _ => st)
    (fun pos d => pos ≤ s.length ∧ d ≤ pos ∧ ((pos = 0 ∧ d = 0) ∨ (1 ≤ d ∧ 2 ≤ pos ∧ endAt 2 (nestN 1 (s.drop 2)) = endAt pos (nestN d (s.drop pos))))) (fun pos _ => s.length - pos) 0 0 ⟨Nat.zero_le _, Nat.le_refl _, .inl ⟨rfl, rfl⟩⟩ Yl (St.le_refl _) ?_
  rintro pos d ⟨h1, h2, h3⟩
  have q1 := fun h => hdF_lt_len (l := s) (k := pos + 1) h
  rcases h3 with ⟨rfl, rfl⟩ | ⟨h3, h4, h5⟩
  · have hs1 : hdF (s.drop (0 + 1)) = 45 := hs.2
    repeat' ((conv => whnf); first | (refine Yc1 ?_; intros) | (refine Yc3 ?_ ?_ <;> intro _) | refine open_e (n := 0) (by omega) ?_)
    · conv => whnf
      exact ⟨(2, 1), ⟨by dsimp only; omega, by dsimp only; omega, .inr ⟨Nat.le_refl _, Nat.le_refl _, rfl⟩⟩, by dsimp only; omega, Yl, St.le_refl _⟩
  repeat' ((conv => whnf); first | (refine Yc1 ?_; intros) | (refine Yc3 ?_ ?_ <;> intro _) | refine open_e (n := pos) (by omega) ?_ | refine close_e (n := pos) (by omega) ?_)
  · have k : hdF (s.drop pos) = 123 ∧ hdF (s.drop (pos + 1)) = 45 := by assumption
    conv => whnf
    exact ⟨(pos + 2, d + 1), ⟨by dsimp only; omega, by dsimp only; omega, .inr ⟨by dsimp only; omega, by dsimp only; omega, h5.trans (nest_open k.1 k.2)⟩⟩, by dsimp only; omega, Yl, St.le_refl _⟩
  · have k : hdF (s.drop pos) = 45 ∧ hdF (s.drop (pos + 1)) = 125 := by assumption
    have e := nest_close (d := d) k.1 k.2
    rw [if_pos (by omega)] at e
    exact fin h (int_ret (by rw [h5, e]; rfl))
  · have k : hdF (s.drop pos) = 45 ∧ hdF (s.drop (pos + 1)) = 125 := by assumption
    have e := nest_close (d := d) k.1 k.2
    rw [if_neg (by omega)] at e
    obtain ⟨d', rfl⟩ : ∃ d', d = d' + 1 := ⟨d - 1, by omega⟩
    rw [Nat.add_sub_cancel] at e
    have e2 : ((d' + 1 : Nat) : Int) - 1 = (d' : Int) := by omega
    refine ⟨(pos + 2, d'), ⟨by dsimp only; omega, by dsimp only; omega, .inr ⟨by dsimp only; omega, by dsimp only; omega, h5.trans e⟩⟩, by dsimp only; omega, ?_, St.le_refl _⟩
    rw [← e2]
    exact Yl
  · conv => whnf
    exact ⟨(pos + 1, d), ⟨by dsimp only; omega, by dsimp only; omega, .inr ⟨by dsimp only; omega, by dsimp only; omega, h5.trans (nest_go (by omega) (by omega) (by omega))⟩⟩, by dsimp only; omega, Yl, St.le_refl _⟩
  · exact fin h (int_ret (by rw [h5, nest_out (by omega)]))
theorem nrow_c {s : List UInt8} (hl : s.length ≤ 100000000) (h : R (.ret (.int .i64 (rowLen s : Nat))) st) : PC 89 [.str s] st R := by
  have hr := spanR_le (fun c => classF c == 5) s
  generalize hn : spanR (fun c => classF c == 5) s = n at hr
  have hrun : ∀ {R : Res → St → Prop}, R (.ret (.int .i64 (n : Nat))) st → PC 86 [.str s, .int .i64 0, .int .i64 5] st R := fun h => run_k (by omega) (by rw [hn]; exact h)
  obtain ⟨rest, hg⟩ := linesG_hd (s.drop n) 0 0 (Nat.le_refl _) (Nat.zero_le _)
  rw [List.drop_zero, List.drop_zero, Nat.zero_add] at hg
  have hlines : ∀ {R : Res → St → Prop}, (∀ own : Own, own.good st → R (.ret (.slice 1 (strs (((s.drop n).take (eolN (s.drop n))) :: rest)) own)) (own.st st (((s.drop n).take (eolN (s.drop n))) :: rest).length)) → PC 151 [.str (s.drop (n : Int).toNat)] st R :=
    fun h => lines_c (by rw [List.length_drop]; omega) (by rw [show (n : Int).toNat = n by omega, hg]; exact h)
  refine pB Tryz.func89 ?_
  have hel := eolN_le (s.drop n)
  have hlt : ((s.drop n).take (eolN (s.drop n))).length = eolN (s.drop n) := by rw [List.length_take]; omega
  rw [List.length_drop] at hel
  have hrl : rowLen s = if 2 ≤ n ∧ (s.take n).all (fun b => b == 45) = true then n + eolN (s.drop n) else 0 := by unfold rowLen; rw [hn]
  repeat' ((conv => whnf); first | (refine Yc1 ?_; intros) | (refine Yc3 ?_ ?_ <;> intro _) | refine hrun ?_ | refine trim_c (by decide) ?_ | refine hlines (fun own ho => ?_) | refine at_strs (l := ((s.drop n).take (eolN (s.drop n))) :: rest) rfl (by omega) ?_)
  · rw [if_neg (by omega)] at hrl
    exact fin h (int_ret (by rw [hrl]; rfl))
  · have ht := (trimB_nil (s.take n)).1 (by assumption)
    rw [if_pos ⟨by omega, ht⟩] at hrl
    exact fin_le (Own.good_le (by assumption)) h (int_ret (by rw [hrl]; omega))
  · have ht : ¬ (s.take n).all (fun b => b == 45) = true := fun e => absurd ((trimB_nil (s.take n)).2 e) (by assumption)
    rw [if_neg (fun e => ht e.2)] at hrl
    exact fin h (int_ret (by rw [hrl]; rfl))
theorem noteF_neg {s : List UInt8} {pos : Nat} (h : noteN (s.drop pos) < 0) : noteF s pos = (0, 60) := if_pos h
theorem noteF_0 {s : List UInt8} {pos : Nat} (h : noteN (s.drop pos) = 0) : noteF s pos = (0, 0) := by unfold noteF; rw [if_neg (by omega), if_pos h]
theorem noteF_pos {s : List UInt8} {pos : Nat} {n i : Int} (h : noteN (s.drop pos) = n) (h0 : 0 < n) (e : i = pos + n) : noteF s pos = (i, 0) := by unfold noteF; rw [if_neg (by omega), if_neg (by omega), h, e]
theorem note_ret {s : List UInt8} {pos : Nat} {n i : Int} (h : noteN (s.drop pos) = n) (h0 : 0 < n) (e : i = pos + n) : Res.ret (.tup [.int .i64 (noteF s pos).1, .int .i64 (noteF s pos).2]) = Res.ret (.tup [.int .i64 i, .int .i64 0]) := by rw [noteF_pos h h0 e]
theorem noteX_c {s : List UInt8} {pos : Nat} (hl : s.length ≤ 100000000) (hp : pos < s.length) (h : R (.ret (.tup [.int .i64 (noteF s pos).1, .int .i64 (noteF s pos).2])) st) : PC 45 [.str s, .int .i64 pos] st R := by
  have hle := noteN_le (s.drop pos)
  rw [List.length_drop] at hle
  have hdl : (s.drop pos).length ≤ 100000000 := by rw [List.length_drop]; omega
  have d1 : (s.drop pos).drop 1 = s.drop (pos + 1) := List.drop_drop
  obtain ⟨e, he⟩ : ∃ e, s[pos]? = some e := ⟨s[pos], List.getElem?_eq_getElem hp⟩
  have he' : s[(pos : Int).toNat]? = some e := he
  have hh := hdF_at he
  refine pB Tryz.func45 ?_
  by_cases hk : hdF (s.drop pos) = 123 ∧ hdF (s.drop (pos + 1)) = 45
  · have hN : noteN (s.drop pos) = endAt 2 (nestN 1 ((s.drop pos).drop 2)) := if_pos ⟨hk.1, by rw [d1]; exact hk.2⟩
    have hc : ∀ {R : Res → St → Prop}, R (.ret (.int .i64 (noteN (s.drop pos)))) st → PC 88 [.str (s.drop (pos : Int).toNat)] st R := fun h => nested_c hdl ⟨hk.1, by rw [show (pos : Int).toNat = pos by omega, d1]; exact hk.2⟩ (by rw [show (pos : Int).toNat = pos by omega, ← hN]; exact h)
    repeat' ((conv => whnf); first | (refine Yc1 ?_; intros) | (refine Yc3 ?_ ?_ <;> intro _) | refine open_e (n := pos) (by omega) ?_ | refine hc ?_)
    all_goals first
      | exact fin h (by rw [noteF_neg (by omega)])
      | exact fin h (by rw [noteF_0 (by omega)])
      | exact fin h (note_ret rfl (by omega) (by omega))
      | exact fin h (note_ret (hN (by omega)) (by omega) (by omega))
  · have hN : hdF (s.drop pos) = 45 → noteN (s.drop pos) = (rowLen (s.drop pos) : Nat) := fun e => by unfold noteN; rw [if_neg (by rw [d1]; exact hk), if_pos e]
    have hN0 : ¬ hdF (s.drop pos) = 45 → noteN (s.drop pos) = 0 := fun e => by unfold noteN; rw [if_neg (by rw [d1]; exact hk), if_neg e]
    have hc : ∀ {R : Res → St → Prop}, R (.ret (.int .i64 (rowLen (s.drop pos) : Nat))) st → PC 89 [.str (s.drop (pos : Int).toNat)] st R := fun h => nrow_c hdl h
    repeat' ((conv => whnf); first | (refine Yc1 ?_; intros) | (refine Yc3 ?_ ?_ <;> intro _) | refine open_e (n := pos) (by omega) ?_ | refine hc ?_)
    all_goals first
      | exact fin h (by rw [noteF_neg (by omega)])
      | exact fin h (by rw [noteF_0 (by omega)])
      | exact fin h (note_ret rfl (by omega) (by omega))
      | exact fin h (note_ret (hN (by omega)) (by omega) (by omega))
end
end Go.Proofs.YtkidoddkbhchkaaGreatDoor
set_option maxHeartbeats 16000000
set_option linter.unusedVariables false
namespace Go.Aw
open Go
def byF (l : List UInt8) : Int := if hdF l < 0 then 0 else hdF l
theorem byF_at {s : List UInt8} {i : Nat} {e : UInt8} (h : s[i]? = some e) : byF (s.drop i) = (e.toNat : Nat) := by unfold byF; rw [hdF_at h, if_neg (by omega)]
theorem byF_none {s : List UInt8} {i : Nat} (h : s.length ≤ i) : byF (s.drop i) = 0 := by unfold byF; rw [hdF_none h]; rfl
theorem byF_hd (l : List UInt8) : (hdF l = -1 ∧ byF l = 0) ∨ (0 ≤ hdF l ∧ byF l = hdF l) := by
  have := hdF_lt l
  unfold byF
  split
  · exact .inl ⟨by omega, rfl⟩
  · exact .inr ⟨by omega, rfl⟩
def prs (l : List (Nat × Nat)) : List (List V) := l.map fun p => [V.int .i64 (p.1 : Int), V.int .i64 (p.2 : Int)]
def OwnAt (st : St) (n : Nat) : Own → Prop
  | .full => True
  | .tok b => st.hw b = some n
  | .any => False
def OwnNew (st0 : St) : Own → Prop
  | .tok b => st0.fresh b
  | _ => True
def OwnNe : Own → Own → Prop
  | .tok b, .tok c => b ≠ c
  | _, _ => True
structure Rows2 (st0 st : St) (w1 : Own) (n1 : Nat) (w2 : Own) (n2 : Nat) : Prop where
  o1 : OwnAt st n1 w1
  o2 : OwnAt st n2 w2
  f1 : OwnNew st0 w1
  f2 : OwnNew st0 w2
  ne : OwnNe w1 w2
  le : st0.le st
theorem OwnNe.symm {a b : Own} (h : OwnNe a b) : OwnNe b a := by
  cases a <;> cases b <;> first | exact h | exact Ne.symm h
theorem Rows2.swap {st0 st : St} {w1 w2 : Own} {n1 n2 : Nat} (h : Rows2 st0 st w1 n1 w2 n2) : Rows2 st0 st w2 n2 w1 n1 := ⟨h.o2, h.o1, h.f2, h.f1, h.ne.symm, h.le⟩
theorem Rows2.set {st0 st : St} {w1 w2 : Own} {n1 n2 b : Nat} (h : Rows2 st0 st w1 n1 w2 n2) (hb : st0.box b = none) (cs : List V) : Rows2 st0 (st.setBox b cs) w1 n1 w2 n2 :=
  ⟨by have := h.o1; cases w1 <;> exact this, by have := h.o2; cases w2 <;> exact this, h.f1, h.f2, h.ne, St.le_setBox h.le hb cs⟩
theorem rows2_app {st0 st : St} {w1 w2 : Own} {n1 n2 sz bytes : Nat} {es new : List (List V)} {K : V → St → Prop} (h : Rows2 st0 st w1 n1 w2 n2) (hn : n1 = es.length * sz)
    (h1 : (es.length + new.length) * bytes ≤ 140737488355328) (h2 : es.length + new.length < lim) (h3 : (new.all fun v => v.all V.sc) = true) (hne : new ≠ [])
    (k : ∀ w1' st', Rows2 st0 st' w1' ((es.length + new.length) * sz) w2 n2 → st'.box = st.box → K (.slice sz (es ++ new.map (·.map V.wk0)) w1') st') : appendTo sz bytes es w1 new st K := by
  subst hn
  have frs : ∀ {x : Nat}, st.fresh x → st0.fresh x := fun {x} hx => by
    refine ⟨?_, ?_⟩
    · cases e : st0.box x with
      | none => rfl
      | some c => have := h.le.1 _ _ e; rw [hx.1] at this; cases this
    · cases e : st0.hw x with
      | none => rfl
      | some c => have := h.le.2 _ _ e; rw [hx.2] at this; cases this
  refine ⟨h1, h2, chk_intro h3 ?_⟩
  cases hw : w1 with
  | any => have := h.o1; rw [hw] at this; exact this
  | full =>
    refine ⟨fun e => absurd e hne, fun _ => .inl fun b hb => k (.tok b) _ ⟨?_, ?_, frs hb, h.f2, ?_, St.le_setHw h.le (frs hb).2 _⟩ rfl⟩
    · simp [OwnAt, St.setHw]
    · have := h.o2
      cases w2 with
      | tok c =>
        have hc : st.hw c = some n2 := this
        have : c ≠ b := fun e => by subst e; rw [hb.2] at hc; cases hc
        simp [OwnAt, St.setHw, this, hc]
      | _ => exact this
    · cases w2 with
      | tok c =>
        have hc : st.hw c = some n2 := h.o2
        exact fun e => by subst e; rw [hb.2] at hc; cases hc
      | _ => trivial
  | tok b =>
    subst hw
    have hb : st.hw b = some (es.length * sz) := h.o1
    have hb0 : st0.fresh b := h.f1
    refine ⟨hb, fun b' hb' => k (.tok b') _ ⟨?_, ?_, ?_, h.f2, ?_, ?_⟩ rfl⟩
    · simp [OwnAt, St.setHw]
    · have := h.o2
      cases w2 with
      | tok c =>
        have hc : st.hw c = some n2 := this
        have hcb : b ≠ c := h.ne
        have hcb' : c ≠ b' := fun e => by
          subst e
          rcases hb' with e | hb'
          · exact hcb e.symm
          · rw [hb'.2] at hc; cases hc
        simp [OwnAt, St.setHw, St.dropHw, hcb', hcb.symm, hc]
      | _ => exact this
    · rcases hb' with rfl | hb'
      · exact hb0
      · exact frs hb'
    · cases w2 with
      | tok c =>
        have hc : st.hw c = some n2 := h.o2
        have hcb : b ≠ c := h.ne
        refine fun (e : b' = c) => ?_
        subst e
        rcases hb' with e | hb'
        · exact hcb e.symm
        · rw [hb'.2] at hc; cases hc
      | _ => trivial
    · refine ⟨fun x cs e => h.le.1 x cs e, fun x n e => ?_⟩
      have e1 := h.le.2 x n e
      have hx : x ≠ b := fun hx => by subst hx; rw [hb0.2] at e; cases e
      have hx' : x ≠ b' := fun hx => by
        subst hx
        rcases hb' with e' | hb'
        · exact hx e'
        · rw [hb'.2] at e1; cases e1
      simp [St.setHw, St.dropHw, hx, hx', e1]
theorem ints_length (l : List Int) : (ints l).length = l.length := by simp [ints]
theorem prs_length (l : List (Nat × Nat)) : (prs l).length = l.length := by simp [prs]
theorem rows_int {st0 st : St} {w1 w2 : Own} {n2 : Nat} {o : List Int} {v : Int} {K : V → St → Prop} (h : Rows2 st0 st w1 o.length w2 n2) (hl : o.length ≤ 1000000000)
    (k : ∀ w1' st', Rows2 st0 st' w1' (o ++ [v]).length w2 n2 → st'.box = st.box → K (.slice 1 (ints (o ++ [v])) w1') st') : appendTo 1 8 (ints o) w1 [[.int .i64 v]] st K := by
  refine rows2_app h (by rw [ints_length]; omega) (by rw [ints_length, List.length_singleton]; omega) (by rw [ints_length, List.length_singleton]; unfold lim; omega) rfl (by simp) (fun w1' st' hr hb => ?_)
  have := k w1' st' (by rw [ints_length] at hr; rw [List.length_append]; simpa using hr) hb
  rwa [show ints (o ++ [v]) = ints o ++ ([[V.int .i64 v]] : List (List V)).map (·.map V.wk0) by simp [ints, V.wk0]] at this
theorem rows_pair {st0 st : St} {w1 w2 : Own} {n1 : Nat} {g : List (Nat × Nat)} {p : Nat × Nat} {a b : Int} {K : V → St → Prop} (h : Rows2 st0 st w1 n1 w2 (2 * g.length)) (hl : g.length ≤ 1000000000) (ha : a = (p.1 : Int)) (hb : b = (p.2 : Int))
    (k : ∀ w2' st', Rows2 st0 st' w1 n1 w2' (2 * (g ++ [p]).length) → st'.box = st.box → K (.slice 2 (prs (g ++ [p])) w2') st') : appendTo 2 16 (prs g) w2 [[.int .i64 a, .int .i64 b]] st K := by
  subst ha; subst hb
  refine rows2_app h.swap (by rw [prs_length]; omega) (by rw [prs_length, List.length_singleton]; omega) (by rw [prs_length, List.length_singleton]; unfold lim; omega) rfl (by simp) (fun w1' st' hr hb => ?_)
  have := k w1' st' (by rw [prs_length] at hr; rw [List.length_append]; have := hr.swap; simpa [Nat.mul_comm] using this) hb
  rwa [show prs (g ++ [p]) = prs g ++ ([[V.int .i64 (p.1 : Int), V.int .i64 (p.2 : Int)]] : List (List V)).map (·.map V.wk0) by simp [prs, V.wk0]] at this
theorem St.box_at (st : St) (b : Nat) (cs : List V) : (st.setBox b cs).box b = some cs := by simp [St.setBox]
theorem on_box {st : St} {b : Nat} {cs : List V} {K : List V → Prop} (h : st.box b = some cs) (k : K cs) : ∃ cs, st.box b = some cs ∧ K cs := ⟨cs, h, k⟩
end Go.Aw
namespace Go.Proofs.YtkidoddkbhchkaaGreatDoor
open Go Go.Aw
def abtF (c : Int) : Int := if c = 97 then 0 else if c = 98 then 1 else if c = 116 then 2 else if c = 110 then 3 else if c = 118 then 4 else if c = 102 then 5 else if c = 114 then 6 else -1
theorem abt_eq (u : UInt8) : Lib.indexByte [97, 98, 116, 110, 118, 102, 114] u = abtF (u.toNat : Nat) := by
  have key : ∀ k : UInt8, ((u.toNat : Nat) : Int) = ((k.toNat : Nat) : Int) → u = k := fun k e => UInt8.toNat_inj.1 (by omega)
  unfold abtF
  by_cases h1 : ((u.toNat : Nat) : Int) = 97
  · rw [key 97 h1]; rfl
  by_cases h2 : ((u.toNat : Nat) : Int) = 98
  · rw [key 98 h2]; rfl
  by_cases h3 : ((u.toNat : Nat) : Int) = 116
  · rw [key 116 h3]; rfl
  by_cases h4 : ((u.toNat : Nat) : Int) = 110
  · rw [key 110 h4]; rfl
  by_cases h5 : ((u.toNat : Nat) : Int) = 118
  · rw [key 118 h5]; rfl
  by_cases h6 : ((u.toNat : Nat) : Int) = 102
  · rw [key 102 h6]; rfl
  by_cases h7 : ((u.toNat : Nat) : Int) = 114
  · rw [key 114 h7]; rfl
  rw [if_neg h1, if_neg h2, if_neg h3, if_neg h4, if_neg h5, if_neg h6, if_neg h7]
  have ne : ∀ k : UInt8, ¬ ((u.toNat : Nat) : Int) = ((k.toNat : Nat) : Int) → (k == u) = false := fun k e => beq_eq_false_iff_ne.2 (fun x => e (by rw [x]))
  simp only [Lib.indexByte, ne 97 h1, ne 98 h2, ne 116 h3, ne 110 h4, ne 118 h5, ne 102 h6, ne 114 h7]
  rfl
def qC (s : List UInt8) (p : Nat) (tx : Bool) (o : List Int) (w1 : Own) (g : List (Nat × Nat)) (w2 : Own) : List V := [.str s, .int .i64 (p : Int), .bool tx, .slice 1 (ints o) w1, .slice 2 (prs g) w2]
def qfault (p : Int) (e : Int) : V := .iface 228 (.agg [.int .i64 p, .int .i64 e])
section
variable {st : St} {R : Res → St → Prop}
theorem qfail_c {v : V} {p e : Int} (h : R (.pan (qfault p e)) st) : PC 323 [v, .int .i64 p, .int .i64 e] st R := by
  refine pB Tryz.func323 ?_
  repeat' ((conv => whnf); first | (refine Yc1 ?_; intros) | (refine Yc3 ?_ ?_ <;> intro _) | fail)
  all_goals exact fin h rfl
theorem byteAt_c {b p k : Nat} {s : List UInt8} {tx : Bool} {o : List Int} {w1 w2 : Own} {g : List (Nat × Nat)} (hl : s.length ≤ 100000000) (hp : p ≤ s.length) (hk : k ≤ 10) (hb : st.box b = some (qC s p tx o w1 g w2))
    (h : R (.ret (.int .u8 (byF (s.drop (p + k))))) st) : PC 321 [.ptr b 0, .int .i64 k] st R := by
  refine pB Tryz.func321 ?_
  have e0 : ((p : Int) + (k : Int)).toNat = p + k := by omega
  by_cases hlt : p + k < s.length
  · obtain ⟨e, he⟩ : ∃ e, s[p + k]? = some e := ⟨s[p + k], List.getElem?_eq_getElem hlt⟩
    have he' : s[((p : Int) + (k : Int)).toNat]? = some e := by rw [e0]; exact he
    rw [byF_at he] at h
    repeat' ((conv => whnf); first | exact Yc0 | (refine Yc1 ?_; intros) | (refine Yc2 ?_ ?_ ?_; rotate_left) | (refine Yc3 ?_ ?_ <;> intro _) | refine on_box hb ?_ | with_reducible refine WF ?_)
    all_goals exact fin h rfl
  · rw [byF_none (by omega)] at h
    repeat' ((conv => whnf); first | exact Yc0 | (refine Yc1 ?_; intros) | (refine Yc2 ?_ ?_ ?_; rotate_left) | (refine Yc3 ?_ ?_ <;> intro _) | refine on_box hb ?_ | with_reducible refine WF ?_)
    all_goals exact fin h rfl
theorem abt_c {c : Int} (h0 : 0 ≤ c) (h1 : c ≤ 255) (h : R (.ret (.int .i64 (abtF c))) st) : PC 346 [.str [97, 98, 116, 110, 118, 102, 114], .int .u8 c] st R := by
  obtain ⟨u, rfl⟩ : ∃ u : UInt8, c = ((u.toNat : Nat) : Int) := ⟨UInt8.ofNat c.toNat, by rw [UInt8.toNat_ofNat']; omega⟩
  exact byte_c (by rw [abt_eq]; exact h)
def sgnR : Option Int → V
  | some v => .tup [.int .i64 v, .bool true]
  | none => .tup [.int .i64 0, .bool false]
theorem sign_c {c : Int} (h0 : 0 ≤ c) (h1 : c ≤ 255) (h : R (.ret (sgnR (sgnF c))) st) : PC 354 [.int .u8 c] st R := by
  have ha : (abtF c = -1 ∧ ¬ (c = 97 ∨ c = 98 ∨ c = 116 ∨ c = 110 ∨ c = 118 ∨ c = 102 ∨ c = 114)) ∨ (0 ≤ abtF c ∧ abtF c ≤ 6 ∧ ((c = 97 ∧ abtF c = 0) ∨ (c = 98 ∧ abtF c = 1) ∨ (c = 116 ∧ abtF c = 2) ∨ (c = 110 ∧ abtF c = 3) ∨ (c = 118 ∧ abtF c = 4) ∨ (c = 102 ∧ abtF c = 5) ∨ (c = 114 ∧ abtF c = 6))) := by
    unfold abtF
    (repeat' split) <;> first | (left; omega) | (right; omega)
  refine pB Tryz.func354 ?_
  repeat' ((conv => whnf); first | (refine Yc1 ?_; intros) | (refine Yc3 ?_ ?_ <;> intro _) | refine abt_c h0 h1 ?_)
  all_goals first
    | exact fin h (by rw [show sgnF c = some c by unfold sgnF; rw [if_pos (by omega)]]; rfl)
    | (have e : sgnF c = some (7 + abtF c) := by
         unfold sgnF
         rw [if_neg (by omega)]
         (repeat' split) <;> first | (congr 1; omega) | (exfalso; omega)
       exact fin h (by rw [e]; rfl))
    | (have e : sgnF c = none := by
         unfold sgnF
         rw [if_neg (by omega)]
         (repeat' split) <;> first | rfl | (exfalso; omega)
       exact fin h (by rw [e]; rfl))
end
end Go.Proofs.YtkidoddkbhchkaaGreatDoor
set_option maxHeartbeats 16000000
set_option linter.unusedVariables false
namespace Go.Proofs.YtkidoddkbhchkaaGreatDoor
open Go Go.Aw Go.Shelf
theorem space_tab {I : Mem} {st : St} {w : World} (hs : RelS I st w) : Lib.TabIs Tryz.prog w "strings.asciiSpace" .u8 Lib.asciiSpaceTab := by
  obtain ⟨c, ty, h1, h2⟩ := hs.shape 3 256 hs.tab.spaceN
  have hg : Tryz.prog.globalNamed "strings.asciiSpace" = some 3 := by kernel_rfl
  unfold Lib.TabIs World.var?
  rw [hg]
  simp only [Option.bind_some, h1, Option.some.injEq]
  have hlen : Lib.asciiSpaceTab.length = 256 := by decide +kernel
  refine Array.ext (by rw [h2]; simp [hlen]) fun i hi hi' => ?_
  have h3 := hs.cell _ _ _ (hs.tab.space i (by omega))
  simp only [World.cell?, h1, Option.isSome_none, Bool.false_eq_true, if_false] at h3
  rw [Array.getElem?_eq_getElem hi] at h3
  injection h3 with h3
  rw [h3]
  have hi2 : i < Lib.asciiSpaceTab.length := by rw [hlen]; omega
  simp [List.getD_eq_getElem?_getD, List.getElem?_eq_getElem hi2]
section
variable {st : St} {R : Res → St → Prop}
theorem fields_c {s : List UInt8} (hz : s.length < 4294967281) (ha : ∀ b ∈ s, b.toNat < 128) (h : R (.ret (.slice 1 (strs (Lib.fields s)) .any)) st) (hl : ∀ x ∈ Lib.fields s, x.length < lim) (hn : (Lib.fields s).length < lim) : PC 358 [.str s] st R := by
  refine ⟨fun I w cargs hs hc => ?_, ⟨_, Tryz.func358, by decide, by decide⟩⟩
  simp only [RepL, Rep] at hc
  obtain ⟨c, r, rfl, ⟨rfl, _⟩, rfl⟩ := hc
  refine (Tryz.strings_Fields ⟨s.toArray⟩ w (by show s.toArray.size < _; simpa using hz) (fun j b e => ha b (List.mem_of_getElem? (by simpa using e))) (space_tab hs)).mono fun e w' ⟨he, hw⟩ => ?_
  subst hw
  obtain ⟨h1, h2, h3⟩ := hs.row ((Lib.fields s).map fun l => Value.string ⟨l.toArray⟩) 9
  refine ⟨_, _, .ret _, h1, h2, ?_, h⟩
  subst he
  exact rep_strs (Lib.fields s) hl hn h3
theorem join_c {xs : List (List UInt8)} {own : Own} {sep : List UInt8} (hx : xs.length ≤ 140737488355328) (hj : (Lib.join xs sep).length ≤ 140737488355328) (h : R (.ret (.str (Lib.join xs sep))) st) : PC 51 [.slice 1 (strs xs) own, .str sep] st R := by
  refine pcalls_of_calls ⟨_, Tryz.func51, by decide, by decide⟩ _ (fun I w cargs hs hc => ?_) h
  simp only [RepL] at hc
  obtain ⟨c1, r1, rfl, hc1, c2, r2, rfl, hc2, rfl⟩ := hc
  simp only [Rep] at hc2
  obtain ⟨rfl, _⟩ := hc2
  obtain ⟨ad, cap, rfl, e2, e3, e4, e5, e6⟩ := rep_slice (β := fun _ => none) (show RepT I _ (.slice 1 (strs xs) own) c1 from hc1)
  have hlen : (strs xs).length = xs.length := by simp [strs]
  rw [hlen] at e2 e3 ⊢
  by_cases h0 : xs = []
  · subst h0
    refine (Tryz.strings_Join_none ad cap ⟨sep.toArray⟩ w).mono fun e w' ⟨he, hw⟩ => ⟨⟨_, he, ?_⟩, hw ▸ RowKit.Below.refl _ _⟩
    simp only [Rep]
    exact ⟨by trivial, by show (Lib.join [] sep).length < lim; rw [Lib.join_nil]; decide⟩
  · have hpos := List.length_pos_iff.2 h0
    cases ad with
    | none => simp only at e6; omega
    | some ad =>
      obtain ⟨bk, o, spot⟩ := ad
      simp only at e6
      obtain ⟨f1, f2⟩ := e6
      obtain rfl : spot = none := f1.resolve_left (by omega)
      have hcell : ∀ (j : Nat) x, xs[j]? = some x → w.cell? ⟨bk, o + j, none⟩ = some (.string ⟨x.toArray⟩) := fun j x hj => by
        obtain ⟨_, g2⟩ := RepE.get f2 (i := j) (e := [V.str x]) (by simp [strs, hj])
        simp only [RepC, Rep, and_true] at g2
        obtain ⟨c, g2, rfl, _⟩ := g2
        have := hs.cell _ _ _ g2
        rwa [Nat.mul_one] at this
      have hmap : (xs.map fun x => (⟨x.toArray⟩ : ByteArray)).map (·.data.toList) = xs := by simp [Function.comp_def]
      have hbk : bk < w.heap.size := by
        obtain ⟨x, hx⟩ : ∃ x, xs[0]? = some x := ⟨xs[0], List.getElem?_eq_getElem hpos⟩
        exact lt_of_cell (hcell 0 x hx)
      have := Tryz.strings_Join bk o cap (xs.map fun x => (⟨x.toArray⟩ : ByteArray)) ⟨sep.toArray⟩ w (fun j x hj => by
        rw [List.getElem?_map] at hj
        cases hq : xs[j]? with
        | none => rw [hq] at hj; cases hj
        | some y => rw [hq] at hj; injection hj with hj; subst hj; exact hcell j y hq) hbk (by rw [List.length_map]; exact hx) (by rw [List.length_map]; exact e2) (by rw [hmap]; exact hj)
      rw [List.length_map, hmap] at this
      refine this.mono fun e w' ⟨he, hb⟩ => ⟨⟨_, he, ?_⟩, hb⟩
      simp only [Rep]
      exact ⟨by trivial, by unfold lim; omega⟩
end
def idxF (p : Nat → Bool) (s : List UInt8) : Int := if spanD (fun d => !(p d.1)) s < s.length then (spanD (fun d => !(p d.1)) s : Nat) else -1
theorem idx_eq (p : Nat → Bool) (s : List UInt8) : ∀ (f pos : Nat), pos ≤ s.length → s.length - pos ≤ f → Lib.idxFuncFrom p true ⟨s.toArray⟩ f pos = if spanD (fun d => !(p d.1)) (s.drop pos) < s.length - pos then ((pos + spanD (fun d => !(p d.1)) (s.drop pos) : Nat) : Int) else -1
  | 0, pos, h1, h2 => by
    rw [if_neg (by omega)]; rfl
  | f + 1, pos, h1, h2 => by
    unfold Lib.idxFuncFrom
    have hz : (⟨s.toArray⟩ : ByteArray).size = s.length := by simp [ByteArray.size]
    rw [hz]
    by_cases hp : pos < s.length
    · rw [if_pos hp, decR_of hp]
      rcases hd : decR (s.drop pos) with ⟨c, m⟩
      have hr := rune_le hp hd.symm
      dsimp only
      by_cases hc : p c = true
      · rw [if_pos hc, spanD_no (p := fun d => !(p d.1)) (by rw [hd]; simp [hc]), if_pos (by omega)]; rfl
      · rw [if_neg hc, idx_eq p s f (pos + m) hr.1 (by omega)]
        have e := spanD_yes (p := fun d => !(p d.1)) (drop_ne hp) (by rw [hd]; simpa using hc)
        rw [hd, List.drop_drop] at e
        dsimp only at e
        rw [e]
        by_cases hk : spanD (fun d => !(p d.1)) (s.drop (pos + m)) < s.length - (pos + m)
        · rw [if_pos hk, if_pos (by omega)]; congr 1; omega
        · rw [if_neg hk, if_neg (by omega)]
    · rw [if_neg hp, if_neg (by omega)]
section
variable {st : St} {R : Res → St → Prop}
def noSt : St := ⟨fun _ => none, fun _ => none⟩
theorem index_c {g : FuncId} {p : Nat → Bool} {s : List UInt8} (hg : ∀ c : Nat, c ≤ 1114111 → PC g [.int .i32 (c : Int)] noSt fun r _ => r = .ret (.bool (p c))) (h : R (.ret (.int .i64 (idxF p s))) st) : PC 41 [.str s, .func g [] []] st R := by
  refine pcalls_of_calls ⟨_, Tryz.func41, by decide, by decide⟩ _ (fun I w cargs hs hc => ?_) h
  simp only [RepL, Rep] at hc
  obtain ⟨c1, r1, rfl, ⟨rfl, hl⟩, c2, r2, rfl, ⟨az, cs, rfl, rfl, rfl⟩, rfl⟩ := hc
  obtain ⟨fn, p1, p2, p3⟩ := (hg 0 (by decide)).b
  have eg : ∀ args w, (callFunc g args).run Tryz.prog w = .ok (.enter g args) w := fun args w => by
    have hb : fn.body.isNone = false := by cases hb : fn.body <;> simp_all
    simp only [callFunc, Sem.run_bind, Result.andThen_ok, run_program, p1]
    rw [p3]
    simp [hb]
  have hp : PredGrows Tryz.prog g #[] p w := fun W x hx hb => by
    obtain ⟨_, hW⟩ := hs.below hb
    have hW0 : RelS I noSt W := ⟨hW.cell, hW.shape, fun b cs e => (by cases e), fun b e => absurd rfl e, fun b n e => (by cases e), hW.tab⟩
    refine ((hg x hx).a I W [.int .i32 x] hW0 (by simp only [RepL, Rep]; exact ⟨_, _, rfl, rfl, rfl⟩)).mono ?_
    rintro e w' ⟨I', st', r, k1, k2, k3, rfl⟩
    refine ⟨?_, ⟨k1.os, k1.tape, k1.output, k1.size, fun k hk => k1.old k hk rfl rfl⟩⟩
    cases e with
    | returned c =>
      have k3 : Rep I' (.bool (p x)) c := k3
      simp only [Rep] at k3
      rw [k3]
    | panicked _ => exact k3.elim
    | outgrown => exact k3.elim
  refine (Tryz.strings_IndexFunc_grows g #[] eg p ⟨s.toArray⟩ w hp).mono fun e w' ⟨he, hb⟩ => ⟨⟨_, he, ?_⟩, hb⟩
  simp only [Rep]
  unfold Lib.idxFunc idxF
  rw [idx_eq p s _ 0 (Nat.zero_le _) (by simp [ByteArray.size]), List.drop_zero, Nat.sub_zero, Nat.zero_add]
end
end Go.Proofs.YtkidoddkbhchkaaGreatDoor
set_option maxHeartbeats 16000000
set_option linter.unusedVariables false
namespace Go.Aw
open Go
def namesL : List UInt8 := [78, 85, 76, 32, 83, 79, 72, 32, 83, 84, 88, 32, 69, 84, 88, 32, 69, 79, 84, 32, 69, 78, 81, 32, 65, 67, 75, 32, 66, 69, 76, 32, 66, 83, 32, 72, 84, 32, 76, 70, 32, 86, 84, 32, 70, 70, 32, 67, 82, 32, 83, 79, 32, 83, 73, 32, 68, 76, 69, 32, 68, 67, 49, 32, 68, 67, 50, 32, 68, 67, 51, 32, 68, 67, 52, 32, 78, 65, 75, 32, 83, 89, 78, 32, 69, 84, 66, 32, 67, 65, 78, 32, 69, 77, 32, 83, 85, 66, 32, 69, 83, 67, 32, 70, 83, 32, 71, 83, 32, 82, 83, 32, 85, 83, 32, 83, 80, 32, 68, 69, 76]
theorem fields_names : Lib.fields namesL = nameT := by decide +kernel
theorem names_lo : ∀ b ∈ namesL, b.toNat < 128 := by
  have h : namesL.all (fun b => decide (b.toNat < 128)) = true := by decide +kernel
  intro b hb
  simpa using List.all_eq_true.1 h b hb
theorem nameT_len : ∀ w ∈ nameT, 1 ≤ w.length ∧ w.length ≤ 3 := by
  have h : nameT.all (fun w => decide (1 ≤ w.length) && decide (w.length ≤ 3)) = true := by decide +kernel
  intro w hw
  simpa using List.all_eq_true.1 h w hw
theorem nameT_n : nameT.length = 34 := by decide +kernel
theorem valF_go {base v : Int} {s : List UInt8} {pos c m : Nat} (h : pos < s.length) (hd : (c, m) = decR (s.drop pos)) (k : ¬ digitF (c : Int) base < 0) : valF base v (s.drop pos) = valF base (min (v * base + digitF (c : Int) base) 1114112) (s.drop (pos + 1)) := by
  rw [List.drop_eq_getElem_cons h] at hd ⊢
  by_cases hb : s[pos].toNat < 128
  · rw [decR_lo hb] at hd
    injection hd with h1 h2
    subst h1
    rw [valF, if_neg k]
  · have := decR_hi (r := s.drop (pos + 1)) hb
    rw [← hd] at this
    exact absurd (digitF_hi (c := (c : Int)) (base := base) (by dsimp only at this; omega)) k
theorem valF_no {base v : Int} {s : List UInt8} {pos c m : Nat} (h : pos < s.length) (hd : (c, m) = decR (s.drop pos)) (k : digitF (c : Int) base < 0) : valF base v (s.drop pos) = v := by
  rw [List.drop_eq_getElem_cons h] at hd ⊢
  by_cases hb : s[pos].toNat < 128
  · rw [decR_lo hb] at hd
    injection hd with h1 h2
    subst h1
    rw [valF, if_pos k]
  · rw [valF, if_pos (digitF_hi (by omega))]
theorem valF_none {base v : Int} {s : List UInt8} {pos : Nat} (h : s.length ≤ pos) : valF base v (s.drop pos) = v := by rw [List.drop_eq_nil_iff.2 h]; rfl
theorem digitF_lt {c b : Int} : digitF c b < 0 ∨ digitF c b < b := by
  unfold digitF
  dsimp only
  generalize (if 48 ≤ c ∧ c ≤ 57 then c - 48 else if 97 ≤ c ∧ c ≤ 102 then c - 87 else if 65 ≤ c ∧ c ≤ 70 then c - 55 else 16) = v
  split
  · exact .inl (by decide)
  · exact .inr (by omega)
theorem ex_dig {v c b : Int} {K : Int → Prop} (h0 : 0 ≤ v) (h1 : v ≤ 1114112) (hb : 0 ≤ b) (hb' : b ≤ 16) (hk : ¬ digitF c b < 0) (k : K (v * b + digitF c b)) : ∃ r, r = IntKind.i64.wrap (v * b + digitF c b) ∧ K r := by
  have h2 : 0 ≤ v * b := Int.mul_nonneg h0 hb
  have h3 : v * b ≤ 1114112 * 16 := Int.mul_le_mul h1 hb' hb (by decide)
  have h4 := digitF_lt (c := c) (b := b)
  exact Wq (by omega) (by omega) k
theorem namesL_n : namesL.length < 1000 := by decide +kernel
theorem min_k {a b : Int} {K : Int → Prop} (k : K (min a b)) : ∃ r, r = (if b < a then b else a) ∧ K r := ⟨min a b, by rw [Int.min_def]; split <;> split <;> omega, k⟩
theorem namG_step {l x : List UInt8} {i c n : Nat} (h : nameT[i]? = some x) : namG l (nameT.drop i) i (c, n) = namG l (nameT.drop (i + 1)) (i + 1) (if n < x.length ∧ x.isPrefixOf l = true then (i, x.length) else (c, n)) := by
  rw [drop_at h, namG]
theorem namF_of {l : List UInt8} {c n : Nat} (h : namG l nameT 0 (0, 0) = (c, n)) : namF l = (if c = 33 then 127 else (c : Int), n) := by
  have key : ∀ p : Nat × Nat, p = (c, n) → ((if p.1 = 33 then 127 else (p.1 : Int), p.2) : Int × Nat) = (if c = 33 then 127 else (c : Int), n) := fun p hp => by subst hp; rfl
  exact key _ h
end Go.Aw
namespace Go.Proofs.YtkidoddkbhchkaaGreatDoor
open Go Go.Aw
theorem num3_ret {s : List UInt8} {b v : Int} {n : Nat} {t : Bool} (e1 : rowN b s = n) (e2 : valF b 0 s = v) (e3 : decide (n ≠ 0 ∧ v ≤ 1114111) = t) : Res.ret (.tup [.int .i64 (valF b 0 s), .int .i64 (rowN b s : Nat), .bool (decide (rowN b s ≠ 0 ∧ valF b 0 s ≤ 1114111))]) = Res.ret (.tup [.int .i64 v, .int .i64 (n : Int), .bool t]) := by rw [e1, e2, e3]
section
variable {st : St} {R : Res → St → Prop}
theorem fields_v {s : List UInt8} {l : List (List UInt8)} (e : Lib.fields s = l) (hz : s.length < 1000) (ha : ∀ b ∈ s, b.toNat < 128) (hl : ∀ x ∈ l, x.length ≤ 3) (hn : l.length ≤ 1000) (h : R (.ret (.slice 1 (strs l) .any)) st) : PC 358 [.str s] st R := by
  subst e
  exact fields_c (by omega) ha h (fun x hx => by have := hl x hx; unfold lim; omega) (by unfold lim; omega)
theorem names_c (h : R (.ret (.slice 1 (strs nameT) .any)) st) : PC 358 [.str namesL] st R :=
  fields_v fields_names namesL_n names_lo (fun x hx => (nameT_len x hx).2) (Nat.le_trans (Nat.le_of_eq nameT_n) (by decide)) h
set_option maxRecDepth 100000 in
theorem named_c {s : List UInt8} (hl : s.length ≤ 100000000) (h : R (.ret (.tup [.int .i64 (namF s).1, .int .i64 (namF s).2])) st) : PC 356 [.str s] st R := by
  refine pB Tryz.func356 ?_
  repeat' ((conv => whnf); first | (refine Yc1 ?_; intros) | (refine Yc3 ?_ ?_ <;> intro _) | refine names_c ?_ | refine len_strs (fun _ => ?_))
  refine loop_3 (α := Nat) (β := Nat) (γ := Nat) (fun i c n => [(8, .int .i64 (i : Int)), (2, .int .i64 (c : Int)), (3, .int .i64 (n : Int))]) (fun _ _ _ => []) [0, 6, 7] [] (fun _ _ _ => st)
    (fun i c n => i ≤ nameT.length ∧ n ≤ 3 ∧ namG s nameT 0 (0, 0) = namG s (nameT.drop i) i (c, n)) (fun i _ _ => nameT.length - i) 0 0 0 ⟨Nat.zero_le _, by decide, rfl⟩ Yl (St.le_refl _) ?_
  rintro i c n ⟨h1, h2, h3⟩
  rcases hx : nameT[i]? with _ | x
  · have hge := List.getElem?_eq_none_iff.1 hx
    rw [List.drop_eq_nil_iff.2 hge] at h3
    have e := namF_of h3
    repeat' ((conv => whnf); first | (refine Yc1 ?_; intros) | (refine Yc3 ?_ ?_ <;> intro _) | fail)
    all_goals first
      | exact fin h (by rw [e, if_pos (by omega)])
      | exact fin h (by rw [e, if_neg (by omega)])
  · have hlt := (List.getElem?_eq_some_iff.1 hx).1
    have hm := nameT_len x (List.mem_of_getElem? hx)
    rw [namG_step hx] at h3
    have hx' : nameT[((i : Int)).toNat]? = some x := hx
    repeat' ((conv => whnf); first | (refine Yc1 ?_; intros) | (refine Yc3 ?_ ?_ <;> intro _) | refine at_strs hx' (by omega) ?_ | refine prefix_c ?_)
    · rw [if_pos ⟨by omega, by assumption⟩] at h3
      conv => whnf
      exact ⟨(i + 1, i, x.length), ⟨by dsimp only; omega, by dsimp only; omega, h3⟩, by dsimp only; omega, Yl, St.le_refl _⟩
    · have hp : x.isPrefixOf s = false := by assumption
      rw [if_neg (fun y => by rw [hp] at y; cases y.2)] at h3
      conv => whnf
      exact ⟨(i + 1, c, n), ⟨by dsimp only; omega, by dsimp only; omega, h3⟩, by dsimp only; omega, Yl, St.le_refl _⟩
    · rw [if_neg (fun y => by omega)] at h3
      conv => whnf
      exact ⟨(i + 1, c, n), ⟨by dsimp only; omega, by dsimp only; omega, h3⟩, by dsimp only; omega, Yl, St.le_refl _⟩
theorem number_c {s : List UInt8} {b : Int} (hl : s.length ≤ 100000000) (hb : b = 8 ∨ b = 10 ∨ b = 16) (h : R (.ret (.tup [.int .i64 (valF b 0 s), .int .i64 (rowN b s : Nat), .bool (decide (rowN b s ≠ 0 ∧ valF b 0 s ≤ 1114111))])) st) : PC 357 [.str s, .int .i64 b] st R := by
  refine pB Tryz.func357 ?_
  repeat' ((conv => whnf); first | (refine Yc1 ?_; intros) | (refine Yc3 ?_ ?_ <;> intro _) | fail)
  refine loop_2 (α := Nat) (β := Int) (fun pos v => [(4, .int .i64 v), (5, .int .i64 (pos : Int))]) (fun pos _ => [(0, [.sit s pos])]) [0, 1, 11] [] (fun _ _ => st)
    (fun pos v => pos ≤ s.length ∧ 0 ≤ v ∧ v ≤ 1114112 ∧ rowN b s = pos + rowN b (s.drop pos) ∧ valF b 0 s = valF b v (s.drop pos)) (fun pos _ => s.length - pos) 0 0 ⟨Nat.zero_le _, by decide, by decide, by simp, rfl⟩ Yl (St.le_refl _) ?_
  rintro pos v ⟨h1, h2, h3, h4, h5⟩
  rcases hb with rfl | rfl | rfl
  · skip
    have hdl := fun c => digitF_lt (c := c) (b := 8)
    repeat' ((conv => whnf); first | (refine Yc1 ?_; intros) | (refine Yc3 ?_ ?_ <;> intro _) | refine digit_c ?_ | refine min_k ?_ | refine ex_dig h2 h3 (by decide) (by decide) (by assumption) ?_)
    all_goals first
      | (rename_i hlt c m hd hk _ _
         have e1 := rowN_no hlt hd hk
         have e2 := valF_no (v := v) hlt hd hk
         exact fin h (num3_ret (by omega) (h5.trans e2) (by first | exact decide_eq_true ⟨by omega, by omega⟩ | exact decide_eq_false (by omega))))
      | (rename_i hlt c m hd hk _
         have e1 := rowN_no hlt hd hk
         have e2 := valF_no (v := v) hlt hd hk
         exact fin h (num3_ret (by omega) (h5.trans e2) (by first | exact decide_eq_true ⟨by omega, by omega⟩ | exact decide_eq_false (by omega))))
      | (have e1 := rowN_none (base := 8) (s := s) (pos := pos) (by omega)
         have e2 := valF_none (base := 8) (v := v) (s := s) (pos := pos) (by omega)
         exact fin h (num3_ret (by omega) (h5.trans e2) (by first | exact decide_eq_true ⟨by omega, by omega⟩ | exact decide_eq_false (by omega))))
      | (rename_i hlt c m hd hk
         obtain ⟨e1, e2⟩ := rowN_go hlt hd hk
         have e3 := valF_go (v := v) hlt hd hk
         have e4 := hdl (c : Int)
         subst e1
         conv => whnf
         exact ⟨(pos + 1, min (v * 8 + digitF (c : Int) 8) 1114112), ⟨by dsimp only; omega, by dsimp only; omega, by dsimp only; omega, by dsimp only; omega, h5.trans e3⟩, by dsimp only; omega, Yl, St.le_refl _⟩)
  · skip
    have hdl := fun c => digitF_lt (c := c) (b := 10)
    repeat' ((conv => whnf); first | (refine Yc1 ?_; intros) | (refine Yc3 ?_ ?_ <;> intro _) | refine digit_c ?_ | refine min_k ?_ | refine ex_dig h2 h3 (by decide) (by decide) (by assumption) ?_)
    all_goals first
      | (rename_i hlt c m hd hk _ _
         have e1 := rowN_no hlt hd hk
         have e2 := valF_no (v := v) hlt hd hk
         exact fin h (num3_ret (by omega) (h5.trans e2) (by first | exact decide_eq_true ⟨by omega, by omega⟩ | exact decide_eq_false (by omega))))
      | (rename_i hlt c m hd hk _
         have e1 := rowN_no hlt hd hk
         have e2 := valF_no (v := v) hlt hd hk
         exact fin h (num3_ret (by omega) (h5.trans e2) (by first | exact decide_eq_true ⟨by omega, by omega⟩ | exact decide_eq_false (by omega))))
      | (have e1 := rowN_none (base := 10) (s := s) (pos := pos) (by omega)
         have e2 := valF_none (base := 10) (v := v) (s := s) (pos := pos) (by omega)
         exact fin h (num3_ret (by omega) (h5.trans e2) (by first | exact decide_eq_true ⟨by omega, by omega⟩ | exact decide_eq_false (by omega))))
      | (rename_i hlt c m hd hk
         obtain ⟨e1, e2⟩ := rowN_go hlt hd hk
         have e3 := valF_go (v := v) hlt hd hk
         have e4 := hdl (c : Int)
         subst e1
         conv => whnf
         exact ⟨(pos + 1, min (v * 10 + digitF (c : Int) 10) 1114112), ⟨by dsimp only; omega, by dsimp only; omega, by dsimp only; omega, by dsimp only; omega, h5.trans e3⟩, by dsimp only; omega, Yl, St.le_refl _⟩)
  · skip
    have hdl := fun c => digitF_lt (c := c) (b := 16)
    repeat' ((conv => whnf); first | (refine Yc1 ?_; intros) | (refine Yc3 ?_ ?_ <;> intro _) | refine digit_c ?_ | refine min_k ?_ | refine ex_dig h2 h3 (by decide) (by decide) (by assumption) ?_)
    all_goals first
      | (rename_i hlt c m hd hk _ _
         have e1 := rowN_no hlt hd hk
         have e2 := valF_no (v := v) hlt hd hk
         exact fin h (num3_ret (by omega) (h5.trans e2) (by first | exact decide_eq_true ⟨by omega, by omega⟩ | exact decide_eq_false (by omega))))
      | (rename_i hlt c m hd hk _
         have e1 := rowN_no hlt hd hk
         have e2 := valF_no (v := v) hlt hd hk
         exact fin h (num3_ret (by omega) (h5.trans e2) (by first | exact decide_eq_true ⟨by omega, by omega⟩ | exact decide_eq_false (by omega))))
      | (have e1 := rowN_none (base := 16) (s := s) (pos := pos) (by omega)
         have e2 := valF_none (base := 16) (v := v) (s := s) (pos := pos) (by omega)
         exact fin h (num3_ret (by omega) (h5.trans e2) (by first | exact decide_eq_true ⟨by omega, by omega⟩ | exact decide_eq_false (by omega))))
      | (rename_i hlt c m hd hk
         obtain ⟨e1, e2⟩ := rowN_go hlt hd hk
         have e3 := valF_go (v := v) hlt hd hk
         have e4 := hdl (c : Int)
         subst e1
         conv => whnf
         exact ⟨(pos + 1, min (v * 16 + digitF (c : Int) 16) 1114112), ⟨by dsimp only; omega, by dsimp only; omega, by dsimp only; omega, by dsimp only; omega, h5.trans e3⟩, by dsimp only; omega, Yl, St.le_refl _⟩)
end
end Go.Proofs.YtkidoddkbhchkaaGreatDoor
set_option maxHeartbeats 16000000
set_option linter.unusedVariables false
namespace Go.Aw
open Go
theorem numV_some {b : Int} {l : List UInt8} {v : Int} {n : Nat} (h : numV b l = some (v, n)) : valF b 0 l = v ∧ rowN b l = n ∧ n ≠ 0 ∧ v ≤ 1114111 := by
  unfold numV at h
  split at h
  · cases h
  · injection h with h; injection h with h1 h2
    exact ⟨h1, h2, by omega, by omega⟩
theorem numV_none {b : Int} {l : List UInt8} (h : numV b l = none) : decide (rowN b l ≠ 0 ∧ valF b 0 l ≤ 1114111) = false := by
  unfold numV at h
  split at h
  · exact decide_eq_false (by omega)
  · cases h
theorem fin_eq {R : Res → St → Prop} {r r' : Res} {st st' : St} (es : st' = st) (h : R r st) (e : r = r') : ∃ r2 st2, (r2 = r' ∨ r2 = r'.wk) ∧ St.le st2 st' ∧ R r2 st2 := by subst es; exact ⟨r, st', .inl e, St.le_refl _, h⟩
theorem St.set_set' (st : St) (b : Nat) (cs cs' : List V) : (st.setBox b cs).setBox b cs' = st.setBox b cs' := by
  simp only [St.setBox, St.mk.injEq, and_true]
  funext x
  split <;> rfl
end Go.Aw
namespace Go.Proofs.YtkidoddkbhchkaaGreatDoor
open Go Go.Aw
theorem qC_at {q : Nat} {i : Int} {s : List UInt8} {tx : Bool} {o : List Int} {w1 w2 : Own} {g : List (Nat × Nat)} (e : i = (q : Int)) : [V.str s, .int .i64 i, .bool tx, .slice 1 (ints o) w1, .slice 2 (prs g) w2] = qC s q tx o w1 g w2 := by subst e; rfl
section
variable {st : St} {R : Res → St → Prop}
theorem number_v {s : List UInt8} {i b v : Int} {n m : Nat} (e : i.toNat = m) (hn : numV b (s.drop m) = some (v, n)) (hl : s.length ≤ 100000000) (hb : b = 8 ∨ b = 10 ∨ b = 16) (h : R (.ret (.tup [.int .i64 v, .int .i64 n, .bool true])) st) : PC 357 [.str (s.drop i.toNat), .int .i64 b] st R := by
  rw [e]
  obtain ⟨e1, e2, e3, e4⟩ := numV_some hn
  exact number_c (by rw [List.length_drop]; omega) hb (by rw [e1, e2, decide_eq_true ⟨e3, e4⟩]; exact h)
theorem number_x {s : List UInt8} {i b : Int} {m : Nat} (e : i.toNat = m) (hn : numV b (s.drop m) = none) (hl : s.length ≤ 100000000) (hb : b = 8 ∨ b = 10 ∨ b = 16) (h : R (.ret (.tup [.int .i64 (valF b 0 (s.drop m)), .int .i64 (rowN b (s.drop m) : Nat), .bool false])) st) : PC 357 [.str (s.drop i.toNat), .int .i64 b] st R := by
  rw [e]
  exact number_c (by rw [List.length_drop]; omega) hb (by rw [numV_none hn]; exact h)
theorem digits_c {b p k : Nat} {frm base : Int} {s : List UInt8} {tx : Bool} {o : List Int} {w1 w2 : Own} {g : List (Nat × Nat)} (hl : s.length ≤ 100000000) (hp : p + k ≤ s.length) (hbase : base = 8 ∨ base = 10 ∨ base = 16) (hb : st.box b = some (qC s p tx o w1 g w2))
    (h : ∀ v n, numV base (s.drop (p + k)) = some (v, n) → R (.ret (.int .i64 v)) (st.setBox b (qC s (p + k + n) tx o w1 g w2))) (h0 : numV base (s.drop (p + k)) = none → R (.pan (qfault frm 51)) st) :
    PC 355 [.ptr b 0, .int .i64 frm, .int .i64 k, .int .i64 base] st R := by
  refine pB Tryz.func355 ?_
  rcases hn : numV base (s.drop (p + k)) with _ | ⟨v, n⟩
  · have h0 := h0 hn
    repeat' ((conv => whnf); first | exact Yc0 | (refine Yc1 ?_; intros) | (refine Yc2 ?_ ?_ ?_; rotate_left) | (refine Yc3 ?_ ?_ <;> intro _) | refine on_box hb ?_ | refine number_x (m := p + k) (by omega) hn hl hbase ?_ | refine qfail_c ?_ | with_reducible refine WF ?_)
    all_goals exact fin h0 rfl
  · have h := h v n hn
    have hle := numV_le hn
    rw [List.length_drop] at hle
    dsimp only at hle
    repeat' ((conv => whnf); first | exact Yc0 | (refine Yc1 ?_; intros) | (refine Yc2 ?_ ?_ ?_; rotate_left) | (refine Yc3 ?_ ?_ <;> intro _) | refine on_box hb ?_ | refine number_v (m := p + k) (by omega) hn hl hbase ?_ | refine qfail_c ?_ | with_reducible refine WF ?_)
    exact fin_eq (congrArg (st.setBox b) (qC_at (by omega))) h rfl
theorem gapN_at {s : List UInt8} {p : Nat} : gapN (s.drop p) = if hdF (s.drop p) = 92 ∧ spanR (fun c => classF c == 1) (s.drop (p + 1)) ≠ 0 ∧ hdF (s.drop (p + 1 + spanR (fun c => classF c == 1) (s.drop (p + 1)))) = 92 then spanR (fun c => classF c == 1) (s.drop (p + 1)) + 2 else 0 := by
  have hd1 : (s.drop p).drop 1 = s.drop (p + 1) := List.drop_drop
  unfold gapN; rw [hd1, List.drop_drop, Nat.add_assoc]
theorem run_blank {s : List UInt8} {i : Int} {q k : Nat} (hl : s.length ≤ 100000000) (hq : q ≤ s.length) (hk : spanR (fun c => classF c == 1) (s.drop q) = k) (e : i = (q : Int)) (h : R (.ret (.int .i64 (q + k : Nat))) st) : PC 86 [.str s, .int .i64 i, .int .i64 1] st R := by
  subst e; exact run_c (by omega) (by rw [runF_in (by omega) (by omega), show (q : Int).toNat = q by omega, hk]; exact h)
theorem gap_no {b p : Nat} {s : List UInt8} {tx : Bool} {o : List Int} {w1 w2 : Own} {g : List (Nat × Nat)} (hl : s.length ≤ 100000000) (hp : p ≤ s.length) (hb : st.box b = some (qC s p tx o w1 g w2)) (hg : tx = false ∨ gapN (s.drop p) = 0) (h : R (.ret (.bool false)) st) : PC 348 [.ptr b 0] st R := by
  refine pB Tryz.func348 ?_
  have hby := byF_hd (s.drop p)
  cases tx with
  | false =>
    repeat' ((conv => whnf); first | exact Yc0 | (refine Yc1 ?_; intros) | (refine Yc2 ?_ ?_ ?_; rotate_left) | (refine Yc3 ?_ ?_ <;> intro _) | refine on_box hb ?_ | refine byteAt_c (k := 0) hl hp (by decide) hb ?_ | with_reducible refine WF ?_)
    all_goals exact fin h rfl
  | true =>
    have hg : gapN (s.drop p) = 0 := hg.resolve_left (by decide)
    by_cases h1 : hdF (s.drop p) = 92
    · have hp1 : p < s.length := hdF_lt_len (k := p) (by omega)
      have hr := spanR_le (fun c => classF c == 1) (s.drop (p + 1))
      have hgn := gapN_at (s := s) (p := p)
      rw [List.length_drop] at hr
      generalize hk : spanR (fun c => classF c == 1) (s.drop (p + 1)) = k at hr hgn
      have hno : k ≠ 0 → ¬ hdF (s.drop (p + 1 + k)) = 92 := fun e1 e2 => by rw [if_pos ⟨h1, e1, e2⟩] at hgn; omega
      have hb0 : byF (s.drop p) = 92 := by omega
      by_cases hlt : p + 1 + k < s.length
      · obtain ⟨e, he⟩ : ∃ e, s[p + 1 + k]? = some e := ⟨s[p + 1 + k], List.getElem?_eq_getElem hlt⟩
        have he' : s[((p + 1 + k : Nat) : Int).toNat]? = some e := he
        have hv := hdF_at he
        repeat' ((conv => whnf); first | exact Yc0 | (refine Yc1 ?_; intros) | (refine Yc2 ?_ ?_ ?_; rotate_left) | (refine Yc3 ?_ ?_ <;> intro _) | refine on_box hb ?_ | refine byteAt_c (k := 0) hl hp (by decide) hb ?_ | refine run_blank (q := p + 1) hl (by omega) hk (by omega) ?_ | with_reducible refine WF ?_)
        all_goals exact fin h rfl
      · skip
        repeat' ((conv => whnf); first | exact Yc0 | (refine Yc1 ?_; intros) | (refine Yc2 ?_ ?_ ?_; rotate_left) | (refine Yc3 ?_ ?_ <;> intro _) | refine on_box hb ?_ | refine byteAt_c (k := 0) hl hp (by decide) hb ?_ | refine run_blank (q := p + 1) hl (by omega) hk (by omega) ?_ | with_reducible refine WF ?_)
        all_goals exact fin h rfl
    · have hb0 : ¬ byF (s.drop p) = 92 := by omega
      repeat' ((conv => whnf); first | exact Yc0 | (refine Yc1 ?_; intros) | (refine Yc2 ?_ ?_ ?_; rotate_left) | (refine Yc3 ?_ ?_ <;> intro _) | refine on_box hb ?_ | refine byteAt_c (k := 0) hl hp (by decide) hb ?_ | with_reducible refine WF ?_)
      all_goals exact fin h rfl
attribute [local irreducible] Go.Aw.appendTo
theorem gap_yes {st0 : St} {b p : Nat} {s : List UInt8} {o : List Int} {w1 w2 : Own} {g : List (Nat × Nat)} (hl : s.length ≤ 100000000) (hb : st.box b = some (qC s p true o w1 g w2)) (hg : 0 < gapN (s.drop p)) (hr2 : Rows2 st0 st w1 o.length w2 (2 * g.length)) (hgl : g.length ≤ 100000000)
    (h : ∀ w2' st', Rows2 st0 st' w1 o.length w2' (2 * (g ++ [(p, p + gapN (s.drop p))]).length) → st'.box = st.box → R (.ret (.bool true)) (st'.setBox b (qC s (p + gapN (s.drop p)) true o w1 (g ++ [(p, p + gapN (s.drop p))]) w2'))) : PC 348 [.ptr b 0] st R := by
  have hby := byF_hd (s.drop p)
  have hgn := gapN_at (s := s) (p := p)
  have hr := spanR_le (fun c => classF c == 1) (s.drop (p + 1))
  rw [List.length_drop] at hr
  generalize hk : spanR (fun c => classF c == 1) (s.drop (p + 1)) = k at hr hgn
  have hc : hdF (s.drop p) = 92 ∧ k ≠ 0 ∧ hdF (s.drop (p + 1 + k)) = 92 := by
    by_cases hc : hdF (s.drop p) = 92 ∧ k ≠ 0 ∧ hdF (s.drop (p + 1 + k)) = 92
    · exact hc
    · rw [if_neg hc] at hgn; omega
  rw [if_pos hc] at hgn
  obtain ⟨h1, h2, h3⟩ := hc
  have hp1 : p < s.length := hdF_lt_len (k := p) (by omega)
  have hp2 : p + 1 + k < s.length := hdF_lt_len (k := p + 1 + k) (by omega)
  obtain ⟨e, he⟩ : ∃ e, s[p + 1 + k]? = some e := ⟨s[p + 1 + k], List.getElem?_eq_getElem hp2⟩
  have he' : s[((p + 1 + k : Nat) : Int).toNat]? = some e := he
  have hv := hdF_at he
  have hb0 : byF (s.drop p) = 92 := by omega
  have hpk : ((p + 1 + k : Nat) : Int) + 1 = ((p + (k + 2) : Nat) : Int) := by omega
  rw [hgn] at h
  refine pB Tryz.func348 ?_
  repeat' ((conv => whnf); first | refine draw_mix [(0, true), (1, true), (2, true), (3, true), (4, true), (5, true), (6, true), (7, true), (8, true), (9, true), (10, true), (11, true), (12, true), (13, false), (14, true), (15, true), (16, false)] [] (by decide +kernel) ?_ | exact Yc0 | (refine Yc1 ?_; intros) | (refine Yc2 ?_ ?_ ?_; rotate_left) | (refine Yc3 ?_ ?_ <;> intro _) | refine on_box hb ?_ | refine byteAt_c (k := 0) hl (by omega) (by decide) hb ?_ | refine run_blank (q := p + 1) hl (by omega) hk (by omega) ?_ | refine rows_pair (p := (p, p + (k + 2))) hr2 (by omega) rfl hpk (fun w2' st1 hr3 hb3 => ?_) | refine on_box ((congrFun hb3 b).trans hb) ?_ | refine on_box (St.box_at _ _ _) ?_ | with_reducible refine WF ?_)
  exact fin_eq ((St.set_set' _ _ _ _).trans (congrArg (st1.setBox b) (qC_at (by omega)))) (h w2' st1 hr3 hb3) rfl
end
end Go.Proofs.YtkidoddkbhchkaaGreatDoor
set_option maxHeartbeats 16000000
set_option linter.unusedVariables false
namespace Go.Aw
open Go
theorem sgnF_by (l : List UInt8) : sgnF (byF l) = sgnF (hdF l) := by
  rcases byF_hd l with ⟨h1, h2⟩ | ⟨h1, h2⟩
  · rw [h1, h2]; rfl
  · rw [h2]
theorem sgnF_no {c : Int} (h : sgnF c = none) : c ≠ 92 ∧ c ≠ 34 ∧ c ≠ 39 := by
  refine ⟨fun e => ?_, fun e => ?_, fun e => ?_⟩ <;> (subst e; cases h)
theorem u8_in {a : Int} (h1 : 0 ≤ a) (h2 : a ≤ 255) : IntKind.u8.wrap a = a := IntWalk.u8_in _ ⟨h1, h2⟩
theorem escF_sgn {tx : Bool} {l : List UInt8} {v : Int} (h : sgnF (hdF (l.drop 1)) = some v) : escF tx l = some (v, 2) := by unfold escF; rw [h]
theorem escF_amp {l : List UInt8} (h : hdF (l.drop 1) = 38) : escF true l = some (-1, 2) := by
  unfold escF; rw [show sgnF (hdF (l.drop 1)) = none by rw [h]; rfl]
  exact if_pos ⟨h, rfl⟩
theorem escF_ctl {tx : Bool} {l : List UInt8} (h : hdF (l.drop 1) = 94) (h1 : 64 ≤ hdF (l.drop 2)) (h2 : hdF (l.drop 2) ≤ 95) : escF tx l = some (hdF (l.drop 2) - 64, 3) := by
  unfold escF; rw [show sgnF (hdF (l.drop 1)) = none by rw [h]; rfl]
  dsimp only
  rw [if_neg (by omega), if_pos ⟨h, h1, h2⟩]
theorem escF_oct {tx : Bool} {l : List UInt8} (h : hdF (l.drop 1) = 111) : escF tx l = (numV 8 (l.drop 2)).map fun p => (p.1, 2 + p.2) := by
  unfold escF; rw [show sgnF (hdF (l.drop 1)) = none by rw [h]; rfl]
  dsimp only
  rw [if_neg (by omega), if_neg (by omega), if_pos h]
theorem escF_hex {tx : Bool} {l : List UInt8} (h : hdF (l.drop 1) = 120) : escF tx l = (numV 16 (l.drop 2)).map fun p => (p.1, 2 + p.2) := by
  unfold escF; rw [show sgnF (hdF (l.drop 1)) = none by rw [h]; rfl]
  dsimp only
  rw [if_neg (by omega), if_neg (by omega), if_neg (by omega), if_pos h]
theorem escF_dec {tx : Bool} {l : List UInt8} (h : 48 ≤ hdF (l.drop 1)) (h1 : hdF (l.drop 1) ≤ 57) : escF tx l = (numV 10 (l.drop 1)).map fun p => (p.1, 1 + p.2) := by
  have hs : sgnF (hdF (l.drop 1)) = none := by
    unfold sgnF
    (repeat' split) <;> first | rfl | (exfalso; omega)
  unfold escF; rw [hs]
  dsimp only
  rw [if_neg (by omega), if_neg (by omega), if_neg (by omega), if_neg (by omega), if_pos ⟨h, h1⟩]
theorem escF_nam {tx : Bool} {l : List UInt8} (h : sgnF (hdF (l.drop 1)) = none) (h1 : ¬ (hdF (l.drop 1) = 38 ∧ tx = true)) (h2 : ¬ (hdF (l.drop 1) = 94 ∧ 64 ≤ hdF (l.drop 2) ∧ hdF (l.drop 2) ≤ 95)) (h3 : hdF (l.drop 1) ≠ 111) (h4 : hdF (l.drop 1) ≠ 120) (h5 : ¬ (48 ≤ hdF (l.drop 1) ∧ hdF (l.drop 1) ≤ 57)) :
    escF tx l = if 0 < (namF (l.drop 1)).2 then some ((namF (l.drop 1)).1, 1 + (namF (l.drop 1)).2) else none := by
  unfold escF; rw [h]
  dsimp only
  rw [if_neg h1, if_neg h2, if_neg h3, if_neg h4, if_neg h5]
end Go.Aw
namespace Go.Proofs.YtkidoddkbhchkaaGreatDoor
open Go Go.Aw
section
variable {st : St} {R : Res → St → Prop}
theorem named_e {s : List UInt8} {i : Int} {n : Nat} (e : i.toNat = n) (hl : s.length ≤ 100000000) (h : R (.ret (.tup [.int .i64 (namF (s.drop n)).1, .int .i64 (namF (s.drop n)).2])) st) : PC 356 [.str (s.drop i.toNat)] st R := by
  rw [e]; exact named_c (by rw [List.length_drop]; omega) h
theorem escape_c {b p : Nat} {s : List UInt8} {tx : Bool} {o : List Int} {w1 w2 : Own} {g : List (Nat × Nat)} (hl : s.length ≤ 100000000) (hp : p < s.length) (hb : st.box b = some (qC s p tx o w1 g w2))
    (h : ∀ v n, escF tx (s.drop p) = some (v, n) → R (.ret (.int .i64 v)) (st.setBox b (qC s (p + n) tx o w1 g w2))) (h0 : escF tx (s.drop p) = none → ∀ q, R (.pan (qfault p 51)) (st.setBox b (qC s q tx o w1 g w2))) :
    PC 349 [.ptr b 0] st R := by
  have d1 : (s.drop p).drop 1 = s.drop (p + 1) := List.drop_drop
  have d2 : (s.drop p).drop 2 = s.drop (p + 1 + 1) := List.drop_drop
  refine pcalls_of_aw tys_ok [] Tryz.func349 rfl (by decide) rfl ?_
  refine AW_seq2 (aw_of tys_ok ?_)
  repeat' ((conv => whnf); first | exact Yc0 | (refine Yc1 ?_; intros) | (refine Yc2 ?_ ?_ ?_; rotate_left) | (refine Yc3 ?_ ?_ <;> intro _) | with_reducible refine WF ?_)
  refine AW_seq2 (aw_of tys_ok ?_)
  repeat' ((conv => whnf); first | exact Yc0 | (refine Yc1 ?_; intros) | (refine Yc2 ?_ ?_ ?_; rotate_left) | (refine Yc3 ?_ ?_ <;> intro _) | refine on_box hb ?_ | with_reducible refine WF ?_)
  refine AW_seq2 (aw_of tys_ok ?_)
  repeat' ((conv => whnf); first | exact Yc0 | (refine Yc1 ?_; intros) | (refine Yc2 ?_ ?_ ?_; rotate_left) | (refine Yc3 ?_ ?_ <;> intro _) | refine on_box hb ?_ | with_reducible refine WF ?_)
  refine AW_st (st' := st.setBox b (qC s (p + 1) tx o w1 g w2)) rfl ?_
  have endq : ∀ {i : Int} {q : Nat}, i = (q : Int) → (st.setBox b (qC s (p + 1) tx o w1 g w2)).setBox b [V.str s, .int .i64 i, .bool tx, .slice 1 (ints o) w1, .slice 2 (prs g) w2] = st.setBox b (qC s q tx o w1 g w2) := fun e => by rw [St.set_set', qC_at e]
  have endp : ∀ {q : Nat}, (st.setBox b (qC s (p + 1) tx o w1 g w2)).setBox b (qC s q tx o w1 g w2) = st.setBox b (qC s q tx o w1 g w2) := St.set_set' _ _ _ _
  have hb1 : (st.setBox b (qC s (p + 1) tx o w1 g w2)).box b = some (qC s (p + 1) tx o w1 g w2) := St.box_at _ _ _
  have h0' := fun e => h0 e (p + 1)
  generalize hst : st.setBox b (qC s (p + 1) tx o w1 g w2) = st1 at hb1 endq endp h0'
  have hx1 := byF_hd (s.drop (p + 1))
  have hx2 := byF_hd (s.drop (p + 1 + 1))
  have hxl := hdF_lt (s.drop (p + 1))
  have hby0 : ∀ {R : Res → St → Prop}, R (.ret (.int .u8 (byF (s.drop (p + 1))))) st1 → PC 321 [.ptr b 0, .int .i64 0] st1 R := fun h => byteAt_c (k := 0) hl (by omega) (by decide) hb1 h
  have hby1 : ∀ {R : Res → St → Prop}, R (.ret (.int .u8 (byF (s.drop (p + 1 + 1))))) st1 → PC 321 [.ptr b 0, .int .i64 1] st1 R := fun h => byteAt_c (k := 1) hl (by omega) (by decide) hb1 h
  have l1 := fun h => hdF_lt_len (l := s) (k := p + 1) h
  have l2 := fun h => hdF_lt_len (l := s) (k := p + 1 + 1) h
  cases hsg : sgnF (hdF (s.drop (p + 1))) with
  | some v =>
    have hv := sgnF_pos hsg
    have h1 := h v 2 (escF_sgn (by rw [d1]; exact hsg))
    have hsn : ∀ {R : Res → St → Prop}, R (.ret (sgnR (some v))) st1 → PC 354 [.int .u8 (byF (s.drop (p + 1)))] st1 R := fun h => sign_c (by omega) (by omega) (by rw [sgnF_by, hsg]; exact h)
    refine aw_of tys_ok ?_
    repeat' ((conv => whnf); first | exact Yc0 | (refine Yc1 ?_; intros) | (refine Yc2 ?_ ?_ ?_; rotate_left) | (refine Yc3 ?_ ?_ <;> intro _) | refine hby0 ?_ | refine hsn ?_ | refine on_box hb1 ?_ | with_reducible refine WF ?_)
    exact fin_eq (endq (by omega)) h1 rfl
  | none =>
    have hne := sgnF_no hsg
    have hsn : ∀ {R : Res → St → Prop}, R (.ret (sgnR none)) st1 → PC 354 [.int .u8 (byF (s.drop (p + 1)))] st1 R := fun h => sign_c (by omega) (by omega) (by rw [sgnF_by, hsg]; exact h)
    refine AW_seq2 (aw_of tys_ok ?_)
    repeat' ((conv => whnf); first | exact Yc0 | (refine Yc1 ?_; intros) | (refine Yc2 ?_ ?_ ?_; rotate_left) | (refine Yc3 ?_ ?_ <;> intro _) | refine hby0 ?_ | with_reducible refine WF ?_)
    refine AW_seq2 (aw_of tys_ok ?_)
    repeat' ((conv => whnf); first | exact Yc0 | (refine Yc1 ?_; intros) | (refine Yc2 ?_ ?_ ?_; rotate_left) | (refine Yc3 ?_ ?_ <;> intro _) | refine hsn ?_ | with_reducible refine WF ?_)
    by_cases c1 : hdF (s.drop (p + 1)) = 38 ∧ tx = true
    · obtain ⟨c1, rfl⟩ := c1
      have h1 := h (-1) 2 (escF_amp (by rw [d1]; exact c1))
      refine aw_of tys_ok ?_
      repeat' ((conv => whnf); first | exact Yc0 | (refine Yc1 ?_; intros) | (refine Yc2 ?_ ?_ ?_; rotate_left) | (refine Yc3 ?_ ?_ <;> intro _) | refine on_box hb1 ?_ | with_reducible refine WF ?_)
      exact fin_eq (endq (by omega)) h1 rfl
    by_cases c2 : hdF (s.drop (p + 1)) = 94 ∧ 64 ≤ hdF (s.drop (p + 1 + 1)) ∧ hdF (s.drop (p + 1 + 1)) ≤ 95
    · obtain ⟨c2, c3, c4⟩ := c2
      have h1 := h _ 3 (escF_ctl (by rw [d1]; exact c2) (by rw [d2]; exact c3) (by rw [d2]; exact c4))
      rw [d2] at h1
      have hp2 := l2 (by omega)
      obtain ⟨e, he⟩ : ∃ e, s[p + 1 + 1]? = some e := ⟨s[p + 1 + 1], List.getElem?_eq_getElem hp2⟩
      have he' : s[(((p + 1 : Nat) : Int) + 2 - 1).toNat]? = some e := by rw [show (((p + 1 : Nat) : Int) + 2 - 1).toNat = p + 1 + 1 by omega]; exact he
      have hv := hdF_at he
      have hew : ∀ {K : Int → Prop}, K (hdF (s.drop (p + 1 + 1)) - 64) → ∃ r, r = IntKind.u8.wrap ((e.toNat : Nat) - 64 : Int) ∧ K r := fun k => ⟨_, by rw [hv]; exact (u8_in (by omega) (by omega)).symm, k⟩
      refine aw_of tys_ok ?_
      repeat' ((conv => whnf); first | exact Yc0 | (refine Yc1 ?_; intros) | (refine Yc2 ?_ ?_ ?_; rotate_left) | (refine Yc3 ?_ ?_ <;> intro _) | refine hby1 ?_ | refine on_box hb1 ?_ | refine on_box (St.box_at _ _ _) ?_ | refine hew ?_ | with_reducible refine WF ?_)
      exact fin_eq (endq (by omega)) h1 rfl
    by_cases c3 : hdF (s.drop (p + 1)) = 111
    · have he := escF_oct (tx := tx) (l := s.drop p) (by rw [d1]; exact c3)
      rw [d2] at he
      have hp1 := l1 (by omega)
      refine aw_of tys_ok ?_
      repeat' ((conv => whnf); first | exact Yc0 | (refine Yc1 ?_; intros) | (refine Yc2 ?_ ?_ ?_; rotate_left) | (refine Yc3 ?_ ?_ <;> intro _) | refine on_box hb1 ?_ | refine digits_c (k := 1) hl (by omega) (.inl rfl) hb1 (fun v n hv => ?_) (fun hv => ?_) | with_reducible refine WF ?_)
      all_goals try rw [hv] at he
      · have h1 := h v (2 + n) he
        exact fin_eq (endp.trans (by rw [show p + 1 + 1 + n = p + (2 + n) by omega])) h1 rfl
      · exact fin (h0' he) rfl
    by_cases c4 : hdF (s.drop (p + 1)) = 120
    · have he := escF_hex (tx := tx) (l := s.drop p) (by rw [d1]; exact c4)
      rw [d2] at he
      have hp1 := l1 (by omega)
      refine aw_of tys_ok ?_
      repeat' ((conv => whnf); first | exact Yc0 | (refine Yc1 ?_; intros) | (refine Yc2 ?_ ?_ ?_; rotate_left) | (refine Yc3 ?_ ?_ <;> intro _) | refine on_box hb1 ?_ | refine digits_c (k := 1) hl (by omega) (.inr (.inr rfl)) hb1 (fun v n hv => ?_) (fun hv => ?_) | with_reducible refine WF ?_)
      all_goals try rw [hv] at he
      · have h1 := h v (2 + n) he
        exact fin_eq (endp.trans (by rw [show p + 1 + 1 + n = p + (2 + n) by omega])) h1 rfl
      · exact fin (h0' he) rfl
    by_cases c5 : 48 ≤ hdF (s.drop (p + 1)) ∧ hdF (s.drop (p + 1)) ≤ 57
    · have he := escF_dec (tx := tx) (l := s.drop p) (by rw [d1]; exact c5.1) (by rw [d1]; exact c5.2)
      rw [d1] at he
      have hp1 := l1 (by omega)
      refine aw_of tys_ok ?_
      repeat' ((conv => whnf); first | exact Yc0 | (refine Yc1 ?_; intros) | (refine Yc2 ?_ ?_ ?_; rotate_left) | (refine Yc3 ?_ ?_ <;> intro _) | refine on_box hb1 ?_ | refine digits_c (k := 0) hl (by omega) (.inr (.inl rfl)) hb1 (fun v n hv => ?_) (fun hv => ?_) | with_reducible refine WF ?_)
      all_goals try rw [show numV 10 (s.drop (p + 1)) = _ from hv] at he
      · have h1 := h v (1 + n) he
        exact fin_eq (endp.trans (by rw [show p + 1 + 0 + n = p + (1 + n) by omega])) h1 rfl
      · exact fin (h0' he) rfl
    · have he := escF_nam (tx := tx) (l := s.drop p) (by rw [d1]; exact hsg) (by rw [d1]; exact c1) (by rw [d1, d2]; exact c2) (by rw [d1]; exact c3) (by rw [d1]; exact c4) (by rw [d1]; exact c5)
      rw [d1] at he
      have hc1 : byF (s.drop (p + 1)) = 38 → tx = false := fun e => by
        cases tx with
        | false => rfl
        | true => exact absurd ⟨by omega, rfl⟩ c1
      have hnl := namG_le (s.drop (p + 1)) nameT 0 (0, 0) (Nat.zero_le _)
      have hnn : (namF (s.drop (p + 1))).2 ≤ s.length - (p + 1) := by simp only [namF]; rw [List.length_drop] at hnl; omega
      have f2 : ¬ (byF (s.drop (p + 1)) = 94 ∧ 64 ≤ byF (s.drop (p + 1 + 1)) ∧ byF (s.drop (p + 1 + 1)) ≤ 95) := fun e => c2 ⟨by omega, by omega, by omega⟩
      have f3 : ¬ byF (s.drop (p + 1)) = 111 := by omega
      have f4 : ¬ byF (s.drop (p + 1)) = 120 := by omega
      have f5 : ¬ (48 ≤ byF (s.drop (p + 1)) ∧ byF (s.drop (p + 1)) ≤ 57) := by omega
      have e1 := fun (n : Nat) (hn : (namF (s.drop (p + 1))).2 = n) (h0 : 0 < n) => h _ (1 + n) (by rw [he, hn, if_pos h0])
      have e2 := fun (h0 : ¬ 0 < (namF (s.drop (p + 1))).2) => h0' (by rw [he, if_neg h0])
      generalize byF (s.drop (p + 1)) = x1 at hby0 hc1 f2 f3 f4 f5 hx1 hsn
      generalize byF (s.drop (p + 1 + 1)) = x2 at hby1 f2 hx2
      generalize hN : namF (s.drop (p + 1)) = N at e1 e2 hnn
      obtain ⟨v, n⟩ := N
      have e1 := e1 n rfl
      dsimp only at e1 e2 hnn
      have hnam : ∀ {i : Int} {R : Res → St → Prop}, i.toNat = p + 1 → R (.ret (.tup [.int .i64 v, .int .i64 (n : Int)])) st1 → PC 356 [.str (s.drop i.toNat)] st1 R := fun e h => named_e e hl (by rw [hN]; exact h)
      clear he h h0 h0' hsg hne hsn c1 c2 c3 c4 c5 hx1 hx2 hxl l1 l2 d1 d2 hnl hby0 endp hb hN
      by_cases h38 : x1 = 38
      · have e := hc1 h38
        subst e
        refine aw_of tys_ok ?_
        repeat' ((conv => whnf); first | exact Yc0 | (refine Yc1 ?_; intros) | (refine Yc2 ?_ ?_ ?_; rotate_left) | (refine Yc3 ?_ ?_ <;> intro _) | refine hby1 ?_ | refine on_box hb1 ?_ | refine hnam (by omega) ?_ | refine qfail_c ?_ | with_reducible refine WF ?_)
        all_goals first
          | exact fin_eq (endq (by omega)) (e1 (by omega)) rfl
          | exact fin (e2 (by omega)) rfl
      · clear hc1
        refine aw_of tys_ok ?_
        repeat' ((conv => whnf); first | exact Yc0 | (refine Yc1 ?_; intros) | (refine Yc2 ?_ ?_ ?_; rotate_left) | (refine Yc3 ?_ ?_ <;> intro _) | refine hby1 ?_ | refine on_box hb1 ?_ | refine hnam (by omega) ?_ | refine qfail_c ?_ | with_reducible refine WF ?_)
        all_goals first
          | exact fin_eq (endq (by omega)) (e1 (by omega)) rfl
          | exact fin (e2 (by omega)) rfl
end
end Go.Proofs.YtkidoddkbhchkaaGreatDoor
set_option maxHeartbeats 16000000
set_option linter.unusedVariables false
namespace Go.Aw
open Go
theorem oneF_gap {l : List UInt8} (h : 0 < gapN l) : oneF true l = .inr (-1, gapN l) := by
  cases l with
  | nil => exact absurd h (by decide)
  | cons a r =>
    have h1 : hdF (a :: r) = 92 := by
      by_cases h1 : hdF (a :: r) = 92
      · exact h1
      · unfold gapN at h; rw [if_neg (fun e => h1 e.1)] at h; omega
    unfold oneF
    dsimp only
    rw [if_pos h1, if_pos ⟨rfl, h⟩]
theorem oneF_esc {tx : Bool} {l : List UInt8} (h1 : hdF l = 92) (h : tx = false ∨ gapN l = 0) : oneF tx l = match escF tx l with | none => .inl 51 | some p => .inr p := by
  cases l with
  | nil => exact absurd h1 (by decide)
  | cons a r =>
    unfold oneF
    dsimp only
    have hn : ¬ (tx = true ∧ 0 < gapN (a :: r)) := fun x => by
      rcases h with h | h
      · rw [h] at x; cases x.1
      · omega
    rw [if_pos h1, if_neg hn]
    all_goals (cases escF tx (a :: r) <;> rfl)
theorem oneF_rune {tx : Bool} {l : List UInt8} (hne : l ≠ []) (h1 : hdF l ≠ 92) : oneF tx l = if badRune (decR l) then .inl 50 else .inr (((decR l).1 : Nat), (decR l).2) := by
  cases l with
  | nil => exact absurd rfl hne
  | cons a r =>
    unfold oneF
    dsimp only
    rw [if_neg h1]
theorem classF_max {c : Int} (h : classF c ≠ 0) : c ≤ 1114111 := by
  by_cases hc : c ≤ 1114111
  · exact hc
  · refine absurd ?_ h
    unfold classF beyondF
    rw [if_neg (by omega), if_neg (by omega), if_neg (by omega), if_neg (by omega), if_neg (by omega), if_neg (by omega), if_neg (by omega), if_neg (by omega), if_pos (by omega)]
theorem bad_iff {c m : Nat} : badRune (c, m) = true ↔ classF (c : Int) = 0 ∨ (classF (c : Int) = 1 ∧ ¬ c = 32) ∨ (c = 65533 ∧ m = 1) := by
  simp only [badRune, Bool.or_eq_true, Bool.and_eq_true, Bool.not_eq_true', beq_iff_eq, beq_eq_false_iff_ne, ne_eq]
  omega
def outF (o : List Int) (v : Int) : List Int := if v = -1 then o else o ++ [v]
end Go.Aw
namespace Go.Proofs.YtkidoddkbhchkaaGreatDoor
open Go Go.Aw
def QB (st0 st : St) (b : Nat) (s : List UInt8) (tx : Bool) : Prop := ∃ q o w1 g w2, st.box b = some (qC s q tx o w1 g w2) ∧ Rows2 st0 st w1 o.length w2 (2 * g.length)
section
variable {st : St} {R : Res → St → Prop}
attribute [local irreducible] Go.Aw.appendTo
theorem gap_k {st0 : St} {b p : Nat} {s : List UInt8} {tx : Bool} {o : List Int} {w1 w2 : Own} {g : List (Nat × Nat)} (hl : s.length ≤ 100000000) (hp : p ≤ s.length) (hb : st.box b = some (qC s p tx o w1 g w2)) (hr : Rows2 st0 st w1 o.length w2 (2 * g.length)) (hgl : g.length ≤ 100000000)
    (h0 : (tx = false ∨ gapN (s.drop p) = 0) → R (.ret (.bool false)) st)
    (h : tx = true → 0 < gapN (s.drop p) → ∀ w2' st', Rows2 st0 st' w1 o.length w2' (2 * (g ++ [(p, p + gapN (s.drop p))]).length) → st'.box = st.box → R (.ret (.bool true)) (st'.setBox b (qC s (p + gapN (s.drop p)) true o w1 (g ++ [(p, p + gapN (s.drop p))]) w2'))) : PC 348 [.ptr b 0] st R := by
  by_cases hg : tx = false ∨ gapN (s.drop p) = 0
  · exact gap_no hl hp hb hg (h0 hg)
  · have ht : tx = true := by cases tx; · exact absurd (.inl rfl) hg
                              rfl
    subst ht
    have hg' : 0 < gapN (s.drop p) := by
      rcases Nat.eq_zero_or_pos (gapN (s.drop p)) with e | e
      · exact absurd (.inr e) hg
      · exact e
    exact gap_yes hl hb hg' hr hgl (h rfl hg')
theorem one_c {st0 : St} {b p : Nat} {s : List UInt8} {tx : Bool} {o : List Int} {w1 w2 : Own} {g : List (Nat × Nat)} (hl : s.length ≤ 100000000) (hp : p ≤ s.length) (hb0 : st0.box b = none) (hb : st.box b = some (qC s p tx o w1 g w2)) (hr : Rows2 st0 st w1 o.length w2 (2 * g.length))
    (ho : o.length ≤ 100000000) (hgl : g.length ≤ 100000000)
    (h0 : ∀ e, oneF tx (s.drop p) = .inl e → ∀ st', QB st0 st' b s tx → R (.pan (qfault p e)) st')
    (h : ∀ v n, oneF tx (s.drop p) = .inr (v, n) → ∀ w1' w2' st' g', Rows2 st0 st' w1' (outF o v).length w2' (2 * g'.length) → st'.box b = some (qC s (p + n) tx (outF o v) w1' g' w2') → g' = (if tx = true ∧ 0 < gapN (s.drop p) then g ++ [(p, p + n)] else g) → R (.ret (.tup [])) st') :
    PC 322 [.ptr b 0] st R := by
  have hqb : QB st0 st b s tx := ⟨p, o, w1, g, w2, hb, hr⟩
  refine pcalls_of_aw tys_ok [] Tryz.func322 rfl (by decide) rfl ?_
  by_cases hpl : s.length ≤ p
  · have hd : s.drop p = [] := List.drop_eq_nil_iff.2 (by omega)
    have h0 := h0 50 (by rw [hd]; rfl) st hqb
    refine aw_of tys_ok ?_
    repeat' ((conv => whnf); first | exact Yc0 | (refine Yc1 ?_; intros) | (refine Yc2 ?_ ?_ ?_; rotate_left) | (refine Yc3 ?_ ?_ <;> intro _) | refine on_box hb ?_ | refine qfail_c ?_ | with_reducible refine WF ?_)
    exact fin h0 rfl
  have hpl : p < s.length := by omega
  obtain ⟨e, he⟩ : ∃ e, s[p]? = some e := ⟨s[p], List.getElem?_eq_getElem hpl⟩
  have he' : s[(p : Int).toNat]? = some e := he
  have hv := hdF_at he
  refine AW_seq2 (aw_of tys_ok ?_)
  repeat' ((conv => whnf); first | exact Yc0 | (refine Yc1 ?_; intros) | (refine Yc2 ?_ ?_ ?_; rotate_left) | (refine Yc3 ?_ ?_ <;> intro _) | refine on_box hb ?_ | refine qfail_c ?_ | with_reducible refine WF ?_)
  refine AW_seq2 (aw_of tys_ok ?_)
  repeat' ((conv => whnf); first | exact Yc0 | (refine Yc1 ?_; intros) | (refine Yc2 ?_ ?_ ?_; rotate_left) | (refine Yc3 ?_ ?_ <;> intro _) | refine gap_k hl hp hb hr hgl (fun hg => ?_) (fun ht hg w2' st1 hr1 hb1 => ?_) | with_reducible refine WF ?_)
  · by_cases h92 : hdF (s.drop p) = 92
    · have h1 := oneF_esc h92 hg
      have hng : ¬ (tx = true ∧ 0 < gapN (s.drop p)) := fun x => by
        rcases hg with h | h
        · rw [h] at x; cases x.1
        · omega
      rcases hesc : escF tx (s.drop p) with _ | ⟨v, n⟩
      · rw [hesc] at h1
        have h0 := h0 51 h1
        have hE : ∀ {R : Res → St → Prop}, (∀ q, R (.pan (qfault p 51)) (st.setBox b (qC s q tx o w1 g w2))) → PC 349 [.ptr b 0] st R := fun h => escape_c hl hpl hb (fun v n x => by rw [hesc] at x; cases x) (fun _ => h)
        refine aw_of tys_ok ?_
        repeat' ((conv => whnf); first | exact Yc0 | (refine Yc1 ?_; intros) | (refine Yc2 ?_ ?_ ?_; rotate_left) | (refine Yc3 ?_ ?_ <;> intro _) | refine on_box hb ?_ | refine hE (fun q => ?_) | with_reducible refine WF ?_)
        exact fin (h0 _ ⟨_, _, _, _, _, St.box_at _ _ _, hr.set hb0 _⟩) rfl
      · rw [hesc] at h1
        have hn := escF_le hesc
        rw [List.length_drop] at hn
        dsimp only at hn
        have h := h v n h1
        rw [if_neg hng] at h
        have hb2 := St.box_at st b (qC s (p + n) tx o w1 g w2)
        have hr2 := hr.set hb0 (qC s (p + n) tx o w1 g w2)
        have hE : ∀ {R : Res → St → Prop}, R (.ret (.int .i64 v)) (st.setBox b (qC s (p + n) tx o w1 g w2)) → PC 349 [.ptr b 0] st R := fun h => escape_c hl hpl hb (fun v' n' x => by rw [hesc] at x; cases x; exact h) (fun x => by rw [hesc] at x; cases x)
        generalize st.setBox b (qC s (p + n) tx o w1 g w2) = st2 at hb2 hr2 hE
        unfold outF at h
        by_cases hv1 : v = -1
        · rw [if_pos hv1] at h
          refine aw_of tys_ok ?_
          repeat' ((conv => whnf); first | exact Yc0 | (refine Yc1 ?_; intros) | (refine Yc2 ?_ ?_ ?_; rotate_left) | (refine Yc3 ?_ ?_ <;> intro _) | refine on_box hb ?_ | refine hE ?_ | with_reducible refine WF ?_)
          all_goals first
            | exact fin (h w1 w2 st2 g hr2 hb2 rfl) rfl
            | (exfalso; omega)
        · rw [if_neg hv1] at h
          refine aw_of tys_ok ?_
          repeat' ((conv => whnf); first | exact Yc0 | (refine Yc1 ?_; intros) | (refine Yc2 ?_ ?_ ?_; rotate_left) | (refine Yc3 ?_ ?_ <;> intro _) | refine on_box hb ?_ | refine on_box hb2 ?_ | refine hE ?_ | refine rows_int hr2 (by omega) (fun w1' st3 hr3 hb3 => ?_) | refine on_box ((congrFun hb3 b).trans hb2) ?_ | with_reducible refine WF ?_)
          exact fin (h w1' w2 _ g (hr3.set hb0 _) (St.box_at _ _ _) rfl) rfl
    · have h1 := oneF_rune (tx := tx) (drop_ne hpl) h92
      have hng : ¬ (tx = true ∧ 0 < gapN (s.drop p)) := fun x => by
        have := x.2
        unfold gapN at this; rw [if_neg (fun y => h92 y.1)] at this; omega
      rcases hd : decR (s.drop p) with ⟨c, m⟩
      have hrn := rune_le hpl hd.symm
      have hx : nextF s p = ((c : Int), (m : Int)) := by rw [nextF_in (by omega) (by omega), decF_hd hpl hd.symm]
      rw [hd] at h1
      refine AW_seq2 (aw_of tys_ok ?_)
      repeat' ((conv => whnf); first | exact Yc0 | (refine Yc1 ?_; intros) | (refine Yc2 ?_ ?_ ?_; rotate_left) | (refine Yc3 ?_ ?_ <;> intro _) | refine on_box hb ?_ | with_reducible refine WF ?_)
      refine AW_seq2 (aw_of tys_ok ?_)
      repeat' ((conv => whnf); first | exact Yc0 | (refine Yc1 ?_; intros) | (refine Yc2 ?_ ?_ ?_; rotate_left) | (refine Yc3 ?_ ?_ <;> intro _) | refine on_box hb ?_ | refine next_at (by omega) hx ?_ | with_reducible refine WF ?_)
      refine AW_seq2 (aw_of tys_ok ?_)
      repeat' ((conv => whnf); first | exact Yc0 | (refine Yc1 ?_; intros) | (refine Yc2 ?_ ?_ ?_; rotate_left) | (refine Yc3 ?_ ?_ <;> intro _) | refine class_c ?_ | with_reducible refine WF ?_)
      cases hbad : badRune (c, m) with
      | true =>
        rw [if_pos hbad] at h1
        have h0 := h0 50 h1 st hqb
        refine aw_of tys_ok ?_
        have hbi := bad_iff.1 hbad
        repeat' ((conv => whnf); first | exact Yc0 | (refine Yc1 ?_; intros) | (refine Yc2 ?_ ?_ ?_; rotate_left) | (refine Yc3 ?_ ?_ <;> intro _) | refine on_box hb ?_ | refine qfail_c ?_ | with_reducible refine WF ?_)
        all_goals first | exact fin h0 rfl | (exfalso; omega)
      | false =>
        rw [if_neg (by rw [hbad]; decide)] at h1
        have h := h (c : Int) m h1
        rw [if_neg hng] at h
        unfold outF at h
        rw [if_neg (by omega)] at h
        have hbi : ¬ (classF (c : Int) = 0 ∨ (classF (c : Int) = 1 ∧ ¬ c = 32) ∨ (c = 65533 ∧ m = 1)) := fun x => by rw [bad_iff.2 x] at hbad; cases hbad
        have hcm := classF_max (c := (c : Int)) (by omega)
        refine aw_of tys_ok ?_
        repeat' ((conv => whnf); first | exact Yc0 | (refine Yc1 ?_; intros) | (refine Yc2 ?_ ?_ ?_; rotate_left) | (refine Yc3 ?_ ?_ <;> intro _) | refine on_box hb ?_ | refine qfail_c ?_ | refine rows_int hr (by omega) (fun w1' st3 hr3 hb3 => ?_) | refine on_box ((congrFun hb3 b).trans hb) ?_ | refine on_box (St.box_at _ _ _) ?_ | with_reducible refine WF ?_)
        all_goals exact fin (h w1' w2 _ g ((hr3.set hb0 _).set hb0 _) ((St.box_at _ _ _).trans (congrArg some (qC_at (by omega)))) rfl) rfl
  · subst ht
    have h1 := oneF_gap hg
    have h := h _ _ h1 w1 w2' (st1.setBox b (qC s (p + gapN (s.drop p)) true o w1 (g ++ [(p, p + gapN (s.drop p))]) w2')) _ (hr1.set hb0 _) (St.box_at _ _ _) (if_pos ⟨rfl, hg⟩).symm
    repeat' ((conv => whnf); first | exact Yc0 | (refine Yc1 ?_; intros) | (refine Yc2 ?_ ?_ ?_; rotate_left) | (refine Yc3 ?_ ?_ <;> intro _) | with_reducible refine WF ?_)
    exact fin h rfl
end
end Go.Proofs.YtkidoddkbhchkaaGreatDoor
set_option maxHeartbeats 16000000
set_option linter.unusedVariables false
namespace Go.Aw
open Go
theorem bc_f {b : Bool} {p q : Prop} (h : b = false) (k : q) : bcase b p q := by subst h; exact Wj k
theorem bc_t {b : Bool} {p q : Prop} (h : b = true) (k : p) : bcase b p q := by subst h; exact Wi k
theorem textN_end {l : List UInt8} (h : hdF l = 34) : textN l = .inr 1 := by rw [textN, if_pos h]
theorem textN_bad {l : List UInt8} {e : Int} (h : hdF l ≠ 34) (k : oneF true l = .inl e) : textN l = .inl (0, e) := by
  rw [textN, if_neg h]
  split
  · rename_i e' he; rw [k] at he; injection he with he; rw [he]
  · rename_i p hp; rw [k] at hp; cases hp
theorem textN_go {l : List UInt8} {v : Int} {n : Nat} (h : hdF l ≠ 34) (k : oneF true l = .inr (v, n)) : textN l = match textN (l.drop n) with | .inl q => .inl (q.1 + n, q.2) | .inr m => .inr (m + n) := by
  rw [textN, if_neg h]
  split
  · rename_i e' he; rw [k] at he; cases he
  · rename_i p hp; rw [k] at hp; injection hp with hp; subst hp; rfl
theorem textO_end {l : List UInt8} (h : hdF l = 34) : textO l = [] := by rw [textO, if_pos h]
theorem textO_go {l : List UInt8} {v : Int} {n : Nat} (h : hdF l ≠ 34) (k : oneF true l = .inr (v, n)) : textO l = if v = -1 then textO (l.drop n) else v :: textO (l.drop n) := by
  rw [textO, if_neg h]
  split
  · rename_i e' he; rw [k] at he; cases he
  · rename_i p hp; rw [k] at hp; injection hp with hp; subst hp; rfl
theorem textP_end {q : Nat} {l : List UInt8} (h : hdF l = 34) : textP q l = [] := by rw [textP, if_pos h]
theorem textP_go {q : Nat} {l : List UInt8} {v : Int} {n : Nat} (h : hdF l ≠ 34) (k : oneF true l = .inr (v, n)) : textP q l = if 0 < gapN l then (q, q + n) :: textP (q + n) (l.drop n) else textP (q + n) (l.drop n) := by
  rw [textP, if_neg h]
  split
  · rename_i e' he; rw [k] at he; cases he
  · rename_i p hp; rw [k] at hp; injection hp with hp; subst hp; rfl
def absN (q : Nat) : Sum (Nat × Int) Nat → Sum (Nat × Int) Nat
  | .inl k => .inl (q + k.1, k.2)
  | .inr n => .inr (q + n)
theorem absN_go {q n : Nat} {l : List UInt8} {v : Int} (h : hdF l ≠ 34) (k : oneF true l = .inr (v, n)) : absN q (textN l) = absN (q + n) (textN (l.drop n)) := by
  rw [textN_go h k]
  cases textN (l.drop n) with
  | inl k => simp only [absN]; congr 2; omega
  | inr m => simp only [absN]; congr 1; omega
structure LS where
  q : Nat
  o : List Int
  g : List (Nat × Nat)
  w1 : Own
  w2 : Own
  m : St
end Go.Aw
namespace Go.Proofs.YtkidoddkbhchkaaGreatDoor
open Go Go.Aw
section
variable {st : St} {R : Res → St → Prop}
theorem literal_t {st0 : St} {b p : Nat} {s : List UInt8} {tx : Bool} {w1 w2 : Own} (hl : s.length ≤ 100000000) (hp : hdF (s.drop p) = 34) (hb0 : st0.box b = none) (hb : st.box b = some (qC s p tx [] w1 [] w2)) (hr : Rows2 st0 st w1 0 w2 0)
    (h0 : ∀ k e, textN (s.drop (p + 1)) = .inl (k, e) → ∀ st', QB st0 st' b s true → R (.pan (qfault (p + 1 + k : Nat) e)) st')
    (h : ∀ n, textN (s.drop (p + 1)) = .inr n → ∀ w1' w2' st', Rows2 st0 st' w1' (textO (s.drop (p + 1))).length w2' (2 * (textP (p + 1) (s.drop (p + 1))).length) → st'.box b = some (qC s (p + 1 + n) true (textO (s.drop (p + 1))) w1' (textP (p + 1) (s.drop (p + 1))) w2') → R (.ret (.int .i64 14)) st') :
    PC 282 [.ptr b 0] st R := by
  have hpl : p < s.length := hdF_lt_len (k := p) (by omega)
  obtain ⟨e, he⟩ : ∃ e, s[p]? = some e := ⟨s[p], List.getElem?_eq_getElem hpl⟩
  have he' : s[(p : Int).toNat]? = some e := he
  have hv := hdF_at he
  have hv34 : ((e.toNat : Nat) : Int) = 34 := by omega
  refine pcalls_of_aw tys_ok [] Tryz.func282 rfl (by decide) rfl ?_
  refine AW_seq2 (aw_of tys_ok ?_)
  repeat' ((conv => whnf); first | exact Yc0 | (refine Yc1 ?_; intros) | (refine Yc2 ?_ ?_ ?_; rotate_left) | (refine Yc3 ?_ ?_ <;> intro _) | with_reducible refine WF ?_)
  refine AW_seq2 (aw_of tys_ok ?_)
  repeat' ((conv => whnf); first | exact Yc0 | (refine Yc1 ?_; intros) | (refine Yc2 ?_ ?_ ?_; rotate_left) | (refine Yc3 ?_ ?_ <;> intro _) | refine on_box hb ?_ | with_reducible refine WF ?_)
  refine AW_seq2 (aw_of tys_ok ?_)
  repeat' ((conv => whnf); first | exact Yc0 | (refine Yc1 ?_; intros) | (refine Yc2 ?_ ?_ ?_; rotate_left) | (refine Yc3 ?_ ?_ <;> intro _) | refine on_box hb ?_ | with_reducible refine WF ?_)
  refine AW_seq2 (aw_of tys_ok ?_)
  repeat' ((conv => whnf); first | exact Yc0 | (refine Yc1 ?_; intros) | (refine Yc2 ?_ ?_ ?_; rotate_left) | (refine Yc3 ?_ ?_ <;> intro _) | refine on_box (St.box_at _ _ _) ?_ | with_reducible refine WF ?_)
  refine AW_st (st' := st.setBox b (qC s (p + 1) true [] w1 [] w2)) (St.set_set' _ _ _ _).symm ?_
  have hb1 := St.box_at st b (qC s (p + 1) true [] w1 [] w2)
  have hr1 := hr.set hb0 (qC s (p + 1) true [] w1 [] w2)
  generalize st.setBox b (qC s (p + 1) true [] w1 [] w2) = st1 at hb1 hr1
  refine aw_of tys_ok ?_
  repeat' ((conv => whnf); first | exact Yc0 | (refine Yc1 ?_; intros) | (refine Yc2 ?_ ?_ ?_; rotate_left) | (refine Yc3 ?_ ?_ <;> intro _) | refine on_box hb1 ?_ | with_reducible refine WF ?_)
  refine loop_g (α := LS) (fun _ => []) [0, 3] [] (fun x => x.m) (fun x => x.m.box b = some (qC s x.q true x.o x.w1 x.g x.w2) ∧ Rows2 st0 x.m x.w1 x.o.length x.w2 (2 * x.g.length) ∧ x.q ≤ s.length ∧ p + 1 ≤ x.q ∧ x.o.length ≤ x.q ∧ x.g.length ≤ x.q ∧
      absN (p + 1) (textN (s.drop (p + 1))) = absN x.q (textN (s.drop x.q)) ∧ textO (s.drop (p + 1)) = x.o ++ textO (s.drop x.q) ∧ textP (p + 1) (s.drop (p + 1)) = x.g ++ textP x.q (s.drop x.q))
    (fun x => s.length - x.q) ⟨p + 1, [], [], w1, w2, st1⟩ ⟨hb1, hr1, by simp only []; omega, Nat.le_refl _, by simp, by simp, rfl, rfl, rfl⟩ Yl (St.le_refl _) ?_
  rintro ⟨q, o, g, v1, v2, m⟩ ⟨j1, j2, j3, j4, j5, j6, j7, j8, j9⟩
  dsimp only at j1 j2 j3 j4 j5 j6 j7 j8 j9 ⊢
  have hx := byF_hd (s.drop q)
  have hbt : ∀ {R : Res → St → Prop}, R (.ret (.int .u8 (byF (s.drop q)))) m → PC 321 [.ptr b 0, .int .i64 0] m R := fun h => byteAt_c (k := 0) hl j3 (by decide) j1 h
  by_cases hq : hdF (s.drop q) = 34
  · have hql : q < s.length := hdF_lt_len (k := q) (by omega)
    rw [textN_end hq] at j7
    rw [textO_end hq, List.append_nil] at j8
    rw [textP_end hq, List.append_nil] at j9
    clear h0
    have hcd : (!byF (s.drop q) == ((e.toNat : Nat) : Int)) = false := by rw [show byF (s.drop q) = ((e.toNat : Nat) : Int) by omega]; simp
    repeat' ((conv => whnf); first | refine bc_f hcd ?_ | exact Yc0 | (refine Yc1 ?_; intros) | (refine Yc2 ?_ ?_ ?_; rotate_left) | (refine Yc3 ?_ ?_ <;> intro _) | refine hbt ?_ | refine on_box j1 ?_ | with_reducible refine WF ?_)
    rw [j8, j9] at h
    cases hT : textN (s.drop (p + 1)) with
    | inl k => rw [hT] at j7; cases j7
    | inr n =>
      rw [hT] at j7
      have e7 : p + 1 + n = q + 1 := by injection j7
      exact fin (h n hT v1 v2 _ (j2.set hb0 _) ((St.box_at _ _ _).trans (congrArg some (qC_at (by omega))))) rfl
  · have hne : ¬ byF (s.drop q) = ((e.toNat : Nat) : Int) := by omega
    have hcd : (!byF (s.drop q) == ((e.toNat : Nat) : Int)) = true := by rw [beq_eq_false_iff_ne.2 hne]; rfl
    repeat' ((conv => whnf); first | refine bc_t hcd ?_ | exact Yc0 | (refine Yc1 ?_; intros) | (refine Yc2 ?_ ?_ ?_; rotate_left) | (refine Yc3 ?_ ?_ <;> intro _) | refine hbt ?_ | refine one_c hl j3 hb0 j1 j2 (by omega) (by omega) (fun e' hE st' hQ => ?_) (fun v n hO u1 u2 st' g' hR hB hG => ?_) | with_reducible refine WF ?_)
    · rw [textN_bad hq hE] at j7
      cases hT : textN (s.drop (p + 1)) with
      | inl k =>
        rw [hT] at j7
        injection j7 with j7
        injection j7 with e7 e8
        have := h0 k.1 k.2 hT st' hQ
        rw [show p + 1 + k.1 = q by simpa using e7, e8] at this
        exact fin this rfl
      | inr n => rw [hT] at j7; cases j7
    · have hle := oneF_le hO
      rw [List.length_drop] at hle
      dsimp only at hle
      rw [absN_go hq hO, List.drop_drop] at j7
      rw [textO_go hq hO, List.drop_drop] at j8
      rw [textP_go hq hO, List.drop_drop] at j9
      have ho : (outF o v).length ≤ o.length + 1 := by unfold outF; split <;> simp
      have hg : g'.length ≤ g.length + 1 := by rw [hG]; split <;> simp
      conv => whnf
      refine ⟨⟨q + n, outF o v, g', u1, u2, st'⟩, ⟨hB, hR, by simp only []; omega, by simp only []; omega, by simp only []; omega, by simp only []; omega, j7, ?_, ?_⟩, by simp only []; omega, Yl, St.le_refl _⟩
      · rw [j8]
        unfold outF
        by_cases hv1 : v = -1
        · rw [if_pos hv1, if_pos hv1]
        · rw [if_neg hv1, if_neg hv1]; simp
      · rw [j9, hG]
        by_cases hg0 : 0 < gapN (s.drop q)
        · rw [if_pos hg0, if_pos ⟨rfl, hg0⟩]; simp
        · rw [if_neg hg0, if_neg (fun x => hg0 x.2)]
end
end Go.Proofs.YtkidoddkbhchkaaGreatDoor
set_option maxHeartbeats 16000000
set_option linter.unusedVariables false
namespace Go.Proofs.YtkidoddkbhchkaaGreatDoor
open Go Go.Aw
section
variable {st : St} {R : Res → St → Prop}
theorem literal_h {st0 : St} {b p : Nat} {s : List UInt8} {tx : Bool} {w1 w2 : Own} (hl : s.length ≤ 100000000) (hp : hdF (s.drop p) = 39) (hb0 : st0.box b = none) (hb : st.box b = some (qC s p tx [] w1 [] w2)) (hr : Rows2 st0 st w1 0 w2 0)
    (h0 : ∀ k e, charN (s.drop (p + 1)) = .inl (k, e) → ∀ st', QB st0 st' b s false → R (.pan (qfault (p + 1 + k : Nat) e)) st')
    (h : ∀ n, charN (s.drop (p + 1)) = .inr n → ∀ o' w1' w2' st', Rows2 st0 st' w1' (List.length o') w2' 0 → st'.box b = some (qC s (p + 1 + n) false o' w1' [] w2') → R (.ret (.int .i64 13)) st') :
    PC 282 [.ptr b 0] st R := by
  have hpl : p < s.length := hdF_lt_len (k := p) (by omega)
  obtain ⟨e, he⟩ : ∃ e, s[p]? = some e := ⟨s[p], List.getElem?_eq_getElem hpl⟩
  have he' : s[(p : Int).toNat]? = some e := he
  have hv := hdF_at he
  have hv34 : ((e.toNat : Nat) : Int) = 39 := by omega
  refine pcalls_of_aw tys_ok [] Tryz.func282 rfl (by decide) rfl ?_
  refine AW_seq2 (aw_of tys_ok ?_)
  repeat' ((conv => whnf); first | exact Yc0 | (refine Yc1 ?_; intros) | (refine Yc2 ?_ ?_ ?_; rotate_left) | (refine Yc3 ?_ ?_ <;> intro _) | with_reducible refine WF ?_)
  refine AW_seq2 (aw_of tys_ok ?_)
  repeat' ((conv => whnf); first | exact Yc0 | (refine Yc1 ?_; intros) | (refine Yc2 ?_ ?_ ?_; rotate_left) | (refine Yc3 ?_ ?_ <;> intro _) | refine on_box hb ?_ | with_reducible refine WF ?_)
  refine AW_seq2 (aw_of tys_ok ?_)
  repeat' ((conv => whnf); first | exact Yc0 | (refine Yc1 ?_; intros) | (refine Yc2 ?_ ?_ ?_; rotate_left) | (refine Yc3 ?_ ?_ <;> intro _) | refine on_box hb ?_ | with_reducible refine WF ?_)
  refine AW_seq2 (aw_of tys_ok ?_)
  repeat' ((conv => whnf); first | exact Yc0 | (refine Yc1 ?_; intros) | (refine Yc2 ?_ ?_ ?_; rotate_left) | (refine Yc3 ?_ ?_ <;> intro _) | refine on_box (St.box_at _ _ _) ?_ | with_reducible refine WF ?_)
  refine AW_st (st' := st.setBox b (qC s (p + 1) false [] w1 [] w2)) (St.set_set' _ _ _ _).symm ?_
  have hb1 := St.box_at st b (qC s (p + 1) false [] w1 [] w2)
  have hr1 := hr.set hb0 (qC s (p + 1) false [] w1 [] w2)
  generalize st.setBox b (qC s (p + 1) false [] w1 [] w2) = st1 at hb1 hr1
  have hx := byF_hd (s.drop (p + 1))
  have hbt : ∀ {R : Res → St → Prop}, R (.ret (.int .u8 (byF (s.drop (p + 1))))) st1 → PC 321 [.ptr b 0, .int .i64 0] st1 R := fun h => byteAt_c (k := 0) hl (by omega) (by decide) hb1 h
  have hqb : QB st0 st1 b s false := ⟨_, [], w1, [], w2, hb1, hr1⟩
  by_cases hq : hdF (s.drop (p + 1)) = 39
  · have h0 := h0 0 50 (if_pos hq) st1 hqb
    clear h
    refine aw_of tys_ok ?_
    repeat' ((conv => whnf); first | exact Yc0 | (refine Yc1 ?_; intros) | (refine Yc2 ?_ ?_ ?_; rotate_left) | (refine Yc3 ?_ ?_ <;> intro _) | refine on_box hb1 ?_ | refine hbt ?_ | refine qfail_c ?_ | with_reducible refine WF ?_)
    exact fin h0 rfl
  refine AW_seq2 (aw_of tys_ok ?_)
  repeat' ((conv => whnf); first | exact Yc0 | (refine Yc1 ?_; intros) | (refine Yc2 ?_ ?_ ?_; rotate_left) | (refine Yc3 ?_ ?_ <;> intro _) | refine on_box hb1 ?_ | with_reducible refine WF ?_)
  refine AW_seq2 (aw_of tys_ok ?_)
  repeat' ((conv => whnf); first | exact Yc0 | (refine Yc1 ?_; intros) | (refine Yc2 ?_ ?_ ?_; rotate_left) | (refine Yc3 ?_ ?_ <;> intro _) | refine hbt ?_ | with_reducible refine WF ?_)
  refine AW_seq2 (aw_of tys_ok ?_)
  repeat' ((conv => whnf); first | exact Yc0 | (refine Yc1 ?_; intros) | (refine Yc2 ?_ ?_ ?_; rotate_left) | (refine Yc3 ?_ ?_ <;> intro _) | refine one_c (st0 := st0) hl (by omega) hb0 hb1 hr1 (by simp) (by simp) (fun e' hE st' hQ => ?_) (fun v n hO u1 u2 st' g' hR hB hG => ?_) | with_reducible refine WF ?_)
  · exact fin (h0 0 e' (by unfold charN; rw [if_neg hq, hE]) st' hQ) rfl
  · have hle := oneF_le hO
    rw [List.length_drop] at hle
    dsimp only at hle
    rw [if_neg (fun x => by cases x.1)] at hG
    subst hG
    have hc : charN (s.drop (p + 1)) = if hdF (s.drop (p + 1 + n)) = 39 then .inr (n + 1) else .inl (n, 50) := by
      unfold charN
      rw [if_neg hq, hO]
      show (if hdF ((s.drop (p + 1)).drop n) = 39 then _ else _) = _
      rw [List.drop_drop]
    have hx2 := byF_hd (s.drop (p + 1 + n))
    have hbt2 : ∀ {R : Res → St → Prop}, R (.ret (.int .u8 (byF (s.drop (p + 1 + n))))) st' → PC 321 [.ptr b 0, .int .i64 0] st' R := fun h => byteAt_c (k := 0) hl (by omega) (by decide) hB h
    clear hbt hb1 hr1 hqb hb hr
    by_cases hq2 : hdF (s.drop (p + 1 + n)) = 39
    · rw [if_pos hq2] at hc
      have h := fun st' => h _ hc (outF [] v) u1 u2 st'
      refine aw_of tys_ok ?_
      repeat' ((conv => whnf); first | exact Yc0 | (refine Yc1 ?_; intros) | (refine Yc2 ?_ ?_ ?_; rotate_left) | (refine Yc3 ?_ ?_ <;> intro _) | refine hbt2 ?_ | refine on_box hB ?_ | with_reducible refine WF ?_)
      exact fin (h _ (hR.set hb0 _) ((St.box_at _ _ _).trans (congrArg some (qC_at (by omega))))) rfl
    · rw [if_neg hq2] at hc
      have h0 := h0 _ _ hc st' ⟨_, _, _, _, _, hB, hR⟩
      refine aw_of tys_ok ?_
      repeat' ((conv => whnf); first | exact Yc0 | (refine Yc1 ?_; intros) | (refine Yc2 ?_ ?_ ?_; rotate_left) | (refine Yc3 ?_ ?_ <;> intro _) | refine hbt2 ?_ | refine on_box hB ?_ | refine qfail_c ?_ | with_reducible refine WF ?_)
      exact fin h0 rfl
end
end Go.Proofs.YtkidoddkbhchkaaGreatDoor
set_option maxHeartbeats 16000000
set_option linter.unusedVariables false
set_option linter.unusedSimpArgs false
namespace Go.Aw
open Go
section
variable {D : List Deferred} {P : Program} {T : List (Nat × Ty)} {I0 I : Mem} {st0 st : St} {w0 w : World} {β : Nat → Option Nat} {env : Env} {a : Act}
theorem pcalls_defer3 (hP : POk P T) {f : FuncId} {fn : Func} (gl : List Nat) {args : List V} {R : Res → St → Prop} (hf : P.funcs[f]? = some fn) {c0 c1 c2 rest : Code} {rid : Nat} {mk df : Oper}
    (hb : fn.body = some (.seq c0 (.seq c1 (.seq c2 (.seq (.region rid #[mk, df] false) rest))))) (hn : (fn.name == "runtime.NumGoroutine") = false) {g : FuncId} {cap : Array Operand} {tf : Nat}
    (h1 : mk.op = .makeFunc (.func g) #[] cap) (h2 : mk.dst = some tf) (h3 : mk.guard = none) (h4 : df.op = .defer { callee := .value (.tmp tf), args := #[], argTypes := #[] }) (h5 : df.guard = none) (h6 : df.dst = none)
    (hg : Plain P g) (hle : Nat.ble args.length fn.ntmps = true)
    (h : AW P c0 (thenQ (fun env st => AW P c1 (thenQ (fun env st => AW P c2 (fun ae env st => match ae with
      | .normal => evs env cap.toList fun vs => vs.all V.isPtr = true ∧ env.go (some tf) (.func g [] vs) fun env => AW P rest (leaveQ P T g vs fn R) env st
      | .ret => retQ T fn R env st
      | _ => False) env st) noQ) env st) noQ) { tmps := args0 0 args, boxes := [], nxt := 0, sz := fn.ntmps, gl } st) : PCalls P f args st R := by
  refine ⟨?_, fn, hf, by rw [hb]; rfl, hn⟩
  intro I w cargs hs hargs
  refine calls_of_wp_defers hf hb ?_
  refine wp_seq (wp_mono (h [] I st w I _ _ w (start_rel gl hs hargs hle)) ?_)
  rintro e a w1 ⟨I1, β1, env1, st1, ae, r1, x1, k1⟩
  cases ae with
  | exit _ | goto _ | ret | pan _ => exact k1.elim
  | normal =>
  cases e with
  | exit _ | goto _ | ret | panic _ | outgrown => exact x1.elim
  | normal =>
  refine wp_seq (wp_mono (k1 [] I st w I1 _ _ w1 r1) ?_)
  rintro e a w2 ⟨I2, β2, env2, st2, ae, r2, x2, k2⟩
  cases ae with
  | exit _ | goto _ | ret | pan _ => exact k2.elim
  | normal =>
  cases e with
  | exit _ | goto _ | ret | panic _ | outgrown => exact x2.elim
  | normal =>
  refine wp_seq (wp_mono (k2 [] I st w I2 _ _ w2 r2) ?_)
  clear k2 r2 x2
  rintro e a w2 ⟨I2, β2, env2, st2, ae, r2, x2, k2⟩
  cases ae with
  | exit _ | goto _ | pan _ => exact k2.elim
  | ret =>
    cases e with
    | normal | exit _ | goto _ | panic _ | outgrown => exact x2.elim
    | ret =>
      obtain ⟨v, c, g1, g2, g3⟩ := results_sound (P := P) hP.t r2 k2
      show Leaves P fn a.tmps _ a.defers _ w2
      rw [r2.f.defers]
      exact ⟨c, g1, I2, st2, .ret v, r2.fr, r2.s, g2, g3⟩
  | normal =>
  cases e with
  | exit _ | goto _ | ret | panic _ | outgrown => exact x2.elim
  | normal =>
  refine wp_seq (wp_region_list ?_)
  show wpList P #[mk, df] _ [mk, df] a w2
  unfold wpList
  rw [if_pos (by simp [Region.wanted, h3])]
  left
  obtain ⟨vs, hv, kp, kg⟩ := evs_sound r2.f (show evs env2 cap.toList _ from k2)
  have hcv : Rep I2 (.func g [] vs) (.func (.func g) #[] (cap.map a.eval)) := by
    simp only [Rep]
    exact ⟨[], cap.toList.map a.eval, by congr 1; apply Array.ext'; simp, by simp only [RepL], hv⟩
  obtain ⟨env3, r3, k3⟩ := env_go_sound r2 (RepT.of hcv) kg
  have htf : tf < a.tmps.size := by
    rw [r2.f.size]
    exact (go_out kg).1 tf rfl
  unfold Oper.wp
  rw [show (execOp a.eval mk).run P w2 = .ok (.value (.func (.func g) #[] (cap.map a.eval))) w2 by simp only [execOp, h1, Array.map_empty]; rfl]
  show wpList P #[mk, df] _ [df] (a.put mk.dst _) w2
  rw [h2]
  unfold wpList
  rw [if_pos (by simp [Region.wanted, h5])]
  left
  have hev : (a.put (some tf) (.func (.func g) #[] (cap.map a.eval))).eval (.tmp tf) = .func (.func g) #[] (cap.map a.eval) := by
    simp [Act.put, Act.eval, htf]
  unfold Oper.wp
  rw [show (execOp (a.put (some tf) (.func (.func g) #[] (cap.map a.eval))).eval df).run P w2 = .ok (.defer { target := .fn (.func g) (cap.map a.eval), args := #[] }) w2 by
    simp only [execOp, h4, resolve, hev, Deferred.ofValue, Array.map_empty, Array.empty_append]; rfl]
  rw [Oper.upon_defer]
  rw [h6]
  unfold wpList
  show rest.wp P _ _ _
  have r4 := r3.defer { target := .fn (.func g) (cap.map a.eval), args := #[] }
  refine wp_mono (k3 _ I st w I2 _ _ w2 r4) ?_
  rintro e a5 w5 ⟨I5, β5, env5, st5, ae, r5, x5, k5⟩
  have hd := r5.f.defers
  obtain ⟨fn2, p1, p2, p3⟩ := hg
  have hinv : (invoke (.fn (.func g) (cap.map a.eval)) #[]).run P w5 = .ok (.enter g (cap.toList.map a.eval).toArray) w5 := by
    have hb : fn2.body.isNone = false := by cases hb : fn2.body <;> simp_all
    simp only [invoke, callFunc, Sem.run_bind, Sem.run_pure, Result.andThen_ok, run_program, p1]
    rw [p3]
    simp [hb]
    apply Array.ext'; simp
  have last : ∀ {u : FrameMode} {x : Option V}, u ≠ .run → (match x with | none => u = .returning | some v => ∃ c, u = .panicking [{ v := c, recovered := false }] ∧ Rep I5 v c) → DCalls P g vs x st5 (fun st' => retQ T fn R env5 st') →
      Leaves P fn a5.tmps (fun e w' => ∃ I' st' r, Fr I st w I' st' w' ∧ RelS I' st' w' ∧ resM I' e r ∧ R r st') a5.defers u w5 := by
    intro u x hu hx k
    rw [hd]
    refine leaves_cons hu hinv ((k I5 w5 _ u r5.s (RepL.ptrs hv kp) hx).mono ?_)
    rintro e u' w6 ⟨⟨v, rfl⟩, hset, I6, st6, q1, q2, q3⟩
    show Leaves P fn a5.tmps _ [] (settle u') w6
    rw [hset]
    have r6 := r5.called q1 q2
    obtain ⟨v, c, g1, g2, g3⟩ := results_sound (P := P) hP.t r6 q3
    exact ⟨c, g1, I6, st6, .ret v, r6.fr, r6.s, g2, g3⟩
  cases ae with
  | normal =>
    cases e with
    | normal => exact last (x := none) (by simp) rfl k5
    | _ => exact x5.elim
  | ret =>
    cases e with
    | ret => exact last (x := none) (by simp) rfl k5
    | _ => exact x5.elim
  | pan v =>
    cases e with
    | panic chain =>
      obtain ⟨c, rfl, hc⟩ := x5
      exact last (x := some v) (by simp) ⟨c, rfl, hc⟩ k5
    | _ => exact x5.elim
  | exit _ => exact k5.elim
  | goto _ => exact k5.elim
end
end Go.Aw
set_option maxHeartbeats 16000000
set_option linter.unusedVariables false
set_option linter.unusedSimpArgs false
namespace Go.Aw
open Go
section
variable {D : List Deferred} {P : Program} {T : List (Nat × Ty)} {C : FuncId → List V → St → (Res → St → Prop) → Prop} {I0 I : Mem} {st0 st : St} {w0 w : World} {β : Nat → Option Nat} {env : Env} {a : Act}
def stepX {X : Type} (T : List (Nat × Ty)) (C : FuncId → List V → St → (Res → St → Prop) → Prop) (all : List Oper) (Q : AExit → Env → St → Prop) (E : X → List Bool → Env) (S : X → List Bool → St) (J : X → List Bool → Prop) (x : X) (p : List Bool × Nat) : Prop :=
  match all[p.2]? with
  | some o => guardWp all o (E x p.1) (opWp T C o (E x p.1) (S x p.1) (fun v env st => env.go o.dst v fun env => ∃ y, J y (p.1.set p.2 true) ∧ (E y (p.1.set p.2 true)).leC env ∧ St.le (S y (p.1.set p.2 true)) st) Q)
      ((E x p.1).go o.dst (.tup []) fun env => ∃ y, J y (p.1.set p.2 true) ∧ (E y (p.1.set p.2 true)).leC env ∧ St.le (S y (p.1.set p.2 true)) (S x p.1))
  | none => True
theorem any_soundX {X : Type} (hT : TOk P T) (hC : ∀ f args st R, C f args st R → ACalls P f args st R ∧ Plain P f) {all : List Oper} {Q : AExit → Env → St → Prop} {E : X → List Bool → Env} {S : X → List Bool → St} {J : X → List Bool → Prop} {PL : List (List Bool × Nat)}
    (hc : closedP all PL = true) (step : ∀ p ∈ PL, ∀ x, J x p.1 → stepX T C all Q E S J x p) (fin : ∀ x, J x (List.replicate all.length true) → Q .normal (E x (List.replicate all.length true)) (S x (List.replicate all.length true))) :
    ∀ (fuel : Nat) (bs : List Bool) (listed : Array Bool) (I : Mem) (β : Nat → Option Nat) (a : Act) (w : World), bs.length = all.length → listed.toList = bs → bs.count false ≤ fuel →
      (∀ j, j < all.length → readyL all bs j = true → (bs, j) ∈ PL) → (bs = List.replicate all.length true ∨ ∃ j, j < all.length ∧ readyL all bs j = true) →
      ∀ x, J x bs → Rel D I0 st0 w0 I β (E x bs) (S x bs) a w → wpAny P .any all.toArray (liftQ D I0 st0 w0 Q) fuel listed a w := by
  have full : ∀ {bs : List Bool}, bs.length = all.length → bs.count false = 0 → bs = List.replicate all.length true := fun {bs} hb h0 => by
    rw [List.eq_replicate_iff]
    refine ⟨hb, fun b hb => ?_⟩
    cases b with
    | true => rfl
    | false => have := List.count_pos_iff.2 hb; omega
  have noready : ∀ {j : Nat}, readyL all (List.replicate all.length true) j = true → j < all.length → False := fun {j} h hj => by
    unfold readyL at h
    simp only [Bool.and_eq_true, Bool.not_eq_true'] at h
    have := h.1
    rw [List.getD_eq_getElem?_getD, List.getElem?_replicate, if_pos hj] at this
    cases this
  simp only [closedP, Bool.and_eq_true, List.all_eq_true] at hc
  intro fuel
  induction fuel with
  | zero =>
    intro bs listed I β a w hb hl hf hp hr x hj h
    have := full hb (by omega)
    subst this
    refine ⟨?_, ⟨I, β, _, _, .normal, h, trivial, fin x hj⟩⟩
    rw [List.eq_nil_iff_forall_not_mem]
    intro j hj
    obtain ⟨h1, h2⟩ := (ready_iff hl hb).1 hj
    exact noready h2 h1
  | succ fuel ih =>
    intro bs listed I β a w hb hl hf hp hr x hj h
    refine ⟨fun h0 => ?_, fun i hi => ?_⟩
    · rcases hr with rfl | ⟨j, h1, h2⟩
      · exact ⟨I, β, _, _, .normal, h, trivial, fin x hj⟩
      · have := (ready_iff hl hb).2 ⟨h1, h2⟩
        rw [h0] at this; cases this
    · obtain ⟨h1, h2⟩ := (ready_iff hl hb).1 hi
      have hm := hp i h1 h2
      have hs := step _ hm x hj
      unfold stepX at hs
      have ho : all[i]? = some all[i] := List.getElem?_eq_getElem h1
      simp only [ho] at hs
      obtain ⟨⟨c1, c2⟩, c3⟩ := hc.2 _ hm
      refine wpOp_sound hT hC (Q := Q) ho (fun {I β env st a w} h k => ?_) h hs (K := fun env st => ∃ y, J y (bs.set i true) ∧ (E y (bs.set i true)).leC env ∧ St.le (S y (bs.set i true)) st)
      · obtain ⟨y, kj, k⟩ := k
        have hbi : i < bs.length := by omega
        refine ih (bs.set i true) _ I _ a w (by simpa using hb) (by simp [hl]) ?_ (fun j hj hr => ?_) ?_ y kj ((h.stLe k.2).envLe (Env.le_of k.1))
        · have := List.count_set (a := true) (i := i) (l := bs) (b := false) hbi
          unfold readyL at h2
          simp only [Bool.and_eq_true, Bool.not_eq_true'] at h2
          have hbi' := h2.1
          rw [List.getD_eq_getElem?_getD, List.getElem?_eq_getElem hbi] at hbi'
          simp only [Option.getD_some] at hbi'
          rw [hbi'] at this
          have hpos : 0 < bs.count false := List.count_pos_iff.2 (by rw [← hbi']; exact List.getElem_mem hbi)
          simp only [beq_self_eq_true, if_true, show (true == false) = false from rfl, Bool.false_eq_true, if_false] at this
          omega
        · have := c2 j (List.mem_range.2 hj)
          rw [hr] at this
          simpa using this
        · simp only [Bool.or_eq_true, beq_iff_eq, List.any_eq_true] at c3
          rcases c3 with c3 | ⟨j, hj, hr⟩
          · exact .inl c3
          · exact .inr ⟨j, List.mem_range.1 hj, hr⟩
theorem aw_anyX {X : Type} (hP : POk P T) (hC : ∀ f args st R, C f args st R → ACalls P f args st R ∧ Plain P f) {id : Nat} {ops : Array Oper} {Q : AExit → Env → St → Prop} (E : X → List Bool → Env) (S : X → List Bool → St) (J : X → List Bool → Prop) (x0 : X) (PL : List (List Bool × Nat))
    (hc : closedP ops.toList PL = true) (j0 : J x0 (List.replicate ops.toList.length false)) (h0 : (E x0 (List.replicate ops.toList.length false)).leC env) (s0 : St.le (S x0 (List.replicate ops.toList.length false)) st) (step : ∀ p ∈ PL, ∀ x, J x p.1 → stepX T C ops.toList Q E S J x p)
    (fin : ∀ x, J x (List.replicate ops.toList.length true) → Q .normal (E x (List.replicate ops.toList.length true)) (S x (List.replicate ops.toList.length true))) : AW P (.region id ops true) Q env st := fun D I0 st0 w0 I β a w h =>
  wp_region_any hP.m (by
    have hc' := hc
    simp only [closedP, Bool.and_eq_true, List.all_eq_true] at hc'
    have := any_soundX (D := D) hP.t hC hc step fin ops.size (List.replicate ops.toList.length false) (Array.replicate ops.size false) I _ a _ (by simp) (by simp) (by simp) (fun j hj hr => ?_) ?_ x0 j0 (((h.grew (Grew.drew w)).stLe s0).envLe (Env.le_of h0))
    · simpa using this
    · have := hc'.1.1 j (List.mem_range.2 hj)
      rw [hr] at this
      simpa using this
    · have := hc'.1.2
      simp only [Bool.or_eq_true, beq_iff_eq, List.any_eq_true] at this
      rcases this with h | ⟨j, hj, hr⟩
      · exact .inl h
      · exact .inr ⟨j, List.mem_range.1 hj, hr⟩)
end
end Go.Aw
set_option maxHeartbeats 16000000
set_option linter.unusedVariables false
namespace Go.Aw
open Go
theorem box_off {st : St} {b c : Nat} {cs : List V} (h : b ≠ c) : (st.setBox b cs).box c = st.box c := by simp [St.setBox, Ne.symm h]
theorem fresh_off {st : St} {b c : Nat} {cs : List V} (h : (st.setBox b cs).fresh c) : b ≠ c ∧ st.fresh c := by
  by_cases e : b = c
  · subst e
    have := h.1
    rw [St.box_at] at this
    cases this
  · refine ⟨e, ?_, h.2⟩
    have := h.1
    rw [box_off e] at this
    exact this
theorem box_new {st : St} {K : Nat → Prop} (h : ∀ b, st.fresh b → K b) : ∀ b, st.fresh b → K b := h
end Go.Aw
namespace Go.Proofs.YtkidoddkbhchkaaGreatDoor
open Go Go.Aw
section
variable {st : St} {R : Res → St → Prop}
attribute [local irreducible] Go.Aw.appendTo
theorem qclose_none {b1 b2 b3 : Nat} {RS : St → Prop} (h : RS st) : DCalls Tryz.prog 281 [.ptr b1 0, .ptr b2 0, .ptr b3 0] none st RS := by
  refine dcalls_of_body tys_ok [] Tryz.func281 rfl rfl rfl rfl rfl rfl rfl rfl (fun env0 he => ?_)
  subst he
  conv => whnf
  refine AW_seq2 (aw_of tys_ok ?_)
  repeat' ((conv => whnf); first | exact Yc0 | (refine Yc1 ?_; intros) | (refine Yc2 ?_ ?_ ?_; rotate_left) | (refine Yc3 ?_ ?_ <;> intro _) | with_reducible refine WF ?_)
  all_goals exact h
theorem qclose_some {b1 b2 b3 b4 p q : Nat} {s : List UInt8} {tx : Bool} {o : List Int} {w1 w2 : Own} {g : List (Nat × Nat)} {e k0 e0 : Int} {RS : St → Prop} (h1 : st.box b1 = some [.ptr b4 0]) (h4 : st.box b4 = some (qC s q tx o w1 g w2)) (h2 : st.box b2 = some [.int .i64 k0]) (h3 : st.box b3 = some [.int .i64 e0])
    (d2 : b4 ≠ b2) (d3 : b4 ≠ b3) (d5 : b2 ≠ b3) (h : RS (((st.setBox b4 (qC s p tx o w1 g w2)).setBox b2 [.int .i64 0]).setBox b3 [.int .i64 e])) : DCalls Tryz.prog 281 [.ptr b1 0, .ptr b2 0, .ptr b3 0] (some (qfault p e)) st RS := by
  refine dcalls_of_body tys_ok [] Tryz.func281 rfl rfl rfl rfl rfl rfl rfl rfl (fun env0 he => ?_)
  subst he
  conv => whnf
  refine AW_seq2 (aw_of tys_ok ?_)
  repeat' ((conv => whnf); first | exact Yc0 | (refine Yc1 ?_; intros) | (refine Yc2 ?_ ?_ ?_; rotate_left) | (refine Yc3 ?_ ?_ <;> intro _) | with_reducible refine WF ?_)
  refine AW_seq2 (aw_of tys_ok ?_)
  repeat' ((conv => whnf); first | exact Yc0 | (refine Yc1 ?_; intros) | (refine Yc2 ?_ ?_ ?_; rotate_left) | (refine Yc3 ?_ ?_ <;> intro _) | with_reducible refine WF ?_)
  refine AW_seq2 (aw_of tys_ok ?_)
  repeat' ((conv => whnf); first | exact Yc0 | (refine Yc1 ?_; intros) | (refine Yc2 ?_ ?_ ?_; rotate_left) | (refine Yc3 ?_ ?_ <;> intro _) | with_reducible refine WF ?_)
  have k2 : ∀ cs, (st.setBox b4 cs).box b2 = some [.int .i64 k0] := fun cs => (box_off d2).trans h2
  have k3 : ∀ cs cs', ((st.setBox b4 cs).setBox b2 cs').box b3 = some [.int .i64 e0] := fun cs cs' => (box_off d5).trans ((box_off d3).trans h3)
  refine aw_of tys_ok ?_
  repeat' ((conv => whnf); first | refine draw_mix [(0, true), (1, true), (2, true), (3, true), (4, true), (5, true), (6, true), (7, false), (8, false), (9, false)] [] (by decide +kernel) ?_ | exact Yc0 | (refine Yc1 ?_; intros) | (refine Yc2 ?_ ?_ ?_; rotate_left) | (refine Yc3 ?_ ?_ <;> intro _) | refine on_box h1 ?_ | refine on_box h4 ?_ | refine on_box (k2 _) ?_ | refine on_box (k3 _ _) ?_ | with_reducible refine WF ?_)
  all_goals exact h
theorem lit_c {st0 : St} {b p : Nat} {s : List UInt8} {tx : Bool} {w1 w2 : Own} (hl : s.length ≤ 100000000) (hq : hdF (s.drop p) = 34 ∨ hdF (s.drop p) = 39) (hb0 : st0.box b = none) (hb : st.box b = some (qC s p tx [] w1 [] w2)) (hr : Rows2 st0 st w1 0 w2 0)
    (h0 : ∀ (q : Nat) e tx', quoF s p = (0, (q : Int), e) → ∀ st', QB st0 st' b s tx' → R (.pan (qfault q e)) st')
    (h : ∀ k (q : Nat), quoF s p = (k, (q : Int), 0) → ∀ tx' o u1 g u2 st', Rows2 st0 st' u1 (List.length o) u2 (2 * List.length g) → st'.box b = some (qC s q tx' o u1 g u2) → R (.ret (.int .i64 k)) st') : PC 282 [.ptr b 0] st R := by
  rcases hq with hq | hq
  · refine literal_t hl hq hb0 hb hr (fun k e hT st' hQ => h0 _ e true ?_ st' hQ) (fun n hT u1 u2 st' hR hB => h 14 _ ?_ _ _ _ _ _ st' hR hB)
    · unfold quoF; rw [if_pos hq, hT]
    · unfold quoF; rw [if_pos hq, hT]
  · refine literal_h hl hq hb0 hb hr (fun k e hT st' hQ => h0 _ e false ?_ st' hQ) (fun n hT o' u1 u2 st' hR hB => h 13 _ ?_ _ _ _ _ _ st' hR hB)
    · unfold quoF; rw [if_neg (by omega), if_pos hq, hT]
    · unfold quoF; rw [if_neg (by omega), if_pos hq, hT]
noncomputable def readOps : List Oper := match Tryz.f229.body with | some (.seq _ (.seq _ (.seq _ (.seq _ (.seq (.region _ ops _) _))))) => ops.toList | _ => []
noncomputable def readE (b1 b2 b3 b4 : Nat) (K : Int) (bs : List Bool) : Env :=
  { tmps := putT [(4, .ptr b1 0), (5, .ptr b2 0), (6, .ptr b3 0)] readOps [.ptr b4 0, .ptr b4 0, .int .i64 K, .junk, .junk, .junk] bs, boxes := [], nxt := 1, sz := 39, gl := [4, 5, 6, 10] }
def readS (b1 b2 b3 b4 : Nat) (K : Int) (m : St) (bs : List Bool) : St :=
  match bs[3]?, bs[4]?, bs[5]? with
  | _, _, some true => ((m.setBox b1 [.ptr b4 0]).setBox b2 [.int .i64 K]).setBox b3 [.int .i64 0]
  | _, some true, _ => (m.setBox b1 [.ptr b4 0]).setBox b2 [.int .i64 K]
  | some true, _, _ => m.setBox b1 [.ptr b4 0]
  | _, _, _ => m
def readJ (s0 A : St) (b4 : Nat) (s : List UInt8) (Q E0 : Int) (x : LS × Bool) (bs : List Bool) : Prop := match bs[2]? with
  | some true => Rows2 s0 x.1.m x.1.w1 x.1.o.length x.1.w2 (2 * x.1.g.length) ∧ x.1.m.box b4 = some (qC s x.1.q x.2 x.1.o x.1.w1 x.1.g x.1.w2) ∧ (x.1.q : Int) = Q ∧ E0 = 0
  | _ => x.1.m = A
def readPL : List (List Bool × Nat) := [([false, false, false, false, false, false], 0), ([false, false, false, false, false, false], 1), ([true, false, false, false, false, false], 1), ([false, true, false, false, false, false], 0), ([false, true, false, false, false, false], 2), ([true, true, false, false, false, false], 2), ([false, true, true, false, false, false], 0), ([true, true, true, false, false, false], 3), ([true, true, true, true, false, false], 4), ([true, true, true, true, true, false], 5)]
noncomputable def readRest : Code := match Tryz.f229.body with | some (.seq _ (.seq _ (.seq _ (.seq _ r)))) => r | _ => .skip
theorem read_rest {s0 : St} {s : List UInt8} {pos b1 b2 b3 b4 : Nat} (hl : s.length ≤ 100000000) (hq : hdF (s.drop pos) = 34 ∨ hdF (s.drop pos) = 39) (hs0 : s0.box b4 = none) (hsl : st.le s0) (n12 : b1 ≠ b2) (n13 : b1 ≠ b3) (n14 : b1 ≠ b4) (n23 : b2 ≠ b3) (n24 : b2 ≠ b4) (n34 : b3 ≠ b4) (k1 : st.box b1 = none) (k2 : st.box b2 = none) (k3 : st.box b3 = none) (k4 : st.box b4 = none)
    (m1 : s0.box b1 = some [.ptr b4 0]) (m2 : s0.box b2 = some [.int .i64 0]) (m3 : s0.box b3 = some [.int .i64 0])
    (h : ∀ b4 (q : Nat) tx o w1 g w2 st', st.le st' → st'.box b4 = some (qC s q tx o w1 g w2) → (q : Int) = (quoF s pos).2.1 → R (.ret (.tup [.ptr b4 0, .int .i64 (quoF s pos).1, .int .i64 (quoF s pos).2.2])) st') :
    AW Tryz.prog readRest (leaveQ Tryz.prog tys 281 [.ptr b1 0, .ptr b2 0, .ptr b3 0] Tryz.f229 (Go.Aw.Ends R)) (readE b1 b2 b3 b4 (quoF s pos).1 (List.replicate 6 false)) (s0.setBox b4 (qC s pos false [] .full [] .full)) := by
  have a1 : ∀ C, (s0.setBox b4 C).box b1 = some [.ptr b4 0] := fun C => (box_off n14.symm).trans m1
  have hr0 : Rows2 s0 (s0.setBox b4 (qC s pos false [] .full [] .full)) .full 0 .full 0 := ⟨trivial, trivial, trivial, trivial, trivial, St.le_setBox (St.le_refl _) hs0 _⟩
  refine AW_seq2 (aw_anyX tys_ok (pcalls_sound _) (fun _ bs => readE b1 b2 b3 b4 (quoF s pos).1 bs) (fun x bs => readS b1 b2 b3 b4 (quoF s pos).1 x.1.m bs) (fun x bs => readJ s0 (s0.setBox b4 (qC s pos false [] .full [] .full)) b4 s (quoF s pos).2.1 (quoF s pos).2.2 x bs) (⟨pos, [], [], .full, .full, s0.setBox b4 (qC s pos false [] .full [] .full)⟩, false) readPL (by decide +kernel) rfl Yl (St.le_refl _) ?_ ?_)
  · unfold readPL
    repeat' (first | refine List.forall_mem_cons.2 ⟨?_, ?_⟩ | exact List.forall_mem_nil _)
    all_goals rintro ⟨⟨q, o, g, w1, w2, m⟩, tx⟩ hj
    all_goals dsimp only [readJ, List.getElem?_cons_zero, List.getElem?_cons_succ] at hj
    all_goals try subst hj
    · skip
      repeat' ((conv => whnf); first | exact Yc0 | (refine Yc1 ?_; intros) | (refine Yc2 ?_ ?_ ?_; rotate_left) | (refine Yc3 ?_ ?_ <;> intro _) | refine on_box (a1 _) ?_ | with_reducible refine WF ?_)
      all_goals conv => whnf
      all_goals exact ⟨(⟨q, o, g, w1, w2, _⟩, tx), rfl, Yl, St.le_refl _⟩
    · skip
      repeat' ((conv => whnf); first | exact Yc0 | (refine Yc1 ?_; intros) | (refine Yc2 ?_ ?_ ?_; rotate_left) | (refine Yc3 ?_ ?_ <;> intro _) | refine on_box (a1 _) ?_ | with_reducible refine WF ?_)
      all_goals conv => whnf
      all_goals exact ⟨(⟨q, o, g, w1, w2, _⟩, tx), rfl, Yl, St.le_refl _⟩
    · skip
      repeat' ((conv => whnf); first | exact Yc0 | (refine Yc1 ?_; intros) | (refine Yc2 ?_ ?_ ?_; rotate_left) | (refine Yc3 ?_ ?_ <;> intro _) | refine on_box (a1 _) ?_ | with_reducible refine WF ?_)
      all_goals conv => whnf
      all_goals exact ⟨(⟨q, o, g, w1, w2, _⟩, tx), rfl, Yl, St.le_refl _⟩
    · skip
      repeat' ((conv => whnf); first | exact Yc0 | (refine Yc1 ?_; intros) | (refine Yc2 ?_ ?_ ?_; rotate_left) | (refine Yc3 ?_ ?_ <;> intro _) | refine on_box (a1 _) ?_ | with_reducible refine WF ?_)
      all_goals conv => whnf
      all_goals exact ⟨(⟨q, o, g, w1, w2, _⟩, tx), rfl, Yl, St.le_refl _⟩
    · skip
      repeat' ((conv => whnf); first | exact Yc0 | (refine Yc1 ?_; intros) | (refine Yc2 ?_ ?_ ?_; rotate_left) | (refine Yc3 ?_ ?_ <;> intro _) | refine lit_c hl hq hs0 (St.box_at ..) hr0 (fun q' e' tx' hz st' hQ => ?_) (fun k q' hz tx' o' u1 g' u2 st' hR hB => ?_) | refine on_box (a1 _) ?_ | with_reducible refine WF ?_)
      · obtain ⟨q1, o1, u1, g1, u2, hB, hR⟩ := hQ
        conv => whnf
        refine qclose_some (hR.le.1 _ _ m1) hB (hR.le.1 _ _ m2) (hR.le.1 _ _ m3) n24.symm n34.symm n23 ?_
        have c1 : (((st'.setBox b4 (qC s q' tx' o1 u1 g1 u2)).setBox b2 [.int .i64 0]).setBox b3 [.int .i64 e']).box b1 = some [.ptr b4 0] := (box_off n13.symm).trans ((box_off n12.symm).trans ((box_off n14.symm).trans (hR.le.1 _ _ m1)))
        have c2 : (((st'.setBox b4 (qC s q' tx' o1 u1 g1 u2)).setBox b2 [.int .i64 0]).setBox b3 [.int .i64 e']).box b2 = some [.int .i64 0] := (box_off n23.symm).trans (St.box_at _ _ _)
        have c3 : (((st'.setBox b4 (qC s q' tx' o1 u1 g1 u2)).setBox b2 [.int .i64 0]).setBox b3 [.int .i64 e']).box b3 = some [.int .i64 e'] := St.box_at _ _ _
        have c4 : (((st'.setBox b4 (qC s q' tx' o1 u1 g1 u2)).setBox b2 [.int .i64 0]).setBox b3 [.int .i64 e']).box b4 = some (qC s q' tx' o1 u1 g1 u2) := (box_off n34).trans ((box_off n24).trans (St.box_at _ _ _))
        have c5 : (quoF s pos).1 = 0 := by rw [hz]
        have c6 : (quoF s pos).2.1 = q' := by rw [hz]
        have c7 : (quoF s pos).2.2 = e' := by rw [hz]
        have gg := fun le => h b4 q' tx' o1 u1 g1 u2 _ le c4 c6.symm
        rw [c5, c7] at gg
        clear h hz c4 c5 c6 c7
        repeat' ((conv => whnf); first | exact Yc0 | (refine Yc1 ?_; intros) | (refine Yc2 ?_ ?_ ?_; rotate_left) | (refine Yc3 ?_ ?_ <;> intro _) | refine on_box c1 ?_ | refine on_box c2 ?_ | refine on_box c3 ?_ | with_reducible refine WF ?_)
        exact fin (gg (St.le_setBox (St.le_setBox (St.le_setBox (St.le_trans hsl hR.le) k4 _) k2 _) k3 _)) rfl
      · have hz1 : (quoF s pos).1 = k := by rw [hz]
        have hz2 : (quoF s pos).2.1 = q' := by rw [hz]
        have hz3 : (quoF s pos).2.2 = 0 := by rw [hz]
        conv => whnf
        rw [hz1, hz2]
        exact ⟨(⟨q', o', g', u1, u2, st'⟩, tx'), ⟨hR, hB, rfl, hz3⟩, Yl, St.le_refl _⟩
    · skip
      repeat' ((conv => whnf); first | exact Yc0 | (refine Yc1 ?_; intros) | (refine Yc2 ?_ ?_ ?_; rotate_left) | (refine Yc3 ?_ ?_ <;> intro _) | refine lit_c hl hq hs0 (St.box_at ..) hr0 (fun q' e' tx' hz st' hQ => ?_) (fun k q' hz tx' o' u1 g' u2 st' hR hB => ?_) | refine on_box (a1 _) ?_ | with_reducible refine WF ?_)
      · obtain ⟨q1, o1, u1, g1, u2, hB, hR⟩ := hQ
        conv => whnf
        refine qclose_some (hR.le.1 _ _ m1) hB (hR.le.1 _ _ m2) (hR.le.1 _ _ m3) n24.symm n34.symm n23 ?_
        have c1 : (((st'.setBox b4 (qC s q' tx' o1 u1 g1 u2)).setBox b2 [.int .i64 0]).setBox b3 [.int .i64 e']).box b1 = some [.ptr b4 0] := (box_off n13.symm).trans ((box_off n12.symm).trans ((box_off n14.symm).trans (hR.le.1 _ _ m1)))
        have c2 : (((st'.setBox b4 (qC s q' tx' o1 u1 g1 u2)).setBox b2 [.int .i64 0]).setBox b3 [.int .i64 e']).box b2 = some [.int .i64 0] := (box_off n23.symm).trans (St.box_at _ _ _)
        have c3 : (((st'.setBox b4 (qC s q' tx' o1 u1 g1 u2)).setBox b2 [.int .i64 0]).setBox b3 [.int .i64 e']).box b3 = some [.int .i64 e'] := St.box_at _ _ _
        have c4 : (((st'.setBox b4 (qC s q' tx' o1 u1 g1 u2)).setBox b2 [.int .i64 0]).setBox b3 [.int .i64 e']).box b4 = some (qC s q' tx' o1 u1 g1 u2) := (box_off n34).trans ((box_off n24).trans (St.box_at _ _ _))
        have c5 : (quoF s pos).1 = 0 := by rw [hz]
        have c6 : (quoF s pos).2.1 = q' := by rw [hz]
        have c7 : (quoF s pos).2.2 = e' := by rw [hz]
        have gg := fun le => h b4 q' tx' o1 u1 g1 u2 _ le c4 c6.symm
        rw [c5, c7] at gg
        clear h hz c4 c5 c6 c7
        repeat' ((conv => whnf); first | exact Yc0 | (refine Yc1 ?_; intros) | (refine Yc2 ?_ ?_ ?_; rotate_left) | (refine Yc3 ?_ ?_ <;> intro _) | refine on_box c1 ?_ | refine on_box c2 ?_ | refine on_box c3 ?_ | with_reducible refine WF ?_)
        exact fin (gg (St.le_setBox (St.le_setBox (St.le_setBox (St.le_trans hsl hR.le) k4 _) k2 _) k3 _)) rfl
      · have hz1 : (quoF s pos).1 = k := by rw [hz]
        have hz2 : (quoF s pos).2.1 = q' := by rw [hz]
        have hz3 : (quoF s pos).2.2 = 0 := by rw [hz]
        conv => whnf
        rw [hz1, hz2]
        exact ⟨(⟨q', o', g', u1, u2, st'⟩, tx'), ⟨hR, hB, rfl, hz3⟩, Yl, St.le_refl _⟩
    · have b1' : m.box b1 = some [.ptr b4 0] := hj.1.le.1 _ _ m1
      repeat' ((conv => whnf); first | exact Yc0 | (refine Yc1 ?_; intros) | (refine Yc2 ?_ ?_ ?_; rotate_left) | (refine Yc3 ?_ ?_ <;> intro _) | refine on_box b1' ?_ | with_reducible refine WF ?_)
      all_goals conv => whnf
      all_goals exact ⟨(⟨q, o, g, w1, w2, m⟩, tx), hj, Yl, St.le_refl _⟩
    · have b1' : m.box b1 = some [.ptr b4 0] := hj.1.le.1 _ _ m1
      repeat' ((conv => whnf); first | exact Yc0 | (refine Yc1 ?_; intros) | (refine Yc2 ?_ ?_ ?_; rotate_left) | (refine Yc3 ?_ ?_ <;> intro _) | refine on_box b1' ?_ | with_reducible refine WF ?_)
      all_goals conv => whnf
      all_goals exact ⟨(⟨q, o, g, w1, w2, m⟩, tx), hj, Yl, St.le_refl _⟩
    · have b2' : (m.setBox b1 [.ptr b4 0]).box b2 = some [.int .i64 0] := (box_off n12).trans (hj.1.le.1 _ _ m2)
      repeat' ((conv => whnf); first | exact Yc0 | (refine Yc1 ?_; intros) | (refine Yc2 ?_ ?_ ?_; rotate_left) | (refine Yc3 ?_ ?_ <;> intro _) | refine on_box b2' ?_ | with_reducible refine WF ?_)
      all_goals conv => whnf
      all_goals exact ⟨(⟨q, o, g, w1, w2, m⟩, tx), hj, Yl, St.le_refl _⟩
    · have b3' : ((m.setBox b1 [.ptr b4 0]).setBox b2 [.int .i64 (quoF s pos).1]).box b3 = some [.int .i64 0] := (box_off n23).trans ((box_off n13).trans (hj.1.le.1 _ _ m3))
      repeat' ((conv => whnf); first | exact Yc0 | (refine Yc1 ?_; intros) | (refine Yc2 ?_ ?_ ?_; rotate_left) | (refine Yc3 ?_ ?_ <;> intro _) | refine on_box b3' ?_ | with_reducible refine WF ?_)
      all_goals conv => whnf
      all_goals exact ⟨(⟨q, o, g, w1, w2, m⟩, tx), hj, Yl, St.le_refl _⟩
  · rintro ⟨⟨q, o, g, w1, w2, m⟩, tx⟩ ⟨j1, j2, j3, j0⟩
    dsimp only at j1 j2 j3 j0
    have c1 : (((m.setBox b1 [.ptr b4 0]).setBox b2 [.int .i64 (quoF s pos).1]).setBox b3 [.int .i64 0]).box b1 = some [.ptr b4 0] := (box_off n13.symm).trans ((box_off n12.symm).trans (St.box_at _ _ _))
    have c2 : (((m.setBox b1 [.ptr b4 0]).setBox b2 [.int .i64 (quoF s pos).1]).setBox b3 [.int .i64 0]).box b2 = some [.int .i64 (quoF s pos).1] := (box_off n23.symm).trans (St.box_at _ _ _)
    have c3 : (((m.setBox b1 [.ptr b4 0]).setBox b2 [.int .i64 (quoF s pos).1]).setBox b3 [.int .i64 0]).box b3 = some [.int .i64 0] := St.box_at _ _ _
    have c4 : (((m.setBox b1 [.ptr b4 0]).setBox b2 [.int .i64 (quoF s pos).1]).setBox b3 [.int .i64 0]).box b4 = some (qC s q tx o w1 g w2) := (box_off n34).trans ((box_off n24).trans ((box_off n14).trans j2))
    have gg := fun le => h b4 q tx o w1 g w2 _ le c4 j3
    rw [j0] at gg
    clear h
    show AW _ _ _ _ _
    refine aw_of tys_ok (qclose_none ?_)
    repeat' ((conv => whnf); first | exact Yc0 | (refine Yc1 ?_; intros) | (refine Yc2 ?_ ?_ ?_; rotate_left) | (refine Yc3 ?_ ?_ <;> intro _) | refine on_box c1 ?_ | refine on_box c2 ?_ | refine on_box c3 ?_ | with_reducible refine WF ?_)
    exact fin (gg (St.le_setBox (St.le_setBox (St.le_setBox (St.le_trans hsl j1.le) k1 _) k2 _) k3 _)) rfl
theorem read_c {s : List UInt8} {pos : Nat} (hl : s.length ≤ 100000000) (hp : pos < s.length)
    (h : ∀ b4 (q : Nat) tx o w1 g w2 st', st.le st' → st'.box b4 = some (qC s q tx o w1 g w2) → (q : Int) = (quoF s pos).2.1 → R (.ret (.tup [.ptr b4 0, .int .i64 (quoF s pos).1, .int .i64 (quoF s pos).2.2])) st') : PC 229 [.str s, .int .i64 pos] st R := by
  obtain ⟨e, he⟩ : ∃ e, s[pos]? = some e := ⟨s[pos], List.getElem?_eq_getElem hp⟩
  have he' : s[(pos : Int).toNat]? = some e := he
  have hv := hdF_at he
  refine PCalls.ends (pcalls_defer3 tys_ok [4, 5, 6, 10] Tryz.func229 rfl (by decide) rfl rfl rfl rfl rfl rfl ⟨_, Tryz.func281, rfl, by decide⟩ rfl ?_)
  refine aw_of tys_ok ?_
  repeat' ((conv => whnf); first | exact Yc0 | (refine Yc1 ?_; intros) | (refine Yc2 ?_ ?_ ?_; rotate_left) | (refine Yc3 ?_ ?_ <;> intro _) | refine box_new (fun b3 f3 => ?_) | with_reducible refine WF ?_)
  rename_i b1 f1 b2 f2
  obtain ⟨n12, f2a⟩ := fresh_off f2
  obtain ⟨n23, f3a⟩ := fresh_off f3
  obtain ⟨n13, f3b⟩ := fresh_off f3a
  refine aw_of tys_ok ?_
  have kk : ∀ b4 cs, ((((st.setBox b1 [V.nilp]).setBox b2 [V.int .i64 0]).setBox b3 [V.int .i64 0]).fresh b4) → ((((st.setBox b1 [V.nilp]).setBox b2 [V.int .i64 0]).setBox b3 [V.int .i64 0]).setBox b4 cs).box b1 = some [V.nilp] := fun b4 cs f4 => by
    obtain ⟨m3, f4a⟩ := fresh_off f4
    obtain ⟨m2, f4b⟩ := fresh_off f4a
    obtain ⟨m1, f4c⟩ := fresh_off f4b
    simp [St.setBox, m1, n12, n13]
  repeat' ((conv => whnf); first | exact Yc0 | (refine Yc1 ?_; intros) | (refine Yc2 ?_ ?_ ?_; rotate_left) | (refine Yc3 ?_ ?_ <;> intro _) | refine box_new (fun b4 f4 => ?_) | refine on_box (kk _ _ f4) ?_ | with_reducible refine WF ?_)
  obtain ⟨n34, f4a⟩ := fresh_off f4
  obtain ⟨n24, f4b⟩ := fresh_off f4a
  obtain ⟨n14, f4c⟩ := fresh_off f4b
  obtain ⟨s0, hs0, hsl, m1, m2, m3, hst⟩ : ∃ s0 : St, s0.box b4 = none ∧ st.le s0 ∧ s0.box b1 = some [.ptr b4 0] ∧ s0.box b2 = some [.int .i64 0] ∧ s0.box b3 = some [.int .i64 0] ∧
      s0.setBox b4 (qC s pos false [] .full [] .full) = (((((st.setBox b1 [V.nilp]).setBox b2 [V.int .i64 0]).setBox b3 [V.int .i64 0]).setBox b4 (qC s pos false [] .full [] .full)).setBox b1 [.ptr b4 0]) := by
    refine ⟨((st.setBox b1 [.ptr b4 0]).setBox b2 [.int .i64 0]).setBox b3 [.int .i64 0], ?_, St.le_setBox (St.le_setBox (St.le_setBox (St.le_refl _) f1.1 _) f2a.1 _) f3b.1 _, ?_, ?_, ?_, ?_⟩
    · simp [St.setBox, n14.symm, n24.symm, n34.symm]; exact f4c.1
    · simp [St.setBox, n12, n13]
    · simp [St.setBox, n23]
    · simp [St.setBox]
    · simp only [St.setBox, St.mk.injEq, and_true]
      funext x
      by_cases x1 : x = b1
      · subst x1; simp [n12, n13, n14]
      · by_cases x4 : x = b4
        · subst x4; simp [x1]
        · simp [x1, x4]
  refine AW_st (st' := s0.setBox b4 (qC s pos false [] .full [] .full)) hst ?_
  clear kk f4 f4a f4b f3 f3a f2 hst
  have a1 : ∀ C, (s0.setBox b4 C).box b1 = some [.ptr b4 0] := fun C => (box_off n14.symm).trans m1
  by_cases hq : hdF (s.drop pos) = 34 ∨ hdF (s.drop pos) = 39
  · refine aw_of tys_ok ?_
    repeat' ((conv => whnf); first | exact Yc0 | (refine Yc1 ?_; intros) | (refine Yc2 ?_ ?_ ?_; rotate_left) | (refine Yc3 ?_ ?_ <;> intro _) | with_reducible refine WF ?_)
    all_goals conv => whnf
    all_goals refine ⟨rfl, chk_intro rfl ?_⟩
    all_goals exact AW_weak (read_rest hl hq hs0 (St.le_trans hsl (St.le_refl _)) n12 n13 n14 n23 n24 n34 f1.1 f2a.1 f3b.1 f4c.1 m1 m2 m3 h) Yl (St.le_refl _)
  · have hz : quoF s pos = (0, 0, 0) := by unfold quoF; rw [if_neg (fun x => hq (.inl x)), if_neg (fun x => hq (.inr x))]
    rw [hz] at h
    have a1' : ∀ C C', ((s0.setBox b4 C).setBox b4 C').box b1 = some [.ptr b4 0] := fun C C' => (box_off n14.symm).trans (a1 C)
    have a2' : ∀ C C' D, (((s0.setBox b4 C).setBox b4 C').setBox b1 D).box b2 = some [.int .i64 0] := fun C C' D => (box_off n12).trans ((box_off n24.symm).trans ((box_off n24.symm).trans m2))
    have a3' : ∀ C C' D F, ((((s0.setBox b4 C).setBox b4 C').setBox b1 D).setBox b2 F).box b3 = some [.int .i64 0] := fun C C' D F => (box_off n23).trans ((box_off n13).trans ((box_off n34.symm).trans ((box_off n34.symm).trans m3)))
    have e3 : ∀ C C' D F G, (((((s0.setBox b4 C).setBox b4 C').setBox b1 D).setBox b2 F).setBox b3 G).box b3 = some G := fun C C' D F G => St.box_at _ _ _
    have e2 : ∀ C C' D F G, (((((s0.setBox b4 C).setBox b4 C').setBox b1 D).setBox b2 F).setBox b3 G).box b2 = some F := fun C C' D F G => (box_off n23.symm).trans (St.box_at _ _ _)
    have e1 : ∀ C C' D F G, (((((s0.setBox b4 C).setBox b4 C').setBox b1 D).setBox b2 F).setBox b3 G).box b1 = some D := fun C C' D F G => (box_off n13.symm).trans ((box_off n12.symm).trans (St.box_at _ _ _))
    have e4 : ∀ C C' D F G, (((((s0.setBox b4 C).setBox b4 C').setBox b1 D).setBox b2 F).setBox b3 G).box b4 = some C' := fun C C' D F G => (box_off n34).trans ((box_off n24).trans ((box_off n14).trans (St.box_at _ _ _)))
    refine aw_of tys_ok ?_
    repeat' ((conv => whnf); first | exact Yc0 | (refine Yc1 ?_; intros) | (refine Yc2 ?_ ?_ ?_; rotate_left) | (refine Yc3 ?_ ?_ <;> intro _) | refine on_box (a1 _) ?_ | refine on_box (St.box_at _ _ _) ?_ | refine on_box (a1' _ _) ?_ | refine on_box (a2' _ _ _) ?_ | refine on_box (a3' _ _ _ _) ?_ | refine on_box (e1 _ _ _ _ _) ?_ | refine on_box (e2 _ _ _ _ _) ?_ | refine on_box (e3 _ _ _ _ _) ?_ | with_reducible refine WF ?_)
    exact fin (h b4 0 false [] .full [] .full _ (St.le_setBox (St.le_setBox (St.le_setBox (St.le_setBox (St.le_setBox hsl f4c.1 _) f4c.1 _) f1.1 _) f2a.1 _) f3b.1 _) (e4 _ _ _ _ _) rfl) rfl
end
end Go.Proofs.YtkidoddkbhchkaaGreatDoor
set_option maxHeartbeats 16000000
set_option linter.unusedVariables false
namespace Go.Proofs.YtkidoddkbhchkaaGreatDoor
open Go Go.Aw
section
variable {st : St} {R : Res → St → Prop}
attribute [local irreducible] Go.Aw.appendTo
theorem qscan_c {s : List UInt8} {pos : Nat} (hl : s.length ≤ 100000000) (hp : pos < s.length) (h : R (.ret (.tup [.int .i64 (quoF s pos).1, .int .i64 (quoF s pos).2.1, .int .i64 (quoF s pos).2.2])) st) : PC 155 [.str s, .int .i64 pos] st R := by
  refine pB Tryz.func155 ?_
  repeat' ((conv => whnf); first | exact Yc0 | (refine Yc1 ?_; intros) | (refine Yc2 ?_ ?_ ?_; rotate_left) | (refine Yc3 ?_ ?_ <;> intro _) | refine read_c hl hp (fun b4 q tx o w1 g w2 st' hst hb hq => ?_) | refine on_box hb ?_ | with_reducible refine WF ?_)
  all_goals rw [← hq] at h
  all_goals exact finl hst rfl h
end
end Go.Proofs.YtkidoddkbhchkaaGreatDoor
set_option maxHeartbeats 16000000
set_option linter.unusedVariables false
set_option maxHeartbeats 16000000
set_option linter.unusedVariables false
set_option maxHeartbeats 16000000
set_option linter.unusedVariables false
set_option maxHeartbeats 16000000
set_option linter.unusedVariables false
set_option maxHeartbeats 16000000
set_option linter.unusedVariables false
set_option maxHeartbeats 16000000
set_option linter.unusedVariables false
set_option maxHeartbeats 16000000
set_option linter.unusedVariables false
set_option maxHeartbeats 16000000
set_option linter.unusedVariables false
namespace Go.Aw
open Go
theorem numF_b {l : List UInt8} (h : (prefF l).1 ≠ 10) : numF l = (11, 2 + rowN (prefF l).1 (l.drop 2)) := if_pos h
theorem numF_0 {l : List UInt8} (h : (prefF l).1 = 10) (k : rowN 10 l = 0) : numF l = (0, 0) := by unfold numF; rw [if_neg (fun e => e h), if_pos k]
theorem numF_n {l : List UInt8} {n f e : Nat} (h : (prefF l).1 = 10) (hn : rowN 10 l = n) (h0 : n ≠ 0) (hf : fracN (l.drop n) = f) (he : expN (l.drop (n + f)) = e) : numF l = (if 0 < f ∨ 0 < e then 12 else 11, n + f + e) := by
  subst hn; subst hf; subst he
  unfold numF; rw [if_neg (fun e => e h), if_neg h0]
theorem prefF_2 {l : List UInt8} {b : Int} (h : prefF l = (b, 2)) : hdF l = 48 ∧ 2 ≤ l.length := by
  unfold prefF at h
  split at h
  · rename_i hc
    refine ⟨hc.1, ?_⟩
    have := hc.2.2
    have h1 := rowN_le (baseF l) (l.drop 2)
    rw [List.length_drop] at h1
    omega
  · injection h with _ h; cases h
def nscF (s : List UInt8) (pos : Nat) : Int × Int := if (numF (s.drop pos)).1 = 0 then (0, 0) else ((numF (s.drop pos)).1, (pos + (numF (s.drop pos)).2 : Nat))
end Go.Aw
namespace Go.Proofs.YtkidoddkbhchkaaGreatDoor
open Go Go.Aw
section
variable {st : St} {R : Res → St → Prop}
theorem dot_e {s : List UInt8} {i : Int} {n : Nat} (e : i.toNat = n) (h : R (.ret (.bool (decide (hdF (s.drop n) = 46)))) st) : PC 87 [.str (s.drop i.toNat), .str [46]] st R := by
  refine prefix_c ?_
  rw [pre1, e]
  exact h
theorem exponent_e {s : List UInt8} {i : Int} {n : Nat} (e : i.toNat = n) (hl : s.length ≤ 4611686018427387903) (h : R (.ret (.int .i64 (expN (s.drop n) : Nat))) st) : PC 280 [.str (s.drop i.toNat)] st R := by
  rw [e]; exact exponent_c (by rw [List.length_drop]; omega) h
theorem row_e {s : List UInt8} {i b : Int} {n : Nat} (e : i.toNat = n) (hl : s.length ≤ 4611686018427387903) (h : R (.ret (.int .i64 (rowN b (s.drop n) : Nat))) st) : PC 279 [.str (s.drop i.toNat), .int .i64 b] st R := by
  rw [e]; exact row_c (by rw [List.length_drop]; omega) h
theorem row_v {s : List UInt8} {i b : Int} {n v : Nat} (e : i.toNat = n) (hv : rowN b (s.drop n) = v) (hl : s.length ≤ 4611686018427387903) (h : R (.ret (.int .i64 v)) st) : PC 279 [.str (s.drop i.toNat), .int .i64 b] st R :=
  row_e e hl (by rw [hv]; exact h)
theorem exponent_v {s : List UInt8} {i : Int} {n v : Nat} (e : i.toNat = n) (hv : expN (s.drop n) = v) (hl : s.length ≤ 4611686018427387903) (h : R (.ret (.int .i64 v)) st) : PC 280 [.str (s.drop i.toNat)] st R :=
  exponent_e e hl (by rw [hv]; exact h)
theorem num_ret {s : List UInt8} {k i : Int} {n : Nat} (e1 : numF s = (k, n)) (e2 : i.toNat = n) : Res.ret (.tup [.int .i64 (numF s).1, .str (s.take (numF s).2)]) = Res.ret (.tup [.int .i64 k, .str (s.take i.toNat)]) := by rw [e1, e2]
theorem num_ret0 {s : List UInt8} (e1 : numF s = (0, 0)) : Res.ret (.tup [.int .i64 (numF s).1, .str (s.take (numF s).2)]) = Res.ret (.tup [.int .i64 0, .str []]) := by rw [e1]; rfl
theorem prefixed_k {s : List UInt8} {b : Int} {n : Nat} (hp : prefF s = (b, n)) (hl : s.length ≤ 4611686018427387903) (h : R (.ret (.tup [.int .i64 b, .int .i64 n])) st) : PC 278 [.str s] st R :=
  prefixed_c hl (by rw [hp]; exact h)
theorem nscan_c {s : List UInt8} (hl : s.length ≤ 4611686018427387903) (h : R (.ret (.tup [.int .i64 (numF s).1, .str (s.take (numF s).2)])) st) : PC 228 [.str s] st R := by
  have hle := numF_le s
  refine pB Tryz.func228 ?_
  rcases prefF_or s with hp | ⟨hp, _⟩ | ⟨hp, _⟩
  · have h1 := rowN_le 10 s
    have h2 := fracN_le (s.drop (rowN 10 s))
    have h3 := expN_le (s.drop (rowN 10 s + fracN (s.drop (rowN 10 s))))
    rw [List.length_drop] at h2 h3
    generalize hr : rowN 10 s = r at h1 h2 h3
    have hr0 : rowN 10 (s.drop 0) = r := hr
    generalize hf : fracN (s.drop r) = f at h2 h3
    generalize he : expN (s.drop (r + f)) = e at h3
    have h4 := rowN_le 10 (s.drop (r + 1))
    have e0 : (prefF s).1 = 10 := by rw [hp]
    have hlt := dot_lt s r
    have hfd : (hdF (s.drop r) = 46 ∧ rowN 10 (s.drop (r + 1)) ≠ 0 ∧ f = 1 + rowN 10 (s.drop (r + 1))) ∨ ((hdF (s.drop r) ≠ 46 ∨ rowN 10 (s.drop (r + 1)) = 0) ∧ f = 0) := by
      rw [← hf]
      unfold fracN
      rw [List.drop_drop]
      split <;> omega
    rw [List.length_drop] at h4
    generalize hd : rowN 10 (s.drop (r + 1)) = d at h4 hfd
    repeat' ((conv => whnf); first | exact Yc0 | (refine Yc1 ?_; intros) | (refine Yc2 ?_ ?_ ?_; rotate_left) | (refine Yc3 ?_ ?_ <;> intro _) | refine prefixed_k hp hl ?_ | refine row_v (by omega) hr0 hl ?_ | refine row_v (by omega) hd hl ?_ | refine dot_e (n := r) (by omega) ?_ | refine exponent_v (by omega) he hl ?_ | refine exponent_v (by omega) he' hl ?_ | with_reducible refine WF ?_)
    all_goals first
      | (have e1 := numF_0 e0 (by omega); exact fin h (num_ret0 e1))
      | (have e1 := numF_n e0 hr (by omega) hf he; rw [if_pos (by omega)] at e1; exact fin h (num_ret e1 (by omega)))
      | (have e1 := numF_n e0 hr (by omega) hf he; rw [if_neg (by omega)] at e1; exact fin h (num_ret e1 (by omega)))
  · have hr := rowN_le 8 (s.drop 2)
    have h2 := (prefF_2 hp).2
    rw [List.length_drop] at hr
    repeat' ((conv => whnf); first | exact Yc0 | (refine Yc1 ?_; intros) | (refine Yc2 ?_ ?_ ?_; rotate_left) | (refine Yc3 ?_ ?_ <;> intro _) | refine prefixed_k hp hl ?_ | refine row_e (n := 2) (by omega) hl ?_ | with_reducible refine WF ?_)
    all_goals (have e1 := numF_b (l := s) (by rw [hp]; decide); rw [hp] at e1; dsimp only at e1; exact fin h (num_ret e1 (by omega)))
  · have hr := rowN_le 16 (s.drop 2)
    have h2 := (prefF_2 hp).2
    rw [List.length_drop] at hr
    repeat' ((conv => whnf); first | exact Yc0 | (refine Yc1 ?_; intros) | (refine Yc2 ?_ ?_ ?_; rotate_left) | (refine Yc3 ?_ ?_ <;> intro _) | refine prefixed_k hp hl ?_ | refine row_e (n := 2) (by omega) hl ?_ | with_reducible refine WF ?_)
    all_goals (have e1 := numF_b (l := s) (by rw [hp]; decide); rw [hp] at e1; dsimp only at e1; exact fin h (num_ret e1 (by omega)))
theorem nscanX_c {s : List UInt8} {pos : Nat} (hl : s.length ≤ 4611686018427387903) (hp : pos < s.length) (h : R (.ret (.tup [.int .i64 (nscF s pos).1, .int .i64 (nscF s pos).2])) st) : PC 154 [.str s, .int .i64 pos] st R := by
  have hw := numF_le (s.drop pos)
  have ht : ((s.drop pos).take (numF (s.drop pos)).2).length = (numF (s.drop pos)).2 := by rw [List.length_take]; omega
  rw [List.length_drop] at hw
  have hld : (s.drop pos).length ≤ 4611686018427387903 := by rw [List.length_drop]; omega
  refine pB Tryz.func154 ?_
  repeat' ((conv => whnf); first | (refine Yc1 ?_; intros) | (refine Yc3 ?_ ?_ <;> intro _) | refine nscan_c hld ?_)
  · exact fin h (by unfold nscF; rw [if_pos (by assumption)]; simp_all)
  · exact fin h (by unfold nscF; rw [if_neg (by assumption)]; simp only []; rw [show (pos : Int).toNat = pos by omega] at *; rw [ht]; rfl)
end
end Go.Proofs.YtkidoddkbhchkaaGreatDoor
set_option maxHeartbeats 16000000
set_option linter.unusedVariables false
set_option maxHeartbeats 16000000
set_option linter.unusedVariables false
set_option maxHeartbeats 16000000
set_option linter.unusedVariables false
namespace Go.Aw
open Go
def lexmF (s : List UInt8) (p : Nat) : Int × Int × Int :=
  if (nscF s p).1 ≠ 0 then ((nscF s p).1, (nscF s p).2, 0)
  else if (quoF s p).1 = 0 ∧ (quoF s p).2.2 = 0 then
    if (wscanF s p).1 = 0 then (0, p, 70) else ((wscanF s p).1, (wscanF s p).2, 0)
  else quoF s p
def lxC (s : List UInt8) (p sp : Nat) (ln col : Int) (toks notes : List (List V)) (w1 w2 : Own) (gap ends : Int) (j : Bool) : List V :=
  [.str s, .int .i64 p, .int .i64 sp, .int .i64 ln, .int .i64 col, .slice 4 toks w1, .slice 5 notes w2, .int .i64 gap, .int .i64 ends, .bool j]
end Go.Aw
namespace Go.Proofs.YtkidoddkbhchkaaGreatDoor
open Go Go.Aw
section
variable {st : St} {R : Res → St → Prop}
theorem lnum_c {s : List UInt8} {b p sp : Nat} {ln col gap ends : Int} {toks notes : List (List V)} {w1 w2 : Own} {j : Bool} (hl : s.length ≤ 100000000) (hp : p < s.length) (hb : st.box b = some (lxC s p sp ln col toks notes w1 w2 gap ends j))
    (h : R (.ret (.agg [.int .i64 (nscF s p).1, .int .i64 (nscF s p).2, .int .i64 0])) st) : PC 91 [.ptr b 0] st R := by
  refine pB Tryz.func91 ?_
  repeat' ((conv => whnf); first | exact Yb0 | (refine Yb1 ?_; intros) | (refine Yb2 ?_ ?_ ?_; rotate_left) | (refine Yb3 ?_ ?_ <;> intro _) | refine on_box hb ?_ | refine nscanX_c (by omega) hp ?_ | with_reducible refine WF ?_)
  all_goals exact fin h rfl
theorem lwrd_c {s : List UInt8} {b p sp : Nat} {ln col gap ends : Int} {toks notes : List (List V)} {w1 w2 : Own} {j : Bool} (hl : s.length ≤ 100000000) (hp : p < s.length) (hb : st.box b = some (lxC s p sp ln col toks notes w1 w2 gap ends j))
    (h : R (.ret (.agg [.int .i64 (wscanF s p).1, .int .i64 (wscanF s p).2, .int .i64 0])) st) : PC 93 [.ptr b 0] st R := by
  refine pB Tryz.func93 ?_
  repeat' ((conv => whnf); first | exact Yb0 | (refine Yb1 ?_; intros) | (refine Yb2 ?_ ?_ ?_; rotate_left) | (refine Yb3 ?_ ?_ <;> intro _) | refine on_box hb ?_ | refine wscanX_c hl hp ?_ | with_reducible refine WF ?_)
  all_goals exact fin h rfl
theorem llit_c {s : List UInt8} {b p sp : Nat} {ln col gap ends : Int} {toks notes : List (List V)} {w1 w2 : Own} {j : Bool} (hl : s.length ≤ 100000000) (hp : p < s.length) (hb : st.box b = some (lxC s p sp ln col toks notes w1 w2 gap ends j))
    (h : R (.ret (.agg [.int .i64 (quoF s p).1, .int .i64 (quoF s p).2.1, .int .i64 (quoF s p).2.2])) st) : PC 92 [.ptr b 0] st R := by
  refine pB Tryz.func92 ?_
  repeat' ((conv => whnf); first | exact Yb0 | (refine Yb1 ?_; intros) | (refine Yb2 ?_ ?_ ?_; rotate_left) | (refine Yb3 ?_ ?_ <;> intro _) | refine on_box hb ?_ | refine qscan_c hl hp ?_ | with_reducible refine WF ?_)
  all_goals exact fin h rfl
theorem lexeme_c {s : List UInt8} {b p sp : Nat} {ln col gap ends : Int} {toks notes : List (List V)} {w1 w2 : Own} {j : Bool} (hl : s.length ≤ 100000000) (hp : p < s.length) (hb : st.box b = some (lxC s p sp ln col toks notes w1 w2 gap ends j))
    (h : R (.ret (.agg [.int .i64 (lexmF s p).1, .int .i64 (lexmF s p).2.1, .int .i64 (lexmF s p).2.2])) st) : PC 47 [.ptr b 0] st R := by
  refine pB Tryz.func47 ?_
  have hh : ∀ a b c, lexmF s p = (a, b, c) → R (.ret (.agg [.int .i64 a, .int .i64 b, .int .i64 c])) st := fun a b c e => by rw [e] at h; exact h
  clear h
  unfold lexmF at hh
  repeat' ((conv => whnf); first | (refine Yb1 ?_; intros) | (refine Yb3 ?_ ?_ <;> intro _) | refine lnum_c hl hp hb ?_ | refine llit_c hl hp hb ?_ | refine lwrd_c hl hp hb ?_ | refine on_box hb ?_)
  · exact fin (hh _ _ _ (by rw [if_neg (by omega), if_pos ⟨by omega, by omega⟩, if_pos (by omega)])) rfl
  · exact fin (hh _ _ _ (by rw [if_neg (by omega), if_pos ⟨by omega, by omega⟩, if_neg (by omega)])) rfl
  · exact fin (hh _ _ _ (by rw [if_neg (by omega), if_neg (fun x => by omega)])) rfl
  · exact fin (hh _ _ _ (by rw [if_neg (by omega), if_neg (fun x => by omega)])) rfl
  · exact fin (hh _ _ _ (by rw [if_pos (by omega)])) rfl
end
end Go.Proofs.YtkidoddkbhchkaaGreatDoor
set_option maxHeartbeats 16000000
set_option linter.unusedVariables false
namespace Go.Proofs.YtkidoddkbhchkaaGreatDoor
open Go Go.Aw
section
variable {st : St} {R : Res → St → Prop}
theorem counts_c {k ln col : Int} {t : List UInt8} (h : R (.ret (.bool (decide (¬ k = 15) || !Lib.contains [123, 125, 59] t))) st) : PC 94 [.agg [.int .i64 k, .str t, .int .i64 ln, .int .i64 col]] st R := by
  refine pB Tryz.func94 ?_
  repeat' ((conv => whnf); first | (refine Yb1 ?_; intros) | (refine Yb3 ?_ ?_ <;> intro _) | refine contains_c (by decide) ?_)
  all_goals first
    | exact fin_bool h (by simp [*])
    | (rename_i hk _; exact fin_bool h (by simp [hk]))
theorem blanks_c {s : List UInt8} {b p sp : Nat} {ln col gap ends : Int} {toks notes : List (List V)} {w1 w2 : Own} {j : Bool} (hl : s.length ≤ 100000000) (hp : p ≤ s.length) (hb : st.box b = some (lxC s p sp ln col toks notes w1 w2 gap ends j))
    (h : R (.ret (.tup [])) (st.setBox b (lxC s (p + spanR (fun c => classF c == 1) (s.drop p)) sp ln col toks notes w1 w2 gap ends j))) : PC 44 [.ptr b 0] st R := by
  refine pB Tryz.func44 ?_
  repeat' ((conv => whnf); first | refine draw_mix [(0, true), (1, true), (2, true), (3, true), (4, true), (5, true), (6, true), (7, true), (8, true), (9, false), (10, true), (11, true), (12, false)] [] (by decide +kernel) ?_ | exact Yb0 | (refine Yb1 ?_; intros) | (refine Yb2 ?_ ?_ ?_; rotate_left) | (refine Yb3 ?_ ?_ <;> intro _) | refine on_box hb ?_ | refine run_blank hl hp rfl rfl ?_ | with_reducible refine WF ?_)
  all_goals exact fin h rfl
end
end Go.Proofs.YtkidoddkbhchkaaGreatDoor
set_option maxHeartbeats 16000000
set_option linter.unusedVariables false
namespace Go.Aw
open Go
def pieceF (s : List UInt8) (a b : Nat) : List UInt8 := (s.take b).drop a
theorem piece_k {s : List UInt8} {a b : Nat} {K : List UInt8 → Prop} (h1 : a ≤ b) (h2 : b ≤ s.length) (k : K (pieceF s a b)) :
    (0 ≤ (a : Int) ∧ (a : Int) ≤ b ∧ (b : Int) ≤ s.length) ∧ ∀ s', s' = (s.take (b : Int).toNat).drop (a : Int).toNat → K s' :=
  ⟨⟨by omega, by omega, by omega⟩, fun s' e => by
    rw [show (b : Int).toNat = b by omega, show (a : Int).toNat = a by omega] at e
    subst e; exact k⟩
end Go.Aw
namespace Go.Proofs.YtkidoddkbhchkaaGreatDoor
open Go Go.Aw
section
variable {st : St} {R : Res → St → Prop}
theorem to_c {s : List UInt8} {b p sp q : Nat} {ln col gap ends : Int} {toks notes : List (List V)} {w1 w2 : Own} {j : Bool} (hl : s.length ≤ 100000000) (hsp : sp ≤ q) (hq : q ≤ s.length) (hln : 1 ≤ ln ∧ ln ≤ 1000000000) (hcol : 1 ≤ col ∧ col ≤ 2147483648)
    (hw : 1 ≤ (walkP (pieceF s sp q) (pieceF s sp q).length (1, 1)).1 ∧ (walkP (pieceF s sp q) (pieceF s sp q).length (1, 1)).1 ≤ 1000000000)
    (hb : st.box b = some (lxC s p sp ln col toks notes w1 w2 gap ends j))
    (h : R (.ret (.tup [.int .i64 (ln + (walkP (pieceF s sp q) (pieceF s sp q).length (1, 1)).1 - 1), .int .i64 (walkP (pieceF s sp q) (pieceF s sp q).length (1, col)).2]))
      (st.setBox b (lxC s p q (ln + (walkP (pieceF s sp q) (pieceF s sp q).length (1, 1)).1 - 1) (walkP (pieceF s sp q) (pieceF s sp q).length (1, col)).2 toks notes w1 w2 gap ends j))) : PC 90 [.ptr b 0, .int .i64 q] st R := by
  have hpl : (pieceF s sp q).length ≤ 100000000 := by unfold pieceF; rw [List.length_drop, List.length_take]; omega
  have b2 : ∀ cs, (st.setBox b cs).box b = some cs := fun cs => St.box_at _ _ _
  refine pB Tryz.func90 ?_
  repeat' ((conv => whnf); first | exact Yb0 | (refine Yb1 ?_; intros) | (refine Yb2 ?_ ?_ ?_; rotate_left) | (refine Yb3 ?_ ?_ <;> intro _) | refine piece_k hsp hq ?_ | refine (fun (_ : (pieceF s sp q).length < lim) => ?_) | refine of_c hpl (Nat.le_refl _) ?_ | refine width_c hpl hcol.1 hcol.2 ?_ | refine on_box hb ?_ | refine on_box (b2 _) ?_ | with_reducible refine WF ?_)
  all_goals exact fin h rfl
end
end Go.Proofs.YtkidoddkbhchkaaGreatDoor
set_option maxHeartbeats 16000000
set_option linter.unusedVariables false
namespace Go.Aw
open Go
def placeF (s : List UInt8) (a b : Nat) (p : Int × Int) : Int × Int := walkP (pieceF s a b) (pieceF s a b).length p
theorem piece_len {s : List UInt8} {a b : Nat} (h1 : a ≤ b) (h2 : b ≤ s.length) : (pieceF s a b).length = b - a := by
  unfold pieceF; rw [List.length_drop, List.length_take]; omega
theorem place_b {s : List UInt8} {a b : Nat} {p : Int × Int} (h1 : a ≤ b) (h2 : b ≤ s.length) (h : 1 ≤ p.2) : p.1 ≤ (placeF s a b p).1 ∧ (placeF s a b p).1 ≤ p.1 + (b - a : Nat) ∧ 1 ≤ (placeF s a b p).2 ∧ (placeF s a b p).2 ≤ p.2 + 8 * (b - a : Nat) := by
  have := walk_b _ (pieceF s a b) (pieceF s a b).length p (Nat.le_refl _) h
  rw [piece_len h1 h2] at this
  unfold placeF
  rw [piece_len h1 h2]
  omega
end Go.Aw
namespace Go.Proofs.YtkidoddkbhchkaaGreatDoor
open Go Go.Aw
section
variable {st : St} {R : Res → St → Prop}
theorem to_k {s : List UInt8} {b p sp q : Nat} {ln col gap ends : Int} {toks notes : List (List V)} {w1 w2 : Own} {j : Bool} (hl : s.length ≤ 100000000) (hsp : sp ≤ q) (hq : q ≤ s.length) (hln : 1 ≤ ln ∧ ln ≤ 1000000000) (hcol : 1 ≤ col ∧ col ≤ 2147483648)
    (hb : st.box b = some (lxC s p sp ln col toks notes w1 w2 gap ends j))
    (h : R (.ret (.tup [.int .i64 (placeF s sp q (ln, col)).1, .int .i64 (placeF s sp q (ln, col)).2]))
      (st.setBox b (lxC s p q (placeF s sp q (ln, col)).1 (placeF s sp q (ln, col)).2 toks notes w1 w2 gap ends j))) : PC 90 [.ptr b 0, .int .i64 q] st R := by
  have hlen := piece_len hsp hq
  have h1 := walk_b _ (pieceF s sp q) (pieceF s sp q).length (1, 1) (Nat.le_refl _) (by decide)
  have h2 := walk_line _ (pieceF s sp q) (pieceF s sp q).length 1 1 col ln (Nat.le_refl _)
  have h3 := walk_col _ (pieceF s sp q) (pieceF s sp q).length 1 col ln (Nat.le_refl _)
  have e1 : ln + (walkP (pieceF s sp q) (pieceF s sp q).length (1, 1)).1 - 1 = (placeF s sp q (ln, col)).1 := by unfold placeF; omega
  have e2 : (walkP (pieceF s sp q) (pieceF s sp q).length (1, col)).2 = (placeF s sp q (ln, col)).2 := h3
  refine to_c hl hsp hq hln hcol ⟨by dsimp only at h1; omega, by dsimp only at h1; omega⟩ hb ?_
  rw [e1, e2]
  exact h
end
end Go.Proofs.YtkidoddkbhchkaaGreatDoor
set_option maxHeartbeats 16000000
set_option linter.unusedVariables false
set_option linter.unusedSimpArgs false
namespace Go.Aw
open Go
theorem walk_add {l : List UInt8} {a : Nat} (h : Cut l a) (k : Nat) (p : Int × Int) : walkP l (a + k) p = walkP (l.drop a) k (walkP l a p) := by
  induction h generalizing p with
  | zero l => rw [walkP_zero, Nat.zero_add, List.drop_zero]
  | @step l j hne h ih =>
    rw [walkP_go hne (by omega), walkP_go (k := stepN l + j) hne (by omega), show stepN l + j + k - stepN l = j + k by omega, show stepN l + j - stepN l = j by omega, ih, List.drop_drop]
theorem hdF_take {l : List UInt8} {m : Nat} (h : 0 < m) : hdF (l.take m) = hdF l := by
  cases l with
  | nil => rw [List.take_nil]
  | cons a r =>
    obtain ⟨m, rfl⟩ : ∃ k, m = k + 1 := ⟨m - 1, by omega⟩
    rfl
theorem hdF_take1 {l : List UInt8} {m : Nat} : hdF ((l.take m).drop 1) = if 1 < m then hdF (l.drop 1) else -1 := by
  rw [List.drop_take]
  by_cases h : 1 < m
  · rw [if_pos h, hdF_take (by omega)]
  · rw [if_neg h, show m - 1 = 0 by omega, List.take_zero]; rfl
theorem nlF_take {l : List UInt8} {m : Nat} (h : 0 < m) (h2 : nlF l ≤ m) : nlF (l.take m) = nlF l := by
  rcases nlF_cases l with ⟨e, h1⟩ | ⟨e, h1, h3⟩ | ⟨e, h1, h3⟩
  · rw [e]; unfold nlF; rw [hdF_take h, if_neg (fun x => h1 (.inl x.1)), if_neg h1]
  · rw [e]; unfold nlF; rw [hdF_take h, hdF_take1, if_neg, if_pos h1]
    rintro ⟨x, y⟩
    split at y
    · exact h3 ⟨x, y⟩
    · exact absurd y (by decide)
  · rw [e]; unfold nlF; rw [hdF_take h, hdF_take1, if_pos (show 1 < m by omega), if_pos ⟨h1, h3⟩]
theorem walk_take {l : List UInt8} {k : Nat} (h : Cut l k) (hv : Vd l) (p : Int × Int) : walkP (l.take k) k p = walkP l k p := by
  induction h generalizing p with
  | zero l => rw [walkP_zero, walkP_zero]
  | @step l j hne h ih =>
    have h1 := stepN_le hne
    have hn : nlF (l.take (stepN l + j)) = nlF l := nlF_take (by omega) (by
      by_cases hc : 0 < nlF l
      · have e : stepN l = nlF l := if_pos hc
        omega
      · omega)
    have hr := hv.rune hne
    have es : stepN (l.take (stepN l + j)) = stepN l := by
      by_cases hc : 0 < nlF l
      · have e3 : stepN (l.take (stepN l + j)) = nlF (l.take (stepN l + j)) := if_pos (by rw [hn]; exact hc)
        rw [e3, hn]; exact (if_pos hc).symm
      · have e1 : stepN l = (decR l).2 := if_neg hc
        have e2 : decR (l.take (stepN l + j)) = decR l := by
          have := decR_pre hne hr.1 ((l.take (stepN l + j)).drop (decR l).2)
          rwa [show l.take (decR l).2 = (l.take (stepN l + j)).take (decR l).2 by rw [List.take_take, Nat.min_eq_left (by omega)], List.take_append_drop] at this
        have e3 : stepN (l.take (stepN l + j)) = (decR (l.take (stepN l + j))).2 := if_neg (by rw [hn]; exact hc)
        rw [e3, e2]; exact e1.symm
    have hne' : l.take (stepN l + j) ≠ [] := fun e => by
      have := congrArg List.length e
      rw [List.length_take, List.length_nil] at this; omega
    have hv' : Vd (l.drop (stepN l)) := (Cut.step hne (.zero (l.drop (stepN l)))).bd.vd hv
    rw [walkP_go hne' (by omega), walkP_go hne (by omega), es, show stepN l + j - stepN l = j by omega, List.drop_take, show stepN l + j - stepN l = j by omega, ih hv']
    congr 1
    unfold stepL stepC
    rw [hn, hdF_take (by omega)]
def atP (s : List UInt8) (p : Nat) : Int × Int := walkP s p (1, 1)
theorem place_at {s : List UInt8} {a b : Nat} (hv : Vd s) (ha : Cut s a) (hb : Cut (s.drop a) (b - a)) (h : a ≤ b) (hl : b ≤ s.length) : placeF s a b (atP s a) = atP s b := by
  have e : pieceF s a b = (s.drop a).take (b - a) := by unfold pieceF; rw [List.drop_take]
  have hp := piece_len h hl
  unfold placeF atP
  rw [hp, e, walk_take hb (ha.bd.vd hv), ← walk_add ha, show a + (b - a) = b by omega]
end Go.Aw
