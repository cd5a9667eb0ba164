/-
  AW, PART 15. Code.
-/
import Derived.Test.YtngbihfihdheoaaAw21
set_option linter.unusedVariables false
set_option linter.unusedSimpArgs false
namespace Go.Aw
open Go

section
variable {D : List Deferred} {P : Program} {T : List (Nat × Ty)} {C : FuncId → List V → St → (Res → St → Prop) → Prop} {I0 I : Mem} {st0 st : St} {w0 w : World} {β : Nat → Option Nat} {env : Env} {a : Act}
variable {o : Oper} {K : V → Env → St → Prop} {Q : AExit → Env → St → Prop} {next : Act → World → Prop} {Qc : Exit → Act → World → Prop}

theorem AW_seq {x y : Code} {Q : AExit → Env → St → Prop} {env : Env} {st : St} (h : AW P x (thenQ (awp T C y Q) Q) env st) (k : ∀ env st, awp T C y Q env st → AW P y Q env st) : AW P (.seq x y) Q env st := fun D I0 st0 w0 I β a w hr => by
    refine wp_seq (wp_mono (h D I0 st0 w0 I β a w hr) ?_)
    rintro e a w ⟨I, β, env, st, ae, h1, h2, h3⟩
    cases ae with
    | normal => cases e <;> first | exact k env st h3 D I0 st0 w0 I β a w h1 | exact h2.elim
    | exit i => cases e <;> first | exact ⟨I, β, env, st, .exit i, h1, h2, h3⟩ | exact h2.elim
    | goto i => cases e <;> first | exact ⟨I, β, env, st, .goto i, h1, h2, h3⟩ | exact h2.elim
    | ret => cases e <;> first | exact ⟨I, β, env, st, .ret, h1, h2, h3⟩ | exact h2.elim
    | pan v => cases e <;> first | exact ⟨I, β, env, st, .pan v, h1, h2, h3⟩ | exact h2.elim

/-- from each label on, as it asks -/
def LabelsSound (P : Program) (T : List (Nat × Ty)) (C : FuncId → List V → St → (Res → St → Prop) → Prop) (c : Code) : Prop :=
  ∀ l f, (awp2 T C c).2 l = some f → ∃ rest, findLabel c l = some rest ∧ ∀ Q env st, f Q env st → AW P rest Q env st
theorem LabelsSound.none {c : Code} (h : ∀ l, (awp2 T C c).2 l = none) : LabelsSound P T C c := fun l f e => by rw [h l] at e; cases e

theorem findLabel_none (c : Code) (l : Nat) (h : (awp2 T C c).2 l = none) : findLabel c l = none := by
  induction c with
  | seq x y ihx ihy =>
    have e : seqL ((awp2 T C x).2 l) (awp2 T C y).1 ((awp2 T C y).2 l) = none := h
    cases hl : (awp2 T C x).2 l with
    | some g => rw [hl] at e; cases e
    | none =>
      rw [hl] at e
      simp [findLabel, ihx hl, ihy e]
  | label l0 =>
    have e : (bif Nat.beq l0 l then some fun (Q : AExit → Env → St → Prop) env st => Q .normal env st else none) = none := h
    cases hb : Nat.beq l0 l with
    | true => rw [hb] at e; cases e
    | false =>
      have : ¬ l0 = l := fun x => by subst x; rw [Nat.beq_refl] at hb; cases hb
      simp [findLabel, this]
  | _ => simp [findLabel]

theorem awp_both (hT : TOk P T) (hm : P.follows .mixedOrders = true) (hC : ∀ f args st R, C f args st R → ACalls P f args st R ∧ Plain P f) (hM : ∀ f args st (R R' : Res → St → Prop), (∀ r s, R r s → R' r s) → C f args st R → C f args st R') : ∀ (c : Code), (∀ {Q : AExit → Env → St → Prop} {env : Env} {st : St}, awp T C c Q env st → AW P c Q env st) ∧ LabelsSound P T C c
  | .skip => ⟨fun {Q env st} k => fun D I0 st0 w0 I β a w h => wp_skip ⟨I, β, env, st, .normal, h, trivial, k⟩, LabelsSound.none fun _ => rfl⟩
  | .region id ops true => ⟨fun {Q env st} k => fun D I0 st0 w0 I β a w h => wp_region_any hm (by
      have k : (headScan env ops.toList ops.toList fun k L => (drawOK k ops.toList && nodupO L) = true ∧ headWp T C ops.toList Q env env.boxes (dropIds L env.boxes) ops.toList env st) ∨ ∃ (sched : List (Nat × Bool)) (L : List Nat), mixOK sched ops.toList = true ∧ mixWp T C ops.toList L (dropIds (L.map some) env.boxes) Q sched env st := k
      rcases k with k | ⟨sched, L, k1, k2⟩
      · obtain ⟨h1, h2⟩ := headScan_iff.1 k
        have := draw_sound hT hC hM h1 h2 h
        simpa using this
      · have := mix_sound hT hC hM k1 k2 h
        simpa using this), LabelsSound.none fun _ => rfl⟩
  | .region id ops false => ⟨fun {Q env st} k => fun D I0 st0 w0 I β a w h => wp_region_list (by
      have := opsWp_sound hT hC h (show opsWp T C ops.toList Q ops.toList env st from k)
      simpa using this), LabelsSound.none fun _ => rfl⟩
  | .seq x y => ⟨fun {Q env st} k => AW_seq ((awp_both hT hm hC hM x).1 (show awp T C x _ env st from k)) fun env st => (awp_both hT hm hC hM y).1, fun l f e => by
      have e : seqL ((awp2 T C x).2 l) (awp2 T C y).1 ((awp2 T C y).2 l) = some f := e
      have hx := (awp_both hT hm hC hM x).2 l
      have hy := (awp_both hT hm hC hM y).2 l
      cases hl : (awp2 T C x).2 l with
      | none =>
        rw [hl] at e
        obtain ⟨rest, h1, h2⟩ := hy f e
        have hn := findLabel_none x l hl
        exact ⟨rest, by simp [findLabel, hn, h1], h2⟩
      | some g =>
        rw [hl] at e
        cases e
        obtain ⟨rest, h1, h2⟩ := hx g hl
        exact ⟨.seq rest y, by simp [findLabel, h1], fun Q env st k => AW_seq (h2 _ env st k) fun env st => (awp_both hT hm hC hM y).1⟩⟩
  | .cond c x y => ⟨fun {Q env st} k => fun D I0 st0 w0 I β a w h => by
    have hc := h.f.eval c
    have k : (match env.eval c with
      | .bool t => lit t (awp T C x Q env st) (awp T C y Q env st)
      | _ => False) := k
    split at k
    · rename_i t he
      rw [he] at hc
      have hc := rep_bool hc
      cases t with
      | true => exact wp_cond_true hc ((awp_both hT hm hC hM x).1 (show awp T C x Q env st from k) D I0 st0 w0 I β a w h)
      | false => exact wp_cond_false hc ((awp_both hT hm hC hM y).1 (show awp T C y Q env st from k) D I0 st0 w0 I β a w h)
    · exact k.elim, LabelsSound.none fun _ => rfl⟩
  | .block id c => ⟨fun {Q env st} k => fun D I0 st0 w0 I β a w h => by
    refine wp_block (wp_mono ((awp_both hT hm hC hM c).1 (show awp T C c _ env st from k) D I0 st0 w0 I β a w h) ?_)
    rintro e a w ⟨I, β, env, st, ae, h1, h2, h3⟩
    cases ae with
    | normal => cases e <;> first | exact ⟨I, β, env, st, .normal, h1, trivial, h3⟩ | exact h2.elim
    | exit i =>
      cases e <;> try exact h2.elim
      rename_i i'
      have h2 : i' = i := h2
      subst h2
      simp only [blockQ] at h3
      show (if i' = id then liftQ D I0 st0 w0 Q .normal a w else liftQ D I0 st0 w0 Q (.exit i') a w)
      by_cases hi : i' = id
      · subst hi
        rw [if_pos rfl]
        simp only [Nat.beq_refl, cond_true] at h3
        exact ⟨I, β, env, st, .normal, h1, trivial, h3⟩
      · rw [if_neg hi]
        have : Nat.beq i' id = false := by
          cases hb : Nat.beq i' id with
          | false => rfl
          | true => exact absurd (Nat.eq_of_beq_eq_true hb) hi
        rw [this] at h3
        exact ⟨I, β, env, st, .exit i', h1, rfl, h3⟩
    | goto i => cases e <;> first | exact ⟨I, β, env, st, .goto i, h1, h2, h3⟩ | exact h2.elim
    | ret => cases e <;> first | exact ⟨I, β, env, st, .ret, h1, h2, h3⟩ | exact h2.elim
    | pan v => cases e <;> first | exact ⟨I, β, env, st, .pan v, h1, h2, h3⟩ | exact h2.elim, LabelsSound.none fun _ => rfl⟩
  | .loop c => ⟨fun {Q env st} k => fun D I0 st0 w0 I β a w h => by
    obtain ⟨α, E, S, J, μ, x0, h0, he, hs, round⟩ := (show ∃ (α : Type) (E : α → Env) (S : α → St) (J : α → Prop) (μ : α → Nat) (x0 : α), J x0 ∧ (E x0).leC env ∧ St.le (S x0) st ∧
      ∀ x, J x → awp T C c (thenQ (fun env' st' => ∃ y, J y ∧ μ y < μ x ∧ (E y).leC env' ∧ St.le (S y) st') Q) (E x) (S x) from k)
    refine wp_loop_idx (fun n a w => ∃ I β x, Rel D I0 st0 w0 I β (E x) (S x) a w ∧ J x ∧ n = μ x) (n0 := μ x0) ⟨I, _, x0, (h.stLe hs).envLe (Env.le_of he), h0, rfl⟩ ?_
    rintro n a w ⟨I, β, x, h, hi, rfl⟩
    refine wp_mono ((awp_both hT hm hC hM c).1 (round x hi) D I0 st0 w0 I β a w h) ?_
    rintro e a w ⟨I, β, env, st, ae, h1, h2, h3⟩
    cases ae with
    | normal =>
      cases e <;> try exact h2.elim
      obtain ⟨y, g1, g2, g3, g4⟩ := h3
      exact ⟨μ y, g2, I, _, y, (h1.stLe g4).envLe (Env.le_of g3), g1, rfl⟩
    | exit i => cases e <;> first | exact ⟨I, β, env, st, .exit i, h1, h2, h3⟩ | exact h2.elim
    | goto i => cases e <;> first | exact ⟨I, β, env, st, .goto i, h1, h2, h3⟩ | exact h2.elim
    | ret => cases e <;> first | exact ⟨I, β, env, st, .ret, h1, h2, h3⟩ | exact h2.elim
    | pan v => cases e <;> first | exact ⟨I, β, env, st, .pan v, h1, h2, h3⟩ | exact h2.elim, LabelsSound.none fun _ => rfl⟩
  | .exit id => ⟨fun {Q env st} k => fun D I0 st0 w0 I β a w h => wp_exit ⟨I, β, env, st, .exit id, h, rfl, k⟩, LabelsSound.none fun _ => rfl⟩
  | .goto l => ⟨fun {Q env st} k => fun D I0 st0 w0 I β a w h => wp_goto ⟨I, β, env, st, .goto l, h, rfl, k⟩, LabelsSound.none fun _ => rfl⟩
  | .label l0 => ⟨fun {Q env st} k => fun D I0 st0 w0 I β a w h => wp_label ⟨I, β, env, st, .normal, h, trivial, k⟩, fun l f e => by
      have e : (bif Nat.beq l0 l then some fun (Q : AExit → Env → St → Prop) env st => Q .normal env st else none) = some f := e
      cases hb : Nat.beq l0 l with
      | false => rw [hb] at e; cases e
      | true =>
        rw [hb] at e
        cases e
        have := Nat.eq_of_beq_eq_true hb
        subst this
        exact ⟨.skip, by simp [findLabel], fun Q env st k => fun D I0 st0 w0 I β a w h => wp_skip ⟨I, β, env, st, .normal, h, trivial, k⟩⟩⟩
  | .ret => ⟨fun {Q env st} k => fun D I0 st0 w0 I β a w h => wp_ret ⟨I, β, env, st, .ret, h, trivial, k⟩, LabelsSound.none fun _ => rfl⟩
  | .rangeFunc .. => ⟨fun {Q env st} k => False.elim k, LabelsSound.none fun _ => rfl⟩
  | .scope c => ⟨fun {Q env st} k => fun D I0 st0 w0 I β a w h => by
      obtain ⟨α, lab, E, S, J, μ, first, pass⟩ := (show scopeWp (awp2 T C c).1 (awp2 T C c).2 Q env st from k)
      refine wp_scope_idx (fun l n a w => ∃ I β x, Rel D I0 st0 w0 I β (E x) (S x) a w ∧ J x ∧ lab x = l ∧ n = μ x) ?_ ?_
      · refine wp_mono ((awp_both hT hm hC hM c).1 first D I0 st0 w0 I β a w h) ?_
        rintro e a w ⟨I, β, env, st, ae, h1, h2, h3⟩
        cases ae with
        | goto i =>
          cases e <;> try exact h2.elim
          have h2 : _ = i := h2
          subst h2
          obtain ⟨y, g1, g2, g3, g4⟩ := h3
          exact ⟨μ y, I, _, y, (h1.stLe g4).envLe (Env.le_of g3), g2, g1, rfl⟩
        | normal => cases e <;> first | exact ⟨I, β, env, st, .normal, h1, h2, h3⟩ | exact h2.elim
        | exit i => cases e <;> first | exact ⟨I, β, env, st, .exit i, h1, h2, h3⟩ | exact h2.elim
        | ret => cases e <;> first | exact ⟨I, β, env, st, .ret, h1, h2, h3⟩ | exact h2.elim
        | pan v => cases e <;> first | exact ⟨I, β, env, st, .pan v, h1, h2, h3⟩ | exact h2.elim
      · rintro l n a w ⟨I, β, x, h, hi, rfl, rfl⟩
        obtain ⟨f, hf, hp⟩ := pass x hi
        obtain ⟨rest, hr, hs⟩ := (awp_both hT hm hC hM c).2 _ f hf
        refine ⟨rest, hr, wp_mono (hs _ _ _ hp D I0 st0 w0 I β a w h) ?_⟩
        rintro e a w ⟨I, β, env, st, ae, h1, h2, h3⟩
        cases ae with
        | goto i =>
          cases e <;> try exact h2.elim
          have h2 : _ = i := h2
          subst h2
          obtain ⟨y, g1, g2, gm, g3, g4⟩ := h3
          exact ⟨μ y, gm, I, _, y, (h1.stLe g4).envLe (Env.le_of g3), g2, g1, rfl⟩
        | normal => cases e <;> first | exact ⟨I, β, env, st, .normal, h1, h2, h3⟩ | exact h2.elim
        | exit i => cases e <;> first | exact ⟨I, β, env, st, .exit i, h1, h2, h3⟩ | exact h2.elim
        | ret => cases e <;> first | exact ⟨I, β, env, st, .ret, h1, h2, h3⟩ | exact h2.elim
        | pan v => cases e <;> first | exact ⟨I, β, env, st, .pan v, h1, h2, h3⟩ | exact h2.elim, LabelsSound.none fun _ => rfl⟩
  | .refuse _ => ⟨fun {Q env st} k => False.elim k, LabelsSound.none fun _ => rfl⟩

/-- what is asked of a program: the table of types is right; a statement's orders are mixed -/
structure POk (P : Program) (T : List (Nat × Ty)) : Prop where
  t : TOk P T
  m : P.follows .mixedOrders = true

theorem awp_sound (hP : POk P T) (hC : ∀ f args st R, C f args st R → ACalls P f args st R ∧ Plain P f) (hM : ∀ f args st (R R' : Res → St → Prop), (∀ r s, R r s → R' r s) → C f args st R → C f args st R') (c : Code) {Q : AExit → Env → St → Prop} {env : Env} {st : St} (h : awp T C c Q env st) : AW P c Q env st := (awp_both hP.t hP.m hC hM c).1 h
end
end Go.Aw
