/-
  LAYOUT: Next.
-/
import Derived.Test.YtngbihfihdheoaaLay2
set_option linter.unusedVariables false
set_option pp.maxSteps 400
namespace Go.Aw
/-- a loop in which boxes change too -/
noncomputable def Env.ath (env : Env) (ch : List (Nat × V)) (keep : List Nat) (cb : List (Nat × List V)) (kb : List Nat) : Env := match env with
  | ⟨ts, bs, n, sz, gl⟩ => ⟨Env.ts ⟨ts, bs, n, sz, gl⟩ ch keep, cb ++ Env.bx ⟨ts, bs, n, sz, gl⟩ kb, n, sz, gl⟩
theorem loop_h {ih : (AExit → Env → St → Prop) → Env → St → Prop} {Q : AExit → Env → St → Prop} {env : Env} {st : St} {α : Type} (f : α → List (Nat × V)) (keep : List Nat) (g : α → List (Nat × List V)) (kb : List Nat) (S : α → St) (J : α → Prop) (μ : α → Nat) (x0 : α) (h0 : J x0)
    (he : (env.ath (f x0) keep (g x0) kb).leC env) (hs : St.le (S x0) st)
    (hb : ∀ x, J x → ih (thenQ (fun env' st' => ∃ y, J y ∧ μ y < μ x ∧ (env.ath (f y) keep (g y) kb).leC env' ∧ St.le (S y) st') Q) (env.ath (f x) keep (g x) kb) (S x)) :
    ∃ (α : Type) (E : α → Env) (S : α → St) (J : α → Prop) (μ : α → Nat) (x0 : α), J x0 ∧ (E x0).leC env ∧ St.le (S x0) st ∧
      ∀ x, J x → ih (thenQ (fun env' st' => ∃ y, J y ∧ μ y < μ x ∧ (E y).leC env' ∧ St.le (S y) st') Q) (E x) (S x) :=
  ⟨α, fun k => env.ath (f k) keep (g k) kb, S, J, μ, x0, h0, he, hs, hb⟩
theorem scope_none {T : List (Nat × Ty)} {C : FuncId → List V → St → (Res → St → Prop) → Prop} {w : CW} {lw : Nat → Option CW} {Q : AExit → Env → St → Prop} {env : Env} {st : St}
    (h : w (gotoQ (fun l env' st' => ∃ y : Nat, y = l ∧ False ∧ env.leC env' ∧ St.le st st') Q) env st) : scopeWp w lw Q env st :=
  ⟨Nat, fun y => y, fun _ => env, fun _ => st, fun _ => False, fun _ => 0, h, fun x e => e.elim⟩
end Go.Aw
namespace Go.Proofs.Ytngbihfihdheoaa
open Go Go.Aw

def nextG : Nat → Sta → Tk × Sta × Int
  | 0, s => endF s
  | n + 1, s => match s.toks[s.pos.toNat]? with
    | none => endF s
    | some t => if t.kind = 16 ∧ s.wait < 2 then ((beginF t s).1, (beginF t s).2, 0)
      else if t.kind = 16 ∨ t.kind = 17 then
        if (lineF t s).1.kind = 0 then nextG n (lineF t s).2 else ((lineF t s).1, (lineF t s).2, 0)
      else braceF t s
def nextF (s : Sta) : Tk × Sta × Int := nextG (s.toks.length - s.pos.toNat) s
/-- the next token, and the state behind it -/
def nextM (s : Sta) : Tk × Sta × Int := if mayF s then nextF s else (tk0, sta0, 1)

theorem lineF_zero {t : Tk} {s : Sta} (h : (lineF t s).1.kind = 0) : (lineF t s).2 = { s with pos := s.pos + 1, wait := 0 } := by
  unfold lineF at h ⊢
  split
  · rename_i e; rw [if_pos e] at h; exact absurd h (by simp [unwF])
  · rename_i e; rw [if_neg e] at h
    split <;> rfl
theorem nextF_end {s : Sta} (h : ¬ s.pos < s.toks.length) (h0 : 0 ≤ s.pos) : nextF s = endF s := by
  have : s.toks.length - s.pos.toNat = 0 := by omega
  rw [nextF, this, nextG]
theorem nextF_at {s : Sta} {t : Tk} (h : s.toks[s.pos.toNat]? = some t) (h0 : 0 ≤ s.pos) : nextF s = if t.kind = 16 ∧ s.wait < 2 then ((beginF t s).1, (beginF t s).2, 0)
      else if t.kind = 16 ∨ t.kind = 17 then
        if (lineF t s).1.kind = 0 then nextF (lineF t s).2 else ((lineF t s).1, (lineF t s).2, 0)
      else braceF t s := by
  obtain ⟨hlt, _⟩ := List.getElem?_eq_some_iff.1 h
  obtain ⟨n, hn⟩ : ∃ n, s.toks.length - s.pos.toNat = n + 1 := ⟨s.toks.length - s.pos.toNat - 1, by omega⟩
  rw [nextF, hn, nextG, h]
  dsimp only
  split
  · rfl
  · split
    · split
      · rename_i e
        rw [nextF, lineF_zero e]
        congr 1
        show n = s.toks.length - (s.pos + 1).toNat
        omega
      · rfl
    · rfl

section
variable {st : St} {R : Res → St → Prop}
attribute [local irreducible] Go.Aw.appendTo
theorem next_c {s : Sta} (hb : s.opn.length ≤ 500000000) (h : R (.ret (encTSE (nextM s))) st) : PC 41 [encS s] st R := by
  refine pcalls_of_body tys_ok [] Try.func41 rfl (by decide) ?_
  conv => whnf
  refine scope_none (T := tys) (C := PCalls Try.prog) ?_
  unfold nextM at h
  repeat' (conv => whnf
           first
             | with_reducible exact quiet_same
             | with_reducible exact quiet_bool
             | with_reducible exact quiet_not
             | with_reducible refine draw_step (by kernel_rfl) ?_
             | with_reducible refine quiet_go ?_ ?_ ?_
             | with_reducible refine bcase_yes (by first | assumption | omega) ?_
             | with_reducible refine bcase_no (by first | assumption | omega) ?_
             | with_reducible refine bcase_dyes (by omega) ?_
             | with_reducible refine bcase_dno (by omega) ?_
             | with_reducible refine bcase_len (by decide) (fun _ => ?_) (fun _ => ?_)
             | with_reducible refine bcase_eq (fun _ => ?_) (fun _ => ?_)
             | with_reducible refine bcase_dec (fun _ => ?_) (fun _ => ?_)
             | with_reducible refine bcase_true ?_
             | with_reducible refine bcase_false ?_
             | with_reducible refine bcase_intro (fun _ => ?_) (fun _ => ?_)
             | with_reducible refine len_kids (fun _ => ?_)
             | with_reducible refine at_known (by assumption) (by omega) ?_
             | with_reducible refine at_kid (by omega) (by omega) (fun _ _ _ => ?_)
             | with_reducible refine tail_kids (by omega) (by omega) ?_
             | with_reducible refine slice_kids (by omega) (by omega) (by omega) ?_
             | with_reducible refine ex_wrap (by omega) (by omega) ?_
             | with_reducible refine quo_step (by decide) (by omega) (by omega) ?_
             | with_reducible refine rem_step (by decide) ?_
             | with_reducible refine nil_row (fun _ => ?_) ?_
             | with_reducible refine nil_row2 (fun _ => ?_) ?_
             | with_reducible refine len_toks (fun _ => ?_)
             | with_reducible refine len_ints (fun _ => ?_)
             | with_reducible refine tok_known (by assumption) (by omega) ?_
             | with_reducible refine at_tok (by omega) (by omega) (fun _ _ => ?_)
             | with_reducible refine at_int (by omega) (by omega) (fun _ _ => ?_)
             | with_reducible refine slice_ints (by omega) (by omega) (by omega) ?_
             | refine may_c (s := s) ?_
             | with_reducible refine draw_head ?_)
  · rename_i e
    rw [e] at h
    have hm := e
    unfold mayF at hm
    simp only [Bool.and_eq_true, decide_eq_true_eq] at hm
    refine loop_h (α := Sta) (fun x => []) [1, 2, 3, 4] (fun x => [(0, x.cells)]) [1, 2] (fun _ => st) (fun x => x.toks = s.toks ∧ x.opn = s.opn ∧ 0 ≤ x.pos ∧ x.pos ≤ x.toks.length ∧ nextF x = nextF s) (fun x => x.toks.length - x.pos.toNat) s ⟨rfl, rfl, by omega, by omega, rfl⟩ (by refine ⟨rfl, ?_, ?_, rfl⟩ <;> repeat' (first | exact trivial | exact rfl | refine And.intro ?_ ?_)) (St.le_refl _) ?_
    rintro x ⟨x1, x2, x3, x4, x5⟩
    rw [← x5] at h
    have hb' : x.opn.length ≤ 500000000 := by rw [x2]; exact hb
    repeat' (conv => whnf
             first
               | with_reducible exact quiet_same
               | with_reducible exact quiet_bool
               | with_reducible exact quiet_not
               | with_reducible refine draw_step (by kernel_rfl) ?_
               | with_reducible refine quiet_go ?_ ?_ ?_
               | with_reducible refine bcase_yes (by first | assumption | omega) ?_
               | with_reducible refine bcase_no (by first | assumption | omega) ?_
               | with_reducible refine bcase_dyes (by omega) ?_
               | with_reducible refine bcase_dno (by omega) ?_
               | with_reducible refine bcase_len (by decide) (fun _ => ?_) (fun _ => ?_)
               | with_reducible refine bcase_eq (fun _ => ?_) (fun _ => ?_)
               | with_reducible refine bcase_dec (fun _ => ?_) (fun _ => ?_)
               | with_reducible refine bcase_true ?_
               | with_reducible refine bcase_false ?_
               | with_reducible refine bcase_intro (fun _ => ?_) (fun _ => ?_)
               | with_reducible refine len_kids (fun _ => ?_)
               | with_reducible refine at_known (by assumption) (by omega) ?_
               | with_reducible refine at_kid (by omega) (by omega) (fun _ _ _ => ?_)
               | with_reducible refine tail_kids (by omega) (by omega) ?_
               | with_reducible refine slice_kids (by omega) (by omega) (by omega) ?_
               | with_reducible refine ex_wrap (by omega) (by omega) ?_
               | with_reducible refine quo_step (by decide) (by omega) (by omega) ?_
               | with_reducible refine rem_step (by decide) ?_
               | with_reducible refine nil_row (fun _ => ?_) ?_
               | with_reducible refine nil_row2 (fun _ => ?_) ?_
               | with_reducible refine len_toks (fun _ => ?_)
               | with_reducible refine len_ints (fun _ => ?_)
               | with_reducible refine tok_known (by assumption) (by omega) ?_
               | with_reducible refine at_tok (by omega) (by omega) (fun _ _ => ?_)
               | with_reducible refine at_int (by omega) (by omega) (fun _ _ => ?_)
               | with_reducible refine slice_ints (by omega) (by omega) (by omega) ?_
               | refine begin_c (s := x) ⟨by omega, by omega⟩ hb' ?_
               | refine line_c (s := x) ⟨by omega, by omega⟩ hb' ?_
               | refine brace_c (s := x) ⟨by omega, by omega⟩ hb' ?_
               | refine end_c (s := x) hb' ?_
               | with_reducible refine draw_head ?_)
    all_goals rw [if_pos rfl] at h
    all_goals first
      | (rw [nextF_at (by assumption) x3, if_pos (by omega)] at h; exact finw rfl h)
      | (rw [nextF_at (by assumption) x3, if_neg (by omega), if_pos (by omega), if_neg (by omega)] at h; exact finw rfl h)
      | (rw [nextF_at (by assumption) x3, if_neg (by omega), if_neg (by omega)] at h; exact finw rfl h)
      | (rw [nextF_end (by omega) x3] at h; exact finw rfl h)
      | (have hz : (lineF ‹Tk› x).1.kind = 0 := by assumption
         refine ⟨(lineF ‹Tk› x).2, ?_, ?_, (by refine ⟨rfl, ?_, ?_, rfl⟩ <;> repeat' (first | exact trivial | exact rfl | refine And.intro ?_ ?_)), St.le_refl _⟩
         · rw [lineF_zero hz]
           refine ⟨x1, x2, by show 0 ≤ x.pos + 1; omega, by show x.pos + 1 ≤ x.toks.length; omega, ?_⟩
           rw [← x5, nextF_at (s := x) (by assumption) x3, if_neg (by omega), if_pos (by omega), if_pos hz, lineF_zero hz]
         · rw [lineF_zero hz]
           show x.toks.length - (x.pos + 1).toNat < _
           omega)
    all_goals trace_state
  · rename_i e
    rw [e] at h
    exact finw rfl h
end
end Go.Proofs.Ytngbihfihdheoaa
