/-
  AW, PART 19. Parts of code one behind the other; a call's end with less told.
-/
import Derived.Test.YtngbihfihdheoaaAw18
set_option linter.unusedVariables false
namespace Go.Aw
open Go

section
variable {P : Program}
theorem AW_seq2 {x y : Code} {Q : AExit → Env → St → Prop} {env : Env} {st : St} (h : AW P x (thenQ (fun env st => AW P y Q env st) Q) env st) : AW P (.seq x y) Q env st := fun D I0 st0 w0 I β a w hr => by
    refine wp_seq (wp_mono (h D I0 st0 w0 I β a w hr) ?_)
    rintro e a w ⟨I, β, env, st, ae, h1, h2, h3⟩
    cases ae with
    | normal => cases e <;> first | exact h3 D I0 st0 w0 I β a w h1 | exact h2.elim
    | exit i => cases e <;> first | exact ⟨I, β, env, st, .exit i, h1, h2, h3⟩ | exact h2.elim
    | goto i => cases e <;> first | exact ⟨I, β, env, st, .goto i, h1, h2, h3⟩ | exact h2.elim
    | ret => cases e <;> first | exact ⟨I, β, env, st, .ret, h1, h2, h3⟩ | exact h2.elim
    | pan v => cases e <;> first | exact ⟨I, β, env, st, .pan v, h1, h2, h3⟩ | exact h2.elim
theorem aw_of {T : List (Nat × Ty)} (hP : POk P T) {c : Code} {Q : AExit → Env → St → Prop} {env : Env} {st : St} (h : awp T (PCalls P) c Q env st) : AW P c Q env st :=
  awp_sound hP (pcalls_sound P) (fun _ _ _ _ _ h k => k.mono h) c h

/-- what a walk's end leaves -/
def Ends (R : Res → St → Prop) (r : Res) (st : St) : Prop := ∃ r2 st2, (r2 = r ∨ r2 = r.wk) ∧ St.le st2 st ∧ R r2 st2
theorem PCalls.ends {f : FuncId} {args : List V} {st : St} {R : Res → St → Prop} (h : PCalls P f args st (Ends R)) : PCalls P f args st R := by
  refine ⟨fun I w cargs hs ha => (h.a I w cargs hs ha).mono ?_, h.b⟩
  rintro e w' ⟨I', st', r, k1, k2, k3, r2, st2, k4, k5, k6⟩
  have hr : Rel [] I st w I' (fun _ => none) { tmps := [], boxes := [], nxt := 0, sz := 0, gl := [] } st' { tmps := #[], defers := [] } w' :=
    ⟨k1, k2, ⟨rfl, fun t v e => (by cases e), fun id cs e => (by cases e), fun id b e => (by cases e), fun i j b e => (by cases e), fun id b e => (by cases e), rfl⟩⟩
  have hr' := hr.stLe k5
  refine ⟨I', st2, r2, hr'.fr, hr'.s, ?_, k6⟩
  rcases k4 with rfl | rfl
  · exact k3
  · cases e with
    | returned c =>
      cases r with
      | ret v => exact Rep.wk k3
      | pan v => exact k3.elim
    | panicked chain =>
      cases r with
      | ret v => exact k3.elim
      | pan v =>
        obtain ⟨c, h1, h2⟩ := k3
        exact ⟨c, h1, Rep.wk h2⟩
    | outgrown => cases r <;> exact k3.elim
end
end Go.Aw
