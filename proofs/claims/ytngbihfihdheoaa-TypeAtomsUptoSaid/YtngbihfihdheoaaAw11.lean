/-
  AW, PART 11. A table of types, row by row; tactics' lemmas for those who use all this.
-/
import Derived.Test.YtngbihfihdheoaaAw10
import Derived.KernelRfl
set_option linter.unusedVariables false
set_option linter.unusedSimpArgs false
namespace Go.Aw
open Go

section
variable {P : Program} {T : List (Nat × Ty)}

theorem TOk_of (h : ∀ p ∈ T, TyOk P p.1 p.2) : TOk P T := fun t ty e => h (t, ty) (assoc_mem e)
theorem all_nil {p : Nat × Ty → Prop} : ∀ q ∈ ([] : List (Nat × Ty)), p q := fun _ h => (by cases h)
theorem all_cons {p : Nat × Ty → Prop} {x : Nat × Ty} {l : List (Nat × Ty)} (h : p x) (k : ∀ q ∈ l, p q) : ∀ q ∈ x :: l, p q := fun q hq => by
  rcases List.mem_cons.1 hq with rfl | hq
  · exact h
  · exact k q hq

/-- a zero's value -/
def zval : V → Value
  | .int k n => .int k n
  | .bool b => .bool b
  | .str s => .string ⟨s.toArray⟩
  | .slice _ _ _ => .slice none 0 0
  | .nilp => .pointer none
  | .nilf => .nilFunc
  | .nili => .nilIface
  | _ => undef
def isZero : V → Bool
  | .int _ _ | .bool _ | .nilp | .nilf | .nili => true
  | .str [] => true
  | .slice (_ + 1) [] .full => true
  | _ => false
theorem rep_zero {I : Mem} {z : V} (h : isZero z = true) : Rep I z (zval z) := by
  unfold isZero at h
  split at h
  · simp only [Rep, zval]
  · simp only [Rep, zval]
  · simp only [Rep, zval]
  · simp only [Rep, zval]
  · simp only [Rep, zval]
  · simp [Rep, zval, lim]
  · exact rep_nil (Nat.succ_pos _) _ (.inl rfl)
  · cases h
theorem repL_zero {I : Mem} : ∀ {z : List V}, z.all isZero = true → RepL I z (z.map zval)
  | [], _ => by simp only [RepL, List.map_nil]
  | v :: r, h => by
    simp only [List.all_cons, Bool.and_eq_true] at h
    simp only [RepL, List.map_cons]
    exact ⟨_, _, rfl, rep_zero h.1, repL_zero h.2⟩
theorem zero_one {z : V} (h : isZero z = true) : (zval z).cells = #[zval z] ∧ z.known = true ∧ z.cells = [z] := by
  unfold isZero at h
  split at h
  all_goals first | (cases h; done) | exact ⟨rfl, rfl, rfl⟩

theorem ty_sc {t : TypeId} {z : V} {d : TypeDesc} (hu : P.underlying t = some d) (ha : aggD d = false) (hz : isZero z = true)
    (hi : (P.info? t).map (fun i => (i.zero, i.size)) = some (some (zval z), 1)) (hs : match z with | .str _ => d = .string | .nili => ∃ ms, d = .interface ms | _ => ∀ ms, d ≠ .interface ms) : TyOk P t (.sc z) := by
  cases hp : P.info? t with
  | none => rw [hp] at hi; cases hi
  | some i =>
    rw [hp] at hi
    simp only [Option.map_some, Option.some.injEq, Prod.mk.injEq] at hi
    obtain ⟨h1, h2, h3⟩ := zero_one hz
    exact ⟨i, d, zval z, hp, hu, ha, hi.2, hi.1, rep_zero hz, h1, h2, h3, hs⟩
theorem ty_slice {t e : TypeId} {sz bytes : Nat} {c : Value} (hu : P.underlying t = some (.slice e)) (hi : (P.info? t).map (fun i => (i.zero, i.size)) = some (some (.slice none 0 0), 1))
    (hj : (P.info? e).map (fun i => (i.zero, i.size, i.bytes)) = some (some c, sz, bytes)) (h0 : 0 < sz) (hc : c.cells.size = sz) : TyOk P t (.slice e sz bytes) := by
  cases hp : P.info? t with
  | none => rw [hp] at hi; cases hi
  | some i =>
    cases hq : P.info? e with
    | none => rw [hq] at hj; cases hj
    | some j =>
      rw [hp] at hi
      rw [hq] at hj
      simp only [Option.map_some, Option.some.injEq, Prod.mk.injEq] at hi hj
      exact ⟨i, j, c, hp, hu, hi.2, hi.1, hq, hj.2.1, hj.2.2, h0, hj.1, hc⟩
theorem ty_struct {t : TypeId} {offs : List (Nat × Nat)} {z : List V} {fields : Array Field} (hu : P.underlying t = some (.struct fields)) (hz : z.all isZero = true)
    (hi : (P.info? t).map (fun i => (i.zero, i.size)) = some (some (.agg (z.map zval).toArray), z.length))
    (hf : fields.toList.map (fun f => (f.offset, (P.info? f.type).map (·.size))) = offs.map (fun p => (p.1, some p.2))) (he : (!flatB z || eqOkB P t z) = true) : TyOk P t (.struct offs z) := by
  cases hp : P.info? t with
  | none => rw [hp] at hi; cases hi
  | some i =>
    rw [hp] at hi
    simp only [Option.map_some, Option.some.injEq, Prod.mk.injEq] at hi
    refine ⟨i, fields, z.map zval, hp, hu, hi.2, hi.1, repL_zero hz, ?_, fun n o s e => ?_, fun hfl => by rw [hfl] at he; simpa using he⟩
    · have := congrArg List.length hf
      simpa using this
    · have h1 : (offs.map fun p => (p.1, some p.2))[n]? = some (o, some s) := by rw [List.getElem?_map, e]; rfl
      rw [← hf, List.getElem?_map] at h1
      cases hg : fields.toList[n]? with
      | none => rw [hg] at h1; cases h1
      | some f =>
        rw [hg] at h1
        simp only [Option.map_some, Option.some.injEq, Prod.mk.injEq] at h1
        cases hj : P.info? f.type with
        | none => rw [hj] at h1; cases h1.2
        | some j =>
          rw [hj] at h1
          simp only [Option.map_some, Option.some.injEq] at h1
          exact ⟨f, j, by simpa using hg, h1.1, hj, h1.2⟩
end

/-- a call whose arguments tell more than what is asked -/
theorem pcalls_wk {P : Program} {f : FuncId} {args args' : List V} {st : St} {R : Res → St → Prop} (e : args' = args.map V.wk) (h : PCalls P f args' st R) : PCalls P f args st R := by
  subst e
  exact ⟨fun I w cargs hs ha => h.a I w cargs hs (RepL.map (fun _ _ k => k.wk) ha), h.b⟩

/-- a loop: its frame and memory, as functions of what it goes by -/
theorem awp_loop {T : List (Nat × Ty)} {C : FuncId → List V → St → (Res → St → Prop) → Prop} {c : Code} {Q : AExit → Env → St → Prop} {env : Env} {st : St} {α : Type} (E : α → Env) (S : α → St) (J : α → Prop) (μ : α → Nat)
    (x0 : α) (h0 : J x0) (he : (E x0).leC env) (hs : St.le (S x0) st)
    (round : ∀ x, J x → awp T C c (thenQ (fun env' st' => ∃ y, J y ∧ μ y < μ x ∧ (E y).leC env' ∧ St.le (S y) st') Q) (E x) (S x)) : awp T C (.loop c) Q env st := by
  exact ⟨α, E, S, J, μ, x0, h0, he, hs, round⟩
end Go.Aw
