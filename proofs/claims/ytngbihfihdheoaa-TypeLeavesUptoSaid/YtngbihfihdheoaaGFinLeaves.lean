/-
  The leaves of a type are just the tokens that were passed over: the statement, where what it reads is of bulk at most 1048576.
-/
import Derived.Test.YtngbihfihdheoaaG4
set_option linter.unusedVariables false
set_option linter.unusedSimpArgs false
namespace Go.Proofs.Ytngbihfihdheoaa.typeLeaves
open Go Go.Aw Go.ChangeShapes Go.WideShapes Go.ChangeAt Go.RowKit

theorem own : ownKnob Try.prog.godebug = none := by kernel_rfl
theorem laid : laidOutB Try.prog = true := by kernel_rfl
theorem maps : mapsRowed Try.prog = true := by kernel_rfl
theorem full : ((List.range Try.prog.types.size).all fun t => match Try.prog.underlying t with | some (.slice e) => decide (0 < Try.prog.cellsOf e) | _ => true) = true := by kernel_rfl
theorem shut : closedB Try.prog [25, 22, 47, 23, 3, 9] = true := by kernel_rfl

theorem contract (H : Type) (enc' : TypeId × Value → H) (W : World) (base : Nat) (args : Array Value) (ds gs : List (DataW H)) (before : List MemPlace) (hk : Rows.uptoSmall H (ds ++ gs) = true)
    (hval : ∀ (j : Nat) t v, Try.f8.params[j]? = some t → args[j]? = some v → Value.okWide Try.prog W .any base t v)
    (hW : DataW.Whole enc' Try.prog Try.f8.params.toList Rows.typeLeavesSpec.vars false W args.toList ds gs before) :
    Calls Try.prog 8 args W fun e W' => ∃ v, e = .returned v ∧ Rows.typeLeavesSpec.post enc' Try.prog Try.f8 false true false false W args v W' := by
  have hW' := hW
  obtain ⟨p, q, hA0, hV, rfl, hfz, hnd⟩ := hW
  have hA : DataW.TrodAll enc' Try.prog W 0 (fun _ => true) true Try.f8.params.toList args.toList ds p := hA0
  rw [Try.params8] at hA hval
  obtain ⟨v0, vs0, d0, ds0, p0, q0, hargs, rfl, rfl, ⟨n0, h0⟩, r0⟩ := trodAll_cons hA
  obtain ⟨v1, vs1, d1, ds1, p1, q1, rfl, rfl, rfl, ⟨n1, h1⟩, r1⟩ := trodAll_cons r0
  obtain ⟨rfl, rfl, rfl⟩ := trodAll_nil r1
  obtain rfl : args = #[v0, v1] := by cases args; simp_all
  have hsmall : Rows.uptoBulk d0 + Rows.uptoBulk d1 ≤ 1048576 := by
    have : Rows.uptoBulkAll ([d0, d1] ++ gs) ≤ 1048576 := of_decide_eq_true hk
    simp only [List.cons_append, List.nil_append, Rows.uptoBulkAll] at this
    omega
  obtain ⟨us0, g0, _, k0⟩ := dec_sound (B := 1048576) (kids_rows laid maps) shut (by decide) n0 25 v0.cells.toList (d0, p0) (by decide) (show Rows.uptoBulk d0 ≤ 1048576 by omega) h0
  obtain ⟨a0, rfl⟩ := dec_state g0
  have e0 : Rep (allMem W) (encS a0) v0 := rep_struct (agg_of_ok Try.underlying25 (hval 0 _ v0 rfl rfl)) k0
  obtain ⟨us1, g1, _, k1⟩ := dec_sound (B := 1048576) (kids_rows laid maps) shut (by decide) n1 3 v1.cells.toList (d1, p1) (by decide) (show Rows.uptoBulk d1 ≤ 1048576 by omega) h1
  obtain ⟨a1, rfl⟩ := dec_int Try.underlying3 g1
  have e1 : Rep (allMem W) (.int .i64 a1) v1 := rep_int_one Try.underlying3 (hval 1 _ v1 rfl rfl) k1
  have hrep : RepL (allMem W) [encS a0, .int .i64 a1] (#[v0, v1] : Array Value).toList := by
    simp only [RepL]
    exact ⟨v0, _, rfl, e0, ⟨v1, _, rfl, e1, rfl⟩⟩
  refine (law_call (lawLeaves_c (st := noSt) (R := fun r _ => r = .ret (.bool true))  rfl) hrep).mono fun e W' ⟨he, hkept⟩ => ?_
  obtain ⟨rfl, _⟩ := trodVars_none hV
  exact ⟨_, he, law_post laid maps full rfl Try.underlying4 (by intro t ht; rw [Try.params8] at ht; simp at ht; rcases ht with rfl | rfl <;> decide +kernel) rfl hW' rfl hkept⟩

set_option maxRecDepth 100000 in
theorem lifted (os : Os) (started : os.Started) (H : Type) (enc' : TypeId × Value → H) (F : Stop.Interp) :
    ReturnsInHanded {} Try.checked os 8 .any ((Rows.OpenSpec.upto Rows.typeLeavesSpec).pre6 enc' Try.prog Try.f8 Rows.typeLeavesUptoRow.domain false) (((Rows.OpenSpec.upto Rows.typeLeavesSpec).at F).post enc' Try.prog Try.f8 false true false false) := by
  refine returnsInHanded_of_cond (C := Try.checked) (s := Rows.OpenSpec.upto Rows.typeLeavesSpec) (k := Rows.uptoSmall) rfl own started (by kernel_rfl) Try.func8
    (OpenSpec.witness (enc := enc') (C := Try.checked) (s := Rows.OpenSpec.upto Rows.typeLeavesSpec) (k := Rows.uptoSmall) rfl false ⟨#[], #[.agg #[.slice none 0 0, .int .i64 0, .slice none 0 0, .int .i64 0], .int .i64 0], []⟩ 8 (by kernel_rfl) (by kernel_rfl) (by kernel_rfl)
      (x := ([.agg [.nil, .lit (.int .i64 0), .nil, .lit (.int .i64 0)], .lit (.int .i64 0)], [], [])) (by kernel_rfl) rfl (by kernel_rfl)) ?_
  intro W base args ds gs before hval hW _ hk _
  exact contract H enc' W base args ds gs before hk hval hW

theorem over : Rows.typeLeavesUptoRow.holds Try.pinned (Rows.OpenSpec.upto Rows.typeLeavesSpec) :=
  OpenClaim.holds_of_cond 8 Try.f8 rfl rfl rfl rfl rfl rfl rfl ⟨rfl, rfl, rfl, rfl, rfl⟩ rfl rfl rfl rfl rfl (by kernel_rfl) Try.func8 (by kernel_rfl)
    (of_decide_eq_true (by kernel_rfl)) (by unfold Func.isWrapper; first | (rw [if_pos (by decide +kernel)]; kernel_rfl) | (rw [if_neg (by decide +kernel)]; exact ⟨rfl, rfl⟩))
    (fun os started H enc' _ F => lifted os started H enc' F)

theorem proved : Rows.TypeLeavesUptoSaid :=
  over
#print axioms proved
end Go.Proofs.Ytngbihfihdheoaa.typeLeaves
