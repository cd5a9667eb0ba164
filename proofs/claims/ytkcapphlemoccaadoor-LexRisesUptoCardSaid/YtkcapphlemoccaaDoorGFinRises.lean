/-
  tokens rise by their places, comments by theirs and by their gaps; each comment is one: the statement, where what it reads is of bulk at most 1048576.
-/
import Derived.Test.YtkcapphlemoccaaDoorG4
set_option linter.unusedVariables false
set_option linter.unusedSimpArgs false
namespace Go.Proofs.YtkcapphlemoccaaDoor.lexRises
open Go Go.Aw Go.ChangeShapes Go.WideShapes Go.ChangeAt Go.RowKit

theorem laid : laidOutB Tryd.prog = true := by kernel_rfl
theorem maps : mapsRowed Tryd.prog = true := by kernel_rfl
theorem full : ((List.range Tryd.prog.types.size).all fun t => match Tryd.prog.underlying t with | some (.slice e) => decide (0 < Tryd.prog.cellsOf e) | _ => true) = true := by kernel_rfl
theorem shut : closedB Tryd.prog [9] = true := by kernel_rfl

set_option maxRecDepth 100000 in
theorem contract (H : Type) (enc' : TypeId × Value → H) (W : World) (base : Nat) (args : Array Value) (ds gs : List (DataW H)) (before : List MemPlace) (hk : Rows.uptoSmall H (ds ++ gs) = true) (hL : laidMetH Tryd.prog Rows.lexRisesUptoRow.laid W) (hsh : W.ShapedOpen Tryd.prog)
    (hval : ∀ (j : Nat) t v, Tryd.f4.params[j]? = some t → args[j]? = some v → Value.okWide Tryd.prog W .any base t v)
    (hW : DataW.Whole enc' Tryd.prog Tryd.f4.params.toList Rows.lexRisesSpec.vars false W args.toList ds gs before) :
    Calls Tryd.prog 4 args W fun e W' => ∃ v, e = .returned v ∧ Rows.lexRisesSpec.post enc' Tryd.prog Tryd.f4 false true false false W args v W' := by
  have hg := gtab_of (laid_of (by kernel_rfl) hL) hsh
  have hW' := hW
  obtain ⟨p, q, hA0, hV, rfl, hfz, hnd⟩ := hW
  have hA : DataW.TrodAll enc' Tryd.prog W 0 (fun _ => true) true Tryd.f4.params.toList args.toList ds p := hA0
  rw [Tryd.params4] at hA hval
  obtain ⟨v0, vs0, d0, ds0, p0, q0, hargs, rfl, rfl, ⟨n0, h0⟩, r0⟩ := trodAll_cons hA
  obtain ⟨rfl, rfl, rfl⟩ := trodAll_nil r0
  obtain rfl : args = #[v0] := by cases args; simp_all
  have hsmall : Rows.uptoBulk d0 ≤ 1048576 := by
    have : Rows.uptoBulkAll ([d0] ++ gs) ≤ 1048576 := of_decide_eq_true hk
    simp only [List.cons_append, List.nil_append, Rows.uptoBulkAll] at this
    omega
  obtain ⟨us0, g0, _, k0⟩ := dec_sound (B := 1048576) (kids_rows laid maps) shut (by decide) n0 9 v0.cells.toList (d0, p0) (by decide) (show Rows.uptoBulk d0 ≤ 1048576 by omega) h0
  obtain ⟨a0, rfl, hz0⟩ := dec_str Tryd.underlying9 g0
  have e0 : Rep (allMem W) (.str a0) v0 := rep_str_one Tryd.underlying9 (hval 0 _ v0 rfl rfl) k0
  have hz0 : a0.length + 1 = Rows.uptoBulk d0 := hz0
  have hrep : RepL (allMem W) [.str a0] (#[v0] : Array Value).toList := by
    simp only [RepL]
    exact ⟨v0, _, rfl, e0, rfl⟩
  refine (law_call hg (lexRises_c (st := topSt) (R := fun r _ => r = .ret (.bool true)) (by omega) (fun _ => rfl)) hrep).mono fun e W' ⟨he, hkept⟩ => ?_
  obtain ⟨rfl, _⟩ := trodVars_none hV
  exact ⟨_, he, law_post laid maps full rfl Tryd.underlying4 (by intro t ht; rw [Tryd.params4] at ht; simp at ht; subst ht; decide +kernel) rfl hW' rfl hkept⟩

set_option maxRecDepth 100000 in
theorem witness_row (os : Os) {H : Type} (enc' : TypeId × Value → H) :
    (Rows.OpenSpec.upto Rows.lexRisesSpec).preRow enc' Tryd.prog Tryd.f4 Rows.lexRisesUptoRow.domain false Rows.lexRisesUptoRow.laid ((laidWorld os).forCall (fun _ _ => 0) ⟨#[], #[.string ⟨#[]⟩], []⟩).memory #[.string ⟨#[]⟩] := by
  have hw : (DataW.whole enc' Tryd.prog ((laidWorld os).forCall (fun _ _ => 0) ⟨#[], #[.string ⟨#[]⟩], []⟩).memory Tryd.f4.params.toList Rows.lexRisesSpec.vars false (#[.string ⟨#[]⟩] : Array Value).toList 8).map (fun x => (x.1, x.2.1)) =
      some ([.lit (.string [])], []) := by kernel_rfl
  obtain ⟨⟨x1, x2, x3⟩, hx, hx1⟩ := Option.map_eq_some_iff.1 hw
  simp only [Prod.mk.injEq] at hx1
  obtain ⟨rfl, rfl⟩ := hx1
  exact OpenSpec.preRow_of_cond 8 hx (by kernel_rfl) (fun k hk => by cases hk; kernel_rfl) (by kernel_rfl) (laid_to (by kernel_rfl) (laid_in os _))

set_option maxRecDepth 100000 in
theorem lifted (os : Os) (started : os.Started) (H : Type) (enc' : TypeId × Value → H) (F : Stop.Interp) :
    ReturnsInHanded {} Tryd.checked os 4 .any ((Rows.OpenSpec.upto Rows.lexRisesSpec).preRow enc' Tryd.prog Tryd.f4 Rows.lexRisesUptoRow.domain false Rows.lexRisesUptoRow.laid) (((Rows.OpenSpec.upto Rows.lexRisesSpec).at F).post enc' Tryd.prog Tryd.f4 false true false false) := by
  refine returnsInHanded_of_row (C := Tryd.checked) (s := Rows.OpenSpec.upto Rows.lexRisesSpec) own started (by kernel_rfl) Tryd.func4
    (witness_row_atRef (enc := enc') (C := Tryd.checked) false (laidWorld os) #[.string ⟨#[]⟩] rfl (by kernel_rfl) (by kernel_rfl) (by kernel_rfl) (witness_row os enc')) ?_
  intro W base args ds gs before hval hW _ hcond _ hL hsh _
  exact contract H enc' W base args ds gs before (hcond _ rfl) hL hsh hval hW

theorem over : Rows.LexRisesUptoSaid :=
  OpenClaim.holds_of_cond 4 Tryd.f4 rfl rfl rfl rfl rfl rfl rfl ⟨rfl, rfl, rfl, rfl, rfl⟩ rfl rfl rfl rfl rfl (by kernel_rfl) Tryd.func4 (by kernel_rfl)
    (of_decide_eq_true (by kernel_rfl)) (by unfold Func.isWrapper; first | (rw [if_pos (by decide +kernel)]; kernel_rfl) | (rw [if_neg (by decide +kernel)]; exact ⟨rfl, rfl⟩))
    (fun os started H enc' _ F => by rw [OpenClaim.pre_eq_preRow]; exact lifted os started H enc' F)

theorem plain (f : FuncId) (fn : Func) (hf : Tryd.pinned.checked.prog.funcNamed "offside/offsidelaw07.LexRises" = some f) (hfn : Tryd.pinned.checked.prog.funcs[f]? = some fn) :
    true = Tryd.pinned.checked.prog.looks [] ∧ ∀ (j : Nat) t, fn.params[j]? = some t → Tryd.pinned.checked.prog.wantsStandIn t = false := by
  obtain rfl : f = 4 := Option.some.inj ((show Tryd.prog.funcNamed "offside/offsidelaw07.LexRises" = some 4 by kernel_rfl).symm.trans hf) |>.symm
  obtain rfl : fn = Tryd.f4 := (Option.some.inj (Tryd.func4.symm.trans hfn)).symm
  refine ⟨by kernel_rfl, fun j t ht => ?_⟩
  rw [Tryd.params4] at ht
  obtain rfl : t = 9 := by simpa using Array.mem_of_getElem? ht
  exact (show Tryd.prog.wantsStandIn 9 = false by kernel_rfl)

theorem proved : Rows.LexRisesUptoCardSaid :=
  Claim7.holds_tied_plain_at .later [] _ _ _ _ over (fun _ h => by cases h) (by kernel_rfl) (fun _ h => by cases h) lexRisesUpto_row_tie rfl ⟨rfl, rfl⟩ (by kernel_rfl) rfl plain (by kernel_rfl)
#print axioms proved
end Go.Proofs.YtkcapphlemoccaaDoor.lexRises
