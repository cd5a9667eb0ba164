/-
  the tokens and comments of any text are those of the reference: the statement, where what it reads is of bulk at most 1048576.
-/
import Derived.Test.YtkcapphlemoccaaGreatDoorS5
set_option linter.unusedVariables false
set_option linter.unusedSimpArgs false
namespace Go.Proofs.YtkcapphlemoccaaGreatDoor.lexTells
open Go Go.Aw Go.ChangeShapes Go.WideShapes Go.ChangeAt Go.RowKit
theorem laid : laidOutB Tryz.prog = true := by kernel_rfl
theorem maps : mapsRowed Tryz.prog = true := by kernel_rfl
theorem full : ((List.range Tryz.prog.types.size).all fun t => match Tryz.prog.underlying t with | some (.slice e) => decide (0 < Tryz.prog.cellsOf e) | _ => true) = true := by kernel_rfl
theorem shut : closedB Tryz.prog [9] = true := by kernel_rfl
set_option maxRecDepth 100000 in
theorem contract (H : Type) (enc' : TypeId × Value → H) (W : World) (base : Nat) (args : Array Value) (ds gs : List (DataW H)) (before : List MemPlace) (hk : Rows.uptoSmall H (ds ++ gs) = true) (hL : laidMetH Tryz.prog Rows.lexTellsUptoRow.laid W) (hsh : W.ShapedOpen Tryz.prog)
    (hval : ∀ (j : Nat) t v, Tryz.f3.params[j]? = some t → args[j]? = some v → Value.okWide Tryz.prog W .any base t v)
    (hW : DataW.Whole enc' Tryz.prog Tryz.f3.params.toList Rows.lexTellsSpec.vars false W args.toList ds gs before) :
    Calls Tryz.prog 3 args W fun e W' => ∃ v, e = .returned v ∧ Rows.lexTellsSpec.post enc' Tryz.prog Tryz.f3 false true false false W args v W' := by
  have hg := gtab_of (laid_of (by kernel_rfl) hL) hsh
  have hW' := hW
  obtain ⟨p, q, hA0, hV, rfl, hfz, hnd⟩ := hW
  have hA : DataW.TrodAll enc' Tryz.prog W 0 (fun _ => true) true Tryz.f3.params.toList args.toList ds p := hA0
  rw [Tryz.params3] at hA hval
  obtain ⟨v0, vs0, d0, ds0, p0, q0, hargs, rfl, rfl, ⟨n0, h0⟩, r0⟩ := trodAll_cons hA
  obtain ⟨rfl, rfl, rfl⟩ := trodAll_nil r0
  obtain rfl : args = #[v0] := by cases args; simp_all
  have hsmall : Rows.uptoBulk d0 ≤ 1048576 := by
    have : Rows.uptoBulkAll ([d0] ++ gs) ≤ 1048576 := of_decide_eq_true hk
    simp only [List.cons_append, List.nil_append, Rows.uptoBulkAll] at this
    omega
  obtain ⟨us0, g0, _, k0⟩ := dec_sound (B := 1048576) (kids_rows laid maps) shut (by decide) n0 9 v0.cells.toList (d0, p0) (by decide) (show Rows.uptoBulk d0 ≤ 1048576 by omega) h0
  obtain ⟨a0, rfl, hz0⟩ := dec_str Tryz.underlying9 g0
  have e0 : Rep (allMem W) (.str a0) v0 := rep_str_one Tryz.underlying9 (hval 0 _ v0 rfl rfl) k0
  have hz0 : a0.length + 1 = Rows.uptoBulk d0 := hz0
  have hrep : RepL (allMem W) [.str a0] (#[v0] : Array Value).toList := by
    simp only [RepL]
    exact ⟨v0, _, rfl, e0, rfl⟩
  refine (law_call hg (lexTells_c (st := topSt) (R := fun r _ => r = .ret (.bool true)) (by omega) (fun _ => rfl)) hrep).mono fun e W' ⟨he, hkept⟩ => ?_
  obtain ⟨rfl, _⟩ := trodVars_none hV
  exact ⟨_, he, law_post laid maps full rfl Tryz.underlying4 (by intro t ht; rw [Tryz.params3] at ht; simp at ht; subst ht; decide +kernel) rfl hW' rfl hkept⟩
set_option maxRecDepth 100000 in
theorem witness_row (os : Os) {H : Type} (enc' : TypeId × Value → H) :
    (Rows.OpenSpec.upto Rows.lexTellsSpec).preRow enc' Tryz.prog Tryz.f3 Rows.lexTellsUptoRow.domain false Rows.lexTellsUptoRow.laid ((laidWorld os).forCall (fun _ _ => 0) ⟨#[], #[.string ⟨#[]⟩], []⟩).memory #[.string ⟨#[]⟩] := by
  have hw : (DataW.whole enc' Tryz.prog ((laidWorld os).forCall (fun _ _ => 0) ⟨#[], #[.string ⟨#[]⟩], []⟩).memory Tryz.f3.params.toList Rows.lexTellsSpec.vars false (#[.string ⟨#[]⟩] : Array Value).toList 8).map (fun x => (x.1, x.2.1)) =
      some ([.lit (.string [])], []) := by kernel_rfl
  obtain ⟨⟨x1, x2, x3⟩, hx, hx1⟩ := Option.map_eq_some_iff.1 hw
  simp only [Prod.mk.injEq] at hx1
  obtain ⟨rfl, rfl⟩ := hx1
  exact OpenSpec.preRow_of_cond 8 hx (by kernel_rfl) (fun k hk => by cases hk; kernel_rfl) (by kernel_rfl) (laid_to (by kernel_rfl) (laid_in os _))
set_option maxRecDepth 100000 in
theorem lifted (os : Os) (started : os.Started) (H : Type) (enc' : TypeId × Value → H) (F : Stop.Interp) :
    ReturnsInHanded {} Tryz.checked os 3 .any ((Rows.OpenSpec.upto Rows.lexTellsSpec).preRow enc' Tryz.prog Tryz.f3 Rows.lexTellsUptoRow.domain false Rows.lexTellsUptoRow.laid) (((Rows.OpenSpec.upto Rows.lexTellsSpec).at F).post enc' Tryz.prog Tryz.f3 false true false false) := by
  refine returnsInHanded_of_row (C := Tryz.checked) (s := Rows.OpenSpec.upto Rows.lexTellsSpec) own started (by kernel_rfl) Tryz.func3
    (witness_row_atRef (enc := enc') (C := Tryz.checked) false (laidWorld os) #[.string ⟨#[]⟩] rfl (by kernel_rfl) (by kernel_rfl) (by kernel_rfl) (witness_row os enc')) ?_
  intro W base args ds gs before hval hW _ hcond _ hL hsh _
  exact contract H enc' W base args ds gs before (hcond _ rfl) hL hsh hval hW
theorem over : Rows.LexTellsUptoSaid :=
  OpenClaim.holds_of_cond 3 Tryz.f3 rfl rfl rfl rfl rfl rfl rfl ⟨rfl, rfl, rfl, rfl, rfl⟩ rfl rfl rfl rfl rfl (by kernel_rfl) Tryz.func3 (by kernel_rfl)
    (of_decide_eq_true (by kernel_rfl)) (by unfold Func.isWrapper; first | (rw [if_pos (by decide +kernel)]; kernel_rfl) | (rw [if_neg (by decide +kernel)]; exact ⟨rfl, rfl⟩))
    (fun os started H enc' _ F => by rw [OpenClaim.pre_eq_preRow]; exact lifted os started H enc' F)
theorem plain (f : FuncId) (fn : Func) (hf : Tryz.pinned.checked.prog.funcNamed "offside/offsidelaw07.LexTells" = some f) (hfn : Tryz.pinned.checked.prog.funcs[f]? = some fn) :
    true = Tryz.pinned.checked.prog.looks [] ∧ ∀ (j : Nat) t, fn.params[j]? = some t → Tryz.pinned.checked.prog.wantsStandIn t = false := by
  obtain rfl : f = 3 := Option.some.inj ((show Tryz.prog.funcNamed "offside/offsidelaw07.LexTells" = some 3 by kernel_rfl).symm.trans hf) |>.symm
  obtain rfl : fn = Tryz.f3 := (Option.some.inj (Tryz.func3.symm.trans hfn)).symm
  refine ⟨by kernel_rfl, fun j t ht => ?_⟩
  rw [Tryz.params3] at ht
  obtain rfl : t = 9 := by simpa using Array.mem_of_getElem? ht
  exact (show Tryz.prog.wantsStandIn 9 = false by kernel_rfl)
theorem proved : Rows.LexTellsUptoCardSaid :=
  Claim7.holds_tied_plain_at .later [] _ _ _ _ over (fun _ h => by cases h) (by kernel_rfl) (fun _ h => by cases h) lexTellsUpto_row_tie rfl ⟨rfl, rfl⟩ (by kernel_rfl) rfl plain (by kernel_rfl)
#print axioms proved
end Go.Proofs.YtkcapphlemoccaaGreatDoor.lexTells
