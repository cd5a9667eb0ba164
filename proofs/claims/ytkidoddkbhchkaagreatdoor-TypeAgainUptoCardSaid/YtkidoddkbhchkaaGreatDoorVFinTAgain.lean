/-
  a type's tokens, spelt and lexed anew, are read as the same type: the statement, where what it reads is of bulk at most 1048576.
-/
import Derived.Test.YtkidoddkbhchkaaGreatDoorV4
set_option maxHeartbeats 16000000
set_option linter.unusedVariables false
set_option linter.unusedSimpArgs false
namespace Go.Proofs.YtkidoddkbhchkaaGreatDoor.typeAgain
open Go Go.Aw Go.ChangeShapes Go.WideShapes Go.ChangeAt Go.RowKit
theorem shut : closedB Tryz.prog [9, 3] = true := by kernel_rfl
set_option maxRecDepth 100000 in
theorem contract (H : Type) (enc' : TypeId × Value → H) (W : World) (base : Nat) (args : Array Value) (ds gs : List (DataW H)) (before : List MemPlace) (hk : Rows.uptoSmall H (ds ++ gs) = true) (hL : laidMetH Tryz.prog Rows.typeAgainUptoRow.laid W) (hsh : W.ShapedOpen Tryz.prog)
    (hval : ∀ (j : Nat) t v, Tryz.f3.params[j]? = some t → args[j]? = some v → Value.okWide Tryz.prog W .any base t v)
    (hW : DataW.Whole enc' Tryz.prog Tryz.f3.params.toList Rows.typeAgainSpec.vars false W args.toList ds gs before) :
    Calls Tryz.prog 3 args W fun e W' => ∃ v, e = .returned v ∧ Rows.typeAgainSpec.post enc' Tryz.prog Tryz.f3 false true false false W args v W' := by
  have hg := gtab_of (laid_of (by kernel_rfl) hL) hsh
  have hW' := hW
  obtain ⟨p, q, hA0, hV, rfl, hfz, hnd⟩ := hW
  have hA : DataW.TrodAll enc' Tryz.prog W 0 (fun _ => true) true Tryz.f3.params.toList args.toList ds p := hA0
  rw [Tryz.params3] at hA hval
  obtain ⟨v0, vs0, d0, ds0, p0, q0, hargs, rfl, rfl, ⟨n0, h0⟩, r0⟩ := trodAll_cons hA
  obtain ⟨v1, vs1, d1, ds1, p1, q1, rfl, rfl, rfl, ⟨n1, h1⟩, r1⟩ := trodAll_cons r0
  obtain ⟨rfl, rfl, rfl⟩ := trodAll_nil r1
  obtain rfl : args = #[v0, v1] := by cases args; simp_all
  have hsmall : Rows.uptoBulk d0 + Rows.uptoBulk d1 ≤ 1048576 := by
    have : Rows.uptoBulkAll ([d0, d1] ++ gs) ≤ 1048576 := of_decide_eq_true hk
    simp only [List.cons_append, List.nil_append, Rows.uptoBulkAll] at this
    omega
  obtain ⟨us0, g0, _, k0⟩ := dec_sound (B := 1048576) (kids_rows fct_laid fct_maps) shut (by decide) n0 9 v0.cells.toList (d0, p0) (by decide) (show Rows.uptoBulk d0 ≤ 1048576 by omega) h0
  obtain ⟨a0, rfl, hz0⟩ := dec_str Tryz.underlying9 g0
  have e0 : Rep (allMem W) (.str a0) v0 := rep_str_one Tryz.underlying9 (hval 0 _ v0 rfl rfl) k0
  have hz0 : a0.length + 1 = Rows.uptoBulk d0 := hz0
  obtain ⟨us1, g1, _, k1⟩ := dec_sound (B := 1048576) (kids_rows fct_laid fct_maps) shut (by decide) n1 3 v1.cells.toList (d1, p1) (by decide) (show Rows.uptoBulk d1 ≤ 1048576 by omega) h1
  obtain ⟨a1, rfl⟩ := dec_int Tryz.underlying3 g1
  have e1 : Rep (allMem W) (.int .i64 a1) v1 := rep_int_one Tryz.underlying3 (hval 1 _ v1 rfl rfl) k1
  have hrep : RepL (allMem W) [.str a0, .int .i64 a1] (#[v0, v1] : Array Value).toList := by
    simp only [RepL]
    exact ⟨v0, _, rfl, e0, ⟨v1, _, rfl, e1, rfl⟩⟩
  refine (law_call hg (typeAgain_c (st := topSt) (R := fun r _ => r = .ret (.bool true)) (fun _ => rfl)) hrep).mono fun e W' ⟨he, hkept⟩ => ?_
  obtain ⟨rfl, _⟩ := trodVars_none hV
  exact ⟨_, he, law_post fct_laid fct_maps fct_full rfl Tryz.underlying4 (by intro t ht; rw [Tryz.params3] at ht; simp at ht; rcases ht with rfl | rfl <;> decide +kernel) rfl hW' rfl hkept⟩
set_option maxRecDepth 100000 in
theorem witness_row (os : Os) {H : Type} (enc' : TypeId × Value → H) :
    (Rows.OpenSpec.upto Rows.typeAgainSpec).preRow enc' Tryz.prog Tryz.f3 Rows.typeAgainUptoRow.domain false Rows.typeAgainUptoRow.laid ((laidWorld os).forCall (fun _ _ => 0) ⟨#[], #[.string ⟨#[]⟩, .int .i64 0], []⟩).memory #[.string ⟨#[]⟩, .int .i64 0] := by
  have hw : (DataW.whole enc' Tryz.prog ((laidWorld os).forCall (fun _ _ => 0) ⟨#[], #[.string ⟨#[]⟩, .int .i64 0], []⟩).memory Tryz.f3.params.toList Rows.typeAgainSpec.vars false (#[.string ⟨#[]⟩, .int .i64 0] : Array Value).toList 8).map (fun x => (x.1, x.2.1)) =
      some ([.lit (.string []), .lit (.int .i64 0)], []) := by kernel_rfl
  obtain ⟨⟨x1, x2, x3⟩, hx, hx1⟩ := Option.map_eq_some_iff.1 hw
  simp only [Prod.mk.injEq] at hx1
  obtain ⟨rfl, rfl⟩ := hx1
  exact OpenSpec.preRow_of_cond 8 hx (by kernel_rfl) (fun k hk => by cases hk; kernel_rfl) (by kernel_rfl) (laid_to (by kernel_rfl) (laid_in os _))
set_option maxRecDepth 100000 in
theorem lifted (os : Os) (started : os.Started) (H : Type) (enc' : TypeId × Value → H) (F : Stop.Interp) :
    ReturnsInHanded {} Tryz.checked os 3 .any ((Rows.OpenSpec.upto Rows.typeAgainSpec).preRow enc' Tryz.prog Tryz.f3 Rows.typeAgainUptoRow.domain false Rows.typeAgainUptoRow.laid) (((Rows.OpenSpec.upto Rows.typeAgainSpec).at F).post enc' Tryz.prog Tryz.f3 false true false false) := by
  refine returnsInHanded_of_row (C := Tryz.checked) (s := Rows.OpenSpec.upto Rows.typeAgainSpec) own started (by kernel_rfl) Tryz.func3
    (witness_row_atRef (enc := enc') (C := Tryz.checked) false (laidWorld os) #[.string ⟨#[]⟩, .int .i64 0] rfl (by kernel_rfl) (by kernel_rfl) (by kernel_rfl) (witness_row os enc')) ?_
  intro W base args ds gs before hval hW _ hcond _ hL hsh _
  exact contract H enc' W base args ds gs before (hcond _ rfl) hL hsh hval hW
theorem fct_in : (Rows.typeAgainUptoRow.inPlace == Tryz.prog.inPlace 3) = true := by kernel_rfl
theorem fct_un : (Rows.typeAgainUptoRow.unfollowed == Tryz.prog.unfollowed 3) = true := by kernel_rfl
theorem fct_rec : (Rows.typeAgainUptoRow.recurses == Tryz.prog.recurses 3) = true := by kernel_rfl
theorem fct_named : (Rows.typeAgainUptoRow.named == Tryz.prog.varsNamed 3) = true := by kernel_rfl
theorem fct_name : Tryz.prog.funcNamed "offside/offsidelaw11.TypeAgain" = some 3 := by kernel_rfl
theorem fct_main : Tryz.prog.mainIs = some (Rows.typeAgainUptoCard.stood.harness.1, Rows.typeAgainUptoCard.stood.harness.2.toList) := by kernel_rfl
set_option maxRecDepth 100000 in
theorem closed : joinedFacts Tryz.prog 3 Tryz.f3 (Rows.OpenSpec.upto Rows.typeAgainSpec).bare Rows.typeAgainUptoRow = true :=
  facts_of (by kernel_rfl) fct_in fct_un fct_rec fct_named (by kernel_rfl) fct_heard fct_enter fct_lifts fct_make (by kernel_rfl)
theorem over : Rows.TypeAgainUptoSaid :=
  OpenClaim.holds_of_cond 3 Tryz.f3 rfl rfl rfl rfl rfl rfl rfl ⟨rfl, rfl, rfl, rfl, rfl⟩ rfl rfl rfl rfl rfl fct_name Tryz.func3 closed
    (of_decide_eq_true (by kernel_rfl)) (by unfold Func.isWrapper; first | (rw [if_pos (by decide +kernel)]; kernel_rfl) | (rw [if_neg (by decide +kernel)]; exact ⟨rfl, rfl⟩))
    (fun os started H enc' _ F => by rw [OpenClaim.pre_eq_preRow]; exact lifted os started H enc' F)
theorem plain (f : FuncId) (fn : Func) (hf : Tryz.pinned.checked.prog.funcNamed "offside/offsidelaw11.TypeAgain" = some f) (hfn : Tryz.pinned.checked.prog.funcs[f]? = some fn) :
    true = Tryz.pinned.checked.prog.looks [] ∧ ∀ (j : Nat) t, fn.params[j]? = some t → Tryz.pinned.checked.prog.wantsStandIn t = false := by
  obtain rfl : f = 3 := Option.some.inj (fct_name.symm.trans hf) |>.symm
  obtain rfl : fn = Tryz.f3 := (Option.some.inj (Tryz.func3.symm.trans hfn)).symm
  refine ⟨by kernel_rfl, fun j t ht => ?_⟩
  rw [Tryz.params3] at ht
  rcases (by simpa using Array.mem_of_getElem? ht : t = 9 ∨ t = 3) with rfl | rfl
  · exact (show Tryz.prog.wantsStandIn 9 = false by kernel_rfl)
  · exact (show Tryz.prog.wantsStandIn 3 = false by kernel_rfl)
theorem proved : Rows.TypeAgainUptoCardSaid :=
  Claim7.holds_tied_plain_at .later [] _ _ _ _ over (fun _ h => by cases h) (by kernel_rfl) (fun _ h => by cases h) typeAgainUpto_row_tie rfl ⟨rfl, rfl⟩ fct_main rfl plain (goes_none fct_goes rfl)
#print axioms proved
end Go.Proofs.YtkidoddkbhchkaaGreatDoor.typeAgain
