/-
  what is read, and where it ends, is the document's, or it is refused for its reason, and at its place: the statement, where what it reads is of bulk at most 1048576.
-/
import Derived.Test.YtpaiiicnhgoijaaGreatDoorT12
set_option linter.unusedVariables false
set_option linter.unusedSimpArgs false
set_option maxHeartbeats 16000000
namespace Go.Proofs.YtpaiiicnhgoijaaGreatDoor.declTops
open Go.Proofs.Z Go Go.Aw Go.ChangeShapes Go.WideShapes Go.ChangeAt Go.RowKit
theorem shut:QE Tryz.prog [25,22,51,23,3,9]=true:=by kernel_rfl
set_option maxRecDepth 100000 in
theorem Li (H:Type) (U:TypeId×Value→H) (W:World) (base:Nat) (args:Array Value) (ds gs:List (DataW H)) (before:List MemPlace) (hk:Rows.uptoSmall H (ds++gs)=true) (hL:laidMetH Tryz.prog Rows.declTopsUptoRow.laid W) (hsh:W.ShapedOpen Tryz.prog)
 (hval:∀(j:Nat) t v,Tryz.f6.params[j]? =some t→args[j]? =some v→Value.okWide Tryz.prog W .any base t v)
 (hW:DataW.Whole U Tryz.prog Tryz.f6.params.toList Rows.declTopsSpec.vars false W args.toList ds gs before):
 Calls Tryz.prog 6 args W fun e W'=>∃v,e=.returned v∧Rows.declTopsSpec.post U Tryz.prog Tryz.f6 false true false false W args v W':=by
 have hg:=Vw (VA (by kernel_rfl) hL) hsh
 have hW':=hW
 obtain ⟨p,q,hA0,hV,rfl,hfz,hnd⟩:=hW
 have hA:DataW.TrodAll U Tryz.prog W 0 (fun _=>true) true Tryz.f6.params.toList args.toList ds p:=hA0
 rw [Tryz.params6] at hA hval
 obtain ⟨v0,vs0,d0,ds0,p0,q0,hargs,rfl,rfl,⟨n0,h0⟩,r0⟩:=trodAll_cons hA
 obtain ⟨v1,vs1,d1,ds1,p1,q1,rfl,rfl,rfl,⟨n1,h1⟩,r1⟩:=trodAll_cons r0
 obtain ⟨rfl,rfl,rfl⟩:=trodAll_nil r1
 obtain rfl:args=#[v0,v1]:=by cases args;simp_all
 have hsmall:Rows.uptoBulk d0+Rows.uptoBulk d1≤1048576:=by
  have:Rows.uptoBulkAll ([d0,d1]++gs)≤1048576:=of_decide_eq_true hk
  simp only [List.cons_append,List.nil_append,Rows.uptoBulkAll] at this
  omega
 obtain ⟨us0,g0,_,k0⟩:=HW (B:=1048576) (kids_rows Gj Gk) shut (by decide) n0 25 v0.cells.toList (d0,p0) (by decide) (show Rows.uptoBulk d0≤1048576 by omega) h0
 obtain ⟨a0,rfl⟩:=TY g0
 have e0:A0 (CR W) (Am a0) v0:=SO (TL Tryz.underlying25 (hval 0 _ v0 rfl rfl)) k0
 obtain ⟨us1,g1,_,k1⟩:=HW (B:=1048576) (kids_rows Gj Gk) shut (by decide) n1 3 v1.cells.toList (d1,p1) (by decide) (show Rows.uptoBulk d1≤1048576 by omega) h1
 obtain ⟨a1,rfl⟩:=HJ Tryz.underlying3 g1
 have e1:A0 (CR W) (.int .i64 a1) v1:=LC Tryz.underlying3 (hval 1 _ v1 rfl rfl) k1
 have hrep:Ar (CR W) [Am a0,.int .i64 a1] (#[v0,v1]:Array Value).toList:=by
  simp only [Ar]
  exact ⟨v0,_,rfl,e0,⟨v1,_,rfl,e1,rfl⟩⟩
 refine (Sl hg (aR (st:=ZU) (R:=fun r _=>r=.ret (.bool true)) (fun _=>rfl)) hrep).mono fun e W' ⟨he,hkept⟩=>?_
 obtain ⟨rfl,_⟩:=trodVars_none hV
 exact ⟨_,he,Sm Gj Gk R3 rfl Tryz.underlying4 (by intro t ht;rw [Tryz.params6] at ht;simp at ht;rcases ht with rfl|rfl<;>decide +kernel) rfl hW' rfl hkept⟩
set_option maxRecDepth 100000 in
theorem Hz (os:Os) {H:Type} (U:TypeId×Value→H):
 (Rows.OpenSpec.upto Rows.declTopsSpec).preRow U Tryz.prog Tryz.f6 Rows.declTopsUptoRow.domain false Rows.declTopsUptoRow.laid ((EE os).forCall (fun _ _=>0) ⟨#[],#[.agg #[.slice none 0 0,.int .i64 0,.slice none 0 0,.int .i64 0],.int .i64 0],[]⟩).memory #[.agg #[.slice none 0 0,.int .i64 0,.slice none 0 0,.int .i64 0],.int .i64 0]:=by
 have hw:(DataW.whole U Tryz.prog ((EE os).forCall (fun _ _=>0) ⟨#[],#[.agg #[.slice none 0 0,.int .i64 0,.slice none 0 0,.int .i64 0],.int .i64 0],[]⟩).memory Tryz.f6.params.toList Rows.declTopsSpec.vars false (#[.agg #[.slice none 0 0,.int .i64 0,.slice none 0 0,.int .i64 0],.int .i64 0]:Array Value).toList 8).map (fun x=>(x.1,x.2.1))=
  some ([.agg [.nil,.lit (.int .i64 0),.nil,.lit (.int .i64 0)],.lit (.int .i64 0)],[]):=by kernel_rfl
 obtain ⟨⟨x1,x2,x3⟩,hx,hx1⟩:=Option.map_eq_some_iff.1 hw
 simp only [Prod.mk.injEq] at hx1
 obtain ⟨rfl,rfl⟩:=hx1
 exact OpenSpec.preRow_of_cond 8 hx (by kernel_rfl) (fun k hk=>by cases hk;kernel_rfl) (by kernel_rfl) (VB (by kernel_rfl) (Vz os _))
set_option maxRecDepth 100000 in
theorem lifted (os:Os) (started:os.Started) (H:Type) (U:TypeId×Value→H) (F:Stop.Interp):
 ReturnsInHanded {} Tryz.checked os 6 .any ((Rows.OpenSpec.upto Rows.declTopsSpec).preRow U Tryz.prog Tryz.f6 Rows.declTopsUptoRow.domain false Rows.declTopsUptoRow.laid) (((Rows.OpenSpec.upto Rows.declTopsSpec).at F).post U Tryz.prog Tryz.f6 false true false false):=by
 refine returnsInHanded_of_row (C:=Tryz.checked) (s:=Rows.OpenSpec.upto Rows.declTopsSpec) own started (by kernel_rfl) Tryz.func6
  (witness_row_atRef (enc:=U) (C:=Tryz.checked) false (EE os) #[.agg #[.slice none 0 0,.int .i64 0,.slice none 0 0,.int .i64 0],.int .i64 0] rfl (by kernel_rfl) (by kernel_rfl) (by kernel_rfl) (Hz os U)) ?_
 intro W base args ds gs before hval hW _ hcond _ hL hsh _
 exact Li H U W base args ds gs before (hcond _ rfl) hL hsh hval hW
theorem R5:(Rows.declTopsUptoRow.inPlace==Tryz.prog.inPlace 6)=true:=by kernel_rfl
theorem R7:(Rows.declTopsUptoRow.unfollowed==Tryz.prog.unfollowed 6)=true:=by kernel_rfl
theorem NW:(Rows.declTopsUptoRow.recurses==Tryz.prog.recurses 6)=true:=by kernel_rfl
theorem JH:(Rows.declTopsUptoRow.named==Tryz.prog.varsNamed 6)=true:=by kernel_rfl
theorem Hp : Tryz.prog.funcNamed "offside/offsidelaw14.DeclTops" = some 6 := by kernel_rfl
theorem Lm:Tryz.prog.mainIs=some (Rows.declTopsUptoCard.stood.harness.1,Rows.declTopsUptoCard.stood.harness.2.toList):=by kernel_rfl
set_option maxRecDepth 100000 in
theorem closed:joinedFacts Tryz.prog 6 Tryz.f6 (Rows.OpenSpec.upto Rows.declTopsSpec).bare Rows.declTopsUptoRow=true:=
 RX (by kernel_rfl) R5 R7 NW JH (by kernel_rfl) O3 O2 O4 R6 (by kernel_rfl)
theorem over:Rows.DeclTopsUptoSaid:=
 OpenClaim.holds_of_cond 6 Tryz.f6 rfl rfl rfl rfl rfl rfl rfl ⟨rfl,rfl,rfl,rfl,rfl⟩ rfl rfl rfl rfl rfl Hp Tryz.func6 closed
  (of_decide_eq_true (by kernel_rfl)) (by unfold Func.isWrapper;first|(rw [if_pos (by decide +kernel)];kernel_rfl)|(rw [if_neg (by decide +kernel)];exact ⟨rfl,rfl⟩))
  (fun os started H U _ F=>by rw [OpenClaim.pre_eq_preRow];exact lifted os started H U F)
theorem plain (f : FuncId) (fn : Func) (hf : Tryz.pinned.checked.prog.funcNamed "offside/offsidelaw14.DeclTops" = some f) (U : Tryz.pinned.checked.prog.funcs[f]? = some fn) :
 true=Tryz.pinned.checked.prog.looks []∧∀(j:Nat) t,fn.params[j]? =some t→Tryz.pinned.checked.prog.wantsStandIn t=false:=by
 obtain rfl:f=6:=Option.some.inj (Hp.symm.trans hf)|>.symm
 obtain rfl:fn=Tryz.f6:=(Option.some.inj (Tryz.func6.symm.trans U)).symm
 refine ⟨by kernel_rfl,fun j t ht=>?_⟩
 rw [Tryz.params6] at ht
 rcases (by simpa using Array.mem_of_getElem? ht:t=25∨t=3) with rfl|rfl
 ·exact (show Tryz.prog.wantsStandIn 25=false by kernel_rfl)
 ·exact (show Tryz.prog.wantsStandIn 3=false by kernel_rfl)
theorem proved:Rows.DeclTopsUptoCardSaid:=
 Claim7.holds_tied_plain_at .later [] _ _ _ _ over (fun _ h=>by cases h) (by kernel_rfl) (fun _ h=>by cases h) declTopsUpto_row_tie rfl ⟨rfl,rfl⟩ Lm rfl plain (O8 R4 rfl)
#print axioms proved
end Go.Proofs.YtpaiiicnhgoijaaGreatDoor.declTops
