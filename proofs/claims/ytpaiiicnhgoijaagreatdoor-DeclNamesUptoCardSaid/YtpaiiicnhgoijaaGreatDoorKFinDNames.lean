/-
  names are read as the document reads them: the statement, where what it reads is of bulk at most 1048576.
-/
import Derived.Test.YtpaiiicnhgoijaaGreatDoorK5
set_option linter.unusedVariables false
set_option linter.unusedSimpArgs false
set_option maxHeartbeats 16000000
namespace Go.Proofs.YtpaiiicnhgoijaaGreatDoor.declNames
open Go.Proofs.Z Go Go.Aw Go.ChangeShapes Go.WideShapes Go.ChangeAt Go.RowKit
theorem shut:XQ Tryz.prog [25,22,51,23,3,9,4]=true:=by kernel_rfl
set_option maxRecDepth 100000 in
theorem cN (H:Type) (U:TypeId×Value→H) (W:World) (base:Nat) (args:Array Value) (ds gs:List (DataW H)) (before:List MemPlace) (hk:Rows.uptoSmall H (ds++gs)=true) (hL:laidMetH Tryz.prog Rows.declNamesUptoRow.laid W) (hsh:W.ShapedOpen Tryz.prog)
 (hval:∀(j:Nat) t v,Tryz.f7.params[j]? =some t→args[j]? =some v→Value.okWide Tryz.prog W .any base t v)
 (hW:DataW.Whole U Tryz.prog Tryz.f7.params.toList Rows.declNamesSpec.vars false W args.toList ds gs before):
 Calls Tryz.prog 7 args W fun e W'=>∃v,e=.returned v∧Rows.declNamesSpec.post U Tryz.prog Tryz.f7 false true false false W args v W':=by
 have hg:=ju (jF (by kernel_rfl) hL) hsh
 have hW':=hW
 obtain ⟨p,q,hA0,hV,rfl,hfz,hnd⟩:=hW
 have hA:DataW.TrodAll U Tryz.prog W 0 (fun _=>true) true Tryz.f7.params.toList args.toList ds p:=hA0
 rw [Tryz.params7] at hA hval
 obtain ⟨v0,vs0,d0,ds0,p0,q0,hargs,rfl,rfl,⟨n0,h0⟩,r0⟩:=trodAll_cons hA
 obtain ⟨v1,vs1,d1,ds1,p1,q1,rfl,rfl,rfl,⟨n1,h1⟩,r1⟩:=trodAll_cons r0
 obtain ⟨rfl,rfl,rfl⟩:=trodAll_nil r1
 obtain rfl:args=#[v0,v1]:=by cases args;simp_all
 have hsmall:Rows.uptoBulk d0+Rows.uptoBulk d1≤1048576:=by
  have:Rows.uptoBulkAll ([d0,d1]++gs)≤1048576:=of_decide_eq_true hk
  simp only [List.cons_append,List.nil_append,Rows.uptoBulkAll] at this
  omega
 obtain ⟨us0,g0,_,k0⟩:=Qs (B:=1048576) (kids_rows OQ OR) shut (by decide) n0 25 v0.cells.toList (d0,p0) (by decide) (show Rows.uptoBulk d0≤1048576 by omega) h0
 obtain ⟨a0,rfl⟩:=Zt g0
 have e0:AG (C1 W) (Bn a0) v0:=W7 (Y8 Tryz.underlying25 (hval 0 _ v0 rfl rfl)) k0
 obtain ⟨us1,g1,_,k1⟩:=Qs (B:=1048576) (kids_rows OQ OR) shut (by decide) n1 4 v1.cells.toList (d1,p1) (by decide) (show Rows.uptoBulk d1≤1048576 by omega) h1
 obtain ⟨a1,rfl⟩:=cO Tryz.underlying4 g1
 have e1:AG (C1 W) (.bool a1) v1:=Sr Tryz.underlying4 (hval 1 _ v1 rfl rfl) k1
 have hrep:Ak (C1 W) [Bn a0,.bool a1] (#[v0,v1]:Array Value).toList:=by
  simp only [Ak]
  exact ⟨v0,_,rfl,e0,⟨v1,_,rfl,e1,rfl⟩⟩
 refine (dW hg (S9 (st:=gF) (R:=fun r _=>r=.ret (.bool true)) (fun _=>rfl)) hrep).mono fun e W' ⟨he,hkept⟩=>?_
 obtain ⟨rfl,_⟩:=trodVars_none hV
 exact ⟨_,he,dX OQ OR dB rfl Tryz.underlying4 (by intro t ht;rw [Tryz.params7] at ht;simp at ht;rcases ht with rfl|rfl<;>decide +kernel) rfl hW' rfl hkept⟩
set_option maxRecDepth 100000 in
theorem UY (os:Os) {H:Type} (U:TypeId×Value→H):
 (Rows.OpenSpec.upto Rows.declNamesSpec).preRow U Tryz.prog Tryz.f7 Rows.declNamesUptoRow.domain false Rows.declNamesUptoRow.laid ((JG os).forCall (fun _ _=>0) ⟨#[],#[.agg #[.slice none 0 0,.int .i64 0,.slice none 0 0,.int .i64 0],.bool false],[]⟩).memory #[.agg #[.slice none 0 0,.int .i64 0,.slice none 0 0,.int .i64 0],.bool false]:=by
 have hw:(DataW.whole U Tryz.prog ((JG os).forCall (fun _ _=>0) ⟨#[],#[.agg #[.slice none 0 0,.int .i64 0,.slice none 0 0,.int .i64 0],.bool false],[]⟩).memory Tryz.f7.params.toList Rows.declNamesSpec.vars false (#[.agg #[.slice none 0 0,.int .i64 0,.slice none 0 0,.int .i64 0],.bool false]:Array Value).toList 8).map (fun x=>(x.1,x.2.1))=
  some ([.agg [.nil,.lit (.int .i64 0),.nil,.lit (.int .i64 0)],.lit (.bool false)],[]):=by kernel_rfl
 obtain ⟨⟨x1,x2,x3⟩,hx,hx1⟩:=Option.map_eq_some_iff.1 hw
 simp only [Prod.mk.injEq] at hx1
 obtain ⟨rfl,rfl⟩:=hx1
 exact OpenSpec.preRow_of_cond 8 hx (by kernel_rfl) (fun k hk=>by cases hk;kernel_rfl) (by kernel_rfl) (jG (by kernel_rfl) (jE os _))
set_option maxRecDepth 100000 in
theorem lifted (os:Os) (started:os.Started) (H:Type) (U:TypeId×Value→H) (F:Stop.Interp):
 ReturnsInHanded {} Tryz.checked os 7 .any ((Rows.OpenSpec.upto Rows.declNamesSpec).preRow U Tryz.prog Tryz.f7 Rows.declNamesUptoRow.domain false Rows.declNamesUptoRow.laid) (((Rows.OpenSpec.upto Rows.declNamesSpec).at F).post U Tryz.prog Tryz.f7 false true false false):=by
 refine returnsInHanded_of_row (C:=Tryz.checked) (s:=Rows.OpenSpec.upto Rows.declNamesSpec) own started (by kernel_rfl) Tryz.func7
  (witness_row_atRef (enc:=U) (C:=Tryz.checked) false (JG os) #[.agg #[.slice none 0 0,.int .i64 0,.slice none 0 0,.int .i64 0],.bool false] rfl (by kernel_rfl) (by kernel_rfl) (by kernel_rfl) (UY os U)) ?_
 intro W base args ds gs before hval hW _ hcond _ hL hsh _
 exact cN H U W base args ds gs before (hcond _ rfl) hL hsh hval hW
theorem ng:(Rows.declNamesUptoRow.inPlace==Tryz.prog.inPlace 7)=true:=by kernel_rfl
theorem ni:(Rows.declNamesUptoRow.unfollowed==Tryz.prog.unfollowed 7)=true:=by kernel_rfl
theorem je:(Rows.declNamesUptoRow.recurses==Tryz.prog.recurses 7)=true:=by kernel_rfl
theorem ZM:(Rows.declNamesUptoRow.named==Tryz.prog.varsNamed 7)=true:=by kernel_rfl
theorem Tq : Tryz.prog.funcNamed "offside/offsidelaw14.DeclNames" = some 7 := by kernel_rfl
theorem dD:Tryz.prog.mainIs=some (Rows.declNamesUptoCard.stood.harness.1,Rows.declNamesUptoCard.stood.harness.2.toList):=by kernel_rfl
set_option maxRecDepth 100000 in
theorem closed:joinedFacts Tryz.prog 7 Tryz.f7 (Rows.OpenSpec.upto Rows.declNamesSpec).bare Rows.declNamesUptoRow=true:=
 dz (by kernel_rfl) ng ni je ZM (by kernel_rfl) ZK ZJ ZL dE (by kernel_rfl)
theorem over:Rows.DeclNamesUptoSaid:=
 OpenClaim.holds_of_cond 7 Tryz.f7 rfl rfl rfl rfl rfl rfl rfl ⟨rfl,rfl,rfl,rfl,rfl⟩ rfl rfl rfl rfl rfl Tq Tryz.func7 closed
  (of_decide_eq_true (by kernel_rfl)) (by unfold Func.isWrapper;first|(rw [if_pos (by decide +kernel)];kernel_rfl)|(rw [if_neg (by decide +kernel)];exact ⟨rfl,rfl⟩))
  (fun os started H U _ F=>by rw [OpenClaim.pre_eq_preRow];exact lifted os started H U F)
theorem plain (f : FuncId) (fn : Func) (hf : Tryz.pinned.checked.prog.funcNamed "offside/offsidelaw14.DeclNames" = some f) (U : Tryz.pinned.checked.prog.funcs[f]? = some fn) :
 true=Tryz.pinned.checked.prog.looks []∧∀(j:Nat) t,fn.params[j]? =some t→Tryz.pinned.checked.prog.wantsStandIn t=false:=by
 obtain rfl:f=7:=Option.some.inj (Tq.symm.trans hf)|>.symm
 obtain rfl:fn=Tryz.f7:=(Option.some.inj (Tryz.func7.symm.trans U)).symm
 refine ⟨by kernel_rfl,fun j t ht=>?_⟩
 rw [Tryz.params7] at ht
 rcases (by simpa using Array.mem_of_getElem? ht:t=25∨t=4) with rfl|rfl
 ·exact (show Tryz.prog.wantsStandIn 25=false by kernel_rfl)
 ·exact (show Tryz.prog.wantsStandIn 4=false by kernel_rfl)
theorem proved:Rows.DeclNamesUptoCardSaid:=
 Claim7.holds_tied_plain_at .later [] _ _ _ _ over (fun _ h=>by cases h) (by kernel_rfl) (fun _ h=>by cases h) declNamesUpto_row_tie rfl ⟨rfl,rfl⟩ dD rfl plain (ZP dC rfl)
#print axioms proved
end Go.Proofs.YtpaiiicnhgoijaaGreatDoor.declNames
