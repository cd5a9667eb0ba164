/-
  an expression of tokens without marks is read, in brackets, with one deep more, as a Paren of itself: the statement, where what it reads is of bulk at most 1048576.
-/
import Derived.Test.YtkidoddkbhchkaaGreatDoorS5
set_option linter.unusedVariables false
set_option linter.unusedSimpArgs false
set_option maxHeartbeats 16000000
namespace Go.Proofs.YtkidoddkbhchkaaGreatDoor.exprBrackets
open Go Go.Aw Go.ChangeShapes Go.WideShapes Go.ChangeAt Go.RowKit
theorem shut:Nx Tryz.prog [9,3]=true:=by kernel_rfl
set_option maxRecDepth 100000 in
theorem Jc (H:Type) (U:TypeId×Value→H) (W:World) (base:Nat) (args:Array Value) (ds gs:List (DataW H)) (before:List MemPlace) (hk:Rows.uptoSmall H (ds++gs)=true) (hL:laidMetH Tryz.prog Rows.exprBracketsUptoRow.laid W) (hsh:W.ShapedOpen Tryz.prog)
 (hval:∀(j:Nat) t v,Tryz.f10.params[j]? =some t→args[j]? =some v→Value.okWide Tryz.prog W .any base t v)
 (hW:DataW.Whole U Tryz.prog Tryz.f10.params.toList Rows.exprBracketsSpec.vars false W args.toList ds gs before):
 Calls Tryz.prog 10 args W fun e W'=>∃v,e=.returned v∧Rows.exprBracketsSpec.post U Tryz.prog Tryz.f10 false true false false W args v W':=by
 have hg:=RL (RR (by kernel_rfl) hL) hsh
 have hW':=hW
 obtain ⟨p,q,hA0,hV,rfl,hfz,hnd⟩:=hW
 have hA:DataW.TrodAll U Tryz.prog W 0 (fun _=>true) true Tryz.f10.params.toList args.toList ds p:=hA0
 rw [Tryz.params10] at hA hval
 obtain ⟨v0,vs0,d0,ds0,p0,q0,hargs,rfl,rfl,⟨n0,h0⟩,r0⟩:=trodAll_cons hA
 obtain ⟨v1,vs1,d1,ds1,p1,q1,rfl,rfl,rfl,⟨n1,h1⟩,r1⟩:=trodAll_cons r0
 obtain ⟨rfl,rfl,rfl⟩:=trodAll_nil r1
 obtain rfl:args=#[v0,v1]:=by cases args;simp_all
 have hsmall:Rows.uptoBulk d0+Rows.uptoBulk d1≤1048576:=by
  have:Rows.uptoBulkAll ([d0,d1]++gs)≤1048576:=of_decide_eq_true hk
  simp only [List.cons_append,List.nil_append,Rows.uptoBulkAll] at this
  omega
 obtain ⟨us0,g0,_,k0⟩:=Fy (B:=1048576) (kids_rows Es Et) shut (by decide) n0 9 v0.cells.toList (d0,p0) (by decide) (show Rows.uptoBulk d0≤1048576 by omega) h0
 obtain ⟨a0,rfl,hz0⟩:=XN Tryz.underlying9 g0
 have e0:Az (B1 W) (.str a0) v0:=Ui Tryz.underlying9 (hval 0 _ v0 rfl rfl) k0
 have hz0:a0.length+1=Rows.uptoBulk d0:=hz0
 obtain ⟨us1,g1,_,k1⟩:=Fy (B:=1048576) (kids_rows Es Et) shut (by decide) n1 3 v1.cells.toList (d1,p1) (by decide) (show Rows.uptoBulk d1≤1048576 by omega) h1
 obtain ⟨a1,rfl⟩:=FL Tryz.underlying3 g1
 have e1:Az (B1 W) (.int .i64 a1) v1:=G2 Tryz.underlying3 (hval 1 _ v1 rfl rfl) k1
 have hrep:Ag (B1 W) [.str a0,.int .i64 a1] (#[v0,v1]:Array Value).toList:=by
  simp only [Ag]
  exact ⟨v0,_,rfl,e0,⟨v1,_,rfl,e1,rfl⟩⟩
 refine (O7 hg (OQ (st:=UQ) (R:=fun r _=>r=.ret (.bool true)) (fun _=>rfl)) hrep).mono fun e W' ⟨he,hkept⟩=>?_
 obtain ⟨rfl,_⟩:=trodVars_none hV
 exact ⟨_,he,O8 Es Et OU rfl Tryz.underlying4 (by intro t ht;rw [Tryz.params10] at ht;simp at ht;rcases ht with rfl|rfl<;>decide +kernel) rfl hW' rfl hkept⟩
set_option maxRecDepth 100000 in
theorem F4 (os:Os) {H:Type} (U:TypeId×Value→H):
 (Rows.OpenSpec.upto Rows.exprBracketsSpec).preRow U Tryz.prog Tryz.f10 Rows.exprBracketsUptoRow.domain false Rows.exprBracketsUptoRow.laid ((DF os).forCall (fun _ _=>0) ⟨#[],#[.string ⟨#[]⟩,.int .i64 0],[]⟩).memory #[.string ⟨#[]⟩,.int .i64 0]:=by
 have hw:(DataW.whole U Tryz.prog ((DF os).forCall (fun _ _=>0) ⟨#[],#[.string ⟨#[]⟩,.int .i64 0],[]⟩).memory Tryz.f10.params.toList Rows.exprBracketsSpec.vars false (#[.string ⟨#[]⟩,.int .i64 0]:Array Value).toList 8).map (fun x=>(x.1,x.2.1))=
  some ([.lit (.string []),.lit (.int .i64 0)],[]):=by kernel_rfl
 obtain ⟨⟨x1,x2,x3⟩,hx,hx1⟩:=Option.map_eq_some_iff.1 hw
 simp only [Prod.mk.injEq] at hx1
 obtain ⟨rfl,rfl⟩:=hx1
 exact OpenSpec.preRow_of_cond 8 hx (by kernel_rfl) (fun k hk=>by cases hk;kernel_rfl) (by kernel_rfl) (RT (by kernel_rfl) (RQ os _))
set_option maxRecDepth 100000 in
theorem lifted (os:Os) (started:os.Started) (H:Type) (U:TypeId×Value→H) (F:Stop.Interp):
 ReturnsInHanded {} Tryz.checked os 10 .any ((Rows.OpenSpec.upto Rows.exprBracketsSpec).preRow U Tryz.prog Tryz.f10 Rows.exprBracketsUptoRow.domain false Rows.exprBracketsUptoRow.laid) (((Rows.OpenSpec.upto Rows.exprBracketsSpec).at F).post U Tryz.prog Tryz.f10 false true false false):=by
 refine returnsInHanded_of_row (C:=Tryz.checked) (s:=Rows.OpenSpec.upto Rows.exprBracketsSpec) own started (by kernel_rfl) Tryz.func10
  (witness_row_atRef (enc:=U) (C:=Tryz.checked) false (DF os) #[.string ⟨#[]⟩,.int .i64 0] rfl (by kernel_rfl) (by kernel_rfl) (by kernel_rfl) (F4 os U)) ?_
 intro W base args ds gs before hval hW _ hcond _ hL hsh _
 exact Jc H U W base args ds gs before (hcond _ rfl) hL hsh hval hW
theorem OW:(Rows.exprBracketsUptoRow.inPlace==Tryz.prog.inPlace 10)=true:=by kernel_rfl
theorem OY:(Rows.exprBracketsUptoRow.unfollowed==Tryz.prog.unfollowed 10)=true:=by kernel_rfl
theorem Ld:(Rows.exprBracketsUptoRow.recurses==Tryz.prog.recurses 10)=true:=by kernel_rfl
theorem Hz:(Rows.exprBracketsUptoRow.named==Tryz.prog.varsNamed 10)=true:=by kernel_rfl
theorem FX : Tryz.prog.funcNamed "offside/offsidelaw13.ExprBrackets" = some 10 := by kernel_rfl
theorem Jh:Tryz.prog.mainIs=some (Rows.exprBracketsUptoCard.stood.harness.1,Rows.exprBracketsUptoCard.stood.harness.2.toList):=by kernel_rfl
set_option maxRecDepth 100000 in
theorem closed:joinedFacts Tryz.prog 10 Tryz.f10 (Rows.OpenSpec.upto Rows.exprBracketsSpec).bare Rows.exprBracketsUptoRow=true:=
 OR (by kernel_rfl) OW OY Ld Hz (by kernel_rfl) L7 L6 L8 OX (by kernel_rfl)
theorem over:Rows.ExprBracketsUptoSaid:=
 OpenClaim.holds_of_cond 10 Tryz.f10 rfl rfl rfl rfl rfl rfl rfl ⟨rfl,rfl,rfl,rfl,rfl⟩ rfl rfl rfl rfl rfl FX Tryz.func10 closed
  (of_decide_eq_true (by kernel_rfl)) (by unfold Func.isWrapper;first|(rw [if_pos (by decide +kernel)];kernel_rfl)|(rw [if_neg (by decide +kernel)];exact ⟨rfl,rfl⟩))
  (fun os started H U _ F=>by rw [OpenClaim.pre_eq_preRow];exact lifted os started H U F)
theorem plain (f : FuncId) (fn : Func) (hf : Tryz.pinned.checked.prog.funcNamed "offside/offsidelaw13.ExprBrackets" = some f) (U : Tryz.pinned.checked.prog.funcs[f]? = some fn) :
 true=Tryz.pinned.checked.prog.looks []∧∀(j:Nat) t,fn.params[j]? =some t→Tryz.pinned.checked.prog.wantsStandIn t=false:=by
 obtain rfl:f=10:=Option.some.inj (FX.symm.trans hf)|>.symm
 obtain rfl:fn=Tryz.f10:=(Option.some.inj (Tryz.func10.symm.trans U)).symm
 refine ⟨by kernel_rfl,fun j t ht=>?_⟩
 rw [Tryz.params10] at ht
 rcases (by simpa using Array.mem_of_getElem? ht:t=9∨t=3) with rfl|rfl
 ·exact (show Tryz.prog.wantsStandIn 9=false by kernel_rfl)
 ·exact (show Tryz.prog.wantsStandIn 3=false by kernel_rfl)
theorem proved:Rows.ExprBracketsUptoCardSaid:=
 Claim7.holds_tied_plain_at .later [] _ _ _ _ over (fun _ h=>by cases h) (by kernel_rfl) (fun _ h=>by cases h) exprBracketsUpto_row_tie rfl ⟨rfl,rfl⟩ Jh rfl plain (Mc OV rfl)
#print axioms proved
end Go.Proofs.YtkidoddkbhchkaaGreatDoor.exprBrackets
