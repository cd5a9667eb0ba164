/-
  two blocks that are read are read as one when they are joined: the statement, where what it reads is of bulk at most 1048576.
-/
import Derived.Test.YtpaiiicnhgoijaaGreatDoorJ6
set_option linter.unusedVariables false
set_option linter.unusedSimpArgs false
set_option maxHeartbeats 16000000
namespace Go.Proofs.YtpaiiicnhgoijaaGreatDoor.declJoined
open Go.Proofs.Z Go Go.Aw Go.ChangeShapes Go.WideShapes Go.ChangeAt Go.RowKit
theorem shut:ZY Tryz.prog [9]=true:=by kernel_rfl
set_option maxRecDepth 100000 in
theorem gq (H:Type) (U:TypeId×Value→H) (W:World) (base:Nat) (args:Array Value) (ds gs:List (DataW H)) (before:List MemPlace) (hk:Rows.uptoSmall H (ds++gs)=true) (hL:laidMetH Tryz.prog Rows.declJoinedUptoRow.laid W) (hsh:W.ShapedOpen Tryz.prog)
 (hval:∀(j:Nat) t v,Tryz.f8.params[j]? =some t→args[j]? =some v→Value.okWide Tryz.prog W .any base t v)
 (hW:DataW.Whole U Tryz.prog Tryz.f8.params.toList Rows.declJoinedSpec.vars false W args.toList ds gs before):
 Calls Tryz.prog 8 args W fun e W'=>∃v,e=.returned v∧Rows.declJoinedSpec.post U Tryz.prog Tryz.f8 false true false false W args v W':=by
 have hg:=nF (nQ (by kernel_rfl) hL) hsh
 have hW':=hW
 obtain ⟨p,q,hA0,hV,rfl,hfz,hnd⟩:=hW
 have hA:DataW.TrodAll U Tryz.prog W 0 (fun _=>true) true Tryz.f8.params.toList args.toList ds p:=hA0
 rw [Tryz.params8] at hA hval
 obtain ⟨v0,vs0,d0,ds0,p0,q0,hargs,rfl,rfl,⟨n0,h0⟩,r0⟩:=trodAll_cons hA
 obtain ⟨v1,vs1,d1,ds1,p1,q1,rfl,rfl,rfl,⟨n1,h1⟩,r1⟩:=trodAll_cons r0
 obtain ⟨rfl,rfl,rfl⟩:=trodAll_nil r1
 obtain rfl:args=#[v0,v1]:=by cases args;simp_all
 have hsmall:Rows.uptoBulk d0+Rows.uptoBulk d1≤1048576:=by
  have:Rows.uptoBulkAll ([d0,d1]++gs)≤1048576:=of_decide_eq_true hk
  simp only [List.cons_append,List.nil_append,Rows.uptoBulkAll] at this
  omega
 obtain ⟨us0,g0,_,k0⟩:=RU (B:=1048576) (kids_rows P2 P3) shut (by decide) n0 9 v0.cells.toList (d0,p0) (by decide) (show Rows.uptoBulk d0≤1048576 by omega) h0
 obtain ⟨a0,rfl,hz0⟩:=Z0 Tryz.underlying9 g0
 have e0:AK (Df W) (.str a0) v0:=N9 Tryz.underlying9 (hval 0 _ v0 rfl rfl) k0
 have hz0:a0.length+1=Rows.uptoBulk d0:=hz0
 obtain ⟨us1,g1,_,k1⟩:=RU (B:=1048576) (kids_rows P2 P3) shut (by decide) n1 9 v1.cells.toList (d1,p1) (by decide) (show Rows.uptoBulk d1≤1048576 by omega) h1
 obtain ⟨a1,rfl,hz1⟩:=Z0 Tryz.underlying9 g1
 have e1:AK (Df W) (.str a1) v1:=N9 Tryz.underlying9 (hval 1 _ v1 rfl rfl) k1
 have hz1:a1.length+1=Rows.uptoBulk d1:=hz1
 have hrep:Aj (Df W) [.str a0,.str a1] (#[v0,v1]:Array Value).toList:=by
  simp only [Aj]
  exact ⟨v0,_,rfl,e0,⟨v1,_,rfl,e1,rfl⟩⟩
 refine (iJ hg (Tb (st:=lH) (R:=fun r _=>r=.ret (.bool true)) (fun _=>rfl)) hrep).mono fun e W' ⟨he,hkept⟩=>?_
 obtain ⟨rfl,_⟩:=trodVars_none hV
 exact ⟨_,he,iK P2 P3 ie rfl Tryz.underlying4 (by intro t ht;rw [Tryz.params8] at ht;simp at ht;rcases ht with rfl|rfl<;>decide +kernel) rfl hW' rfl hkept⟩
set_option maxRecDepth 100000 in
theorem XH (os:Os) {H:Type} (U:TypeId×Value→H):
 (Rows.OpenSpec.upto Rows.declJoinedSpec).preRow U Tryz.prog Tryz.f8 Rows.declJoinedUptoRow.domain false Rows.declJoinedUptoRow.laid ((KD os).forCall (fun _ _=>0) ⟨#[],#[.string ⟨#[]⟩,.string ⟨#[]⟩],[]⟩).memory #[.string ⟨#[]⟩,.string ⟨#[]⟩]:=by
 have hw:(DataW.whole U Tryz.prog ((KD os).forCall (fun _ _=>0) ⟨#[],#[.string ⟨#[]⟩,.string ⟨#[]⟩],[]⟩).memory Tryz.f8.params.toList Rows.declJoinedSpec.vars false (#[.string ⟨#[]⟩,.string ⟨#[]⟩]:Array Value).toList 8).map (fun x=>(x.1,x.2.1))=
  some ([.lit (.string []),.lit (.string [])],[]):=by kernel_rfl
 obtain ⟨⟨x1,x2,x3⟩,hx,hx1⟩:=Option.map_eq_some_iff.1 hw
 simp only [Prod.mk.injEq] at hx1
 obtain ⟨rfl,rfl⟩:=hx1
 exact OpenSpec.preRow_of_cond 8 hx (by kernel_rfl) (fun k hk=>by cases hk;kernel_rfl) (by kernel_rfl) (nR (by kernel_rfl) (nP os _))
set_option maxRecDepth 100000 in
theorem lifted (os:Os) (started:os.Started) (H:Type) (U:TypeId×Value→H) (F:Stop.Interp):
 ReturnsInHanded {} Tryz.checked os 8 .any ((Rows.OpenSpec.upto Rows.declJoinedSpec).preRow U Tryz.prog Tryz.f8 Rows.declJoinedUptoRow.domain false Rows.declJoinedUptoRow.laid) (((Rows.OpenSpec.upto Rows.declJoinedSpec).at F).post U Tryz.prog Tryz.f8 false true false false):=by
 refine returnsInHanded_of_row (C:=Tryz.checked) (s:=Rows.OpenSpec.upto Rows.declJoinedSpec) own started (by kernel_rfl) Tryz.func8
  (witness_row_atRef (enc:=U) (C:=Tryz.checked) false (KD os) #[.string ⟨#[]⟩,.string ⟨#[]⟩] rfl (by kernel_rfl) (by kernel_rfl) (by kernel_rfl) (XH os U)) ?_
 intro W base args ds gs before hval hW _ hcond _ hL hsh _
 exact gq H U W base args ds gs before (hcond _ rfl) hL hsh hval hW
theorem ry:(Rows.declJoinedUptoRow.inPlace==Tryz.prog.inPlace 8)=true:=by kernel_rfl
theorem rz:(Rows.declJoinedUptoRow.unfollowed==Tryz.prog.unfollowed 8)=true:=by kernel_rfl
theorem nk:(Rows.declJoinedUptoRow.recurses==Tryz.prog.recurses 8)=true:=by kernel_rfl
theorem cR:(Rows.declJoinedUptoRow.named==Tryz.prog.varsNamed 8)=true:=by kernel_rfl
theorem Va : Tryz.prog.funcNamed "offside/offsidelaw14.DeclJoined" = some 8 := by kernel_rfl
theorem ij:Tryz.prog.mainIs=some (Rows.declJoinedUptoCard.stood.harness.1,Rows.declJoinedUptoCard.stood.harness.2.toList):=by kernel_rfl
set_option maxRecDepth 100000 in
theorem closed:joinedFacts Tryz.prog 8 Tryz.f8 (Rows.OpenSpec.upto Rows.declJoinedSpec).bare Rows.declJoinedUptoRow=true:=
 ib (by kernel_rfl) ry rz nk cR (by kernel_rfl) cP cO cQ ik (by kernel_rfl)
theorem over:Rows.DeclJoinedUptoSaid:=
 OpenClaim.holds_of_cond 8 Tryz.f8 rfl rfl rfl rfl rfl rfl rfl ⟨rfl,rfl,rfl,rfl,rfl⟩ rfl rfl rfl rfl rfl Va Tryz.func8 closed
  (of_decide_eq_true (by kernel_rfl)) (by unfold Func.isWrapper;first|(rw [if_pos (by decide +kernel)];kernel_rfl)|(rw [if_neg (by decide +kernel)];exact ⟨rfl,rfl⟩))
  (fun os started H U _ F=>by rw [OpenClaim.pre_eq_preRow];exact lifted os started H U F)
theorem plain (f : FuncId) (fn : Func) (hf : Tryz.pinned.checked.prog.funcNamed "offside/offsidelaw14.DeclJoined" = some f) (U : Tryz.pinned.checked.prog.funcs[f]? = some fn) :
 true=Tryz.pinned.checked.prog.looks []∧∀(j:Nat) t,fn.params[j]? =some t→Tryz.pinned.checked.prog.wantsStandIn t=false:=by
 obtain rfl:f=8:=Option.some.inj (Va.symm.trans hf)|>.symm
 obtain rfl:fn=Tryz.f8:=(Option.some.inj (Tryz.func8.symm.trans U)).symm
 refine ⟨by kernel_rfl,fun j t ht=>?_⟩
 rw [Tryz.params8] at ht
 obtain rfl:t=9:=by simpa using Array.mem_of_getElem? ht
 exact (show Tryz.prog.wantsStandIn 9=false by kernel_rfl)
theorem proved:Rows.DeclJoinedUptoCardSaid:=
 Claim7.holds_tied_plain_at .later [] _ _ _ _ over (fun _ h=>by cases h) (by kernel_rfl) (fun _ h=>by cases h) declJoinedUpto_row_tie rfl ⟨rfl,rfl⟩ ij rfl plain (cU ig rfl)
#print axioms proved
end Go.Proofs.YtpaiiicnhgoijaaGreatDoor.declJoined
