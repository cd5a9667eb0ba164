/-
  the operators of the module that a text is are resolved as the document says, and refused where it says: the statement, where what it reads is of bulk at most 1048576.
-/
import Derived.Test.YtpkekfapphbgjaaGreatDoorW12
set_option linter.unusedVariables false
set_option linter.unusedSimpArgs false
set_option maxHeartbeats 16000000
namespace Go.Proofs.YtpkekfapphbgjaaGreatDoor.scopeTexts
open Go.Proofs.Z Go Go.Aw Go.ChangeShapes Go.WideShapes Go.ChangeAt Go.RowKit
theorem shut:Vj Tryz.prog [9]=true:=by kernel_rfl
set_option maxRecDepth 100000 in
theorem Ra (H:Type) (U:TypeId×Value→H) (W:World) (base:Nat) (args:Array Value) (ds gs:List (DataW H)) (before:List MemPlace) (hk:Rows.uptoSmall H (ds++gs)=true) (hL:laidMetH Tryz.prog Rows.scopeTextsUptoRow.laid W) (hsh:W.ShapedOpen Tryz.prog)
 (hval:∀(j:Nat) t v,Tryz.f11.params[j]? =some t→args[j]? =some v→Value.okWide Tryz.prog W .any base t v)
 (hW:DataW.Whole U Tryz.prog Tryz.f11.params.toList Rows.scopeTextsSpec.vars false W args.toList ds gs before):
 Calls Tryz.prog 11 args W fun e W'=>∃v,e=.returned v∧Rows.scopeTextsSpec.post U Tryz.prog Tryz.f11 false true false false W args v W':=by
 have hg:=eQ (eY (by kernel_rfl) hL) hsh
 have hW':=hW
 obtain ⟨p,q,hA0,hV,rfl,hfz,hnd⟩:=hW
 have hA:DataW.TrodAll U Tryz.prog W 0 (fun _=>true) true Tryz.f11.params.toList args.toList ds p:=hA0
 rw [Tryz.params11] at hA hval
 obtain ⟨v0,vs0,d0,ds0,p0,q0,hargs,rfl,rfl,⟨n0,h0⟩,r0⟩:=trodAll_cons hA
 obtain ⟨rfl,rfl,rfl⟩:=trodAll_nil r0
 obtain rfl:args=#[v0]:=by cases args;simp_all
 have hsmall:Rows.uptoBulk d0≤1048576:=by
  have:Rows.uptoBulkAll ([d0]++gs)≤1048576:=of_decide_eq_true hk
  simp only [List.cons_append,List.nil_append,Rows.uptoBulkAll] at this
  omega
 obtain ⟨us0,g0,_,k0⟩:=T7 (B:=1048576) (kids_rows Nl Nn) shut (by decide) n0 9 v0.cells.toList (d0,p0) (by decide) (show Rows.uptoBulk d0≤1048576 by omega) h0
 obtain ⟨a0,rfl,hz0⟩:=er Tryz.underlying9 g0
 have e0:A3 (Dq W) (.str a0) v0:=Zs Tryz.underlying9 (hval 0 _ v0 rfl rfl) k0
 have hz0:a0.length+1=Rows.uptoBulk d0:=hz0
 have hrep:Ap (Dq W) [.str a0] (#[v0]:Array Value).toList:=by
  simp only [Ap]
  exact ⟨v0,_,rfl,e0,rfl⟩
 refine (Yw hg (Xg (st:=gI) (R:=fun r _=>r=.ret (.bool true)) (fun _=>rfl)) hrep).mono fun e W' ⟨he,hkept⟩=>?_
 obtain ⟨rfl,_⟩:=trodVars_none hV
 exact ⟨_,he,Yx Nl Nn Yf rfl Tryz.underlying4 (by intro t ht;rw [Tryz.params11] at ht;simp at ht;subst ht;decide +kernel) rfl hW' rfl hkept⟩
set_option maxRecDepth 100000 in
theorem Ld (os:Os) {H:Type} (U:TypeId×Value→H):
 (Rows.OpenSpec.upto Rows.scopeTextsSpec).preRow U Tryz.prog Tryz.f11 Rows.scopeTextsUptoRow.domain false Rows.scopeTextsUptoRow.laid ((EN os).forCall (fun _ _=>0) ⟨#[],#[.string ⟨#[]⟩],[]⟩).memory #[.string ⟨#[]⟩]:=by
 have hw:(DataW.whole U Tryz.prog ((EN os).forCall (fun _ _=>0) ⟨#[],#[.string ⟨#[]⟩],[]⟩).memory Tryz.f11.params.toList Rows.scopeTextsSpec.vars false (#[.string ⟨#[]⟩]:Array Value).toList 8).map (fun x=>(x.1,x.2.1))=
  some ([.lit (.string [])],[]):=by kernel_rfl
 obtain ⟨⟨x1,x2,x3⟩,hx,hx1⟩:=Option.map_eq_some_iff.1 hw
 simp only [Prod.mk.injEq] at hx1
 obtain ⟨rfl,rfl⟩:=hx1
 exact OpenSpec.preRow_of_cond 8 hx (by kernel_rfl) (fun k hk=>by cases hk;kernel_rfl) (by kernel_rfl) (eZ (by kernel_rfl) (eX os _))
set_option maxRecDepth 100000 in
theorem lifted (os:Os) (started:os.Started) (H:Type) (U:TypeId×Value→H) (F:Stop.Interp):
 ReturnsInHanded {} Tryz.checked os 11 .any ((Rows.OpenSpec.upto Rows.scopeTextsSpec).preRow U Tryz.prog Tryz.f11 Rows.scopeTextsUptoRow.domain false Rows.scopeTextsUptoRow.laid) (((Rows.OpenSpec.upto Rows.scopeTextsSpec).at F).post U Tryz.prog Tryz.f11 false true false false):=by
 refine returnsInHanded_of_row (C:=Tryz.checked) (s:=Rows.OpenSpec.upto Rows.scopeTextsSpec) own started (by kernel_rfl) Tryz.func11
  (witness_row_atRef (enc:=U) (C:=Tryz.checked) false (EN os) #[.string ⟨#[]⟩] rfl (by kernel_rfl) (by kernel_rfl) (by kernel_rfl) (Ld os U)) ?_
 intro W base args ds gs before hval hW _ hcond _ hL hsh _
 exact Ra H U W base args ds gs before (hcond _ rfl) hL hsh hval hW
theorem bL:(Rows.scopeTextsUptoRow.inPlace==Tryz.prog.inPlace 11)=true:=by kernel_rfl
theorem bM:(Rows.scopeTextsUptoRow.unfollowed==Tryz.prog.unfollowed 11)=true:=by kernel_rfl
theorem VC:(Rows.scopeTextsUptoRow.recurses==Tryz.prog.recurses 11)=true:=by kernel_rfl
theorem Oz:(Rows.scopeTextsUptoRow.named==Tryz.prog.varsNamed 11)=true:=by kernel_rfl
theorem KK : Tryz.prog.funcNamed "offside/offsidelaw17.ScopeTexts" = some 11 := by kernel_rfl
theorem Rz:Tryz.prog.mainIs=some (Rows.scopeTextsUptoCard.stood.harness.1,Rows.scopeTextsUptoCard.stood.harness.2.toList):=by kernel_rfl
set_option maxRecDepth 100000 in
theorem closed:joinedFacts Tryz.prog 11 Tryz.f11 (Rows.OpenSpec.upto Rows.scopeTextsSpec).bare Rows.scopeTextsUptoRow=true:=
 Yc (by kernel_rfl) bL bM VC Oz (by kernel_rfl) Uh Ug Ui Yh (by kernel_rfl)
theorem over:Rows.ScopeTextsUptoSaid:=
 OpenClaim.holds_of_cond 11 Tryz.f11 rfl rfl rfl rfl rfl rfl rfl ⟨rfl,rfl,rfl,rfl,rfl⟩ rfl rfl rfl rfl rfl KK Tryz.func11 closed
  (of_decide_eq_true (by kernel_rfl)) (by unfold Func.isWrapper;first|(rw [if_pos (by decide +kernel)];kernel_rfl)|(rw [if_neg (by decide +kernel)];exact ⟨rfl,rfl⟩))
  (fun os started H U _ F=>by rw [OpenClaim.pre_eq_preRow];exact lifted os started H U F)
theorem plain (f : FuncId) (fn : Func) (hf : Tryz.pinned.checked.prog.funcNamed "offside/offsidelaw17.ScopeTexts" = some f) (U : Tryz.pinned.checked.prog.funcs[f]? = some fn) :
 true=Tryz.pinned.checked.prog.looks []∧∀(j:Nat) t,fn.params[j]? =some t→Tryz.pinned.checked.prog.wantsStandIn t=false:=by
 obtain rfl:f=11:=Option.some.inj (KK.symm.trans hf)|>.symm
 obtain rfl:fn=Tryz.f11:=(Option.some.inj (Tryz.func11.symm.trans U)).symm
 refine ⟨by kernel_rfl,fun j t ht=>?_⟩
 rw [Tryz.params11] at ht
 obtain rfl:t=9:=by simpa using Array.mem_of_getElem? ht
 exact (show Tryz.prog.wantsStandIn 9=false by kernel_rfl)
theorem proved:Rows.ScopeTextsUptoCardSaid:=
 Claim7.holds_tied_plain_at .later [] _ _ _ _ over (fun _ h=>by cases h) (by kernel_rfl) (fun _ h=>by cases h) scopeTextsUpto_row_tie rfl ⟨rfl,rfl⟩ Rz rfl plain (Uk Yg rfl)
#print axioms proved
end Go.Proofs.YtpkekfapphbgjaaGreatDoor.scopeTexts
