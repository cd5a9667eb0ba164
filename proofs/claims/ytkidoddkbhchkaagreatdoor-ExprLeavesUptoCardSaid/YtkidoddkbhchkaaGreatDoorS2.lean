/-
  Parts of a proof: lemmas that the last text uses.
-/
import Derived.Test.YtkidoddkbhchkaaGreatDoorS1
import Derived.Recover
import Derived.IntWalk
import Derived.Shelf.Strings.Builder1
import Derived.Shelf.Strings.Builder2
import Derived.Shelf.Strings.OnBuilder
import Derived.Shelf.Strings.Trim
import Derived.Shelf.Small.Utf8
import Derived.Shelf.Small.Strs
import Derived.Shelf.Strings.BuilderF
import Derived.Shelf.Strings.Builder2Cap
import Derived.Shelf.Strings.Search1
import Derived.Shelf.Strings.Search2
import Derived.Shelf.Strings.Search3
import Derived.Shelf.LaysM
import Derived.Shelf.Strings.Shaped
import Derived.Shelf.GgClosure.StringsIndexFunc
import Derived.Ground.GgwProg
import Derived.Shelf.GgClosure.StringsIndexFuncTop
import Derived.Shelf.GgClosure.StringsRunes
import Derived.Shelf.Strings.Prefix
import Derived.Shelf.Strings.Fields
import Derived.Shelf.Strings.SplitShaped
import Derived.Shelf.Unicode.Latin
import Derived.Shelf.Unicode.Decode
import Derived.Shelf.Strings.Runes
import Derived.Shelf.Strings.AsciiSet
import Derived.Shelf.Unicode.DecodeSlow
import Derived.Shelf.Unicode.DecodeAny
import Derived.Shelf.Unicode.Is16White
import Derived.Shelf.Unicode.IsSpaceAny
import Derived.Shelf.Unicode.DecodeLast
import Derived.Shelf.Unicode.Is16Any
import Derived.Shelf.Unicode.Is32Any
import Derived.Shelf.Unicode.ExclAny
import Derived.Shelf.Strings.FuncGrows
import Derived.Shelf.Slices.Turned
import Derived.Ground.Names2Prog
import Derived.Shelf.Slices.Clone
import Derived.Ground.SlgnProg
import Derived.Shelf.SlicesE.Clone
import Derived.Test.YtkidoddkbhchkaaGreatDoorProg
import Derived.Below
set_option linter.unusedVariables false
set_option linter.unusedSimpArgs false
set_option maxHeartbeats 16000000
namespace Go.Aw
open Go
section
variable {D:List Deferred} {P:Program} {T:List (Nat×Ty)} {C:FuncId→List V→St→(AM→St→Prop)→Prop} {I0 I:Mem} {st0 st:St} {w0 w:World} {β:Nat→Option Nat} {env:Env} {a:Act}
def GU (all:List Oper) (U:List (List Bool×Nat)):Bool:=
 ((List.range all.length).all fun j=> !(CB all (List.replicate all.length false) j)||U.contains (List.replicate all.length false,j))&&
 ((List.replicate all.length false==List.replicate all.length true)||(List.range all.length).any fun j=>CB all (List.replicate all.length false) j)&&
 U.all fun p=>(p.1.length==all.length)&&((List.range all.length).all fun j=> !(CB all (p.1.set p.2 true) j)||U.contains (p.1.set p.2 true,j))&&
  ((p.1.set p.2 true==List.replicate all.length true)||(List.range all.length).any fun j=>CB all (p.1.set p.2 true) j)
def gu (T:List (Nat×Ty)) (C:FuncId→List V→St→(AM→St→Prop)→Prop) (all:List Oper) (Q:AP→Env→St→Prop) (E:List Bool→Env) (S:List Bool→St) (p:List Bool×Nat):Prop:=
 match all[p.2]? with
 |some o=>Bf all o (E p.1) (HI T C o (E p.1) (S p.1) (fun v env st=>env.go o.dst v fun env=>(E (p.1.set p.2 true)).Fq env∧St.le (S (p.1.set p.2 true)) st) Q)
   ((E p.1).go o.dst (.Bo []) fun env=>(E (p.1.set p.2 true)).Fq env∧St.le (S (p.1.set p.2 true)) (S p.1))
 |none=>True
theorem Y8 (hT:Gd P T) (hC:∀f args st R,C f args st R→CP P f args st R∧Plain P f) {all:List Oper} {Q:AP→Env→St→Prop} {E:List Bool→Env} {S:List Bool→St} {PL:List (List Bool×Nat)}
 (hc:GU all PL=true) (step:∀p ∈ PL,gu T C all Q E S p) (fin:Q .normal (E (List.replicate all.length true)) (S (List.replicate all.length true))):
 ∀(fuel:Nat) (bs:List Bool) (listed:Array Bool) (I:Mem) (β:Nat→Option Nat) (a:Act) (w:World),bs.length=all.length→listed.toList=bs→bs.count false≤fuel→
  (∀j,j<all.length→CB all bs j=true→(bs,j) ∈ PL)→(bs=List.replicate all.length true∨∃j,j<all.length∧CB all bs j=true)→
  Rel D I0 st0 w0 I β (E bs) (S bs) a w→wpAny P .any all.toArray (BX D I0 st0 w0 Q) fuel listed a w:=by
 have full:∀{bs:List Bool},bs.length=all.length→bs.count false=0→bs=List.replicate all.length true:=fun {bs} hb h0=>by
  rw [List.eq_replicate_iff]
  refine ⟨hb,fun b hb=>?_⟩
  cases b with
  |true=>rfl
  |false=>have:=List.count_pos_iff.2 hb;omega
 have noready:∀{j:Nat},CB all (List.replicate all.length true) j=true→j<all.length→False:=fun {j} h hj=>by
  unfold CB at h
  simp only [Bool.and_eq_true,Bool.not_eq_true'] at h
  have:=h.1
  rw [List.getD_eq_getElem?_getD,List.getElem?_replicate,if_pos hj] at this
  cases this
 simp only [GU,Bool.and_eq_true,List.all_eq_true] at hc
 intro fuel
 induction fuel with
 |zero=>
  intro bs listed I β a w hb hl hf hp hr h
  have:=full hb (by omega)
  subst this
  refine ⟨?_,⟨I,β,_,_,.normal,h,trivial,fin⟩⟩
  rw [List.eq_nil_iff_forall_not_mem]
  intro j hj
  obtain ⟨h1,h2⟩:=(D2 hl hb).1 hj
  exact noready h2 h1
 |succ fuel ih=>
  intro bs listed I β a w hb hl hf hp hr h
  refine ⟨fun h0=>?_,fun i hi=>?_⟩
  ·rcases hr with rfl|⟨j,h1,h2⟩
   ·exact ⟨I,β,_,_,.normal,h,trivial,fin⟩
   ·have:=(D2 hl hb).2 ⟨h1,h2⟩
    rw [h0] at this;cases this
  ·obtain ⟨h1,h2⟩:=(D2 hl hb).1 hi
   have hm:=hp i h1 h2
   have hs:=step _ hm
   unfold gu at hs
   have ho:all[i]? =some all[i]:=List.getElem?_eq_getElem h1
   simp only [ho] at hs
   obtain ⟨⟨c1,c2⟩,c3⟩:=hc.2 _ hm
   refine KO hT hC (Q:=Q) ho (fun {I β env st a w} h k=>?_) h hs (K:=fun env st=>(E (bs.set i true)).Fq env∧St.le (S (bs.set i true)) st)
   ·have hbi:i<bs.length:=by omega
    refine ih (bs.set i true) _ I _ a w (by simpa using hb) (by simp [hl]) ?_ (fun j hj hr=>?_) ?_ ((h.Hl k.2).IK (Env.IM k.1))
    ·have:=List.count_set (a:=true) (i:=i) (l:=bs) (b:=false) hbi
     unfold CB at h2
     simp only [Bool.and_eq_true,Bool.not_eq_true'] at h2
     have U:=h2.1
     rw [List.getD_eq_getElem?_getD,List.getElem?_eq_getElem hbi] at U
     simp only [Option.getD_some] at U
     rw [U] at this
     have hpos:0<bs.count false:=List.count_pos_iff.2 (by rw [←U];exact List.getElem_mem hbi)
     simp only [beq_self_eq_true,if_true,show (true==false)=false from rfl,Bool.false_eq_true,if_false] at this
     omega
    ·have:=c2 j (List.mem_range.2 hj)
     rw [hr] at this
     simpa using this
    ·simp only [Bool.or_eq_true,beq_iff_eq,List.any_eq_true] at c3
     rcases c3 with c3|⟨j,hj,hr⟩
     ·exact .inl c3
     ·exact .inr ⟨j,List.mem_range.1 hj,hr⟩
theorem Vi (hP:SU P T) (hC:∀f args st R,C f args st R→CP P f args st R∧Plain P f) {id:Nat} {ops:Array Oper} {Q:AP→Env→St→Prop} (E:List Bool→Env) (S:List Bool→St) (PL:List (List Bool×Nat))
 (hc:GU ops.toList PL=true) (h0:(E (List.replicate ops.toList.length false)).Fq env) (s0:St.le (S (List.replicate ops.toList.length false)) st) (step:∀p ∈ PL,gu T C ops.toList Q E S p)
 (fin:Q .normal (E (List.replicate ops.toList.length true)) (S (List.replicate ops.toList.length true))):AW P (.region id ops true) Q env st:=fun D I0 st0 w0 I β a w h=>
 wp_region_any hP.m (by
  have U:=hc
  simp only [GU,Bool.and_eq_true,List.all_eq_true] at U
  have:=Y8 (D:=D) hP.t hC hc step fin ops.size (List.replicate ops.toList.length false) (Array.replicate ops.size false) I _ a _ (by simp) (by simp) (by simp) (fun j hj hr=>?_) ?_ (((h.IV (FQ.drew w)).Hl s0).IK (Env.IM h0))
  ·simpa using this
  ·have:=U.1.1 j (List.mem_range.2 hj)
   rw [hr] at this
   simpa using this
  ·have:=U.1.2
   simp only [Bool.or_eq_true,beq_iff_eq,List.any_eq_true] at this
   rcases this with h|⟨j,hj,hr⟩
   ·exact .inl h
   ·exact .inr ⟨j,List.mem_range.1 hj,hr⟩)
end
def V.Yg:V→Bool
 | .ptr _ _=>true
 |_=>false
theorem Ag.nz {I J:Mem}:∀{vs:List V} {cs:List Value},Ag I vs cs→vs.all V.Yg=true→Ag J vs cs
 |[],cs,h,_=>by simpa only [Ag] using h
 |v::vs,cs,h,k=>by
  simp only [Ag] at h ⊢
  obtain ⟨c,r,rfl,U,h2⟩:=h
  simp only [List.all_cons,Bool.and_eq_true] at k
  refine ⟨c,r,rfl,?_,Ag.nz h2 k.2⟩
  cases v<;>first|(simp only [Az] at U ⊢;exact U)|exact absurd k.1 (by simp [V.Yg])
def HZ (P:Program) (g:FuncId) (args:List V) (x:Option V) (st:St) (R:St→Prop):Prop:=
 ∀(I:Mem) (w:World) (U:List Value) (u:FrameMode),Ck I st w→Ag I args U→
  (match x with|none=>u=.returning|some v=>∃c,u=.panicking [{v:=c,recovered:=false}]∧Az I v c)→
  CallsD P g U.toArray u w fun e u' w'=>(∃v,e=.returned v)∧settle u'=.returning∧∃I' st',Fr I st w I' st' w'∧Ck I' st' w'∧R st'
section
variable {D:List Deferred} {P:Program} {T:List (Nat×Ty)} {I0 I:Mem} {st0 st:St} {w0 w:World} {β:Nat→Option Nat} {env:Env} {a:Act}
theorem Rel.defer (h:Rel D I0 st0 w0 I β env st a w) (d:Deferred):Rel (d::D) I0 st0 w0 I β env st {a with defers:=d::a.defers} w:=
 ⟨h.fr,h.s,⟨h.f.size,h.f.tmps,h.f.box,h.f.Bt,h.f.inj,h.f.sep,by rw [←h.f.defers]⟩⟩
def Um (T:List (Nat×Ty)) (fn:Func) (R:AM→St→Prop) (env:Env) (st:St):Prop:=
 E8 T env st fn.results.toList fun vs=>match vs with|[v]=>R (.ret v) st|vs=>R (.ret (.Bo vs)) st
def VW (P:Program) (T:List (Nat×Ty)) (g:FuncId) (U:List V) (fn:Func) (R:AM→St→Prop):AP→Env→St→Prop
 | .normal,env,st| .ret,env,st=>HZ P g U none st fun st'=>Um T fn R env st'
 | .Cg v,env,st=>HZ P g U (some v) st fun st'=>Um T fn R env st'
 |_,_,_=>False
def gT:AP→Env→St→Prop:=fun _ _ _=>False
theorem Gs {fn:Func} {args:List V} {U:List Value} (gl:List Nat) (hs:Ck I st w) (hargs:Ag I args U) (hle:Nat.ble args.length fn.ntmps=true):
 Rel [] I st w I (fun _=>none) {tmps:=IJ 0 args,boxes:=[],Bt:=0,sz:=fn.ntmps,gl} st
  {tmps:=U.toArray++Array.replicate (fn.ntmps - U.toArray.size) undef,defers:=[]} w:=by
 have hle:=Nat.le_of_ble_eq_true hle
 have hlen:=Ag.length hargs
 refine Pu hs (by simp;omega) (fun t v e=>?_) rfl rfl
 obtain ⟨_,e⟩:=Od e
 rw [Nat.sub_zero] at e
 obtain ⟨c',e1,e2⟩:=Ag.get hargs e
 have hlt:t<U.length:=by
  rcases Nat.lt_or_ge t U.length with h|h
  ·exact h
  ·rw [List.getElem?_eq_none h] at e1;cases e1
 have:(U.toArray++Array.replicate (fn.ntmps - U.toArray.size) undef).getD t undef=c':=by
  rw [List.getElem?_eq_getElem hlt] at e1
  injection e1 with e1
  subst e1
  simp [Array.getD,Array.getElem_append,hlt]
  omega
 rw [this]
 exact e2
theorem LA (hP:SU P T) {f:FuncId} {fn:Func} (gl:List Nat) {args:List V} {R:AM→St→Prop} (hf:P.funcs[f]? =some fn) {c0 c1 rest:Code} {rid:Nat} {mk U:Oper}
 (hb : fn.body = some (.seq c0 (.seq c1 (.seq (.region rid #[mk, U] false) rest)))) (hn : (fn.name == "runtime.NumGoroutine") = false) {g : FuncId} {cap : Array Operand} {tf : Nat}
 (h1:mk.op=.makeFunc (.func g) #[] cap) (h2:mk.dst=some tf) (h3:mk.guard=none) (h4:U.op=.defer {callee:=.value (.tmp tf),args:=#[],argTypes:=#[]}) (h5:U.guard=none) (h6:U.dst=none)
 (hg:Plain P g) (hle:Nat.ble args.length fn.ntmps=true)
 (h:Ns T (A5 P) c0 (B0 (Ns T (A5 P) c1 (B0 (fun env st=>SQ env cap.toList fun vs=>vs.all V.Yg=true∧env.go (some tf) (.func g [] vs) fun env=>
   AW P rest (VW P T g vs fn R) env st) gT)) gT) {tmps:=IJ 0 args,boxes:=[],Bt:=0,sz:=fn.ntmps,gl} st):A5 P f args st R:=by
 refine ⟨?_,fn,hf,by rw [hb];rfl,hn⟩
 intro I w cargs hs hargs
 refine calls_of_wp_defers hf hb ?_
 have hsd:=fun c {Q env st} k=>LX (Q:=Q) (env:=env) (st:=st) hP (Ce P) (fun _ _ _ _ _ h k=>k.mono h) c k
 refine wp_seq (wp_mono (hsd c0 h [] I st w I _ _ w (Gs gl hs hargs hle)) ?_)
 rintro e a w1 ⟨I1,β1,env1,st1,ae,r1,x1,k1⟩
 cases ae with
 |exit _|goto _|ret|Cg _=>exact k1.elim
 |normal=>
 cases e with
 |exit _|goto _|ret|panic _|outgrown=>exact x1.elim
 |normal=>
 refine wp_seq (wp_mono (hsd c1 k1 [] I st w I1 _ _ w1 r1) ?_)
 rintro e a w2 ⟨I2,β2,env2,st2,ae,r2,x2,k2⟩
 cases ae with
 |exit _|goto _|ret|Cg _=>exact k2.elim
 |normal=>
 cases e with
 |exit _|goto _|ret|panic _|outgrown=>exact x2.elim
 |normal=>
 refine wp_seq (wp_region_list ?_)
 show wpList P #[mk,U] _ [mk,U] a w2
 unfold wpList
 rw [if_pos (by simp [Region.wanted,h3])]
 left
 obtain ⟨vs,hv,kp,kg⟩:=FA r2.f (show SQ env2 cap.toList _ from k2)
 have hcv:Az I2 (.func g [] vs) (.func (.func g) #[] (cap.map a.eval)):=by
  simp only [Az]
  exact ⟨[],cap.toList.map a.eval,by congr 1;apply Array.ext';simp,by simp only [Ag],hv⟩
 obtain ⟨env3,r3,k3⟩:=BW r2 (AY.of hcv) kg
 have htf:tf<a.tmps.size:=by
  rw [r2.f.size]
  exact (Mb kg).1 tf rfl
 unfold Oper.wp
 rw [show (execOp a.eval mk).run P w2=.ok (.value (.func (.func g) #[] (cap.map a.eval))) w2 by simp only [execOp,h1,Array.map_empty];rfl]
 show wpList P #[mk,U] _ [U] (a.put mk.dst _) w2
 rw [h2]
 unfold wpList
 rw [if_pos (by simp [Region.wanted,h5])]
 left
 have hev:(a.put (some tf) (.func (.func g) #[] (cap.map a.eval))).eval (.tmp tf)=.func (.func g) #[] (cap.map a.eval):=by
  simp [Act.put,Act.eval,htf]
 unfold Oper.wp
 rw [show (execOp (a.put (some tf) (.func (.func g) #[] (cap.map a.eval))).eval U).run P w2=.ok (.defer {target:=.fn (.func g) (cap.map a.eval),args:=#[]}) w2 by
  simp only [execOp,h4,resolve,hev,Deferred.ofValue,Array.map_empty,Array.empty_append];rfl]
 rw [Oper.upon_defer]
 rw [h6]
 unfold wpList
 show rest.wp P _ _ _
 have r4:=r3.defer {target:=.fn (.func g) (cap.map a.eval),args:=#[]}
 refine wp_mono (k3 _ I st w I2 _ _ w2 r4) ?_
 rintro e a5 w5 ⟨I5,β5,env5,st5,ae,r5,x5,k5⟩
 have hd:=r5.f.defers
 obtain ⟨fn2,p1,p2,p3⟩:=hg
 have hinv:(invoke (.fn (.func g) (cap.map a.eval)) #[]).run P w5=.ok (.enter g (cap.toList.map a.eval).toArray) w5:=by
  have hb:fn2.body.isNone=false:=by cases hb:fn2.body<;>simp_all
  simp only [invoke,callFunc,Sem.run_bind,Sem.run_pure,Result.andThen_ok,run_program,p1]
  rw [p3]
  simp [hb]
  apply Array.ext';simp
 have last:∀{u:FrameMode} {x:Option V},u≠.run→(match x with|none=>u=.returning|some v=>∃c,u=.panicking [{v:=c,recovered:=false}]∧Az I5 v c)→HZ P g vs x st5 (fun st'=>Um T fn R env5 st')→
  Leaves P fn a5.tmps (fun e w'=>∃I' st' r,Fr I st w I' st' w'∧Ck I' st' w'∧Uk I' e r∧R r st') a5.defers u w5:=by
  intro u x hu hx k
  rw [hd]
  refine leaves_cons hu hinv ((k I5 w5 _ u r5.s (Ag.nz hv kp) hx).mono ?_)
  rintro e u' w6 ⟨⟨v,rfl⟩,hset,I6,st6,q1,q2,q3⟩
  show Leaves P fn a5.tmps _ [] (settle u') w6
  rw [hset]
  have r6:=r5.called q1 q2
  obtain ⟨v,c,g1,g2,g3⟩:=CD (P:=P) hP.t r6 q3
  exact ⟨c,g1,I6,st6,.ret v,r6.fr,r6.s,g2,g3⟩
 cases ae with
 |normal=>
  cases e with
  |normal=>exact last (x:=none) (by simp) rfl k5
  |_=>exact x5.elim
 |ret=>
  cases e with
  |ret=>exact last (x:=none) (by simp) rfl k5
  |_=>exact x5.elim
 |Cg v=>
  cases e with
  |panic chain=>
   obtain ⟨c,rfl,hc⟩:=x5
   exact last (x:=some v) (by simp) ⟨c,rfl,hc⟩ k5
  |_=>exact x5.elim
 |exit _=>exact k5.elim
 |goto _=>exact k5.elim
def kE:Option V→V
 |none=>.FE
 |some v=>v
def ph (T:List (Nat×Ty)) (fn:Func) (R:St→Prop):AP→Env→St→Prop
 | .normal,env,st| .ret,env,st=>Um T fn (fun _ st=>R st) env st
 |_,_,_=>False
theorem E7 (hP:SU P T) {g:FuncId} {fn:Func} (gl:List Nat) {args:List V} {x:Option V} {st:St} {R:St→Prop} (hf:P.funcs[g]? =some fn) {rest:Code} {rid:Nat} {ro ao:Oper}
 (hb:fn.body=some (.seq (.region rid #[ro,ao] false) rest)) {t1 t2:Nat} {nY:Array TypeId} (h1:ro.op=.call {callee:=.builtin .recover,args:=#[],argTypes:=nY}) (h2:ro.dst=some t1) (h3:ro.guard=none)
 (h4:ao.op=.assign (.tmp t1)) (h5:ao.dst=some t2) (h6:ao.guard=none) (hle:Nat.ble args.length fn.ntmps=true)
 (h:∀env0:Env,env0={tmps:=IJ 0 args,boxes:=[],Bt:=0,sz:=fn.ntmps,gl}→env0.go (some t1) (kE x) fun env=>env.go (some t2) (kE x) fun env=>AW P rest (ph T fn R) env st):HZ P g args x st R:=by
 intro I w cargs u hs hargs hx
 refine callsD_of_wpS hf hb (fun c0 cs hu=>?_)
 refine wpS_seq (wpS_region ?_)
 obtain ⟨c,cs',u',U,hrep,hcs,hset⟩:∃(c:Value) (cs':List Frame) (u':FrameMode),(match recoverD (c0::cs) with|some (v,cs1)=>c=v∧cs'=cs1|none=>c=.nilIface∧cs'=c0::cs)∧Az I (kE x) c∧cs'={c0 with mode:=u'}::cs∧settle u'=.returning:=by
  cases x with
  |none=>
   have hx:u=.returning:=hx
   rw [hx] at hu
   refine ⟨.nilIface,c0::cs,.returning,?_,by simp only [kE,Az],?_,rfl⟩
   ·simp only [recoverD,hu,and_self]
   ·rw [←hu]
  |some v=>
   obtain ⟨c,hx,hc⟩:=hx
   rw [hx] at hu
   refine ⟨c,{c0 with mode:=.panicking [{v:=c,recovered:=true}]}::cs,.panicking [{v:=c,recovered:=true}],?_,hc,rfl,rfl⟩
   simp only [recoverD,hu,and_self]
 have r0:=Gs (fn:=fn) gl hs hargs hle
 obtain ⟨env1,r1,k1⟩:=BW r0 (AY.of hrep) (h _ rfl)
 obtain ⟨env2,r2,k2⟩:=BW r1 (AY.of hrep) k1
 have hlt:t1<(cargs.toArray++Array.replicate (fn.ntmps - cargs.toArray.size) undef).size:=by
  have:=(Mb (h _ rfl)).1 t1 rfl
  rw [r0.f.size]
  exact this
 show wpOpsS P #[ro,ao] _ [0,1] _ _ _
 unfold wpOpsS
 simp only [List.getElem?_toArray,List.getElem?_cons_zero]
 rw [if_pos (by simp [Region.wanted,h3])]
 rw [show ∀ρ,(execOp ρ ro).run P w=.ok .recover w from fun ρ=>by simp only [execOp,h1];rfl]
 dsimp only
 have next:∀(b:Act) (tail:Act→List Frame→World→Prop),tail (b.put (some t1) c) cs' w→(match recoverD (c0::cs) with|some (v,cs1)=>tail (b.put ro.dst v) cs1 w|none=>tail (b.put ro.dst .nilIface) (c0::cs) w):=fun b tail ht=>by
  rw [h2]
  cases hr:recoverD (c0::cs) with
  |none=>
   rw [hr] at U
   obtain ⟨rfl,rfl⟩:=U
   exact ht
  |some p=>
   obtain ⟨v,cs1⟩:=p
   rw [hr] at U
   obtain ⟨rfl,rfl⟩:=U
   exact ht
 refine next _ (fun a cs w=>wpOpsS P #[ro,ao] _ [1] a cs w) ?_
 unfold wpOpsS
 simp only [List.getElem?_toArray,List.getElem?_cons_succ,List.getElem?_cons_zero]
 rw [if_pos (by simp [Region.wanted,h6])]
 have hev:∀tm:Act,t1<tm.tmps.size→(tm.put (some t1) c).eval (.tmp t1)=c:=fun tm ht=>by simp [Act.put,Act.eval,ht]
 rw [show ∀ρ,(execOp ρ ao).run P w=.ok (.value (ρ (.tmp t1))) w from fun ρ=>by simp only [execOp,h4];rfl]
 dsimp only
 rw [Oper.upon_value,hev _ hlt,h5]
 unfold wpOpsS
 show rest.wpS P _ _ cs' w
 refine wpS_of_wp (wp_mono (k2 [] I st w I _ _ w r2) ?_)
 rintro e a5 w5 ⟨I5,β5,env5,st5,ae,r5,x5,k5⟩
 have last:Um T fn (fun _ st=>R st) env5 st5→a5.defers=[]∧∃u',cs'={c0 with mode:=u'}::cs∧∃v,(results fn a5.tmps).run P w5=.ok v w5∧((∃v',Ending.returned v=.returned v')∧settle u'=.returning∧∃I' st',Fr I st w I' st' w5∧Ck I' st' w5∧R st'):=fun q=>by
  obtain ⟨v,c,g1,g2,g3⟩:=CD (P:=P) (R:=fun _ st=>R st) hP.t r5 (show E8 T env5 st5 fn.results.toList _ from q)
  exact ⟨r5.f.defers,u',hcs,c,g1,⟨_,rfl⟩,hset,I5,st5,r5.fr,r5.s,g3⟩
 cases ae with
 |normal=>
  cases e with
  |normal=>exact last k5
  |_=>exact x5.elim
 |ret=>
  cases e with
  |ret=>exact last k5
  |_=>exact x5.elim
 |Cg v=>exact k5.elim
 |exit _=>exact k5.elim
 |goto _=>exact k5.elim
end
end Go.Aw
namespace Go.Aw
theorem Wt {α:Type} [BEq α] [LawfulBEq α] {a b:α} {p q:Prop} (e:a=b) (h:p):A8 (a==b) p q:=Wg (fun _=>h) (fun n=>absurd e n)
theorem Wu {α:Type} [BEq α] [LawfulBEq α] {a b:α} {p q:Prop} (e:¬a=b) (h:q):A8 (a==b) p q:=Wg (fun n=>absurd n e) (fun _=>h)
theorem Wv {c:Prop} [Decidable c] {p q:Prop} (e:c) (h:p):A8 (decide c) p q:=Wh (fun _=>h) (fun n=>absurd e n)
theorem Ww {c:Prop} [Decidable c] {p q:Prop} (e:¬c) (h:q):A8 (decide c) p q:=Wh (fun n=>absurd n e) (fun _=>h)
end Go.Aw
namespace Go.Proofs.YtkidoddkbhchkaaGreatDoor
open Go Go.Aw
abbrev PC (f:FuncId) (args:List V) (st:St) (R:AM→St→Prop):Prop:=A5 Tryz.prog f args st R
structure Tk where
 kind:Int
 text:List UInt8
 line:Int
 B7:Int
structure Ae where
 Ak:List Tk
 pos:Int
 CG:List Int
 wait:Int
def Tk.cells (t:Tk):List V:=[.int .i64 t.kind,.str t.text,.int .i64 t.line,.int .i64 t.B7]
def FV (t:Tk):V:=.agg t.cells
def Av (l:List Tk):List (List V):=l.map Tk.cells
def Ae.cells (s:Ae):List V:=[.slice 4 (Av s.Ak) .any,.int .i64 s.pos,.slice 1 (ints s.CG) .any,.int .i64 s.wait]
def CN (s:Ae):V:=.agg s.cells
def YZ:Tk:=⟨0,[],0,0⟩
def En:Ae:=⟨[],0,[],0⟩
theorem F2 (l:List Tk):(Av l).length=l.length:=by simp [Av]
theorem CA (l:List Int):(ints l).length=l.length:=by simp [ints]
theorem Wz {l:List Tk} {K:Nat→Prop} (k:l.length<4611686018427387904→K l.length):∀m,m=(Av l).length→m<De→K m:=fun m U h=>by
 rw [F2] at U;subst U;exact k h
theorem WA {l:List Int} {K:Nat→Prop} (k:l.length<4611686018427387904→K l.length):∀m,m=(ints l).length→m<De→K m:=fun m U h=>by
 rw [CA] at U;subst U;exact k h
theorem WC {l:List Tk} {i:Int} {K:List V→Prop} (h0:0≤i) (h1:i<l.length) (k:∀x,l[i.toNat]? =some x→K x.cells):0≤i∧∃e,(Av l)[i.toNat]? =some e∧K e:=by
 have U:i.toNat<l.length:=by omega
 exact ⟨h0,l[i.toNat].cells,by simp [Av,U],k _ (List.getElem?_eq_getElem U)⟩
theorem WB {l:List Tk} {i:Int} {x:Tk} {K:List V→Prop} (h:l[i.toNat]? =some x) (U:0≤i) (k:K x.cells):0≤i∧∃e,(Av l)[i.toNat]? =some e∧K e:=
 ⟨U,x.cells,by simp [Av,h],k⟩
theorem WD {l:List Int} {i:Int} {K:List V→Prop} (h0:0≤i) (h1:i<l.length) (k:∀x,l[i.toNat]? =some x→K [.int .i64 x]):0≤i∧∃e,(ints l)[i.toNat]? =some e∧K e:=by
 have U:i.toNat<l.length:=by omega
 exact ⟨h0,[.int .i64 l[i.toNat]],by simp [ints,U],k _ (List.getElem?_eq_getElem U)⟩
theorem WE {l:List Int} {a b:Int} {K:List (List V)→Prop} (h0:0≤a) (h1:a≤b) (h2:b≤l.length) (k:K (ints ((l.take b.toNat).drop a.toNat))):
 (0≤a∧a≤b∧b≤(ints l).length)∧∀U,U=(((ints l).take b.toNat).drop a.toNat)→K U:=by
 refine ⟨⟨h0,h1,by rw [CA];exact h2⟩,fun U e=>?_⟩
 have:((ints l).take b.toNat).drop a.toNat=ints ((l.take b.toNat).drop a.toNat):=by simp [ints,List.map_drop,List.map_take]
 rw [this] at e;subst e;exact k
theorem Wx {es:List (List V)} {K:Bool→Prop} (h:es=[]→K true) (k:K false):∀b,(b=true→es=[])→K b
 |true,e=>h (e rfl)
 |false,_=>k
theorem Wy {es:List (List V)} {K:Bool→Prop} (h:es=[]→K false) (k:K true):∀b,(b=false→es=[])→K b
 |false,e=>h (e rfl)
 |true,_=>k
theorem SZ {l new:List Int} {own:AO} {st:St} {K:V→St→Prop} (h:own.Bn st) (hb:l.length+new.length≤1000000000)
 (k:∀U:AO,U.Bn st→K (.slice 1 (ints (l++new)) U) (U.st st (l++new).length)):Ai 1 8 (ints l) own (ints new) (own.st st l.length) K:=by
 have hw:(ints new).map (·.map V.IU)=ints new:=by
  simp only [ints,List.map_map]
  exact List.map_congr_left fun x _=>rfl
 have hsc:((ints new).all fun v=>v.all V.sc)=true:=by
  simp only [ints,List.all_map,List.all_eq_true]
  exact fun x _=>rfl
 have:=DZ (sz:=1) (bytes:=8) (es:=ints l) (new:=ints new) (K:=K) h (by rw [CA,CA];omega) (by rw [CA,CA];simp only [De];omega) hsc (fun U ho=>by
  have:=k U ho
  rw [CA,CA,hw,←show ints (l++new)=ints l++ints new from by simp [ints],←List.length_append,Nat.mul_one]
  exact this)
 rw [CA,Nat.mul_one] at this
 exact this
section
variable {st:St} {R:AM→St→Prop}
theorem Ej {r r':AM} {st':St} (hs:st.le st') (e:r=r'.wk) (h:R r st):∃r2 U,(r2=r'∨r2=r'.wk)∧St.le U st'∧R r2 U:=⟨r,st,.inr e,hs,h⟩
end
theorem Cq {P:Prop} (h:P:=by with_reducible first|(show _∧_;first|exact Wa)|(show A8 _ _ _;first|exact Wb|exact Wc)|fail):P:=h
theorem Bc {P A:Prop} (k:A) (h:A→P:=by intro k;with_reducible first|(show _∧_;first|exact Wd (by kernel_rfl) k|exact Wm (by assumption) (by omega) k|exact Wn (by omega) (by omega) k|exact Wo (by omega) (by omega) k|exact Wp (by omega) (by omega) (by omega) k|exact Wr (by decide) (by omega) (by omega) k|exact Ws (by decide) k|exact WB (by assumption) (by omega) k|exact WC (by omega) (by omega) k|exact WD (by omega) (by omega) k|exact WE (by omega) (by omega) (by omega) k)|(show A8 _ _ _;first|exact Wt (by first|assumption|omega) k|exact Wu (by first|assumption|omega) k|exact Wv (by omega) k|exact Ww (by omega) k|exact Wi k|exact Wj k)|(intro x y z;exact Wl k x y z)|(intro x y z;exact Wz k x y z)|(intro x y z;exact WA k x y z)|(show Exists _;first|exact Wq (by omega) (by omega) k)|fail):P:=h k
theorem Cr {P:Prop} {B C:V→Prop} (k:V) (l:B k) (m:C k) (h:∀k,B k→C k→P:=by intro k l m;with_reducible first|(show Exists _;first|exact We k l m|exact W8 (by decide +kernel) k l m|exact W0 (by decide +kernel) k l m|exact W9 k l m)|fail):P:=h k l m
theorem Be {P A B:Prop} (k:A) (l:B) (h:A→B→P:=by intro k l;with_reducible first|(show A8 _ _ _;first|exact Wf (by decide) k l|exact Wg k l|exact Wh k l|exact Wk k l)|fail):P:=h k l
theorem Ka {P A B:Prop} (k:A) (l:B) (h:A→B→P:=by intro k l;with_reducible first|(intro x y;exact Wx k l x y)|(intro x y;exact Wy k l x y)|fail):P:=h k l
section
variable {H:Type}
theorem cL {n:Nat} (d:DataW H) (vs:List V) (h:dec Tryz.prog n 50 d=some vs):∃t:Tk,vs=t.cells∧t.text.length+1≤Rows.uptoBulk d:=by
 obtain ⟨m,ds,us,rfl,hl,hm,rfl,hb⟩:=Oy Tryz.underlying50 h
 match ds,hl with
 |[d0,d1,d2,d3],_=>
  simp only [List.zip_cons_cons,List.zip_nil_right] at hm
  obtain ⟨u0,r0,h0,U,rfl⟩:=BZ hm
  obtain ⟨u1,r1,h1,hm1,rfl⟩:=BZ U
  obtain ⟨u2,r2,h2,hm2,rfl⟩:=BZ hm1
  obtain ⟨u3,r3,h3,hm3,rfl⟩:=BZ hm2
  cases hm3
  obtain ⟨k,rfl⟩:=FL Tryz.underlying3 h0
  obtain ⟨t,rfl,ht⟩:=XN Tryz.underlying9 h1
  obtain ⟨l,rfl⟩:=FL Tryz.underlying3 h2
  obtain ⟨c,rfl⟩:=FL Tryz.underlying3 h3
  have ht:t.length+1=Rows.uptoBulk d1:=ht
  simp only [Rows.uptoBulkAll] at hb
  exact ⟨⟨k,t,l,c⟩,rfl,by show t.length+1≤_;omega⟩
theorem Vn:Tryz.prog.cellsOf 50=4:=by kernel_rfl
theorem Zv {n:Nat} {d:DataW H} {vs:List V} (h:dec Tryz.prog n 23 d=some vs):∃l:List Tk,vs=[.slice 4 (Av l) .any]∧(l.map fun t=>t.text.length+1).sum+1≤Rows.uptoBulk d:=by
 obtain ⟨m,es,ds,rfl,rfl,U,hb⟩:=Qy Tryz.underlying23 h
 obtain ⟨l,rfl,hs⟩:=Ox (f:=Tk.cells) (w:=fun t=>t.text.length+1) (fun d vs h=>cL d vs h) U
 exact ⟨l,by rw [Vn];rfl,by omega⟩
end
end Go.Proofs.YtkidoddkbhchkaaGreatDoor
namespace Go.Aw
open Go Go.ChangeShapes
theorem OR {P:Program} {f:FuncId} {fn:Func} {s:ChangeSpec} {c:OpenClaim}
 (a1:(c.wf (OpenSpec.ofChange s)&&laidOutB P&&mapsRowed P&&fn.params.all (P.readableRec ·)&&namedTie P c.named s.vars&&(c.stops==[])&&(P.stops==[])&&(c.knobs==[])&&(P.stopKnobs==[]))=true)
 (a2:(c.inPlace==P.inPlace f)=true) (a3:(c.unfollowed==P.unfollowed f)=true) (a4:(c.recurses==P.recurses f)=true) (a5:(c.named==P.varsNamed f)=true)
 (a6:((c.maps==(fn.params.toList++s.plain.varTypes P).any (P.mapsRec ·))&&(c.ifaces==(fn.params.toList++s.plain.varTypes P).any (P.ifacesRec ·))&&(c.mapsOut==P.mapsAmong fn.resultTypes.toList)&&(c.loops==(fn.params.toList++s.plain.varTypes P).any (P.loopsFrom ·))&&(c.wideKeys==(fn.params.toList++s.plain.varTypes P++fn.resultTypes.toList).any (P.wideKeysFrom ·))&&s.vars.all (P.varReadable ·)&&fn.resultTypes.all (fun t=>P.readableRec t&&decide (t<P.types.size))&&(c.ifacesOut==fn.resultTypes.toList.any (P.ifacesRec ·))&&(c.loopsOut==fn.resultTypes.toList.any (P.loopsFrom ·))&&(c.plainKeys==P.plainKeys)&&c.shortTexts.isNone)=true)
 (a7:P.stopsHeard=true) (a8:P.mayEnter=true) (a9:(c.lifted==P.liftsFinal)=true) (a10:(P.make==some c.make)=true)
 (U:((c.kinds==(if c.domain.isEmpty then [] else fn.params.toList.map fun t=>match P.underlying t with|some (.int k)=>some k|_=>none))&&(c.pinned==c.pinnedBy)&&(c.veiled==(fn.params.toList++s.plain.varTypes P++fn.resultTypes.toList).any (P.veiledRec ·))&&c.veiledFits P fn.params.toList (fn.params.toList++s.plain.varTypes P++fn.resultTypes.toList))=true):
 joinedFacts P f fn s c=true:=by
 unfold joinedFacts
 simp only [Bool.and_eq_true] at a1 a6 U ⊢
 obtain ⟨⟨⟨⟨⟨⟨⟨⟨b1,b2⟩,b3⟩,b4⟩,b5⟩,b6⟩,b7⟩,b8⟩,b9⟩:=a1
 obtain ⟨⟨⟨⟨⟨⟨⟨⟨⟨⟨d1,d2⟩,d3⟩,d4⟩,d5⟩,d6⟩,d7⟩,d8⟩,d9⟩,d10⟩,d11⟩:=a6
 obtain ⟨⟨⟨g1,g2⟩,g3⟩,g4⟩:=U
 exact ⟨⟨⟨⟨⟨⟨⟨⟨⟨⟨⟨⟨⟨⟨⟨⟨⟨⟨⟨⟨⟨⟨⟨⟨⟨⟨⟨⟨⟨⟨⟨b1,b2⟩,b3⟩,b4⟩,b5⟩,b6⟩,b7⟩,b8⟩,b9⟩,a2⟩,a3⟩,a4⟩,a5⟩,d1⟩,d2⟩,d3⟩,d4⟩,d5⟩,d6⟩,d7⟩,d8⟩,d9⟩,d10⟩,d11⟩,a7⟩,a8⟩,a9⟩,a10⟩,g1⟩,g2⟩,g3⟩,g4⟩
theorem Mc {P:Program} {c:OpenClaim} (h:P.funcs.toList.all (fun f=> !f.goes)=true) (hs:c.start=.entering):false=c.goesBy P:=by
 have hall:∀f ∈ P.funcs,Func.goes f=false:=by
  intro f hf
  have:=List.all_eq_true.1 h f (by simpa using hf)
  simpa using this
 have hp:∀g,P.goes g=false:=by
  intro g
  unfold Program.goes
  have h1:((P.closure g).any fun g=>(P.funcs[g]?).any Func.goes)=false:=by
   rw [Bool.eq_false_iff]
   intro hc
   obtain ⟨x, -,U⟩:=List.any_eq_true.1 hc
   cases hq:P.funcs[x]? with
   |none=>rw [hq] at U;simp at U
   |some f=>rw [hq] at U;simp only [Option.any_some] at U;rw [hall f (Array.mem_of_getElem? hq)] at U;cases U
  have h2:P.funcs.any Func.goes=false:=by
   rw [Bool.eq_false_iff]
   intro hc
   obtain ⟨i,hi,U⟩:=Array.any_eq_true.1 hc
   rw [hall _ (Array.getElem_mem hi)] at U;cases U
  rw [h1,h2];simp
 unfold OpenClaim.goesBy Program.goesAt Program.goesFrom
 rw [hs]
 cases hq:P.funcNamed c.func<;>simp [hp]
end Go.Aw
namespace Go.Proofs.YtkidoddkbhchkaaGreatDoor
open Go Go.Aw Go.ChangeShapes Go.WideShapes Go.ChangeAt Go.RowKit
set_option maxRecDepth 100000
theorem L7:Tryz.prog.stopsHeard=true:=by kernel_rfl
theorem L6:Tryz.prog.mayEnter=true:=by kernel_rfl
theorem L8:(false==Tryz.prog.liftsFinal)=true:=by kernel_rfl
theorem OX:(Tryz.prog.make==some .cut)=true:=by kernel_rfl
theorem OV:Tryz.prog.funcs.toList.all (fun f=> !f.goes)=true:=by kernel_rfl
theorem Es:laidOutB Tryz.prog=true:=by kernel_rfl
theorem Et:mapsRowed Tryz.prog=true:=by kernel_rfl
theorem OU:((List.range Tryz.prog.types.size).all fun t=>match Tryz.prog.underlying t with|some (.slice e)=>decide (0<Tryz.prog.cellsOf e)|_=>true)=true:=by kernel_rfl
end Go.Proofs.YtkidoddkbhchkaaGreatDoor
namespace Go.Proofs.YtkidoddkbhchkaaGreatDoor
open Go Go.Aw
def F3 (s:Ae):Int:=(s.CG.getLast?).getD 0
theorem gF {s:Ae} (h:¬(s.CG.length:Int)>0):F3 s=0:=by
 have:s.CG=[]:=List.length_eq_zero_iff.1 (by omega)
 simp [F3,this]
theorem bu {s:Ae} {x:Int} (h:s.CG[((s.CG.length:Int) - 1).toNat]? =some x):F3 s=x:=by
 have e:((s.CG.length:Int) - 1).toNat=s.CG.length - 1:=by omega
 rw [e] at h
 simp [F3,List.getLast?_eq_getElem?,h]
section
variable {st:St} {R:AM→St→Prop}
theorem M8 {s:Ae} (h:R (.ret (.int .i64 (F3 s))) st):PC 289 [CN s] st R:=by
 refine Aa Ac [] Tryz.func289 rfl (by decide) ?_
 repeat' ((conv=>whnf);first|(refine Bc ?_;intros)|(refine Be ?_ ?_<;>intro _)|fail)
 ·exact fin h (by rw [bu (by assumption)])
 ·exact fin h (by rw [gF (by omega)])
def Xq (k:Int) (t:Tk):Tk:=⟨k,[],t.line,t.B7⟩
theorem Na {k:Int} {t:Tk} (h:R (.ret (FV (Xq k t))) st):PC 336 [.int .i64 k,FV t] st R:=by
 refine Aa Ac [] Tryz.func336 rfl (by decide) ?_
 repeat' ((conv=>whnf);first|(refine Bc ?_;intros)|(refine Be ?_ ?_<;>intro _)|fail)
 all_goals exact fin h rfl
attribute [local irreducible] Go.Aw.Ai
theorem XJ {l:List Int} {own:AO} (hb:l.length≤1000000000) (h:∀U:AO,U.Bn st→R (.ret (.slice 1 (ints l) U)) (U.st st l.length)):PC 334 [.slice 1 (ints l) own] st R:=by
 refine Aa Ac [] Tryz.func334 rfl (by decide) ?_
 repeat' ((conv=>whnf);first|(refine Bc ?_;intros)|(refine Be ?_ ?_<;>intro _)|refine Ka (fun _=>?_) ?_|fail)
 ·have:l=[]:=by simpa [ints] using ‹ints l=[]›
  subst this
  exact fin (h .full trivial) rfl
 ·exact SZ (l:=[]) (own:=.full) trivial (by simp only [List.length_nil];omega) fun U ho=>fin (h U ho) rfl
theorem iH {l l':List Int} {own:AO} (e:l'=l) (hb:l.length≤1000000000) (h:∀U:AO,U.Bn st→R (.ret (.slice 1 (ints l) U)) (U.st st l.length)):PC 334 [.slice 1 (ints l') own] st R:=e ▸ XJ hb h
def Lw (s:Ae) (c:Int):Ae:={s with CG:=s.CG++[c]}
theorem Ud {s:Ae} {c:Int} (hb:s.CG.length≤500000000) (h:R (.ret (CN (Lw s c))) st):PC 337 [CN s,.int .i64 c] st R:=by
 refine Aa Ac [] Tryz.func337 rfl (by decide) ?_
 have LN:s.CG.length+[c].length≤1000000000:=by simp only [List.length_singleton];omega
 repeat' ((conv=>whnf);first|(refine Bc ?_;intros)|(refine Be ?_ ?_<;>intro _)|refine XJ (by omega) (fun own ho=>?_)|refine SZ (new:=[c]) ho LN (fun own' U=>?_))
 all_goals exact Ej (AO.Bu U) rfl h
def E6 (s:Ae):Ae:={s with CG:=s.CG.dropLast}
theorem K1 {s:Ae} (U:s.CG≠[]) (hb:s.CG.length≤500000000) (h:R (.ret (CN (E6 s))) st):PC 290 [CN s] st R:=by
 refine Aa Ac [] Tryz.func290 rfl (by decide) ?_
 have hl:0<s.CG.length:=List.length_pos_iff.2 U
 have hd:(s.CG.take (((s.CG.length:Int) - 1).toNat)).drop (0:Int).toNat=s.CG.dropLast:=by
  rw [show (0:Int).toNat=0 from rfl,List.drop_zero,List.dropLast_eq_take]
  congr 1
  omega
 have LN:s.CG.dropLast.length≤1000000000:=by rw [List.length_dropLast];omega
 repeat' ((conv=>whnf);first|(refine Bc ?_;intros)|(refine Be ?_ ?_<;>intro _)|refine iH hd LN (fun own ho=>?_))
 all_goals exact Ej (AO.Bu ho) rfl h
end
theorem cR {α:Type} {l:List α} {k:Nat} {x:α} (h:l[k]? =some x):l.drop k=x::l.drop (k+1):=by
 obtain ⟨U,h2⟩:=List.getElem?_eq_some_iff.1 h
 rw [←h2,List.drop_eq_getElem_cons U]
section
variable {st:St} {R:AM→St→Prop}
attribute [local irreducible] Go.Aw.Ai
def MN (p:Int→Bool):List Int→Int→Int
 |[],_=> -1
 |y::r,i=>if p y then i else MN p r (i+1)
theorem TL {p:Int→Bool}:∀{l:List Int} {i:Int},0≤i→(0≤MN p l i↔l.any p=true)
 |[],i,h=>by simp [MN]
 |y::r,i,h=>by
  simp only [MN,List.any_cons]
  split
  ·rename_i e;simp [h,e]
  ·rename_i e
   rw [TL (by omega)]
   simp [e]
theorem TM {l:List Int} {f:FuncId} {p:Int→Bool} {own:AO} (U:∀x (st:St) (R:AM→St→Prop),R (.ret (.bool (p x))) st→PC f [.int .i64 x] st R) (h:R (.ret (.int .i64 (MN p l 0))) st):
 PC 353 [.slice 1 (ints l) own,.func f [] []] st R:=by
 refine Aa Ac [] Tryz.func353 rfl (by decide) ?_
 repeat' ((conv=>whnf);first|(refine Bc ?_;intros)|(refine Be ?_ ?_<;>intro _)|fail)
 refine Mf 8 [7,0,1] l.length (fun k=>k≤l.length∧(MN p l 0=MN p (l.drop k) k)) ⟨Nat.zero_le _,rfl⟩ Yl ?_
 rintro k ⟨hk,hi⟩
 repeat' ((conv=>whnf);first|(refine Bc ?_;intros)|(refine Be ?_ ?_<;>intro _)|refine U _ _ _ ?_)
 all_goals conv=>whnf
 all_goals try (have e:=cR ‹l[Int.toNat k]? =some _›;rw [Int.toNat_natCast] at e;rw [e,MN] at hi;clear e)
 all_goals first
  |(refine ⟨k+1,⟨by omega,?_⟩,by omega,Yl,St.le_refl _⟩;clear h;simp_all)
  |(refine fin h ?_;clear h;simp_all;done)
  |(refine fin h ?_;rw [hi,List.drop_eq_nil_of_le (by omega)];rfl)
theorem Ou {l:List Int} {f:FuncId} {p:Int→Bool} {own:AO} (hf:∀x (st:St) (R:AM→St→Prop),R (.ret (.bool (p x))) st→PC f [.int .i64 x] st R) (h:R (.ret (.bool (l.any p))) st):
 PC 332 [.slice 1 (ints l) own,.func f [] []] st R:=by
 refine Aa Ac [] Tryz.func332 rfl (by decide) ?_
 refine TM hf ?_
 have key:=TL (p:=p) (l:=l) (i:=0) (by omega)
 refine Wh (fun U=>?_) (fun U=>?_)
 ·exact AB h (key.1 U)
 ·refine AB h ?_
  cases hc:l.any p with
  |false=>rfl
  |true=>exact absurd (key.2 hc) U
theorem nk (x:Int) (st:St) (R:AM→St→Prop) (h:R (.ret (.bool (decide (x<0)))) st):PC 333 [.int .i64 x] st R:=by
 refine Aa Ac [] Tryz.func333 rfl (by decide) ?_
 repeat' ((conv=>whnf);first|(refine Bc ?_;intros)|(refine Be ?_ ?_<;>intro _)|fail)
 all_goals exact AB h (by simp_all)
def Hh (s:Ae):Bool:=
 decide (0≤s.pos)&&decide (s.pos≤s.Ak.length)&&decide (0≤s.wait)&&decide (s.wait≤2)&&
 (decide (s.wait≤0)||(match s.Ak[s.pos.toNat]? with|some t=>t.kind==16|none=>false))&& !(s.CG.any fun x=>decide (x<0))
theorem T1 {s:Ae} (h:R (.ret (.bool (Hh s))) st):PC 288 [CN s] st R:=by
 refine Aa Ac [] Tryz.func288 rfl (by decide) ?_
 repeat' ((conv=>whnf);first|(refine Bc ?_;intros)|(refine Be ?_ ?_<;>intro _)|refine Ou (fun x st R h=>nk x st R h) ?_)
 all_goals conv=>whnf
 all_goals refine AB h ?_
 all_goals clear h
 all_goals unfold Hh
 all_goals first
  |(rw [show decide (0≤s.pos)=false from decide_eq_false (by omega)];simp only [Bool.false_and];done)
  |(rw [show decide (s.pos≤s.Ak.length)=false from decide_eq_false (by omega)];simp only [Bool.false_and,Bool.and_false];done)
  |(rw [show decide (0≤s.wait)=false from decide_eq_false (by omega)];simp only [Bool.false_and,Bool.and_false];done)
  |(rw [show decide (s.wait≤2)=false from decide_eq_false (by omega)];simp only [Bool.false_and,Bool.and_false];done)
  |(have U:s.Ak[s.pos.toNat]? =none:=List.getElem?_eq_none (by omega)
    rw [U,show decide (s.wait≤0)=false from decide_eq_false (by omega)];simp only [Bool.false_and,Bool.and_false,Bool.or_false];done)
  |(rw [show decide (0≤s.pos)=true from decide_eq_true (by omega),show decide (s.pos≤s.Ak.length)=true from decide_eq_true (by omega),show decide (0≤s.wait)=true from decide_eq_true (by omega),show decide (s.wait≤2)=true from decide_eq_true (by omega)]
    first
     |(rw [show decide (s.wait≤0)=true from decide_eq_true (by omega)];simp_all;done)
     |(rw [show decide (s.wait≤0)=false from decide_eq_false (by omega)];simp_all;done))
 all_goals trace_state
def Gu (t:Tk) (s:Ae):Tk×Ae:=
 if s.wait=1 then (Xq 20 t,{s with wait:=2})
 else if F3 s<t.B7 then (Xq 18 t,{Lw s t.B7 with pos:=s.pos+1})
 else (Xq 18 t,{s with wait:=1})
def lC (p:Tk×Ae):V:=.Bo [FV p.1,CN p.2]
theorem ix {t:Tk} {s:Ae} (U:0≤s.pos∧s.pos≤4611686018427387904) (hb:s.CG.length≤500000000) (h:R (.ret (lC (Gu t s))) st):PC 295 [FV t,CN s] st R:=by
 refine Aa Ac [] Tryz.func295 rfl (by decide) ?_
 repeat' ((conv=>whnf);first|exact Cq|(refine Bc ?_;intros)|(refine Cr ?_ ?_ ?_;rotate_left)|(refine Be ?_ ?_<;>intro _)|refine Na (t:=t) ?_|refine M8 (s:=s) ?_|refine Ud (s:=s) hb ?_|refine Wq (a:=s.pos+1) (by omega) (by omega) ?_|with_reducible refine WF ?_)
 all_goals unfold Gu at h
 ·rw [if_pos (by assumption)] at h;exact B8 rfl h
 ·rw [if_neg (by assumption),if_pos (by assumption)] at h;exact B8 rfl h
 ·rw [if_neg (by assumption),if_neg (by assumption)] at h;exact B8 rfl h
def DR (t:Tk) (s:Ae):Tk×Ae:=
 if 0<F3 s∧t.B7<F3 s then (Xq 20 t,E6 s)
 else if 0<F3 s∧t.B7=F3 s then (Xq 19 t,{s with pos:=s.pos+1,wait:=0})
 else (YZ,{s with pos:=s.pos+1,wait:=0})
theorem Q6 {s:Ae} (h:0<F3 s):s.CG≠[]:=fun e=>by simp [F3,e] at h
theorem mX {t:Tk} {s:Ae} (U:0≤s.pos∧s.pos≤4611686018427387904) (hb:s.CG.length≤500000000) (h:R (.ret (lC (DR t s))) st):PC 296 [FV t,CN s] st R:=by
 refine Aa Ac [] Tryz.func296 rfl (by decide) ?_
 repeat' ((conv=>whnf);first|exact Cq|(refine Bc ?_;intros)|(refine Cr ?_ ?_ ?_;rotate_left)|(refine Be ?_ ?_<;>intro _)|refine Na (t:=t) ?_|refine M8 (s:=s) ?_|refine K1 (s:=s) (Q6 (by omega)) hb ?_|refine Wq (a:=s.pos+1) (by omega) (by omega) ?_|with_reducible refine WF ?_)
 all_goals unfold DR at h
 all_goals first
  |(rw [if_pos ⟨by omega,by omega⟩] at h;exact B8 rfl h)
  |(rw [if_neg (by omega),if_pos ⟨by omega,by omega⟩] at h;exact B8 rfl h)
  |(rw [if_neg (by omega),if_neg (by omega)] at h;exact B8 rfl h)
 all_goals trace_state
def CQ (t:Tk) (s:Ae):Tk×Ae×Int:=
 if t.kind=15∧t.text=[123] then (t,{Lw s 0 with pos:=s.pos+1},0)
 else if t.kind=15∧t.text=[125] then
  if s.CG=[]∨F3 s≠0 then (YZ,s,90) else (t,{E6 s with pos:=s.pos+1},0)
 else (t,{s with pos:=s.pos+1},0)
def Vw (p:Tk×Ae×Int):V:=.Bo [FV p.1,CN p.2.1,.int .i64 p.2.2]
theorem HH {l:List Int} (h:¬l.length=Int.toNat 0):l≠[]:=fun e=>h (by rw [e];rfl)
theorem fo {l:List Int} (h:l.length=Int.toNat 0):l=[]:=List.length_eq_zero_iff.1 (by rw [h];rfl)
theorem iC {t:Tk} {s:Ae} (U:0≤s.pos∧s.pos≤4611686018427387904) (hb:s.CG.length≤500000000) (h:R (.ret (Vw (CQ t s))) st):PC 297 [FV t,CN s] st R:=by
 refine Aa Ac [] Tryz.func297 rfl (by decide) ?_
 repeat' ((conv=>whnf);first|exact Cq|(refine Bc ?_;intros)|(refine Cr ?_ ?_ ?_;rotate_left)|(refine Be ?_ ?_<;>intro _)|refine M8 (s:=s) ?_|refine Ud (s:=s) hb ?_|refine K1 (s:=s) (HH (by assumption)) hb ?_|refine Wq (a:=s.pos+1) (by omega) (by omega) ?_|with_reducible refine WF ?_)
 all_goals unfold CQ at h
 all_goals first
  |(rw [if_pos ⟨by assumption,by assumption⟩] at h;exact B8 rfl h)
  |(rw [if_neg (fun e=>absurd e.2 (by assumption)),if_pos ⟨by assumption,by assumption⟩,if_pos (.inl (fo (by assumption)))] at h;exact B8 rfl h)
  |(rw [if_neg (fun e=>absurd e.2 (by assumption)),if_pos ⟨by assumption,by assumption⟩,if_pos (.inr (by assumption))] at h;exact B8 rfl h)
  |(rw [if_neg (fun e=>absurd e.2 (by assumption)),if_pos ⟨by assumption,by assumption⟩,if_neg (fun e=>e.elim (HH (by assumption)) (fun e=>e (by assumption)))] at h;exact B8 rfl h)
  |(rw [if_neg (fun e=>absurd e.1 (by assumption)),if_neg (fun e=>absurd e.1 (by assumption))] at h;exact B8 rfl h)
  |(rw [if_neg (fun e=>absurd e.2 (by assumption)),if_neg (fun e=>absurd e.2 (by assumption))] at h;exact B8 rfl h)
 all_goals trace_state
def FW (s:Ae):Tk×Ae×Int:=
 if s.CG=[] then (⟨21,[],0,0⟩,s,0) else if 0<F3 s then (⟨20,[],0,0⟩,E6 s,0) else (YZ,s,90)
theorem mC {s:Ae} (hb:s.CG.length≤500000000) (h:R (.ret (Vw (FW s))) st):PC 298 [CN s] st R:=by
 refine Aa Ac [] Tryz.func298 rfl (by decide) ?_
 repeat' ((conv=>whnf);first|exact Cq|(refine Bc ?_;intros)|(refine Cr ?_ ?_ ?_;rotate_left)|(refine Be ?_ ?_<;>intro _)|refine M8 (s:=s) ?_|refine K1 (s:=s) (HH (by assumption)) hb ?_|with_reducible refine WF ?_)
 all_goals unfold FW at h
 all_goals first
  |(rw [if_pos (fo (by assumption))] at h;exact B8 rfl h)
  |(rw [if_neg (HH (by assumption)),if_pos (by assumption)] at h;exact B8 rfl h)
  |(rw [if_neg (HH (by assumption)),if_neg (by assumption)] at h;exact B8 rfl h)
 all_goals trace_state
end
end Go.Proofs.YtkidoddkbhchkaaGreatDoor
namespace Go.Aw
noncomputable def Env.o7 (env:Env) (ch:List (Nat×V)) (keep:List Nat) (U:List (Nat×List V)) (kb:List Nat):Env:=match env with
 |⟨ts,bs,n,sz,gl⟩=>⟨Env.ts ⟨ts,bs,n,sz,gl⟩ ch keep,U++Env.bx ⟨ts,bs,n,sz,gl⟩ kb,n,sz,gl⟩
theorem Jo {ih:(AP→Env→St→Prop)→Env→St→Prop} {Q:AP→Env→St→Prop} {env:Env} {st:St} {α:Type} (f:α→List (Nat×V)) (keep:List Nat) (g:α→List (Nat×List V)) (kb:List Nat) (S:α→St) (J:α→Prop) (μ:α→Nat) (U:α) (h0:J U)
 (he:(env.o7 (f U) keep (g U) kb).Fq env) (hs:St.le (S U) st)
 (hb:∀x,J x→ih (B0 (fun env' st'=>∃y,J y∧μ y<μ x∧(env.o7 (f y) keep (g y) kb).Fq env'∧St.le (S y) st') Q) (env.o7 (f x) keep (g x) kb) (S x)):
 ∃(α:Type) (E:α→Env) (S:α→St) (J:α→Prop) (μ:α→Nat) (U:α),J U∧(E U).Fq env∧St.le (S U) st∧
  ∀x,J x→ih (B0 (fun env' st'=>∃y,J y∧μ y<μ x∧(E y).Fq env'∧St.le (S y) st') Q) (E x) (S x):=
 ⟨α,fun k=>env.o7 (f k) keep (g k) kb,S,J,μ,U,h0,he,hs,hb⟩
theorem Ux {T:List (Nat×Ty)} {C:FuncId→List V→St→(AM→St→Prop)→Prop} {w:CW} {U:Nat→Option CW} {Q:AP→Env→St→Prop} {env:Env} {st:St}
 (h:w (Yc (fun l env' st'=>∃y:Nat,y=l∧False∧env.Fq env'∧St.le st st') Q) env st):NW w U Q env st:=
 ⟨Nat,fun y=>y,fun _=>env,fun _=>st,fun _=>False,fun _=>0,h,fun x e=>e.elim⟩
end Go.Aw
namespace Go.Proofs.YtkidoddkbhchkaaGreatDoor
open Go Go.Aw
def Ff:Nat→Ae→Tk×Ae×Int
 |0,s=>FW s
 |n+1,s=>match s.Ak[s.pos.toNat]? with
  |none=>FW s
  |some t=>if t.kind=16∧s.wait<2 then ((Gu t s).1,(Gu t s).2,0)
   else if t.kind=16∨t.kind=17 then
    if (DR t s).1.kind=0 then Ff n (DR t s).2 else ((DR t s).1,(DR t s).2,0)
   else CQ t s
def Ir (s:Ae):Tk×Ae×Int:=Ff (s.Ak.length - s.pos.toNat) s
def Ad (s:Ae):Tk×Ae×Int:=if Hh s then Ir s else (YZ,En,1)
theorem FC {t:Tk} {s:Ae} (h:(DR t s).1.kind=0):(DR t s).2={s with pos:=s.pos+1,wait:=0}:=by
 unfold DR at h ⊢
 split
 ·rename_i e;rw [if_pos e] at h;exact absurd h (by simp [Xq])
 ·rename_i e;rw [if_neg e] at h
  split<;>rfl
theorem Mk {s:Ae} (h:¬s.pos<s.Ak.length) (U:0≤s.pos):Ir s=FW s:=by
 have:s.Ak.length - s.pos.toNat=0:=by omega
 rw [Ir,this,Ff]
theorem GF {s:Ae} {t:Tk} (h:s.Ak[s.pos.toNat]? =some t) (h0:0≤s.pos):Ir s=if t.kind=16∧s.wait<2 then ((Gu t s).1,(Gu t s).2,0)
 else if t.kind=16∨t.kind=17 then
  if (DR t s).1.kind=0 then Ir (DR t s).2 else ((DR t s).1,(DR t s).2,0)
 else CQ t s:=by
 obtain ⟨U,_⟩:=List.getElem?_eq_some_iff.1 h
 obtain ⟨n,hn⟩:∃n,s.Ak.length - s.pos.toNat=n+1:=⟨s.Ak.length - s.pos.toNat - 1,by omega⟩
 rw [Ir,hn,Ff,h]
 dsimp only
 split
 ·rfl
 ·split
  ·split
   ·rename_i e
    rw [Ir,FC e]
    congr 1
    show n=s.Ak.length - (s.pos+1).toNat
    omega
   ·rfl
  ·rfl
section
variable {st:St} {R:AM→St→Prop}
attribute [local irreducible] Go.Aw.Ai
theorem kx {s:Ae} (hb:s.CG.length≤500000000) (h:R (.ret (Vw (Ad s))) st):PC 247 [CN s] st R:=by
 refine Aa Ac [] Tryz.func247 rfl (by decide) ?_
 conv=>whnf
 refine Ux (T:=nY) (C:=A5 Tryz.prog) ?_
 unfold Ad at h
 repeat' ((conv=>whnf);first|exact Cq|(refine Bc ?_;intros)|(refine Cr ?_ ?_ ?_;rotate_left)|(refine Be ?_ ?_<;>intro _)|refine T1 (s:=s) ?_|with_reducible refine WF ?_)
 ·rename_i e
  rw [e] at h
  have hm:=e
  unfold Hh at hm
  simp only [Bool.and_eq_true,decide_eq_true_eq] at hm
  refine Jo (α:=Ae) (fun x=>[]) [1,2,3,4] (fun x=>[(0,x.cells)]) [1,2] (fun _=>st) (fun x=>x.Ak=s.Ak∧x.CG=s.CG∧0≤x.pos∧x.pos≤x.Ak.length∧Ir x=Ir s) (fun x=>x.Ak.length - x.pos.toNat) s ⟨rfl,rfl,by omega,by omega,rfl⟩ Yl (St.le_refl _) ?_
  rintro x ⟨x1,x2,x3,x4,x5⟩
  rw [←x5] at h
  have U:x.CG.length≤500000000:=by rw [x2];exact hb
  repeat' ((conv=>whnf);first|exact Cq|(refine Bc ?_;intros)|(refine Cr ?_ ?_ ?_;rotate_left)|(refine Be ?_ ?_<;>intro _)|refine ix (s:=x) ⟨by omega,by omega⟩ U ?_|refine mX (s:=x) ⟨by omega,by omega⟩ U ?_|refine iC (s:=x) ⟨by omega,by omega⟩ U ?_|refine mC (s:=x) U ?_|with_reducible refine WF ?_)
  all_goals rw [if_pos rfl] at h
  all_goals first
   |(rw [GF (by assumption) x3,if_pos (by omega)] at h;exact B8 rfl h)
   |(rw [GF (by assumption) x3,if_neg (by omega),if_pos (by omega),if_neg (by omega)] at h;exact B8 rfl h)
   |(rw [GF (by assumption) x3,if_neg (by omega),if_neg (by omega)] at h;exact B8 rfl h)
   |(rw [Mk (by omega) x3] at h;exact B8 rfl h)
   |(have hz:(DR ‹Tk› x).1.kind=0:=by assumption
     refine ⟨(DR ‹Tk› x).2,?_,?_,Yl,St.le_refl _⟩
     ·rw [FC hz]
      refine ⟨x1,x2,by show 0≤x.pos+1;omega,by show x.pos+1≤x.Ak.length;omega,?_⟩
      rw [←x5,GF (s:=x) (by assumption) x3,if_neg (by omega),if_pos (by omega),if_pos hz,FC hz]
     ·rw [FC hz]
      show x.Ak.length - (x.pos+1).toNat<_
      omega)
  all_goals trace_state
 ·rename_i e
  rw [e] at h
  exact B8 rfl h
end
end Go.Proofs.YtkidoddkbhchkaaGreatDoor
namespace Go.Aw
theorem St.Ah (st:St) (b:Nat) (cs:List V):(st.Ab b cs).box b=some cs:=by simp [St.Ab]
theorem St.set_set (st:St) (b:Nat) (cs cs':List V):(st.Ab b cs).Ab b cs'=st.Ab b cs':=by
 simp only [St.Ab,St.mk.injEq,and_true]
 funext x
 split<;>rfl
theorem St.LJ {st:St} {b:Nat} {cs:List V} (h:st.box b=some cs):st.Ab b cs=st:=by
 cases st with
 |mk box hw=>
  simp only [St.Ab,St.mk.injEq,and_true]
  funext x
  split
  ·rename_i e;subst e;exact h.symm
  ·rfl
theorem At {st:St} {b:Nat} {cs:List V} {K:List V→Prop} (h:st.box b=some cs) (k:K cs):∃cs,st.box b=some cs∧K cs:=⟨cs,h,k⟩
end Go.Aw
namespace Go.Proofs.YtkidoddkbhchkaaGreatDoor
open Go Go.Aw
def CK (s:Ae):List V:=[.slice 4 (Av s.Ak) .any,.int .i64 s.pos,.slice 1 (ints s.CG) .any,.int .i64 s.wait,
 .int .i64 (Ad s).1.kind,.str (Ad s).1.text,.int .i64 (Ad s).1.line,.int .i64 (Ad s).1.B7,
 .slice 4 (Av (Ad s).2.1.Ak) .any,.int .i64 (Ad s).2.1.pos,.slice 1 (ints (Ad s).2.1.CG) .any,.int .i64 (Ad s).2.1.wait,.int .i64 (Ad s).2.2,.bool true]
def Ye (s:Ae) (t:Tk) (u:Ae) (o1 o2:AO) (e:Int):List V:=[.slice 4 (Av s.Ak) .any,.int .i64 s.pos,.slice 1 (ints s.CG) .any,.int .i64 s.wait,
 .int .i64 t.kind,.str t.text,.int .i64 t.line,.int .i64 t.B7,.slice 4 (Av u.Ak) o1,.int .i64 u.pos,.slice 1 (ints u.CG) o2,.int .i64 u.wait,.int .i64 e,.bool false]
def Has (st:St) (b:Nat) (s:Ae):Prop:=st.box b=some (CK s)∨∃t u o1 o2 e,st.box b=some (Ye s t u o1 o2 e)
def GR (st st':St) (b:Nat) (s:Ae):Prop:=Has st' b s∧∃cs,st'=st.Ab b cs
theorem GR.trans {st U st2:St} {b:Nat} {s1 s2:Ae} (h:GR st U b s1) (k:GR U st2 b s2):GR st st2 b s2:=by
 obtain ⟨_,c1,e1⟩:=h
 obtain ⟨h2,c2,e2⟩:=k
 subst e1
 rw [St.set_set] at e2
 exact ⟨h2,c2,e2⟩
theorem AU {st:St} {b:Nat} {s:Ae}:GR st (st.Ab b (CK s)) b s:=⟨.inl (St.Ah ..),_,rfl⟩
def fault (e:Int):V:=.iface 113 (.agg [.int .i64 e])
section
variable {st:St} {R:AM→St→Prop}
attribute [local irreducible] Go.Aw.Ai
theorem VJ {r r':AM} {st':St} (e:r=r'.wk) (es:st'=st) (h:R r st):∃r2 U,(r2=r'∨r2=r'.wk)∧St.le U st'∧R r2 U:=by subst es;exact ⟨r,st',.inr e,St.le_refl _,h⟩
theorem eH {b:Nat} {s:Ae} (U:Has st b s) (hb:s.CG.length≤500000000) (h:R (.ret (.Bo [])) (st.Ab b (CK s))):PC 195 [.ptr b 0] st R:=by
 refine Aa Ac [] Tryz.func195 rfl (by decide) ?_
 rcases U with U|⟨t,u,o1,o2,e,U⟩
 ·rw [St.LJ U] at h
  repeat' ((conv=>whnf);first|(refine Bc ?_;intros)|(refine Be ?_ ?_<;>intro _)|refine At U ?_)
  all_goals exact fin h rfl
 ·skip
  repeat' ((conv=>whnf);first|(refine Bc ?_;intros)|(refine Be ?_ ?_<;>intro _)|refine At U ?_|refine At (St.Ah ..) ?_|refine kx (s:=s) hb ?_)
  all_goals exact VJ rfl (by simp only [St.set_set];rfl) h
theorem Ga {b:Nat} {s:Ae} (U:Has st b s) (hb:s.CG.length≤500000000) (h:R (.ret (FV (Ad s).1)) (st.Ab b (CK s))):PC 135 [.ptr b 0] st R:=by
 refine Aa Ac [] Tryz.func135 rfl (by decide) ?_
 repeat' ((conv=>whnf);first|(refine Bc ?_;intros)|(refine Be ?_ ?_<;>intro _)|refine At (St.Ah ..) ?_|refine eH U hb ?_)
 all_goals exact B8 rfl h
theorem EM {v:V} {e:Int} (h:R (.Cg (fault e)) st):PC 96 [v,.int .i64 e] st R:=by
 refine Aa Ac [] Tryz.func96 rfl (by decide) ?_
 repeat' ((conv=>whnf);first|(refine Bc ?_;intros)|(refine Be ?_ ?_<;>intro _)|fail)
 all_goals exact fin h rfl
def P1 (s:Ae):Int:=if (Ad s).2.2=0 then 110 else (Ad s).2.2
theorem cj {b:Nat} {s:Ae} (U:Has st b s) (hb:s.CG.length≤500000000) (h:R (.Cg (fault (P1 s))) (st.Ab b (CK s))):PC 191 [.ptr b 0] st R:=by
 refine Aa Ac [] Tryz.func191 rfl (by decide) ?_
 unfold P1 at h
 repeat' ((conv=>whnf);first|(refine Bc ?_;intros)|(refine Be ?_ ?_<;>intro _)|refine At (St.Ah ..) ?_|refine eH U hb ?_|refine EM ?_)
 all_goals first
  |(rw [if_pos (by assumption)] at h;exact fin h rfl)
  |(rw [if_neg (by assumption)] at h;exact fin h rfl)
theorem jH {b:Nat} {s s':Ae} (U:st.box b=some (CK s)) (h:∀st',GR st st' b s'→R (.ret (.Bo [])) st'):PC 234 [.ptr b 0,CN s'] st R:=by
 refine Aa Ac [] Tryz.func234 rfl (by decide) ?_
 have h:=h (st.Ab b (Ye s' (Ad s).1 (Ad s).2.1 .any .any (Ad s).2.2)) ⟨.inr ⟨_,_,_,_,_,St.Ah ..⟩,_,rfl⟩
 repeat' ((conv=>whnf);first|(refine Bc ?_;intros)|(refine Be ?_ ?_<;>intro _)|refine At U ?_|refine At (St.Ah ..) ?_)
 all_goals exact VJ rfl (by simp only [St.set_set];rfl) h
theorem jG {b:Nat} {s s':Ae} {t:Tk} {u:Ae} {o1 o2:AO} {e:Int} (U:st.box b=some (Ye s t u o1 o2 e)) (h:∀st',GR st st' b s'→R (.ret (.Bo [])) st'):PC 234 [.ptr b 0,CN s'] st R:=by
 refine Aa Ac [] Tryz.func234 rfl (by decide) ?_
 have h:=h (st.Ab b (Ye s' t u o1 o2 e)) ⟨.inr ⟨_,_,_,_,_,St.Ah ..⟩,_,rfl⟩
 repeat' ((conv=>whnf);first|(refine Bc ?_;intros)|(refine Be ?_ ?_<;>intro _)|refine At U ?_|refine At (St.Ah ..) ?_)
 all_goals exact VJ rfl (by simp only [St.set_set];rfl) h
theorem jF {b:Nat} {s s':Ae} (U:Has st b s) (h:∀st',GR st st' b s'→R (.ret (.Bo [])) st'):PC 234 [.ptr b 0,CN s'] st R:=by
 rcases U with U|⟨t,u,o1,o2,e,U⟩
 ·exact jH U h
 ·exact jG U h
theorem Xb {b:Nat} {s:Ae} (U:Has st b s) (hb:s.CG.length≤500000000) (h:(Ad s).2.2=0→∀st',GR st st' b (Ad s).2.1→R (.ret (FV (Ad s).1)) st')
 (k:¬(Ad s).2.2=0→R (.Cg (fault (Ad s).2.2)) (st.Ab b (CK s))):PC 161 [.ptr b 0] st R:=by
 refine Aa Ac [] Tryz.func161 rfl (by decide) ?_
 repeat' ((conv=>whnf);first|(refine Bc ?_;intros)|(refine Be ?_ ?_<;>intro _)|refine At (St.Ah ..) ?_|refine Ga U hb ?_|refine EM ?_|refine jF (s':=(Ad s).2.1) (.inl (St.Ah st b (CK s))) (fun st' hu=>?_))
 ·exact B8 rfl (h (by assumption) st' (AU.trans hu))
 ·exact fin (k (by assumption)) rfl
def AJ (t:Tk):Nd:=.mk 1 t.kind t.text t.line t.B7 []
theorem mU {t:Tk} (h:R (.ret (enc (AJ t))) st):PC 160 [FV t] st R:=by
 refine Aa Ac [] Tryz.func160 rfl (by decide) ?_
 repeat' ((conv=>whnf);first|(refine Bc ?_;intros)|(refine Be ?_ ?_<;>intro _)|fail)
 all_goals exact B8 rfl h
def Ba (s:Ae) (k:Int) (x:List UInt8):Bool:=(Ad s).1.kind==k&&(Ad s).1.text==x
theorem VS {b:Nat} {s:Ae} {k:Int} {x:List UInt8} (U:Has st b s) (hb:s.CG.length≤500000000) (h:R (.ret (.bool (Ba s k x))) (st.Ab b (CK s))):PC 98 [.ptr b 0,.int .i64 k,.str x] st R:=by
 refine Aa Ac [] Tryz.func98 rfl (by decide) ?_
 repeat' ((conv=>whnf);first|(refine Bc ?_;intros)|(refine Be ?_ ?_<;>intro _)|refine Ga U hb ?_)
 all_goals (refine AB h ?_;clear h;simp_all [Ba])
theorem Mt {b:Nat} {s:Ae} (U:Has st b s) (hb:s.CG.length≤500000000) (h:(Ad s).2.2=0→∀st',GR st st' b (Ad s).2.1→R (.ret (enc (AJ (Ad s).1))) st')
 (k:¬(Ad s).2.2=0→R (.Cg (fault (Ad s).2.2)) (st.Ab b (CK s))):PC 100 [.ptr b 0] st R:=by
 refine Aa Ac [] Tryz.func100 rfl (by decide) ?_
 repeat' ((conv=>whnf);first|(refine Bc ?_;intros)|(refine Be ?_ ?_<;>intro _)|refine Xb U hb (fun e st' hu=>?_) (fun e=>?_)|refine mU (t:=(Ad s).1) ?_)
 ·exact B8 rfl (h e st' hu)
 ·exact fin (k e) rfl
theorem gK {b:Nat} {s:Ae} {k:Int} {x:List UInt8} (hs:Has st b s) (hb:s.CG.length≤500000000) (h:Ba s k x=true→(Ad s).2.2=0→∀st',GR st st' b (Ad s).2.1→R (.ret (enc (AJ (Ad s).1))) st')
 (k1:Ba s k x=true→¬(Ad s).2.2=0→R (.Cg (fault (Ad s).2.2)) (st.Ab b (CK s))) (k2:Ba s k x=false→R (.Cg (fault (P1 s))) (st.Ab b (CK s))):PC 167 [.ptr b 0,.int .i64 k,.str x] st R:=by
 refine Aa Ac [] Tryz.func167 rfl (by decide) ?_
 have U:Has (st.Ab b (CK s)) b s:=.inl (St.Ah ..)
 repeat' ((conv=>whnf);first|(refine Bc ?_;intros)|(refine Be ?_ ?_<;>intro _)|refine VS hs hb ?_|refine Mt U hb (fun e st' hu=>?_) (fun e=>?_)|refine cj U hb ?_)
 ·exact B8 rfl (h (by assumption) e st' (AU.trans hu))
 ·exact VJ rfl (by rw [St.set_set]) (k1 (by assumption) e)
 ·exact VJ rfl (by rw [St.set_set]) (k2 (by assumption))
def ML (n:Nd) (s:Ae) (e:Int):V:=.Bo [enc n,CN s,.int .i64 e]
theorem VQ {f:FuncId} {b:Nat} {s s':Ae} {n:Nd} {e d:Int} (hf:∀(st:St) (R:AM→St→Prop),R (.ret (ML n s' e)) st→PC f [CN s,.int .i64 d] st R) (U:Has st b s)
 (h:e=0→∀st',GR st st' b s'→R (.ret (enc n)) st') (k:¬e=0→∀st',GR st st' b s'→R (.Cg (fault e)) st'):PC 254 [.ptr b 0,.func f [] [],.int .i64 d] st R:=by
 refine Aa Ac [] Tryz.func254 rfl (by decide) ?_
 rcases U with U|⟨t,u,o1,o2,e',U⟩
 ·skip
  repeat' ((conv=>whnf);first|(refine Bc ?_;intros)|(refine Be ?_ ?_<;>intro _)|refine At U ?_|refine hf _ _ ?_|refine EM ?_|refine jF (s':=s') (.inl U) (fun st' hu=>?_))
  ·exact B8 rfl (h (by assumption) st' hu)
  ·exact fin (k (by assumption) st' hu) rfl
 ·skip
  repeat' ((conv=>whnf);first|(refine Bc ?_;intros)|(refine Be ?_ ?_<;>intro _)|refine At U ?_|refine hf _ _ ?_|refine EM ?_|refine jF (s':=s') (.inr ⟨t,u,o1,o2,e',U⟩) (fun st' hu=>?_))
  ·exact B8 rfl (h (by assumption) st' hu)
  ·exact fin (k (by assumption) st' hu) rfl
end
end Go.Proofs.YtkidoddkbhchkaaGreatDoor
namespace Go.Aw
open Go
section
variable {P:Program}
theorem Au {x y:Code} {Q:AP→Env→St→Prop} {env:Env} {st:St} (h:AW P x (B0 (fun env st=>AW P y Q env st) Q) env st):AW P (.seq x y) Q env st:=fun D I0 st0 w0 I β a w hr=>by
 refine wp_seq (wp_mono (h D I0 st0 w0 I β a w hr) ?_)
 rintro e a w ⟨I,β,env,st,ae,h1,U,h3⟩
 cases ae with
 |normal=>cases e<;>first|exact h3 D I0 st0 w0 I β a w h1|exact U.elim
 |exit i=>cases e<;>first|exact ⟨I,β,env,st,.exit i,h1,U,h3⟩|exact U.elim
 |goto i=>cases e<;>first|exact ⟨I,β,env,st,.goto i,h1,U,h3⟩|exact U.elim
 |ret=>cases e<;>first|exact ⟨I,β,env,st,.ret,h1,U,h3⟩|exact U.elim
 |Cg v=>cases e<;>first|exact ⟨I,β,env,st,.Cg v,h1,U,h3⟩|exact U.elim
theorem As {T:List (Nat×Ty)} (U:SU P T) {c:Code} {Q:AP→Env→St→Prop} {env:Env} {st:St} (h:Ns T (A5 P) c Q env st):AW P c Q env st:=
 LX U (Ce P) (fun _ _ _ _ _ h k=>k.mono h) c h
def Ends (R:AM→St→Prop) (r:AM) (st:St):Prop:=∃r2 U,(r2=r∨r2=r.wk)∧St.le U st∧R r2 U
theorem A5.ends {f:FuncId} {args:List V} {st:St} {R:AM→St→Prop} (h:A5 P f args st (Ends R)):A5 P f args st R:=by
 refine ⟨fun I w U hs ha=>(h.a I w U hs ha).mono ?_,h.b⟩
 rintro e w' ⟨I',st',r,k1,k2,k3,r2,st2,k4,k5,k6⟩
 have hr:Rel [] I st w I' (fun _=>none) {tmps:=[],boxes:=[],Bt:=0,sz:=0,gl:=[]} st' {tmps:=#[],defers:=[]} w':=
  ⟨k1,k2,⟨rfl,fun t v e=>(by cases e),fun id cs e=>(by cases e),fun id b e=>(by cases e),fun i j b e=>(by cases e),fun id b e=>(by cases e),rfl⟩⟩
 have hr':=hr.Hl k5
 refine ⟨I',st2,r2,hr'.fr,hr'.s,?_,k6⟩
 rcases k4 with rfl|rfl
 ·exact k3
 ·cases e with
  |returned c=>
   cases r with
   |ret v=>exact Az.wk k3
   |Cg v=>exact k3.elim
  |panicked chain=>
   cases r with
   |ret v=>exact k3.elim
   |Cg v=>
    obtain ⟨c,h1,h2⟩:=k3
    exact ⟨c,h1,Az.wk h2⟩
  |outgrown=>cases r<;>exact k3.elim
end
end Go.Aw
namespace Go.Proofs.YtkidoddkbhchkaaGreatDoor
open Go Go.Aw
def Nw:List (List Bool×Nat):=[([false,false,false,false,false,false,false,false],0),([false,false,false,false,false,false,false,false],1),([true,false,false,false,false,false,false,false],1),([true,false,false,false,false,false,false,false],5),([false,true,false,false,false,false,false,false],0),([false,true,false,false,false,false,false,false],2),([true,true,false,false,false,false,false,false],2),([true,true,false,false,false,false,false,false],5),([true,false,false,false,false,true,false,false],1),([false,true,true,false,false,false,false,false],0),([false,true,true,false,false,false,false,false],3),([true,true,true,false,false,false,false,false],3),([true,true,true,false,false,false,false,false],5),([true,true,false,false,false,true,false,false],2),([false,true,true,true,false,false,false,false],0),([false,true,true,true,false,false,false,false],4),([true,true,true,true,false,false,false,false],4),([true,true,true,true,false,false,false,false],5),([true,true,true,false,false,true,false,false],3),([false,true,true,true,true,false,false,false],0),([true,true,true,true,true,false,false,false],5),([true,true,true,true,false,true,false,false],4),([true,true,true,true,true,true,false,false],6),([true,true,true,true,true,true,true,false],7)]
def XK:List (List Bool×Nat):=[([false,false,false,false,false,false,false,false,false,false],0),([false,false,false,false,false,false,false,false,false,false],1),([false,false,false,false,false,false,false,false,false,false],5),([true,false,false,false,false,false,false,false,false,false],1),([true,false,false,false,false,false,false,false,false,false],5),([false,true,false,false,false,false,false,false,false,false],0),([false,true,false,false,false,false,false,false,false,false],2),([false,true,false,false,false,false,false,false,false,false],5),([false,false,false,false,false,true,false,false,false,false],0),([false,false,false,false,false,true,false,false,false,false],1),([false,false,false,false,false,true,false,false,false,false],6),([true,true,false,false,false,false,false,false,false,false],2),([true,true,false,false,false,false,false,false,false,false],5),([true,false,false,false,false,true,false,false,false,false],1),([true,false,false,false,false,true,false,false,false,false],6),([false,true,true,false,false,false,false,false,false,false],0),([false,true,true,false,false,false,false,false,false,false],3),([false,true,true,false,false,false,false,false,false,false],5),([false,true,false,false,false,true,false,false,false,false],0),([false,true,false,false,false,true,false,false,false,false],2),([false,true,false,false,false,true,false,false,false,false],6),([false,false,false,false,false,true,true,false,false,false],0),([false,false,false,false,false,true,true,false,false,false],1),([true,true,true,false,false,false,false,false,false,false],3),([true,true,true,false,false,false,false,false,false,false],5),([true,true,false,false,false,true,false,false,false,false],2),([true,true,false,false,false,true,false,false,false,false],6),([true,false,false,false,false,true,true,false,false,false],1),([false,true,true,true,false,false,false,false,false,false],0),([false,true,true,true,false,false,false,false,false,false],4),([false,true,true,true,false,false,false,false,false,false],5),([false,true,true,false,false,true,false,false,false,false],0),([false,true,true,false,false,true,false,false,false,false],3),([false,true,true,false,false,true,false,false,false,false],6),([false,true,false,false,false,true,true,false,false,false],0),([false,true,false,false,false,true,true,false,false,false],2),([true,true,true,true,false,false,false,false,false,false],4),([true,true,true,true,false,false,false,false,false,false],5),([true,true,true,false,false,true,false,false,false,false],3),([true,true,true,false,false,true,false,false,false,false],6),([true,true,false,false,false,true,true,false,false,false],2),([false,true,true,true,true,false,false,false,false,false],0),([false,true,true,true,true,false,false,false,false,false],5),([false,true,true,true,false,true,false,false,false,false],0),([false,true,true,true,false,true,false,false,false,false],4),([false,true,true,true,false,true,false,false,false,false],6),([false,true,true,false,false,true,true,false,false,false],0),([false,true,true,false,false,true,true,false,false,false],3),([true,true,true,true,true,false,false,false,false,false],5),([true,true,true,true,true,false,false,false,false,false],7),([true,true,true,true,false,true,false,false,false,false],4),([true,true,true,true,false,true,false,false,false,false],6),([true,true,true,false,false,true,true,false,false,false],3),([false,true,true,true,true,true,false,false,false,false],0),([false,true,true,true,true,true,false,false,false,false],6),([false,true,true,true,false,true,true,false,false,false],0),([false,true,true,true,false,true,true,false,false,false],4),([true,true,true,true,true,true,false,false,false,false],6),([true,true,true,true,true,true,false,false,false,false],7),([true,true,true,true,true,false,false,true,false,false],5),([true,true,true,true,true,false,false,true,false,false],8),([true,true,true,true,false,true,true,false,false,false],4),([false,true,true,true,true,true,true,false,false,false],0),([true,true,true,true,true,true,true,false,false,false],7),([true,true,true,true,true,true,false,true,false,false],6),([true,true,true,true,true,true,false,true,false,false],8),([true,true,true,true,true,false,false,true,true,false],5),([true,true,true,true,true,true,true,true,false,false],8),([true,true,true,true,true,true,false,true,true,false],6),([true,true,true,true,true,true,true,true,true,false],9)]
section
variable {st:St} {R:AM→St→Prop}
attribute [local irreducible] Go.Aw.Ai
def MS:Nd:=.mk 0 0 [] 0 0 []
def C8:List V:=[.int .i64 0,.int .i64 0,.str [],.int .i64 0,.int .i64 0,.slice 6 [] .full]
theorem Ot {bp bn ba be:Nat} {U:St→Prop} (h:U st):HZ Tryz.prog 95 [.ptr bp 0,.ptr bn 0,.ptr ba 0,.ptr be 0] none st U:=by
 refine E7 Ac [] Tryz.func95 rfl rfl rfl rfl rfl rfl rfl rfl (fun env0 he=>?_)
 subst he
 conv=>whnf
 refine Au (As Ac ?_)
 repeat' ((conv=>whnf);first|exact Cq|(refine Bc ?_;intros)|(refine Cr ?_ ?_ ?_;rotate_left)|(refine Be ?_ ?_<;>intro _)|with_reducible refine WF ?_)
 all_goals exact h
theorem St.Aq {st:St} {b c:Nat} {cs:List V} (h:b≠c):(st.Ab b cs).box c=st.box c:=by simp [St.Ab,Ne.symm h]
noncomputable def cK:List Oper:=match Tryz.f95.body with|some (.seq _ (.seq _ (.seq _ (.seq _ (.region _ ops _)))))=>ops.toList|_=>[]
noncomputable def mn (bs:List Bool) (bp bn ba be U:Nat) (sc:List V) (e:Int):Env:=
 {tmps:=Gb [(6,.bool true),(14,.bool true),(13,.agg [.int .i64 e]),(5,.Cb 0 0),(4,fault e),(0,.ptr bp 0),(1,.ptr bn 0),(2,.ptr ba 0),(3,.ptr be 0)]
   cK
   [.agg C8,.ptr U 0,.ptr U 0,.ptr U 0,.agg sc,.Cb 0 0,.int .i64 e,.Ca,.Ca,.Ca] bs,boxes:=[(0,[.int .i64 e])],Bt:=1,sz:=25,gl:=[]}
def mo (st:St) (U ba be:Nat) (sc:List V) (e:Int) (bs:List Bool):St:=
 match bs[7]?,bs[8]?,bs[9]? with
 |_,_,some true=>((st.Ab U C8).Ab ba sc).Ab be [.int .i64 e]
 |_,some true,_=>(st.Ab U C8).Ab ba sc
 |some true,_,_=>st.Ab U C8
 |_,_,_=>st
theorem H4 {bp bn U be br:Nat} {s:Ae} {e:Int} {RS:St→Prop} (hp:st.box bp=some [.ptr br 0]) (hr:Has st br s) {n0:Nd} {s0:Ae} {o1 o2 o3:AO} {e0:Int}
 (hn:st.box bn=some [.int .i64 n0.kind,.int .i64 n0.form,.str n0.text,.int .i64 n0.line,.int .i64 n0.B7,.slice 6 (Cs n0.kids) o1])
 (ha:st.box U=some [.slice 4 (Av s0.Ak) o2,.int .i64 s0.pos,.slice 1 (ints s0.CG) o3,.int .i64 s0.wait]) (he:st.box be=some [.int .i64 e0])
 (d1:bn≠bp) (d2:bn≠br) (d3:bn≠U) (d4:bn≠be) (d5:U≠bp) (d6:U≠br) (d7:U≠be)
 (h:RS (((st.Ab bn C8).Ab U s.cells).Ab be [.int .i64 e])):HZ Tryz.prog 95 [.ptr bp 0,.ptr bn 0,.ptr U 0,.ptr be 0] (some (fault e)) st RS:=by
 refine E7 Ac [] Tryz.func95 rfl rfl rfl rfl rfl rfl rfl rfl (fun env0 he=>?_)
 subst he
 conv=>whnf
 refine Au (As Ac ?_)
 repeat' ((conv=>whnf);first|exact Cq|(refine Bc ?_;intros)|(refine Cr ?_ ?_ ?_;rotate_left)|(refine Be ?_ ?_<;>intro _)|with_reducible refine WF ?_)
 refine Au (As Ac ?_)
 repeat' ((conv=>whnf);first|exact Cq|(refine Bc ?_;intros)|(refine Cr ?_ ?_ ?_;rotate_left)|(refine Be ?_ ?_<;>intro _)|with_reducible refine WF ?_)
 refine Au (As Ac ?_)
 repeat' ((conv=>whnf);first|exact Cq|(refine Bc ?_;intros)|(refine Cr ?_ ?_ ?_;rotate_left)|(refine Be ?_ ?_<;>intro _)|with_reducible refine WF ?_)
 have ha':(st.Ab bn C8).box U=some [.slice 4 (Av s0.Ak) o2,.int .i64 s0.pos,.slice 1 (ints s0.CG) o3,.int .i64 s0.wait]:=by rw [St.Aq d3];exact ha
 have he':((st.Ab bn C8).Ab U s.cells).box be=some [.int .i64 e0]:=by rw [St.Aq d7,St.Aq d4];exact he
 refine Vi Ac (Ce _) (fun bs=>mn bs bp bn U be br s.cells e) (mo st bn U be s.cells e) XK (by decide +kernel) Yl (St.le_refl _) ?_ h
 unfold XK
 rcases hr with hr|⟨t,u,q1,q2,q3,hr⟩
 all_goals repeat' (first|refine List.forall_mem_cons.2 ⟨?_,?_⟩|exact fun _ h=>nomatch h)
 repeat' ((conv=>whnf);first|exact Cq|(refine Bc ?_;intros)|(refine Cr ?_ ?_ ?_;rotate_left)|(refine Be ?_ ?_<;>intro _)|refine At hp ?_|refine At hr ?_|refine At hn ?_|refine At ha' ?_|refine At he' ?_|with_reducible refine WF ?_)
 all_goals conv=>whnf
 all_goals (refine ⟨Yl,?_⟩)
 all_goals exact St.le_refl _
end
abbrev Rs:=Sum (Int×Ae) (Nd×Ae)
def Fu (st:St) (b:Nat) (R:AM→St→Prop):Rs→Prop
 | .inr (n,s')=>∀st',GR st st' b s'→R (.ret (enc n)) st'
 | .inl (e,s')=>∀st',GR st st' b s'→R (.Cg (fault e)) st'
def Reads (f:FuncId) (s:Ae) (d:Int) (q:Rs):Prop:=∀(b:Nat) (st:St) (R:AM→St→Prop),Has st b s→Fu st b R q→PC f [.ptr b 0,.int .i64 d] st R
def Bz (s:Ae) (deep:Int) (q:Rs):Nd×Ae×Int:=
 if deep<1 then (MS,s,2) else match q with
  | .inr (n,s')=>(n,s',0)
  | .inl (e,s')=>(MS,s',e)
def QF (p:Nd×Ae×Int):V:=ML p.1 p.2.1 p.2.2
section
variable {st:St} {R:AM→St→Prop}
attribute [local irreducible] Go.Aw.Ai
theorem Bp {st:St} {b c:Nat} {cs:List V} (h:(st.Ab b cs).fresh c):b≠c∧st.fresh c:=by
 by_cases e:b=c
 ·subst e
  have:=h.1
  rw [St.Ah] at this
  cases this
 ·refine ⟨e,?_,h.2⟩
  have:=h.1
  rw [St.Aq e] at this
  exact this
theorem R9 {st:St} {K:Nat→Prop} (h:∀b,st.fresh b→K b):∀b,st.fresh b→K b:=h
theorem Yk {st:St} {b:Nat} {cs:List V} (h:st.box b=some cs):St.le st (st.Ab b cs):=by rw [St.LJ h];exact St.le_refl _
noncomputable def cC:List Oper:=match Tryz.f49.body with|some (.seq _ (.seq _ (.seq _ (.seq _ (.seq _ (.seq (.region _ ops _) _))))))=>ops.toList|_=>[]
noncomputable def cB (bs:List Bool) (b1 b2 b3 U b5:Nat) (nc sc:List V):Env:=
 {tmps:=Gb [(6,.ptr b1 0),(7,.ptr b2 0),(8,.ptr b3 0),(9,.ptr b5 0)] cC [.agg nc,.ptr U 0,.ptr U 0,.ptr U 0,.agg sc,.Ca,.Ca,.Ca] bs,boxes:=[],Bt:=1,sz:=28,gl:=[6,7,8,9,12]}
def cD (st:St) (b2 U:Nat) (sc:List V) (bs:List Bool):St:=
 match bs[6]?,bs[7]? with
 |_,some true=>(st.Ab b2 sc).Ab U [.int .i64 0]
 |some true,_=>st.Ab b2 sc
 |_,_=>st
theorem XI {f:FuncId} {s:Ae} {deep:Int} {q:Rs} (hq:¬deep<1→Reads f s (if 100<deep then 100 else deep) q) (h:R (.ret (QF (Bz s deep q))) st):PC 49 [CN s,.int .i64 deep,.func f [] []] st R:=by
 refine A5.ends (LA Ac [6,7,8,9,12] Tryz.func49 rfl (by decide) rfl rfl rfl rfl rfl rfl ⟨_,Tryz.func95,rfl,by decide⟩ rfl ?_)
 repeat' ((conv=>whnf);first|exact Cq|(refine Bc ?_;intros)|(refine Cr ?_ ?_ ?_;rotate_left)|(refine Be ?_ ?_<;>intro _)|refine R9 (fun b5 f5=>?_)|refine At (St.Ah ..) ?_|with_reducible refine WF ?_)
 rename_i b1 f1 b2 f2 b3 f3 b4 f4
 obtain ⟨n12,f2a⟩:=Bp f2
 obtain ⟨n23,f3a⟩:=Bp f3
 obtain ⟨n13,f3b⟩:=Bp f3a
 obtain ⟨n34,f4a⟩:=Bp f4
 obtain ⟨n24,f4b⟩:=Bp f4a
 obtain ⟨n14,f4c⟩:=Bp f4b
 obtain ⟨n45,f5a⟩:=Bp f5
 obtain ⟨n35,f5b⟩:=Bp f5a
 obtain ⟨n25,f5c⟩:=Bp f5b
 obtain ⟨n15,f5d⟩:=Bp f5c
 conv=>whnf
 refine ⟨rfl,Ax rfl ?_⟩
 generalize hst5:St.Ab _ b5 [V.ptr b4 0]=st5
 have k1:st5.box b1=some C8:=by subst hst5;rw [St.Aq n15.symm,St.Aq n15.symm,St.Aq n14.symm,St.Aq n13.symm,St.Aq n12.symm,St.Ah];rfl
 have k2:st5.box b2=some [.slice 4 (Av En.Ak) .full,.int .i64 En.pos,.slice 1 (ints En.CG) .full,.int .i64 En.wait]:=by subst hst5;rw [St.Aq n25.symm,St.Aq n25.symm,St.Aq n24.symm,St.Aq n23.symm,St.Ah];rfl
 have k3:st5.box b3=some [.int .i64 0]:=by subst hst5;rw [St.Aq n35.symm,St.Aq n35.symm,St.Aq n34.symm,St.Ah]
 have k4:Has st5 b4 s:=by subst hst5;refine .inr ⟨YZ,En,.full,.full,0,?_⟩;rw [St.Aq n45.symm,St.Aq n45.symm,St.Ah];rfl
 have k5:st5.box b5=some [.ptr b4 0]:=by subst hst5;rw [St.Ah]
 have kle:st.le st5:=by
  subst hst5
  exact St.Am (St.Am (St.Am (St.Am (St.Am (St.Am (St.le_refl _) f1.1 _) f2a.1 _) f3b.1 _) f4c.1 _) f5d.1 _) f5d.1 _
 have kpan:∀(U:St) (e:Int) (s':Ae),GR st5 U b4 s'→U.box b5=some [.ptr b4 0]∧U.box b1=some C8∧U.box b2=some [.slice 4 (Av En.Ak) .full,.int .i64 En.pos,.slice 1 (ints En.CG) .full,.int .i64 En.wait]∧U.box b3=some [.int .i64 0]∧st.le U:=by
  rintro U e s' ⟨_,cs,rfl⟩
  exact ⟨by rw [St.Aq n45];exact k5,by rw [St.Aq n14.symm];exact k1,by rw [St.Aq n24.symm];exact k2,by rw [St.Aq n34.symm];exact k3,St.Am kle f4c.1 _⟩
 clear hst5 f2 f3 f4 f5 f3a f4a f4b f5a f5b f5c
 refine Au (As Ac ?_)
 repeat' ((conv=>whnf);first|exact Cq|(refine Bc ?_;intros)|(refine Cr ?_ ?_ ?_;rotate_left)|(refine Be ?_ ?_<;>intro _)|refine At k5 ?_|refine EM ?_|with_reducible refine WF ?_)
 ·refine H4 (n0:=MS) (s0:=En) k5 k4 k1 k2 k3 n15 n14 n12 n13 n25 n24 n23 ?_
  have g1:(((st5.Ab b1 C8).Ab b2 s.cells).Ab b3 [.int .i64 2]).box b1=some C8:=by rw [St.Aq n13.symm,St.Aq n12.symm,St.Ah]
  have g2:(((st5.Ab b1 C8).Ab b2 s.cells).Ab b3 [.int .i64 2]).box b2=some s.cells:=by rw [St.Aq n23.symm,St.Ah]
  have gl:st.le (((st5.Ab b1 C8).Ab b2 s.cells).Ab b3 [.int .i64 2]):=St.Am (St.Am (St.Am kle f1.1 _) f2a.1 _) f3b.1 _
  unfold Bz at h
  rw [if_pos (by assumption)] at h
  repeat' ((conv=>whnf);first|exact Cq|(refine Bc ?_;intros)|(refine Cr ?_ ?_ ?_;rotate_left)|(refine Be ?_ ?_<;>intro _)|refine At g1 ?_|refine At g2 ?_|refine At (St.Ah ..) ?_|with_reducible refine WF ?_)
  all_goals exact Ej gl rfl h
 ·rename_i hd
  unfold Bz at h
  rw [if_neg hd] at h
  have hq:=hq hd b4
  refine Au (As Ac ?_)
  cases q with
  |inl q=>
   obtain ⟨e,s'⟩:=q
   repeat' ((conv=>whnf);first|exact Cq|(refine Bc ?_;intros)|(refine Cr ?_ ?_ ?_;rotate_left)|(refine Be ?_ ?_<;>intro _)|refine At k5 ?_|refine ⟨_,rfl,?_⟩|refine hq _ _ k4 (fun U hu=>?_)|with_reducible refine WF ?_)
   obtain ⟨j5,j1,j2,j3,jle⟩:=kpan U e s' hu
   refine H4 (n0:=MS) (s0:=En) j5 hu.1 j1 j2 j3 n15 n14 n12 n13 n25 n24 n23 ?_
   have g1:(((U.Ab b1 C8).Ab b2 s'.cells).Ab b3 [.int .i64 e]).box b1=some C8:=by rw [St.Aq n13.symm,St.Aq n12.symm,St.Ah]
   have g2:(((U.Ab b1 C8).Ab b2 s'.cells).Ab b3 [.int .i64 e]).box b2=some s'.cells:=by rw [St.Aq n23.symm,St.Ah]
   have gl:st.le (((U.Ab b1 C8).Ab b2 s'.cells).Ab b3 [.int .i64 e]):=St.Am (St.Am (St.Am jle f1.1 _) f2a.1 _) f3b.1 _
   repeat' ((conv=>whnf);first|exact Cq|(refine Bc ?_;intros)|(refine Cr ?_ ?_ ?_;rotate_left)|(refine Be ?_ ?_<;>intro _)|refine At g1 ?_|refine At g2 ?_|refine At (St.Ah ..) ?_|with_reducible refine WF ?_)
   all_goals exact Ej gl rfl h
  |inr q=>
   obtain ⟨n,s'⟩:=q
   have kret:=fun U hu=>kpan U 0 s' hu
   repeat' ((conv=>whnf);first|exact Cq|(refine Bc ?_;intros)|(refine Cr ?_ ?_ ?_;rotate_left)|(refine Be ?_ ?_<;>intro _)|refine At k5 ?_|refine ⟨_,rfl,?_⟩|refine hq _ _ k4 (fun U hu=>?_)|refine At (kret U hu).2.1 ?_|with_reducible refine WF ?_)
   obtain ⟨j5,j1,j2,j3,jle⟩:=kret U hu
   generalize hst7:U.Ab b1 (A3 n)=st7
   have i1:st7.box b1=some (A3 n):=by subst hst7;rw [St.Ah]
   have i5:st7.box b5=some [.ptr b4 0]:=by subst hst7;rw [St.Aq n15];exact j5
   have i2:st7.box b2=some [.slice 4 (Av En.Ak) .full,.int .i64 En.pos,.slice 1 (ints En.CG) .full,.int .i64 En.wait]:=by subst hst7;rw [St.Aq n12];exact j2
   have i3:(st7.Ab b2 s'.cells).box b3=some [.int .i64 0]:=by subst hst7;rw [St.Aq n23,St.Aq n13];exact j3
   have i4:Has st7 b4 s':=by
    subst hst7
    rcases hu.1 with e|⟨t,u,o1,o2,e',e⟩
    ·exact .inl (by rw [St.Aq n14];exact e)
    ·exact .inr ⟨t,u,o1,o2,e',by rw [St.Aq n14];exact e⟩
   have ile:st.le st7:=by subst hst7;exact St.Am jle f1.1 _
   refine Au (Vi Ac (Ce _) (fun bs=>cB bs b1 b2 b3 b4 b5 (A3 n) s'.cells) (cD st7 b2 b3 s'.cells) Nw (by decide +kernel) Yl (by rw [←hst7];exact St.le_refl _) ?_ ?_)
   ·skip
    unfold Nw
    rcases i4 with i4|⟨t,u,q1,q2,q3,i4⟩
    all_goals repeat' (first|refine List.forall_mem_cons.2 ⟨?_,?_⟩|exact fun _ h=>nomatch h)
    repeat' ((conv=>whnf);first|exact Cq|(refine Bc ?_;intros)|(refine Cr ?_ ?_ ?_;rotate_left)|(refine Be ?_ ?_<;>intro _)|refine At i5 ?_|refine At i1 ?_|refine At i4 ?_|refine At i2 ?_|refine At i3 ?_|with_reducible refine WF ?_)
    all_goals conv=>whnf
    all_goals (refine ⟨Yl,?_⟩)
    all_goals first|exact St.le_refl _|exact Yk i1
   ·refine As Ac (Ot (bp:=b5) ?_)
    have g1:((st7.Ab b2 s'.cells).Ab b3 [.int .i64 0]).box b1=some (A3 n):=by rw [St.Aq n13.symm,St.Aq n12.symm];exact i1
    have g2:((st7.Ab b2 s'.cells).Ab b3 [.int .i64 0]).box b2=some s'.cells:=by rw [St.Aq n23.symm,St.Ah]
    have gl:st.le ((st7.Ab b2 s'.cells).Ab b3 [.int .i64 0]):=St.Am (St.Am ile f2a.1 _) f3b.1 _
    repeat' ((conv=>whnf);first|exact Cq|(refine Bc ?_;intros)|(refine Cr ?_ ?_ ?_;rotate_left)|(refine Be ?_ ?_<;>intro _)|refine At g1 ?_|refine At g2 ?_|refine At (St.Ah ..) ?_|with_reducible refine WF ?_)
    all_goals exact Ej gl rfl h
end
def mu (s:Ae):Nat:=4*(s.Ak.length - s.pos.toNat)+s.CG.length+(2 - s.wait.toNat)
theorem nx (s:Ae):s.CG.length≤mu s:=by unfold mu;omega
theorem H5 {s:Ae} (h:s.CG≠[]):(E6 s).CG.length+1=s.CG.length:=by
 have:0<s.CG.length:=List.length_pos_iff.2 h
 simp only [E6,List.length_dropLast]
 omega
theorem Vh {s:Ae} {t:Tk} (h:s.Ak[s.pos.toNat]? =some t):s.pos.toNat<s.Ak.length:=(List.getElem?_eq_some_iff.1 h).1
theorem dv {s:Ae} (h:(FW s).2.2=0):mu (FW s).2.1≤mu s∧((FW s).1.kind≠21→mu (FW s).2.1<mu s):=by
 unfold FW at h ⊢
 split
 ·exact ⟨Nat.le_refl _,fun e=>absurd rfl e⟩
 ·split
  ·rename_i U e2
   have:=H5 U
   refine ⟨?_,fun _=>?_⟩<;>simp only [mu,E6] at* <;>omega
  ·rename_i U e2
   rw [if_neg U,if_neg e2] at h
   cases h
theorem cp {t:Tk} {s:Ae} (h0:0≤s.pos) (h1:0≤s.wait) (h2:s.wait<2) (U:s.Ak[s.pos.toNat]? =some t):mu (Gu t s).2<mu s:=by
 have:=Vh U
 unfold Gu
 split
 ·rename_i e;simp only [mu];rw [e,show Int.toNat 2=2 from rfl,show Int.toNat 1=1 from rfl];omega
 ·split
  ·simp only [mu,Lw,List.length_append,List.length_singleton];omega
  ·simp only [mu];omega
theorem jW {t:Tk} {s:Ae} (h0:0≤s.pos) (h2:s.wait≤2) (U:s.Ak[s.pos.toNat]? =some t):mu (DR t s).2<mu s:=by
 have:=Vh U
 unfold DR
 split
 ·rename_i e
  have:=H5 (Q6 e.1)
  simp only [mu,E6] at *;omega
 ·split<;>(simp only [mu];omega)
theorem cw {t:Tk} {s:Ae} (h0:0≤s.pos) (ht:s.Ak[s.pos.toNat]? =some t) (h:(CQ t s).2.2=0):mu (CQ t s).2.1<mu s:=by
 have:=Vh ht
 unfold CQ at h ⊢
 split
 ·simp only [mu,Lw,List.length_append,List.length_singleton];omega
 ·rename_i e1
  rw [if_neg e1] at h
  split
  ·rename_i e2
   rw [if_pos e2] at h
   split
   ·rename_i U;rw [if_pos U] at h;cases h
   ·rename_i U
    have:=H5 (s:=s) (fun e=>U (.inl e))
    simp only [mu,E6] at *;omega
  ·simp only [mu];omega
theorem T5:∀(n:Nat) (s:Ae),0≤s.pos→0≤s.wait→s.wait≤2→(Ff n s).2.2=0→mu (Ff n s).2.1≤mu s∧((Ff n s).1.kind≠21→mu (Ff n s).2.1<mu s)
 |0,s,h0,h1,h2,h=>dv h
 |n+1,s,h0,h1,h2,h=>by
  unfold Ff at h ⊢
  cases U:s.Ak[s.pos.toNat]? with
  |none=>rw [U] at h;exact dv h
  |some t=>
   rw [U] at h
   dsimp only at h ⊢
   split
   ·rename_i e
    have:=cp h0 h1 e.2 U
    exact ⟨Nat.le_of_lt this,fun _=>this⟩
   ·rename_i e1
    rw [if_neg e1] at h
    have hl:=jW h0 h2 U
    split
    ·rename_i e2
     rw [if_pos e2] at h
     split
     ·rename_i e3
      rw [if_pos e3] at h
      have hz:=FC e3
      have:=T5 n (DR t s).2 (by rw [hz];show 0≤s.pos+1;omega) (by rw [hz];exact Int.le_refl _) (by rw [hz];show (0:Int)≤2;decide) h
      exact ⟨by omega,fun e=>by omega⟩
     ·exact ⟨Nat.le_of_lt hl,fun _=>hl⟩
    ·rename_i e2
     rw [if_neg e2] at h
     have:=cw h0 U h
     exact ⟨Nat.le_of_lt this,fun _=>this⟩
theorem EI {s:Ae} (h:(Ad s).2.2=0):mu (Ad s).2.1≤mu s∧((Ad s).1.kind≠21→mu (Ad s).2.1<mu s):=by
 unfold Ad at h ⊢
 cases U:Hh s with
 |false=>rw [U] at h;cases h
 |true=>
  rw [U,if_pos rfl] at h
  rw [if_pos rfl]
  unfold Hh at U
  simp only [Bool.and_eq_true,decide_eq_true_eq] at U
  exact T5 _ s (by omega) (by omega) (by omega) h
theorem X3 {s:Ae} (h:¬(FW s).2.2=0):(FW s).1=YZ:=by
 unfold FW at h ⊢
 split
 ·rename_i e;rw [if_pos e] at h;exact absurd rfl h
 ·rename_i e;rw [if_neg e] at h
  split
  ·rename_i e;rw [if_pos e] at h;exact absurd rfl h
  ·rfl
theorem Zp {t:Tk} {s:Ae} (h:¬(CQ t s).2.2=0):(CQ t s).1=YZ:=by
 unfold CQ at h ⊢
 split
 ·rename_i e;rw [if_pos e] at h;exact absurd rfl h
 ·rename_i e;rw [if_neg e] at h
  split
  ·rename_i e;rw [if_pos e] at h
   split
   ·rfl
   ·rename_i e;rw [if_neg e] at h;exact absurd rfl h
  ·rename_i e;rw [if_neg e] at h;exact absurd rfl h
theorem QR:∀(n:Nat) (s:Ae),¬(Ff n s).2.2=0→(Ff n s).1=YZ
 |0,s,h=>X3 h
 |n+1,s,h=>by
  unfold Ff at h ⊢
  cases U:s.Ak[s.pos.toNat]? with
  |none=>rw [U] at h;exact X3 h
  |some t=>
   rw [U] at h
   dsimp only at h ⊢
   split
   ·rename_i e;rw [if_pos e] at h;exact absurd rfl h
   ·rename_i e;rw [if_neg e] at h
    split
    ·rename_i e;rw [if_pos e] at h
     split
     ·rename_i e;rw [if_pos e] at h;exact QR n _ h
     ·rename_i e;rw [if_neg e] at h;exact absurd rfl h
    ·rename_i e;rw [if_neg e] at h;exact Zp h
theorem T7 {s:Ae} (h:¬(Ad s).2.2=0):(Ad s).1=YZ:=by
 unfold Ad at h ⊢
 cases U:Hh s with
 |false=>rfl
 |true=>rw [U,if_pos rfl] at h;rw [if_pos rfl];exact QR _ _ h
theorem GC {s:Ae} {k:Int} {x:List UInt8} (h:Ba s k x=true) (U:k≠0):(Ad s).2.2=0:=by
 apply Classical.byContradiction
 intro e
 unfold Ba at h
 rw [T7 e] at h
 simp only [YZ,Bool.and_eq_true,beq_iff_eq] at h
 exact U h.1.symm
theorem CJ {s:Ae} {k:Int} {x:List UInt8} (h:Ba s k x=true) (hk:k≠0) (U:k≠21):mu (Ad s).2.1<mu s:=by
 refine (EI (GC h hk)).2 fun e=>?_
 unfold Ba at h
 simp only [Bool.and_eq_true,beq_iff_eq] at h
 exact U (h.1.symm.trans e)
abbrev Ls:=Sum (Int×Ae) (List Nd×Ae)
def C7 (s:Ae):Rs:=if (Ad s).2.2=0 then .inr (AJ (Ad s).1,(Ad s).2.1) else .inl ((Ad s).2.2,s)
def im (s:Ae):Rs:=.inl (P1 s,s)
def JE (s:Ae) (k:Int) (x:List UInt8):Rs:=if Ba s k x then C7 s else im s
def BP (t:Tk):Bool:=t.kind==2||t.kind==4||t.kind==1||(t.kind==15&&(t.text==[40]||t.text==[91]))
def AD (k:Int) (l:List Nd):Nd:=.mk k 0 [] 0 0 l
def EU (A:Ae→Rs) (l:List Nd) (s:Ae):Ls:=
 if BP (Ad s).1 then match A s with
  | .inl e=>.inl e
  | .inr p=>if mu p.2<mu s then EU A (l++[p.1]) p.2 else .inl (2,s)
 else .inr (l,s)
termination_by mu s
def Ft (A:Ae→Rs) (s:Ae):Rs:=
 match A s with
 | .inl e=>.inl e
 | .inr p=>match EU A [p.1] p.2 with
   | .inl e=>.inl e
   | .inr q=>if q.1.length=1 then .inr (p.1,q.2) else .inr (AD 39 q.1,q.2)
def E5 (A:Ae→Rs) (l:List Nd) (s:Ae):Ls:=
 if Ba s 10 [45,62] then match Ft A (Ad s).2.1 with
  | .inl e=>.inl e
  | .inr p=>if mu p.2<mu s then E5 A (l++[AJ (Ad s).1,p.1]) p.2 else .inl (2,s)
 else .inr (l,s)
termination_by mu s
def Cw (A:Ae→Rs) (n:Nd) (s:Ae):Rs:=
 match E5 A [n] s with
 | .inl e=>.inl e
 | .inr q=>if q.1.length=1 then .inr (n,q.2) else .inr (AD 37 q.1,q.2)
def Dg (A:Ae→Rs) (s:Ae):Rs:=
 match Ft A s with
 | .inl e=>.inl e
 | .inr p=>Cw A p.1 p.2
def Eg (A:Ae→Rs) (s:Ae):Rs:=
 match Ft A s with
 | .inl e=>.inl e
 | .inr p=>if Ba p.2 10 [61,62] then match Dg A (Ad p.2).2.1 with
    | .inl e=>.inl e
    | .inr q=>.inr (AD 38 [p.1,AJ (Ad p.2).1,q.1],q.2)
   else Cw A p.1 p.2
def BT (Y:Ae→Rs) (l:List Nd) (s:Ae):Ls:=
 if Ba s 15 [44] then match Y (Ad s).2.1 with
  | .inl e=>.inl e
  | .inr p=>if mu p.2<mu s then BT Y (l++[AJ (Ad s).1,p.1]) p.2 else .inl (2,s)
 else .inr (l,s)
termination_by mu s
def B2 (l:List Nd) (s:Ae):List Nd×Ae:=
 if Ba s 15 [44] then if mu (Ad s).2.1<mu s then B2 (l++[AJ (Ad s).1]) (Ad s).2.1 else (l,s) else (l,s)
termination_by mu s
def GP (k:Int) (l:List Nd) (s:Ae) (x:List UInt8):Rs:=match JE s 15 x with
 | .inl e=>.inl e
 | .inr p=>.inr (AD k (l++[p.1]),p.2)
def DV (Y:Ae→Rs) (s:Ae):Rs:=
 match C7 s with
 | .inl e=>.inl e
 | .inr p=>
   if Ba p.2 10 [45,62] then GP 3 [p.1,AJ (Ad p.2).1] (Ad p.2).2.1 [41]
   else if Ba p.2 15 [41] then GP 3 [p.1] p.2 [41]
   else if Ba p.2 15 [44] then GP 3 (B2 [p.1] p.2).1 (B2 [p.1] p.2).2 [41]
   else match Y p.2 with
    | .inl e=>.inl e
    | .inr q=>match BT Y [p.1,q.1] q.2 with
      | .inl e=>.inl e
      | .inr r=>GP (if 2<r.1.length then 5 else 4) r.1 r.2 [41]
def C0 (Y:Ae→Rs) (s:Ae):Rs:=
 match C7 s with
 | .inl e=>.inl e
 | .inr p=>
   if Ba p.2 15 [93] then .inr (AD 3 [p.1,AJ (Ad p.2).1],(Ad p.2).2.1)
   else match Y p.2 with
    | .inl e=>.inl e
    | .inr q=>GP 6 [p.1,q.1] q.2 [93]
def C3 (Y:Ae→Rs) (s:Ae):Rs:=
 if BP (Ad s).1 then if (Ad s).1.kind=15 then if (Ad s).1.text=[40] then DV Y s else C0 Y s else C7 s else im s
def DD:Nat→Ae→Rs
 |0,s=>.inl (2,s)
 |d+1,s=>Dg (C3 (DD d)) s
def EJ (A:Ae→Rs):Prop:=∀s e s',A s=.inl (e,s')→e≠0
def A6 (A:Ae→Rs):Prop:=∀s n s',A s=.inr (n,s')→mu s'<mu s
theorem Nu (s:Ae):P1 s≠0:=by
 unfold P1
 split
 ·decide
 ·rename_i e;exact e
theorem Hp:EJ C7:=fun s e s' h=>by
 unfold C7 at h
 split at h
 ·cases h
 ·rename_i U;cases h;exact U
theorem S3:EJ im:=fun s e s' h=>by unfold im at h;cases h;exact Nu s
theorem Zf {k:Int} {x:List UInt8}:EJ (fun s=>JE s k x):=fun s e s' h=>by
 unfold JE at h
 dsimp only at h
 split at h
 ·exact Hp _ _ _ h
 ·exact S3 _ _ _ h
theorem I7 {k:Int} {l:List Nd} {x:List UInt8}:EJ (fun s=>GP k l s x):=fun s e s' h=>by
 unfold GP at h
 dsimp only at h
 split at h
 ·rename_i U hw
  cases h
  exact Zf _ _ _ hw
 ·cases h
theorem fM {A:Ae→Rs} (hA:EJ A) (l:List Nd) (s:Ae):∀e s',EU A l s=.inl (e,s')→e≠0:=by
 fun_induction EU A l s with
 |case1 l s U e1 h2=>intro e s' h;cases h;exact hA _ _ _ h2
 |case2 l s U p h2 h3 ih=>exact ih
 |case3 l s U p h2 h3=>intro e s' h;cases h;decide
 |case4 l s U=>intro e s' h;cases h
theorem Oh {A:Ae→Rs} (hA:EJ A):EJ (Ft A):=fun s e s' h=>by
 unfold Ft at h
 split at h
 ·rename_i U;cases h;exact hA _ _ _ U
 ·split at h
  ·rename_i U;cases h;exact fM hA _ _ _ _ U
  ·split at h<;>cases h
theorem cd {A:Ae→Rs} (hA:EJ A) (l:List Nd) (s:Ae):∀e s',E5 A l s=.inl (e,s')→e≠0:=by
 fun_induction E5 A l s with
 |case1 l s U e1 h2=>intro e s' h;cases h;exact Oh hA _ _ _ h2
 |case2 l s U p h2 h3 ih=>exact ih
 |case3 l s U p h2 h3=>intro e s' h;cases h;decide
 |case4 l s U=>intro e s' h;cases h
theorem MA {A:Ae→Rs} (hA:EJ A) {n:Nd}:EJ (Cw A n):=fun s e s' h=>by
 unfold Cw at h
 split at h
 ·rename_i U;cases h;exact cd hA _ _ _ _ U
 ·split at h<;>cases h
theorem Oi {A:Ae→Rs} (U:EJ A):EJ (Dg A):=fun s e s' h=>by
 unfold Dg at h
 split at h
 ·rename_i h1;cases h;exact Oh U _ _ _ h1
 ·exact MA U _ _ _ h
theorem Qv {A:Ae→Rs} (hA:EJ A):EJ (Eg A):=fun s e s' h=>by
 unfold Eg at h
 split at h
 ·rename_i U;cases h;exact Oh hA _ _ _ U
 ·split at h
  ·split at h
   ·rename_i U;cases h;exact Oi hA _ _ _ U
   ·cases h
  ·exact MA hA _ _ _ h
theorem Xo {Y:Ae→Rs} (hY:EJ Y) (l:List Nd) (s:Ae):∀e s',BT Y l s=.inl (e,s')→e≠0:=by
 fun_induction BT Y l s with
 |case1 l s U e1 h2=>intro e s' h;cases h;exact hY _ _ _ h2
 |case2 l s U p h2 h3 ih=>exact ih
 |case3 l s U p h2 h3=>intro e s' h;cases h;decide
 |case4 l s U=>intro e s' h;cases h
theorem Vj {Y:Ae→Rs} (hY:EJ Y):EJ (DV Y):=fun s e s' h=>by
 unfold DV at h
 split at h
 ·rename_i U;cases h;exact Hp _ _ _ U
 ·split at h
  ·exact I7 _ _ _ h
  ·split at h
   ·exact I7 _ _ _ h
   ·split at h
    ·exact I7 _ _ _ h
    ·split at h
     ·rename_i U;cases h;exact hY _ _ _ U
     ·split at h
      ·rename_i U;cases h;exact Xo hY _ _ _ _ U
      ·exact I7 _ _ _ h
theorem S4 {Y:Ae→Rs} (hY:EJ Y):EJ (C0 Y):=fun s e s' h=>by
 unfold C0 at h
 split at h
 ·rename_i U;cases h;exact Hp _ _ _ U
 ·split at h
  ·cases h
  ·split at h
   ·rename_i U;cases h;exact hY _ _ _ U
   ·exact I7 _ _ _ h
theorem LY {Y:Ae→Rs} (U:EJ Y):EJ (C3 Y):=fun s e s' h=>by
 unfold C3 at h
 split at h
 ·split at h
  ·split at h
   ·exact Vj U _ _ _ h
   ·exact S4 U _ _ _ h
  ·exact Hp _ _ _ h
 ·exact S3 _ _ _ h
theorem Hq:∀d,EJ (DD d)
 |0=>fun s e s' h=>by cases h;decide
 |d+1=>Oi (LY (Hq d))
theorem N3 {s:Ae} {n:Nd} {s':Ae} (h:C7 s=.inr (n,s')):mu s'≤mu s∧((Ad s).1.kind≠21→mu s'<mu s):=by
 unfold C7 at h
 split at h
 ·rename_i e;cases h;exact EI e
 ·cases h
theorem lf {s:Ae} {k:Int} {x:List UInt8} {n:Nd} {s':Ae} (hk:k≠0) (U:k≠21) (h:JE s k x=.inr (n,s')):mu s'<mu s:=by
 unfold JE at h
 split at h
 ·rename_i e
  unfold C7 at h
  rw [if_pos (GC e hk)] at h
  cases h
  exact CJ e hk U
 ·cases h
theorem DN {s:Ae} {k:Int} {l:List Nd} {x:List UInt8} {n:Nd} {s':Ae} (h:GP k l s x=.inr (n,s')):mu s'<mu s:=by
 unfold GP at h
 split at h
 ·cases h
 ·rename_i U;cases h;exact lf (by decide) (by decide) U
theorem J7 {s:Ae} {n:Nd} {s':Ae} (U:BP (Ad s).1=true) (h:C7 s=.inr (n,s')):mu s'<mu s:=by
 refine (N3 h).2 fun e=>?_
 unfold BP at U
 rw [e] at U
 simp at U
theorem Sv {A:Ae→Rs} (l:List Nd) (s:Ae):∀q s',EU A l s=.inr (q,s')→mu s'≤mu s:=by
 fun_induction EU A l s with
 |case1 l s U e1 h2=>intro e s' h;cases h
 |case2 l s U p h2 h3 ih=>intro e s' h;have:=ih e s' h;omega
 |case3 l s U p h2 h3=>intro e s' h;cases h
 |case4 l s U=>intro e s' h;cases h;exact Nat.le_refl _
theorem Hy {A:Ae→Rs} (hA:A6 A):A6 (Ft A):=fun s n s' h=>by
 unfold Ft at h
 split at h
 ·cases h
 ·rename_i U
  have:=hA _ _ _ U
  split at h
  ·cases h
  ·rename_i h2
   have:=Sv _ _ _ _ h2
   split at h<;>(cases h;omega)
theorem XC {A:Ae→Rs} (l:List Nd) (s:Ae):∀q s',E5 A l s=.inr (q,s')→mu s'≤mu s:=by
 fun_induction E5 A l s with
 |case1 l s U e1 h2=>intro e s' h;cases h
 |case2 l s U p h2 h3 ih=>intro e s' h;have:=ih e s' h;omega
 |case3 l s U p h2 h3=>intro e s' h;cases h
 |case4 l s U=>intro e s' h;cases h;exact Nat.le_refl _
theorem JI {A:Ae→Rs} {n m:Nd} {s s':Ae} (h:Cw A n s=.inr (m,s')):mu s'≤mu s:=by
 unfold Cw at h
 split at h
 ·cases h
 ·rename_i U
  have:=XC _ _ _ _ U
  split at h<;>(cases h;exact this)
theorem GV {A:Ae→Rs} (hA:A6 A):A6 (Dg A):=fun s n s' h=>by
 unfold Dg at h
 split at h
 ·cases h
 ·rename_i U
  have:=Hy hA _ _ _ U
  have:=JI h
  omega
theorem HU {Y:Ae→Rs} (l:List Nd) (s:Ae):∀q s',BT Y l s=.inr (q,s')→mu s'≤mu s:=by
 fun_induction BT Y l s with
 |case1 l s U e1 h2=>intro e s' h;cases h
 |case2 l s U p h2 h3 ih=>intro e s' h;have:=ih e s' h;omega
 |case3 l s U p h2 h3=>intro e s' h;cases h
 |case4 l s U=>intro e s' h;cases h;exact Nat.le_refl _
theorem JM (l:List Nd) (s:Ae):mu (B2 l s).2≤mu s:=by
 fun_induction B2 l s with
 |case1 l s U h2 ih=>omega
 |case2 l s U h2=>exact Nat.le_refl _
 |case3 l s U=>exact Nat.le_refl _
theorem Uo {Y:Ae→Rs} (hY:A6 Y) {s:Ae} {n:Nd} {s':Ae} (hs:BP (Ad s).1=true) (h:DV Y s=.inr (n,s')):mu s'<mu s:=by
 unfold DV at h
 split at h
 ·cases h
 ·rename_i h1
  have:=J7 hs h1
  split at h
  ·rename_i U
   have:=CJ U (by decide) (by decide)
   have:=DN h
   omega
  ·split at h
   ·have:=DN h;omega
   ·split at h
    ·have:=DN h
     have:=JM [‹Nd×Ae›.1] ‹Nd×Ae›.2
     omega
    ·split at h
     ·cases h
     ·rename_i U
      have:=hY _ _ _ U
      split at h
      ·cases h
      ·rename_i h3
       have:=HU _ _ _ _ h3
       have:=DN h
       omega
theorem aW {Y:Ae→Rs} (hY:A6 Y) {s:Ae} {n:Nd} {s':Ae} (hs:BP (Ad s).1=true) (h:C0 Y s=.inr (n,s')):mu s'<mu s:=by
 unfold C0 at h
 split at h
 ·cases h
 ·rename_i h1
  have:=J7 hs h1
  split at h
  ·rename_i U
   have:=CJ U (by decide) (by decide)
   cases h
   omega
  ·split at h
   ·cases h
   ·rename_i U
    have:=hY _ _ _ U
    have:=DN h
    omega
theorem Dr {Y:Ae→Rs} (hY:A6 Y):A6 (C3 Y):=fun s n s' h=>by
 unfold C3 at h
 split at h
 ·rename_i U
  split at h
  ·split at h
   ·exact Uo hY U h
   ·exact aW hY U h
  ·exact J7 U h
 ·cases h
theorem Cp:∀d,A6 (DD d)
 |0=>fun s n s' h=>by cases h
 |d+1=>GV (Dr (Cp d))
theorem DC {st:St} {b:Nat} {K:AM→St→Prop} {q:Rs} (h:∀n s',q=.inr (n,s')→∀st',GR st st' b s'→K (.ret (enc n)) st') (k:∀e s',q=.inl (e,s')→∀st',GR st st' b s'→K (.Cg (fault e)) st'):Fu st b K q:=by
 match q with
 | .inr (n,s')=>exact h n s' rfl
 | .inl (e,s')=>exact k e s' rfl
theorem Has.hw {st:St} {b:Nat} {s:Ae} (h:Has st b s) (own:AO) (n:Nat):Has (own.st st n) b s:=by
 cases own with
 |any=>exact h
 |full=>exact h
 |tok t=>exact h
theorem Y1 {own:AO} {st st':St} {n b:Nat} {s s':Ae} (hg:own.Bn st) (hh:Has st b s) (hu:GR (own.st st n) st' b s'):∃U,st'=own.st U n∧GR st U b s'∧own.Bn U:=by
 obtain ⟨h1,cs,e⟩:=hu
 cases own with
 |any=>exact hg.elim
 |full=>exact ⟨st',rfl,⟨h1,cs,e⟩,trivial⟩
 |tok t=>
  refine ⟨st.Ab b cs,e,⟨?_,cs,rfl⟩,?_,?_⟩
  ·rw [e] at h1;exact h1
  ·have:b≠t:=by
    rintro rfl
    have h2:st.box b=none:=hg.1
    rcases hh with k|⟨_,_,_,_,_,k⟩<;>(rw [h2] at k;cases k)
   rw [St.Aq this];exact hg.1
  ·exact hg.2
def bP (own:AO) (n:Nat) (st:St) (b:Nat) (R:AM→St→Prop):Rs→Prop
 | .inr (x,s')=>∀st',GR st st' b s'→own.Bn st'→R (.ret (enc x)) (own.st st' n)
 | .inl (e,s')=>∀st',GR st st' b s'→own.Bn st'→R (.Cg (fault e)) (own.st st' n)
theorem E1 {own:AO} {n:Nat} {st:St} {b:Nat} {s:Ae} {R:AM→St→Prop} {q:Rs} (hg:own.Bn st) (hh:Has st b s) (h:bP own n st b R q):Fu (own.st st n) b R q:=by
 refine DC (fun x s' e st' hu=>?_) (fun x s' e st' hu=>?_)
 ·obtain ⟨U,rfl,h2,h3⟩:=Y1 hg hh hu
  subst e
  exact h U h2 h3
 ·obtain ⟨U,rfl,h2,h3⟩:=Y1 hg hh hu
  subst e
  exact h U h2 h3
section
variable {st:St} {R:AM→St→Prop}
attribute [local irreducible] Go.Aw.Ai
theorem UL {t:Tk} (h:R (.ret (.bool (BP t))) st):PC 159 [FV t] st R:=by
 refine Aa Ac [] Tryz.func159 rfl (by decide) ?_
 repeat' ((conv=>whnf);first|(refine Bc ?_;intros)|(refine Be ?_ ?_<;>intro _)|fail)
 all_goals conv=>whnf
 all_goals (refine AB h ?_;clear h;simp_all [BP])
def Dm (f:FuncId) (d:Int) (A:Ae→Rs):Prop:=∀s,mu s≤100000000→Reads f s d (A s)
theorem ET {s:Ae} (h:mu s≤100000000):s.CG.length≤500000000:=by have:=nx s;omega
theorem Fl {b:Nat} {s:Ae} (U:Has st b s) (hb:s.CG.length≤500000000) (h:Fu st b R (C7 s)):PC 100 [.ptr b 0] st R:=by
 unfold C7 at h
 refine Mt U hb (fun e=>?_) (fun e=>?_)
 ·rw [if_pos e] at h;exact h
 ·rw [if_neg e] at h;exact h _ AU
theorem og {b:Nat} {s:Ae} (U:Has st b s) (hb:s.CG.length≤500000000) (h:∀st',GR st st' b s→R (.Cg (fault (P1 s))) st'):PC 191 [.ptr b 0] st R:=cj U hb (h _ AU)
theorem PY {b:Nat} {s:Ae} {k:Int} {x:List UInt8} (hs:Has st b s) (hb:s.CG.length≤500000000) (h:Fu st b R (JE s k x)):PC 167 [.ptr b 0,.int .i64 k,.str x] st R:=by
 unfold JE C7 at h
 refine gK hs hb (fun U e2=>?_) (fun U e2=>?_) (fun U=>?_)
 ·rw [if_pos U,if_pos e2] at h;exact h
 ·rw [if_pos U,if_neg e2] at h;exact h _ AU
 ·rw [if_neg (by rw [U];decide)] at h;exact h _ AU
theorem mf {d:Int} {Y:Ae→Rs} (hr:Dm 232 d (DV Y)) (hsq:Dm 233 d (C0 Y)):Dm 158 d (C3 Y):=by
 intro s hm b st R hs h
 refine Aa Ac [] Tryz.func158 rfl (by decide) ?_
 have hb:=ET hm
 have hl:Has (st.Ab b (CK s)) b s:=.inl (St.Ah ..)
 unfold C3 at h
 repeat' ((conv=>whnf);first|(refine Bc ?_;intros)|(refine Be ?_ ?_<;>intro _)|refine Ga hs hb ?_|refine UL ?_|refine Fl hl hb (DC (fun n s' hq st' U=>?_) (fun e s' hq st' U=>?_))|refine og hl hb (fun st' U=>?_)|refine hr s hm b _ _ hl (DC (fun n s' hq st' U=>?_) (fun e s' hq st' U=>?_))|refine hsq s hm b _ _ hl (DC (fun n s' hq st' U=>?_) (fun e s' hq st' U=>?_)))
 all_goals repeat (first|rw [if_pos (by assumption)] at h|rw [if_neg (by assumption)] at h|rw [if_neg (Bool.eq_false_iff.1 (by assumption))] at h)
 all_goals first
  |exact fin (h st' (AU.trans U)) rfl
  |(rw [hq] at h;exact B8 rfl (h st' (AU.trans U)))
  |(rw [hq] at h;exact fin (h st' (AU.trans U)) rfl)
 all_goals trace_state
end
theorem Qt {l new:List Nd} {own:AO} {st:St} {K:V→St→Prop} (h:own.Bn st) (hb:l.length+new.length≤1000000000)
 (k:∀U:AO,U.Bn st→K (.slice 6 (Cs (l++new)) U) (U.st st ((l++new).length*6))):Ai 6 72 (Cs l) own (Cs new) (own.st st (l.length*6)) K:=by
 have hw:(Cs new).map (·.map V.IU)=Cs new:=by
  rw [BN,List.map_map]
  refine List.map_congr_left fun x _=>?_
  rfl
 have hsc:((Cs new).all fun v=>v.all V.sc)=true:=by
  rw [BN,List.all_map,List.all_eq_true]
  intro x _
  rfl
 have:=DZ (sz:=6) (bytes:=72) (es:=Cs l) (new:=Cs new) (K:=K) h (by rw [CC,CC];omega) (by rw [CC,CC];simp only [De];omega) hsc (fun U ho=>by
  have:=k U ho
  rw [CC,CC,hw,←Tr,←List.length_append]
  exact this)
 rw [CC] at this
 exact this
theorem LR {l:List Nd} {x:Nd} {own:AO} {st:St} {K:V→St→Prop} (h:own.Bn st) (hb:l.length+1≤1000000000)
 (k:∀U:AO,U.Bn st→K (.slice 6 (Cs (l++[x])) U) (U.st st ((l++[x]).length*6))):Ai 6 72 (Cs l) own [A3 x] (own.st st (l.length*6)) K:=by
 have:=Qt (l:=l) (new:=[x]) h hb k
 rw [BN [x]] at this
 exact this
theorem XB {l:List Nd} {x:Nd} {own:AO} {st:St} {K:V→St→Prop} (h:own.Bn st) (hb:l.length+1≤1000000000)
 (k:∀U:AO,U.Bn st→K (.slice 6 (Cs (l++[x])) U) (U.st st ((l++[x]).length*6))):Ai 6 72 (l.map A3) own [A3 x] (own.st st (l.length*6)) K:=by
 rw [←BN]
 exact LR h hb k
theorem QW {d:Nat} {K:Int→Prop} (h:d≤1000000) (k:K (d:Int)):∃r,r=IntKind.i64.wrap (((d+1:Nat):Int) - 1)∧K r:=by
 refine ⟨d,?_,k⟩
 rw [show ((d+1:Nat):Int) - 1=(d:Int) by omega,J9 (by omega) (by omega)]
section
variable {st:St} {R:AM→St→Prop}
attribute [local irreducible] Go.Aw.Ai
theorem SG {b:Nat} {K:AM→St→Prop} {q:Rs} {x:Int} {s':Ae} (e:q=.inl (x,s')) (h:∀st',GR st st' b s'→K (.Cg (fault x)) st'):Fu st b K q:=by subst e;exact h
theorem FG {own:AO} {m:Nat} {st:St} {b:Nat} {K:AM→St→Prop} {q:Rs} (h:∀n s',q=.inr (n,s')→∀st',GR st st' b s'→own.Bn st'→K (.ret (enc n)) (own.st st' m)) (k:∀e s',q=.inl (e,s')→∀st',GR st st' b s'→own.Bn st'→K (.Cg (fault e)) (own.st st' m)):bP own m st b K q:=by
 match q with
 | .inr (n,s')=>exact h n s' rfl
 | .inl (e,s')=>exact k e s' rfl
theorem Gp {b:Nat} {K:AM→St→Prop} {q:Rs} {x:Nd} {s':Ae} (e:q=.inr (x,s')) (h:∀st',GR st st' b s'→K (.ret (enc x)) st'):Fu st b K q:=by subst e;exact h
def E4 (f:FuncId) (d:Int) (A:Ae→Rs):Prop:=∀s,mu s≤100000000→∀(st:St) (R:AM→St→Prop),R (.ret (QF (Bz s d (A s)))) st→PC f [CN s,.int .i64 d] st R
theorem mO {f:FuncId} {d:Nat} {A:Ae→Rs} (hf:E4 f d A) (h0:d=0→∀s,A s=.inl (2,s)) (hA:EJ A) {b:Nat} {s:Ae} (hm:mu s≤100000000) (hs:Has st b s) (h:Fu st b R (A s)):
 PC 254 [.ptr b 0,.func f [] [],.int .i64 d] st R:=by
 by_cases hd:(d:Int)<1
 ·have hz:d=0:=by omega
  rw [h0 hz s] at h
  refine VQ (n:=MS) (s':=s) (e:=2) (fun st R k=>hf s hm st R ?_) hs (fun e=>by cases e) (fun _=>h)
  unfold Bz;rw [if_pos hd];exact k
 ·cases U:A s with
  |inr p=>
   rw [U] at h
   refine VQ (n:=p.1) (s':=p.2) (e:=0) (fun st R k=>hf s hm st R ?_) hs (fun _=>h) (fun e=>absurd rfl e)
   unfold Bz;rw [if_neg hd,U];exact k
  |inl p=>
   rw [U] at h
   have hne:=hA s p.1 p.2 U
   refine VQ (n:=MS) (s':=p.2) (e:=p.1) (fun st R k=>hf s hm st R ?_) hs (fun e=>absurd e hne) (fun _=>h)
   unfold Bz;rw [if_neg hd,U];exact k
theorem RN {f:FuncId} {d:Nat} {x:Int} {A:Ae→Rs} (hx:x=(d:Int)) (hf:E4 f d A) (U:d=0→∀s,A s=.inl (2,s)) (hA:EJ A) {b:Nat} {s:Ae} (hm:mu s≤100000000) (hs:Has st b s) (h:Fu st b R (A s)):
 PC 254 [.ptr b 0,.func f [] [],.int .i64 x] st R:=by subst hx;exact mO hf U hA hm hs h
theorem gq {d:Nat} (hd:d≤1000000) {Y:Ae→Rs} (hY:E4 287 d Y) (h0:d=0→∀s,Y s=.inl (2,s)) (hB:EJ Y) (hF:A6 Y):Dm 233 ((d+1:Nat):Int) (C0 Y):=by
 intro s hm b st R hs h
 refine Aa Ac [] Tryz.func233 rfl (by decide) ?_
 have hb:=ET hm
 unfold C0 at h
 cases U:C7 s with
 |inl q=>
  rw [U] at h
  obtain ⟨e,s'⟩:=q
  repeat' ((conv=>whnf);first|(refine Bc ?_;intros)|(refine Be ?_ ?_<;>intro _)|refine Fl hs hb (SG U (fun st1 h1=>?_)))
  all_goals exact fin (h st1 h1) rfl
 |inr q=>
  obtain ⟨n1,s1⟩:=q
  rw [U] at h
  have hm1:mu s1≤100000000:=by have:=(N3 U).1;omega
  have hb1:=ET hm1
  repeat' ((conv=>whnf);first|(refine Bc ?_;intros)|(refine Be ?_ ?_<;>intro _)|refine Fl hs hb (Gp U (fun st1 h1=>?_))|refine VS h1.1 hb1 ?_)
  ·have hp:Ba s1 15 [93]=true:=by assumption
   have hl1:Has (st1.Ab b (CK s1)) b s1:=.inl (St.Ah ..)
   have hq2:C7 s1=.inr (AJ (Ad s1).1,(Ad s1).2.1):=by unfold C7;rw [if_pos (GC hp (by decide))]
   dsimp only at h
   rw [if_pos hp] at h
   have hn1:[n1].length+1≤1000000000:=by show 1+1≤1000000000;decide
   repeat' ((conv=>whnf);first|(refine Bc ?_;intros)|(refine Be ?_ ?_<;>intro _)|refine Fl hl1 hb1 (Gp hq2 (fun st2 h2=>?_))|refine XB (l:=[n1]) (x:=AJ (Ad s1).1) (own:=.full) trivial hn1 (fun own1 ho1=>?_))
   all_goals exact Ej (AO.Bu ho1) rfl (h st2 (h1.trans (AU.trans h2)))
  ·have hp:Ba s1 15 [93]=false:=by assumption
   have hl1:Has (st1.Ab b (CK s1)) b s1:=.inl (St.Ah ..)
   dsimp only at h
   rw [if_neg (by rw [hp];decide)] at h
   have hn1:[n1].length+1≤1000000000:=by show 1+1≤1000000000;decide
   have hn2:∀n2:Nd,([n1]++[n2]).length+1≤1000000000:=fun _=>by simp only [List.length_append,List.length_singleton];decide
   repeat' ((conv=>whnf);first|(refine Bc ?_;intros)|(refine Be ?_ ?_<;>intro _)|refine RN (by omega) hY h0 hB hm1 hl1 (DC (fun n2 s2 hq2 st2 h2=>?_) (fun e2 s2 hq2 st2 h2=>?_))|refine XB (l:=[n1]) (x:=n2) (own:=.full) trivial hn1 (fun own1 ho1=>?_)|refine PY (h2.1.hw own1 _) (ET (Nat.le_trans (Nat.le_of_lt (hF _ _ _ hq2)) hm1)) (E1 ho1 h2.1 (FG (fun n3 s3 hq3 st3 h3 hg3=>?_) (fun e3 s3 hq3 st3 h3 hg3=>?_)))|refine LR (l:=[n1]++[n2]) (x:=n3) hg3 (hn2 n2) (fun own2 ho2=>?_))
   all_goals rw [hq2] at h
   ·unfold GP at h
    dsimp only at h
    rw [hq3] at h
    exact Ej (AO.Bu ho2) rfl (h st3 (((h1.trans AU).trans h2).trans h3))
   ·unfold GP at h
    dsimp only at h
    rw [hq3] at h
    exact Ej (AO.Bu hg3) rfl (h st3 (((h1.trans AU).trans h2).trans h3))
   ·exact fin (h st2 ((h1.trans AU).trans h2)) rfl
end
theorem Mz {l:List Nd} {x:Nd} {own:AO} {st:St} {K:V→St→Prop} (h:own.Bn st) (hb:l.length+1≤1000000000)
 (k:∀U:AO,U.Bn st→K (.slice 6 ((l++[x]).map A3) U) (U.st st ((l++[x]).length*6))):Ai 6 72 (l.map A3) own [A3 x] (own.st st (l.length*6)) K:=by
 rw [←BN]
 exact LR h hb (by simpa only [BN] using k)
theorem CI {k:Int} {l:List Nd} {own:AO}:AM.ret (enc (AD k l))=(AM.ret (.agg [.int .i64 k,.int .i64 0,.str [],.int .i64 0,.int .i64 0,.slice 6 (l.map A3) own])).wk:=by
 rw [←BN];rfl
theorem Su {A:Ae→Rs} {l:List Nd} {s:Ae} {n:Nd} {s':Ae} (h:BP (Ad s).1=true) (U:A s=.inr (n,s')) (hm:mu s'<mu s):EU A l s=EU A (l++[n]) s':=by
 rw [EU,if_pos h,U]
 dsimp only
 rw [if_pos hm]
section
variable {st:St} {R:AM→St→Prop}
attribute [local irreducible] Go.Aw.Ai
theorem Ew {l:List Nd} {K:Nat→Prop} (k:l.length<4611686018427387904→K l.length):∀m,m=(l.map A3).length→m<De→K m:=fun m U h=>by
 rw [List.length_map] at U;subst U;exact k h
theorem Sj {own:AO} {st:St} {n b:Nat} {cs:List V}:(own.st st n).Ab b cs=own.st (st.Ab b cs) n:=by cases own<;>rfl
theorem ny {own:AO} {n b:Nat} {s:Ae} (hg:own.Bn st) (U:Has st b s) (hb:s.CG.length≤500000000) (h:R (.ret (FV (Ad s).1)) (own.st (st.Ab b (CK s)) n)):PC 135 [.ptr b 0] (own.st st n) R:=
 Ga (U.hw own n) hb (by rw [Sj];exact h)
theorem HC {own:AO} {b:Nat} {s:Ae} {cs:List V} (U:own.Bn st) (hs:Has st b s):own.Bn (st.Ab b cs):=by
 cases own with
 |any=>exact U
 |full=>trivial
 |tok t=>
  have:b≠t:=by
   rintro rfl
   have h2:st.box b=none:=U.1
   rcases hs with k|⟨_,_,_,_,_,k⟩<;>(rw [h2] at k;cases k)
  exact ⟨by rw [St.Aq this];exact U.1,U.2⟩
theorem nw {l:List Nd} {n1:Nd} {K:List V→Prop} (h:l.length=Int.toNat 1) (j:l.length=1→l=[n1]) (k:K (A3 n1)):(0:Int)≤0∧∃e,(l.map A3)[Int.toNat 0]? =some e∧K e:=
 ⟨Int.le_refl _,A3 n1,by rw [j h];rfl,k⟩
theorem nF {d:Int} {A:Ae→Rs} (ha:Dm 158 d A) (hF:A6 A):Dm 97 d (Ft A):=by
 intro s hm b st R hs h
 refine Aa Ac [] Tryz.func97 rfl (by decide) ?_
 unfold Ft at h
 cases U:A s with
 |inl q=>
  obtain ⟨e,s1⟩:=q
  rw [U] at h
  repeat' ((conv=>whnf);first|(refine Bc ?_;intros)|(refine Be ?_ ?_<;>intro _)|refine ha s hm b _ _ hs (SG U (fun st1 h1=>?_)))
  all_goals exact fin (h st1 h1) rfl
 |inr q=>
  obtain ⟨n1,s1⟩:=q
  rw [U] at h
  have hf1:=hF _ _ _ U
  dsimp only at h
  repeat' ((conv=>whnf);first|(refine Bc ?_;intros)|(refine Be ?_ ?_<;>intro _)|refine ha s hm b _ _ hs (Gp U (fun st1 h1=>?_)))
  refine Jo (α:=List Nd×Ae×St×AO) (fun x=>[(5,.slice 6 (x.1.map A3) x.2.2.2)]) [0,1,4] (fun x=>[]) [0] (fun x=>x.2.2.2.st x.2.2.1 (x.1.length*6))
   (fun x=>x.2.2.2.Bn x.2.2.1∧GR st x.2.2.1 b x.2.1∧x.1≠[]∧x.1.length+mu x.2.1≤200000000∧mu x.2.1≤mu s1∧EU A x.1 x.2.1=EU A [n1] s1∧(x.1.length=1→x.1=[n1])) (fun x=>mu x.2.1) ([n1],s1,st1,.full)
   ⟨trivial,h1,by simp,by show 1+mu s1≤_;omega,Nat.le_refl _,rfl,fun _=>rfl⟩ Yl (St.le_refl _) ?_
  rintro ⟨l,s2,st2,own⟩ ⟨j1,j2,j3,j4,j5,j6,j7⟩
  dsimp only at j1 j2 j3 j4 j5 j6 j7
  have hm2:mu s2≤100000000:=by omega
  have LN:=ET hm2
  have hl3:Has (st2.Ab b (CK s2)) b s2:=.inl (St.Ah ..)
  have g3:own.Bn (st2.Ab b (CK s2)):=HC j1 j2.1
  have u3:GR st (st2.Ab b (CK s2)) b s2:=j2.trans AU
  have hn:l.length+1≤1000000000:=by omega
  repeat' ((conv=>whnf);first|(refine Bc ?_;intros)|(refine Be ?_ ?_<;>intro _)|refine ny j1 j2.1 LN ?_|refine UL ?_|refine ha s2 hm2 b _ _ (hl3.hw own _) (E1 g3 hl3 (FG (fun n2 s4 hq2 st4 h4 g4=>?_) (fun e2 s4 hq2 st4 h4 g4=>?_)))|refine Mz (l:=l) g4 hn (fun own' ho'=>?_)|refine Ew (fun _=>?_)|refine nw (by assumption) j7 ?_)
  ·have hd:=hF _ _ _ hq2
   refine ⟨(l++[n2],s4,st4,own'),⟨ho',u3.trans h4,by simp,by show (l++[n2]).length+mu s4≤_;rw [List.length_append,List.length_singleton];omega,by show mu s4≤_;omega,?_,?_⟩,hd,Yl,St.le_refl _⟩
   ·show EU A (l++[n2]) s4=_
    rw [←j6,Su (l:=l) (by assumption) hq2 hd]
   ·intro e
    have:=List.length_pos_iff.2 j3
    have e:(l++[n2]).length=1:=e
    rw [List.length_append,List.length_singleton] at e
    omega
  ·have hr:EU A l s2=.inl (e2,s4):=by rw [EU,if_pos (by assumption),hq2]
   rw [←j6,hr] at h
   exact Ej (AO.Bu g4) rfl (h st4 (u3.trans h4))
  ·have hr:EU A l s2=.inr (l,s2):=by rw [EU,if_neg (Bool.eq_false_iff.1 (by assumption))]
   rw [←j6,hr] at h
   dsimp only at h
   rw [if_pos (by assumption)] at h
   exact Ej (AO.Bu g3) rfl (h _ u3)
  ·have hr:EU A l s2=.inr (l,s2):=by rw [EU,if_neg (Bool.eq_false_iff.1 (by assumption))]
   rw [←j6,hr] at h
   dsimp only at h
   rw [if_neg (by assumption)] at h
   exact Ej (AO.Bu g3) CI (h _ u3)
end
theorem bZ {l:List Nd} {x y:Nd} {own:AO} {st:St} {K:V→St→Prop} (h:own.Bn st) (hb:l.length+2≤1000000000)
 (k:∀U:AO,U.Bn st→K (.slice 6 ((l++[x,y]).map A3) U) (U.st st ((l++[x,y]).length*6))):Ai 6 72 (l.map A3) own [A3 x,A3 y] (own.st st (l.length*6)) K:=by
 rw [←BN]
 have:=Qt (l:=l) (new:=[x,y]) h hb (by simpa only [BN] using k)
 rw [BN [x,y]] at this
 exact this
theorem Rh {A:Ae→Rs} {l:List Nd} {s:Ae} {n:Nd} {s':Ae} (h:Ba s 10 [45,62]=true) (U:Ft A (Ad s).2.1=.inr (n,s')) (hm:mu s'<mu s):E5 A l s=E5 A (l++[AJ (Ad s).1,n]) s':=by
 rw [E5,if_pos h,U]
 dsimp only
 rw [if_pos hm]
theorem Gn {s:Ae} {k:Int} {x:List UInt8} (h:Ba s k x=true) (U:k≠0):C7 s=.inr (AJ (Ad s).1,(Ad s).2.1):=by unfold C7;rw [if_pos (GC h U)]
section
variable {st:St} {R:AM→St→Prop}
attribute [local irreducible] Go.Aw.Ai
theorem mP {own:AO} {n b:Nat} {s:Ae} {k:Int} {x:List UInt8} (U:Has st b s) (hb:s.CG.length≤500000000) (h:R (.ret (.bool (Ba s k x))) (own.st (st.Ab b (CK s)) n)):PC 98 [.ptr b 0,.int .i64 k,.str x] (own.st st n) R:=
 VS (U.hw own n) hb (by rw [Sj];exact h)
theorem PR {own:AO} {n:Nat} {st:St} {b:Nat} {s s':Ae} {R:AM→St→Prop} {q:Rs} {x:Nd} (U:own.Bn st) (hh:Has st b s) (e:q=.inr (x,s')) (h:∀st',GR st st' b s'→own.Bn st'→R (.ret (enc x)) (own.st st' n)):Fu (own.st st n) b R q:=
 E1 U hh (by subst e;exact h)
def U5 (f:FuncId) (d:Int) (A:Nd→Ae→Rs):Prop:=∀n s,mu s≤100000000→∀(b:Nat) (st:St) (R:AM→St→Prop),Has st b s→Fu st b R (A n s)→PC f [.ptr b 0,enc n,.int .i64 d] st R
theorem S0 {d:Int} {A:Ae→Rs} (hr:Dm 97 d (Ft A)) (hF:A6 A):U5 99 d (Cw A):=by
 intro n1 s1 hm b st R hs h
 refine Aa Ac [] Tryz.func99 rfl (by decide) ?_
 unfold Cw at h
 repeat' ((conv=>whnf);first|(refine Bc ?_;intros)|(refine Be ?_ ?_<;>intro _)|fail)
 refine Jo (α:=List Nd×Ae×St×AO) (fun x=>[(7,.slice 6 (x.1.map A3) x.2.2.2)]) [0,2,4,6] (fun x=>[]) [0,1] (fun x=>x.2.2.2.st x.2.2.1 (x.1.length*6))
  (fun x=>x.2.2.2.Bn x.2.2.1∧Has x.2.2.1 b x.2.1∧(∃s0,GR st x.2.2.1 b s0∨x.2.2.1=st)∧x.1≠[]∧x.1.length+2*mu x.2.1≤400000000∧mu x.2.1≤mu s1∧E5 A x.1 x.2.1=E5 A [n1] s1) (fun x=>mu x.2.1) ([n1],s1,st,.full)
  ⟨trivial,hs,⟨s1,.inr rfl⟩,by simp,by show 1+2*mu s1≤_;omega,Nat.le_refl _,rfl⟩ Yl (St.le_refl _) ?_
 rintro ⟨l,s2,U,own⟩ ⟨j1,j2,j3,j4,j5,j6,j7⟩
 dsimp only at j1 j2 j3 j4 j5 j6 j7
 have hm2:mu s2≤100000000:=by omega
 have LN:=ET hm2
 have hl3:Has (U.Ab b (CK s2)) b s2:=.inl (St.Ah ..)
 have g3:own.Bn (U.Ab b (CK s2)):=HC j1 j2
 have up:∀{st4 s4},GR U st4 b s4→GR st st4 b s4:=fun {st4 s4} hu=>by
  obtain ⟨s0,h3|h3⟩:=j3
  ·exact h3.trans hu
  ·subst h3;exact hu
 have hn:l.length+2≤1000000000:=by omega
 have hm4:Ba s2 10 [45,62]=true→mu (Ad s2).2.1≤100000000:=fun e=>by have:=CJ e (by decide) (by decide);omega
 repeat' ((conv=>whnf);first|(refine Bc ?_;intros)|(refine Be ?_ ?_<;>intro _)|refine mP j2 LN ?_|refine Fl (hl3.hw own _) LN (PR g3 hl3 (Gn (by assumption) (by decide)) (fun st4 h4 g4=>?_))|refine hr _ (hm4 (by assumption)) b _ _ (h4.1.hw own _) (E1 g4 h4.1 (FG (fun n2 s5 hq2 st5 h5 g5=>?_) (fun e2 s5 hq2 st5 h5 g5=>?_)))|refine bZ (l:=l) (x:=AJ (Ad s2).1) (y:=n2) g5 hn (fun own' ho'=>?_)|refine Ew (fun _=>?_))
 ·have hp:Ba s2 10 [45,62]=true:=by assumption
  have hd:=Hy hF _ _ _ hq2
  have hd2:=CJ hp (by decide) (by decide)
  have hd3:mu s5<mu s2:=by omega
  have hu:=(AU (st:=U) (b:=b) (s:=s2)).trans (h4.trans h5)
  refine ⟨(l++[AJ (Ad s2).1,n2],s5,st5,own'),⟨ho',h5.1,⟨s5,.inl (up hu)⟩,by simp,?_,by show mu s5≤_;omega,?_⟩,hd3,Yl,St.le_refl _⟩
  ·show (l++[AJ (Ad s2).1,n2]).length+2*mu s5≤_
   rw [List.length_append]
   show l.length+2+2*mu s5≤_
   omega
  ·show E5 A (l++[AJ (Ad s2).1,n2]) s5=_
   rw [←j7,Rh (l:=l) hp hq2 hd3]
 ·have hp:Ba s2 10 [45,62]=true:=by assumption
  have hu:=(AU (st:=U) (b:=b) (s:=s2)).trans (h4.trans h5)
  have hr:E5 A l s2=.inl (e2,s5):=by rw [E5,if_pos hp,hq2]
  rw [←j7,hr] at h
  exact Ej (AO.Bu g5) rfl (h st5 (up hu))
 ·have hr:E5 A l s2=.inr (l,s2):=by rw [E5,if_neg (Bool.eq_false_iff.1 (by assumption))]
  rw [←j7,hr] at h
  dsimp only at h
  rw [if_pos (by assumption)] at h
  exact Ej (AO.Bu g3) rfl (h _ (up AU))
 ·have hr:E5 A l s2=.inr (l,s2):=by rw [E5,if_neg (Bool.eq_false_iff.1 (by assumption))]
  rw [←j7,hr] at h
  dsimp only at h
  rw [if_neg (by assumption)] at h
  exact Ej (AO.Bu g3) CI (h _ (up AU))
theorem lg {d:Int} {A:Ae→Rs} (hr:Dm 97 d (Ft A)) (ha:U5 99 d (Cw A)) (hF:A6 A):Dm 101 d (Dg A):=by
 intro s hm b st R hs h
 refine Aa Ac [] Tryz.func101 rfl (by decide) ?_
 unfold Dg at h
 have hm1:∀{n1 s1},Ft A s=.inr (n1,s1)→mu s1≤100000000:=fun e=>by have:=Hy hF _ _ _ e;omega
 repeat' ((conv=>whnf);first|(refine Bc ?_;intros)|(refine Be ?_ ?_<;>intro _)|refine hr s hm b _ _ hs (DC (fun n1 s1 U st1 h1=>?_) (fun e1 s1 U st1 h1=>?_))|refine ha n1 s1 (hm1 U) b _ _ h1.1 (DC (fun n2 s2 hq2 st2 h2=>?_) (fun e2 s2 hq2 st2 h2=>?_)))
 all_goals rw [U] at h
 all_goals dsimp only at h
 ·rw [hq2] at h;exact B8 rfl (h st2 (h1.trans h2))
 ·rw [hq2] at h;exact fin (h st2 (h1.trans h2)) rfl
 ·exact fin (h st1 h1) rfl
end
abbrev Er:={e:Int // e≠0}
abbrev Rv (α:Type):=Sum (Er×Ae) (α×Ae)
structure Rd (α:Type) where
 run:Ae→Rv α
 le:∀s v s',run s=.inr (v,s')→mu s'≤mu s
namespace Rd
variable {α β γ σ:Type}
theorem ext' {a b:Rd α} (h:∀s,a.run s=b.run s):a=b:=by
 obtain ⟨U,l1⟩:=a
 obtain ⟨r2,l2⟩:=b
 obtain rfl:U=r2:=funext h
 rfl
def ret (v:α):Rd α:=⟨fun s=>.inr (v,s),fun s U s' h=>by cases h;exact Nat.le_refl _⟩
def seq (m:Rd α) (k:α→Rd β):Rd β:=⟨fun s=>match m.run s with
 | .inl e=>.inl e
 | .inr p=>(k p.1).run p.2,fun s v s' h=>by
 cases U:m.run s with
 |inl e=>rw [U] at h;cases h
 |inr p=>rw [U] at h;exact Nat.le_trans ((k p.1).le _ _ _ h) (m.le _ _ _ U)⟩
def fail (e:Er):Rd α:=⟨fun s=>.inl (e,s),fun s v s' h=>by cases h⟩
def Jg (t:Ae) (e:Er):Rd α:=⟨fun _=>.inl (e,t),fun s v s' h=>by cases h⟩
def look (f:Ae→Rd α):Rd α:=⟨fun s=>(f s).run s,fun s v s' h=>(f s).le _ _ _ h⟩
def iter (body:σ→Rd (Sum σ β)) (x:σ) (s:Ae):Rv β:=
 match (body x).run s with
 | .inl e=>.inl e
 | .inr (.inr y,s')=>.inr (y,s')
 | .inr (.inl U,s')=>if mu s'<mu s then iter body U s' else .inl (⟨2,by decide⟩,s)
termination_by mu s
theorem jM (body:σ→Rd (Sum σ β)) (x:σ) (s:Ae):∀v s',iter body x s=.inr (v,s')→mu s'≤mu s:=by
 fun_induction iter body x s with
 |case1 x s e h=>intro v s' h;cases h
 |case2 x s y s1 h=>intro v s' U;cases U;exact (body x).le _ _ _ h
 |case3 x s x' s1 h hlt ih=>intro v s' U;have:=ih v s' U;omega
 |case4 x s x' s1 h hlt=>intro v s' U;cases U
def loop (body:σ→Rd (Sum σ β)) (x:σ):Rd β:=⟨iter body x,jM body x⟩
theorem eJ {body:σ→Rd (Sum σ β)} {w:σ→Nat} {w':β→Nat} {c:Nat} (h1:∀x s x' s',(body x).run s=.inr (.inl x',s')→w x'≤w x+4) (h2:∀x s y s',(body x).run s=.inr (.inr y,s')→w' y≤w x+c) (x:σ) (s:Ae):
 ∀y s',(loop body x).run s=.inr (y,s')→w' y+4*mu s'≤w x+c+4*mu s:=by
 show ∀y s',iter body x s=.inr (y,s')→_
 fun_induction iter body x s with
 |case1 x s e h=>intro y s' U;cases U
 |case2 x s y s1 h=>intro y s' U;cases U;have:=h2 _ _ _ _ h;have:=(body x).le _ _ _ h;omega
 |case3 x s x' s1 h hlt ih=>intro y s' U;have:=ih y s' U;have:=h1 _ _ _ _ h;omega
 |case4 x s x' s1 h hlt=>intro y s' U;cases U
def wp (m:Rd α) (s:Ae) (Q:α→Ae→Prop) (E:Er→Ae→Prop):Prop:=match m.run s with
 | .inl p=>E p.1 p.2
 | .inr p=>Q p.1 p.2
theorem wp_ret {v:α} {s:Ae} {Q:α→Ae→Prop} {E:Er→Ae→Prop}:wp (ret v) s Q E=Q v s:=rfl
theorem wp_seq {m:Rd α} {k:α→Rd β} {s:Ae} {Q:β→Ae→Prop} {E:Er→Ae→Prop}:wp (seq m k) s Q E=wp m s (fun v s'=>wp (k v) s' Q E) E:=by
 unfold wp seq
 dsimp only
 cases m.run s<;>rfl
theorem Ea {e:Er} {s:Ae} {Q:α→Ae→Prop} {E:Er→Ae→Prop}:wp (fail e) s Q E=E e s:=rfl
theorem Mx {e:Er} {s t:Ae} {Q:α→Ae→Prop} {E:Er→Ae→Prop}:wp (Jg t e) s Q E=E e t:=rfl
theorem Ao {f:Ae→Rd α} {s:Ae} {Q:α→Ae→Prop} {E:Er→Ae→Prop}:wp (look f) s Q E=wp (f s) s Q E:=rfl
theorem AV {c:Prop} [Decidable c] {a b:Rd α} {s:Ae} {Q:α→Ae→Prop} {E:Er→Ae→Prop}:wp (if c then a else b) s Q E=if c then wp a s Q E else wp b s Q E:=by split<;>rfl
def again (body:σ→Rd (Sum σ β)) (s:Ae) (Q:β→Ae→Prop) (E:Er→Ae→Prop):Sum σ β→Ae→Prop
 | .inr y,s'=>Q y s'
 | .inl x,s'=>if mu s'<mu s then wp (loop body x) s' Q E else E ⟨2,by decide⟩ s
theorem wp_loop {body:σ→Rd (Sum σ β)} {x:σ} {s:Ae} {Q:β→Ae→Prop} {E:Er→Ae→Prop}:wp (loop body x) s Q E=wp (body x) s (again body s Q E) E:=by
 have e:(loop body x).run s=match (body x).run s with
  | .inl e=>.inl e
  | .inr (.inr y,s')=>.inr (y,s')
  | .inr (.inl x',s')=>if mu s'<mu s then (loop body x').run s' else .inl (⟨2,by decide⟩,s):=by
  show iter body x s=_
  rw [iter]
  rfl
 unfold wp
 rw [e]
 cases hb:(body x).run s with
 |inl p=>rfl
 |inr p=>
  obtain ⟨r,s'⟩:=p
  cases r with
  |inr y=>rfl
  |inl x'=>
   dsimp only [again]
   by_cases U:mu s'<mu s
   ·rw [if_pos U,if_pos U];rfl
   ·rw [if_neg U,if_neg U]
theorem BB {body:σ→Rd (Sum σ β)} {s s':Ae} {Q:β→Ae→Prop} {E:Er→Ae→Prop} {y:β}:again body s Q E (.inr y) s'=Q y s':=rfl
theorem Ho {body:σ→Rd (Sum σ β)} {s s':Ae} {Q:β→Ae→Prop} {E:Er→Ae→Prop} {x:σ} (h:again body s Q E (.inl x) s') (U:mu s'<mu s):wp (loop body x) s' Q E:=by
 have h:if mu s'<mu s then wp (loop body x) s' Q E else E ⟨2,by decide⟩ s:=h
 rw [if_pos U] at h;exact h
theorem wp_mono {m:Rd α} {s:Ae} {Q Q':α→Ae→Prop} {E E':Er→Ae→Prop} (h:wp m s Q E) (hq:∀v s',m.run s=.inr (v,s')→Q v s'→Q' v s') (U:∀e s',m.run s=.inl (e,s')→E e s'→E' e s'):wp m s Q' E':=by
 unfold wp at h ⊢
 split at h
 ·exact U _ _ ‹_› h
 ·exact hq _ _ ‹_› h
theorem UZ {m:Rd α} {s:Ae} {Q:α→Ae→Prop} {E:Er→Ae→Prop} (hq:∀v s',m.run s=.inr (v,s')→Q v s') (U:∀e s',m.run s=.inl (e,s')→E e s'):wp m s Q E:=by
 unfold wp
 split
 ·exact U _ _ ‹_›
 ·exact hq _ _ ‹_›
def A6 (m:Rd α):Prop:=∀s v s',m.run s=.inr (v,s')→mu s'<mu s
theorem A6.seq {m:Rd α} {k:α→Rd β} (h:A6 m):A6 (seq m k):=fun s v s' e=>by
 unfold Rd.seq at e
 dsimp only at e
 split at e
 ·cases e
 ·exact Nat.lt_of_le_of_lt ((k _).le _ _ _ e) (h _ _ _ ‹_›)
theorem A6.at {m:Rd α} {k:α→Rd β} {s s':Ae} {v:β} (h:∀v s',m.run s=.inr (v,s')→mu s'<mu s) (e:(Rd.seq m k).run s=.inr (v,s')):mu s'<mu s:=by
 unfold Rd.seq at e
 dsimp only at e
 split at e
 ·cases e
 ·exact Nat.lt_of_le_of_lt ((k _).le _ _ _ e) (h _ _ ‹_›)
theorem A6.fail {e:Er}:A6 (fail e:Rd α):=fun s v s' h=>by cases h
theorem A6.Jg {t:Ae} {e:Er}:A6 (Jg t e:Rd α):=fun s v s' h=>by cases h
theorem A6.look {f:Ae→Rd α} (h:∀s v s',(f s).run s=.inr (v,s')→mu s'<mu s):A6 (look f):=fun s v s' e=>h s v s' e
theorem A6.ite {c:Prop} [Decidable c] {a b:Rd α} (U:A6 a) (h2:A6 b):A6 (if c then a else b):=by split<;>assumption
end Rd
def Qg (A:Ae→Rs) (hle:∀s v s',A s=.inr (v,s')→mu s'≤mu s):Rd Nd:=⟨fun s=>match A s with
 | .inl p=>if h:p.1=0 then .inl (⟨2,by decide⟩,p.2) else .inl (⟨p.1,h⟩,p.2)
 | .inr p=>.inr p,fun s v s' h=>by
 cases U:A s with
 |inl p=>rw [U] at h;dsimp only at h;split at h<;>cases h
 |inr p=>rw [U] at h;cases h;exact hle _ _ _ U⟩
theorem Js {A:Ae→Rs} {U:∀s v s',A s=.inr (v,s')→mu s'≤mu s} (hB:EJ A) {s s':Ae} {e:Int} (h:A s=.inl (e,s')):(Qg A U).run s=.inl (⟨e,hB _ _ _ h⟩,s'):=by
 unfold Qg
 dsimp only
 rw [h]
 dsimp only
 rw [dif_neg (hB _ _ _ h)]
theorem It {A:Ae→Rs} {U:∀s v s',A s=.inr (v,s')→mu s'≤mu s} {s:Ae} {p:Nd×Ae} (h:A s=.inr p):(Qg A U).run s=.inr p:=by
 unfold Qg
 dsimp only
 rw [h]
def A7:Rd Nd:=Qg C7 fun s v s' h=>(N3 h).1
def P2 {α:Type}:Rd α:=⟨fun s=>.inl (⟨P1 s,Nu s⟩,s),fun s v s' h=>by cases h⟩
def Cd (k:Int) (x:List UInt8):Rd Nd:=.look fun s=>if Ba s k x=true then A7 else P2
def IL (ks:List Int):Rd Nd:=.look fun s=>if ks.contains (Ad s).1.kind=true then A7 else P2
def HR:Rd Unit:=.seq A7 fun _=>.ret ()
theorem gy {s:Ae} {k:Int} {x:List UInt8} (h:Ba s k x=true) (U:k≠0):A7.run s=.inr (AJ (Ad s).1,(Ad s).2.1):=It (Gn h U)
theorem Cu {s:Ae} (h:(Ad s).2.2=0):A7.run s=.inr (AJ (Ad s).1,(Ad s).2.1):=It (by unfold C7;rw [if_pos h])
theorem LM {s:Ae} (h:¬(Ad s).2.2=0):A7.run s=.inl (⟨(Ad s).2.2,h⟩,s):=by
 have e:C7 s=.inl ((Ad s).2.2,s):=by unfold C7;rw [if_neg h]
 exact Js Hp e
theorem JD {s s':Ae} {v:Nd} (h:A7.run s=.inr (v,s')) (U:(Ad s).1.kind≠21):mu s'<mu s:=by
 by_cases e:(Ad s).2.2=0
 ·rw [Cu e] at h;cases h;exact (EI e).2 U
 ·rw [LM e] at h;cases h
theorem Ds {s:Ae} (h:(Ad s).1.kind≠0):(Ad s).2.2=0:=by
 apply Classical.byContradiction
 intro e
 rw [T7 e] at h
 exact h rfl
theorem OT {k:Int} {x:List UInt8} (U:k≠21):Rd.A6 (Cd k x):=Rd.A6.look fun s v s' h=>by
 split at h
 ·rename_i hi
  refine JD h fun e=>U ?_
  unfold Ba at hi
  simp only [Bool.and_eq_true,beq_iff_eq] at hi
  exact hi.1.symm.trans e
 ·cases h
theorem VF {ks:List Int} (U:ks.contains 21=false):Rd.A6 (IL ks):=Rd.A6.look fun s v s' h=>by
 split at h
 ·rename_i hi
  exact JD h fun e=>by rw [e,U] at hi;cases hi
 ·cases h
abbrev KR (f:FuncId) (args:List V) (st:St) (R:AM→St→Prop):Prop:=A5 Tryz.prog f args st R
def Ik (x:Int):List Int→Int→Int
 |[],_=> -1
 |y::r,i=>if x=y then i else Ik x r (i+1)
theorem O6 {x:Int}:∀{l:List Int} {i:Int},0≤i→(0≤Ik x l i↔l.contains x=true)
 |[],i,h=>by simp [Ik]
 |y::r,i,h=>by
  simp only [Ik]
  split
  ·rename_i e;subst e;simp [h]
  ·rename_i e
   rw [O6 (by omega)]
   simp [e]
theorem ec {kinds:List Int} {x:Int} {st:St} {R:AM→St→Prop} {own:AO} (h:R (.ret (.int .i64 (Ik x kinds 0))) st):KR 343 [.slice 1 (ints kinds) own,.int .i64 x] st R:=by
 refine Aa Ac [] Tryz.func343 rfl (by decide) ?_
 have hlen:(ints kinds).length=kinds.length:=by simp [ints]
 intro m hm hl
 rw [hlen] at hm
 subst hm
 conv=>whnf
 refine ⟨Nat,fun k=>{tmps:=[(8,.int .i64 k),(7,.int .i64 kinds.length),(0,.slice 1 (ints kinds) own),(1,.int .i64 x)],boxes:=[],Bt:=0,sz:=19,gl:=[]},fun _=>st,
  fun k=>k≤kinds.length∧Ik x kinds 0=Ik x (kinds.drop k) k,fun k=>kinds.length - k,0,⟨Nat.zero_le _,rfl⟩,⟨rfl,⟨rfl,rfl,rfl,rfl,rfl,rfl,rfl,rfl,trivial⟩,trivial,rfl⟩,St.le_refl _,?_⟩
 rintro k ⟨hk,hi⟩
 refine Wh (fun h1=>?_) (fun h1=>?_)
 ·have U:k<kinds.length:=by omega
  have he:(ints kinds)[(k:Int).toNat]? =some [.int .i64 kinds[k]]:=by simp [ints,U]
  refine ⟨by omega,_,he,?_⟩
  have hd:Ik x (kinds.drop k) k=if x=kinds[k] then (k:Int) else Ik x (kinds.drop (k+1)) (k+1):=by
   rw [List.drop_eq_getElem_cons U];rfl
  refine Wg (fun h2=>?_) (fun h2=>?_)
  ·exact fin h (by rw [hi,hd,if_pos h2])
  ·refine ⟨((k+1:Nat):Int),?_,?_⟩
   ·simp only [De] at hl
    rw [J9 (by omega) (by omega)];rfl
   ·refine ⟨k+1,⟨U,?_⟩,by show kinds.length - (k+1)<kinds.length - k;omega,⟨rfl,⟨rfl,rfl,rfl,rfl,rfl,rfl,rfl,rfl,trivial⟩,trivial,rfl⟩,St.le_refl _⟩
    rw [hi,hd,if_neg h2];rfl
 ·refine fin h ?_
  have:k=kinds.length:=by omega
  rw [hi,this,List.drop_length];rfl
section
variable {st:St} {R:AM→St→Prop}
theorem Tb {kinds:List Int} {x:Int} {own:AO} (h:R (.ret (.bool (kinds.contains x))) st):KR 306 [.slice 1 (ints kinds) own,.int .i64 x] st R:=by
 refine Aa Ac [] Tryz.func306 rfl (by decide) ?_
 refine ec ?_
 have key:=O6 (x:=x) (l:=kinds) (i:=0) (by omega)
 refine Wh (fun U=>?_) (fun U=>?_)
 ·exact AB h (key.1 U)
 ·refine AB h ?_
  cases hc:kinds.contains x with
  |false=>rfl
  |true=>exact absurd (key.2 hc) U
def KD (n:Nd) (kinds:List Int):Bool:=n.kind==1&&kinds.contains n.form
theorem HE {n:Nd} {kinds:List Int} {own:AO} (h:R (.ret (.bool (KD n kinds))) st):KR 260 [enc n,.slice 1 (ints kinds) own] st R:=by
 refine Aa Ac [] Tryz.func260 rfl (by decide) ?_
 unfold KD at h
 repeat' ((conv=>whnf);first|(refine Kd ?_;intros)|(refine Ke ?_ ?_<;>intro _)|refine Tb ?_)
 all_goals exact AB h (by simp_all)
def HQ (n:Nd) (k:Int) (t:List UInt8):Bool:=KD n [k]&&n.text==t
theorem IB {n:Nd} {k:Int} {t:List UInt8} (h:R (.ret (.bool (HQ n k t))) st):KR 261 [enc n,.int .i64 k,.str t] st R:=by
 refine Aa Ac [] Tryz.func261 rfl (by decide) ?_
 unfold HQ at h
 repeat' ((conv=>whnf);first|(refine Kd ?_;intros)|(refine Ke ?_ ?_<;>intro _)|refine HE (kinds:=[k]) ?_)
 all_goals exact AB h (by simp_all)
def CL (n:Nd) (o s:List UInt8):Option (List Nd):=
 if 2≤n.kids.length∧n.kids[0]?.any (HQ · 15 o)=true∧n.kids[n.kids.length - 1]?.any (HQ · 15 s)=true then some ((n.kids.take (n.kids.length - 1)).drop 1) else none
theorem HB {n:Nd} {o s:List UInt8} (hs:∀l,CL n o s=some l→R (.ret (.Bo [.slice 6 (Cs l) .any,.bool true])) st)
 (U:CL n o s=none→R (.ret (.Bo [.slice 6 [] .any,.bool false])) st):KR 256 [enc n,.str o,.str s] st R:=by
 refine Aa Ac [] Tryz.func256 rfl (by decide) ?_
 repeat' ((conv=>whnf);first|(refine Kd ?_;intros)|(refine Ke ?_ ?_<;>intro _)|refine IB ?_)
 ·exact RH (U (by simp [CL];omega)) rfl
 all_goals
  have e:((n.kids.length:Int) - 1).toNat=n.kids.length - 1:=by omega
  simp only [e,Int.toNat_zero,Int.reduceToNat] at *
  first
   |exact RH (hs _ (by simp_all [CL];omega)) rfl
   |exact RH (U (by simp_all [CL])) rfl
theorem VL {n:Nd} {o s:List UInt8} {l:List Nd} (h:CL n o s=some l):l.length+2=n.kids.length:=by
 simp only [CL] at h
 split at h
 ·rename_i g
  cases h
  simp only [List.length_drop,List.length_take];omega
 ·cases h
theorem RJ {n:Nd} {o s:List UInt8} (hs:∀l,CL n o s=some l→l.length+2=n.kids.length→R (.ret (.Bo [.slice 6 (Cs l) .any,.bool true])) st)
 (U:CL n o s=none→R (.ret (.Bo [.slice 6 [] .any,.bool false])) st):KR 256 [enc n,.str o,.str s] st R:=
 HB (fun l h=>hs l h (VL h)) U
def My:Nd:=.mk 0 0 [] 0 0 []
def NK (n:Nd):Bool:=KD n [6,8]||HQ n 10 [58]
theorem TZ {n:Nd} (h:R (.ret (.bool (NK n))) st):KR 311 [enc n] st R:=by
 refine Aa Ac [] Tryz.func311 rfl (by decide) ?_
 repeat' ((conv=>whnf);first|(refine Kd ?_;intros)|(refine Ke ?_ ?_<;>intro _)|refine HE (kinds:=[6,8]) ?_|refine IB ?_)
 all_goals conv=>whnf
 all_goals (refine AB h ?_;clear h;simp_all [NK])
def Mi (n:Nd):Option Nd:=if n.kind=3 then (match CL n [40] [41] with|some l=>if l.length=1 then l[0]? else none|none=>none) else none
theorem T3 {n:Nd} (hs:∀x,Mi n=some x→R (.ret (.Bo [enc x,.bool true])) st) (U:Mi n=none→R (.ret (.Bo [enc My,.bool false])) st):KR 304 [enc n] st R:=by
 refine Aa Ac [] Tryz.func304 rfl (by decide) ?_
 repeat' ((conv=>whnf);first|(refine Kd ?_;intros)|(refine Ke ?_ ?_<;>intro _)|refine HB (fun l hl=>?_) (fun hl=>?_))
 all_goals conv=>whnf
 all_goals first
  |exact B8 rfl (hs _ (by clear hs U;simp_all [Mi]))
  |exact B8 rfl (U (by clear hs U;simp_all [Mi]))
def FH (n:Nd):Option (List UInt8):=
 if KD n [1] then some n.text else match Mi n with|some x=>if KD x [5] then some x.text else none|none=>none
theorem KN {n:Nd} (hs:∀t,FH n=some t→R (.ret (.Bo [.str t,.bool true])) st) (U:FH n=none→R (.ret (.Bo [.str [],.bool false])) st):KR 257 [enc n] st R:=by
 refine Aa Ac [] Tryz.func257 rfl (by decide) ?_
 repeat' ((conv=>whnf);first|(refine Kd ?_;intros)|(refine Ke ?_ ?_<;>intro _)|refine T3 (fun l hl=>?_) (fun hl=>?_)|refine HE (kinds:=[1]) ?_|refine HE (kinds:=[5]) ?_)
 all_goals conv=>whnf
 all_goals first
  |exact B8 rfl (hs _ (by clear hs U;simp_all [FH]))
  |exact B8 rfl (U (by clear hs U;simp_all [FH]))
def Pc (n:Nd):Bool:=KD n [2,4]||(match Mi n with|some x=>NK x|none=>false)
theorem R3 {n:Nd} (h:R (.ret (.bool (Pc n))) st):KR 265 [enc n] st R:=by
 refine Aa Ac [] Tryz.func265 rfl (by decide) ?_
 repeat' ((conv=>whnf);first|(refine Kd ?_;intros)|(refine Ke ?_ ?_<;>intro _)|refine T3 (fun l U=>?_) (fun U=>?_)|refine HE (kinds:=[2,4]) ?_|refine TZ ?_)
 all_goals conv=>whnf
 all_goals (refine AB h ?_;clear h;simp_all [Pc])
def DG (n:Nd):Nd×Bool:=
 if n.kind=18 then (if n.kids.length=1 then ((n.kids[0]?.getD My),false) else if n.kids.length=3 then (match CL n [96] [96] with|some l=>((l[0]?.getD My),true)|none=>(My,false)) else (My,false)) else (My,false)
theorem MU {n:Nd} (h:R (.ret (.Bo [enc (DG n).1,.bool (DG n).2])) st):KR 305 [enc n] st R:=by
 refine Aa Ac [] Tryz.func305 rfl (by decide) ?_
 repeat' ((conv=>whnf);first|(refine Kd ?_;intros)|(refine Ke ?_ ?_<;>intro _)|refine RJ (fun l U hk=>?_) (fun U=>?_))
 all_goals conv=>whnf
 all_goals refine B8 ?_ h
 all_goals clear h
 all_goals simp_all [DG]
 all_goals rfl
def R4 (n:Nd):Bool:=if (DG n).2 then KD (DG n).1 [2,4] else NK (DG n).1
theorem Yo {n:Nd} (h:R (.ret (.bool (R4 n))) st):KR 312 [enc n] st R:=by
 refine Aa Ac [] Tryz.func312 rfl (by decide) ?_
 repeat' ((conv=>whnf);first|(refine Kd ?_;intros)|(refine Ke ?_ ?_<;>intro _)|refine MU ?_|refine HE (kinds:=[2,4]) ?_|refine TZ ?_)
 all_goals conv=>whnf
 all_goals (refine AB h ?_;clear h;simp_all [R4])
def On (n:Nd):Option (List UInt8):=
 if (if (DG n).2 then KD (DG n).1 [1] else KD (DG n).1 [5]) then some (DG n).1.text else none
theorem iB {n:Nd} (hs:∀t,On n=some t→R (.ret (.Bo [.str t,.bool true])) st) (U:On n=none→R (.ret (.Bo [.str [],.bool false])) st):KR 258 [enc n] st R:=by
 refine Aa Ac [] Tryz.func258 rfl (by decide) ?_
 repeat' ((conv=>whnf);first|(refine Kd ?_;intros)|(refine Ke ?_ ?_<;>intro _)|refine MU ?_|refine HE (kinds:=[1]) ?_|refine HE (kinds:=[5]) ?_)
 all_goals conv=>whnf
 all_goals first
  |exact B8 rfl (hs _ (by clear hs U;simp_all [On]))
  |exact B8 rfl (U (by clear hs U;simp_all [On]))
def C2 (f:FuncId) (p:Nd→Bool) (x:Nd):Prop:=∀(st:St) (R:AM→St→Prop),R (.ret (.bool (p x))) st→KR f [enc x] st R
def Iv (p:Nd→Bool):Bool→List Nd→Bool
 |_,[]=>true
 |b,x::r=>(if b then HQ x 15 [44] else p x)&&Iv p (!b) r
def Lz (p:Nd→Bool) (l:List Nd):Bool:=l.length % 2==1&&Iv p false l
theorem WV {p:Nd→Bool} {l:List Nd} {k:Nat} {x:Nd} (h:l[k]? =some x):
 Iv p (k % 2==1) (l.drop k)=((if k % 2=1 then HQ x 15 [44] else p x)&&Iv p ((k+1) % 2==1) (l.drop (k+1))):=by
 rw [drop_at h,Iv]
 have:(!(k % 2==1))=((k+1) % 2==1):=by
  rcases Nat.mod_two_eq_zero_or_one k with e|e
  ·have:(k+1) % 2=1:=by omega
   simp [e,this]
  ·have:(k+1) % 2=0:=by omega
   simp [e,this]
 rw [this];simp only [beq_iff_eq]
theorem Ue {l:List Nd} {f:FuncId} {p:Nd→Bool} (U:∀x ∈ l,C2 f p x) (h:R (.ret (.bool (Lz p l))) st):KR 309 [.slice 6 (Cs l) .any,.func f [] []] st R:=by
 refine Aa Ac [] Tryz.func309 rfl (by decide) ?_
 repeat' ((conv=>whnf);first|(refine Kd ?_;intros)|(refine Ke ?_ ?_<;>intro _)|refine IB ?_)
 ·conv=>whnf
  refine AB h ?_
  have:=PS.1 ‹_›
  simp [Lz,this]
 ·refine Mf 13 [11,12,1] l.length (fun k=>k≤l.length∧(Iv p false l=Iv p (k % 2==1) (l.drop k))) ⟨Nat.zero_le _,rfl⟩ Yl ?_
  rintro k ⟨hk,hi⟩
  repeat' ((conv=>whnf);first|(refine Kd ?_;intros)|(refine Ke ?_ ?_<;>intro _)|refine IB ?_|refine U _ (by assumption) _ _ ?_)
  all_goals conv=>whnf
  all_goals simp only [PS,bq,Int.toNat_natCast] at *
  all_goals try (have e:=WV (p:=p) ‹l[k]? =some _›;rw [e] at hi;clear e)
  all_goals try omega
  all_goals first
   |(refine ⟨k+1,⟨by omega,?_⟩,by omega,Yl,St.le_refl _⟩;clear h;simp_all)
   |(refine AB h ?_;clear h;simp_all [Lz])
  rw [List.drop_eq_nil_of_le (by omega)];rfl
def DQ (p:Nd→Bool):List Nd→Int→Int
 |[],_=> -1
 |y::r,i=>if p y then i else DQ p r (i+1)
theorem Jl {p:Nd→Bool}:∀{l:List Nd} {i:Int},0≤i→(0≤DQ p l i↔l.any p=true)
 |[],i,h=>by simp [DQ]
 |y::r,i,h=>by
  simp only [DQ,List.any_cons]
  split
  ·rename_i e;simp [h,e]
  ·rename_i e
   rw [Jl (by omega)]
   simp [e]
theorem RM {l:List Nd} {f:FuncId} {p:Nd→Bool} {st:St} {R:AM→St→Prop}
 (U:∀x ∈ l,C2 f p x) (h:R (.ret (.int .i64 (DQ p l 0))) st):KR 344 [.slice 6 (Cs l) .any,.func f [] []] st R:=by
 refine Aa Ac [] Tryz.func344 rfl (by decide) ?_
 repeat' ((conv=>whnf);first|(refine Kd ?_;intros)|(refine Ke ?_ ?_<;>intro _)|refine IB ?_)
 refine Mf 8 [6,7,0,1] l.length (fun k=>k≤l.length∧(DQ p l 0=DQ p (l.drop k) k)) ⟨Nat.zero_le _,rfl⟩ Yl ?_
 rintro k ⟨hk,hi⟩
 repeat' ((conv=>whnf);first|(refine Kd ?_;intros)|(refine Ke ?_ ?_<;>intro _)|refine U _ (by assumption) _ _ ?_)
 all_goals conv=>whnf
 all_goals try (have e:=drop_at ‹l[Int.toNat k]? =some _›;rw [Int.toNat_natCast] at e;rw [e,DQ] at hi;clear e)
 all_goals first
  |(refine ⟨k+1,⟨by omega,?_⟩,by omega,Yl,St.le_refl _⟩;clear h;simp_all)
  |(refine fin h ?_;clear h;simp_all;done)
  |(refine fin h ?_;rw [hi,List.drop_eq_nil_of_le (by omega)];rfl)
theorem Nh {l:List Nd} {f:FuncId} {p:Nd→Bool} (hf:∀x ∈ l,C2 f p x) (h:R (.ret (.bool (l.any p))) st):KR 307 [.slice 6 (Cs l) .any,.func f [] []] st R:=by
 refine Aa Ac [] Tryz.func307 rfl (by decide) ?_
 refine RM hf ?_
 have key:=Jl (p:=p) (l:=l) (i:=0) (by omega)
 refine Wh (fun U=>?_) (fun U=>?_)
 ·exact AB h (key.1 U)
 ·refine AB h ?_
  cases hc:l.any p with
  |false=>rfl
  |true=>exact absurd (key.2 hc) U
theorem jJ {x:Nd}:C2 308 (fun x=> !HQ x 15 [44]) x:=by
 intro st R h
 refine Aa Ac [] Tryz.func308 rfl (by decide) ?_
 repeat' ((conv=>whnf);first|(refine Kd ?_;intros)|(refine Ke ?_ ?_<;>intro _)|refine IB ?_)
 all_goals conv=>whnf
 all_goals (refine AB h ?_;clear h;simp_all)
def dZ (n:Nd):Bool:=
 (FH n).isSome||Pc n||(match CL n [91] [93] with|some l=>l.isEmpty|none=>match CL n [40] [41] with|some l=> !l.any fun x=> !HQ x 15 [44]|none=>false)
theorem mN {n:Nd} (h:R (.ret (.bool (dZ n))) st):KR 262 [enc n] st R:=by
 refine Aa Ac [] Tryz.func262 rfl (by decide) ?_
 repeat' ((conv=>whnf);first|(refine Kd ?_;intros)|(refine Ke ?_ ?_<;>intro _)|refine KN (fun l U=>?_) (fun U=>?_)|refine R3 ?_|refine HB (fun l U=>?_) (fun U=>?_)|refine Nh (fun x _=>jJ) ?_)
 all_goals conv=>whnf
 all_goals (refine AB h ?_;clear h;simp_all [dZ])
end
section
variable {st:St} {R:AM→St→Prop}
theorem KC {n:Nd} {o s:List UInt8} {l:List Nd} (h:CL n o s=some l):∀x ∈ l,x ∈ n.kids:=by
 simp only [CL] at h
 split at h
 ·cases h
  intro x U
  exact List.mem_of_mem_take (List.mem_of_mem_drop U)
 ·cases h
def Gv (p:Nd→Bool) (n:Nd) (o s:List UInt8) (least:Int) (one:Bool):Bool:=
 match CL n o s with
 |some l=>decide (2*least - 1≤(l.length:Int))&&(!one||l.length==1)&&Lz p l
 |none=>false
theorem S9 {p:Nd→Bool} {n:Nd} {o s:List UInt8} {least:Int} {one:Bool} (h0:0≤least) (h1:least≤10) (hp:∀x ∈ n.kids,C2 205 p x)
 (h:R (.ret (.bool (Gv p n o s least one))) st):KR 263 [enc n,.str o,.str s,.int .i64 least,.bool one] st R:=by
 cases one
 all_goals refine Aa Ac [] Tryz.func263 rfl (by decide) ?_
 repeat' ((conv=>whnf);first|(refine Kd ?_;intros)|(refine Ke ?_ ?_<;>intro _)|refine HB (fun l U=>?_) (fun U=>?_)|refine Ue (fun x hx=>hp x (KC (by assumption) x hx)) ?_)
 all_goals conv=>whnf
 all_goals (refine AB h ?_;clear h;simp_all [Gv])
 all_goals (intros;omega)
def Y7 (q:Nd→Bool):List Nd→Bool
 |[]=>true
 |x::r=>q x&&Y7 q r
def KY (p:Nd→Bool) (x:Nd):Bool:= !(x.kind==11)&& !(x.kind==17)&&p x
def KX (p:Nd→Bool) (l:List Nd):Bool:=Y7 (KY p) l&&decide (0<l.length)
theorem S8 {p:Nd→Bool} {l:List Nd} (U:∀x ∈ l,C2 205 p x) (h:R (.ret (.bool (KX p l))) st):KR 255 [.slice 6 (Cs l) .any] st R:=by
 refine Aa Ac [] Tryz.func255 rfl (by decide) ?_
 repeat' ((conv=>whnf);first|(refine Kd ?_;intros)|(refine Ke ?_ ?_<;>intro _)|refine IB ?_)
 refine Mf 7 [5,6,0] l.length (fun k=>k≤l.length∧Y7 (KY p) l=Y7 (KY p) (l.drop k)) ⟨Nat.zero_le _,rfl⟩ Yl ?_
 rintro k ⟨hk,hi⟩
 repeat' ((conv=>whnf);first|(refine Kd ?_;intros)|(refine Ke ?_ ?_<;>intro _)|refine U _ (by assumption) _ _ ?_)
 all_goals conv=>whnf
 all_goals try (have e:=drop_at ‹l[Int.toNat k]? =some _›;rw [Int.toNat_natCast] at e;rw [e,Y7] at hi;clear e)
 all_goals first
  |(refine ⟨k+1,⟨by omega,?_⟩,by omega,Yl,St.le_refl _⟩;clear h;simp_all [KY];done)
  |(refine AB h ?_;clear h;simp_all [KX,KY];done)
  |(refine AB h ?_;clear h;rw [List.drop_eq_nil_of_le (by omega)] at hi;simp_all [KX,Y7];done)
  |skip
def VG (p:Nd→Bool) (n:Nd):Bool:=
 n.kind==13&&n.kids.length==3&&n.kids[0]?.any (KD · [1,3])&&n.kids[1]?.any (HQ · 10 [61])&&n.kids[2]?.any p
theorem jx {p:Nd→Bool} {n:Nd} (U:∀x ∈ n.kids,C2 205 p x):C2 310 (VG p) n:=by
 intro st R h
 refine Aa Ac [] Tryz.func310 rfl (by decide) ?_
 repeat' ((conv=>whnf);first|(refine Kd ?_;intros)|(refine Ke ?_ ?_<;>intro _)|refine HE (kinds:=[1,3]) ?_|refine IB ?_|refine U _ (by assumption) _ _ ?_)
 all_goals conv=>whnf
 all_goals (refine AB h ?_;clear h;simp_all [VG])
def NT (p:Nd→Bool) (n:Nd):Bool:=
 decide (3≤n.kids.length)&&n.kids[0]?.any Pc&&(match CL (.mk 0 0 [] 0 0 (n.kids.drop 1)) [123] [125] with|some l=>l.isEmpty||Lz (VG p) l|none=>false)
theorem fF {p:Nd→Bool} {n:Nd} (hp:∀x ∈ n.kids,∀y ∈ x.kids,C2 205 p y) (h:R (.ret (.bool (NT p n))) st):KR 264 [enc n] st R:=by
 refine Aa Ac [] Tryz.func264 rfl (by decide) ?_
 repeat' ((conv=>whnf);first|(refine Kd ?_;intros)|(refine Ke ?_ ?_<;>intro _)|refine R3 ?_|refine HB (n:=.mk 0 0 [] 0 0 _) (fun l U=>?_) (fun U=>?_)|refine Ue (fun x hx=>jx (hp x (List.mem_of_mem_drop (i:=1) (l:=n.kids) (KC (n:=.mk 0 0 [] 0 0 (n.kids.drop 1)) (by assumption) x hx)))) ?_)
 all_goals conv=>whnf
 all_goals (refine AB h ?_;clear h;try simp only [Int.toNat_zero,Int.toNat_one] at *;simp_all [NT])
 all_goals first
  |omega
  |(have:¬3≤n.kids.length:=by omega
    simp [NT,this])
def HN (p:Nd→Bool):Nat→List Nd→Bool
 |2,[]=>true
 |_,[]=>false
 |0,x::r=>if x.kind=19 then HN p 1 r else (!(x.kind==17)&&p x)&&HN p 2 r
 |1,x::r=>KD x [11,12]&&HN p 2 r
 |_,x::r=>R4 x&&HN p 0 r
theorem lQ {p:Nd→Bool} {l:List Nd} {k:Nat} {x:Nd} (h:l[k]? =some x):HN p 0 (l.drop k)=if x.kind=19 then HN p 1 (l.drop (k+1)) else (!(x.kind==17)&&p x)&&HN p 2 (l.drop (k+1)):=by
 rw [drop_at h];rfl
theorem lR {p:Nd→Bool} {l:List Nd} {k:Nat} {x:Nd} (h:l[k]? =some x):HN p 1 (l.drop k)=(KD x [11,12]&&HN p 2 (l.drop (k+1))):=by
 rw [drop_at h];rfl
theorem YP {p:Nd→Bool} {l:List Nd} {k:Nat} {x:Nd} (h:l[k]? =some x):HN p 2 (l.drop k)=(R4 x&&HN p 0 (l.drop (k+1))):=by
 rw [drop_at h];rfl
theorem MW {p:Nd→Bool} {l:List Nd} {k s:Nat} (h:l.length≤k):HN p s (l.drop k)=(s==2):=by
 rw [List.drop_eq_nil_of_le h]
 match s with
 |0=>rfl
 |1=>rfl
 |2=>rfl
 |s+3=>simp [HN]
theorem pO:(0:Int).toNat=0:=rfl
theorem pP:((0:Int)+1).toNat=1:=rfl
theorem pQ:((0:Int)+1+1).toNat=2:=rfl
theorem pR {k:Nat}:((k:Int)+1).toNat=k+1:=by omega
theorem pS {k:Nat}:((k:Int)+1+1).toNat=k+2:=by omega
theorem fO {p:Nd→Bool} {l:List Nd} (U:∀x ∈ l,C2 205 p x) (h:R (.ret (.bool (HN p 0 l))) st):KR 266 [.slice 6 (Cs l) .any] st R:=by
 refine Aa Ac [] Tryz.func266 rfl (by decide) ?_
 conv=>whnf
 refine ⟨Nat,fun _=>0,fun k=>{tmps:=[(3,.int .i64 k),(0,.slice 6 (Cs l) .any)],boxes:=[],Bt:=0,sz:=57,gl:=[]},fun _=>st,
  fun k=>k≤l.length∧HN p 0 l=HN p 0 (l.drop k),fun k=>l.length - k,?_,?_⟩
 ·have hi:HN p 0 l=HN p 0 (l.drop 0):=rfl
  repeat' ((conv=>whnf);first|(refine Kd ?_;intros)|(refine Ke ?_ ?_<;>intro _)|refine HE (kinds:=[11,12]) ?_|refine Yo ?_|refine U _ (by assumption) _ _ ?_)
  all_goals conv=>whnf
  all_goals try simp only [pO,pP,pQ,pR,pS,Int.toNat_natCast,Nat.zero_add,Nat.reduceAdd] at *
  all_goals try (have e:=lQ (p:=p) ‹l[0]? =some _›;rw [e] at hi;clear e)
  all_goals (try have e1:=lR (p:=p) ‹l[1]? =some _›)
  all_goals (try have e2:=YP (p:=p) ‹l[1]? =some _›)
  all_goals (try have e3:=YP (p:=p) ‹l[2]? =some _›)
  all_goals (try have f0:=MW (p:=p) (s:=0) (l:=l) (k:=0) (by omega))
  all_goals (try have f1:=MW (p:=p) (s:=1) (l:=l) (k:=1) (by omega))
  all_goals (try have f2:=MW (p:=p) (s:=2) (l:=l) (k:=1) (by omega))
  all_goals (try have f3:=MW (p:=p) (s:=2) (l:=l) (k:=2) (by omega))
  all_goals try simp only [Nat.zero_add,Nat.reduceAdd] at *
  all_goals first
   |(refine AB h ?_;clear h;clear U;simp_all;done)
   |(refine ⟨3,(by first|trivial|rfl),⟨by omega,?_⟩,Yl,St.le_refl _⟩;clear h;clear U;simp_all;done)
   |(refine ⟨2,(by first|trivial|rfl),⟨by omega,?_⟩,Yl,St.le_refl _⟩;clear h;clear U;simp_all;done)
 ·rintro k ⟨hk,hi⟩
  refine ⟨_,rfl,?_⟩
  repeat' ((conv=>whnf);first|(refine Kd ?_;intros)|(refine Ke ?_ ?_<;>intro _)|refine HE (kinds:=[11,12]) ?_|refine Yo ?_|refine U _ (by assumption) _ _ ?_)
  all_goals conv=>whnf
  all_goals try simp only [pO,pP,pQ,pR,pS,Int.toNat_natCast,Nat.zero_add,Nat.reduceAdd] at *
  all_goals try (have e:=lQ (p:=p) ‹l[k]? =some _›;rw [e] at hi;clear e)
  all_goals (try have e1:=lR (p:=p) ‹l[k+1]? =some _›)
  all_goals (try have e2:=YP (p:=p) ‹l[k+1]? =some _›)
  all_goals (try have e3:=YP (p:=p) ‹l[k+2]? =some _›)
  all_goals (try have f0:=MW (p:=p) (s:=0) (l:=l) (k:=k) (by omega))
  all_goals (try have f1:=MW (p:=p) (s:=1) (l:=l) (k:=k+1) (by omega))
  all_goals (try have f2:=MW (p:=p) (s:=2) (l:=l) (k:=k+1) (by omega))
  all_goals (try have f3:=MW (p:=p) (s:=2) (l:=l) (k:=k+2) (by omega))
  all_goals try simp only [Nat.zero_add,Nat.reduceAdd] at *
  all_goals first
   |(refine AB h ?_;clear h;clear U;simp_all;done)
   |(refine ⟨k+3,(by first|trivial|rfl),⟨by omega,?_⟩,by omega,Yl,St.le_refl _⟩;clear h;clear U;simp_all;done)
   |(refine ⟨k+2,(by first|trivial|rfl),⟨by omega,?_⟩,by omega,Yl,St.le_refl _⟩;clear h;clear U;simp_all;done)
end
section
variable {st:St} {R:AM→St→Prop}
def Lm (p:Nd→Bool) (n:Nd):Bool:=
 if n.kind=1 then KD n [1,2,4,11,12,13,14]
 else if n.kind=14 then n.kids.length==1&&n.kids[0]?.any (HQ · 9 [95])
 else if n.kind=3 then dZ n
 else if n.kind=15 then n.kids.length==3&&n.kids[0]?.any (KD · [1])&&n.kids[1]?.any (HQ · 10 [64])&&n.kids[2]?.any p
 else if n.kind=16 then n.kids.length==2&&n.kids[0]?.any (HQ · 10 [126])&&n.kids[1]?.any p
 else if n.kind=4 then Gv p n [40] [41] 1 true
 else if n.kind=5 then Gv p n [40] [41] 2 false
 else if n.kind=6 then Gv p n [91] [93] 1 false
 else if n.kind=12 then NT p n
 else if n.kind=11 then decide (0<n.kids.length)&&n.kids[0]?.any Pc&&KX p (n.kids.drop 1)
 else if n.kind=17 then decide (1<n.kids.length)&&HN p 0 n.kids
 else false
theorem eO {p:Nd→Bool} {n:Nd} (hp:∀x,x.size<n.size→C2 205 p x):C2 205 (Lm p) n:=by
 intro st R h
 have U:∀x ∈ n.kids,C2 205 p x:=fun x hx=>hp x (EB hx)
 have hkk:∀x ∈ n.kids,∀y ∈ x.kids,C2 205 p y:=fun x hx y hy=>hp y (Nat.lt_trans (EB hy) (EB hx))
 have hd:∀x ∈ n.kids.drop 1,C2 205 p x:=fun x hx=>U x (List.mem_of_mem_drop hx)
 refine Aa Ac [] Tryz.func205 rfl (by decide) ?_
 repeat' ((conv=>whnf);first|(refine Kd ?_;intros)|(refine Ke ?_ ?_<;>intro _)|refine HE (kinds:=[1,2,4,11,12,13,14]) ?_|refine IB ?_|refine mN ?_|refine HE (kinds:=[1]) ?_|refine U _ (by assumption) _ _ ?_|refine S9 (p:=p) (by decide) (by decide) U ?_|refine fF hkk ?_|refine R3 ?_|refine S8 hd ?_|refine fO U ?_)
 all_goals conv=>whnf
 all_goals (refine AB h ?_;clear h hp U hkk hd;try simp only [Int.toNat_zero,Int.toNat_one,Int.reduceToNat] at *)
 all_goals first
  |(simp_all [Lm];done)
  |(have:1<n.kids.length:=by omega
    simp_all [Lm];done)
  |(have:¬1<n.kids.length:=by omega
    simp_all [Lm];intros;omega)
def kf:Nat→Nd→Bool
 |0,_=>false
 |k+1,n=>Lm (kf k) n
theorem size_pos (n:Nd):0<n.size:=by cases n;rw [Nd.size];omega
theorem V4:∀(k:Nat) (n:Nd),n.size≤k→C2 205 (kf k) n
 |0,n,h=>by have:=size_pos n;omega
 |k+1,n,h=>eO fun x U=>V4 k x (by omega)
def YR (p:Nd→Bool) (l:List Nd):Bool:=if l.length=1 then l[0]?.any (fun x=> !(x.kind==17)&&p x) else HN p 0 l
theorem gb {p:Nd→Bool} {l:List Nd} (U:∀x ∈ l,C2 205 p x) (h:R (.ret (.bool (YR p l))) st):KR 259 [.slice 6 (Cs l) .any] st R:=by
 refine Aa Ac [] Tryz.func259 rfl (by decide) ?_
 repeat' ((conv=>whnf);first|(refine Kd ?_;intros)|(refine Ke ?_ ?_<;>intro _)|refine U _ (by assumption) _ _ ?_|refine fO U ?_)
 all_goals conv=>whnf
 all_goals (refine AB h ?_;clear h U;try simp only [Int.toNat_zero,Int.toNat_one,Int.reduceToNat] at *)
 all_goals first
  |(simp_all [YR];done)
  |skip
def Gr (p:Nd→Bool) (l:List Nd):Nat→List Nd→List UInt8×Bool
 |_,[]=>([],false)
 |i,x::r=>match On x with
  |some t=>(t,YR p (l.take i)&&YR p (l.drop (i+1)))
  |none=>Gr p l (i+1) r
def CY (p:Nd→Bool) (q:Nd→List UInt8×Bool) (n:Nd):List UInt8×Bool:=
 if n.kind=11 then
  if 2≤n.kids.length then (if KX p (n.kids.drop 1) then (match n.kids[0]? with
   |none=>([],false)
   |some f=>if f.kind=4 then (match CL f [40] [41] with|some l=>if l.length=1 then (match l[0]? with|some x=>q x|none=>([],false)) else ([],false)|none=>([],false))
    else match FH f with|some t=>(t,true)|none=>([],false)) else ([],false)) else ([],false)
 else if n.kind=17 then Gr p n.kids 0 n.kids
 else ([],false)
theorem dQ {f:List UInt8×Bool} {t:List UInt8} {b:Bool} (h:f=(t,b)):AM.ret (.Bo [.str f.1,.bool f.2])=(AM.ret (.Bo [.str t,.bool b])).wk:=by subst h;rfl
def U6 (q:Nd→List UInt8×Bool) (x:Nd):Prop:=∀(st:St) (R:AM→St→Prop),R (.ret (.Bo [.str (q x).1,.bool (q x).2])) st→KR 204 [enc x] st R
theorem P9 {p:Nd→Bool} {q:Nd→List UInt8×Bool} {n:Nd} (hp:∀x,x.size<n.size→C2 205 p x) (hq:∀x,x.size<n.size→U6 q x):U6 (CY p q) n:=by
 intro st R h
 have hk:∀x ∈ n.kids,C2 205 p x:=fun x U=>hp x (EB U)
 have hd:∀x ∈ n.kids.drop 1,C2 205 p x:=fun x U=>hk x (List.mem_of_mem_drop U)
 refine Aa Ac [] Tryz.func204 rfl (by decide) ?_
 repeat' ((conv=>whnf);first|(refine Kd ?_;intros)|(refine Ke ?_ ?_<;>intro _)|refine S8 hd ?_|refine HB (fun l hl=>?_) (fun hl=>?_)|refine KN (fun l hl=>?_) (fun hl=>?_)|refine hq _ (Nat.lt_trans (EB (KC (by assumption) _ (by assumption))) (EB (by assumption))) _ _ ?_)
 all_goals try (refine Ll 63 [1,61,62] [0] n.kids.length (fun k=>k≤n.kids.length∧Gr p n.kids 0 n.kids=Gr p n.kids k (n.kids.drop k)) ⟨Nat.zero_le _,rfl⟩ Yl ?_;rintro k ⟨hkl,hi⟩)
 repeat' ((conv=>whnf);first|(refine Kd ?_;intros)|(refine Ke ?_ ?_<;>intro _)|refine iB (fun l hl=>?_) (fun hl=>?_)|refine gb (fun x U=>hk x (List.mem_of_mem_take (List.mem_of_mem_drop U))) ?_|refine gb (fun x U=>hk x (List.mem_of_mem_drop U)) ?_)
 all_goals conv=>whnf
 all_goals first
  |refine B8 ?_ h
  |(refine ⟨k+1,⟨by omega,?_⟩,by omega,Yl,St.le_refl _⟩)
  |skip
 all_goals clear h hp hq hk hd
 all_goals try (have e:=drop_at ‹n.kids[Int.toNat k]? =some _›;rw [Int.toNat_natCast] at e;rw [e,Gr] at hi;clear e)
 all_goals try simp only [Int.toNat_zero,Int.toNat_one,Int.reduceToNat,Int.toNat_natCast] at *
 all_goals first
  |(simp_all;done)
  |refine dQ ?_
 ·have:¬2≤n.kids.length:=by omega
  simp [CY, *]
 all_goals try have g:2≤n.kids.length:=by omega
 ·rename_i x _ _ y _ _ _
  have e:CY p q n=q y:=by simp_all [CY]
  rw [e];exact Prod.ext rfl ‹_›
 ·rename_i x _ _ y _ _ _
  have e:CY p q n=q y:=by simp_all [CY]
  rw [e];exact Prod.ext rfl ‹_›
 all_goals try (rw [List.drop_eq_nil_of_le (by omega),Gr] at hi)
 all_goals simp_all [CY]
def jB:Nat→Nd→List UInt8×Bool
 |0,_=>([],false)
 |k+1,n=>CY (kf k) (jB k) n
theorem O1:∀(k:Nat) (n:Nd),n.size≤k→U6 (jB k) n
 |0,n,h=>by have:=size_pos n;omega
 |k+1,n,h=>P9 (fun x U=>V4 k x (by omega)) fun x U=>O1 k x (by omega)
end
section
variable {st:St} {R:AM→St→Prop}
def Kn (n:Nd):Bool:=kf n.size n
theorem V3 {n:Nd}:C2 205 Kn n:=fun st R h=>V4 n.size n (Nat.le_refl _) st R h
def Vo (n:Nd):Int:=if Kn n then 0 else 120
theorem cG {n:Nd} (h:R (.ret (.int .i64 (Vo n))) st):KR 173 [enc n] st R:=by
 refine Aa Ac [] Tryz.func173 rfl (by decide) ?_
 repeat' ((conv=>whnf);first|(refine Kd ?_;intros)|(refine Ke ?_ ?_<;>intro _)|refine V3 _ _ ?_)
 all_goals conv=>whnf
 all_goals (refine fin h ?_;clear h;simp_all [Vo])
def eF (n:Nd):Int×List UInt8×Int:=
 if (jB n.size n).2 then (1,(jB n.size n).1,0) else if Kn n then (2,[],0) else (0,[],120)
theorem dS {f:Int×List UInt8×Int} {t:List UInt8} {b c:Int} (h:f=(b,t,c)):AM.ret (.Bo [.int .i64 f.1,.str f.2.1,.int .i64 f.2.2])=(AM.ret (.Bo [.int .i64 b,.str t,.int .i64 c])).wk:=by subst h;rfl
theorem oK {n:Nd} (h:R (.ret (.Bo [.int .i64 (eF n).1,.str (eF n).2.1,.int .i64 (eF n).2.2])) st):KR 139 [enc n] st R:=by
 refine Aa Ac [] Tryz.func139 rfl (by decide) ?_
 repeat' ((conv=>whnf);first|(refine Kd ?_;intros)|(refine Ke ?_ ?_<;>intro _)|refine O1 _ n (Nat.le_refl _) _ _ ?_|refine V3 _ _ ?_)
 all_goals conv=>whnf
 all_goals (refine B8 ?_ h;clear h;refine dS ?_;simp_all [eF])
def FD (q:Nd→List (List UInt8)) (field:Bool):Nat→List Nd→List (List UInt8)
 |_,[]=>[]
 |i,x::r=>(if 0<i∨field=false then q x else [])++FD q field (i+1) r
def CF (q:Nd→List (List UInt8)) (n:Nd):List (List UInt8):=
 match FH n with
 |some s=>[s]
 |none=>if n.kind=18∨n.kind=19 then [] else FD q (n.kind==13) 0 n.kids
def U7 (q:Nd→List (List UInt8)) (x:Nd):Prop:=∀(l:List (List UInt8)) (own:AO) (st:St) (R:AM→St→Prop),l.length+(q x).length≤1000000000→own.Bn st→
 (∀U:AO,U.Bn st→R (.ret (.slice 1 (strs (l++q x)) U)) (U.st st (l++q x).length))→KR 301 [.slice 1 (strs l) own,enc x] (own.st st l.length) R
attribute [local irreducible] Go.Aw.Ai
theorem V6 {q:Nd→List (List UInt8)} {n:Nd} (hq:∀x,x.size<n.size→U7 q x):U7 (CF q) n:=by
 intro l own st R hb ho h
 refine Aa Ac [] Tryz.func301 rfl (by decide) ?_
 repeat' ((conv=>whnf);first|(refine Kd ?_;intros)|(refine Ke ?_ ?_<;>intro _)|refine KN (fun t ht=>?_) (fun ht=>?_)|refine M7 (new:=[_]) ho ?_ (fun own' ho'=>?_))
 ·have e:CF q n=[t]:=by simp [CF,ht]
  rw [e] at hb;exact hb
 ·conv=>whnf
  have e:CF q n=[t]:=by simp [CF,ht]
  rw [e] at h
  exact fin (h own' ho') rfl
 ·conv=>whnf
  have e:CF q n=[]:=by simp [CF, *]
  rw [e,List.append_nil] at h
  exact fin (h own ho) rfl
 ·conv=>whnf
  have e:CF q n=[]:=by simp [CF, *]
  rw [e,List.append_nil] at h
  exact fin (h own ho) rfl
 ·have e:CF q n=FD q (n.kind==13) 0 n.kids:=by simp [CF, *]
  rw [e] at h hb
  conv=>whnf
  refine R1 (α:=Nat×AO×List (List UInt8)) (fun x=>[(31,.int .i64 (x.1:Int)),(0,.slice 1 (strs x.2.2) x.2.1)]) [3,29,30] [0] (fun x=>AO.st st x.2.2.length x.2.1)
   (fun x=>x.1≤n.kids.length∧AO.Bn st x.2.1∧l++FD q (n.kind==13) 0 n.kids=x.2.2++FD q (n.kind==13) x.1 (n.kids.drop x.1)) (fun x=>n.kids.length - x.1) (0,own,l) ⟨Nat.zero_le _,ho,rfl⟩ Yl (St.le_refl _) ?_
  rintro ⟨k,own1,U⟩ ⟨hk,ho1,hi⟩
  simp only at hk ho1 hi
  have hlen:=congrArg List.length hi
  simp only [List.length_append] at hlen
  repeat' ((conv=>whnf);first|(refine Kd ?_;intros)|(refine Ke ?_ ?_<;>intro _)|refine hq _ (EB (by assumption)) U own1 st _ ?_ ho1 (fun own2 ho2=>?_))
  all_goals try conv=>whnf
  all_goals try (have e:=drop_at ‹n.kids[_]? =some _›;simp only [Int.toNat_natCast] at e;rw [e,FD] at hi hlen;clear e)
  all_goals simp only [Int.toNat_natCast] at *
  ·rw [if_pos (.inl (by omega))] at hlen
   rw [List.length_append] at hlen
   show U.length+_≤1000000000
   omega
  ·refine ⟨(k+1,own2,U++_),⟨by show k+1≤_;omega,ho2,?_⟩,by show _ - (k+1)<_ - k;omega,Yl,St.le_refl _⟩
   rw [if_pos (.inl (by omega))] at hi
   rw [hi,List.append_assoc]
  ·refine ⟨(k+1,own1,U),⟨by show k+1≤_;omega,ho1,?_⟩,by show _ - (k+1)<_ - k;omega,Yl,St.le_refl _⟩
   rw [if_neg (by rintro (g|g)<;>first|omega|simp_all)] at hi
   rw [hi];rfl
  ·have g:(n.kind==13)=false:=by simp_all
   rw [if_pos (.inr g),List.length_append] at hlen
   show U.length+_≤1000000000
   omega
  ·refine ⟨(k+1,own2,U++_),⟨by show k+1≤_;omega,ho2,?_⟩,by show _ - (k+1)<_ - k;omega,Yl,St.le_refl _⟩
   have g:(n.kind==13)=false:=by simp_all
   rw [if_pos (.inr g)] at hi
   rw [hi,List.append_assoc]
  ·rw [List.drop_eq_nil_of_le (by omega),FD,List.append_nil] at hi
   rw [hi] at h
   exact fin (h own1 ho1) rfl
def Hi:Nat→Nd→List (List UInt8)
 |0,_=>[]
 |k+1,n=>CF (Hi k) n
theorem T4:∀(k:Nat) (n:Nd),n.size≤k→U7 (Hi k) n
 |0,n,h=>by have:=size_pos n;omega
 |k+1,n,h=>V6 fun x U=>T4 k x (by omega)
def F9 (n:Nd):List (List UInt8)×Int:=if Kn n then (Hi n.size n,0) else ([],120)
theorem aq {n:Nd} (hb:(Hi n.size n).length≤1000000000) (h:R (.ret (.Bo [.slice 1 (strs (F9 n).1) .any,.int .i64 (F9 n).2])) st):KR 251 [enc n] st R:=by
 refine Aa Ac [] Tryz.func251 rfl (by decide) ?_
 repeat' ((conv=>whnf);first|(refine Kd ?_;intros)|(refine Ke ?_ ?_<;>intro _)|refine V3 _ _ ?_|refine T4 _ n (Nat.le_refl _) [] .full st _ ?_ trivial (fun own2 U=>?_))
 all_goals try conv=>whnf
 ·show 0+_≤_
  omega
 ·have e:F9 n=(Hi n.size n,0):=by simp_all [F9]
  rw [e] at h
  exact ⟨_,st,.inr rfl,AO.Bu U,h⟩
 ·have e:F9 n=([],120):=by simp_all [F9]
  rw [e] at h
  exact B8 rfl h
end
theorem Pn {q:Nd→List (List UInt8)} {b:Bool}:∀{l:List Nd} {i:Nat},(∀x ∈ l,(q x).length≤x.size)→(FD q b i l).length≤C6 l
 |[],_,_=>by simp [FD,C6]
 |x::r,i,h=>by
  have:=Pn (b:=b) (l:=r) (i:=i+1) fun y hy=>h y (List.mem_cons_of_mem _ hy)
  have:=h x List.mem_cons_self
  rw [FD,List.length_append,C6]
  split
  ·omega
  ·simp only [List.length_nil];omega
theorem Po:∀{k:Nat} {n:Nd},(Hi k n).length≤n.size
 |0,n=>Nat.zero_le _
 |k+1,n=>by
  rw [Hi,CF]
  have:=size_pos n
  split
  ·simp only [List.length_cons,List.length_nil];omega
  ·split
   ·simp
   ·have:=Pn (b:=n.kind==13) (l:=n.kids) (i:=0) (q:=Hi k) fun x _=>Po
    cases n with
    |mk a b c d e ks=>rw [Nd.size];show (FD _ _ 0 ks).length≤_;have:(FD (Hi k) (a==13) 0 ks).length≤C6 ks:=this;show (FD (Hi k) (a==13) 0 ks).length≤_;omega
section
variable {st:St} {R:AM→St→Prop}
theorem eQ {n:Nd} (U:n.size≤1000000000) (h:R (.ret (.Bo [.slice 1 (strs (F9 n).1) .any,.int .i64 (F9 n).2])) st):KR 251 [enc n] st R:=
 aq (Nat.le_trans Po U) h
theorem dt {k f:Int} {t:List UInt8} {l c:Int} {ks:List Nd}:enc (.mk k f t l c ks)=.agg [.int .i64 k,.int .i64 f,.str t,.int .i64 l,.int .i64 c,.slice 6 (ks.map A3) .any]:=by
 rw [enc,A3,BN];rfl
end
end Go.Proofs.YtkidoddkbhchkaaGreatDoor
namespace Go.Proofs
open Go.Shelf
open Go.RowKit in
open Go.RowKit in
def Tryz.TQ:Go.Shelf.Ren:=⟨fun|160=>150|232=>220|231=>219|227=>221|234=>223|233=>222|236=>225|235=>224|228=>273|271=>275|151=>274|197=>82|120=>320|152=>319|260=>148|137=>346|119=>347|224=>330|225=>329|217=>328|266=>351|n=>n,fun|9=>9|4=>4|3=>3|5=>5|117=>190|116=>189|0=>0|124=>193|21=>21|105=>100|46=>183|119=>182|139=>186|138=>185|n=>n,fun|3=>0|4=>1|n=>n⟩
theorem Tryz.jQ:Go.Proofs.Lays.n160 Tryz.prog Tryz.TQ:={
 mixed:=by kernel_rfl
 f119:=Tryz.func347.trans (congrArg some (by kernel_rfl))
 f120:=Tryz.func320.trans (congrArg some (by kernel_rfl))
 f137:=Tryz.func346.trans (congrArg some (by kernel_rfl))
 f151:=Tryz.func274.trans (congrArg some (by kernel_rfl))
 f152:=Tryz.func319.trans (congrArg some (by kernel_rfl))
 f160:=Tryz.func150.trans (congrArg some (by kernel_rfl))
 f197:=Tryz.func82.trans (congrArg some (by kernel_rfl))
 f217:=Tryz.func328.trans (congrArg some (by kernel_rfl))
 f224:=Tryz.func330.trans (congrArg some (by kernel_rfl))
 f225:=Tryz.func329.trans (congrArg some (by kernel_rfl))
 f227:=Tryz.func221.trans (congrArg some (by kernel_rfl))
 f228:=Tryz.func273.trans (congrArg some (by kernel_rfl))
 f231:=Tryz.func219.trans (congrArg some (by kernel_rfl))
 f232:=Tryz.func220.trans (congrArg some (by kernel_rfl))
 f233:=Tryz.func222.trans (congrArg some (by kernel_rfl))
 f234:=Tryz.func223.trans (congrArg some (by kernel_rfl))
 f235:=Tryz.func224.trans (congrArg some (by kernel_rfl))
 f236:=Tryz.func225.trans (congrArg some (by kernel_rfl))
 f260:=Tryz.func148.trans (congrArg some (by kernel_rfl))
 f266:=Tryz.func351.trans (congrArg some (by kernel_rfl))
 f271:=Tryz.func275.trans (congrArg some (by kernel_rfl))
 t0:=Tryz.underlying0
 a0:=Tryz.isAgg0
 z0:=Tryz.sizeOf0
 v0:=Tryz.zeroValue0
 t3:=Tryz.underlying3
 a3:=Tryz.isAgg3
 z3:=Tryz.sizeOf3
 v3:=Tryz.zeroValue3
 t4:=Tryz.underlying4
 a4:=Tryz.isAgg4
 z4:=Tryz.sizeOf4
 v4:=Tryz.zeroValue4
 t5:=Tryz.underlying5
 a5:=Tryz.isAgg5
 z5:=Tryz.sizeOf5
 v5:=Tryz.zeroValue5
 t9:=Tryz.underlying9
 a9:=Tryz.isAgg9
 z9:=Tryz.sizeOf9
 v9:=Tryz.zeroValue9
 t21:=Tryz.underlying21
 a21:=Tryz.isAgg21
 z21:=Tryz.sizeOf21
 v21:=Tryz.zeroValue21
 t46:=Tryz.underlying183
 a46:=Tryz.isAgg183
 z46:=Tryz.sizeOf183
 v46:=Tryz.zeroValue183
 t105:=Tryz.underlying100
 a105:=Tryz.isAgg100
 z105:=Tryz.sizeOf100
 v105:=Tryz.zeroValue100
 t116:=Tryz.underlying189
 a116:=Tryz.isAgg189
 z116:=Tryz.sizeOf189
 t117:=Tryz.underlying190
 a117:=Tryz.isAgg190
 z117:=Tryz.sizeOf190
 v117:=Tryz.zeroValue190
 t119:=Tryz.underlying182
 a119:=Tryz.isAgg182
 z119:=Tryz.sizeOf182
 t124:=Tryz.underlying193
 a124:=Tryz.isAgg193
 z124:=Tryz.sizeOf193
 v124:=Tryz.zeroValue193
 t138:=Tryz.underlying185
 a138:=Tryz.isAgg185
 z138:=Tryz.sizeOf185
 v138:=Tryz.zeroValue185
 t139:=Tryz.underlying186
 a139:=Tryz.isAgg186
 z139:=Tryz.sizeOf186
 v139:=Tryz.zeroValue186
 g3:=by kernel_rfl
 g4:=by kernel_rfl}
open Go.RowKit in
theorem Tryz.strings_Trim_one (s:ByteArray) (c:UInt8) (hc:c.toNat<128) (w:World) (U:s.size≤9223372036854775807):
 Calls Tryz.prog 150 #[.string s,.string ⟨#[c]⟩] w fun e w'=>e=.returned (.string ⟨(Lib.trimB s.data.toList c).toArray⟩)∧(w'=w∨w'=w.drew):=Any.strings_Trim_one Tryz.jQ s c hc w U
def Tryz.TN:Go.Shelf.Ren:=⟨fun|137=>346|217=>328|266=>351|n=>n,fun|9=>9|5=>5|3=>3|n=>n,fun|n=>n⟩
theorem Tryz.jN:Go.Proofs.Lays.n137 Tryz.prog Tryz.TN:={
 mixed:=by kernel_rfl
 f137:=Tryz.func346.trans (congrArg some (by kernel_rfl))
 f217:=Tryz.func328.trans (congrArg some (by kernel_rfl))
 f266:=Tryz.func351.trans (congrArg some (by kernel_rfl))
 t3:=Tryz.underlying3
 a3:=Tryz.isAgg3
 z3:=Tryz.sizeOf3
 v3:=Tryz.zeroValue3
 t5:=Tryz.underlying5
 a5:=Tryz.isAgg5
 z5:=Tryz.sizeOf5
 v5:=Tryz.zeroValue5
 t9:=Tryz.underlying9
 a9:=Tryz.isAgg9
 z9:=Tryz.sizeOf9
 v9:=Tryz.zeroValue9}
open Go.RowKit in
theorem Tryz.strings_IndexByte (s:ByteArray) (c:Int) (w:World):
 Calls Tryz.prog 346 #[.string s,.int .u8 c] w fun e w'=>e=.returned (.int .i64 (Lib.indexByte s.data.toList c.toNat.toUInt8))∧w'=w:=Any.strings_IndexByte Tryz.jN s c w
def Tryz.TO:Go.Shelf.Ren:=⟨fun|144=>157|143=>231|219=>285|217=>328|225=>329|224=>330|267=>331|266=>351|314=>352|n=>n,fun|9=>9|4=>4|3=>3|5=>5|46=>183|146=>254|51=>253|n=>n,fun|1=>2|n=>n⟩
theorem Tryz.jO:Go.Proofs.Lays.n144 Tryz.prog Tryz.TO:={
 mixed:=by kernel_rfl
 f143:=Tryz.func231.trans (congrArg some (by kernel_rfl))
 f144:=Tryz.func157.trans (congrArg some (by kernel_rfl))
 f217:=Tryz.func328.trans (congrArg some (by kernel_rfl))
 f219:=Tryz.func285.trans (congrArg some (by kernel_rfl))
 f224:=Tryz.func330.trans (congrArg some (by kernel_rfl))
 f225:=Tryz.func329.trans (congrArg some (by kernel_rfl))
 f266:=Tryz.func351.trans (congrArg some (by kernel_rfl))
 f267:=Tryz.func331.trans (congrArg some (by kernel_rfl))
 f314:=Tryz.func352.trans (congrArg some (by kernel_rfl))
 t3:=Tryz.underlying3
 a3:=Tryz.isAgg3
 z3:=Tryz.sizeOf3
 v3:=Tryz.zeroValue3
 t4:=Tryz.underlying4
 a4:=Tryz.isAgg4
 z4:=Tryz.sizeOf4
 v4:=Tryz.zeroValue4
 t5:=Tryz.underlying5
 a5:=Tryz.isAgg5
 z5:=Tryz.sizeOf5
 v5:=Tryz.zeroValue5
 t9:=Tryz.underlying9
 a9:=Tryz.isAgg9
 z9:=Tryz.sizeOf9
 v9:=Tryz.zeroValue9
 t46:=Tryz.underlying183
 a46:=Tryz.isAgg183
 z46:=Tryz.sizeOf183
 v46:=Tryz.zeroValue183
 t51:=Tryz.underlying253
 a51:=Tryz.isAgg253
 z51:=Tryz.sizeOf253
 v51:=Tryz.zeroValue253
 t146:=Tryz.underlying254
 a146:=Tryz.isAgg254
 z146:=Tryz.sizeOf254
 v146:=Tryz.zeroValue254
 g1:=by kernel_rfl}
open Go.RowKit Go.Lib in
theorem Tryz.strings_Contains (s sub:ByteArray) (m:Int) (w:World) (hs:s.size<4294967281) (U:w.cell? ⟨2,0,none⟩=some (.int .i64 m)):
 Calls Tryz.prog 157 #[.string s,.string sub] w fun e w'=>e=.returned (.bool (Lib.contains s.data.toList sub.data.toList))∧w'=w:=Any.strings_Contains Tryz.jO s sub m w hs U
def Tryz.RU:Go.Shelf.Ren:=⟨fun|15=>41|20=>83|n=>n,fun|9=>9|23=>58|3=>3|4=>4|0=>0|21=>21|n=>n,fun|n=>n⟩
theorem Tryz.eo:Go.Proofs.LaysGw.n15 Tryz.prog Tryz.RU:={
 mixed:=by kernel_rfl
 f15:=Tryz.func41.trans (congrArg some (by kernel_rfl))
 f20:=Tryz.func83.trans (congrArg some (by kernel_rfl))
 t0:=Tryz.underlying0
 a0:=Tryz.isAgg0
 z0:=Tryz.sizeOf0
 v0:=Tryz.zeroValue0
 i0:=by kernel_rfl
 t3:=Tryz.underlying3
 a3:=Tryz.isAgg3
 z3:=Tryz.sizeOf3
 v3:=Tryz.zeroValue3
 i3:=by kernel_rfl
 t4:=Tryz.underlying4
 a4:=Tryz.isAgg4
 z4:=Tryz.sizeOf4
 v4:=Tryz.zeroValue4
 i4:=by kernel_rfl
 t9:=Tryz.underlying9
 a9:=Tryz.isAgg9
 z9:=Tryz.sizeOf9
 v9:=Tryz.zeroValue9
 i9:=by kernel_rfl
 t21:=Tryz.underlying21
 a21:=Tryz.isAgg21
 z21:=Tryz.sizeOf21
 v21:=Tryz.zeroValue21
 i21:=by kernel_rfl
 t23:=Tryz.underlying58
 a23:=Tryz.isAgg58
 z23:=Tryz.sizeOf58
 v23:=Tryz.zeroValue58
 i23:=by kernel_rfl}
def Tryz.VU:Go.Shelf.Ren:=⟨fun|99=>87|206=>149|n=>n,fun|9=>9|4=>4|3=>3|n=>n,fun|n=>n⟩
theorem Tryz.mT:Go.Proofs.Lays.n99 Tryz.prog Tryz.VU:={
 mixed:=by kernel_rfl
 f99:=Tryz.func87.trans (congrArg some (by kernel_rfl))
 f206:=Tryz.func149.trans (congrArg some (by kernel_rfl))
 t3:=Tryz.underlying3
 a3:=Tryz.isAgg3
 z3:=Tryz.sizeOf3
 v3:=Tryz.zeroValue3
 t4:=Tryz.underlying4
 a4:=Tryz.isAgg4
 z4:=Tryz.sizeOf4
 v4:=Tryz.zeroValue4
 t9:=Tryz.underlying9
 a9:=Tryz.isAgg9
 z9:=Tryz.sizeOf9
 v9:=Tryz.zeroValue9}
open Go.RowKit Go.Lib in
theorem Tryz.strings_HasPrefix (s p:ByteArray) (w:World):
 Calls Tryz.prog 87 #[.string s,.string p] w fun e w'=>e=.returned (.bool (Lib.hasPrefix s.data.toList p.data.toList))∧w'=w:=Any.strings_HasPrefix Tryz.mT s p w
def Tryz.TP:Go.Shelf.Ren:=⟨fun|157=>358|229=>359|199=>360|261=>361|311=>362|312=>363|n=>n,fun|9=>9|31=>74|3=>3|5=>5|4=>4|119=>182|0=>0|40=>58|152=>264|21=>21|154=>266|51=>253|141=>268|196=>272|193=>269|198=>275|49=>273|194=>270|201=>278|226=>280|46=>183|227=>281|n=>n,fun|0=>3|6=>4|n=>n⟩
theorem Tryz.jP:Go.Proofs.Lays.n157 Tryz.prog Tryz.TP:={
 mixed:=by kernel_rfl
 f157:=Tryz.func358.trans (congrArg some (by kernel_rfl))
 f199:=Tryz.func360.trans (congrArg some (by kernel_rfl))
 f229:=Tryz.func359.trans (congrArg some (by kernel_rfl))
 f261:=Tryz.func361.trans (congrArg some (by kernel_rfl))
 f311:=Tryz.func362.trans (congrArg some (by kernel_rfl))
 f312:=Tryz.func363.trans (congrArg some (by kernel_rfl))
 t0:=Tryz.underlying0
 a0:=Tryz.isAgg0
 z0:=Tryz.sizeOf0
 v0:=Tryz.zeroValue0
 t3:=Tryz.underlying3
 a3:=Tryz.isAgg3
 z3:=Tryz.sizeOf3
 v3:=Tryz.zeroValue3
 t4:=Tryz.underlying4
 a4:=Tryz.isAgg4
 z4:=Tryz.sizeOf4
 v4:=Tryz.zeroValue4
 t5:=Tryz.underlying5
 a5:=Tryz.isAgg5
 z5:=Tryz.sizeOf5
 v5:=Tryz.zeroValue5
 t9:=Tryz.underlying9
 a9:=Tryz.isAgg9
 z9:=Tryz.sizeOf9
 v9:=Tryz.zeroValue9
 t21:=Tryz.underlying21
 a21:=Tryz.isAgg21
 z21:=Tryz.sizeOf21
 v21:=Tryz.zeroValue21
 t31:=Tryz.underlying74
 a31:=Tryz.isAgg74
 z31:=Tryz.sizeOf74
 v31:=Tryz.zeroValue74
 t40:=Tryz.underlying58
 a40:=Tryz.isAgg58
 z40:=Tryz.sizeOf58
 v40:=Tryz.zeroValue58
 t46:=Tryz.underlying183
 a46:=Tryz.isAgg183
 z46:=Tryz.sizeOf183
 v46:=Tryz.zeroValue183
 t49:=Tryz.underlying273
 a49:=Tryz.isAgg273
 z49:=Tryz.sizeOf273
 v49:=Tryz.zeroValue273
 t51:=Tryz.underlying253
 a51:=Tryz.isAgg253
 z51:=Tryz.sizeOf253
 v51:=Tryz.zeroValue253
 t119:=Tryz.underlying182
 a119:=Tryz.isAgg182
 z119:=Tryz.sizeOf182
 t141:=Tryz.underlying268
 a141:=Tryz.isAgg268
 z141:=Tryz.sizeOf268
 v141:=Tryz.zeroValue268
 t152:=Tryz.underlying264
 a152:=Tryz.isAgg264
 z152:=Tryz.sizeOf264
 v152:=Tryz.zeroValue264
 t154:=Tryz.underlying266
 a154:=Tryz.isAgg266
 z154:=Tryz.sizeOf266
 v154:=Tryz.zeroValue266
 t193:=Tryz.underlying269
 a193:=Tryz.isAgg269
 z193:=Tryz.sizeOf269
 v193:=Tryz.zeroValue269
 t194:=Tryz.underlying270
 a194:=Tryz.isAgg270
 z194:=Tryz.sizeOf270
 v194:=Tryz.zeroValue270
 t196:=Tryz.underlying272
 a196:=Tryz.isAgg272
 z196:=Tryz.sizeOf272
 v196:=Tryz.zeroValue272
 t198:=Tryz.underlying275
 a198:=Tryz.isAgg275
 z198:=Tryz.sizeOf275
 v198:=Tryz.zeroValue275
 t201:=Tryz.underlying278
 a201:=Tryz.isAgg278
 z201:=Tryz.sizeOf278
 v201:=Tryz.zeroValue278
 t226:=Tryz.underlying280
 a226:=Tryz.isAgg280
 z226:=Tryz.sizeOf280
 v226:=Tryz.zeroValue280
 t227:=Tryz.underlying281
 a227:=Tryz.isAgg281
 z227:=Tryz.sizeOf281
 v227:=Tryz.zeroValue281
 g0:=by kernel_rfl
 g6:=by kernel_rfl}
open Go.RowKit Go.Lib in
theorem Tryz.strings_Fields (s : ByteArray) (w : World) (hs : s.size < 4294967281) (U : ∀ (j : Nat) b, s.data.toList[j]? = some b → b.toNat < 128) (htab : Lib.TabIs Tryz.prog w "strings.asciiSpace" .u8 Lib.asciiSpaceTab) :
 Calls Tryz.prog 358 #[.string s] w fun e w'=>
  e=.returned (.slice (some ⟨w.heap.size,0,none⟩) (Lib.fields s.data.toList).length (Lib.fields s.data.toList).length)∧w'=w.alloc (.cells ((Lib.fields s.data.toList).map fun l=>Value.string ⟨l.toArray⟩).toArray 9):=Any.strings_Fields Tryz.jP (by kernel_rfl) (by kernel_rfl) s w hs U htab
def Tryz.TR:Go.Shelf.Ren:=⟨fun|197=>82|260=>148|n=>n,fun|9=>9|21=>21|3=>3|4=>4|5=>5|105=>100|119=>182|0=>0|46=>183|139=>186|138=>185|n=>n,fun|3=>0|4=>1|n=>n⟩
theorem Tryz.jR:Go.Proofs.Lays.n197 Tryz.prog Tryz.TR:={
 mixed:=by kernel_rfl
 f197:=Tryz.func82.trans (congrArg some (by kernel_rfl))
 f260:=Tryz.func148.trans (congrArg some (by kernel_rfl))
 t0:=Tryz.underlying0
 a0:=Tryz.isAgg0
 z0:=Tryz.sizeOf0
 v0:=Tryz.zeroValue0
 t3:=Tryz.underlying3
 a3:=Tryz.isAgg3
 z3:=Tryz.sizeOf3
 v3:=Tryz.zeroValue3
 t4:=Tryz.underlying4
 a4:=Tryz.isAgg4
 z4:=Tryz.sizeOf4
 v4:=Tryz.zeroValue4
 t5:=Tryz.underlying5
 a5:=Tryz.isAgg5
 z5:=Tryz.sizeOf5
 v5:=Tryz.zeroValue5
 t9:=Tryz.underlying9
 a9:=Tryz.isAgg9
 z9:=Tryz.sizeOf9
 v9:=Tryz.zeroValue9
 t21:=Tryz.underlying21
 a21:=Tryz.isAgg21
 z21:=Tryz.sizeOf21
 v21:=Tryz.zeroValue21
 t46:=Tryz.underlying183
 a46:=Tryz.isAgg183
 z46:=Tryz.sizeOf183
 v46:=Tryz.zeroValue183
 t105:=Tryz.underlying100
 a105:=Tryz.isAgg100
 z105:=Tryz.sizeOf100
 v105:=Tryz.zeroValue100
 t119:=Tryz.underlying182
 a119:=Tryz.isAgg182
 z119:=Tryz.sizeOf182
 t138:=Tryz.underlying185
 a138:=Tryz.isAgg185
 z138:=Tryz.sizeOf185
 v138:=Tryz.zeroValue185
 t139:=Tryz.underlying186
 a139:=Tryz.isAgg186
 z139:=Tryz.sizeOf186
 v139:=Tryz.zeroValue186
 g3:=by kernel_rfl
 g4:=by kernel_rfl}
open Go.RowKit Go.Lib in
theorem Tryz.utf8_DecodeRuneInString (s:ByteArray) (w:World) (U:Lib.Utf8Tabs 0 1 w):
 Calls Tryz.prog 82 #[.string s] w fun e w'=>e=.returned (.tuple #[.int .i32 (Lib.decodeGo s).1,.int .i64 (Lib.decodeGo s).2])∧Below w.heap.size w w':=Any.utf8_DecodeRuneInString Tryz.jR s w U
open Go.RowKit Go.Lib in
theorem Tryz.strings_IndexFunc_grows (g:Nat) (U:Array Value) (eg:∀args w,(callFunc g args).run Tryz.prog w=.ok (.enter g args) w) (p:Nat→Bool) (s:ByteArray) (w:World) (hp:PredGrows Tryz.prog g U p w):
 Calls Tryz.prog 41 #[.string s,.func (.func g) #[] U] w fun e w'=>e=.returned (.int .i64 (Lib.idxFunc p true s))∧Below w.heap.size w w':=Any.strings_IndexFunc_grows Tryz.eo g U eg p s w hp
end Go.Proofs
namespace Go.Aw
open Go
theorem Ck.below {I:Mem} {st:St} {w w':World} (h:Ck I st w) (b:RowKit.Below w.heap.size w w'):Fr I st w I st w'∧Ck I st w':=by
 refine ⟨⟨b.os,b.tape,b.output,b.size,fun x hx _ _=>b.block x hx,Mem.le_refl _,fun _ _ h k=>absurd h k,fun _ h k=>absurd h k,fun _ h=>.inr h⟩,?_,?_,?_,h.I8,?_,h.SR⟩
 ·intro x o v e
  have e:=h.cell x o v e
  rw [GS (b.block x (KE e))];exact e
 ·intro x n e
  obtain ⟨c,ty,U,h2⟩:=h.shape x n e
  exact ⟨c,ty,by rw [b.block x (ES U)];exact U,h2⟩
 ·intro x cs e
  obtain ⟨vs,ty,U,h2⟩:=h.box x cs e
  exact ⟨vs,ty,by rw [b.block x (ES U)];exact U,h2⟩
 ·intro x n e
  exact ⟨Nat.lt_of_lt_of_le (h.hw x n e).1 b.size,(h.hw x n e).2⟩
theorem CS {P:Program} {f:FuncId} {args:List V} {st:St} {R:AM→St→Prop} (hf:Plain P f) (v:V)
 (h:∀(I:Mem) (w:World) (U:List Value),Ck I st w→Ag I args U→Calls P f U.toArray w fun e w'=>(∃c,e=.returned c∧Az I v c)∧RowKit.Below w.heap.size w w')
 (k:R (.ret v) st):A5 P f args st R:=
 ⟨fun I w U hs ha=>(h I w U hs ha).mono fun e w' ⟨⟨c,he,hc⟩,hb⟩=>⟨I,st,.ret v,(hs.below hb).1,(hs.below hb).2,by subst he;exact hc,k⟩,hf⟩
theorem Ck.row {I:Mem} {st:St} {w:World} (h:Ck I st w) (vs:List Value) (ty:TypeId):
 Fr I st w (I.add w.heap.size 0 vs vs.length) st (w.alloc (.cells vs.toArray ty))∧Ck (I.add w.heap.size 0 vs vs.length) st (w.alloc (.cells vs.toArray ty))∧I.le (I.add w.heap.size 0 vs vs.length):=by
 have hr:Rel [] I st w I (fun _=>none) {tmps:=[],boxes:=[],Bt:=0,sz:=0,gl:=[]} st {tmps:=#[],defers:=[]} w:=
  Pu h rfl (fun t v e=>by cases e) rfl rfl
 have h1:=hr.newRow vs [] ty
 rw [List.append_nil,List.length_nil,Nat.add_zero] at h1
 have U:=h1.Hl (St.Jn (St.le_refl st) (Dc h).2 vs.length)
 exact ⟨U.fr,U.s,U.fr.le⟩
theorem fH {I:Mem} {b n:Nat} (l:List (List UInt8)) (hl:∀x ∈ l,x.length<De) (hn:l.length<De)
 (U:I.le (I.add b 0 (l.map fun x=>Value.string ⟨x.toArray⟩) n)):
 Az (I.add b 0 (l.map fun x=>Value.string ⟨x.toArray⟩) n) (.slice 1 (l.map fun x=>[.str x]) .any) (.slice (some ⟨b,0,none⟩) l.length l.length):=by
 simp only [Az]
 refine ⟨some ⟨b,0,none⟩,l.length,by simp,by simp,by simpa using hn,by decide,trivial,.inr rfl,?_⟩
 refine B6.add _ (l.map fun x=>Value.string ⟨x.toArray⟩) 0 ?_ U (fun j c hj=>Mem.U9 hj)
 clear U hn
 induction l with
 |nil=>simp only [List.map_nil,BM]
 |cons a r ih=>
  simp only [List.map_cons,BM]
  refine ⟨[Value.string ⟨a.toArray⟩],r.map fun x=>Value.string ⟨x.toArray⟩,rfl,rfl,?_,ih fun x hx=>hl x (List.mem_cons_of_mem _ hx)⟩
  simp only [Ag,Az]
  exact ⟨_,_,rfl,⟨rfl,hl a List.mem_cons_self⟩,rfl⟩
end Go.Aw
namespace Go.Proofs.YtkidoddkbhchkaaGreatDoor
open Go Go.Aw
def Td (s:List UInt8):Int×Int:=match s with
 |[]=>(65533,0)
 |a::r=>(((AH (a::r)).1:Nat),((AH (a::r)).2:Nat))
theorem MH (s:List UInt8):(((Lib.decodeGo ⟨s.toArray⟩).1:Nat):Int)=(Td s).1∧(((Lib.decodeGo ⟨s.toArray⟩).2:Nat):Int)=(Td s).2:=by
 cases s with
 |nil=>exact ⟨rfl,rfl⟩
 |cons a r=>
  have U:¬(⟨(a::r).toArray⟩:ByteArray).size=0:=by show ¬(a::r).toArray.size=0;simp
  unfold Lib.decodeGo
  rw [if_neg U,Rp (by simp),List.drop_zero]
  exact ⟨rfl,rfl⟩
section
variable {st:St} {R:AM→St→Prop}
theorem lB {s:List UInt8} (h:R (.ret (.Bo [.int .i32 (Td s).1,.int .i64 (Td s).2])) st):PC 82 [.str s] st R:=by
 refine CS ⟨_,Tryz.func82,by decide,by decide⟩ _ (fun I w cargs U ha=>?_) h
 simp only [Ag,Az] at ha
 obtain ⟨c,r,rfl,⟨rfl,hl⟩,rfl⟩:=ha
 refine (Tryz.utf8_DecodeRuneInString ⟨s.toArray⟩ w ⟨fun i hi=>U.cell _ _ _ (U.SR.first i hi),fun i hi=>⟨U.cell _ _ _ (U.SR.accept i hi).1,U.cell _ _ _ (U.SR.accept i hi).2⟩⟩).mono fun e w' ⟨he,hb⟩=>⟨⟨_,he,?_⟩,hb⟩
 rw [(MH s).1,(MH s).2]
 simp only [Az,Ag]
 exact ⟨_,rfl,_,_,rfl,rfl,_,_,rfl,rfl,rfl⟩
theorem HK {s p:List UInt8} (h:R (.ret (.bool (p.isPrefixOf s))) st):PC 87 [.str s,.str p] st R:=by
 refine CS ⟨_,Tryz.func87,by decide,by decide⟩ _ (fun I w U hs ha=>?_) h
 simp only [Ag,Az] at ha
 obtain ⟨c,r,rfl,⟨rfl,hl⟩,c2,r2,rfl,⟨rfl,hl2⟩,rfl⟩:=ha
 refine (Tryz.strings_HasPrefix ⟨s.toArray⟩ ⟨p.toArray⟩ w).mono fun e w' ⟨he,hw⟩=>⟨⟨_,he,?_⟩,hw ▸ RowKit.Below.refl _ _⟩
 simp only [Az]
 rfl
theorem nS {s:List UInt8} {c:UInt8} (hc:c.toNat<128) (h:R (.ret (.str (Lib.trimB s c))) st):PC 150 [.str s,.str [c]] st R:=by
 refine CS ⟨_,Tryz.func150,by decide,by decide⟩ _ (fun I w U hs ha=>?_) h
 simp only [Ag,Az] at ha
 obtain ⟨c1,r,rfl,⟨rfl,hl⟩,c2,r2,rfl,⟨rfl,hl2⟩,rfl⟩:=ha
 have hsz:(⟨s.toArray⟩:ByteArray).size≤9223372036854775807:=by show s.toArray.size≤_;unfold De at hl;simp;omega
 refine (Tryz.strings_Trim_one ⟨s.toArray⟩ c hc w hsz).mono fun e w' ⟨he,hw⟩=>⟨⟨_,he,?_⟩,?_⟩
 ·simp only [Az]
  refine ⟨trivial,?_⟩
  have:(Lib.trimB s c).length≤s.length:=by
   unfold Lib.trimB Lib.trimLeftB Lib.trimRightB
   refine Nat.le_trans (List.dropWhile_sublist _).length_le ?_
   rw [List.length_reverse]
   refine Nat.le_trans (List.dropWhile_sublist _).length_le ?_
   simp
  unfold De at hl ⊢;omega
 ·rcases hw with rfl|rfl
  ·exact RowKit.Below.refl _ _
  ·exact (RowKit.Below.refl _ _).drew
theorem ml {s:List UInt8} {c:UInt8} (h:R (.ret (.int .i64 (Lib.indexByte s c))) st):PC 346 [.str s,.int .u8 c.toNat] st R:=by
 refine CS ⟨_,Tryz.func346,by decide,by decide⟩ _ (fun I w U hs ha=>?_) h
 simp only [Ag,Az] at ha
 obtain ⟨c1,r,rfl,⟨rfl,hl⟩,c2,r2,rfl,rfl,rfl⟩:=ha
 refine (Tryz.strings_IndexByte ⟨s.toArray⟩ c.toNat w).mono fun e w' ⟨he,hw⟩=>⟨⟨_,he,?_⟩,hw ▸ RowKit.Below.refl _ _⟩
 simp [Az]
theorem Vr {s t:List UInt8} (hz:s.length<4294967281) (h:R (.ret (.bool (Lib.contains s t))) st):PC 157 [.str s,.str t] st R:=by
 refine CS ⟨_,Tryz.func157,by decide,by decide⟩ _ (fun I w U hs ha=>?_) h
 simp only [Ag,Az] at ha
 obtain ⟨c1,r,rfl,⟨rfl,hl⟩,c2,r2,rfl,⟨rfl,hl2⟩,rfl⟩:=ha
 obtain ⟨m,hm⟩:=hs.SR.maxLen
 refine (Tryz.strings_Contains ⟨s.toArray⟩ ⟨t.toArray⟩ m w (by show s.toArray.size<_;simpa using hz) (hs.cell _ _ _ hm)).mono fun e w' ⟨he,hw⟩=>⟨⟨_,he,?_⟩,hw ▸ RowKit.Below.refl _ _⟩
 simp [Az]
end
end Go.Proofs.YtkidoddkbhchkaaGreatDoor
namespace Go.Aw
open Go
noncomputable def Env.Qu (env:Env) (U:List (Nat×V)) (bx:List (Nat×List V)) (keep kb:List Nat):Env:=match env with
 |⟨ts,bs,n,sz,gl⟩=>⟨Env.ts ⟨ts,bs,n,sz,gl⟩ U keep,List.rec (motive:=fun _=>List (Nat×List V)) (Env.bx ⟨ts,bs,n,sz,gl⟩ kb) (fun p _ ih=>p::ih) bx,n,sz,gl⟩
theorem Pb {ih:(AP→Env→St→Prop)→Env→St→Prop} {Q:AP→Env→St→Prop} {env:Env} {st:St} {α:Type} (f:α→List (Nat×V)) (g:α→List (Nat×List V)) (keep kb:List Nat) (S:α→St) (J:α→Prop) (μ:α→Nat) (U:α) (h0:J U)
 (he:(env.Qu (f U) (g U) keep kb).Fq env) (hs:St.le (S U) st)
 (hb:∀x,J x→ih (B0 (fun env' st'=>∃y,J y∧μ y<μ x∧(env.Qu (f y) (g y) keep kb).Fq env'∧St.le (S y) st') Q) (env.Qu (f x) (g x) keep kb) (S x)):
 ∃(α:Type) (E:α→Env) (S:α→St) (J:α→Prop) (μ:α→Nat) (U:α),J U∧(E U).Fq env∧St.le (S U) st∧
  ∀x,J x→ih (B0 (fun env' st'=>∃y,J y∧μ y<μ x∧(E y).Fq env'∧St.le (S y) st') Q) (E x) (S x):=
 ⟨α,fun k=>env.Qu (f k) (g k) keep kb,S,J,μ,U,h0,he,hs,hb⟩
theorem V1 {ih:(AP→Env→St→Prop)→Env→St→Prop} {Q:AP→Env→St→Prop} {env:Env} {st:St} {α β:Type} (f:α→β→List (Nat×V)) (g:α→β→List (Nat×List V)) (keep kb:List Nat) (S:α→β→St) (J:α→β→Prop) (μ:α→β→Nat) (U:α) (y0:β) (h0:J U y0)
 (he:(env.Qu (f U y0) (g U y0) keep kb).Fq env) (hs:St.le (S U y0) st)
 (hb:∀x y,J x y→ih (B0 (fun env' st'=>∃p:α×β,J p.1 p.2∧μ p.1 p.2<μ x y∧(env.Qu (f p.1 p.2) (g p.1 p.2) keep kb).Fq env'∧St.le (S p.1 p.2) st') Q) (env.Qu (f x y) (g x y) keep kb) (S x y)):
 ∃(α:Type) (E:α→Env) (S:α→St) (J:α→Prop) (μ:α→Nat) (U:α),J U∧(E U).Fq env∧St.le (S U) st∧
  ∀x,J x→ih (B0 (fun env' st'=>∃y,J y∧μ y<μ x∧(E y).Fq env'∧St.le (S y) st') Q) (E x) (S x):=
 ⟨α×β,fun p=>env.Qu (f p.1 p.2) (g p.1 p.2) keep kb,fun p=>S p.1 p.2,fun p=>J p.1 p.2,fun p=>μ p.1 p.2,(U,y0),h0,he,hs,fun p h=>hb p.1 p.2 h⟩
theorem R0 {ih:(AP→Env→St→Prop)→Env→St→Prop} {Q:AP→Env→St→Prop} {env:Env} {st:St} {α β γ:Type} (f:α→β→γ→List (Nat×V)) (g:α→β→γ→List (Nat×List V)) (keep kb:List Nat) (S:α→β→γ→St) (J:α→β→γ→Prop) (μ:α→β→γ→Nat) (U:α) (y0:β) (z0:γ) (h0:J U y0 z0)
 (he:(env.Qu (f U y0 z0) (g U y0 z0) keep kb).Fq env) (hs:St.le (S U y0 z0) st)
 (hb:∀x y z,J x y z→ih (B0 (fun env' st'=>∃p:α×β×γ,J p.1 p.2.1 p.2.2∧μ p.1 p.2.1 p.2.2<μ x y z∧(env.Qu (f p.1 p.2.1 p.2.2) (g p.1 p.2.1 p.2.2) keep kb).Fq env'∧St.le (S p.1 p.2.1 p.2.2) st') Q) (env.Qu (f x y z) (g x y z) keep kb) (S x y z)):
 ∃(α:Type) (E:α→Env) (S:α→St) (J:α→Prop) (μ:α→Nat) (U:α),J U∧(E U).Fq env∧St.le (S U) st∧
  ∀x,J x→ih (B0 (fun env' st'=>∃y,J y∧μ y<μ x∧(E y).Fq env'∧St.le (S y) st') Q) (E x) (S x):=
 ⟨α×β×γ,fun p=>env.Qu (f p.1 p.2.1 p.2.2) (g p.1 p.2.1 p.2.2) keep kb,fun p=>S p.1 p.2.1 p.2.2,fun p=>J p.1 p.2.1 p.2.2,fun p=>μ p.1 p.2.1 p.2.2,(U,y0,z0),h0,he,hs,fun p h=>hb p.1 p.2.1 p.2.2 h⟩
theorem BD {k:IntKind} {a b:Int} (e:a=b):AM.ret (.int k a)=AM.ret (.int k b):=by rw [e]
theorem WJ {n:Nat} {p:Prop} (k:n<4611686018427387904→p):n<De→p:=k
theorem WK {l:List UInt8} {K:Nat→Nat→Prop} (k:∀c m,(c,m)=AH l→K c m):∀c m,(c,m)=AH l→K c m:=k
theorem WN {s:List UInt8} {a:Int} {K:List UInt8→Prop} (U:0≤a) (h1:a≤s.length) (k:K (s.drop a.toNat)):
 (0≤a∧a≤(s.length:Int)∧(s.length:Int)≤s.length)∧∀s',s'=(s.take (s.length:Int).toNat).drop a.toNat→K s':=
 ⟨⟨U,h1,Int.le_refl _⟩,fun s' e=>by
   rw [show (s.length:Int).toNat=s.length by omega,List.take_length] at e;subst e;exact k⟩
theorem WO {s:List UInt8} {b:Int} {K:List UInt8→Prop} (U:0≤b) (h1:b≤s.length) (k:K (s.take b.toNat)):
 ((0:Int)≤0∧0≤b∧b≤s.length)∧∀s',s'=(s.take b.toNat).drop (0:Int).toNat→K s':=
 ⟨⟨Int.le_refl _,U,h1⟩,fun s' e=>by
   rw [show (0:Int).toNat=0 from rfl,List.drop_zero] at e;subst e;exact k⟩
theorem WP {s:List UInt8} {a b:Int} {K:List UInt8→Prop} (U:0≤a) (h1:a≤b) (h2:b≤s.length) (k:K ((s.take b.toNat).drop a.toNat)):
 (0≤a∧a≤b∧b≤s.length)∧∀s',s'=(s.take b.toNat).drop a.toNat→K s':=⟨⟨U,h1,h2⟩,fun s' e=>e ▸ k⟩
theorem WM {s:List UInt8} {i:Int} {K:UInt8→Prop} (h0:0≤i) (h1:i<s.length) (k:∀e,s[i.toNat]? =some e→K e):0≤i∧∃e,s[i.toNat]? =some e∧K e:=by
 have U:i.toNat<s.length:=by omega
 exact ⟨h0,s[i.toNat],List.getElem?_eq_getElem U,k _ (List.getElem?_eq_getElem U)⟩
theorem WL {s:List UInt8} {i:Int} {e:UInt8} {K:UInt8→Prop} (h:s[i.toNat]? =some e) (U:0≤i) (k:K e):0≤i∧∃e,s[i.toNat]? =some e∧K e:=⟨U,e,h,k⟩
theorem Di {P:Prop} (h:P:=by with_reducible first|(show _∧_;first|exact Wa)|(show A8 _ _ _;first|exact Wb|exact Wc)|fail):P:=h
theorem BJ {P A:Prop} (k:A) (h:A→P:=by intro k;with_reducible first|(show _∧_;first|exact Wd (by kernel_rfl) k|exact Wm (by assumption) (by omega) k|exact Wn (by omega) (by omega) k|exact Wo (by omega) (by omega) k|exact Wp (by omega) (by omega) (by omega) k|exact Wr (by decide) (by omega) (by omega) k|exact Ws (by decide) k|exact WB (by assumption) (by omega) k|exact WC (by omega) (by omega) k|exact WD (by omega) (by omega) k|exact WE (by omega) (by omega) (by omega) k|exact WL (by assumption) (by omega) k|exact WM (by omega) (by omega) k|exact WN (by omega) (by omega) k|exact WO (by omega) (by omega) k|exact WP (by omega) (by omega) (by omega) k)|(show A8 _ _ _;first|exact Wt (by first|assumption|omega) k|exact Wu (by first|assumption|omega) k|exact Wv (by omega) k|exact Ww (by omega) k|exact Wi k|exact Wj k)|(intro x y z;exact Wl k x y z)|(intro x y z;exact Wz k x y z)|(intro x y z;exact WA k x y z)|(intro x;exact WJ k x)|(intro x y z;exact WK k x y z)|(show Exists _;first|exact Wq (by omega) (by omega) k)|fail):P:=h k
theorem Dj {P:Prop} {B C:V→Prop} (k:V) (l:B k) (m:C k) (h:∀k,B k→C k→P:=by intro k l m;with_reducible first|(show Exists _;first|exact We k l m|exact W8 (by decide +kernel) k l m|exact W0 (by decide +kernel) k l m|exact W9 k l m)|fail):P:=h k l m
theorem BK {P A B:Prop} (k:A) (l:B) (h:A→B→P:=by intro k l;with_reducible first|(show A8 _ _ _;first|exact Wf (by decide) k l|exact Wg k l|exact Wh k l|exact Wk k l)|fail):P:=h k l
theorem pF {P A B:Prop} (k:A) (l:B) (h:A→B→P:=by intro k l;with_reducible first|(intro x y;exact Wx k l x y)|(intro x y;exact Wy k l x y)|fail):P:=h k l
def HG (c:Int):Int:=
 if c=40∨c=41∨c=44∨c=59∨c=91∨c=93∨c=96∨c=123∨c=125 then 6
 else if c=34∨c=39 then 7
 else if 32<c∧c<127 then 5
 else 0
def KZ (c:Int):Int:=
 if c=215∨c=247 then 5
 else if 223≤c∧c≤255∨945≤c∧c≤969 then 2
 else if 192≤c∧c≤222∨913≤c∧c≤937∧c≠930 then 3
 else if c<160∨c=173∨55296≤c∧c≤57343∨1114111<c then 0
 else if 160<c∧c≤191∨8592≤c∧c≤8959 then 5
 else 8
def AF (c:Int):Int:=
 if c=32∨9≤c∧c≤13 then 1
 else if 48≤c∧c≤57 then 4
 else if 97≤c∧c≤122∨c=95 then 2
 else if 65≤c∧c≤90 then 3
 else if c<128 then HG c else KZ c
def Bx (c base:Int):Int:=
 let v:=if 48≤c∧c≤57 then c - 48 else if 97≤c∧c≤102 then c - 87 else if 65≤c∧c≤70 then c - 55 else 16
 if base<2∨16<base∨base≤v then -1 else v
theorem DA (l:List UInt8):1≤(AH l).2:=by
 unfold AH
 split
 ·decide
 ·dsimp only
  repeat' split
  all_goals simp
theorem FK {l:List UInt8} (h:l≠[]):(AH l).2≤l.length:=by
 cases l with
 |nil=>exact absurd rfl h
 |cons a l=>
  have hc:∀k:Nat,(match l[k]? with|some b=>b.toNat / 64==2|none=>false)=true→k+2≤(a::l).length:=fun k e=>by
   cases hk:l[k]? with
   |none=>rw [hk] at e;cases e
   |some b=>have:=(List.getElem?_eq_some_iff.1 hk).1;rw [List.length_cons];omega
  unfold AH
  dsimp only
  split
  ·simp
  split
  ·rename_i U
   simp only [Bool.and_eq_true] at U
   have:=hc 0 U.2
   split<;>simp only<;>omega
  split
  ·rename_i U
   simp only [Bool.and_eq_true] at U
   have:=hc 1 U.2
   split<;>simp only<;>omega
  split
  ·rename_i U
   simp only [Bool.and_eq_true] at U
   have:=hc 2 U.2
   split<;>simp only<;>omega
  ·simp
def Bj (p:Nat×Nat→Bool) (l:List UInt8):Nat:=
 match l with
 |[]=>0
 |a::r=>if p (AH (a::r)) then (AH (a::r)).2+Bj p ((a::r).drop (AH (a::r)).2) else 0
termination_by l.length
decreasing_by
 have:=DA (a::r)
 simp only [List.length_drop,List.length_cons]
 omega
theorem D8 (p:Nat×Nat→Bool):Bj p []=0:=by rw [Bj]
theorem Co {p:Nat×Nat→Bool} {l:List UInt8} (h:l≠[]) (U:p (AH l)=true):Bj p l=(AH l).2+Bj p (l.drop (AH l).2):=by
 cases l with
 |nil=>exact absurd rfl h
 |cons a r=>rw [Bj,if_pos U]
theorem EC {p:Nat×Nat→Bool} {l:List UInt8} (U:p (AH l)=false):Bj p l=0:=by
 cases l with
 |nil=>exact D8 p
 |cons a r=>rw [Bj,if_neg (by rw [U];decide)]
theorem LK (p:Nat×Nat→Bool) (l:List UInt8):Bj p l≤l.length:=by
 fun_induction Bj p l with
 |case1=>exact Nat.le_refl _
 |case2 a r h U=>
  have:=FK (l:=a::r) (by simp)
  rw [List.length_drop] at U
  omega
 |case3 a r h=>exact Nat.zero_le _
theorem Xk (p:Nat×Nat→Bool) (l:List UInt8) (h:Bj p l<l.length):p (AH (l.drop (Bj p l)))=false:=by
 fun_induction Bj p l with
 |case1=>simp at h
 |case2 a r U ih=>
  rw [List.length_drop] at ih
  have:=FK (l:=a::r) (by simp)
  rw [←List.drop_drop]
  exact ih (by omega)
 |case3 a r U=>simpa using U
def BI (p:Int→Bool) (l:List UInt8):Nat:=Bj (fun d=>p (d.1:Nat)) l
theorem Q5 (p:Int→Bool):BI p []=0:=D8 _
theorem aU {p:Int→Bool} {l:List UInt8} (h:l≠[]) (U:p ((AH l).1:Nat)=true):BI p l=(AH l).2+BI p (l.drop (AH l).2):=Co h U
theorem PK {p:Int→Bool} {l:List UInt8} (U:p ((AH l).1:Nat)=false):BI p l=0:=EC U
theorem Fj (p:Int→Bool) (l:List UInt8):BI p l≤l.length:=LK _ l
theorem PM (p:Int→Bool) (l:List UInt8) (h:BI p l<l.length):p ((AH (l.drop (BI p l))).1:Nat)=false:=Xk _ l h
theorem rune_le {t:List UInt8} {pos c m:Nat} (h:pos<t.length) (hd:(c,m)=AH (t.drop pos)):pos+m≤t.length∧1≤m:=by
 have U:=DA (t.drop pos)
 have h2:=FK (l:=t.drop pos) (fun e=>by have:=congrArg List.length e;rw [List.length_drop,List.length_nil] at this;omega)
 rw [List.length_drop,←hd] at h2
 rw [←hd] at U
 exact ⟨by omega,U⟩
theorem NZ {p:Nat×Nat→Bool} {t:List UInt8} {pos c m n:Nat} (h:pos<t.length) (U:(c,m)=AH (t.drop pos)) (hp:p (c,m)=true) (hi:n=pos+Bj p (t.drop pos)):n=pos+m+Bj p (t.drop (pos+m)):=by
 rw [hi,Co (fun e=>by have:=congrArg List.length e;rw [List.length_drop,List.length_nil] at this;omega) (by rw [←U];exact hp),←U,List.drop_drop]
 exact (Nat.add_assoc _ _ _).symm
theorem SC {p:Nat×Nat→Bool} {t:List UInt8} {pos c m n:Nat} (U:(c,m)=AH (t.drop pos)) (hp:p (c,m)=false) (hi:n=pos+Bj p (t.drop pos)):n=pos:=by
 rw [hi,EC (by rw [←U];exact hp)];rfl
theorem PN {p:Nat×Nat→Bool} {t:List UInt8} {pos n:Nat} (h:¬pos<t.length) (hi:n=pos+Bj p (t.drop pos)):n=pos:=by
 rw [hi,List.drop_eq_nil_iff.2 (by omega),D8];rfl
def C5 (d:Nat×Nat):Bool:= !(d.1==65533&&d.2==1)
end Go.Aw
namespace Go.Proofs.YtkidoddkbhchkaaGreatDoor
open Go Go.Aw
def Lp (s:List UInt8) (i:Int):Int×Int:=if i<0∨s.length≤i then (0,0) else Td (s.drop i.toNat)
def kI (s:List UInt8) (i U:Int):Int:=if i<0∨s.length<i then 0 else i+BI (fun c=>AF c==U) (s.drop i.toNat)
def L0 (s:List UInt8):Int×Int:=if Bj C5 s<s.length then (Bj C5 s,10) else (s.length,0)
theorem QQ {s:List UInt8} {i:Int} (h:i<0∨s.length≤i):Lp s i=(0,0):=if_pos h
theorem Lq {s:List UInt8} {i:Int} (h:0≤i) (k:i<s.length):Lp s i=Td (s.drop i.toNat):=if_neg (by omega)
theorem fU {s:List UInt8} {i k:Int} (h:i<0∨s.length<i):kI s i k=0:=if_pos h
theorem NV {s:List UInt8} {i k:Int} (h:0≤i) (U:i≤s.length):kI s i k=i+BI (fun c=>AF c==k) (s.drop i.toNat):=if_neg (by omega)
theorem XM {s:List UInt8} (h:s≠[]):Td s=((((AH s).1:Nat):Int),(((AH s).2:Nat):Int)):=by
 cases s with
 |nil=>exact absurd rfl h
 |cons a r=>rfl
theorem Nz {s:List UInt8} {pos c m:Nat} (h:pos<s.length) (U:(c,m)=AH (s.drop pos)):Td (s.drop (pos:Int).toNat)=((c:Int),(m:Int)):=by
 rw [show (pos:Int).toNat=pos by omega,XM (fun e=>by have:=congrArg List.length e;rw [List.length_drop,List.length_nil] at this;omega),←U]
theorem cH {s:List UInt8} {pos:Nat} (h:pos<s.length) (k:Bj C5 s=pos):L0 s=(((pos:Nat):Int),10):=by
 unfold L0;rw [k,if_pos h]
theorem iF {s:List UInt8} {pos:Nat} (h:¬pos<s.length) (k:Bj C5 s=pos):L0 s=((s.length:Int),0):=by
 unfold L0;rw [k,if_neg h]
section
variable {st:St} {R:AM→St→Prop}
theorem nj {c:Int} (h:R (.ret (.int .i64 (HG c))) st):PC 84 [.int .i32 c] st R:=by
 refine Aa Ac [] Tryz.func84 rfl (by decide) ?_
 repeat' ((conv=>whnf);first|(refine BJ ?_;intros)|(refine BK ?_ ?_<;>intro _)|fail)
 all_goals exact fin h (BD (by unfold HG;(repeat' split)<;>first|omega|rfl))
theorem cr {c:Int} (h:R (.ret (.int .i64 (KZ c))) st):PC 85 [.int .i32 c] st R:=by
 refine Aa Ac [] Tryz.func85 rfl (by decide) ?_
 repeat' ((conv=>whnf);first|(refine BJ ?_;intros)|(refine BK ?_ ?_<;>intro _)|fail)
 all_goals exact fin h (BD (by unfold KZ;(repeat' split)<;>first|omega|rfl))
theorem JL {c:Int} (h:R (.ret (.int .i64 (AF c))) st):PC 43 [.int .i32 c] st R:=by
 refine Aa Ac [] Tryz.func43 rfl (by decide) ?_
 repeat' ((conv=>whnf);first|(refine BJ ?_;intros)|(refine BK ?_ ?_<;>intro _)|refine nj ?_|refine cr ?_)
 all_goals exact fin h (BD (by unfold AF;(repeat' split)<;>first|omega|rfl))
theorem eX {s:List UInt8} {i:Int} (U:s.length<4611686018427387904) (h:R (.ret (.Bo [.int .i32 (Lp s i).1,.int .i64 (Lp s i).2])) st):PC 276 [.str s,.int .i64 i] st R:=by
 refine Aa Ac [] Tryz.func276 rfl (by decide) ?_
 repeat' ((conv=>whnf);first|(refine BJ ?_;intros)|(refine BK ?_ ?_<;>intro _)|refine lB ?_)
 all_goals exact fin h (by first|rw [QQ (by omega)]|rw [Lq (by omega) (by omega)])
theorem lU {s:List UInt8} {i k:Int} (hl:s.length<4611686018427387904) (h:R (.ret (.int .i64 (kI s i k))) st):PC 86 [.str s,.int .i64 i,.int .i64 k] st R:=by
 refine Aa Ac [] Tryz.func86 rfl (by decide) ?_
 repeat' ((conv=>whnf);first|(refine BJ ?_;intros)|(refine BK ?_ ?_<;>intro _)|refine JL ?_)
 all_goals try exact fin h (BD (fU (by omega)))
 have hlen:(s.drop i.toNat).length=s.length - i.toNat:=List.length_drop
 generalize ht:s.drop i.toNat=t at hlen
 refine Pb (α:=Nat) (fun _=>[]) (fun pos=>[(0,[.Nk t pos])]) [0,1,2,20] [] (fun _=>st) (fun pos=>pos≤t.length∧BI (fun c=>AF c==k) t=pos+BI (fun c=>AF c==k) (t.drop pos)) (fun pos=>t.length - pos) 0 ⟨Nat.zero_le _,by simp⟩ Yl (St.le_refl _) ?_
 rintro pos ⟨hp,hi⟩
 repeat' ((conv=>whnf);first|(refine BJ ?_;intros)|(refine BK ?_ ?_<;>intro _)|refine JL ?_)
 ·rename_i U c m hd hk
  have hr:=rune_le U hd
  conv=>whnf
  exact ⟨pos+m,⟨hr.1,NZ U hd (beq_iff_eq.2 hk) hi⟩,by omega,Yl,St.le_refl _⟩
 ·rename_i U c m hd hk
  have:=SC (p:=fun d=>AF (d.1:Nat)==k) hd (beq_eq_false_iff_ne.2 hk) hi
  exact fin h (BD (by rw [NV (by omega) (by omega),ht,this]))
 ·rename_i U hls
  have:=PN U hi
  exact fin h (BD (by rw [NV (by omega) (by omega),ht,this];omega))
theorem Ro {s:List UInt8} (h:R (.ret (.Bo [.int .i64 (L0 s).1,.int .i64 (L0 s).2])) st):PC 40 [.str s] st R:=by
 refine Aa Ac [] Tryz.func40 rfl (by decide) ?_
 repeat' ((conv=>whnf);first|(refine BJ ?_;intros)|(refine BK ?_ ?_<;>intro _)|fail)
 refine Pb (α:=Nat) (fun _=>[]) (fun pos=>[(0,[.Nk s pos])]) [0,9] [] (fun _=>st) (fun pos=>pos≤s.length∧Bj C5 s=pos+Bj C5 (s.drop pos)) (fun pos=>s.length - pos) 0 ⟨Nat.zero_le _,by simp⟩ Yl (St.le_refl _) ?_
 rintro pos ⟨hp,hi⟩
 repeat' ((conv=>whnf);first|(refine BJ ?_;intros)|(refine BK ?_ ?_<;>intro _)|refine lB ?_)
 ·rename_i U c m hd hc hm
  rw [Nz U hd] at hm
  have hk:=SC hd (by simp only [C5];have h1:c=65533:=hc;have h2:m=1:=Int.ofNat.inj hm;rw [h1,h2];rfl) hi
  exact fin h (by rw [cH U hk])
 ·rename_i U c m hd hc hm
  rw [Nz U hd] at hm
  have hr:=rune_le U hd
  conv=>whnf
  exact ⟨pos+m,⟨hr.1,NZ U hd (by simp only [C5];have:¬m=1:=fun e=>hm (by subst e;rfl);simp [this]) hi⟩,by omega,Yl,St.le_refl _⟩
 ·rename_i U c m hd hc
  have hr:=rune_le U hd
  conv=>whnf
  exact ⟨pos+m,⟨hr.1,NZ U hd (by simp only [C5];have:¬c=65533:=hc;simp [this]) hi⟩,by omega,Yl,St.le_refl _⟩
 ·rename_i U hls
  exact fin h (by rw [iF U (PN U hi)])
end
end Go.Proofs.YtkidoddkbhchkaaGreatDoor
namespace Go.Aw
open Go
def AQ:List UInt8→Int
 |[]=> -1
 |a::_=>(a.toNat:Nat)
theorem dY (l:List UInt8): -1≤AQ l∧AQ l≤255:=by
 cases l with
 |nil=>exact ⟨by decide,by decide⟩
 |cons a r=>have:=a.toNat_lt;simp only [AQ];omega
def GG (l:List UInt8):Nat:=if AQ l=13∧AQ (l.drop 1)=10 then 2 else if AQ l=13∨AQ l=10∨AQ l=12 then 1 else 0
def UM (B7:Int):Int:=(B7 - 1) / 8*8+9
def AR (l:List UInt8):Nat:=if 0<GG l then GG l else (AH l).2
def Eh (l:List UInt8) (line:Int):Int:=if 0<GG l then line+1 else line
def Fk (l:List UInt8) (B7:Int):Int:=if 0<GG l then 1 else if AQ l=9 then UM B7 else B7+1
theorem DP {s:List UInt8} {i:Nat} {e:UInt8} (h:s[i]? =some e):AQ (s.drop i)=(e.toNat:Nat):=by rw [drop_at h];rfl
theorem Gy {s:List UInt8} {i:Nat} (h:s.length≤i):AQ (s.drop i)= -1:=by rw [List.drop_eq_nil_iff.2 h];rfl
theorem V8 (l:List UInt8):GG l≤l.length:=by
 rcases l with _|⟨a,_|⟨b,r⟩⟩
 ·decide
 ·have e:¬(AQ [a]=13∧AQ ([a].drop 1)=10):=fun h=>absurd (show (-1:Int)=10 from h.2) (by decide)
  unfold GG
  rw [if_neg e,List.length_singleton]
  by_cases h:AQ [a]=13∨AQ [a]=10∨AQ [a]=12
  ·rw [if_pos h];omega
  ·rw [if_neg h];omega
 ·unfold GG
  simp only [List.length_cons]
  by_cases U:AQ (a::b::r)=13∧AQ ((a::b::r).drop 1)=10
  ·rw [if_pos U];omega
  ·rw [if_neg U]
   by_cases h:AQ (a::b::r)=13∨AQ (a::b::r)=10∨AQ (a::b::r)=12
   ·rw [if_pos h];omega
   ·rw [if_neg h];omega
theorem ED {l:List UInt8} (h:l≠[]):AR l≤l.length∧1≤AR l:=by
 unfold AR
 split
 ·exact ⟨V8 l,by assumption⟩
 ·exact ⟨FK h,DA l⟩
theorem YY (s:List UInt8) (pos:Nat):¬pos<s.length∨(pos+AR (s.drop pos)≤s.length∧1≤AR (s.drop pos)):=by
 by_cases h:pos<s.length
 ·have:=ED (l:=s.drop pos) (fun e=>by have:=congrArg List.length e;rw [List.length_drop,List.length_nil] at this;omega)
  rw [List.length_drop] at this
  exact .inr ⟨by omega,this.2⟩
 ·exact .inl h
end Go.Aw
namespace Go.Proofs.YtkidoddkbhchkaaGreatDoor
open Go Go.Aw
def spot (pos:Nat) (line B7:Int):V:=.agg [.int .i64 pos,.int .i64 line,.int .i64 B7]
theorem PO {p:Nat} {p' l l' c U:Int} (e1:(p:Int)=p') (e2:l=l') (e3:c=U):AM.ret (spot p l c)=AM.ret (.agg [.int .i64 p',.int .i64 l',.int .i64 U]):=by subst e1;subst e2;subst e3;rfl
section
variable {st:St} {R:AM→St→Prop}
theorem Yr {s:List UInt8} {i:Int} {c m:Nat} (U:s.length<4611686018427387904) (hx:Lp s i=((c:Int),(m:Int))) (h:R (.ret (.Bo [.int .i32 c,.int .i64 m])) st):PC 276 [.str s,.int .i64 i] st R:=eX U (by rw [hx];exact h)
theorem QP {s:List UInt8} {pos:Nat} (hl:s.length<4611686018427387904) (hp:pos<s.length) (h:R (.ret (.int .i64 (GG (s.drop pos):Nat))) st):PC 226 [.str s,.int .i64 pos] st R:=by
 obtain ⟨e,U⟩:∃e,s[pos]? =some e:=⟨s[pos],List.getElem?_eq_getElem hp⟩
 have he':s[(pos:Int).toNat]? =some e:=U
 have h0:=DP U
 have h1:AQ ((s.drop pos).drop 1)=AQ (s.drop (pos+1)):=by rw [List.drop_drop]
 refine Aa Ac [] Tryz.func226 rfl (by decide) ?_
 repeat' ((conv=>whnf);first|(refine BJ ?_;intros)|(refine BK ?_ ?_<;>intro _)|fail)
 all_goals try have h2:=DP (show s[pos+1]? =some _ by assumption)
 all_goals try have h3:=Gy (s:=s) (i:=pos+1) (by omega)
 all_goals exact fin h (BD (by unfold GG;rw [h1];(repeat' split)<;>omega))
theorem nO {B7:Int} (U:1≤B7) (h1:B7≤4000000000000000000) (h:R (.ret (.int .i64 (UM B7))) st):PC 277 [.int .i64 B7] st R:=by
 refine Aa Ac [] Tryz.func277 rfl (by decide) ?_
 repeat' ((conv=>whnf);first|(refine BJ ?_;intros)|(refine BK ?_ ?_<;>intro _)|fail)
 exact fin h (BD (by unfold UM;omega))
theorem YE {s:List UInt8} {pos:Nat} {line B7:Int} (hl:s.length<4611686018427387904) (hp:pos<s.length) (h0:1≤line) (h1:line≤4000000000000000000) (h2:1≤B7) (h3:B7≤4000000000000000000)
 (h:R (.ret (spot (pos+AR (s.drop pos)) (Eh (s.drop pos) line) (Fk (s.drop pos) B7))) st):PC 227 [.str s,spot pos line B7] st R:=by
 obtain ⟨e,he⟩:∃e,s[pos]? =some e:=⟨s[pos],List.getElem?_eq_getElem hp⟩
 have he':s[(pos:Int).toNat]? =some e:=he
 have hh:=DP he
 have hn:=V8 (s.drop pos)
 rw [List.length_drop] at hn
 rcases hd:AH (s.drop pos) with ⟨c,m⟩
 have hr:=rune_le hp hd.symm
 have hx:Lp s pos=((c:Int),(m:Int)):=by rw [Lq (by omega) (by omega),Nz hp hd.symm]
 refine Aa Ac [] Tryz.func227 rfl (by decide) ?_
 repeat' ((conv=>whnf);first|(refine BJ ?_;intros)|(refine BK ?_ ?_<;>intro _)|refine QP hl hp ?_|refine Yr hl hx ?_|refine nO h2 h3 ?_)
 ·have U:0<GG (s.drop pos):=by omega
  exact fin h (PO (by unfold AR;rw [if_pos U];omega) (by unfold Eh;rw [if_pos U]) (by unfold Fk;rw [if_pos U]))
 ·have U:¬0<GG (s.drop pos):=by omega
  exact fin h (PO (by unfold AR;rw [if_neg U,hd];omega) (by unfold Eh;rw [if_neg U]) (by unfold Fk;rw [if_neg U,if_pos (by omega)]))
 ·have U:¬0<GG (s.drop pos):=by omega
  exact fin h (PO (by unfold AR;rw [if_neg U,hd];omega) (by unfold Eh;rw [if_neg U]) (by unfold Fk;rw [if_neg U,if_neg (by omega)]))
end
end Go.Proofs.YtkidoddkbhchkaaGreatDoor
namespace Go.Aw
open Go
def BA (l:List UInt8) (k:Nat) (p:Int×Int):Int×Int:=
 match l with
 |[]=>p
 |a::r=>if k<AR (a::r) then p else BA ((a::r).drop (AR (a::r))) (k - AR (a::r)) (Eh (a::r) p.1,Fk (a::r) p.2)
termination_by l.length
decreasing_by
 have:=ED (l:=a::r) (by simp)
 simp only [List.length_drop,List.length_cons]
 omega
theorem FI (k:Nat) (p:Int×Int):BA [] k p=p:=by rw [BA]
theorem EV {l:List UInt8} {k:Nat} {p:Int×Int} (h:k<AR l):BA l k p=p:=by
 cases l with
 |nil=>exact FI k p
 |cons a r=>rw [BA,if_pos h]
theorem DY {l:List UInt8} {k:Nat} {p:Int×Int} (U:l≠[]) (h:¬k<AR l):BA l k p=BA (l.drop (AR l)) (k - AR l) (Eh l p.1,Fk l p.2):=by
 cases l with
 |nil=>exact absurd rfl U
 |cons a r=>rw [BA,if_neg h]
theorem EW {l:List UInt8} {p:Int×Int}:BA l 0 p=p:=by
 cases l with
 |nil=>exact FI 0 p
 |cons a r=>exact EV (ED (by simp)).2
theorem Rw {s:List UInt8} {pos:Nat} (h:pos<s.length):s.drop pos≠[]:=fun e=>by
 have:=congrArg List.length e;rw [List.length_drop,List.length_nil] at this;omega
theorem PX {s:List UInt8} {pos k:Nat} {line B7:Int} (h:pos<s.length) (U:¬pos+k<pos+AR (s.drop pos)):
 BA (s.drop pos) k (line,B7)=BA (s.drop (pos+AR (s.drop pos))) (k - AR (s.drop pos)) (Eh (s.drop pos) line,Fk (s.drop pos) B7):=by
 rw [DY (Rw h) (by omega),List.drop_drop]
theorem SE (l:List UInt8) (line:Int):line≤Eh l line∧Eh l line≤line+1:=by unfold Eh;split<;>omega
theorem N0 (l:List UInt8) {B7:Int} (h:1≤B7):1≤Fk l B7∧Fk l B7≤B7+8:=by
 unfold Fk UM
 by_cases U:0<GG l
 ·rw [if_pos U];omega
 ·rw [if_neg U]
  by_cases h2:AQ l=9
  ·rw [if_pos h2];omega
  ·rw [if_neg h2];omega
end Go.Aw
namespace Go.Proofs.YtkidoddkbhchkaaGreatDoor
open Go Go.Aw
section
variable {st:St} {R:AM→St→Prop}
theorem pw {s:List UInt8} {k:Nat} (hl:s.length≤100000000) (hk:k≤s.length) (h:R (.ret (.Bo [.int .i64 (BA s k (1,1)).1,.int .i64 (BA s k (1,1)).2,.int .i64 0])) st):PC 152 [.str s,.int .i64 k] st R:=by
 refine Aa Ac [] Tryz.func152 rfl (by decide) ?_
 repeat' ((conv=>whnf);first|exact Di|(refine BJ ?_;intros)|(refine Dj ?_ ?_ ?_;rotate_left)|(refine BK ?_ ?_<;>intro _)|with_reducible refine WF ?_)
 refine R0 (α:=Nat) (β:=Int) (γ:=Int) (fun _ _ _=>[]) (fun pos line B7=>[(0,[.int .i64 (pos:Int),.int .i64 line,.int .i64 B7])]) [0,1,7] [] (fun _ _ _=>st)
  (fun pos line B7=>pos≤k∧1≤line∧line≤1+(pos:Int)∧1≤B7∧B7≤1+8*(pos:Int)∧BA s k (1,1)=BA (s.drop pos) (k - pos) (line,B7)) (fun pos _ _=>k - pos) 0 1 1 ⟨by omega,by omega,by omega,by omega,by omega,rfl⟩ Yl (St.le_refl _) ?_
 rintro pos line B7 ⟨h1,h2,h3,h4,h5,U⟩
 have hr:=YY s pos
 have hL:=SE (s.drop pos) line
 have hC:=N0 (s.drop pos) h4
 repeat' ((conv=>whnf);first|exact Di|(refine BJ ?_;intros)|(refine Dj ?_ ?_ ?_;rotate_left)|(refine BK ?_ ?_<;>intro _)|refine YE (by omega) (by omega) (by omega) (by omega) (by omega) (by omega) ?_|with_reducible refine WF ?_)
 ·exact fin h (by rw [U,EV (by omega)])
 ·conv=>whnf
  exact ⟨(pos+AR (s.drop pos),Eh (s.drop pos) line,Fk (s.drop pos) B7),⟨by dsimp only;omega,by dsimp only;omega,by dsimp only;omega,by dsimp only;omega,by dsimp only;omega,by dsimp only;rw [U,PX (by omega) (by omega),Nat.sub_sub]⟩,by dsimp only;omega,Yl,St.le_refl _⟩
 ·have hz:k - pos=0:=by omega
  exact fin h (by rw [U,hz,EW])
theorem lh {s:List UInt8} {U:Int} (hl:s.length≤100000000) (h0:1≤U) (h1:U≤2147483648) (h:R (.ret (.Bo [.int .i64 (BA s s.length (1,U)).2,.int .i64 0])) st):PC 153 [.str s,.int .i64 U] st R:=by
 refine Aa Ac [] Tryz.func153 rfl (by decide) ?_
 repeat' ((conv=>whnf);first|(refine BJ ?_;intros)|(refine BK ?_ ?_<;>intro _)|fail)
 refine R0 (α:=Nat) (β:=Int) (γ:=Int) (fun _ _ _=>[]) (fun pos line B7=>[(0,[.int .i64 (pos:Int),.int .i64 line,.int .i64 B7])]) [0,6] [] (fun _ _ _=>st)
  (fun pos line B7=>pos≤s.length∧1≤line∧line≤1+(pos:Int)∧1≤B7∧B7≤U+8*(pos:Int)∧BA s s.length (1,U)=BA (s.drop pos) (s.length - pos) (line,B7)) (fun pos _ _=>s.length - pos) 0 1 U ⟨by omega,by omega,by omega,by omega,by omega,rfl⟩ Yl (St.le_refl _) ?_
 rintro pos line B7 ⟨h1,h2,h3,h4,h5,h6⟩
 have hr:=YY s pos
 have hL:=SE (s.drop pos) line
 have hC:=N0 (s.drop pos) h4
 repeat' ((conv=>whnf);first|(refine BJ ?_;intros)|(refine BK ?_ ?_<;>intro _)|refine YE (by omega) (by omega) (by omega) (by omega) (by omega) (by omega) ?_)
 ·conv=>whnf
  exact ⟨(pos+AR (s.drop pos),Eh (s.drop pos) line,Fk (s.drop pos) B7),⟨by dsimp only;omega,by dsimp only;omega,by dsimp only;omega,by dsimp only;omega,by dsimp only;omega,by dsimp only;rw [h6,PX (by omega) (by omega),Nat.sub_sub]⟩,by dsimp only;omega,Yl,St.le_refl _⟩
 ·have hz:s.length - pos=0:=by omega
  exact fin h (by rw [h6,hz,EW])
end
end Go.Proofs.YtkidoddkbhchkaaGreatDoor
namespace Go.Aw
open Go
theorem ng {ih:(AP→Env→St→Prop)→Env→St→Prop} {Q:AP→Env→St→Prop} {env:Env} {st:St} {α β γ δ:Type} (f:α→β→γ→δ→List (Nat×V)) (g:α→β→γ→δ→List (Nat×List V)) (keep kb:List Nat) (S:α→β→γ→δ→St) (J:α→β→γ→δ→Prop) (μ:α→β→γ→δ→Nat) (U:α) (y0:β) (z0:γ) (u0:δ) (h0:J U y0 z0 u0)
 (he:(env.Qu (f U y0 z0 u0) (g U y0 z0 u0) keep kb).Fq env) (hs:St.le (S U y0 z0 u0) st)
 (hb:∀x y z u,J x y z u→ih (B0 (fun env' st'=>∃p:α×β×γ×δ,J p.1 p.2.1 p.2.2.1 p.2.2.2∧μ p.1 p.2.1 p.2.2.1 p.2.2.2<μ x y z u∧(env.Qu (f p.1 p.2.1 p.2.2.1 p.2.2.2) (g p.1 p.2.1 p.2.2.1 p.2.2.2) keep kb).Fq env'∧St.le (S p.1 p.2.1 p.2.2.1 p.2.2.2) st') Q) (env.Qu (f x y z u) (g x y z u) keep kb) (S x y z u)):
 ∃(α:Type) (E:α→Env) (S:α→St) (J:α→Prop) (μ:α→Nat) (U:α),J U∧(E U).Fq env∧St.le (S U) st∧
  ∀x,J x→ih (B0 (fun env' st'=>∃y,J y∧μ y<μ x∧(E y).Fq env'∧St.le (S y) st') Q) (E x) (S x):=
 ⟨α×β×γ×δ,fun p=>env.Qu (f p.1 p.2.1 p.2.2.1 p.2.2.2) (g p.1 p.2.1 p.2.2.1 p.2.2.2) keep kb,fun p=>S p.1 p.2.1 p.2.2.1 p.2.2.2,fun p=>J p.1 p.2.1 p.2.2.1 p.2.2.2,fun p=>μ p.1 p.2.1 p.2.2.1 p.2.2.2,(U,y0,z0,u0),h0,he,hs,fun p h=>hb p.1 p.2.1 p.2.2.1 p.2.2.2 h⟩
def Dt (s:List UInt8) (U pos:Nat):List (List UInt8):=
 if h:pos<s.length then
  if 0<GG (s.drop pos) then (s.take pos).drop U::Dt s (pos+GG (s.drop pos)) (pos+GG (s.drop pos)) else Dt s U (pos+1)
 else [s.drop U]
termination_by s.length - pos
decreasing_by all_goals omega
theorem oN {a b:Int} {K:Int→Prop} (h:¬a<b) (k:K a):∃r,r=(if a<b then b else a)∧K r:=⟨a,(if_neg h).symm,k⟩
theorem oO {a b:Int} {K:Int→Prop} (h:a<b) (k:K b):∃r,r=(if a<b then b else a)∧K r:=⟨b,(if_pos h).symm,k⟩
theorem ca {l:List (List UInt8)} {x:List UInt8} {own:AO} {st:St} {K:V→St→Prop} (h:own.Bn st) (hb:l.length≤999999999)
 (k:∀U:AO,U.Bn st→K (.slice 1 (strs (l++[x])) U) (U.st st (l++[x]).length)):Ai 1 16 (strs l) own [[.str x]] (own.st st l.length) K:=
 M7 (new:=[x]) h (by rw [List.length_singleton];omega) k
theorem ab {s:List UInt8} {U pos:Nat} (h:pos<s.length) (k:0<GG (s.drop pos)):Dt s U pos=(s.take pos).drop U::Dt s (pos+GG (s.drop pos)) (pos+GG (s.drop pos)):=by
 rw [Dt,dif_pos h,if_pos k]
theorem Z9 {s:List UInt8} {U pos:Nat} (h:pos<s.length) (k:¬0<GG (s.drop pos)):Dt s U pos=Dt s U (pos+1):=by
 rw [Dt,dif_pos h,if_neg k]
theorem VZ {s:List UInt8} {U pos:Nat} (h:¬pos<s.length):Dt s U pos=[s.drop U]:=by
 rw [Dt,dif_neg h]
end Go.Aw
namespace Go.Proofs.YtkidoddkbhchkaaGreatDoor
open Go Go.Aw
section
variable {st:St} {R:AM→St→Prop}
attribute [local irreducible] Go.Aw.Ai
theorem Ym {s:List UInt8} (hl:s.length≤100000000) (h:∀own:AO,own.Bn st→R (.ret (.slice 1 (strs (Dt s 0 0)) own)) (own.st st (Dt s 0 0).length)):PC 151 [.str s] st R:=by
 refine Aa Ac [] Tryz.func151 rfl (by decide) ?_
 repeat' ((conv=>whnf);first|(refine BJ ?_;intros)|(refine BK ?_ ?_<;>intro _)|refine pF (fun _=>?_) ?_|fail)
 refine ng (α:=Nat) (β:=Nat) (γ:=List (List UInt8)) (δ:=AO) (fun pos U l own=>[(5,.int .i64 (pos:Int)),(4,.int .i64 (U:Int)),(3,.slice 1 (strs l) own)]) (fun _ _ _ _=>[]) [0] [] (fun _ _ l own=>own.st st l.length)
  (fun pos U l own=>U≤pos∧pos≤s.length∧l.length≤pos∧own.Bn st∧Dt s 0 0=l++Dt s U pos) (fun pos _ _ _=>s.length - pos) 0 0 [] .full ⟨by omega,by omega,by simp,trivial,rfl⟩ Yl (St.le_refl _) ?_
 rintro pos U l own ⟨h1,h2,h3,h4,h5⟩
 have hn:=V8 (s.drop pos)
 rw [List.length_drop] at hn
 repeat' ((conv=>whnf);first|(refine BJ ?_;intros)|(refine BK ?_ ?_<;>intro _)|refine pF (fun _=>?_) ?_|refine QP (by omega) (by omega) ?_|refine oN (by omega) ?_|refine oO (by omega) ?_|refine ca h4 (by omega) (fun own' ho=>?_))
 ·conv=>whnf
  exact ⟨(pos+GG (s.drop pos),pos+GG (s.drop pos),l++[(s.take pos).drop U],own'),⟨Nat.le_refl _,by dsimp only;omega,by dsimp only;rw [List.length_append,List.length_singleton];omega,ho,by dsimp only;rw [h5,ab (by omega) (by omega),List.append_assoc];rfl⟩,by dsimp only;omega,Yl,St.le_refl _⟩
 ·conv=>whnf
  exact ⟨(pos+1,U,l,own),⟨by dsimp only;omega,by dsimp only;omega,by dsimp only;omega,h4,by dsimp only;rw [h5,Z9 (by omega) (by omega)]⟩,by dsimp only;omega,Yl,St.le_refl _⟩
 ·exact fin (by have:=h own' ho;rw [h5,VZ (by omega)] at this;exact this) rfl
end
end Go.Proofs.YtkidoddkbhchkaaGreatDoor
namespace Go.Aw
open Go
def oU:List (List UInt8):=[[95],[99,97,115,101],[99,108,97,115,115],[100,97,116,97],[100,101,102,97,117,108,116],[100,101,114,105,118,105,110,103],[100,111],[101,108,115,101],[102,111,114,101,105,103,110],[105,102],[105,109,112,111,114,116],[105,110],[105,110,102,105,120],[105,110,102,105,120,108],[105,110,102,105,120,114],[105,110,115,116,97,110,99,101],[108,101,116],[109,111,100,117,108,101],[110,101,119,116,121,112,101],[111,102],[116,104,101,110],[116,121,112,101],[119,104,101,114,101]]
def eN:List (List UInt8):=[[46,46],[58],[58,58],[61],[92],[124],[60,45],[45,62],[64],[126],[61,62]]
def nE (w:List UInt8):Bool:=oU.contains w
def gx (w:List UInt8):Int:=if eN.contains w then 10 else if AQ w=58 then 6 else 5
def Hf (c:Int):Bool:=AF c==2||AF c==3||AF c==4||c==39
def Ko (l:List UInt8):Nat:=BI Hf l
def Gx (l:List UInt8):Int:=match l with
 |[]=>0
 |a::r=>AF ((AH (a::r)).1:Nat)
def Bk (l:List UInt8):Int×Nat:=
 if Gx l=6 then (15,1)
 else if Gx l=5 then (gx (l.take (BI (fun c=>AF c==5) l)),BI (fun c=>AF c==5) l)
 else if Gx l=3 then (2,Ko l)
 else if Gx l=2 then (if nE (l.take (Ko l)) then 9 else 1,Ko l)
 else (0,0)
def Jv (k:Int):Int:=if k=1 then 3 else if k=2 then 4 else if k=5 then 7 else if k=6 then 8 else 0
theorem Ez (c:UInt8) (l:List UInt8):[c].isPrefixOf l=decide (AQ l=(c.toNat:Nat)):=by
 cases l with
 |nil=>exact (decide_eq_false (fun e=>by have h:(-1:Int)=(c.toNat:Nat):=e;omega)).symm
 |cons a r=>
  show (c==a&&true)=decide (((a.toNat:Nat):Int)=(c.toNat:Nat))
  rw [Bool.and_true,Bool.eq_iff_iff,beq_iff_eq,decide_eq_true_iff]
  exact ⟨fun e=>by rw [e],fun e=>UInt8.toNat_inj.1 (by omega)⟩
end Go.Aw
namespace Go.Proofs.YtkidoddkbhchkaaGreatDoor
open Go Go.Aw
section
variable {st:St} {R:AM→St→Prop}
theorem W4 {w:List UInt8} (h:R (.ret (.bool (nE w))) st):PC 327 [.str w] st R:=by
 refine Aa Ac [] Tryz.func327 rfl (by decide) ?_
 repeat' ((conv=>whnf);first|(refine BJ ?_;intros)|(refine BK ?_ ?_<;>intro _)|fail)
 all_goals exact fin h (congrArg (fun b=>AM.ret (V.bool b)) (by first|(subst_vars;decide)|(simp only [nE,oU];simp_all)))
theorem aY {w:List UInt8} (h:R (.ret (.int .i64 (gx w))) st):PC 325 [.str w] st R:=by
 refine Aa Ac [] Tryz.func325 rfl (by decide) ?_
 repeat' ((conv=>whnf);first|(refine BJ ?_;intros)|(refine BK ?_ ?_<;>intro _)|refine HK ?_)
 all_goals try rename_i U
 all_goals try rw [Ez,decide_eq_true_eq] at U
 all_goals try rw [Ez,decide_eq_false_iff_not] at U
 all_goals exact fin h (BD (by first|(subst_vars;decide)|(have U:AQ w=58:=U;simp only [gx,eN];simp_all)|(have U:¬AQ w=58:=U;simp only [gx,eN];simp_all)))
theorem gL {c:Int} (h:R (.ret (.bool (Hf c))) st):PC 350 [.int .i32 c] st R:=by
 refine Aa Ac [] Tryz.func350 rfl (by decide) ?_
 repeat' ((conv=>whnf);first|(refine BJ ?_;intros)|(refine BK ?_ ?_<;>intro _)|refine JL ?_)
 all_goals exact fin h (congrArg (fun b=>AM.ret (V.bool b)) (by simp only [Hf];simp_all))
theorem Ug {k:Int} (h:R (.ret (.int .i64 (Jv k))) st):PC 284 [.int .i64 k] st R:=by
 refine Aa Ac [] Tryz.func284 rfl (by decide) ?_
 repeat' ((conv=>whnf);first|(refine BJ ?_;intros)|(refine BK ?_ ?_<;>intro _)|fail)
 all_goals exact fin h (BD (by unfold Jv;(repeat' split)<;>omega))
end
theorem MM (s:List UInt8):Gx s=if (Lp s 0).2=0 then 0 else AF (Lp s 0).1:=by
 cases s with
 |nil=>rw [QQ (by simp)];rfl
 |cons a r=>
  have U:=DA (a::r)
  rw [Lq (by omega) (by simp),show (0:Int).toNat=0 from rfl,List.drop_zero,XM (by simp),if_neg (by dsimp only;omega)]
  rfl
section
variable {st:St} {R:AM→St→Prop}
theorem nn {s:List UInt8} (hl:s.length<4611686018427387904) (h:R (.ret (.str (s.take (Ko s)))) st):PC 326 [.str s] st R:=by
 refine Aa Ac [] Tryz.func326 rfl (by decide) ?_
 repeat' ((conv=>whnf);first|(refine BJ ?_;intros)|(refine BK ?_ ?_<;>intro _)|fail)
 refine Pb (α:=Nat) (fun _=>[]) (fun pos=>[(0,[.Nk s pos])]) [0,6] [] (fun _=>st) (fun pos=>pos≤s.length∧Ko s=pos+BI Hf (s.drop pos)) (fun pos=>s.length - pos) 0 ⟨Nat.zero_le _,by simp [Ko]⟩ Yl (St.le_refl _) ?_
 rintro pos ⟨hp,hi⟩
 repeat' ((conv=>whnf);first|(refine BJ ?_;intros)|(refine BK ?_ ?_<;>intro _)|refine gL ?_)
 ·rename_i U c m hd hk
  have hr:=rune_le U hd
  conv=>whnf
  exact ⟨pos+m,⟨hr.1,NZ U hd hk hi⟩,by omega,Yl,St.le_refl _⟩
 ·rename_i U c m hd hk
  have:=SC (p:=fun d=>Hf (d.1:Nat)) hd hk hi
  exact fin h (by rw [this];rfl)
 ·rename_i U
  have:=PN U hi
  exact fin h (by rw [this,List.take_of_length_le (by omega)])
theorem jz {s:List UInt8} (U:s.length<4611686018427387904) (h:R (.ret (.int .i64 (Gx s))) st):PC 324 [.str s] st R:=by
 refine Aa Ac [] Tryz.func324 rfl (by decide) ?_
 repeat' ((conv=>whnf);first|(refine BJ ?_;intros)|(refine BK ?_ ?_<;>intro _)|refine eX U ?_|refine JL ?_)
 ·exact fin h (BD (by rw [MM,if_pos (by assumption)]))
 ·exact fin h (BD (by rw [MM,if_neg (by assumption)]))
end
theorem pz {s:List UInt8} {k:Int}:kI s 0 k=(BI (fun c=>AF c==k) s:Nat):=by
 rw [NV (by omega) (by omega)];simp
theorem ZW {s:List UInt8} (h:¬Gx s=0):0<s.length:=by
 cases s with
 |nil=>exact absurd rfl h
 |cons a r=>simp
section
variable {st:St} {R:AM→St→Prop}
theorem lV {s:List UInt8} {k:Int} (U:s.length<4611686018427387904) (h:R (.ret (.int .i64 (BI (fun c=>AF c==k) s:Nat))) st):PC 86 [.str s,.int .i64 0,.int .i64 k] st R:=lU U (by rw [pz];exact h)
theorem YD {s:List UInt8} (U:s.length<4611686018427387904) (h:R (.ret (.Bo [.int .i64 (Bk s).1,.str (s.take (Bk s).2)])) st):PC 283 [.str s] st R:=by
 have hr:=Fj (fun c=>AF c==5) s
 have hne:Gx s=0∨0<s.length:=by
  by_cases h0:Gx s=0
  ·exact .inl h0
  ·exact .inr (ZW h0)
 refine Aa Ac [] Tryz.func283 rfl (by decide) ?_
 repeat' ((conv=>whnf);first|exact Di|(refine BJ ?_;intros)|(refine Dj ?_ ?_ ?_;rotate_left)|(refine BK ?_ ?_<;>intro _)|refine jz U ?_|refine lV U ?_|refine aY ?_|refine nn U ?_|refine W4 ?_|with_reducible refine WF ?_)
 ·exact fin h (by unfold Bk;rw [if_pos (by assumption)];rfl)
 ·exact fin h (by unfold Bk;rw [if_neg (by omega),if_pos (by omega)];rfl)
 ·exact fin h (by unfold Bk;rw [if_neg (by omega),if_neg (by omega),if_pos (by omega)])
 ·exact fin h (by unfold Bk;rw [if_neg (by omega),if_neg (by omega),if_neg (by omega),if_pos (by omega),if_pos (by assumption)])
 ·exact fin h (by unfold Bk;rw [if_neg (by omega),if_neg (by omega),if_neg (by omega),if_pos (by omega),if_neg (by simp_all)])
 ·exact fin h (by unfold Bk;rw [if_neg (by omega),if_neg (by omega),if_neg (by omega),if_neg (by omega)];rfl)
end
end Go.Proofs.YtkidoddkbhchkaaGreatDoor
namespace Go.Aw
open Go
def F1 (s:List UInt8) (n:Nat) (k:Int):Int×Nat:=
 if h:n<s.length then
  if (k=2∨k=4)∧AQ (s.drop n)=46∧Jv (Bk (s.drop (n+1))).1≠0 then F1 s (n+1+(Bk (s.drop (n+1))).2) (Jv (Bk (s.drop (n+1))).1) else (k,n)
 else (k,n)
termination_by s.length - n
decreasing_by omega
def Dh (s:List UInt8):Int×Nat:=F1 s (Bk s).2 (Bk s).1
theorem Uw {s:List UInt8} {n:Nat} {k:Int} (h:¬(n<s.length∧(k=2∨k=4)∧AQ (s.drop n)=46∧Jv (Bk (s.drop (n+1))).1≠0)):F1 s n k=(k,n):=by
 rw [F1]
 split
 ·rw [if_neg (fun e=>h ⟨by assumption,e⟩)]
 ·rfl
theorem fX {s:List UInt8} {n:Nat} {k:Int} (h:n<s.length) (e:(k=2∨k=4)∧AQ (s.drop n)=46∧Jv (Bk (s.drop (n+1))).1≠0):F1 s n k=F1 s (n+1+(Bk (s.drop (n+1))).2) (Jv (Bk (s.drop (n+1))).1):=by
 rw [F1,dif_pos h,if_pos e]
theorem JW (s:List UInt8):(Bk s).2≤s.length:=by
 have hf:Gx s=0∨0<s.length:=by
  cases s with
  |nil=>exact .inl rfl
  |cons a r=>exact .inr (by simp)
 have U:=Fj (fun c=>AF c==5) s
 have h2:Ko s≤s.length:=Fj _ s
 unfold Bk
 (repeat' split)<;>first|omega|(dsimp only;omega)
end Go.Aw
namespace Go.Proofs.YtkidoddkbhchkaaGreatDoor
open Go Go.Aw
section
variable {st:St} {R:AM→St→Prop}
theorem oi {s w:List UInt8} {n:Nat} (U:w.length=n) (h:R (.ret (.bool (decide (AQ (s.drop n)=46)))) st):PC 87 [.str (s.drop ((w.length:Nat):Int).toNat),.str [46]] st R:=by
 refine HK ?_
 rw [Ez,U,show ((n:Nat):Int).toNat=n by omega]
 exact h
theorem fA {s w:List UInt8} {n:Nat} (hl:s.length≤100000000) (U:w.length=n) (h:R (.ret (.Bo [.int .i64 (Bk (s.drop (n+1))).1,.str ((s.drop (n+1)).take (Bk (s.drop (n+1))).2)])) st):PC 283 [.str (s.drop (((w.length:Nat):Int)+1).toNat)] st R:=by
 rw [U,show (((n:Nat):Int)+1).toNat=n+1 by omega]
 exact YD (by rw [List.length_drop];omega) h
theorem kL {s w v:List UInt8} {n m:Nat} {K:List UInt8→Prop} (U:w.length=n) (h2:v.length=m) (h:n+1+m≤s.length) (k:K (s.take (n+1+m))):
 ((0:Int)≤0∧0≤((w.length:Nat):Int)+1+((v.length:Nat):Int)∧((w.length:Nat):Int)+1+((v.length:Nat):Int)≤s.length)∧∀s',s'=(s.take (((w.length:Nat):Int)+1+((v.length:Nat):Int)).toNat).drop (0:Int).toNat→K s':=by
 subst U;subst h2
 refine WO (by omega) (by omega) ?_
 rw [show (((w.length:Nat):Int)+1+((v.length:Nat):Int)).toNat=w.length+1+v.length by omega]
 exact k
theorem cQ (s:List UInt8) (n:Nat):¬AQ (s.drop n)=46∨n<s.length:=by
 by_cases h:n<s.length
 ·exact .inr h
 ·rw [Gy (by omega)];exact .inl (by decide)
theorem ll {s:List UInt8} (hl:s.length≤100000000) (h:∀ahead:Int,R (.ret (.Bo [.int .i64 (Dh s).1,.str (s.take (Dh s).2),.int .i64 ahead])) st):PC 230 [.str s] st R:=by
 refine Aa Ac [] Tryz.func230 rfl (by decide) ?_
 repeat' ((conv=>whnf);first|exact Di|(refine BJ ?_;intros)|(refine Dj ?_ ?_ ?_;rotate_left)|(refine BK ?_ ?_<;>intro _)|refine YD (by omega) ?_|with_reducible refine WF ?_)
 refine R0 (α:=Nat) (β:=Int) (γ:=Int) (fun n k a=>[(2,.int .i64 k),(3,.str (s.take n)),(4,.int .i64 a)]) (fun _ _ _=>[]) [0] [] (fun _ _ _=>st) (fun n k _=>n≤s.length∧Dh s=F1 s n k) (fun n _ _=>s.length - n) (Bk s).2 (Bk s).1 0 ⟨JW s,rfl⟩ Yl (St.le_refl _) ?_
 rintro n k a ⟨h1,h2⟩
 have U:(s.take n).length=n:=by rw [List.length_take];omega
 have hp:=JW (s.drop (n+1))
 rw [List.length_drop] at hp
 have hdl:=cQ s n
 have ht2:((s.drop (n+1)).take (Bk (s.drop (n+1))).2).length=(Bk (s.drop (n+1))).2:=by rw [List.length_take,List.length_drop];omega
 repeat' ((conv=>whnf);first|with_reducible refine kL U ht2 (by omega) ?_|exact Di|(refine BJ ?_;intros)|(refine Dj ?_ ?_ ?_;rotate_left)|(refine BK ?_ ?_<;>intro _)|refine oi U ?_|refine fA hl U ?_|refine Ug ?_|with_reducible refine WF ?_)
 all_goals first
  |exact fin (by have:=h a;rw [h2,Uw (by omega)] at this;exact this) rfl
  |(conv=>whnf
    exact ⟨(n+1+(Bk (s.drop (n+1))).2,Jv (Bk (s.drop (n+1))).1,(((s.take n).length:Nat):Int)+1),⟨by dsimp only;omega,by dsimp only;rw [h2,fX (by omega) ⟨by omega,by omega,by omega⟩]⟩,by dsimp only;omega,Yl,St.le_refl _⟩)
end
end Go.Proofs.YtkidoddkbhchkaaGreatDoor
namespace Go.Aw
open Go
def Fm (s:List UInt8) (pos:Nat):Int×Int:=if (Dh (s.drop pos)).1=0 then (0,0) else ((Dh (s.drop pos)).1,(pos+(Dh (s.drop pos)).2:Nat))
theorem fZ {s:List UInt8} {n:Nat} {k:Int} (h:n≤s.length):(F1 s n k).2≤s.length:=by
 fun_induction F1 s n k with
 |case1 n k U hc ih=>
  have:=JW (s.drop (n+1))
  rw [List.length_drop] at this
  exact ih (by omega)
 |case2 n k U hc=>exact h
 |case3 n k U=>exact h
theorem UX (s:List UInt8):(Dh s).2≤s.length:=fZ (JW s)
end Go.Aw
namespace Go.Proofs.YtkidoddkbhchkaaGreatDoor
open Go Go.Aw
section
variable {st:St} {R:AM→St→Prop}
theorem gP {s:List UInt8} {pos:Nat} (hl:s.length≤100000000) (hp:pos<s.length) (h:R (.ret (.Bo [.int .i64 (Fm s pos).1,.int .i64 (Fm s pos).2])) st):PC 156 [.str s,.int .i64 pos] st R:=by
 have ht:((s.drop pos).take (Dh (s.drop pos)).2).length=(Dh (s.drop pos)).2:=by rw [List.length_take];have:=UX (s.drop pos);omega
 have hw:=UX (s.drop pos)
 rw [List.length_drop] at hw
 have U:(s.drop pos).length≤100000000:=by rw [List.length_drop];omega
 refine Aa Ac [] Tryz.func156 rfl (by decide) ?_
 repeat' ((conv=>whnf);first|(refine BJ ?_;intros)|(refine BK ?_ ?_<;>intro _)|refine ll U (fun _=>?_))
 ·exact fin h (by unfold Fm;rw [if_pos (by assumption)];simp_all)
 ·exact fin h (by unfold Fm;rw [if_neg (by assumption)];simp only [];rw [show (pos:Int).toNat=pos by omega] at *;rw [ht];rfl)
end
end Go.Proofs.YtkidoddkbhchkaaGreatDoor
namespace Go.Aw
open Go
def Bs (base:Int):List UInt8→Nat
 |[]=>0
 |a::r=>if Bx ((a.toNat:Nat):Int) base<0 then 0 else Bs base r+1
def Eb (l:List UInt8):Int:=if AQ (l.drop 1)=111∨AQ (l.drop 1)=79 then 8 else if AQ (l.drop 1)=120∨AQ (l.drop 1)=88 then 16 else 10
def Cn (l:List UInt8):Int×Nat:=if AQ l=48∧Eb l≠10∧Bs (Eb l) (l.drop 2)≠0 then (Eb l,2) else (10,0)
def Kq (l:List UInt8):Nat:=if AQ l=43∨AQ l=45 then 1 else 0
def Lc (l:List UInt8):Nat:=
 if (AQ l=101∨AQ l=69)∧Bs 10 (l.drop (1+Kq (l.drop 1)))≠0 then 1+Kq (l.drop 1)+Bs 10 (l.drop (1+Kq (l.drop 1))) else 0
def HA (l:List UInt8):Nat:=if AQ l=46∧Bs 10 (l.drop 1)≠0 then 1+Bs 10 (l.drop 1) else 0
def DM (l:List UInt8):Int×Nat:=
 if (Cn l).1≠10 then (11,2+Bs (Cn l).1 (l.drop 2))
 else if Bs 10 l=0 then (0,0)
 else
  (if 0<HA (l.drop (Bs 10 l))∨0<Lc (l.drop (Bs 10 l+HA (l.drop (Bs 10 l)))) then 12 else 11,
    Bs 10 l+HA (l.drop (Bs 10 l))+Lc (l.drop (Bs 10 l+HA (l.drop (Bs 10 l)))))
theorem B9 {l:List UInt8} {k:Nat} (h:0≤AQ (l.drop k)):k<l.length:=by
 by_cases U:k<l.length
 ·exact U
 ·rw [List.drop_eq_nil_iff.2 (by omega)] at h;exact absurd h (by decide)
theorem Dp {a:UInt8} {r:List UInt8} (h:a.toNat<128):AH (a::r)=(a.toNat,1):=by
 unfold AH;dsimp only;rw [if_pos (by simpa using h)]
theorem NA {a:UInt8} {r:List UInt8} (h:¬a.toNat<128):128≤(AH (a::r)).1:=by
 unfold AH;dsimp only;rw [if_neg (by simpa using h)]
 have U:=a.toNat_lt
 repeat' split
 all_goals simp_all
 all_goals omega
theorem Ht {c base:Int} (h:128≤c):Bx c base<0:=by
 have U:(if 48≤c∧c≤57 then c - 48 else if 97≤c∧c≤102 then c - 87 else if 65≤c∧c≤70 then c - 55 else 16)=16:=by
  rw [if_neg (by omega),if_neg (by omega),if_neg (by omega)]
 unfold Bx;dsimp only
 rw [U,if_pos (by omega)];omega
theorem D7 (base:Int) (l:List UInt8):Bs base l≤l.length:=by
 induction l with
 |nil=>exact Nat.le_refl _
 |cons a r U=>unfold Bs;split<;>simp only [List.length_cons]<;>omega
theorem LH {base:Int} {s:List UInt8} {pos c m:Nat} (h:pos<s.length) (U:(c,m)=AH (s.drop pos)) (k:¬Bx (c:Int) base<0):m=1∧Bs base (s.drop pos)=Bs base (s.drop (pos+1))+1:=by
 rw [List.drop_eq_getElem_cons h] at U ⊢
 by_cases hb:s[pos].toNat<128
 ·rw [Dp hb] at U
  injection U with h1 h2
  subst h1;subst h2
  exact ⟨rfl,by rw [Bs,if_neg k]⟩
 ·have:=NA (r:=s.drop (pos+1)) hb
  rw [←U] at this
  exact absurd (Ht (c:=(c:Int)) (base:=base) (by dsimp only at this;omega)) k
theorem G3 {base:Int} {s:List UInt8} {pos c m:Nat} (h:pos<s.length) (U:(c,m)=AH (s.drop pos)) (k:Bx (c:Int) base<0):Bs base (s.drop pos)=0:=by
 rw [List.drop_eq_getElem_cons h] at U ⊢
 by_cases hb:s[pos].toNat<128
 ·rw [Dp hb] at U
  injection U with h1 h2
  subst h1
  rw [Bs,if_pos k]
 ·rw [Bs,if_pos (Ht (by omega))]
theorem J0 {base:Int} {s:List UInt8} {pos:Nat} (h:s.length≤pos):Bs base (s.drop pos)=0:=by rw [List.drop_eq_nil_iff.2 h];rfl
theorem TF (l:List UInt8):HA l≤l.length:=by
 have:=D7 10 (l.drop 1)
 rw [List.length_drop] at this
 unfold HA;split<;>omega
theorem X6 (l:List UInt8):Lc l≤l.length:=by
 have:=D7 10 (l.drop (1+Kq (l.drop 1)))
 rw [List.length_drop] at this
 unfold Lc;split<;>omega
theorem Sd (l:List UInt8):(DM l).2≤l.length:=by
 have h1:=D7 10 l
 have U:=D7 (Cn l).1 (l.drop 2)
 have h3:=TF (l.drop (Bs 10 l))
 have h4:=X6 (l.drop (Bs 10 l+HA (l.drop (Bs 10 l))))
 rw [List.length_drop] at U h3 h4
 have h5:(Cn l).1≠10→2≤l.length:=fun e=>by
  unfold Cn at e
  split at e
  ·rename_i hc
   have:=D7 (Eb l) (l.drop 2)
   rw [List.length_drop] at this
   omega
  ·exact absurd rfl e
 unfold DM
 split
 ·have:=h5 (by assumption);dsimp only;omega
 ·split
  ·exact Nat.zero_le _
  ·dsimp only;omega
theorem ZT {a:Int} {K:Int→Prop} (U: -2147483648≤a) (h2:a≤2147483647) (k:K a):∃r,r=IntKind.i32.wrap a∧K r:=⟨a,(IntWalk.i32_in _ ⟨U,h2⟩).symm,k⟩
end Go.Aw
namespace Go.Proofs.YtkidoddkbhchkaaGreatDoor
open Go Go.Aw
section
variable {st:St} {R:AM→St→Prop}
theorem K5 {c b:Int} (h:R (.ret (.int .i64 (Bx c b))) st):PC 300 [.int .i32 c,.int .i64 b] st R:=by
 refine Aa Ac [] Tryz.func300 rfl (by decide) ?_
 repeat' ((conv=>whnf);first|(refine BJ ?_;intros)|(refine BK ?_ ?_<;>intro _)|refine ZT (by omega) (by omega) ?_)
 all_goals exact fin h (BD (by unfold Bx;dsimp only;(repeat' split)<;>omega))
theorem lS {s:List UInt8} {b:Int} (hl:s.length<4611686018427387904) (h:R (.ret (.int .i64 (Bs b s:Nat))) st):PC 279 [.str s,.int .i64 b] st R:=by
 refine Aa Ac [] Tryz.func279 rfl (by decide) ?_
 repeat' ((conv=>whnf);first|(refine BJ ?_;intros)|(refine BK ?_ ?_<;>intro _)|fail)
 refine Pb (α:=Nat) (fun _=>[]) (fun pos=>[(0,[.Nk s pos])]) [0,1,8] [] (fun _=>st) (fun pos=>pos≤s.length∧Bs b s=pos+Bs b (s.drop pos)) (fun pos=>s.length - pos) 0 ⟨Nat.zero_le _,by simp⟩ Yl (St.le_refl _) ?_
 rintro pos ⟨hp,hi⟩
 repeat' ((conv=>whnf);first|(refine BJ ?_;intros)|(refine BK ?_ ?_<;>intro _)|refine K5 ?_)
 ·rename_i U c m hd hk
  have:=G3 U hd hk
  exact fin h (BD (by omega))
 ·rename_i U c m hd hk
  obtain ⟨e1,e2⟩:=LH U hd hk
  conv=>whnf
  exact ⟨pos+m,⟨by omega,by rw [e1];omega⟩,by omega,Yl,St.le_refl _⟩
 ·rename_i U hls
  have:=J0 (base:=b) (s:=s) (pos:=pos) (by omega)
  exact fin h (BD (by omega))
end
end Go.Proofs.YtkidoddkbhchkaaGreatDoor
