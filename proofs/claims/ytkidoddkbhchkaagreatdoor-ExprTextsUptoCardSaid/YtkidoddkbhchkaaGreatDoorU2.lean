/-
  Parts of a proof: lemmas that the last text uses.
-/
import Derived.Test.YtkidoddkbhchkaaGreatDoorU1
import Derived.Recover
import Derived.IntWalk
import Derived.Shelf.Strings.Builder1
import Derived.Shelf.Strings.Builder2
import Derived.Shelf.Strings.OnBuilder
import Derived.Shelf.Strings.Trim
import Derived.Shelf.Small.Utf8
import Derived.Shelf.Small.Strs
import Derived.Shelf.Strings.BuilderF
import Derived.Shelf.Strings.Builder2Cap
import Derived.Shelf.Strings.Search1
import Derived.Shelf.Strings.Search2
import Derived.Shelf.Strings.Search3
import Derived.Shelf.LaysM
import Derived.Shelf.Strings.Shaped
import Derived.Shelf.GgClosure.StringsIndexFunc
import Derived.Ground.GgwProg
import Derived.Shelf.GgClosure.StringsIndexFuncTop
import Derived.Shelf.GgClosure.StringsRunes
import Derived.Shelf.Strings.Prefix
import Derived.Shelf.Strings.Fields
import Derived.Shelf.Strings.SplitShaped
import Derived.Shelf.Unicode.Latin
import Derived.Shelf.Unicode.Decode
import Derived.Shelf.Strings.Runes
import Derived.Shelf.Strings.AsciiSet
import Derived.Shelf.Unicode.DecodeSlow
import Derived.Shelf.Unicode.DecodeAny
import Derived.Shelf.Unicode.Is16White
import Derived.Shelf.Unicode.IsSpaceAny
import Derived.Shelf.Unicode.DecodeLast
import Derived.Shelf.Unicode.Is16Any
import Derived.Shelf.Unicode.Is32Any
import Derived.Shelf.Unicode.ExclAny
import Derived.Shelf.Strings.FuncGrows
import Derived.Shelf.Slices.Turned
import Derived.Ground.Names2Prog
import Derived.Shelf.Slices.Clone
import Derived.Ground.SlgnProg
import Derived.Shelf.SlicesE.Clone
import Derived.Test.YtkidoddkbhchkaaGreatDoorProg
import Derived.Below
open Go.Proofs.YtkidoddkbhchkaaGreatDoor
set_option linter.unusedVariables false
set_option linter.unusedSimpArgs false
set_option maxHeartbeats 16000000
variable {Q:Go.Aw.AM->Go.Aw.Env->Go.Aw.St->Prop} {I:Go.Aw.Mem} {fn:Go.Func} {args cs:List Go.Aw.V} {f g:Go.FuncId} {R:Go.Aw.AL->Go.Aw.St->Prop} {rest:Go.Code} {rid b:Nat} {mk:Nat->List Go.Aw.V} {x s t o:List UInt8} {α β:Type} {p:Go.Aw.Nd->Bool} {K:Go.Aw.V->Go.Aw.St->Prop} {l new:List Go.Aw.Nd} {i a d:Int} {es:List (List Go.Aw.V)} {st' st0:Go.Aw.St} {P A B:Prop} {n:Go.Aw.Nd} {ih:(Go.Aw.AM->Go.Aw.Env->Go.Aw.St->Prop)->Go.Aw.Env->Go.Aw.St->Prop} {env:Go.Aw.Env} {T:List (Nat×Go.Aw.Ty)} {rows:List (Go.Aw.AF×List Go.Aw.Nd)} {kinds:List Int}
namespace Go.Aw
open Go
section
variable {D:List Deferred} {P:Program} {T:List (Nat×Ty)} {C:FuncId->List V->St->(AL->St->Prop)->Prop} {I0 I:Mem} {st0 st:St} {w0 w:World} {β:Nat->Option Nat} {env:Env} {a:Act}
def Ib (all:List Oper) (U:List (List Bool×Nat)):Bool:=
 ((List.range all.length).all λj=> !(C1 all (List.replicate all.length false) j)||U.contains (List.replicate all.length false,j))&&
 ((List.replicate all.length false==List.replicate all.length true)||(List.range all.length).any λj=>C1 all (List.replicate all.length false) j)&&
 U.all λp=>(p.1.length==all.length)&&((List.range all.length).all λj=> !(C1 all (p.1.set p.2 true) j)||U.contains (p.1.set p.2 true,j))&&
  ((p.1.set p.2 true==List.replicate all.length true)||(List.range all.length).any λj=>C1 all (p.1.set p.2 true) j)
def kW (T:List (Nat×Ty)) (C:FuncId->List V->St->(AL->St->Prop)->Prop) (all:List Oper) (Q:AM->Env->St->Prop) (E:List Bool->Env) (S:List Bool->St) (p:List Bool×Nat):Prop:=
 match all[p.2]? with
 |some o=>Bt all o (E p.1) (Jg T C o (E p.1) (S p.1) (λv env st=>env.go o.dst v λenv=>(E (p.1.set p.2 true)).C7 env/\St.le (S (p.1.set p.2 true)) st) Q)
   ((E p.1).go o.dst (.Bh []) λenv=>(E (p.1.set p.2 true)).C7 env/\St.le (S (p.1.set p.2 true)) (S p.1))
 |none=>True
theorem cu (hT:Hf P T) (hC:∀f args st R,C f args st R->Dp P f args st R/\Plain P f) {all:List Oper} {E:List Bool->Env} {S:List Bool->St} {PL:List (List Bool×Nat)}
 (hc:Ib all PL=true) (step:∀p ∈ PL,kW T C all Q E S p) (fin:Q .normal (E (List.replicate all.length true)) (S (List.replicate all.length true))):
 ∀(fuel:Nat) (bs:List Bool) (listed:Array Bool) (I:Mem) (β:Nat->Option Nat) (a:Act) (w:World),bs.length=all.length->listed.toList=bs->bs.count false<=fuel->
  (∀j,j<all.length->C1 all bs j=true->(bs,j) ∈ PL)->(bs=List.replicate all.length true\/∃j,j<all.length/\C1 all bs j=true)->
  Rel D I0 st0 w0 I β (E bs) (S bs) a w->wpAny P .any all.toArray (Cg D I0 st0 w0 Q) fuel listed a w:=by
 have full:∀{bs:List Bool},bs.length=all.length->bs.count false=0->bs=List.replicate all.length true:=λ{bs} hb h0=>by
  rw [List.eq_replicate_iff]
  refine ⟨hb,λb hb=>?_⟩
  cases b with
  |true=>rfl
  |false=>have:=List.count_pos_iff.2 hb;omega
 have noready:∀{j:Nat},C1 all (List.replicate all.length true) j=true->j<all.length->False:=λ{j} h hj=>by
  unfold C1 at h
  simp only [Bool.and_eq_true,Bool.not_eq_true'] at h
  have:=h.1
  rw [List.getD_eq_getElem?_getD,List.getElem?_replicate,if_pos hj] at this
  cases this
 simp only [Ib,Bool.and_eq_true,List.all_eq_true] at hc
 intro fuel
 induction fuel with
 |zero=>
  intro bs listed I β a w hb hl hf hp hr h
  have:=full hb AC
  subst this
  refine ⟨?_,⟨I,β,_,_,.normal,h,trivial,fin⟩⟩
  rw [List.eq_nil_iff_forall_not_mem]
  intro j hj
  obtain ⟨h1,h2⟩:=(E1 hl hb).1 hj
  exact noready h2 h1
 |succ fuel ih=>
  intro bs listed I β a w hb hl hf hp hr h
  refine ⟨λh0=>?_,λi hi=>?_⟩
  .rcases hr with rfl|⟨j,h1,h2⟩
   .exact ⟨I,β,_,_,.normal,h,trivial,fin⟩
   .have:=(E1 hl hb).2 ⟨h1,h2⟩
    rw [h0] at this;cases this
  .obtain ⟨h1,h2⟩:=(E1 hl hb).1 hi
   have hm:=hp i h1 h2
   have hs:=step _ hm
   unfold kW at hs
   have ho:all[i]? =some all[i]:=List.getElem?_eq_getElem h1
   simp only [ho] at hs
   obtain ⟨⟨c1,c2⟩,c3⟩:=hc.2 _ hm
   refine MD hT hC (Q:=Q) ho (λ{I β env st a w} h k=>?_) h hs (K:=λenv st=>(E (bs.set i true)).C7 env/\St.le (S (bs.set i true)) st)
   .have hbi:i<bs.length:=AC
    refine ih (bs.set i true) _ I _ a w (by simpa using hb) (by simp [hl]) ?_ (λj hj hr=>?_) ?_ ((h.IK k.2).Ke (Env.Kf k.1))
    .have:=List.count_set (a:=true) (i:=i) (l:=bs) (b:=false) hbi
     unfold C1 at h2
     simp only [Bool.and_eq_true,Bool.not_eq_true'] at h2
     have U:=h2.1
     rw [List.getD_eq_getElem?_getD,List.getElem?_eq_getElem hbi] at U
     simp only [Option.getD_some] at U
     rw [U] at this
     have hpos:0<bs.count false:=List.count_pos_iff.2 (by rw [<-U];exact List.getElem_mem hbi)
     simp only [beq_self_eq_true,if_true,show (true==false)=false from rfl,Bool.false_eq_true,if_false] at this
     omega
    .have:=c2 j (List.mem_range.2 hj)
     rw [hr] at this
     simpa using this
    .simp only [Bool.or_eq_true,beq_iff_eq,List.any_eq_true] at c3
     rcases c3 with c3|⟨j,hj,hr⟩
     .exact .inl c3
     .exact .inr ⟨j,List.mem_range.1 hj,hr⟩
theorem Yj (hP:UP P T) (hC:∀f args st R,C f args st R->Dp P f args st R/\Plain P f) {id:Nat} {ops:Array Oper} (E:List Bool->Env) (S:List Bool->St) (PL:List (List Bool×Nat))
 (hc:Ib ops.toList PL=true) (h0:(E (List.replicate ops.toList.length false)).C7 env) (s0:St.le (S (List.replicate ops.toList.length false)) st) (step:∀p ∈ PL,kW T C ops.toList Q E S p)
 (fin:Q .normal (E (List.replicate ops.toList.length true)) (S (List.replicate ops.toList.length true))):AW P (.region id ops true) Q env st:=λD I0 st0 w0 I β a w h=>
 wp_region_any hP.m (by
  have U:=hc
  simp only [Ib,Bool.and_eq_true,List.all_eq_true] at U
  have:=cu (D:=D) hP.t hC hc step fin ops.size (List.replicate ops.toList.length false) (Array.replicate ops.size false) I _ a _ GT GT GT (λj hj hr=>?_) ?_ (((h.Kk (GZ.drew w)).IK s0).Ke (Env.Kf h0))
  .simpa using this
  .have:=U.1.1 j (List.mem_range.2 hj)
   rw [hr] at this
   simpa using this
  .have:=U.1.2
   simp only [Bool.or_eq_true,beq_iff_eq,List.any_eq_true] at this
   rcases this with h|⟨j,hj,hr⟩
   .exact .inl h
   .exact .inr ⟨j,List.mem_range.1 hj,hr⟩)
end
def V.aD:V->Bool
 | .ptr _ _=>true
 |_=>false
theorem Aj.rv {I J:Mem}:∀{vs:List V} {cs:List Value},Aj I vs cs->vs.all V.aD=true->Aj J vs cs
 |[],cs,h,_=>by simpa only [Aj] using h
 |v::vs,cs,h,k=>by
  simp only [Aj] at h |-
  obtain ⟨c,r,rfl,U,h2⟩:=h
  simp only [List.all_cons,Bool.and_eq_true] at k
  refine ⟨c,r,rfl,?_,Aj.rv h2 k.2⟩
  cases v<;>first|(simp only [AE] at U |-;exact U)|exact absurd k.1 (by simp [V.aD])
def Jx (P:Program) (g:FuncId) (args:List V) (x:Option V) (st:St) (R:St->Prop):Prop:=
 ∀(I:Mem) (w:World) (U:List Value) (u:FrameMode),CH I st w->Aj I args U->
  (match x with|none=>u=.returning|some v=>∃c,u=.panicking [{v:=c,recovered:=false}]/\AE I v c)->
  CallsD P g U.toArray u w λe u' w'=>(∃v,e=.returned v)/\settle u'=.returning/\∃I' st',Fr I st w I' st' w'/\CH I' st' w'/\R st'
section
variable {D:List Deferred} {P:Program} {T:List (Nat×Ty)} {I0 I:Mem} {st0 st:St} {w0 w:World} {β:Nat->Option Nat} {env:Env} {a:Act}
theorem Rel.defer (h:Rel D I0 st0 w0 I β env st a w) (d:Deferred):Rel (d::D) I0 st0 w0 I β env st {a with defers:=d::a.defers} w:=
 ⟨h.fr,h.s,⟨h.f.size,h.f.tmps,h.f.box,h.f.BI,h.f.inj,h.f.sep,by rw [<-h.f.defers]⟩⟩
def Xa (T:List (Nat×Ty)) (fn:Func) (R:AL->St->Prop) (env:Env) (st:St):Prop:=
 Gd T env st fn.results.toList λvs=>match vs with|[v]=>R (.ret v) st|vs=>R (.ret (.Bh vs)) st
def YU (P:Program) (T:List (Nat×Ty)) (g:FuncId) (U:List V) (fn:Func) (R:AL->St->Prop):AM->Env->St->Prop
 | .normal,env,st| .ret,env,st=>Jx P g U none st λst'=>Xa T fn R env st'
 | .Cz v,env,st=>Jx P g U (some v) st λst'=>Xa T fn R env st'
 |_,_,_=>False
def lF:AM->Env->St->Prop:=λ_ _ _=>False
theorem Hw {U:List Value} (gl:List Nat) (hs:CH I st w) (hargs:Aj I args U) (hle:Nat.ble args.length fn.ntmps=true):
 Rel [] I st w I (λ_=>none) {tmps:=J9 0 args,boxes:=[],BI:=0,sz:=fn.ntmps,gl} st
  {tmps:=U.toArray++Array.replicate (fn.ntmps - U.toArray.size) undef,defers:=[]} w:=by
 have hle:=Nat.le_of_ble_eq_true hle
 have hlen:=Aj.length hargs
 refine Rb hs cb (λt v e=>?_) rfl rfl
 obtain ⟨_,e⟩:=Qd e
 rw [Nat.sub_zero] at e
 obtain ⟨c',e1,e2⟩:=Aj.get hargs e
 have hlt:t<U.length:=by
  rcases Nat.lt_or_ge t U.length with h|h
  .exact h
  .rw [List.getElem?_eq_none h] at e1;cases e1
 have:(U.toArray++Array.replicate (fn.ntmps - U.toArray.size) undef).getD t undef=c':=by
  rw [List.getElem?_eq_getElem hlt] at e1
  injection e1 with e1
  subst e1
  simp [Array.getD,Array.getElem_append,hlt]
  omega
 rw [this]
 exact e2
theorem Nj (hP:UP P T) (gl:List Nat) (hf:P.funcs[f]? =some fn) {c0 c1:Code} {mk U:Oper}
 (hb : fn.body = some (.seq c0 (.seq c1 (.seq (.region rid #[mk, U] false) rest)))) (hn : (fn.name == "runtime.NumGoroutine") = false) {cap : Array Operand} {tf : Nat}
 (h1:mk.op=.makeFunc (.func g) #[] cap) (h2:mk.dst=some tf) (h3:mk.guard=none) (h4:U.op=.defer {callee:=.value (.tmp tf),args:=#[],argTypes:=#[]}) (h5:U.guard=none) (h6:U.dst=none)
 (hg:Plain P g) (hle:Nat.ble args.length fn.ntmps=true)
 (h:Pk T (Bc P) c0 (Bp (Pk T (Bc P) c1 (Bp (λenv st=>UM env cap.toList λvs=>vs.all V.aD=true/\env.go (some tf) (.func g [] vs) λenv=>
   AW P rest (YU P T g vs fn R) env st) lF)) lF) {tmps:=J9 0 args,boxes:=[],BI:=0,sz:=fn.ntmps,gl} st):Bc P f args st R:=by
 refine ⟨?_,fn,hf,by rw [hb];rfl,hn⟩
 intro I w cargs hs hargs
 refine calls_of_wp_defers hf hb ?_
 have hsd:=λc {Q env st} k=>NM (Q:=Q) (env:=env) (st:=st) hP (CB P) (λ_ _ _ _ _ h k=>k.mono h) c k
 refine wp_seq (wp_mono (hsd c0 h [] I st w I _ _ w (Hw gl hs hargs hle)) ?_)
 rintro e a w1 ⟨I1,β1,env1,st1,ae,r1,x1,k1⟩
 cases ae with
 |exit _|goto _|ret|Cz _=>exact k1.elim
 |normal=>
 cases e with
 |exit _|goto _|ret|panic _|outgrown=>exact x1.elim
 |normal=>
 refine wp_seq (wp_mono (hsd c1 k1 [] I st w I1 _ _ w1 r1) ?_)
 rintro e a w2 ⟨I2,β2,env2,st2,ae,r2,x2,k2⟩
 cases ae with
 |exit _|goto _|ret|Cz _=>exact k2.elim
 |normal=>
 cases e with
 |exit _|goto _|ret|panic _|outgrown=>exact x2.elim
 |normal=>
 refine wp_seq (wp_region_list ?_)
 show wpList P #[mk,U] _ [mk,U] a w2
 unfold wpList
 rw [if_pos (by simp [Region.wanted,h3])]
 left
 obtain ⟨vs,hv,kp,kg⟩:=GA r2.f (show UM env2 cap.toList _ from k2)
 have hcv:AE I2 (.func g [] vs) (.func (.func g) #[] (cap.map a.eval)):=by
  simp only [AE]
  exact ⟨[],cap.toList.map a.eval,by congr 1;apply Array.ext';simp,by simp only [Aj],hv⟩
 obtain ⟨env3,r3,k3⟩:=Ce r2 (A8.of hcv) kg
 have htf:tf<a.tmps.size:=by
  rw [r2.f.size]
  exact (N0 kg).1 tf rfl
 unfold Oper.wp
 rw [show (execOp a.eval mk).run P w2=.ok (.value (.func (.func g) #[] (cap.map a.eval))) w2 by simp only [execOp,h1,Array.map_empty];rfl]
 show wpList P #[mk,U] _ [U] (a.put mk.dst _) w2
 rw [h2]
 unfold wpList
 rw [if_pos (by simp [Region.wanted,h5])]
 left
 have hev:(a.put (some tf) (.func (.func g) #[] (cap.map a.eval))).eval (.tmp tf)=.func (.func g) #[] (cap.map a.eval):=by
  simp [Act.put,Act.eval,htf]
 unfold Oper.wp
 rw [show (execOp (a.put (some tf) (.func (.func g) #[] (cap.map a.eval))).eval U).run P w2=.ok (.defer {target:=.fn (.func g) (cap.map a.eval),args:=#[]}) w2 by
  simp only [execOp,h4,resolve,hev,Deferred.ofValue,Array.map_empty,Array.empty_append];rfl]
 rw [Oper.upon_defer]
 rw [h6]
 unfold wpList
 show rest.wp P _ _ _
 have r4:=r3.defer {target:=.fn (.func g) (cap.map a.eval),args:=#[]}
 refine wp_mono (k3 _ I st w I2 _ _ w2 r4) ?_
 rintro e a5 w5 ⟨I5,β5,env5,st5,ae,r5,x5,k5⟩
 have hd:=r5.f.defers
 obtain ⟨fn2,p1,p2,p3⟩:=hg
 have hinv:(invoke (.fn (.func g) (cap.map a.eval)) #[]).run P w5=.ok (.enter g (cap.toList.map a.eval).toArray) w5:=by
  have hb:fn2.body.isNone=false:=by cases hb:fn2.body<;>simp_all
  simp only [invoke,callFunc,Sem.run_bind,Sem.run_pure,Result.andThen_ok,run_program,p1]
  rw [p3]
  simp [hb]
  apply Array.ext';simp
 have last:∀{u:FrameMode} {x:Option V},u≠.run->(match x with|none=>u=.returning|some v=>∃c,u=.panicking [{v:=c,recovered:=false}]/\AE I5 v c)->Jx P g vs x st5 (λst'=>Xa T fn R env5 st')->
  Leaves P fn a5.tmps (λe w'=>∃I' st' r,Fr I st w I' st' w'/\CH I' st' w'/\W6 I' e r/\R r st') a5.defers u w5:=by
  intro u x hu hx k
  rw [hd]
  refine leaves_cons hu hinv ((k I5 w5 _ u r5.s (Aj.rv hv kp) hx).mono ?_)
  rintro e u' w6 ⟨⟨v,rfl⟩,hset,I6,st6,q1,q2,q3⟩
  show Leaves P fn a5.tmps _ [] (settle u') w6
  rw [hset]
  have r6:=r5.called q1 q2
  obtain ⟨v,c,g1,g2,g3⟩:=C4 (P:=P) hP.t r6 q3
  exact ⟨c,g1,I6,st6,.ret v,r6.fr,r6.s,g2,g3⟩
 cases ae with
 |normal=>
  cases e with
  |normal=>exact last (x:=none) GT rfl k5
  |_=>exact x5.elim
 |ret=>
  cases e with
  |ret=>exact last (x:=none) GT rfl k5
  |_=>exact x5.elim
 |Cz v=>
  cases e with
  |panic chain=>
   obtain ⟨c,rfl,hc⟩:=x5
   exact last (x:=some v) GT ⟨c,rfl,hc⟩ k5
  |_=>exact x5.elim
 |exit _=>exact k5.elim
 |goto _=>exact k5.elim
def n9:Option V->V
 |none=>.GH
 |some v=>v
def uc (T:List (Nat×Ty)) (fn:Func) (R:St->Prop):AM->Env->St->Prop
 | .normal,env,st| .ret,env,st=>Xa T fn (λ_ st=>R st) env st
 |_,_,_=>False
theorem F8 (hP:UP P T) (gl:List Nat) {x:Option V} {st:St} {R:St->Prop} (hf:P.funcs[g]? =some fn) {ro ao:Oper}
 (hb:fn.body=some (.seq (.region rid #[ro,ao] false) rest)) {t1 t2:Nat} {sk:Array TypeId} (h1:ro.op=.call {callee:=.builtin .recover,args:=#[],argTypes:=sk}) (h2:ro.dst=some t1) (h3:ro.guard=none)
 (h4:ao.op=.assign (.tmp t1)) (h5:ao.dst=some t2) (h6:ao.guard=none) (hle:Nat.ble args.length fn.ntmps=true)
 (h:∀env0:Env,env0={tmps:=J9 0 args,boxes:=[],BI:=0,sz:=fn.ntmps,gl}->env0.go (some t1) (n9 x) λenv=>env.go (some t2) (n9 x) λenv=>AW P rest (uc T fn R) env st):Jx P g args x st R:=by
 intro I w cargs u hs hargs hx
 refine callsD_of_wpS hf hb (λc0 cs hu=>?_)
 refine wpS_seq (wpS_region ?_)
 obtain ⟨c,cs',u',U,hrep,hcs,hset⟩:∃(c:Value) (cs':List Frame) (u':FrameMode),(match recoverD (c0::cs) with|some (v,cs1)=>c=v/\cs'=cs1|none=>c=.nilIface/\cs'=c0::cs)/\AE I (n9 x) c/\cs'={c0 with mode:=u'}::cs/\settle u'=.returning:=by
  cases x with
  |none=>
   have hx:u=.returning:=hx
   rw [hx] at hu
   refine ⟨.nilIface,c0::cs,.returning,?_,by simp only [n9,AE],?_,rfl⟩
   .simp only [recoverD,hu,and_self]
   .rw [<-hu]
  |some v=>
   obtain ⟨c,hx,hc⟩:=hx
   rw [hx] at hu
   refine ⟨c,{c0 with mode:=.panicking [{v:=c,recovered:=true}]}::cs,.panicking [{v:=c,recovered:=true}],?_,hc,rfl,rfl⟩
   simp only [recoverD,hu,and_self]
 have r0:=Hw (fn:=fn) gl hs hargs hle
 obtain ⟨env1,r1,k1⟩:=Ce r0 (A8.of hrep) (h _ rfl)
 obtain ⟨env2,r2,k2⟩:=Ce r1 (A8.of hrep) k1
 have hlt:t1<(cargs.toArray++Array.replicate (fn.ntmps - cargs.toArray.size) undef).size:=by
  have:=(N0 (h _ rfl)).1 t1 rfl
  rw [r0.f.size]
  exact this
 show wpOpsS P #[ro,ao] _ [0,1] _ _ _
 unfold wpOpsS
 simp only [List.getElem?_toArray,List.getElem?_cons_zero]
 rw [if_pos (by simp [Region.wanted,h3])]
 rw [show ∀ρ,(execOp ρ ro).run P w=.ok .recover w from λρ=>by simp only [execOp,h1];rfl]
 dsimp only
 have next:∀(b:Act) (tail:Act->List Frame->World->Prop),tail (b.put (some t1) c) cs' w->(match recoverD (c0::cs) with|some (v,cs1)=>tail (b.put ro.dst v) cs1 w|none=>tail (b.put ro.dst .nilIface) (c0::cs) w):=λb tail ht=>by
  rw [h2]
  cases hr:recoverD (c0::cs) with
  |none=>
   rw [hr] at U
   obtain ⟨rfl,rfl⟩:=U
   exact ht
  |some p=>
   obtain ⟨v,cs1⟩:=p
   rw [hr] at U
   obtain ⟨rfl,rfl⟩:=U
   exact ht
 refine next _ (λa cs w=>wpOpsS P #[ro,ao] _ [1] a cs w) ?_
 unfold wpOpsS
 simp only [List.getElem?_toArray,List.getElem?_cons_succ,List.getElem?_cons_zero]
 rw [if_pos (by simp [Region.wanted,h6])]
 have hev:∀tm:Act,t1<tm.tmps.size->(tm.put (some t1) c).eval (.tmp t1)=c:=λtm ht=>by simp [Act.put,Act.eval,ht]
 rw [show ∀ρ,(execOp ρ ao).run P w=.ok (.value (ρ (.tmp t1))) w from λρ=>by simp only [execOp,h4];rfl]
 dsimp only
 rw [Oper.upon_value,hev _ hlt,h5]
 unfold wpOpsS
 show rest.wpS P _ _ cs' w
 refine wpS_of_wp (wp_mono (k2 [] I st w I _ _ w r2) ?_)
 rintro e a5 w5 ⟨I5,β5,env5,st5,ae,r5,x5,k5⟩
 have last:Xa T fn (λ_ st=>R st) env5 st5->a5.defers=[]/\∃u',cs'={c0 with mode:=u'}::cs/\∃v,(results fn a5.tmps).run P w5=.ok v w5/\((∃v',Ending.returned v=.returned v')/\settle u'=.returning/\∃I' st',Fr I st w I' st' w5/\CH I' st' w5/\R st'):=λq=>by
  obtain ⟨v,c,g1,g2,g3⟩:=C4 (P:=P) (R:=λ_ st=>R st) hP.t r5 (show Gd T env5 st5 fn.results.toList _ from q)
  exact ⟨r5.f.defers,u',hcs,c,g1,⟨_,rfl⟩,hset,I5,st5,r5.fr,r5.s,g3⟩
 cases ae with
 |normal=>
  cases e with
  |normal=>exact last k5
  |_=>exact x5.elim
 |ret=>
  cases e with
  |ret=>exact last k5
  |_=>exact x5.elim
 |Cz v=>exact k5.elim
 |exit _=>exact k5.elim
 |goto _=>exact k5.elim
end
end Go.Aw
namespace Go.Aw
theorem Wt [BEq α] [LawfulBEq α] {a b:α} {p q:Prop} (e:a=b) (h:p):Bk (a==b) p q:=Wg (λ_=>h) (λn=>absurd e n)
theorem Wu [BEq α] [LawfulBEq α] {a b:α} {p q:Prop} (e:¬a=b) (h:q):Bk (a==b) p q:=Wg (λn=>absurd n e) (λ_=>h)
theorem Wv {c:Prop} [Decidable c] {p q:Prop} (e:c) (h:p):Bk (decide c) p q:=Wh (λ_=>h) (λn=>absurd e n)
theorem Ww {c:Prop} [Decidable c] {p q:Prop} (e:¬c) (h:q):Bk (decide c) p q:=Wh (λn=>absurd n e) (λ_=>h)
end Go.Aw
namespace Go.Proofs.Z
open Go Go.Aw
abbrev PC (f:FuncId) (args:List V) (st:St) (R:AL->St->Prop):Prop:=Bc Tryz.prog f args st R
structure Tk where
 kind:Int
 text:List UInt8
 line:Int
 CC:Int
structure Af where
 As:List Tk
 pos:Int
 BT:List Int
 wait:Int
def Tk.cells (t:Tk):List V:=[.int .i64 t.kind,.str t.text,.int .i64 t.line,.int .i64 t.CC]
def Eb (t:Tk):V:=.agg t.cells
def A4 (l:List Tk):List (List V):=l.map Tk.cells
def Af.cells (s:Af):List V:=[.slice 4 (A4 s.As) .any,.int .i64 s.pos,.slice 1 (ints s.BT) .any,.int .i64 s.wait]
def Am (s:Af):V:=.agg s.cells
def eO:Tk:=⟨0,[],0,0⟩
def Fy:Af:=⟨[],0,[],0⟩
theorem Iq (l:List Tk):(A4 l).length=l.length:=by simp [A4]
theorem CZ (l:List Int):(ints l).length=l.length:=by simp [ints]
theorem Wz {l:List Tk} {K:Nat->Prop} (k:l.length<4611686018427387904->K l.length):∀m,m=(A4 l).length->m<Fe->K m:=λm U h=>by
 rw [Iq] at U;subst U;exact k h
theorem WA {l:List Int} {K:Nat->Prop} (k:l.length<4611686018427387904->K l.length):∀m,m=(ints l).length->m<Fe->K m:=λm U h=>by
 rw [CZ] at U;subst U;exact k h
theorem WC {l:List Tk} {K:List V->Prop} (h0:0<=i) (h1:i<l.length) (k:∀x,l[i.toNat]? =some x->K x.cells):0<=i/\∃e,(A4 l)[i.toNat]? =some e/\K e:=by
 have U:i.toNat<l.length:=AC
 exact ⟨h0,l[i.toNat].cells,by simp [A4,U],k _ (List.getElem?_eq_getElem U)⟩
theorem WB {l:List Tk} {x:Tk} {K:List V->Prop} (h:l[i.toNat]? =some x) (U:0<=i) (k:K x.cells):0<=i/\∃e,(A4 l)[i.toNat]? =some e/\K e:=
 ⟨U,x.cells,by simp [A4,h],k⟩
theorem WD {l:List Int} {K:List V->Prop} (h0:0<=i) (h1:i<l.length) (k:∀x,l[i.toNat]? =some x->K [.int .i64 x]):0<=i/\∃e,(ints l)[i.toNat]? =some e/\K e:=by
 have U:i.toNat<l.length:=AC
 exact ⟨h0,[.int .i64 l[i.toNat]],by simp [ints,U],k _ (List.getElem?_eq_getElem U)⟩
theorem WE {l:List Int} {b:Int} {K:List (List V)->Prop} (h0:0<=a) (h1:a<=b) (h2:b<=l.length) (k:K (ints ((l.take b.toNat).drop a.toNat))):
 (0<=a/\a<=b/\b<=(ints l).length)/\∀U,U=(((ints l).take b.toNat).drop a.toNat)->K U:=by
 refine ⟨⟨h0,h1,by rw [CZ];exact h2⟩,λU e=>?_⟩
 have:((ints l).take b.toNat).drop a.toNat=ints ((l.take b.toNat).drop a.toNat):=by simp [ints,List.map_drop,List.map_take]
 rw [this] at e;subst e;exact k
theorem Wx {K:Bool->Prop} (h:es=[]->K true) (k:K false):∀b,(b=true->es=[])->K b
 |true,e=>h (e rfl)
 |false,_=>k
theorem Wy {K:Bool->Prop} (h:es=[]->K false) (k:K true):∀b,(b=false->es=[])->K b
 |false,e=>h (e rfl)
 |true,_=>k
theorem Kr {l new:List Int} {own:AF} {st:St} (h:own.BH st) (hb:l.length+new.length<=1000000000)
 (k:∀U:AF,U.BH st->K (.slice 1 (ints (l++new)) U) (U.st st (l++new).length)):Ag 1 8 (ints l) own (ints new) (own.st st l.length) K:=by
 have hw:(ints new).map (·.map V.Ko)=ints new:=by
  simp only [ints,List.map_map]
  exact List.map_congr_left λx _=>rfl
 have hsc:((ints new).all λv=>v.all V.sc)=true:=by
  simp only [ints,List.all_map,List.all_eq_true]
  exact λx _=>rfl
 have:=Hj (sz:=1) (bytes:=8) (es:=ints l) (new:=ints new) (K:=K) h (by rw [CZ,CZ];omega) (by rw [CZ,CZ];simp only [Fe];omega) hsc (λU ho=>by
  have:=k U ho
  rw [CZ,CZ,hw,<-show ints (l++new)=ints l++ints new from by simp [ints],<-List.length_append,Nat.mul_one]
  exact this)
 rw [CZ,Nat.mul_one] at this
 exact this
theorem Yg {l new new':List Int} {own:AF} {st:St} (e:new'=new) (h:own.BH st) (hb:l.length+new.length<=1000000000)
 (k:∀U:AF,U.BH st->K (.slice 1 (ints (l++new)) U) (U.st st (l++new).length)):Ag 1 8 (ints l) own (ints new') (own.st st l.length) K:=e ▸ Kr h hb k
section
variable {st:St} {R:AL->St->Prop}
theorem CI {r r':AL} (hs:st.le st') (e:r=r'.wk) (h:R r st):∃r2 U,(r2=r'\/r2=r'.wk)/\St.le U st'/\R r2 U:=⟨r,st,.inr e,hs,h⟩
end
theorem Di (h:P:=by with_reducible first|(show _/\_;first|exact Wa)|(show Bk _ _ _;first|exact Wb|exact Wc)|fail):P:=h
theorem Bl (k:A) (h:A->P:=by intro k;with_reducible first|(show _/\_;first|exact Wd EQ k|exact Wm ‹_› AC k|exact Wn AC AC k|exact Wo AC AC k|exact Wp AC AC AC k|exact Wr Do AC AC k|exact Ws Do k|exact WB ‹_› AC k|exact WC AC AC k|exact WD AC AC k|exact WE AC AC AC k)|(show Bk _ _ _;first|exact Wt IR k|exact Wu IR k|exact Wv AC k|exact Ww AC k|exact Wi k|exact Wj k)|(intro x y z;exact Wl k x y z)|(intro x y z;exact Wz k x y z)|(intro x y z;exact WA k x y z)|(show Exists _;first|exact Wq AC AC k)|fail):P:=h k
theorem Dj {B C:V->Prop} (k:V) (l:B k) (m:C k) (h:∀k,B k->C k->P:=by intro k l m;with_reducible first|(show Exists _;first|exact We k l m|exact W8 GE k l m|exact W0 GE k l m|exact W9 k l m)|fail):P:=h k l m
theorem Bm (k:A) (l:B) (h:A->B->P:=by intro k l;with_reducible first|(show Bk _ _ _;first|exact Wf Do k l|exact Wg k l|exact Wh k l|exact Wk k l)|fail):P:=h k l
theorem NH (k:A) (l:B) (h:A->B->P:=by intro k l;with_reducible first|(intro x y;exact Wx k l x y)|(intro x y;exact Wy k l x y)|fail):P:=h k l
section
variable {H:Type}
theorem gn {n:Nat} (d:DataW H) (vs:List V) (h:dec Tryz.prog n 50 d=some vs):∃t:Tk,vs=t.cells/\t.text.length+1<=Rows.uptoBulk d:=by
 obtain ⟨m,ds,us,rfl,hl,hm,rfl,hb⟩:=Qu Tryz.underlying50 h
 match ds,hl with
 |[d0,d1,d2,d3],_=>
  simp only [List.zip_cons_cons,List.zip_nil_right] at hm
  obtain ⟨u0,r0,h0,U,rfl⟩:=Ch hm
  obtain ⟨u1,r1,h1,hm1,rfl⟩:=Ch U
  obtain ⟨u2,r2,h2,hm2,rfl⟩:=Ch hm1
  obtain ⟨u3,r3,h3,hm3,rfl⟩:=Ch hm2
  cases hm3
  obtain ⟨k,rfl⟩:=F9 Tryz.underlying3 h0
  obtain ⟨t,rfl,ht⟩:=Z6 Tryz.underlying9 h1
  obtain ⟨l,rfl⟩:=F9 Tryz.underlying3 h2
  obtain ⟨c,rfl⟩:=F9 Tryz.underlying3 h3
  have ht:t.length+1=Rows.uptoBulk d1:=ht
  simp only [Rows.uptoBulkAll] at hb
  exact ⟨⟨k,t,l,c⟩,rfl,by show t.length+1<=_;omega⟩
theorem Yo:Tryz.prog.cellsOf 50=4:=EQ
theorem cP {n:Nat} {d:DataW H} {vs:List V} (h:dec Tryz.prog n 23 d=some vs):∃l:List Tk,vs=[.slice 4 (A4 l) .any]/\(l.map λt=>t.text.length+1).sum+1<=Rows.uptoBulk d:=by
 obtain ⟨m,es,ds,rfl,rfl,U,hb⟩:=Sl Tryz.underlying23 h
 obtain ⟨l,rfl,hs⟩:=Qt (f:=Tk.cells) (w:=λt=>t.text.length+1) (λd vs h=>gn d vs h) U
 exact ⟨l,by rw [Yo];rfl,AC⟩
end
end Go.Proofs.Z
namespace Go.Aw
open Go Go.ChangeShapes
theorem Kz {P:Program} {s:ChangeSpec} {c:OpenClaim}
 (a1:(c.wf (OpenSpec.ofChange s)&&laidOutB P&&mapsRowed P&&fn.params.all (P.readableRec ·)&&namedTie P c.named s.vars&&(c.stops==[])&&(P.stops==[])&&(c.knobs==[])&&(P.stopKnobs==[]))=true)
 (a2:(c.inPlace==P.inPlace f)=true) (a3:(c.unfollowed==P.unfollowed f)=true) (a4:(c.recurses==P.recurses f)=true) (a5:(c.named==P.varsNamed f)=true)
 (a6:((c.maps==(fn.params.toList++s.plain.varTypes P).any (P.mapsRec ·))&&(c.ifaces==(fn.params.toList++s.plain.varTypes P).any (P.ifacesRec ·))&&(c.mapsOut==P.mapsAmong fn.resultTypes.toList)&&(c.loops==(fn.params.toList++s.plain.varTypes P).any (P.loopsFrom ·))&&(c.wideKeys==(fn.params.toList++s.plain.varTypes P++fn.resultTypes.toList).any (P.wideKeysFrom ·))&&s.vars.all (P.varReadable ·)&&fn.resultTypes.all (λt=>P.readableRec t&&decide (t<P.types.size))&&(c.ifacesOut==fn.resultTypes.toList.any (P.ifacesRec ·))&&(c.loopsOut==fn.resultTypes.toList.any (P.loopsFrom ·))&&(c.plainKeys==P.plainKeys)&&c.shortTexts.isNone)=true)
 (a7:P.stopsHeard=true) (a8:P.mayEnter=true) (a9:(c.lifted==P.liftsFinal)=true) (a10:(P.make==some c.make)=true)
 (U:((c.kinds==(if c.domain.isEmpty then [] else fn.params.toList.map λt=>match P.underlying t with|some (.int k)=>some k|_=>none))&&(c.pinned==c.pinnedBy)&&(c.veiled==(fn.params.toList++s.plain.varTypes P++fn.resultTypes.toList).any (P.veiledRec ·))&&c.veiledFits P fn.params.toList (fn.params.toList++s.plain.varTypes P++fn.resultTypes.toList))=true):
 joinedFacts P f fn s c=true:=by
 unfold joinedFacts
 simp only [Bool.and_eq_true] at a1 a6 U |-
 obtain ⟨⟨⟨⟨⟨⟨⟨⟨b1,b2⟩,b3⟩,b4⟩,b5⟩,b6⟩,b7⟩,b8⟩,b9⟩:=a1
 obtain ⟨⟨⟨⟨⟨⟨⟨⟨⟨⟨d1,d2⟩,d3⟩,d4⟩,d5⟩,d6⟩,d7⟩,d8⟩,d9⟩,d10⟩,d11⟩:=a6
 obtain ⟨⟨⟨g1,g2⟩,g3⟩,g4⟩:=U
 exact ⟨⟨⟨⟨⟨⟨⟨⟨⟨⟨⟨⟨⟨⟨⟨⟨⟨⟨⟨⟨⟨⟨⟨⟨⟨⟨⟨⟨⟨⟨⟨b1,b2⟩,b3⟩,b4⟩,b5⟩,b6⟩,b7⟩,b8⟩,b9⟩,a2⟩,a3⟩,a4⟩,a5⟩,d1⟩,d2⟩,d3⟩,d4⟩,d5⟩,d6⟩,d7⟩,d8⟩,d9⟩,d10⟩,d11⟩,a7⟩,a8⟩,a9⟩,a10⟩,g1⟩,g2⟩,g3⟩,g4⟩
theorem Ja {P:Program} {c:OpenClaim} (h:P.funcs.toList.all (λf=> !f.goes)=true) (hs:c.start=.entering):false=c.goesBy P:=by
 have hall:∀f ∈ P.funcs,Func.goes f=false:=by
  intro f hf
  have:=List.all_eq_true.1 h f (by simpa using hf)
  simpa using this
 have hp:∀g,P.goes g=false:=by
  intro g
  unfold Program.goes
  have h1:((P.closure g).any λg=>(P.funcs[g]?).any Func.goes)=false:=by
   rw [Bool.eq_false_iff]
   intro hc
   obtain ⟨x, -,U⟩:=List.any_eq_true.1 hc
   cases hq:P.funcs[x]? with
   |none=>rw [hq] at U;simp at U
   |some f=>rw [hq] at U;simp only [Option.any_some] at U;rw [hall f (Array.mem_of_getElem? hq)] at U;cases U
  have h2:P.funcs.any Func.goes=false:=by
   rw [Bool.eq_false_iff]
   intro hc
   obtain ⟨i,hi,U⟩:=Array.any_eq_true.1 hc
   rw [hall _ (Array.getElem_mem hi)] at U;cases U
  rw [h1,h2];simp
 unfold OpenClaim.goesBy Program.goesAt Program.goesFrom
 rw [hs]
 cases hq:P.funcNamed c.func<;>simp [hp]
end Go.Aw
namespace Go.Proofs.Z
open Go Go.Aw Go.ChangeShapes Go.WideShapes Go.ChangeAt Go.RowKit
set_option maxRecDepth 100000
theorem IZ:Tryz.prog.stopsHeard=true:=EQ
theorem IY:Tryz.prog.mayEnter=true:=EQ
theorem I7:(false==Tryz.prog.liftsFinal)=true:=EQ
theorem KC:(Tryz.prog.make==some .cut)=true:=EQ
theorem KB:Tryz.prog.funcs.toList.all (λf=> !f.goes)=true:=EQ
theorem Da:laidOutB Tryz.prog=true:=EQ
theorem Db:mapsRowed Tryz.prog=true:=EQ
theorem KA:((List.range Tryz.prog.types.size).all λt=>match Tryz.prog.underlying t with|some (.slice e)=>decide (0<Tryz.prog.cellsOf e)|_=>true)=true:=EQ
end Go.Proofs.Z
namespace Go.Proofs.Z
open Go Go.Aw
def Fi (s:Af):Int:=(s.BT.getLast?).getD 0
theorem XQ {s:Af} (h:¬(s.BT.length:Int)>0):Fi s=0:=by
 have:s.BT=[]:=List.length_eq_zero_iff.1 AC
 simp [Fi,this]
theorem Tb {s:Af} {x:Int} (h:s.BT[((s.BT.length:Int) - 1).toNat]? =some x):Fi s=x:=by
 have e:((s.BT.length:Int) - 1).toNat=s.BT.length - 1:=AC
 rw [e] at h
 simp [Fi,List.getLast?_eq_getElem?,h]
section
variable {st:St} {R:AL->St->Prop}
theorem OZ {s:Af} (h:R (.ret (.int .i64 (Fi s))) st):PC 289 [Am s] st R:=by
 refine pB Tryz.func289 ?_
 repeat' ((conv=>whnf);first|(refine Bl ?_;intros)|(refine Bm ?_ ?_<;>intro _)|fail)
 .exact fin h (by rw [Tb ‹_›])
 .exact fin h (by rw [XQ AC])
def Ph (k:Int) (t:Tk):Tk:=⟨k,[],t.line,t.CC⟩
theorem O1 {k:Int} {t:Tk} (h:R (.ret (Eb (Ph k t))) st):PC 336 [.int .i64 k,Eb t] st R:=by
 refine pB Tryz.func336 ?_
 repeat' ((conv=>whnf);first|(refine Bl ?_;intros)|(refine Bm ?_ ?_<;>intro _)|fail)
 all_goals exact fin h rfl
attribute [local irreducible] Go.Aw.Ag
theorem Z2 {l:List Int} {own:AF} (hb:l.length<=1000000000) (h:∀U:AF,U.BH st->R (.ret (.slice 1 (ints l) U)) (U.st st l.length)):PC 334 [.slice 1 (ints l) own] st R:=by
 refine pB Tryz.func334 ?_
 repeat' ((conv=>whnf);first|(refine Bl ?_;intros)|(refine Bm ?_ ?_<;>intro _)|refine NH (λ_=>?_) ?_|fail)
 .have:l=[]:=by simpa [ints] using ‹ints l=[]›
  subst this
  exact fin (h .full trivial) rfl
 .exact Kr (l:=[]) (own:=.full) trivial (by simp only [List.length_nil];omega) λU ho=>fin (h U ho) rfl
theorem mf {l l':List Int} {own:AF} (e:l'=l) (hb:l.length<=1000000000) (h:∀U:AF,U.BH st->R (.ret (.slice 1 (ints l) U)) (U.st st l.length)):PC 334 [.slice 1 (ints l') own] st R:=e ▸ Z2 hb h
def Ln (s:Af) (c:Int):Af:={s with BT:=s.BT++[c]}
theorem V7 {s:Af} {c:Int} (hb:s.BT.length<=500000000) (h:R (.ret (Am (Ln s c))) st):PC 337 [Am s,.int .i64 c] st R:=by
 refine pB Tryz.func337 ?_
 have KE:s.BT.length+[c].length<=1000000000:=by simp only [List.length_singleton];omega
 repeat' ((conv=>whnf);first|(refine Bl ?_;intros)|(refine Bm ?_ ?_<;>intro _)|refine Z2 AC (λown ho=>?_)|refine Kr (new:=[c]) ho KE (λown' U=>?_))
 all_goals exact CI (AF.Ba U) rfl h
def EU (s:Af):Af:={s with BT:=s.BT.dropLast}
theorem MN {s:Af} (U:s.BT≠[]) (hb:s.BT.length<=500000000) (h:R (.ret (Am (EU s))) st):PC 290 [Am s] st R:=by
 refine pB Tryz.func290 ?_
 have hl:0<s.BT.length:=List.length_pos_iff.2 U
 have hd:(s.BT.take (((s.BT.length:Int) - 1).toNat)).drop (0:Int).toNat=s.BT.dropLast:=by
  rw [show (0:Int).toNat=0 from rfl,List.drop_zero,List.dropLast_eq_take]
  congr 1
  omega
 have KE:s.BT.dropLast.length<=1000000000:=by rw [List.length_dropLast];omega
 repeat' ((conv=>whnf);first|(refine Bl ?_;intros)|(refine Bm ?_ ?_<;>intro _)|refine mf hd KE (λown ho=>?_))
 all_goals exact CI (AF.Ba ho) rfl h
end
theorem U9 {l:List α} {k:Nat} {x:α} (h:l[k]? =some x):l.drop k=x::l.drop (k+1):=by
 obtain ⟨U,h2⟩:=List.getElem?_eq_some_iff.1 h
 rw [<-h2,List.drop_eq_getElem_cons U]
section
variable {st:St} {R:AL->St->Prop}
attribute [local irreducible] Go.Aw.Ag
def OD (p:Int->Bool):List Int->Int->Int
 |[],_=> -1
 |y::r,i=>if p y then i else OD p r (i+1)
theorem Vy {p:Int->Bool}:∀{l:List Int} {i:Int},0<=i->(0<=OD p l i↔l.any p=true)
 |[],i,h=>by simp [OD]
 |y::r,i,h=>by
  simp only [OD,List.any_cons]
  split
  .rename_i e;simp [h,e]
  .rename_i e
   rw [Vy AC]
   simp [e]
theorem Vz {l:List Int} {p:Int->Bool} {own:AF} (U:∀x (st:St) (R:AL->St->Prop),R (.ret (.bool (p x))) st->PC f [.int .i64 x] st R) (h:R (.ret (.int .i64 (OD p l 0))) st):
 PC 353 [.slice 1 (ints l) own,.func f [] []] st R:=by
 refine pB Tryz.func353 ?_
 repeat' ((conv=>whnf);first|(refine Bl ?_;intros)|(refine Bm ?_ ?_<;>intro _)|fail)
 refine N1 8 [7,0,1] l.length (λk=>k<=l.length/\(OD p l 0=OD p (l.drop k) k)) ⟨Nat.zero_le _,rfl⟩ Yl ?_
 rintro k ⟨hk,hi⟩
 repeat' ((conv=>whnf);first|(refine Bl ?_;intros)|(refine Bm ?_ ?_<;>intro _)|refine U _ _ _ ?_)
 all_goals conv=>whnf
 all_goals try (have e:=U9 ‹l[Int.toNat k]? =some _›;rw [Int.toNat_natCast] at e;rw [e,OD] at hi;clear e)
 all_goals first
  |(refine ⟨k+1,⟨AC,?_⟩,AC,Yl,St.le_refl _⟩;clear h;simp_all)
  |(refine fin h ?_;clear h;simp_all;done)
  |(refine fin h ?_;rw [hi,List.drop_eq_nil_of_le AC];rfl)
theorem Qq {l:List Int} {p:Int->Bool} {own:AF} (hf:∀x (st:St) (R:AL->St->Prop),R (.ret (.bool (p x))) st->PC f [.int .i64 x] st R) (h:R (.ret (.bool (l.any p))) st):
 PC 332 [.slice 1 (ints l) own,.func f [] []] st R:=by
 refine pB Tryz.func332 ?_
 refine Vz hf ?_
 have key:=Vy (p:=p) (l:=l) (i:=0) AC
 refine Wh (λU=>?_) (λU=>?_)
 .exact Ao h (key.1 U)
 .refine Ao h ?_
  cases hc:l.any p with
  |false=>rfl
  |true=>exact absurd (key.2 hc) U
theorem rh (x:Int) (st:St) (R:AL->St->Prop) (h:R (.ret (.bool (decide (x<0)))) st):PC 333 [.int .i64 x] st R:=by
 refine pB Tryz.func333 ?_
 repeat' ((conv=>whnf);first|(refine Bl ?_;intros)|(refine Bm ?_ ?_<;>intro _)|fail)
 all_goals exact Ao h lc
def HM (s:Af):Bool:=
 decide (0<=s.pos)&&decide (s.pos<=s.As.length)&&decide (0<=s.wait)&&decide (s.wait<=2)&&
 (decide (s.wait<=0)||(match s.As[s.pos.toNat]? with|some t=>t.kind==16|none=>false))&& !(s.BT.any λx=>decide (x<0))
theorem VT {s:Af} (h:R (.ret (.bool (HM s))) st):PC 288 [Am s] st R:=by
 refine pB Tryz.func288 ?_
 repeat' ((conv=>whnf);first|(refine Bl ?_;intros)|(refine Bm ?_ ?_<;>intro _)|refine Qq (λx st R h=>rh x st R h) ?_)
 all_goals conv=>whnf
 all_goals refine Ao h ?_
 all_goals clear h
 all_goals unfold HM
 all_goals first
  |(rw [show decide (0<=s.pos)=false from decide_eq_false AC];simp only [Bool.false_and];done)
  |(rw [show decide (s.pos<=s.As.length)=false from decide_eq_false AC];simp only [Bool.false_and,Bool.and_false];done)
  |(rw [show decide (0<=s.wait)=false from decide_eq_false AC];simp only [Bool.false_and,Bool.and_false];done)
  |(rw [show decide (s.wait<=2)=false from decide_eq_false AC];simp only [Bool.false_and,Bool.and_false];done)
  |(have hn:s.As[s.pos.toNat]? =none:=List.getElem?_eq_none AC
    rw [hn,show decide (s.wait<=0)=false from decide_eq_false AC];simp only [Bool.false_and,Bool.and_false,Bool.or_false];done)
  |(rw [show decide (0<=s.pos)=true from decide_eq_true AC,show decide (s.pos<=s.As.length)=true from decide_eq_true AC,show decide (0<=s.wait)=true from decide_eq_true AC,show decide (s.wait<=2)=true from decide_eq_true AC]
    first
     |(rw [show decide (s.wait<=0)=true from decide_eq_true AC];simp_all;done)
     |(rw [show decide (s.wait<=0)=false from decide_eq_false AC];simp_all;done))
 all_goals trace_state
def Ha (t:Tk) (s:Af):Tk×Af:=
 if s.wait=1 then (Ph 20 t,{s with wait:=2})
 else if Fi s<t.CC then (Ph 18 t,{Ln s t.CC with pos:=s.pos+1})
 else (Ph 18 t,{s with wait:=1})
def pC (p:Tk×Af):V:=.Bh [Eb p.1,Am p.2]
theorem l3 {t:Tk} {s:Af} (U:0<=s.pos/\s.pos<=4611686018427387904) (hb:s.BT.length<=500000000) (h:R (.ret (pC (Ha t s))) st):PC 295 [Eb t,Am s] st R:=by
 refine pB Tryz.func295 ?_
 repeat' ((conv=>whnf);first|exact Di|(refine Bl ?_;intros)|(refine Dj ?_ ?_ ?_;rotate_left)|(refine Bm ?_ ?_<;>intro _)|refine O1 (t:=t) ?_|refine OZ (s:=s) ?_|refine V7 (s:=s) hb ?_|refine Wq (a:=s.pos+1) AC AC ?_|with_reducible refine WF ?_)
 all_goals unfold Ha at h
 .rw [if_pos ‹_›] at h;exact AZ rfl h
 .rw [if_neg ‹_›,if_pos ‹_›] at h;exact AZ rfl h
 .rw [if_neg ‹_›,if_neg ‹_›] at h;exact AZ rfl h
def DC (t:Tk) (s:Af):Tk×Af:=
 if 0<Fi s/\t.CC<Fi s then (Ph 20 t,EU s)
 else if 0<Fi s/\t.CC=Fi s then (Ph 19 t,{s with pos:=s.pos+1,wait:=0})
 else (eO,{s with pos:=s.pos+1,wait:=0})
theorem On {s:Af} (h:0<Fi s):s.BT≠[]:=λe=>by simp [Fi,e] at h
theorem qV {t:Tk} {s:Af} (U:0<=s.pos/\s.pos<=4611686018427387904) (hb:s.BT.length<=500000000) (h:R (.ret (pC (DC t s))) st):PC 296 [Eb t,Am s] st R:=by
 refine pB Tryz.func296 ?_
 repeat' ((conv=>whnf);first|exact Di|(refine Bl ?_;intros)|(refine Dj ?_ ?_ ?_;rotate_left)|(refine Bm ?_ ?_<;>intro _)|refine O1 (t:=t) ?_|refine OZ (s:=s) ?_|refine MN (s:=s) (On AC) hb ?_|refine Wq (a:=s.pos+1) AC AC ?_|with_reducible refine WF ?_)
 all_goals unfold DC at h
 all_goals first
  |(rw [if_pos ⟨AC,AC⟩] at h;exact AZ rfl h)
  |(rw [if_neg AC,if_pos ⟨AC,AC⟩] at h;exact AZ rfl h)
  |(rw [if_neg AC,if_neg AC] at h;exact AZ rfl h)
 all_goals trace_state
def C9 (t:Tk) (s:Af):Tk×Af×Int:=
 if t.kind=15/\t.text=[123] then (t,{Ln s 0 with pos:=s.pos+1},0)
 else if t.kind=15/\t.text=[125] then
  if s.BT=[]\/Fi s≠0 then (eO,s,90) else (t,{EU s with pos:=s.pos+1},0)
 else (t,{s with pos:=s.pos+1},0)
def QF (p:Tk×Af×Int):V:=.Bh [Eb p.1,Am p.2.1,.int .i64 p.2.2]
theorem EZ {l:List Int} (h:¬l.length=Int.toNat 0):l≠[]:=λe=>h (by rw [e];rfl)
theorem Ud {l:List Int} (h:l.length=Int.toNat 0):l=[]:=List.length_eq_zero_iff.1 (by rw [h];rfl)
theorem l8 {t:Tk} {s:Af} (U:0<=s.pos/\s.pos<=4611686018427387904) (hb:s.BT.length<=500000000) (h:R (.ret (QF (C9 t s))) st):PC 297 [Eb t,Am s] st R:=by
 refine pB Tryz.func297 ?_
 repeat' ((conv=>whnf);first|exact Di|(refine Bl ?_;intros)|(refine Dj ?_ ?_ ?_;rotate_left)|(refine Bm ?_ ?_<;>intro _)|refine OZ (s:=s) ?_|refine V7 (s:=s) hb ?_|refine MN (s:=s) (EZ ‹_›) hb ?_|refine Wq (a:=s.pos+1) AC AC ?_|with_reducible refine WF ?_)
 all_goals unfold C9 at h
 all_goals first
  |(rw [if_pos ⟨FS,FS⟩] at h;exact AZ rfl h)
  |(rw [if_neg (λe=>absurd e.2 ‹_›),if_pos ⟨FS,FS⟩,if_pos (.inl (Ud ‹_›))] at h;exact AZ rfl h)
  |(rw [if_neg (λe=>absurd e.2 ‹_›),if_pos ⟨FS,FS⟩,if_pos (.inr ‹_›)] at h;exact AZ rfl h)
  |(rw [if_neg (λe=>absurd e.2 ‹_›),if_pos ⟨FS,FS⟩,if_neg (λe=>e.elim (EZ ‹_›) (λe=>e ‹_›))] at h;exact AZ rfl h)
  |(rw [if_neg (λe=>absurd e.1 ‹_›),if_neg (λe=>absurd e.1 ‹_›)] at h;exact AZ rfl h)
  |(rw [if_neg (λe=>absurd e.2 ‹_›),if_neg (λe=>absurd e.2 ‹_›)] at h;exact AZ rfl h)
 all_goals trace_state
def G0 (s:Af):Tk×Af×Int:=
 if s.BT=[] then (⟨21,[],0,0⟩,s,0) else if 0<Fi s then (⟨20,[],0,0⟩,EU s,0) else (eO,s,90)
theorem qw {s:Af} (hb:s.BT.length<=500000000) (h:R (.ret (QF (G0 s))) st):PC 298 [Am s] st R:=by
 refine pB Tryz.func298 ?_
 repeat' ((conv=>whnf);first|exact Di|(refine Bl ?_;intros)|(refine Dj ?_ ?_ ?_;rotate_left)|(refine Bm ?_ ?_<;>intro _)|refine OZ (s:=s) ?_|refine MN (s:=s) (EZ ‹_›) hb ?_|with_reducible refine WF ?_)
 all_goals unfold G0 at h
 all_goals first
  |(rw [if_pos (Ud ‹_›)] at h;exact AZ rfl h)
  |(rw [if_neg (EZ ‹_›),if_pos ‹_›] at h;exact AZ rfl h)
  |(rw [if_neg (EZ ‹_›),if_neg ‹_›] at h;exact AZ rfl h)
 all_goals trace_state
end
end Go.Proofs.Z
namespace Go.Aw
noncomputable def Env.tQ (env:Env) (ch:List (Nat×V)) (keep:List Nat) (U:List (Nat×List V)) (kb:List Nat):Env:=match env with
 |⟨ts,bs,n,sz,gl⟩=>⟨Env.ts ⟨ts,bs,n,sz,gl⟩ ch keep,U++Env.bx ⟨ts,bs,n,sz,gl⟩ kb,n,sz,gl⟩
theorem IH {st:St} (f:α->List (Nat×V)) (keep:List Nat) (g:α->List (Nat×List V)) (kb:List Nat) (S:α->St) (J:α->Prop) (U:α->Nat) (x0:α) (h0:J x0)
 (he:(env.tQ (f x0) keep (g x0) kb).C7 env) (hs:St.le (S x0) st)
 (hb:∀x,J x->ih (Bp (λenv' st'=>∃y,J y/\U y<U x/\(env.tQ (f y) keep (g y) kb).C7 env'/\St.le (S y) st') Q) (env.tQ (f x) keep (g x) kb) (S x)):
 ∃(α:Type) (E:α->Env) (S:α->St) (J:α->Prop) (U:α->Nat) (x0:α),J x0/\(E x0).C7 env/\St.le (S x0) st/\
  ∀x,J x->ih (Bp (λenv' st'=>∃y,J y/\U y<U x/\(E y).C7 env'/\St.le (S y) st') Q) (E x) (S x):=
 ⟨α,λk=>env.tQ (f k) keep (g k) kb,S,J,U,x0,h0,he,hs,hb⟩
theorem Xu {T:List (Nat×Ty)} {C:FuncId->List V->St->(AL->St->Prop)->Prop} {w:CW} {U:Nat->Option CW} {st:St}
 (h:w (aA (λl env' st'=>∃y:Nat,y=l/\False/\env.C7 env'/\St.le st st') Q) env st):PR w U Q env st:=
 ⟨Nat,λy=>y,λ_=>env,λ_=>st,λ_=>False,λ_=>0,h,λx e=>e.elim⟩
end Go.Aw
namespace Go.Proofs.Z
open Go Go.Aw
def Gk:Nat->Af->Tk×Af×Int
 |0,s=>G0 s
 |n+1,s=>match s.As[s.pos.toNat]? with
  |none=>G0 s
  |some t=>if t.kind=16/\s.wait<2 then ((Ha t s).1,(Ha t s).2,0)
   else if t.kind=16\/t.kind=17 then
    if (DC t s).1.kind=0 then Gk n (DC t s).2 else ((DC t s).1,(DC t s).2,0)
   else C9 t s
def HO (s:Af):Tk×Af×Int:=Gk (s.As.length - s.pos.toNat) s
def Aa (s:Af):Tk×Af×Int:=if HM s then HO s else (eO,Fy,1)
theorem FN {t:Tk} {s:Af} (h:(DC t s).1.kind=0):(DC t s).2={s with pos:=s.pos+1,wait:=0}:=by
 unfold DC at h |-
 split
 .rename_i e;rw [if_pos e] at h;exact absurd h (by simp [Ph])
 .rename_i e;rw [if_neg e] at h
  split<;>rfl
theorem N5 {s:Af} (h:¬s.pos<s.As.length) (U:0<=s.pos):HO s=G0 s:=by
 have:s.As.length - s.pos.toNat=0:=AC
 rw [HO,this,Gk]
theorem Fu {s:Af} {t:Tk} (h:s.As[s.pos.toNat]? =some t) (h0:0<=s.pos):HO s=if t.kind=16/\s.wait<2 then ((Ha t s).1,(Ha t s).2,0)
 else if t.kind=16\/t.kind=17 then
  if (DC t s).1.kind=0 then HO (DC t s).2 else ((DC t s).1,(DC t s).2,0)
 else C9 t s:=by
 obtain ⟨U,_⟩:=List.getElem?_eq_some_iff.1 h
 obtain ⟨n,hn⟩:∃n,s.As.length - s.pos.toNat=n+1:=⟨s.As.length - s.pos.toNat - 1,AC⟩
 rw [HO,hn,Gk,h]
 dsimp only
 split
 .rfl
 .split
  .split
   .rename_i e
    rw [HO,FN e]
    congr 1
    show n=s.As.length - (s.pos+1).toNat
    omega
   .rfl
  .rfl
section
variable {st:St} {R:AL->St->Prop}
attribute [local irreducible] Go.Aw.Ag
theorem nO {s:Af} (hb:s.BT.length<=500000000) (h:R (.ret (QF (Aa s))) st):PC 247 [Am s] st R:=by
 refine pB Tryz.func247 ?_
 conv=>whnf
 refine Xu (T:=sk) (C:=Bc Tryz.prog) ?_
 unfold Aa at h
 repeat' ((conv=>whnf);first|exact Di|(refine Bl ?_;intros)|(refine Dj ?_ ?_ ?_;rotate_left)|(refine Bm ?_ ?_<;>intro _)|refine VT (s:=s) ?_|with_reducible refine WF ?_)
 .rename_i e
  rw [e] at h
  have hm:=e
  unfold HM at hm
  simp only [Bool.and_eq_true,decide_eq_true_eq] at hm
  refine IH (α:=Af) (λx=>[]) [1,2,3,4] (λx=>[(0,x.cells)]) [1,2] (λ_=>st) (λx=>x.As=s.As/\x.BT=s.BT/\0<=x.pos/\x.pos<=x.As.length/\HO x=HO s) (λx=>x.As.length - x.pos.toNat) s ⟨rfl,rfl,AC,AC,rfl⟩ Yl (St.le_refl _) ?_
  rintro x ⟨x1,x2,x3,x4,x5⟩
  rw [<-x5] at h
  have U:x.BT.length<=500000000:=by rw [x2];exact hb
  repeat' ((conv=>whnf);first|exact Di|(refine Bl ?_;intros)|(refine Dj ?_ ?_ ?_;rotate_left)|(refine Bm ?_ ?_<;>intro _)|refine l3 (s:=x) ⟨AC,AC⟩ U ?_|refine qV (s:=x) ⟨AC,AC⟩ U ?_|refine l8 (s:=x) ⟨AC,AC⟩ U ?_|refine qw (s:=x) U ?_|with_reducible refine WF ?_)
  all_goals rw [if_pos rfl] at h
  all_goals first
   |(rw [Fu ‹_› x3,if_pos AC] at h;exact AZ rfl h)
   |(rw [Fu ‹_› x3,if_neg AC,if_pos AC,if_neg AC] at h;exact AZ rfl h)
   |(rw [Fu ‹_› x3,if_neg AC,if_neg AC] at h;exact AZ rfl h)
   |(rw [N5 AC x3] at h;exact AZ rfl h)
   |(have hz:(DC ‹Tk› x).1.kind=0:=by assumption
     refine ⟨(DC ‹Tk› x).2,?_,?_,Yl,St.le_refl _⟩
     .rw [FN hz]
      refine ⟨x1,x2,by show 0<=x.pos+1;omega,by show x.pos+1<=x.As.length;omega,?_⟩
      rw [<-x5,Fu (s:=x) ‹_› x3,if_neg AC,if_pos AC,if_pos hz,FN hz]
     .rw [FN hz]
      show x.As.length - (x.pos+1).toNat<_
      omega)
  all_goals trace_state
 .rename_i e
  rw [e] at h
  exact AZ rfl h
end
section
variable {st:St} {R:AL->St->Prop}
attribute [local irreducible] Go.Aw.Ag
theorem Ro {s:Af} (h:R (.ret (.int .i64 (Fi s))) st):PC 175 [Am s] st R:=by
 refine pB Tryz.func175 ?_
 repeat' ((conv=>whnf);first|(refine Bl ?_;intros)|(refine Bm ?_ ?_<;>intro _)|fail)
 .rename_i e
  exact fin h (by rw [XQ AC])
 .exact fin h (by rw [Tb ‹_›])
theorem tY {k:Int} {t:Tk} (h:R (.ret (Eb (Ph k t))) st):PC 177 [.int .i64 k,Eb t] st R:=by
 refine pB Tryz.func177 ?_
 repeat' ((conv=>whnf);first|(refine Bl ?_;intros)|(refine Bm ?_ ?_<;>intro _)|fail)
 all_goals exact fin h rfl
theorem rz {s:Af} {c:Int} (hb:s.BT.length<=500000000) (h:R (.ret (Am (Ln s c))) st):PC 176 [Am s,.int .i64 c] st R:=by
 refine pB Tryz.func176 ?_
 have U:([]:List Int).length+s.BT.length<=1000000000:=by simp only [List.length_nil];omega
 have KE:s.BT.length+[c].length<=1000000000:=by simp only [List.length_singleton];omega
 repeat' ((conv=>whnf);first|(refine Bl ?_;intros)|(refine Bm ?_ ?_<;>intro _)|refine NH (λ_=>?_) ?_|refine Kr (l:=[]) (own:=.full) trivial U (λown ho=>?_)|refine Kr (l:=[]++s.BT) (new:=[c]) ho KE (λown' ho'=>?_))
 all_goals exact CI (AF.Ba ho') rfl h
theorem jt {s:Af} (h0:s.BT≠[]) (hb:s.BT.length<=500000000) (h:R (.ret (Am (EU s))) st):PC 178 [Am s] st R:=by
 refine pB Tryz.func178 ?_
 have hl:0<s.BT.length:=List.length_pos_iff.2 h0
 have hd:(s.BT.take (((s.BT.length:Int) - 1).toNat)).drop (0:Int).toNat=s.BT.dropLast:=by
  rw [show (0:Int).toNat=0 from rfl,List.drop_zero,List.dropLast_eq_take]
  congr 1
  omega
 have U:([]:List Int).length+s.BT.dropLast.length<=1000000000:=by rw [List.length_dropLast,List.length_nil];omega
 repeat' ((conv=>whnf);first|(refine Bl ?_;intros)|(refine Bm ?_ ?_<;>intro _)|refine NH (λ_=>?_) ?_|refine Yg hd (l:=[]) (own:=.full) trivial U (λown ho=>?_))
 all_goals exact CI (AF.Ba ho) rfl h
def dD (l:List Int):Bool:=l.any λx=>decide (x<0)
theorem dE {x:Int} {r:List Int}:dD (x::r)=(decide (x<0)||dD r):=rfl
theorem Nu {s:Af} (h:R (.ret (.bool (HM s))) st):PC 174 [Am s] st R:=by
 refine pB Tryz.func174 ?_
 have bad:(s.pos<0\/(s.As.length:Int)<s.pos\/s.wait<0\/2<s.wait\/0<s.wait/\(s.pos=s.As.length\/∃t,s.As[s.pos.toNat]? =some t/\¬t.kind=16))->HM s=false:=by
  intro e
  unfold HM
  rcases e with e|e|e|e|⟨e1,e|⟨t,U,e3⟩⟩
  .rw [show decide (0<=s.pos)=false from decide_eq_false AC];simp only [Bool.false_and]
  .rw [show decide (s.pos<=s.As.length)=false from decide_eq_false AC];simp only [Bool.false_and,Bool.and_false]
  .rw [show decide (0<=s.wait)=false from decide_eq_false AC];simp only [Bool.false_and,Bool.and_false]
  .rw [show decide (s.wait<=2)=false from decide_eq_false AC];simp only [Bool.false_and,Bool.and_false]
  .have hn:s.As[s.pos.toNat]? =none:=List.getElem?_eq_none AC
   rw [hn,show decide (s.wait<=0)=false from decide_eq_false AC];simp only [Bool.false_and,Bool.and_false,Bool.or_false]
  .rw [U,show decide (s.wait<=0)=false from decide_eq_false AC];simp [e3]
 have BH:¬s.pos<0->¬(s.As.length:Int)<s.pos->¬s.wait<0->¬2<s.wait->(¬0<s.wait\/∃t,s.As[s.pos.toNat]? =some t/\t.kind=16)->HM s= !dD s.BT:=by
  intro a b c d e
  unfold HM dD
  rw [show decide (0<=s.pos)=true from decide_eq_true AC,show decide (s.pos<=s.As.length)=true from decide_eq_true AC,show decide (0<=s.wait)=true from decide_eq_true AC,show decide (s.wait<=2)=true from decide_eq_true AC]
  rcases e with e|⟨t,e1,U⟩
  .rw [show decide (s.wait<=0)=true from decide_eq_true AC];simp only [Bool.true_and,Bool.true_or]
  .rw [e1];simp [U]
 repeat' ((conv=>whnf);first|(refine Bl ?_;intros)|(refine Bm ?_ ?_<;>intro _)|fail)
 all_goals conv=>whnf
 all_goals try (refine Ao h (bad ?_))
 all_goals try omega
 all_goals try (exact .inr (.inr (.inr (.inr ⟨FS,.inr ⟨_,FS,FS⟩⟩))))
 all_goals try (refine Lj 3 [1] [0] s.BT.length (λk=>k<=s.BT.length/\dD s.BT=dD (s.BT.drop k)) ⟨Nat.zero_le _,rfl⟩ Yl ?_;rintro k ⟨hk,hi⟩)
 all_goals have hm:=BH ‹_› ‹_› ‹_› ‹_› (by first|exact .inl ‹_›|exact .inr ⟨_,FS,FS⟩)
 all_goals rw [hm] at h
 repeat' ((conv=>whnf);first|(refine Bl ?_;intros)|(refine Bm ?_ ?_<;>intro _)|fail)
 all_goals conv=>whnf
 all_goals try (have e:=U9 ‹s.BT[Int.toNat k]? =some _›;rw [Int.toNat_natCast] at e;rw [e,dE] at hi;clear e)
 all_goals first
  |(refine ⟨k+1,⟨AC,?_⟩,AC,Yl,St.le_refl _⟩;clear h;simp_all;done)
  |(refine Ao h ?_;rw [hi];clear h;simp_all;done)
  |(refine Ao h ?_;rw [hi,show decide (_<0)=true from decide_eq_true ‹_›];rfl)
  |(refine Ao h ?_;rw [hi,List.drop_eq_nil_of_le AC];rfl)
 all_goals trace_state
end
theorem XR {s:Af} (h:(s.BT.any λx=>decide (x<0))=false):0<=Fi s:=by
 unfold Fi
 cases U:s.BT.getLast? with
 |none=>exact Int.le_refl _
 |some x=>
  have hx:=List.mem_of_getLast? U
  simp only [List.any_eq_false,decide_eq_true_eq] at h
  have:=h x hx
  show 0<=x
  omega
section
variable {st:St} {R:AL->St->Prop}
attribute [local irreducible] Go.Aw.Ag
theorem KS {s:Af} (hb:s.BT.length<=500000000) (h:R (.ret (QF (Aa s))) st):PC 126 [Am s] st R:=by
 refine pB Tryz.func126 ?_
 unfold Aa at h
 repeat' ((conv=>whnf);first|exact Di|(refine Bl ?_;intros)|(refine Dj ?_ ?_ ?_;rotate_left)|(refine Bm ?_ ?_<;>intro _)|refine Nu (s:=s) ?_|with_reducible refine WF ?_)
 .rename_i e
  rw [e,if_pos rfl] at h
  have hm:=e
  unfold HM at hm
  simp only [Bool.and_eq_true,decide_eq_true_eq] at hm
  refine IH (α:=Af) (λx=>[]) [1,2,3,4] (λx=>[(0,x.cells)]) [1,2] (λ_=>st) (λx=>x.As=s.As/\x.BT=s.BT/\0<=x.pos/\x.pos<=x.As.length/\0<=x.wait/\x.wait<=2/\HO x=HO s) (λx=>x.As.length - x.pos.toNat) s ⟨rfl,rfl,AC,AC,AC,AC,rfl⟩ Yl (St.le_refl _) ?_
  rintro x ⟨x1,x2,x3,x4,x6,x7,x5⟩
  rw [<-x5] at h
  have U:x.BT.length<=500000000:=by rw [x2];exact hb
  have ht:0<=Fi x:=XR (by rw [x2];simpa using hm.2)
  repeat' ((conv=>whnf);first|exact Di|(refine Bl ?_;intros)|(refine Dj ?_ ?_ ?_;rotate_left)|(refine Bm ?_ ?_<;>intro _)|refine tY ?_|refine Ro (s:=x) ?_|refine rz (s:=x) U ?_|refine jt (s:=x) (EZ ‹_›) U ?_|refine jt (s:=x) (On AC) U ?_|refine Wq (a:=x.pos+1) AC AC ?_|with_reducible refine WF ?_)
  all_goals first
   |(rw [Fu ‹_› x3,if_pos AC] at h
     unfold Ha at h
     first
      |(rw [if_pos AC] at h;exact AZ rfl h)
      |(rw [if_neg AC,if_pos AC] at h;exact AZ rfl h)
      |(rw [if_neg AC,if_neg AC] at h;exact AZ rfl h))
   |(have hz:(DC ‹Tk› x).1.kind=0:=by
      unfold DC
      rw [if_neg AC,if_neg AC];rfl
     refine ⟨{x with pos:=x.pos+1,wait:=0},?_,?_,Yl,St.le_refl _⟩
     .refine ⟨x1,x2,by show 0<=x.pos+1;omega,by show x.pos+1<=x.As.length;omega,Int.le_refl _,by show (0:Int)<=2;decide,?_⟩
      rw [<-x5,Fu (s:=x) ‹_› x3,if_neg AC,if_pos AC,if_pos hz,FN hz]
     .show x.As.length - (x.pos+1).toNat<_
      omega)
   |(rw [Fu ‹_› x3,if_neg AC,if_pos AC] at h
     first
      |(have key:DC ‹Tk› x=(Ph 20 ‹Tk›,EU x):=by unfold DC;rw [if_pos AC]
        rw [key,if_neg (by simp [Ph])] at h;exact AZ rfl h)
      |(have key:DC ‹Tk› x=(Ph 19 ‹Tk›,{x with pos:=x.pos+1,wait:=0}):=by unfold DC;rw [if_neg AC,if_pos AC]
        rw [key,if_neg (by simp [Ph])] at h;exact AZ rfl h))
   |(rw [Fu ‹_› x3,if_neg AC,if_neg AC] at h
     unfold C9 at h
     first
      |(rw [if_pos ⟨FS,FS⟩] at h;exact AZ rfl h)
      |(rw [if_neg (λe=>absurd e.2 (by rw [‹Tk.text _=[125]›];decide)),if_pos ⟨FS,FS⟩,if_pos (.inl (Ud ‹_›))] at h;exact AZ rfl h)
      |(rw [if_neg (λe=>absurd e.2 (by rw [‹Tk.text _=[125]›];decide)),if_pos ⟨FS,FS⟩,if_pos (.inr AC)] at h;exact AZ rfl h)
      |(rw [if_neg (λe=>absurd e.2 (by rw [‹Tk.text _=[125]›];decide)),if_pos ⟨FS,FS⟩,if_neg (λe=>e.elim (EZ ‹_›) (λe=>e AC))] at h;exact AZ rfl h)
      |(rw [if_neg (λe=>absurd e.1 ‹_›),if_neg (λe=>absurd e.1 ‹_›)] at h;exact AZ rfl h)
      |(rw [if_neg (λe=>absurd e.2 ‹_›),if_neg (λe=>absurd e.2 ‹_›)] at h;exact AZ rfl h))
   |(rw [N5 AC x3] at h
     unfold G0 at h
     first
      |(rw [if_pos (Ud ‹_›)] at h;exact AZ rfl h)
      |(rw [if_neg (EZ ‹_›),if_pos ‹_›] at h;exact AZ rfl h)
      |(rw [if_neg (EZ ‹_›),if_neg ‹_›] at h;exact AZ rfl h))
  all_goals trace_state
 .rename_i e
  rw [e] at h
  exact AZ rfl h
end
end Go.Proofs.Z
namespace Go.Aw
theorem St.An (st:St) (b:Nat) (cs:List V):(st.Ab b cs).box b=some cs:=by simp [St.Ab]
theorem St.set_set (st:St) (b:Nat) (cs cs':List V):(st.Ab b cs).Ab b cs'=st.Ab b cs':=by
 simp only [St.Ab,St.mk.injEq,and_true]
 funext x
 split<;>rfl
theorem St.Rr {st:St} (h:st.box b=some cs):st.Ab b cs=st:=by
 cases st with
 |mk box hw=>
  simp only [St.Ab,St.mk.injEq,and_true]
  funext x
  split
  .rename_i e;subst e;exact h.symm
  .rfl
theorem AB {st:St} {K:List V->Prop} (h:st.box b=some cs) (k:K cs):∃cs,st.box b=some cs/\K cs:=⟨cs,h,k⟩
end Go.Aw
namespace Go.Proofs.Z
open Go Go.Aw
def Dd (s:Af):List V:=[.slice 4 (A4 s.As) .any,.int .i64 s.pos,.slice 1 (ints s.BT) .any,.int .i64 s.wait,
 .int .i64 (Aa s).1.kind,.str (Aa s).1.text,.int .i64 (Aa s).1.line,.int .i64 (Aa s).1.CC,
 .slice 4 (A4 (Aa s).2.1.As) .any,.int .i64 (Aa s).2.1.pos,.slice 1 (ints (Aa s).2.1.BT) .any,.int .i64 (Aa s).2.1.wait,.int .i64 (Aa s).2.2,.bool true]
def aB (s:Af) (t:Tk) (u:Af) (o1 o2:AF) (e:Int):List V:=[.slice 4 (A4 s.As) .any,.int .i64 s.pos,.slice 1 (ints s.BT) .any,.int .i64 s.wait,
 .int .i64 t.kind,.str t.text,.int .i64 t.line,.int .i64 t.CC,.slice 4 (A4 u.As) o1,.int .i64 u.pos,.slice 1 (ints u.BT) o2,.int .i64 u.wait,.int .i64 e,.bool false]
def Has (st:St) (b:Nat) (s:Af):Prop:=st.box b=some (Dd s)\/∃t u o1 o2 e,st.box b=some (aB s t u o1 o2 e)
def H9 (st st':St) (b:Nat) (s:Af):Prop:=Has st' b s/\∃cs,st'=st.Ab b cs
theorem H9.trans {st U st2:St} {s1 s2:Af} (h:H9 st U b s1) (k:H9 U st2 b s2):H9 st st2 b s2:=by
 obtain ⟨_,c1,e1⟩:=h
 obtain ⟨h2,c2,e2⟩:=k
 subst e1
 rw [St.set_set] at e2
 exact ⟨h2,c2,e2⟩
theorem A6 {st:St} {s:Af}:H9 st (st.Ab b (Dd s)) b s:=⟨.inl (St.An ..),_,rfl⟩
def fault (e:Int):V:=.iface 113 (.agg [.int .i64 e])
section
variable {st:St} {R:AL->St->Prop}
attribute [local irreducible] Go.Aw.Ag
theorem hH {r r':AL} (e:r=r'.wk) (es:st'=st) (h:R r st):∃r2 U,(r2=r'\/r2=r'.wk)/\St.le U st'/\R r2 U:=by subst es;exact ⟨r,st',.inr e,St.le_refl _,h⟩
theorem iL {s:Af} (U:Has st b s) (hb:s.BT.length<=500000000) (h:R (.ret (.Bh [])) (st.Ab b (Dd s))):PC 195 [.ptr b 0] st R:=by
 refine pB Tryz.func195 ?_
 rcases U with U|⟨t,u,o1,o2,e,U⟩
 .rw [St.Rr U] at h
  repeat' ((conv=>whnf);first|(refine Bl ?_;intros)|(refine Bm ?_ ?_<;>intro _)|refine AB U ?_)
  all_goals exact fin h rfl
 .skip
  repeat' ((conv=>whnf);first|(refine Bl ?_;intros)|(refine Bm ?_ ?_<;>intro _)|refine AB U ?_|refine AB (St.An ..) ?_|refine nO (s:=s) hb ?_)
  all_goals exact hH rfl (by simp only [St.set_set];rfl) h
theorem Hc {s:Af} (U:Has st b s) (hb:s.BT.length<=500000000) (h:R (.ret (Eb (Aa s).1)) (st.Ab b (Dd s))):PC 135 [.ptr b 0] st R:=by
 refine pB Tryz.func135 ?_
 repeat' ((conv=>whnf);first|(refine Bl ?_;intros)|(refine Bm ?_ ?_<;>intro _)|refine AB (St.An ..) ?_|refine iL U hb ?_)
 all_goals exact AZ rfl h
theorem FI {v:V} {e:Int} (h:R (.Cz (fault e)) st):PC 96 [v,.int .i64 e] st R:=by
 refine pB Tryz.func96 ?_
 repeat' ((conv=>whnf);first|(refine Bl ?_;intros)|(refine Bm ?_ ?_<;>intro _)|fail)
 all_goals exact fin h rfl
def NN (s:Af):Int:=if (Aa s).2.2=0 then 110 else (Aa s).2.2
theorem fG {s:Af} (U:Has st b s) (hb:s.BT.length<=500000000) (h:R (.Cz (fault (NN s))) (st.Ab b (Dd s))):PC 191 [.ptr b 0] st R:=by
 refine pB Tryz.func191 ?_
 unfold NN at h
 repeat' ((conv=>whnf);first|(refine Bl ?_;intros)|(refine Bm ?_ ?_<;>intro _)|refine AB (St.An ..) ?_|refine iL U hb ?_|refine FI ?_)
 all_goals first
  |(rw [if_pos ‹_›] at h;exact fin h rfl)
  |(rw [if_neg ‹_›] at h;exact fin h rfl)
theorem mZ {s s':Af} (U:st.box b=some (Dd s)) (h:∀st',H9 st st' b s'->R (.ret (.Bh [])) st'):PC 234 [.ptr b 0,Am s'] st R:=by
 refine pB Tryz.func234 ?_
 have h:=h (st.Ab b (aB s' (Aa s).1 (Aa s).2.1 .any .any (Aa s).2.2)) ⟨.inr ⟨_,_,_,_,_,St.An ..⟩,_,rfl⟩
 repeat' ((conv=>whnf);first|(refine Bl ?_;intros)|(refine Bm ?_ ?_<;>intro _)|refine AB U ?_|refine AB (St.An ..) ?_)
 all_goals exact hH rfl (by simp only [St.set_set];rfl) h
theorem mY {s s':Af} {t:Tk} {u:Af} {o1 o2:AF} {e:Int} (U:st.box b=some (aB s t u o1 o2 e)) (h:∀st',H9 st st' b s'->R (.ret (.Bh [])) st'):PC 234 [.ptr b 0,Am s'] st R:=by
 refine pB Tryz.func234 ?_
 have h:=h (st.Ab b (aB s' t u o1 o2 e)) ⟨.inr ⟨_,_,_,_,_,St.An ..⟩,_,rfl⟩
 repeat' ((conv=>whnf);first|(refine Bl ?_;intros)|(refine Bm ?_ ?_<;>intro _)|refine AB U ?_|refine AB (St.An ..) ?_)
 all_goals exact hH rfl (by simp only [St.set_set];rfl) h
theorem mX {s s':Af} (U:Has st b s) (h:∀st',H9 st st' b s'->R (.ret (.Bh [])) st'):PC 234 [.ptr b 0,Am s'] st R:=by
 rcases U with U|⟨t,u,o1,o2,e,U⟩
 .exact mZ U h
 .exact mY U h
theorem Zx {s:Af} (U:Has st b s) (hb:s.BT.length<=500000000) (h:(Aa s).2.2=0->∀st',H9 st st' b (Aa s).2.1->R (.ret (Eb (Aa s).1)) st')
 (k:¬(Aa s).2.2=0->R (.Cz (fault (Aa s).2.2)) (st.Ab b (Dd s))):PC 161 [.ptr b 0] st R:=by
 refine pB Tryz.func161 ?_
 repeat' ((conv=>whnf);first|(refine Bl ?_;intros)|(refine Bm ?_ ?_<;>intro _)|refine AB (St.An ..) ?_|refine Hc U hb ?_|refine FI ?_|refine mX (s':=(Aa s).2.1) (.inl (St.An st b (Dd s))) (λst' hu=>?_))
 .exact AZ rfl (h ‹_› st' (A6.trans hu))
 .exact fin (k ‹_›) rfl
def Av (t:Tk):Nd:=.mk 1 t.kind t.text t.line t.CC []
theorem qT {t:Tk} (h:R (.ret (enc (Av t))) st):PC 160 [Eb t] st R:=by
 refine pB Tryz.func160 ?_
 repeat' ((conv=>whnf);first|(refine Bl ?_;intros)|(refine Bm ?_ ?_<;>intro _)|fail)
 all_goals exact AZ rfl h
def A9 (s:Af) (k:Int) (x:List UInt8):Bool:=(Aa s).1.kind==k&&(Aa s).1.text==x
theorem YQ {s:Af} {k:Int} (U:Has st b s) (hb:s.BT.length<=500000000) (h:R (.ret (.bool (A9 s k x))) (st.Ab b (Dd s))):PC 98 [.ptr b 0,.int .i64 k,.str x] st R:=by
 refine pB Tryz.func98 ?_
 repeat' ((conv=>whnf);first|(refine Bl ?_;intros)|(refine Bm ?_ ?_<;>intro _)|refine Hc U hb ?_)
 all_goals (refine Ao h ?_;clear h;simp_all [A9])
theorem Om {s:Af} (U:Has st b s) (hb:s.BT.length<=500000000) (h:(Aa s).2.2=0->∀st',H9 st st' b (Aa s).2.1->R (.ret (enc (Av (Aa s).1))) st')
 (k:¬(Aa s).2.2=0->R (.Cz (fault (Aa s).2.2)) (st.Ab b (Dd s))):PC 100 [.ptr b 0] st R:=by
 refine pB Tryz.func100 ?_
 repeat' ((conv=>whnf);first|(refine Bl ?_;intros)|(refine Bm ?_ ?_<;>intro _)|refine Zx U hb (λe st' hu=>?_) (λe=>?_)|refine qT (t:=(Aa s).1) ?_)
 .exact AZ rfl (h e st' hu)
 .exact fin (k e) rfl
theorem lr {s:Af} {k:Int} (hs:Has st b s) (hb:s.BT.length<=500000000) (h:A9 s k x=true->(Aa s).2.2=0->∀st',H9 st st' b (Aa s).2.1->R (.ret (enc (Av (Aa s).1))) st')
 (k1:A9 s k x=true->¬(Aa s).2.2=0->R (.Cz (fault (Aa s).2.2)) (st.Ab b (Dd s))) (k2:A9 s k x=false->R (.Cz (fault (NN s))) (st.Ab b (Dd s))):PC 167 [.ptr b 0,.int .i64 k,.str x] st R:=by
 refine pB Tryz.func167 ?_
 have U:Has (st.Ab b (Dd s)) b s:=.inl (St.An ..)
 repeat' ((conv=>whnf);first|(refine Bl ?_;intros)|(refine Bm ?_ ?_<;>intro _)|refine YQ hs hb ?_|refine Om U hb (λe st' hu=>?_) (λe=>?_)|refine fG U hb ?_)
 .exact AZ rfl (h ‹_› e st' (A6.trans hu))
 .exact hH rfl (by rw [St.set_set]) (k1 ‹_› e)
 .exact hH rfl (by rw [St.set_set]) (k2 ‹_›)
def Su (n:Nd) (s:Af) (e:Int):V:=.Bh [enc n,Am s,.int .i64 e]
theorem YO {s s':Af} {e:Int} (hf:∀(st:St) (R:AL->St->Prop),R (.ret (Su n s' e)) st->PC f [Am s,.int .i64 d] st R) (U:Has st b s)
 (h:e=0->∀st',H9 st st' b s'->R (.ret (enc n)) st') (k:¬e=0->∀st',H9 st st' b s'->R (.Cz (fault e)) st'):PC 254 [.ptr b 0,.func f [] [],.int .i64 d] st R:=by
 refine pB Tryz.func254 ?_
 rcases U with U|⟨t,u,o1,o2,e',U⟩
 .skip
  repeat' ((conv=>whnf);first|(refine Bl ?_;intros)|(refine Bm ?_ ?_<;>intro _)|refine AB U ?_|refine hf _ _ ?_|refine FI ?_|refine mX (s':=s') (.inl U) (λst' hu=>?_))
  .exact AZ rfl (h ‹_› st' hu)
  .exact fin (k ‹_› st' hu) rfl
 .skip
  repeat' ((conv=>whnf);first|(refine Bl ?_;intros)|(refine Bm ?_ ?_<;>intro _)|refine AB U ?_|refine hf _ _ ?_|refine FI ?_|refine mX (s':=s') (.inr ⟨t,u,o1,o2,e',U⟩) (λst' hu=>?_))
  .exact AZ rfl (h ‹_› st' hu)
  .exact fin (k ‹_› st' hu) rfl
end
end Go.Proofs.Z
namespace Go.Aw
open Go
section
variable {P:Program}
theorem Ak {x y:Code} {st:St} (h:AW P x (Bp (λenv st=>AW P y Q env st) Q) env st):AW P (.seq x y) Q env st:=λD I0 st0 w0 I β a w hr=>by
 refine wp_seq (wp_mono (h D I0 st0 w0 I β a w hr) ?_)
 rintro e a w ⟨I,β,env,st,ae,h1,U,h3⟩
 cases ae with
 |normal=>cases e<;>first|exact h3 D I0 st0 w0 I β a w h1|exact U.elim
 |exit i=>cases e<;>first|exact ⟨I,β,env,st,.exit i,h1,U,h3⟩|exact U.elim
 |goto i=>cases e<;>first|exact ⟨I,β,env,st,.goto i,h1,U,h3⟩|exact U.elim
 |ret=>cases e<;>first|exact ⟨I,β,env,st,.ret,h1,U,h3⟩|exact U.elim
 |Cz v=>cases e<;>first|exact ⟨I,β,env,st,.Cz v,h1,U,h3⟩|exact U.elim
theorem Al (U:UP P T) {c:Code} {st:St} (h:Pk T (Bc P) c Q env st):AW P c Q env st:=
 NM U (CB P) (λ_ _ _ _ _ h k=>k.mono h) c h
def Ends (R:AL->St->Prop) (r:AL) (st:St):Prop:=∃r2 U,(r2=r\/r2=r.wk)/\St.le U st/\R r2 U
theorem Bc.ends {st:St} (h:Bc P f args st (Ends R)):Bc P f args st R:=by
 refine ⟨λI w U hs ha=>(h.a I w U hs ha).mono ?_,h.b⟩
 rintro e w' ⟨I',st',r,k1,k2,k3,r2,st2,k4,k5,k6⟩
 have hr:Rel [] I st w I' (λ_=>none) {tmps:=[],boxes:=[],BI:=0,sz:=0,gl:=[]} st' {tmps:=#[],defers:=[]} w':=
  ⟨k1,k2,⟨rfl,λt v e=>(by cases e),λid cs e=>(by cases e),λid b e=>(by cases e),λi j b e=>(by cases e),λid b e=>(by cases e),rfl⟩⟩
 have hr':=hr.IK k5
 refine ⟨I',st2,r2,hr'.fr,hr'.s,?_,k6⟩
 rcases k4 with rfl|rfl
 .exact k3
 .cases e with
  |returned c=>
   cases r with
   |ret v=>exact AE.wk k3
   |Cz v=>exact k3.elim
  |panicked chain=>
   cases r with
   |ret v=>exact k3.elim
   |Cz v=>
    obtain ⟨c,h1,h2⟩:=k3
    exact ⟨c,h1,AE.wk h2⟩
  |outgrown=>cases r<;>exact k3.elim
end
end Go.Aw
namespace Go.Proofs.Z
open Go Go.Aw
def Pp:List (List Bool×Nat):=[([false,false,false,false,false,false,false,false],0),([false,false,false,false,false,false,false,false],1),([true,false,false,false,false,false,false,false],1),([true,false,false,false,false,false,false,false],5),([false,true,false,false,false,false,false,false],0),([false,true,false,false,false,false,false,false],2),([true,true,false,false,false,false,false,false],2),([true,true,false,false,false,false,false,false],5),([true,false,false,false,false,true,false,false],1),([false,true,true,false,false,false,false,false],0),([false,true,true,false,false,false,false,false],3),([true,true,true,false,false,false,false,false],3),([true,true,true,false,false,false,false,false],5),([true,true,false,false,false,true,false,false],2),([false,true,true,true,false,false,false,false],0),([false,true,true,true,false,false,false,false],4),([true,true,true,true,false,false,false,false],4),([true,true,true,true,false,false,false,false],5),([true,true,true,false,false,true,false,false],3),([false,true,true,true,true,false,false,false],0),([true,true,true,true,true,false,false,false],5),([true,true,true,true,false,true,false,false],4),([true,true,true,true,true,true,false,false],6),([true,true,true,true,true,true,true,false],7)]
def Z3:List (List Bool×Nat):=[([false,false,false,false,false,false,false,false,false,false],0),([false,false,false,false,false,false,false,false,false,false],1),([false,false,false,false,false,false,false,false,false,false],5),([true,false,false,false,false,false,false,false,false,false],1),([true,false,false,false,false,false,false,false,false,false],5),([false,true,false,false,false,false,false,false,false,false],0),([false,true,false,false,false,false,false,false,false,false],2),([false,true,false,false,false,false,false,false,false,false],5),([false,false,false,false,false,true,false,false,false,false],0),([false,false,false,false,false,true,false,false,false,false],1),([false,false,false,false,false,true,false,false,false,false],6),([true,true,false,false,false,false,false,false,false,false],2),([true,true,false,false,false,false,false,false,false,false],5),([true,false,false,false,false,true,false,false,false,false],1),([true,false,false,false,false,true,false,false,false,false],6),([false,true,true,false,false,false,false,false,false,false],0),([false,true,true,false,false,false,false,false,false,false],3),([false,true,true,false,false,false,false,false,false,false],5),([false,true,false,false,false,true,false,false,false,false],0),([false,true,false,false,false,true,false,false,false,false],2),([false,true,false,false,false,true,false,false,false,false],6),([false,false,false,false,false,true,true,false,false,false],0),([false,false,false,false,false,true,true,false,false,false],1),([true,true,true,false,false,false,false,false,false,false],3),([true,true,true,false,false,false,false,false,false,false],5),([true,true,false,false,false,true,false,false,false,false],2),([true,true,false,false,false,true,false,false,false,false],6),([true,false,false,false,false,true,true,false,false,false],1),([false,true,true,true,false,false,false,false,false,false],0),([false,true,true,true,false,false,false,false,false,false],4),([false,true,true,true,false,false,false,false,false,false],5),([false,true,true,false,false,true,false,false,false,false],0),([false,true,true,false,false,true,false,false,false,false],3),([false,true,true,false,false,true,false,false,false,false],6),([false,true,false,false,false,true,true,false,false,false],0),([false,true,false,false,false,true,true,false,false,false],2),([true,true,true,true,false,false,false,false,false,false],4),([true,true,true,true,false,false,false,false,false,false],5),([true,true,true,false,false,true,false,false,false,false],3),([true,true,true,false,false,true,false,false,false,false],6),([true,true,false,false,false,true,true,false,false,false],2),([false,true,true,true,true,false,false,false,false,false],0),([false,true,true,true,true,false,false,false,false,false],5),([false,true,true,true,false,true,false,false,false,false],0),([false,true,true,true,false,true,false,false,false,false],4),([false,true,true,true,false,true,false,false,false,false],6),([false,true,true,false,false,true,true,false,false,false],0),([false,true,true,false,false,true,true,false,false,false],3),([true,true,true,true,true,false,false,false,false,false],5),([true,true,true,true,true,false,false,false,false,false],7),([true,true,true,true,false,true,false,false,false,false],4),([true,true,true,true,false,true,false,false,false,false],6),([true,true,true,false,false,true,true,false,false,false],3),([false,true,true,true,true,true,false,false,false,false],0),([false,true,true,true,true,true,false,false,false,false],6),([false,true,true,true,false,true,true,false,false,false],0),([false,true,true,true,false,true,true,false,false,false],4),([true,true,true,true,true,true,false,false,false,false],6),([true,true,true,true,true,true,false,false,false,false],7),([true,true,true,true,true,false,false,true,false,false],5),([true,true,true,true,true,false,false,true,false,false],8),([true,true,true,true,false,true,true,false,false,false],4),([false,true,true,true,true,true,true,false,false,false],0),([true,true,true,true,true,true,true,false,false,false],7),([true,true,true,true,true,true,false,true,false,false],6),([true,true,true,true,true,true,false,true,false,false],8),([true,true,true,true,true,false,false,true,true,false],5),([true,true,true,true,true,true,true,true,false,false],8),([true,true,true,true,true,true,false,true,true,false],6),([true,true,true,true,true,true,true,true,true,false],9)]
section
variable {st:St} {R:AL->St->Prop}
attribute [local irreducible] Go.Aw.Ag
def FR:Nd:=.mk 0 0 [] 0 0 []
def D0:List V:=[.int .i64 0,.int .i64 0,.str [],.int .i64 0,.int .i64 0,.slice 6 [] .full]
theorem Qp {bp bn ba be:Nat} {RS:St->Prop} (h:RS st):Jx Tryz.prog 95 [.ptr bp 0,.ptr bn 0,.ptr ba 0,.ptr be 0] none st RS:=by
 refine F8 Ad [] Tryz.func95 rfl rfl rfl rfl rfl rfl rfl rfl (λU he=>?_)
 subst he
 conv=>whnf
 refine Ak (Al Ad ?_)
 repeat' ((conv=>whnf);first|exact Di|(refine Bl ?_;intros)|(refine Dj ?_ ?_ ?_;rotate_left)|(refine Bm ?_ ?_<;>intro _)|with_reducible refine WF ?_)
 all_goals exact h
theorem St.AA {st:St} {c:Nat} (h:b≠c):(st.Ab b cs).box c=st.box c:=by simp [St.Ab,Ne.symm h]
noncomputable def gj:List Oper:=match Tryz.f95.body with|some (.seq _ (.seq _ (.seq _ (.seq _ (.region _ ops _)))))=>ops.toList|_=>[]
noncomputable def qq (bs:List Bool) (bp bn ba be U:Nat) (sc:List V) (e:Int):Env:=
 {tmps:=Hd [(6,.bool true),(14,.bool true),(13,.agg [.int .i64 e]),(5,.Cu 0 0),(4,fault e),(0,.ptr bp 0),(1,.ptr bn 0),(2,.ptr ba 0),(3,.ptr be 0)]
   gj
   [.agg D0,.ptr U 0,.ptr U 0,.ptr U 0,.agg sc,.Cu 0 0,.int .i64 e,.Cj,.Cj,.Cj] bs,boxes:=[(0,[.int .i64 e])],BI:=1,sz:=25,gl:=[]}
def qs (st:St) (U ba be:Nat) (sc:List V) (e:Int) (bs:List Bool):St:=
 match bs[7]?,bs[8]?,bs[9]? with
 |_,_,some true=>((st.Ab U D0).Ab ba sc).Ab be [.int .i64 e]
 |_,some true,_=>(st.Ab U D0).Ab ba sc
 |some true,_,_=>st.Ab U D0
 |_,_,_=>st
theorem JD {bp bn U be br:Nat} {s:Af} {e:Int} {RS:St->Prop} (hp:st.box bp=some [.ptr br 0]) (hr:Has st br s) {n0:Nd} {s0:Af} {o1 o2 o3:AF} {e0:Int}
 (hn:st.box bn=some [.int .i64 n0.kind,.int .i64 n0.form,.str n0.text,.int .i64 n0.line,.int .i64 n0.CC,.slice 6 (Cc n0.kids) o1])
 (ha:st.box U=some [.slice 4 (A4 s0.As) o2,.int .i64 s0.pos,.slice 1 (ints s0.BT) o3,.int .i64 s0.wait]) (he:st.box be=some [.int .i64 e0])
 (d1:bn≠bp) (d2:bn≠br) (d3:bn≠U) (d4:bn≠be) (d5:U≠bp) (d6:U≠br) (d7:U≠be)
 (h:RS (((st.Ab bn D0).Ab U s.cells).Ab be [.int .i64 e])):Jx Tryz.prog 95 [.ptr bp 0,.ptr bn 0,.ptr U 0,.ptr be 0] (some (fault e)) st RS:=by
 refine F8 Ad [] Tryz.func95 rfl rfl rfl rfl rfl rfl rfl rfl (λenv0 he=>?_)
 subst he
 conv=>whnf
 refine Ak (Al Ad ?_)
 repeat' ((conv=>whnf);first|exact Di|(refine Bl ?_;intros)|(refine Dj ?_ ?_ ?_;rotate_left)|(refine Bm ?_ ?_<;>intro _)|with_reducible refine WF ?_)
 refine Ak (Al Ad ?_)
 repeat' ((conv=>whnf);first|exact Di|(refine Bl ?_;intros)|(refine Dj ?_ ?_ ?_;rotate_left)|(refine Bm ?_ ?_<;>intro _)|with_reducible refine WF ?_)
 refine Ak (Al Ad ?_)
 repeat' ((conv=>whnf);first|exact Di|(refine Bl ?_;intros)|(refine Dj ?_ ?_ ?_;rotate_left)|(refine Bm ?_ ?_<;>intro _)|with_reducible refine WF ?_)
 have ha':(st.Ab bn D0).box U=some [.slice 4 (A4 s0.As) o2,.int .i64 s0.pos,.slice 1 (ints s0.BT) o3,.int .i64 s0.wait]:=by rw [St.AA d3];exact ha
 have he':((st.Ab bn D0).Ab U s.cells).box be=some [.int .i64 e0]:=by rw [St.AA d7,St.AA d4];exact he
 refine Yj Ad (CB _) (λbs=>qq bs bp bn U be br s.cells e) (qs st bn U be s.cells e) Z3 GE Yl (St.le_refl _) ?_ h
 unfold Z3
 rcases hr with hr|⟨t,u,q1,q2,q3,hr⟩
 all_goals repeat' (first|refine List.forall_mem_cons.2 ⟨?_,?_⟩|exact λ_ h=>nomatch h)
 repeat' ((conv=>whnf);first|exact Di|(refine Bl ?_;intros)|(refine Dj ?_ ?_ ?_;rotate_left)|(refine Bm ?_ ?_<;>intro _)|refine AB hp ?_|refine AB hr ?_|refine AB hn ?_|refine AB ha' ?_|refine AB he' ?_|with_reducible refine WF ?_)
 all_goals conv=>whnf
 all_goals (refine ⟨Yl,?_⟩)
 all_goals exact St.le_refl _
end
abbrev Rs:=Sum (Int×Af) (Nd×Af)
def Gu (st:St) (b:Nat) (R:AL->St->Prop):Rs->Prop
 | .inr (n,s')=>∀st',H9 st st' b s'->R (.ret (enc n)) st'
 | .inl (e,s')=>∀st',H9 st st' b s'->R (.Cz (fault e)) st'
def Reads (f:FuncId) (s:Af) (d:Int) (q:Rs):Prop:=∀(b:Nat) (st:St) (R:AL->St->Prop),Has st b s->Gu st b R q->PC f [.ptr b 0,.int .i64 d] st R
def Ct (s:Af) (deep:Int) (q:Rs):Nd×Af×Int:=
 if deep<1 then (FR,s,2) else match q with
  | .inr (n,s')=>(n,s',0)
  | .inl (e,s')=>(FR,s',e)
def Kd (p:Nd×Af×Int):V:=Su p.1 p.2.1 p.2.2
section
variable {st:St} {R:AL->St->Prop}
attribute [local irreducible] Go.Aw.Ag
theorem B8 {st:St} {c:Nat} (h:(st.Ab b cs).fresh c):b≠c/\st.fresh c:=by
 by_cases e:b=c
 .subst e
  have:=h.1
  rw [St.An] at this
  cases this
 .refine ⟨e,?_,h.2⟩
  have:=h.1
  rw [St.AA e] at this
  exact this
theorem aQ {st:St} {K:Nat->Prop} (h:∀b,st.fresh b->K b):∀b,st.fresh b->K b:=h
theorem aH {st:St} (h:st.box b=some cs):St.le st (st.Ab b cs):=by rw [St.Rr h];exact St.le_refl _
noncomputable def fV:List Oper:=match Tryz.f49.body with|some (.seq _ (.seq _ (.seq _ (.seq _ (.seq _ (.seq (.region _ ops _) _))))))=>ops.toList|_=>[]
noncomputable def fU (bs:List Bool) (b1 b2 b3 U b5:Nat) (nc sc:List V):Env:=
 {tmps:=Hd [(6,.ptr b1 0),(7,.ptr b2 0),(8,.ptr b3 0),(9,.ptr b5 0)] fV [.agg nc,.ptr U 0,.ptr U 0,.ptr U 0,.agg sc,.Cj,.Cj,.Cj] bs,boxes:=[],BI:=1,sz:=28,gl:=[6,7,8,9,12]}
def fW (st:St) (b2 U:Nat) (sc:List V) (bs:List Bool):St:=
 match bs[6]?,bs[7]? with
 |_,some true=>(st.Ab b2 sc).Ab U [.int .i64 0]
 |some true,_=>st.Ab b2 sc
 |_,_=>st
theorem Z1 {s:Af} {deep:Int} {q:Rs} (hq:¬deep<1->Reads f s (if 100<deep then 100 else deep) q) (h:R (.ret (Kd (Ct s deep q))) st):PC 49 [Am s,.int .i64 deep,.func f [] []] st R:=by
 refine Bc.ends (Nj Ad [6,7,8,9,12] Tryz.func49 rfl Do rfl rfl rfl rfl rfl rfl ⟨_,Tryz.func95,rfl,Do⟩ rfl ?_)
 repeat' ((conv=>whnf);first|exact Di|(refine Bl ?_;intros)|(refine Dj ?_ ?_ ?_;rotate_left)|(refine Bm ?_ ?_<;>intro _)|refine aQ (λb5 f5=>?_)|refine AB (St.An ..) ?_|with_reducible refine WF ?_)
 rename_i b1 f1 b2 f2 b3 f3 b4 f4
 obtain ⟨n12,f2a⟩:=B8 f2
 obtain ⟨n23,f3a⟩:=B8 f3
 obtain ⟨n13,f3b⟩:=B8 f3a
 obtain ⟨n34,f4a⟩:=B8 f4
 obtain ⟨n24,f4b⟩:=B8 f4a
 obtain ⟨n14,f4c⟩:=B8 f4b
 obtain ⟨n45,f5a⟩:=B8 f5
 obtain ⟨n35,f5b⟩:=B8 f5a
 obtain ⟨n25,f5c⟩:=B8 f5b
 obtain ⟨n15,f5d⟩:=B8 f5c
 conv=>whnf
 refine ⟨rfl,Ay rfl ?_⟩
 generalize hst5:St.Ab _ b5 [V.ptr b4 0]=st5
 have k1:st5.box b1=some D0:=by subst hst5;rw [St.AA n15.symm,St.AA n15.symm,St.AA n14.symm,St.AA n13.symm,St.AA n12.symm,St.An];rfl
 have k2:st5.box b2=some [.slice 4 (A4 Fy.As) .full,.int .i64 Fy.pos,.slice 1 (ints Fy.BT) .full,.int .i64 Fy.wait]:=by subst hst5;rw [St.AA n25.symm,St.AA n25.symm,St.AA n24.symm,St.AA n23.symm,St.An];rfl
 have k3:st5.box b3=some [.int .i64 0]:=by subst hst5;rw [St.AA n35.symm,St.AA n35.symm,St.AA n34.symm,St.An]
 have k4:Has st5 b4 s:=by subst hst5;refine .inr ⟨eO,Fy,.full,.full,0,?_⟩;rw [St.AA n45.symm,St.AA n45.symm,St.An];rfl
 have k5:st5.box b5=some [.ptr b4 0]:=by subst hst5;rw [St.An]
 have kle:st.le st5:=by
  subst hst5
  exact St.Au (St.Au (St.Au (St.Au (St.Au (St.Au (St.le_refl _) f1.1 _) f2a.1 _) f3b.1 _) f4c.1 _) f5d.1 _) f5d.1 _
 have kpan:∀(U:St) (e:Int) (s':Af),H9 st5 U b4 s'->U.box b5=some [.ptr b4 0]/\U.box b1=some D0/\U.box b2=some [.slice 4 (A4 Fy.As) .full,.int .i64 Fy.pos,.slice 1 (ints Fy.BT) .full,.int .i64 Fy.wait]/\U.box b3=some [.int .i64 0]/\st.le U:=by
  rintro U e s' ⟨_,cs,rfl⟩
  exact ⟨by rw [St.AA n45];exact k5,by rw [St.AA n14.symm];exact k1,by rw [St.AA n24.symm];exact k2,by rw [St.AA n34.symm];exact k3,St.Au kle f4c.1 _⟩
 clear hst5 f2 f3 f4 f5 f3a f4a f4b f5a f5b f5c
 refine Ak (Al Ad ?_)
 repeat' ((conv=>whnf);first|exact Di|(refine Bl ?_;intros)|(refine Dj ?_ ?_ ?_;rotate_left)|(refine Bm ?_ ?_<;>intro _)|refine AB k5 ?_|refine FI ?_|with_reducible refine WF ?_)
 .refine JD (n0:=FR) (s0:=Fy) k5 k4 k1 k2 k3 n15 n14 n12 n13 n25 n24 n23 ?_
  have g1:(((st5.Ab b1 D0).Ab b2 s.cells).Ab b3 [.int .i64 2]).box b1=some D0:=by rw [St.AA n13.symm,St.AA n12.symm,St.An]
  have g2:(((st5.Ab b1 D0).Ab b2 s.cells).Ab b3 [.int .i64 2]).box b2=some s.cells:=by rw [St.AA n23.symm,St.An]
  have gl:st.le (((st5.Ab b1 D0).Ab b2 s.cells).Ab b3 [.int .i64 2]):=St.Au (St.Au (St.Au kle f1.1 _) f2a.1 _) f3b.1 _
  unfold Ct at h
  rw [if_pos ‹_›] at h
  repeat' ((conv=>whnf);first|exact Di|(refine Bl ?_;intros)|(refine Dj ?_ ?_ ?_;rotate_left)|(refine Bm ?_ ?_<;>intro _)|refine AB g1 ?_|refine AB g2 ?_|refine AB (St.An ..) ?_|with_reducible refine WF ?_)
  all_goals exact CI gl rfl h
 .rename_i hd
  unfold Ct at h
  rw [if_neg hd] at h
  have hq:=hq hd b4
  refine Ak (Al Ad ?_)
  cases q with
  |inl q=>
   obtain ⟨e,s'⟩:=q
   repeat' ((conv=>whnf);first|exact Di|(refine Bl ?_;intros)|(refine Dj ?_ ?_ ?_;rotate_left)|(refine Bm ?_ ?_<;>intro _)|refine AB k5 ?_|refine ⟨_,rfl,?_⟩|refine hq _ _ k4 (λU hu=>?_)|with_reducible refine WF ?_)
   obtain ⟨j5,j1,j2,j3,jle⟩:=kpan U e s' hu
   refine JD (n0:=FR) (s0:=Fy) j5 hu.1 j1 j2 j3 n15 n14 n12 n13 n25 n24 n23 ?_
   have g1:(((U.Ab b1 D0).Ab b2 s'.cells).Ab b3 [.int .i64 e]).box b1=some D0:=by rw [St.AA n13.symm,St.AA n12.symm,St.An]
   have g2:(((U.Ab b1 D0).Ab b2 s'.cells).Ab b3 [.int .i64 e]).box b2=some s'.cells:=by rw [St.AA n23.symm,St.An]
   have gl:st.le (((U.Ab b1 D0).Ab b2 s'.cells).Ab b3 [.int .i64 e]):=St.Au (St.Au (St.Au jle f1.1 _) f2a.1 _) f3b.1 _
   repeat' ((conv=>whnf);first|exact Di|(refine Bl ?_;intros)|(refine Dj ?_ ?_ ?_;rotate_left)|(refine Bm ?_ ?_<;>intro _)|refine AB g1 ?_|refine AB g2 ?_|refine AB (St.An ..) ?_|with_reducible refine WF ?_)
   all_goals exact CI gl rfl h
  |inr q=>
   obtain ⟨n,s'⟩:=q
   have kret:=λU hu=>kpan U 0 s' hu
   repeat' ((conv=>whnf);first|exact Di|(refine Bl ?_;intros)|(refine Dj ?_ ?_ ?_;rotate_left)|(refine Bm ?_ ?_<;>intro _)|refine AB k5 ?_|refine ⟨_,rfl,?_⟩|refine hq _ _ k4 (λU hu=>?_)|refine AB (kret U hu).2.1 ?_|with_reducible refine WF ?_)
   obtain ⟨j5,j1,j2,j3,jle⟩:=kret U hu
   generalize hst7:U.Ab b1 (Ax n)=st7
   have i1:st7.box b1=some (Ax n):=by subst hst7;rw [St.An]
   have i5:st7.box b5=some [.ptr b4 0]:=by subst hst7;rw [St.AA n15];exact j5
   have i2:st7.box b2=some [.slice 4 (A4 Fy.As) .full,.int .i64 Fy.pos,.slice 1 (ints Fy.BT) .full,.int .i64 Fy.wait]:=by subst hst7;rw [St.AA n12];exact j2
   have i3:(st7.Ab b2 s'.cells).box b3=some [.int .i64 0]:=by subst hst7;rw [St.AA n23,St.AA n13];exact j3
   have i4:Has st7 b4 s':=by
    subst hst7
    rcases hu.1 with e|⟨t,u,o1,o2,e',e⟩
    .exact .inl (by rw [St.AA n14];exact e)
    .exact .inr ⟨t,u,o1,o2,e',by rw [St.AA n14];exact e⟩
   have ile:st.le st7:=by subst hst7;exact St.Au jle f1.1 _
   refine Ak (Yj Ad (CB _) (λbs=>fU bs b1 b2 b3 b4 b5 (Ax n) s'.cells) (fW st7 b2 b3 s'.cells) Pp GE Yl (by rw [<-hst7];exact St.le_refl _) ?_ ?_)
   .skip
    unfold Pp
    rcases i4 with i4|⟨t,u,q1,q2,q3,i4⟩
    all_goals repeat' (first|refine List.forall_mem_cons.2 ⟨?_,?_⟩|exact λ_ h=>nomatch h)
    repeat' ((conv=>whnf);first|exact Di|(refine Bl ?_;intros)|(refine Dj ?_ ?_ ?_;rotate_left)|(refine Bm ?_ ?_<;>intro _)|refine AB i5 ?_|refine AB i1 ?_|refine AB i4 ?_|refine AB i2 ?_|refine AB i3 ?_|with_reducible refine WF ?_)
    all_goals conv=>whnf
    all_goals (refine ⟨Yl,?_⟩)
    all_goals first|exact St.le_refl _|exact aH i1
   .refine Al Ad (Qp (bp:=b5) ?_)
    have g1:((st7.Ab b2 s'.cells).Ab b3 [.int .i64 0]).box b1=some (Ax n):=by rw [St.AA n13.symm,St.AA n12.symm];exact i1
    have g2:((st7.Ab b2 s'.cells).Ab b3 [.int .i64 0]).box b2=some s'.cells:=by rw [St.AA n23.symm,St.An]
    have gl:st.le ((st7.Ab b2 s'.cells).Ab b3 [.int .i64 0]):=St.Au (St.Au ile f2a.1 _) f3b.1 _
    repeat' ((conv=>whnf);first|exact Di|(refine Bl ?_;intros)|(refine Dj ?_ ?_ ?_;rotate_left)|(refine Bm ?_ ?_<;>intro _)|refine AB g1 ?_|refine AB g2 ?_|refine AB (St.An ..) ?_|with_reducible refine WF ?_)
    all_goals exact CI gl rfl h
end
def mu (s:Af):Nat:=4*(s.As.length - s.pos.toNat)+s.BT.length+(2 - s.wait.toNat)
theorem rp (s:Af):s.BT.length<=mu s:=by unfold mu;omega
theorem JE {s:Af} (h:s.BT≠[]):(EU s).BT.length+1=s.BT.length:=by
 have:0<s.BT.length:=List.length_pos_iff.2 h
 simp only [EU,List.length_dropLast]
 omega
theorem Yi {s:Af} {t:Tk} (h:s.As[s.pos.toNat]? =some t):s.pos.toNat<s.As.length:=(List.getElem?_eq_some_iff.1 h).1
theorem gK {s:Af} (h:(G0 s).2.2=0):mu (G0 s).2.1<=mu s/\((G0 s).1.kind≠21->mu (G0 s).2.1<mu s):=by
 unfold G0 at h |-
 split
 .exact ⟨Nat.le_refl _,λe=>absurd rfl e⟩
 .split
  .rename_i U e2
   have:=JE U
   refine ⟨?_,λ_=>?_⟩<;>simp only [mu,EU] at* <;>omega
  .rename_i U e2
   rw [if_neg U,if_neg e2] at h
   cases h
theorem fK {t:Tk} {s:Af} (h0:0<=s.pos) (h1:0<=s.wait) (h2:s.wait<2) (U:s.As[s.pos.toNat]? =some t):mu (Ha t s).2<mu s:=by
 have:=Yi U
 unfold Ha
 split
 .rename_i e;simp only [mu];rw [e,show Int.toNat 2=2 from rfl,show Int.toNat 1=1 from rfl];omega
 .split
  .simp only [mu,Ln,List.length_append,List.length_singleton];omega
  .simp only [mu];omega
theorem nB {t:Tk} {s:Af} (h0:0<=s.pos) (h2:s.wait<=2) (U:s.As[s.pos.toNat]? =some t):mu (DC t s).2<mu s:=by
 have:=Yi U
 unfold DC
 split
 .rename_i e
  have:=JE (On e.1)
  simp only [mu,EU] at *;omega
 .split<;>(simp only [mu];omega)
theorem fQ {t:Tk} {s:Af} (h0:0<=s.pos) (ht:s.As[s.pos.toNat]? =some t) (h:(C9 t s).2.2=0):mu (C9 t s).2.1<mu s:=by
 have:=Yi ht
 unfold C9 at h |-
 split
 .simp only [mu,Ln,List.length_append,List.length_singleton];omega
 .rename_i e1
  rw [if_neg e1] at h
  split
  .rename_i e2
   rw [if_pos e2] at h
   split
   .rename_i U;rw [if_pos U] at h;cases h
   .rename_i U
    have:=JE (s:=s) (λe=>U (.inl e))
    simp only [mu,EU] at *;omega
  .simp only [mu];omega
theorem VY:∀(n:Nat) (s:Af),0<=s.pos->0<=s.wait->s.wait<=2->(Gk n s).2.2=0->mu (Gk n s).2.1<=mu s/\((Gk n s).1.kind≠21->mu (Gk n s).2.1<mu s)
 |0,s,h0,h1,h2,h=>gK h
 |n+1,s,h0,h1,h2,h=>by
  unfold Gk at h |-
  cases U:s.As[s.pos.toNat]? with
  |none=>rw [U] at h;exact gK h
  |some t=>
   rw [U] at h
   dsimp only at h |-
   split
   .rename_i e
    have:=fK h0 h1 e.2 U
    exact ⟨Nat.le_of_lt this,λ_=>this⟩
   .rename_i e1
    rw [if_neg e1] at h
    have hl:=nB h0 h2 U
    split
    .rename_i e2
     rw [if_pos e2] at h
     split
     .rename_i e3
      rw [if_pos e3] at h
      have hz:=FN e3
      have:=VY n (DC t s).2 (by rw [hz];show 0<=s.pos+1;omega) (by rw [hz];exact Int.le_refl _) (by rw [hz];show (0:Int)<=2;decide) h
      exact ⟨AC,λe=>by omega⟩
     .exact ⟨Nat.le_of_lt hl,λ_=>hl⟩
    .rename_i e2
     rw [if_neg e2] at h
     have:=fQ h0 U h
     exact ⟨Nat.le_of_lt this,λ_=>this⟩
theorem CK {s:Af} (h:(Aa s).2.2=0):mu (Aa s).2.1<=mu s/\((Aa s).1.kind≠21->mu (Aa s).2.1<mu s):=by
 unfold Aa at h |-
 cases U:HM s with
 |false=>rw [U] at h;cases h
 |true=>
  rw [U,if_pos rfl] at h
  rw [if_pos rfl]
  unfold HM at U
  simp only [Bool.and_eq_true,decide_eq_true_eq] at U
  exact VY _ s AC AC AC h
theorem ai {s:Af} (h:¬(G0 s).2.2=0):(G0 s).1=eO:=by
 unfold G0 at h |-
 split
 .rename_i e;rw [if_pos e] at h;exact absurd rfl h
 .rename_i e;rw [if_neg e] at h
  split
  .rename_i e;rw [if_pos e] at h;exact absurd rfl h
  .rfl
theorem cG {t:Tk} {s:Af} (h:¬(C9 t s).2.2=0):(C9 t s).1=eO:=by
 unfold C9 at h |-
 split
 .rename_i e;rw [if_pos e] at h;exact absurd rfl h
 .rename_i e;rw [if_neg e] at h
  split
  .rename_i e;rw [if_pos e] at h
   split
   .rfl
   .rename_i e;rw [if_neg e] at h;exact absurd rfl h
  .rename_i e;rw [if_neg e] at h;exact absurd rfl h
theorem SI:∀(n:Nat) (s:Af),¬(Gk n s).2.2=0->(Gk n s).1=eO
 |0,s,h=>ai h
 |n+1,s,h=>by
  unfold Gk at h |-
  cases U:s.As[s.pos.toNat]? with
  |none=>rw [U] at h;exact ai h
  |some t=>
   rw [U] at h
   dsimp only at h |-
   split
   .rename_i e;rw [if_pos e] at h;exact absurd rfl h
   .rename_i e;rw [if_neg e] at h
    split
    .rename_i e;rw [if_pos e] at h
     split
     .rename_i e;rw [if_pos e] at h;exact SI n _ h
     .rename_i e;rw [if_neg e] at h;exact absurd rfl h
    .rename_i e;rw [if_neg e] at h;exact cG h
theorem Q9 {s:Af} (h:¬(Aa s).2.2=0):(Aa s).1=eO:=by
 unfold Aa at h |-
 cases U:HM s with
 |false=>rfl
 |true=>rw [U,if_pos rfl] at h;rw [if_pos rfl];exact SI _ _ h
theorem FK {s:Af} {k:Int} (h:A9 s k x=true) (U:k≠0):(Aa s).2.2=0:=by
 apply Classical.byContradiction
 intro e
 unfold A9 at h
 rw [Q9 e] at h
 simp only [eO,Bool.and_eq_true,beq_iff_eq] at h
 exact U h.1.symm
theorem C0 {s:Af} {k:Int} (h:A9 s k x=true) (hk:k≠0) (U:k≠21):mu (Aa s).2.1<mu s:=by
 refine (CK (FK h hk)).2 λe=>?_
 unfold A9 at h
 simp only [Bool.and_eq_true,beq_iff_eq] at h
 exact U (h.1.symm.trans e)
abbrev Ls:=Sum (Int×Af) (List Nd×Af)
def Cs (s:Af):Rs:=if (Aa s).2.2=0 then .inr (Av (Aa s).1,(Aa s).2.1) else .inl ((Aa s).2.2,s)
def Qg (s:Af):Rs:=.inl (NN s,s)
def De (s:Af) (k:Int) (x:List UInt8):Rs:=if A9 s k x then Cs s else Qg s
def Cm (t:Tk):Bool:=t.kind==2||t.kind==4||t.kind==1||(t.kind==15&&(t.text==[40]||t.text==[91]))
def Ar (k:Int) (l:List Nd):Nd:=.mk k 0 [] 0 0 l
def Gt (A:Af->Rs) (l:List Nd) (s:Af):Ls:=
 if Cm (Aa s).1 then match A s with
  | .inl e=>.inl e
  | .inr p=>if mu p.2<mu s then Gt A (l++[p.1]) p.2 else .inl (2,s)
 else .inr (l,s)
termination_by mu s
def A1 (A:Af->Rs) (s:Af):Rs:=
 match A s with
 | .inl e=>.inl e
 | .inr p=>match Gt A [p.1] p.2 with
   | .inl e=>.inl e
   | .inr q=>if q.1.length=1 then .inr (p.1,q.2) else .inr (Ar 39 q.1,q.2)
def F2 (A:Af->Rs) (l:List Nd) (s:Af):Ls:=
 if A9 s 10 [45,62] then match A1 A (Aa s).2.1 with
  | .inl e=>.inl e
  | .inr p=>if mu p.2<mu s then F2 A (l++[Av (Aa s).1,p.1]) p.2 else .inl (2,s)
 else .inr (l,s)
termination_by mu s
def Cb (A:Af->Rs) (n:Nd) (s:Af):Rs:=
 match F2 A [n] s with
 | .inl e=>.inl e
 | .inr q=>if q.1.length=1 then .inr (n,q.2) else .inr (Ar 37 q.1,q.2)
def DI (A:Af->Rs) (s:Af):Rs:=
 match A1 A s with
 | .inl e=>.inl e
 | .inr p=>Cb A p.1 p.2
def EA (A:Af->Rs) (s:Af):Rs:=
 match A1 A s with
 | .inl e=>.inl e
 | .inr p=>if A9 p.2 10 [61,62] then match DI A (Aa p.2).2.1 with
    | .inl e=>.inl e
    | .inr q=>.inr (Ar 38 [p.1,Av (Aa p.2).1,q.1],q.2)
   else Cb A p.1 p.2
def Cw (Y:Af->Rs) (l:List Nd) (s:Af):Ls:=
 if A9 s 15 [44] then match Y (Aa s).2.1 with
  | .inl e=>.inl e
  | .inr p=>if mu p.2<mu s then Cw Y (l++[Av (Aa s).1,p.1]) p.2 else .inl (2,s)
 else .inr (l,s)
termination_by mu s
def Ck (l:List Nd) (s:Af):List Nd×Af:=
 if A9 s 15 [44] then if mu (Aa s).2.1<mu s then Ck (l++[Av (Aa s).1]) (Aa s).2.1 else (l,s) else (l,s)
termination_by mu s
def En (k:Int) (l:List Nd) (s:Af) (x:List UInt8):Rs:=match De s 15 x with
 | .inl e=>.inl e
 | .inr p=>.inr (Ar k (l++[p.1]),p.2)
def He (Y:Af->Rs) (s:Af):Rs:=
 match Cs s with
 | .inl e=>.inl e
 | .inr p=>
   if A9 p.2 10 [45,62] then En 3 [p.1,Av (Aa p.2).1] (Aa p.2).2.1 [41]
   else if A9 p.2 15 [41] then En 3 [p.1] p.2 [41]
   else if A9 p.2 15 [44] then En 3 (Ck [p.1] p.2).1 (Ck [p.1] p.2).2 [41]
   else match Y p.2 with
    | .inl e=>.inl e
    | .inr q=>match Cw Y [p.1,q.1] q.2 with
      | .inl e=>.inl e
      | .inr r=>En (if 2<r.1.length then 5 else 4) r.1 r.2 [41]
def FG (Y:Af->Rs) (s:Af):Rs:=
 match Cs s with
 | .inl e=>.inl e
 | .inr p=>
   if A9 p.2 15 [93] then .inr (Ar 3 [p.1,Av (Aa p.2).1],(Aa p.2).2.1)
   else match Y p.2 with
    | .inl e=>.inl e
    | .inr q=>En 6 [p.1,q.1] q.2 [93]
def Cp (Y:Af->Rs) (s:Af):Rs:=
 if Cm (Aa s).1 then if (Aa s).1.kind=15 then if (Aa s).1.text=[40] then He Y s else FG Y s else Cs s else Qg s
def DL:Nat->Af->Rs
 |0,s=>.inl (2,s)
 |d+1,s=>DI (Cp (DL d)) s
def C5 (A:Af->Rs):Prop:=∀s e s',A s=.inl (e,s')->e≠0
def A7 (A:Af->Rs):Prop:=∀s n s',A s=.inr (n,s')->mu s'<mu s
theorem Jz (s:Af):NN s≠0:=by
 unfold NN
 split
 .decide
 .rename_i e;exact e
theorem IP:C5 Cs:=λs e s' h=>by
 unfold Cs at h
 split at h
 .cases h
 .rename_i hn;cases h;exact hn
theorem UY:C5 Qg:=λs e s' h=>by unfold Qg at h;cases h;exact Jz s
theorem K5 {k:Int}:C5 (λs=>De s k x):=λs e s' h=>by
 unfold De at h
 dsimp only at h
 split at h
 .exact IP _ _ _ h
 .exact UY _ _ _ h
theorem Kt {k:Int}:C5 (λs=>En k l s x):=λs e s' h=>by
 unfold En at h
 dsimp only at h
 split at h
 .rename_i U hw
  cases h
  exact K5 _ _ _ hw
 .cases h
theorem jW {A:Af->Rs} (hA:C5 A) (l:List Nd) (s:Af):∀e s',Gt A l s=.inl (e,s')->e≠0:=by
 fun_induction Gt A l s with
 |case1 l s U e1 h2=>intro e s' h;cases h;exact hA _ _ _ h2
 |case2 l s U p h2 h3 ih=>exact ih
 |case3 l s U p h2 h3=>intro e s' h;cases h;decide
 |case4 l s U=>intro e s' h;cases h
theorem Ei {A:Af->Rs} (hA:C5 A):C5 (A1 A):=λs e s' h=>by
 unfold A1 at h
 split at h
 .rename_i U;cases h;exact hA _ _ _ U
 .split at h
  .rename_i U;cases h;exact jW hA _ _ _ _ U
  .split at h<;>cases h
theorem fy {A:Af->Rs} (hA:C5 A) (l:List Nd) (s:Af):∀e s',F2 A l s=.inl (e,s')->e≠0:=by
 fun_induction F2 A l s with
 |case1 l s U e1 h2=>intro e s' h;cases h;exact Ei hA _ _ _ h2
 |case2 l s U p h2 h3 ih=>exact ih
 |case3 l s U p h2 h3=>intro e s' h;cases h;decide
 |case4 l s U=>intro e s' h;cases h
theorem Ks {A:Af->Rs} (hA:C5 A):C5 (Cb A n):=λs e s' h=>by
 unfold Cb at h
 split at h
 .rename_i U;cases h;exact fy hA _ _ _ _ U
 .split at h<;>cases h
theorem Qh {A:Af->Rs} (U:C5 A):C5 (DI A):=λs e s' h=>by
 unfold DI at h
 split at h
 .rename_i h1;cases h;exact Ei U _ _ _ h1
 .exact Ks U _ _ _ h
theorem Sg {A:Af->Rs} (hA:C5 A):C5 (EA A):=λs e s' h=>by
 unfold EA at h
 split at h
 .rename_i U;cases h;exact Ei hA _ _ _ U
 .split at h
  .split at h
   .rename_i U;cases h;exact Qh hA _ _ _ U
   .cases h
  .exact Ks hA _ _ _ h
theorem ZJ {Y:Af->Rs} (hY:C5 Y) (l:List Nd) (s:Af):∀e s',Cw Y l s=.inl (e,s')->e≠0:=by
 fun_induction Cw Y l s with
 |case1 l s U e1 h2=>intro e s' h;cases h;exact hY _ _ _ h2
 |case2 l s U p h2 h3 ih=>exact ih
 |case3 l s U p h2 h3=>intro e s' h;cases h;decide
 |case4 l s U=>intro e s' h;cases h
theorem Yk {Y:Af->Rs} (hY:C5 Y):C5 (He Y):=λs e s' h=>by
 unfold He at h
 split at h
 .rename_i U;cases h;exact IP _ _ _ U
 .split at h
  .exact Kt _ _ _ h
  .split at h
   .exact Kt _ _ _ h
   .split at h
    .exact Kt _ _ _ h
    .split at h
     .rename_i U;cases h;exact hY _ _ _ U
     .split at h
      .rename_i U;cases h;exact ZJ hY _ _ _ _ U
      .exact Kt _ _ _ h
theorem UZ {Y:Af->Rs} (hY:C5 Y):C5 (FG Y):=λs e s' h=>by
 unfold FG at h
 split at h
 .rename_i U;cases h;exact IP _ _ _ U
 .split at h
  .cases h
  .split at h
   .rename_i U;cases h;exact hY _ _ _ U
   .exact Kt _ _ _ h
theorem FW {Y:Af->Rs} (U:C5 Y):C5 (Cp Y):=λs e s' h=>by
 unfold Cp at h
 split at h
 .split at h
  .split at h
   .exact Yk U _ _ _ h
   .exact UZ U _ _ _ h
  .exact IP _ _ _ h
 .exact UY _ _ _ h
theorem Du:∀d,C5 (DL d)
 |0=>λs e s' h=>by cases h;decide
 |d+1=>Qh (FW (Du d))
theorem P2 {s:Af} {s':Af} (h:Cs s=.inr (n,s')):mu s'<=mu s/\((Aa s).1.kind≠21->mu s'<mu s):=by
 unfold Cs at h
 split at h
 .rename_i e;cases h;exact CK e
 .cases h
theorem oY {s:Af} {k:Int} {s':Af} (hk:k≠0) (U:k≠21) (h:De s k x=.inr (n,s')):mu s'<mu s:=by
 unfold De at h
 split at h
 .rename_i e
  unfold Cs at h
  rw [if_pos (FK e hk)] at h
  cases h
  exact C0 e hk U
 .cases h
theorem QM {s:Af} {k:Int} {s':Af} (h:En k l s x=.inr (n,s')):mu s'<mu s:=by
 unfold En at h
 split at h
 .cases h
 .rename_i U;cases h;exact oY Do Do U
theorem Ol {s:Af} {s':Af} (U:Cm (Aa s).1=true) (h:Cs s=.inr (n,s')):mu s'<mu s:=by
 refine (P2 h).2 λe=>?_
 unfold Cm at U
 rw [e] at U
 simp at U
theorem ov {A:Af->Rs} (l:List Nd) (s:Af):∀q s',Gt A l s=.inr (q,s')->mu s'<=mu s:=by
 fun_induction Gt A l s with
 |case1 l s U e1 h2=>intro e s' h;cases h
 |case2 l s U p h2 h3 ih=>intro e s' h;have:=ih e s' h;omega
 |case3 l s U p h2 h3=>intro e s' h;cases h
 |case4 l s U=>intro e s' h;cases h;exact Nat.le_refl _
theorem Eu {A:Af->Rs} (hA:A7 A):A7 (A1 A):=λs n s' h=>by
 unfold A1 at h
 split at h
 .cases h
 .rename_i U
  have:=hA _ _ _ U
  split at h
  .cases h
  .rename_i h2
   have:=ov _ _ _ _ h2
   split at h<;>(cases h;omega)
theorem lQ {A:Af->Rs} (l:List Nd) (s:Af):∀q s',F2 A l s=.inr (q,s')->mu s'<=mu s:=by
 fun_induction F2 A l s with
 |case1 l s U e1 h2=>intro e s' h;cases h
 |case2 l s U p h2 h3 ih=>intro e s' h;have:=ih e s' h;omega
 |case3 l s U p h2 h3=>intro e s' h;cases h
 |case4 l s U=>intro e s' h;cases h;exact Nat.le_refl _
theorem Sf {A:Af->Rs} {m:Nd} {s s':Af} (h:Cb A n s=.inr (m,s')):mu s'<=mu s:=by
 unfold Cb at h
 split at h
 .cases h
 .rename_i U
  have:=lQ _ _ _ _ U
  split at h<;>(cases h;exact this)
theorem OA {A:Af->Rs} (hA:A7 A):A7 (DI A):=λs n s' h=>by
 unfold DI at h
 split at h
 .cases h
 .rename_i U
  have:=Eu hA _ _ _ U
  have:=Sf h
  omega
theorem Te {Y:Af->Rs} (l:List Nd) (s:Af):∀q s',Cw Y l s=.inr (q,s')->mu s'<=mu s:=by
 fun_induction Cw Y l s with
 |case1 l s U e1 h2=>intro e s' h;cases h
 |case2 l s U p h2 h3 ih=>intro e s' h;have:=ih e s' h;omega
 |case3 l s U p h2 h3=>intro e s' h;cases h
 |case4 l s U=>intro e s' h;cases h;exact Nat.le_refl _
theorem cJ (l:List Nd) (s:Af):mu (Ck l s).2<=mu s:=by
 fun_induction Ck l s with
 |case1 l s U h2 ih=>omega
 |case2 l s U h2=>exact Nat.le_refl _
 |case3 l s U=>exact Nat.le_refl _
theorem jU {Y:Af->Rs} (hY:A7 Y) {s:Af} {s':Af} (hs:Cm (Aa s).1=true) (h:He Y s=.inr (n,s')):mu s'<mu s:=by
 unfold He at h
 split at h
 .cases h
 .rename_i h1
  have:=Ol hs h1
  split at h
  .rename_i U
   have:=C0 U Do Do
   have:=QM h
   omega
  .split at h
   .have:=QM h;omega
   .split at h
    .have:=QM h
     have:=cJ [‹Nd×Af›.1] ‹Nd×Af›.2
     omega
    .split at h
     .cases h
     .rename_i U
      have:=hY _ _ _ U
      split at h
      .cases h
      .rename_i h3
       have:=Te _ _ _ _ h3
       have:=QM h
       omega
theorem eD {Y:Af->Rs} (hY:A7 Y) {s:Af} {s':Af} (hs:Cm (Aa s).1=true) (h:FG Y s=.inr (n,s')):mu s'<mu s:=by
 unfold FG at h
 split at h
 .cases h
 .rename_i h1
  have:=Ol hs h1
  split at h
  .rename_i U
   have:=C0 U Do Do
   cases h
   omega
  .split at h
   .cases h
   .rename_i U
    have:=hY _ _ _ U
    have:=QM h
    omega
theorem CM {Y:Af->Rs} (hY:A7 Y):A7 (Cp Y):=λs n s' h=>by
 unfold Cp at h
 split at h
 .rename_i U
  split at h
  .split at h
   .exact jU hY U h
   .exact eD hY U h
  .exact Ol U h
 .cases h
theorem B0:∀d,A7 (DL d)
 |0=>λs n s' h=>by cases h
 |d+1=>OA (CM (B0 d))
theorem Es {st:St} {K:AL->St->Prop} {q:Rs} (h:∀n s',q=.inr (n,s')->∀st',H9 st st' b s'->K (.ret (enc n)) st') (k:∀e s',q=.inl (e,s')->∀st',H9 st st' b s'->K (.Cz (fault e)) st'):Gu st b K q:=by
 match q with
 | .inr (n,s')=>exact h n s' rfl
 | .inl (e,s')=>exact k e s' rfl
theorem Has.hw {st:St} {s:Af} (h:Has st b s) (own:AF) (n:Nat):Has (own.st st n) b s:=by
 cases own with
 |any=>exact h
 |full=>exact h
 |tok t=>exact h
theorem cf {own:AF} {st:St} {n:Nat} {s s':Af} (hg:own.BH st) (hh:Has st b s) (hu:H9 (own.st st n) st' b s'):∃U,st'=own.st U n/\H9 st U b s'/\own.BH U:=by
 obtain ⟨h1,cs,e⟩:=hu
 cases own with
 |any=>exact hg.elim
 |full=>exact ⟨st',rfl,⟨h1,cs,e⟩,trivial⟩
 |tok t=>
  refine ⟨st.Ab b cs,e,⟨?_,cs,rfl⟩,?_,?_⟩
  .rw [e] at h1;exact h1
  .have:b≠t:=by
    rintro rfl
    have h2:st.box b=none:=hg.1
    rcases hh with k|⟨_,_,_,_,_,k⟩<;>(rw [h2] at k;cases k)
   rw [St.AA this];exact hg.1
  .exact hg.2
def fo (own:AF) (n:Nat) (st:St) (b:Nat) (R:AL->St->Prop):Rs->Prop
 | .inr (x,s')=>∀st',H9 st st' b s'->own.BH st'->R (.ret (enc x)) (own.st st' n)
 | .inl (e,s')=>∀st',H9 st st' b s'->own.BH st'->R (.Cz (fault e)) (own.st st' n)
theorem F1 {own:AF} {n:Nat} {st:St} {s:Af} {q:Rs} (hg:own.BH st) (hh:Has st b s) (h:fo own n st b R q):Gu (own.st st n) b R q:=by
 refine Es (λx s' e st' hu=>?_) (λx s' e st' hu=>?_)
 .obtain ⟨U,rfl,h2,h3⟩:=cf hg hh hu
  subst e
  exact h U h2 h3
 .obtain ⟨U,rfl,h2,h3⟩:=cf hg hh hu
  subst e
  exact h U h2 h3
section
variable {st:St} {R:AL->St->Prop}
attribute [local irreducible] Go.Aw.Ag
theorem XI {t:Tk} (h:R (.ret (.bool (Cm t))) st):PC 159 [Eb t] st R:=by
 refine pB Tryz.func159 ?_
 repeat' ((conv=>whnf);first|(refine Bl ?_;intros)|(refine Bm ?_ ?_<;>intro _)|fail)
 all_goals conv=>whnf
 all_goals (refine Ao h ?_;clear h;simp_all [Cm])
def D8 (f:FuncId) (d:Int) (A:Af->Rs):Prop:=∀s,mu s<=100000000->Reads f s d (A s)
theorem BB {s:Af} (h:mu s<=100000000):s.BT.length<=500000000:=by have:=rp s;omega
theorem Gs {s:Af} (U:Has st b s) (hb:s.BT.length<=500000000) (h:Gu st b R (Cs s)):PC 100 [.ptr b 0] st R:=by
 unfold Cs at h
 refine Om U hb (λe=>?_) (λe=>?_)
 .rw [if_pos e] at h;exact h
 .rw [if_neg e] at h;exact h _ A6
theorem sI {s:Af} (U:Has st b s) (hb:s.BT.length<=500000000) (h:∀st',H9 st st' b s->R (.Cz (fault (NN s))) st'):PC 191 [.ptr b 0] st R:=fG U hb (h _ A6)
theorem RN {s:Af} {k:Int} (hs:Has st b s) (hb:s.BT.length<=500000000) (h:Gu st b R (De s k x)):PC 167 [.ptr b 0,.int .i64 k,.str x] st R:=by
 unfold De Cs at h
 refine lr hs hb (λU e2=>?_) (λU e2=>?_) (λU=>?_)
 .rw [if_pos U,if_pos e2] at h;exact h
 .rw [if_pos U,if_neg e2] at h;exact h _ A6
 .rw [if_neg (by rw [U];decide)] at h;exact h _ A6
theorem qj {Y:Af->Rs} (hr:D8 232 d (He Y)) (hsq:D8 233 d (FG Y)):D8 158 d (Cp Y):=by
 intro s hm b st R hs h
 refine pB Tryz.func158 ?_
 have hb:=BB hm
 have hl:Has (st.Ab b (Dd s)) b s:=.inl (St.An ..)
 unfold Cp at h
 repeat' ((conv=>whnf);first|(refine Bl ?_;intros)|(refine Bm ?_ ?_<;>intro _)|refine Hc hs hb ?_|refine XI ?_|refine Gs hl hb (Es (λn s' hq st' U=>?_) (λe s' hq st' U=>?_))|refine sI hl hb (λst' U=>?_)|refine hr s hm b _ _ hl (Es (λn s' hq st' U=>?_) (λe s' hq st' U=>?_))|refine hsq s hm b _ _ hl (Es (λn s' hq st' U=>?_) (λe s' hq st' U=>?_)))
 all_goals repeat (first|rw [if_pos ‹_›] at h|rw [if_neg ‹_›] at h|rw [if_neg (Bool.eq_false_iff.1 ‹_›)] at h)
 all_goals first
  |exact fin (h st' (A6.trans U)) rfl
  |(rw [hq] at h;exact AZ rfl (h st' (A6.trans U)))
  |(rw [hq] at h;exact fin (h st' (A6.trans U)) rfl)
 all_goals trace_state
end
theorem Se {own:AF} {st:St} (h:own.BH st) (hb:l.length+new.length<=1000000000)
 (k:∀U:AF,U.BH st->K (.slice 6 (Cc (l++new)) U) (U.st st ((l++new).length*6))):Ag 6 72 (Cc l) own (Cc new) (own.st st (l.length*6)) K:=by
 have hw:(Cc new).map (·.map V.Ko)=Cc new:=by
  rw [BG,List.map_map]
  refine List.map_congr_left λx _=>?_
  rfl
 have hsc:((Cc new).all λv=>v.all V.sc)=true:=by
  rw [BG,List.all_map,List.all_eq_true]
  intro x _
  rfl
 have:=Hj (sz:=6) (bytes:=72) (es:=Cc l) (new:=Cc new) (K:=K) h (by rw [CD,CD];omega) (by rw [CD,CD];simp only [Fe];omega) hsc (λU ho=>by
  have:=k U ho
  rw [CD,CD,hw,<-Vf,<-List.length_append]
  exact this)
 rw [CD] at this
 exact this
theorem NI {x:Nd} {own:AF} {st:St} (h:own.BH st) (hb:l.length+1<=1000000000)
 (k:∀U:AF,U.BH st->K (.slice 6 (Cc (l++[x])) U) (U.st st ((l++[x]).length*6))):Ag 6 72 (Cc l) own [Ax x] (own.st st (l.length*6)) K:=by
 have:=Se (l:=l) (new:=[x]) h hb k
 rw [BG [x]] at this
 exact this
theorem ZU {x:Nd} {own:AF} {st:St} (h:own.BH st) (hb:l.length+1<=1000000000)
 (k:∀U:AF,U.BH st->K (.slice 6 (Cc (l++[x])) U) (U.st st ((l++[x]).length*6))):Ag 6 72 (l.map Ax) own [Ax x] (own.st st (l.length*6)) K:=by
 rw [<-BG]
 exact NI h hb k
theorem Bn {d:Nat} {K:Int->Prop} (h:d<=1000000) (k:K (d:Int)):∃r,r=IntKind.i64.wrap (((d+1:Nat):Int) - 1)/\K r:=by
 refine ⟨d,?_,k⟩
 rw [show ((d+1:Nat):Int) - 1=(d:Int) by omega,LC AC AC]
section
variable {st:St} {R:AL->St->Prop}
attribute [local irreducible] Go.Aw.Ag
theorem UG {K:AL->St->Prop} {q:Rs} {x:Int} {s':Af} (e:q=.inl (x,s')) (h:∀st',H9 st st' b s'->K (.Cz (fault x)) st'):Gu st b K q:=by subst e;exact h
theorem GK {own:AF} {m:Nat} {st:St} {K:AL->St->Prop} {q:Rs} (h:∀n s',q=.inr (n,s')->∀st',H9 st st' b s'->own.BH st'->K (.ret (enc n)) (own.st st' m)) (k:∀e s',q=.inl (e,s')->∀st',H9 st st' b s'->own.BH st'->K (.Cz (fault e)) (own.st st' m)):fo own m st b K q:=by
 match q with
 | .inr (n,s')=>exact h n s' rfl
 | .inl (e,s')=>exact k e s' rfl
theorem Ht {K:AL->St->Prop} {q:Rs} {x:Nd} {s':Af} (e:q=.inr (x,s')) (h:∀st',H9 st st' b s'->K (.ret (enc x)) st'):Gu st b K q:=by subst e;exact h
def F6 (f:FuncId) (d:Int) (A:Af->Rs):Prop:=∀s,mu s<=100000000->∀(st:St) (R:AL->St->Prop),R (.ret (Kd (Ct s d (A s)))) st->PC f [Am s,.int .i64 d] st R
theorem qN {d:Nat} {A:Af->Rs} (hf:F6 f d A) (h0:d=0->∀s,A s=.inl (2,s)) (hA:C5 A) {s:Af} (hm:mu s<=100000000) (hs:Has st b s) (h:Gu st b R (A s)):
 PC 254 [.ptr b 0,.func f [] [],.int .i64 d] st R:=by
 by_cases hd:(d:Int)<1
 .have hz:d=0:=AC
  rw [h0 hz s] at h
  refine YO (n:=FR) (s':=s) (e:=2) (λst R k=>hf s hm st R ?_) hs (λe=>by cases e) (λ_=>h)
  unfold Ct;rw [if_pos hd];exact k
 .cases U:A s with
  |inr p=>
   rw [U] at h
   refine YO (n:=p.1) (s':=p.2) (e:=0) (λst R k=>hf s hm st R ?_) hs (λ_=>h) (λe=>absurd rfl e)
   unfold Ct;rw [if_neg hd,U];exact k
  |inl p=>
   rw [U] at h
   have hne:=hA s p.1 p.2 U
   refine YO (n:=FR) (s':=p.2) (e:=p.1) (λst R k=>hf s hm st R ?_) hs (λe=>absurd e hne) (λ_=>h)
   unfold Ct;rw [if_neg hd,U];exact k
theorem TQ {d:Nat} {x:Int} {A:Af->Rs} (hx:x=(d:Int)) (hf:F6 f d A) (U:d=0->∀s,A s=.inl (2,s)) (hA:C5 A) {s:Af} (hm:mu s<=100000000) (hs:Has st b s) (h:Gu st b R (A s)):
 PC 254 [.ptr b 0,.func f [] [],.int .i64 x] st R:=by subst hx;exact qN hf U hA hm hs h
theorem kT {d:Nat} (hd:d<=1000000) {Y:Af->Rs} (hY:F6 287 d Y) (h0:d=0->∀s,Y s=.inl (2,s)) (hB:C5 Y) (hF:A7 Y):D8 233 ((d+1:Nat):Int) (FG Y):=by
 intro s hm b st R hs h
 refine pB Tryz.func233 ?_
 have hb:=BB hm
 unfold FG at h
 cases U:Cs s with
 |inl q=>
  rw [U] at h
  obtain ⟨e,s'⟩:=q
  repeat' ((conv=>whnf);first|(refine Bl ?_;intros)|(refine Bm ?_ ?_<;>intro _)|refine Gs hs hb (UG U (λst1 h1=>?_)))
  all_goals exact fin (h st1 h1) rfl
 |inr q=>
  obtain ⟨n1,s1⟩:=q
  rw [U] at h
  have hm1:mu s1<=100000000:=by have:=(P2 U).1;omega
  have hb1:=BB hm1
  repeat' ((conv=>whnf);first|(refine Bl ?_;intros)|(refine Bm ?_ ?_<;>intro _)|refine Gs hs hb (Ht U (λst1 h1=>?_))|refine YQ h1.1 hb1 ?_)
  .have hp:A9 s1 15 [93]=true:=FS
   have hl1:Has (st1.Ab b (Dd s1)) b s1:=.inl (St.An ..)
   have hq2:Cs s1=.inr (Av (Aa s1).1,(Aa s1).2.1):=by unfold Cs;rw [if_pos (FK hp Do)]
   dsimp only at h
   rw [if_pos hp] at h
   have hn1:[n1].length+1<=1000000000:=by show 1+1<=1000000000;decide
   repeat' ((conv=>whnf);first|(refine Bl ?_;intros)|(refine Bm ?_ ?_<;>intro _)|refine Gs hl1 hb1 (Ht hq2 (λst2 h2=>?_))|refine ZU (l:=[n1]) (x:=Av (Aa s1).1) (own:=.full) trivial hn1 (λown1 ho1=>?_))
   all_goals exact CI (AF.Ba ho1) rfl (h st2 (h1.trans (A6.trans h2)))
  .have hp:A9 s1 15 [93]=false:=FS
   have hl1:Has (st1.Ab b (Dd s1)) b s1:=.inl (St.An ..)
   dsimp only at h
   rw [if_neg (by rw [hp];decide)] at h
   have hn1:[n1].length+1<=1000000000:=by show 1+1<=1000000000;decide
   have hn2:∀n2:Nd,([n1]++[n2]).length+1<=1000000000:=λ_=>by simp only [List.length_append,List.length_singleton];decide
   repeat' ((conv=>whnf);first|(refine Bl ?_;intros)|(refine Bm ?_ ?_<;>intro _)|refine TQ AC hY h0 hB hm1 hl1 (Es (λn2 s2 hq2 st2 h2=>?_) (λe2 s2 hq2 st2 h2=>?_))|refine ZU (l:=[n1]) (x:=n2) (own:=.full) trivial hn1 (λown1 ho1=>?_)|refine RN (h2.1.hw own1 _) (BB (Nat.le_trans (Nat.le_of_lt (hF _ _ _ hq2)) hm1)) (F1 ho1 h2.1 (GK (λn3 s3 hq3 st3 h3 hg3=>?_) (λe3 s3 hq3 st3 h3 hg3=>?_)))|refine NI (l:=[n1]++[n2]) (x:=n3) hg3 (hn2 n2) (λown2 ho2=>?_))
   all_goals rw [hq2] at h
   .unfold En at h
    dsimp only at h
    rw [hq3] at h
    exact CI (AF.Ba ho2) rfl (h st3 (((h1.trans A6).trans h2).trans h3))
   .unfold En at h
    dsimp only at h
    rw [hq3] at h
    exact CI (AF.Ba hg3) rfl (h st3 (((h1.trans A6).trans h2).trans h3))
   .exact fin (h st2 ((h1.trans A6).trans h2)) rfl
end
theorem DR {x:Nd} {own:AF} {st:St} (h:own.BH st) (hb:l.length+1<=1000000000)
 (k:∀U:AF,U.BH st->K (.slice 6 ((l++[x]).map Ax) U) (U.st st ((l++[x]).length*6))):Ag 6 72 (l.map Ax) own [Ax x] (own.st st (l.length*6)) K:=by
 rw [<-BG]
 exact NI h hb (by simpa only [BG] using k)
theorem CO {k:Int} {own:AF}:AL.ret (enc (Ar k l))=(AL.ret (.agg [.int .i64 k,.int .i64 0,.str [],.int .i64 0,.int .i64 0,.slice 6 (l.map Ax) own])).wk:=by
 rw [<-BG];rfl
theorem ou {A:Af->Rs} {s:Af} {s':Af} (h:Cm (Aa s).1=true) (U:A s=.inr (n,s')) (hm:mu s'<mu s):Gt A l s=Gt A (l++[n]) s':=by
 rw [Gt,if_pos h,U]
 dsimp only
 rw [if_pos hm]
section
variable {st:St} {R:AL->St->Prop}
attribute [local irreducible] Go.Aw.Ag
theorem Bj {K:Nat->Prop} (k:l.length<4611686018427387904->K l.length):∀m,m=(l.map Ax).length->m<Fe->K m:=λm U h=>by
 rw [List.length_map] at U;subst U;exact k h
theorem bg {own:AF} {st:St} {n:Nat}:(own.st st n).Ab b cs=own.st (st.Ab b cs) n:=by cases own<;>rfl
theorem rq {own:AF} {n:Nat} {s:Af} (hg:own.BH st) (U:Has st b s) (hb:s.BT.length<=500000000) (h:R (.ret (Eb (Aa s).1)) (own.st (st.Ab b (Dd s)) n)):PC 135 [.ptr b 0] (own.st st n) R:=
 Hc (U.hw own n) hb (by rw [bg];exact h)
theorem Jb {own:AF} {s:Af} (U:own.BH st) (hs:Has st b s):own.BH (st.Ab b cs):=by
 cases own with
 |any=>exact U
 |full=>trivial
 |tok t=>
  have:b≠t:=by
   rintro rfl
   have h2:st.box b=none:=U.1
   rcases hs with k|⟨_,_,_,_,_,k⟩<;>(rw [h2] at k;cases k)
  exact ⟨by rw [St.AA this];exact U.1,U.2⟩
theorem rm {n1:Nd} {K:List V->Prop} (h:l.length=Int.toNat 1) (j:l.length=1->l=[n1]) (k:K (Ax n1)):(0:Int)<=0/\∃e,(l.map Ax)[Int.toNat 0]? =some e/\K e:=
 ⟨Int.le_refl _,Ax n1,by rw [j h];rfl,k⟩
theorem rN {A:Af->Rs} (ha:D8 158 d A) (hF:A7 A):D8 97 d (A1 A):=by
 intro s hm b st R hs h
 refine pB Tryz.func97 ?_
 unfold A1 at h
 cases U:A s with
 |inl q=>
  obtain ⟨e,s1⟩:=q
  rw [U] at h
  repeat' ((conv=>whnf);first|(refine Bl ?_;intros)|(refine Bm ?_ ?_<;>intro _)|refine ha s hm b _ _ hs (UG U (λst1 h1=>?_)))
  all_goals exact fin (h st1 h1) rfl
 |inr q=>
  obtain ⟨n1,s1⟩:=q
  rw [U] at h
  have hf1:=hF _ _ _ U
  dsimp only at h
  repeat' ((conv=>whnf);first|(refine Bl ?_;intros)|(refine Bm ?_ ?_<;>intro _)|refine ha s hm b _ _ hs (Ht U (λst1 h1=>?_)))
  refine IH (α:=List Nd×Af×St×AF) (λx=>[(5,.slice 6 (x.1.map Ax) x.2.2.2)]) [0,1,4] (λx=>[]) [0] (λx=>x.2.2.2.st x.2.2.1 (x.1.length*6))
   (λx=>x.2.2.2.BH x.2.2.1/\H9 st x.2.2.1 b x.2.1/\x.1≠[]/\x.1.length+mu x.2.1<=200000000/\mu x.2.1<=mu s1/\Gt A x.1 x.2.1=Gt A [n1] s1/\(x.1.length=1->x.1=[n1])) (λx=>mu x.2.1) ([n1],s1,st1,.full)
   ⟨trivial,h1,GT,by show 1+mu s1<=_;omega,Nat.le_refl _,rfl,λ_=>rfl⟩ Yl (St.le_refl _) ?_
  rintro ⟨l,s2,st2,own⟩ ⟨j1,j2,j3,j4,j5,j6,j7⟩
  dsimp only at j1 j2 j3 j4 j5 j6 j7
  have hm2:mu s2<=100000000:=AC
  have KE:=BB hm2
  have hl3:Has (st2.Ab b (Dd s2)) b s2:=.inl (St.An ..)
  have g3:own.BH (st2.Ab b (Dd s2)):=Jb j1 j2.1
  have u3:H9 st (st2.Ab b (Dd s2)) b s2:=j2.trans A6
  have hn:l.length+1<=1000000000:=AC
  repeat' ((conv=>whnf);first|(refine Bl ?_;intros)|(refine Bm ?_ ?_<;>intro _)|refine rq j1 j2.1 KE ?_|refine XI ?_|refine ha s2 hm2 b _ _ (hl3.hw own _) (F1 g3 hl3 (GK (λn2 s4 hq2 st4 h4 g4=>?_) (λe2 s4 hq2 st4 h4 g4=>?_)))|refine DR (l:=l) g4 hn (λown' ho'=>?_)|refine Bj (λ_=>?_)|refine rm ‹_› j7 ?_)
  .have hd:=hF _ _ _ hq2
   refine ⟨(l++[n2],s4,st4,own'),⟨ho',u3.trans h4,GT,by show (l++[n2]).length+mu s4<=_;rw [List.length_append,List.length_singleton];omega,by show mu s4<=_;omega,?_,?_⟩,hd,Yl,St.le_refl _⟩
   .show Gt A (l++[n2]) s4=_
    rw [<-j6,ou (l:=l) ‹_› hq2 hd]
   .intro e
    have:=List.length_pos_iff.2 j3
    have e:(l++[n2]).length=1:=e
    rw [List.length_append,List.length_singleton] at e
    omega
  .have hr:Gt A l s2=.inl (e2,s4):=by rw [Gt,if_pos ‹_›,hq2]
   rw [<-j6,hr] at h
   exact CI (AF.Ba g4) rfl (h st4 (u3.trans h4))
  .have hr:Gt A l s2=.inr (l,s2):=by rw [Gt,if_neg (Bool.eq_false_iff.1 ‹_›)]
   rw [<-j6,hr] at h
   dsimp only at h
   rw [if_pos ‹_›] at h
   exact CI (AF.Ba g3) rfl (h _ u3)
  .have hr:Gt A l s2=.inr (l,s2):=by rw [Gt,if_neg (Bool.eq_false_iff.1 ‹_›)]
   rw [<-j6,hr] at h
   dsimp only at h
   rw [if_neg ‹_›] at h
   exact CI (AF.Ba g3) CO (h _ u3)
end
theorem fu {x y:Nd} {own:AF} {st:St} (h:own.BH st) (hb:l.length+2<=1000000000)
 (k:∀U:AF,U.BH st->K (.slice 6 ((l++[x,y]).map Ax) U) (U.st st ((l++[x,y]).length*6))):Ag 6 72 (l.map Ax) own [Ax x,Ax y] (own.st st (l.length*6)) K:=by
 rw [<-BG]
 have:=Se (l:=l) (new:=[x,y]) h hb (by simpa only [BG] using k)
 rw [BG [x,y]] at this
 exact this
theorem lP {A:Af->Rs} {s:Af} {s':Af} (h:A9 s 10 [45,62]=true) (U:A1 A (Aa s).2.1=.inr (n,s')) (hm:mu s'<mu s):F2 A l s=F2 A (l++[Av (Aa s).1,n]) s':=by
 rw [F2,if_pos h,U]
 dsimp only
 rw [if_pos hm]
theorem DE {s:Af} {k:Int} (h:A9 s k x=true) (U:k≠0):Cs s=.inr (Av (Aa s).1,(Aa s).2.1):=by unfold Cs;rw [if_pos (FK h U)]
section
variable {st:St} {R:AL->St->Prop}
attribute [local irreducible] Go.Aw.Ag
theorem qO {own:AF} {n:Nat} {s:Af} {k:Int} (U:Has st b s) (hb:s.BT.length<=500000000) (h:R (.ret (.bool (A9 s k x))) (own.st (st.Ab b (Dd s)) n)):PC 98 [.ptr b 0,.int .i64 k,.str x] (own.st st n) R:=
 YQ (U.hw own n) hb (by rw [bg];exact h)
theorem RH {own:AF} {n:Nat} {st:St} {s s':Af} {q:Rs} {x:Nd} (U:own.BH st) (hh:Has st b s) (e:q=.inr (x,s')) (h:∀st',H9 st st' b s'->own.BH st'->R (.ret (enc x)) (own.st st' n)):Gu (own.st st n) b R q:=
 F1 U hh (by subst e;exact h)
def X7 (f:FuncId) (d:Int) (A:Nd->Af->Rs):Prop:=∀n s,mu s<=100000000->∀(b:Nat) (st:St) (R:AL->St->Prop),Has st b s->Gu st b R (A n s)->PC f [.ptr b 0,enc n,.int .i64 d] st R
theorem UT {A:Af->Rs} (hr:D8 97 d (A1 A)) (hF:A7 A):X7 99 d (Cb A):=by
 intro n1 s1 hm b st R hs h
 refine pB Tryz.func99 ?_
 unfold Cb at h
 repeat' ((conv=>whnf);first|(refine Bl ?_;intros)|(refine Bm ?_ ?_<;>intro _)|fail)
 refine IH (α:=List Nd×Af×St×AF) (λx=>[(7,.slice 6 (x.1.map Ax) x.2.2.2)]) [0,2,4,6] (λx=>[]) [0,1] (λx=>x.2.2.2.st x.2.2.1 (x.1.length*6))
  (λx=>x.2.2.2.BH x.2.2.1/\Has x.2.2.1 b x.2.1/\(∃s0,H9 st x.2.2.1 b s0\/x.2.2.1=st)/\x.1≠[]/\x.1.length+2*mu x.2.1<=400000000/\mu x.2.1<=mu s1/\F2 A x.1 x.2.1=F2 A [n1] s1) (λx=>mu x.2.1) ([n1],s1,st,.full)
  ⟨trivial,hs,⟨s1,.inr rfl⟩,GT,by show 1+2*mu s1<=_;omega,Nat.le_refl _,rfl⟩ Yl (St.le_refl _) ?_
 rintro ⟨l,s2,U,own⟩ ⟨j1,j2,j3,j4,j5,j6,j7⟩
 dsimp only at j1 j2 j3 j4 j5 j6 j7
 have hm2:mu s2<=100000000:=AC
 have KE:=BB hm2
 have hl3:Has (U.Ab b (Dd s2)) b s2:=.inl (St.An ..)
 have g3:own.BH (U.Ab b (Dd s2)):=Jb j1 j2
 have up:∀{st4 s4},H9 U st4 b s4->H9 st st4 b s4:=λ{st4 s4} hu=>by
  obtain ⟨s0,h3|h3⟩:=j3
  .exact h3.trans hu
  .subst h3;exact hu
 have hn:l.length+2<=1000000000:=AC
 have hm4:A9 s2 10 [45,62]=true->mu (Aa s2).2.1<=100000000:=λe=>by have:=C0 e Do Do;omega
 repeat' ((conv=>whnf);first|(refine Bl ?_;intros)|(refine Bm ?_ ?_<;>intro _)|refine qO j2 KE ?_|refine Gs (hl3.hw own _) KE (RH g3 hl3 (DE ‹_› Do) (λst4 h4 g4=>?_))|refine hr _ (hm4 ‹_›) b _ _ (h4.1.hw own _) (F1 g4 h4.1 (GK (λn2 s5 hq2 st5 h5 g5=>?_) (λe2 s5 hq2 st5 h5 g5=>?_)))|refine fu (l:=l) (x:=Av (Aa s2).1) (y:=n2) g5 hn (λown' ho'=>?_)|refine Bj (λ_=>?_))
 .have hp:A9 s2 10 [45,62]=true:=FS
  have hd:=Eu hF _ _ _ hq2
  have hd2:=C0 hp Do Do
  have hd3:mu s5<mu s2:=AC
  have hu:=(A6 (st:=U) (b:=b) (s:=s2)).trans (h4.trans h5)
  refine ⟨(l++[Av (Aa s2).1,n2],s5,st5,own'),⟨ho',h5.1,⟨s5,.inl (up hu)⟩,GT,?_,by show mu s5<=_;omega,?_⟩,hd3,Yl,St.le_refl _⟩
  .show (l++[Av (Aa s2).1,n2]).length+2*mu s5<=_
   rw [List.length_append]
   show l.length+2+2*mu s5<=_
   omega
  .show F2 A (l++[Av (Aa s2).1,n2]) s5=_
   rw [<-j7,lP (l:=l) hp hq2 hd3]
 .have hp:A9 s2 10 [45,62]=true:=FS
  have hu:=(A6 (st:=U) (b:=b) (s:=s2)).trans (h4.trans h5)
  have hr:F2 A l s2=.inl (e2,s5):=by rw [F2,if_pos hp,hq2]
  rw [<-j7,hr] at h
  exact CI (AF.Ba g5) rfl (h st5 (up hu))
 .have hr:F2 A l s2=.inr (l,s2):=by rw [F2,if_neg (Bool.eq_false_iff.1 ‹_›)]
  rw [<-j7,hr] at h
  dsimp only at h
  rw [if_pos ‹_›] at h
  exact CI (AF.Ba g3) rfl (h _ (up A6))
 .have hr:F2 A l s2=.inr (l,s2):=by rw [F2,if_neg (Bool.eq_false_iff.1 ‹_›)]
  rw [<-j7,hr] at h
  dsimp only at h
  rw [if_neg ‹_›] at h
  exact CI (AF.Ba g3) CO (h _ (up A6))
theorem oZ {A:Af->Rs} (hr:D8 97 d (A1 A)) (ha:X7 99 d (Cb A)) (hF:A7 A):D8 101 d (DI A):=by
 intro s hm b st R hs h
 refine pB Tryz.func101 ?_
 unfold DI at h
 have hm1:∀{n1 s1},A1 A s=.inr (n1,s1)->mu s1<=100000000:=λe=>by have:=Eu hF _ _ _ e;omega
 repeat' ((conv=>whnf);first|(refine Bl ?_;intros)|(refine Bm ?_ ?_<;>intro _)|refine hr s hm b _ _ hs (Es (λn1 s1 U st1 h1=>?_) (λe1 s1 U st1 h1=>?_))|refine ha n1 s1 (hm1 U) b _ _ h1.1 (Es (λn2 s2 hq2 st2 h2=>?_) (λe2 s2 hq2 st2 h2=>?_)))
 all_goals rw [U] at h
 all_goals dsimp only at h
 .rw [hq2] at h;exact AZ rfl (h st2 (h1.trans h2))
 .rw [hq2] at h;exact fin (h st2 (h1.trans h2)) rfl
 .exact fin (h st1 h1) rfl
end
abbrev Er:={e:Int // e≠0}
abbrev Rv (α:Type):=Sum (Er×Af) (α×Af)
structure Rd (α:Type) where
 run:Af->Rv α
 le:∀s v s',run s=.inr (v,s')->mu s'<=mu s
namespace Rd
variable {α β γ σ:Type}
theorem ext' {a b:Rd α} (h:∀s,a.run s=b.run s):a=b:=by
 obtain ⟨U,l1⟩:=a
 obtain ⟨r2,l2⟩:=b
 obtain rfl:U=r2:=funext h
 rfl
def ret (v:α):Rd α:=⟨λs=>.inr (v,s),λs U s' h=>by cases h;exact Nat.le_refl _⟩
def seq (m:Rd α) (k:α->Rd β):Rd β:=⟨λs=>match m.run s with
 | .inl e=>.inl e
 | .inr p=>(k p.1).run p.2,λs v s' h=>by
 cases U:m.run s with
 |inl e=>rw [U] at h;cases h
 |inr p=>rw [U] at h;exact Nat.le_trans ((k p.1).le _ _ _ h) (m.le _ _ _ U)⟩
def fail (e:Er):Rd α:=⟨λs=>.inl (e,s),λs v s' h=>by cases h⟩
def Mf (t:Af) (e:Er):Rd α:=⟨λ_=>.inl (e,t),λs v s' h=>by cases h⟩
def look (f:Af->Rd α):Rd α:=⟨λs=>(f s).run s,λs v s' h=>(f s).le _ _ _ h⟩
def iter (body:σ->Rd (Sum σ β)) (x:σ) (s:Af):Rv β:=
 match (body x).run s with
 | .inl e=>.inl e
 | .inr (.inr y,s')=>.inr (y,s')
 | .inr (.inl U,s')=>if mu s'<mu s then iter body U s' else .inl (⟨2,Do⟩,s)
termination_by mu s
theorem nn (body:σ->Rd (Sum σ β)) (x:σ) (s:Af):∀v s',iter body x s=.inr (v,s')->mu s'<=mu s:=by
 fun_induction iter body x s with
 |case1 x s e h=>intro v s' h;cases h
 |case2 x s y s1 h=>intro v s' U;cases U;exact (body x).le _ _ _ h
 |case3 x s x' s1 h hlt ih=>intro v s' U;have:=ih v s' U;omega
 |case4 x s x' s1 h hlt=>intro v s' U;cases U
def loop (body:σ->Rd (Sum σ β)) (x:σ):Rd β:=⟨iter body x,nn body x⟩
theorem iN {body:σ->Rd (Sum σ β)} {w:σ->Nat} {w':β->Nat} {c:Nat} (h1:∀x s x' s',(body x).run s=.inr (.inl x',s')->w x'<=w x+4) (h2:∀x s y s',(body x).run s=.inr (.inr y,s')->w' y<=w x+c) (x:σ) (s:Af):
 ∀y s',(loop body x).run s=.inr (y,s')->w' y+4*mu s'<=w x+c+4*mu s:=by
 show ∀y s',iter body x s=.inr (y,s')->_
 fun_induction iter body x s with
 |case1 x s e h=>intro y s' U;cases U
 |case2 x s y s1 h=>intro y s' U;cases U;have:=h2 _ _ _ _ h;have:=(body x).le _ _ _ h;omega
 |case3 x s x' s1 h hlt ih=>intro y s' U;have:=ih y s' U;have:=h1 _ _ _ _ h;omega
 |case4 x s x' s1 h hlt=>intro y s' U;cases U
def wp (m:Rd α) (s:Af) (Q:α->Af->Prop) (E:Er->Af->Prop):Prop:=match m.run s with
 | .inl p=>E p.1 p.2
 | .inr p=>Q p.1 p.2
theorem wp_ret {v:α} {s:Af} {Q:α->Af->Prop} {E:Er->Af->Prop}:wp (ret v) s Q E=Q v s:=rfl
theorem wp_seq {m:Rd α} {k:α->Rd β} {s:Af} {Q:β->Af->Prop} {E:Er->Af->Prop}:wp (seq m k) s Q E=wp m s (λv s'=>wp (k v) s' Q E) E:=by
 unfold wp seq
 dsimp only
 cases m.run s<;>rfl
theorem BK {e:Er} {s:Af} {Q:α->Af->Prop} {E:Er->Af->Prop}:wp (fail e) s Q E=E e s:=rfl
theorem GO {e:Er} {s t:Af} {Q:α->Af->Prop} {E:Er->Af->Prop}:wp (Mf t e) s Q E=E e t:=rfl
theorem Ah {f:Af->Rd α} {s:Af} {Q:α->Af->Prop} {E:Er->Af->Prop}:wp (look f) s Q E=wp (f s) s Q E:=rfl
theorem Az {c:Prop} [Decidable c] {a b:Rd α} {s:Af} {Q:α->Af->Prop} {E:Er->Af->Prop}:wp (if c then a else b) s Q E=if c then wp a s Q E else wp b s Q E:=by split<;>rfl
def again (body:σ->Rd (Sum σ β)) (s:Af) (Q:β->Af->Prop) (E:Er->Af->Prop):Sum σ β->Af->Prop
 | .inr y,s'=>Q y s'
 | .inl x,s'=>if mu s'<mu s then wp (loop body x) s' Q E else E ⟨2,Do⟩ s
theorem wp_loop {body:σ->Rd (Sum σ β)} {x:σ} {s:Af} {Q:β->Af->Prop} {E:Er->Af->Prop}:wp (loop body x) s Q E=wp (body x) s (again body s Q E) E:=by
 have e:(loop body x).run s=match (body x).run s with
  | .inl e=>.inl e
  | .inr (.inr y,s')=>.inr (y,s')
  | .inr (.inl x',s')=>if mu s'<mu s then (loop body x').run s' else .inl (⟨2,Do⟩,s):=by
  show iter body x s=_
  rw [iter]
  rfl
 unfold wp
 rw [e]
 cases hb:(body x).run s with
 |inl p=>rfl
 |inr p=>
  obtain ⟨r,s'⟩:=p
  cases r with
  |inr y=>rfl
  |inl x'=>
   dsimp only [again]
   by_cases U:mu s'<mu s
   .rw [if_pos U,if_pos U];rfl
   .rw [if_neg U,if_neg U]
theorem A5 {body:σ->Rd (Sum σ β)} {s s':Af} {Q:β->Af->Prop} {E:Er->Af->Prop} {y:β}:again body s Q E (.inr y) s'=Q y s':=rfl
theorem BF {body:σ->Rd (Sum σ β)} {s s':Af} {Q:β->Af->Prop} {E:Er->Af->Prop} {x:σ} (h:again body s Q E (.inl x) s') (U:mu s'<mu s):wp (loop body x) s' Q E:=by
 have h:if mu s'<mu s then wp (loop body x) s' Q E else E ⟨2,Do⟩ s:=h
 rw [if_pos U] at h;exact h
theorem wp_mono {m:Rd α} {s:Af} {Q Q':α->Af->Prop} {E U:Er->Af->Prop} (h:wp m s Q E) (hq:∀v s',m.run s=.inr (v,s')->Q v s'->Q' v s') (he:∀e s',m.run s=.inl (e,s')->E e s'->U e s'):wp m s Q' U:=by
 unfold wp at h |-
 split at h
 .exact he _ _ ‹_› h
 .exact hq _ _ ‹_› h
theorem O3 {m:Rd α} {s:Af} {Q:α->Af->Prop} {E:Er->Af->Prop} (hq:∀v s',m.run s=.inr (v,s')->Q v s') (U:∀e s',m.run s=.inl (e,s')->E e s'):wp m s Q E:=by
 unfold wp
 split
 .exact U _ _ ‹_›
 .exact hq _ _ ‹_›
def A7 (m:Rd α):Prop:=∀s v s',m.run s=.inr (v,s')->mu s'<mu s
theorem A7.seq {m:Rd α} {k:α->Rd β} (h:A7 m):A7 (seq m k):=λs v s' e=>by
 unfold Rd.seq at e
 dsimp only at e
 split at e
 .cases e
 .exact Nat.lt_of_le_of_lt ((k _).le _ _ _ e) (h _ _ _ ‹_›)
theorem A7.at {m:Rd α} {k:α->Rd β} {s s':Af} {v:β} (h:∀v s',m.run s=.inr (v,s')->mu s'<mu s) (e:(Rd.seq m k).run s=.inr (v,s')):mu s'<mu s:=by
 unfold Rd.seq at e
 dsimp only at e
 split at e
 .cases e
 .exact Nat.lt_of_le_of_lt ((k _).le _ _ _ e) (h _ _ ‹_›)
theorem A7.fail {e:Er}:A7 (fail e:Rd α):=λs v s' h=>by cases h
theorem A7.Mf {t:Af} {e:Er}:A7 (Mf t e:Rd α):=λs v s' h=>by cases h
theorem A7.look {f:Af->Rd α} (h:∀s v s',(f s).run s=.inr (v,s')->mu s'<mu s):A7 (look f):=λs v s' e=>h s v s' e
theorem A7.ite {c:Prop} [Decidable c] {a b:Rd α} (U:A7 a) (h2:A7 b):A7 (if c then a else b):=by split<;>assumption
end Rd
def V6 (A:Af->Rs) (hle:∀s v s',A s=.inr (v,s')->mu s'<=mu s):Rd Nd:=⟨λs=>match A s with
 | .inl p=>if h:p.1=0 then .inl (⟨2,Do⟩,p.2) else .inl (⟨p.1,h⟩,p.2)
 | .inr p=>.inr p,λs v s' h=>by
 cases U:A s with
 |inl p=>rw [U] at h;dsimp only at h;split at h<;>cases h
 |inr p=>rw [U] at h;cases h;exact hle _ _ _ U⟩
theorem Re {A:Af->Rs} {U:∀s v s',A s=.inr (v,s')->mu s'<=mu s} (hB:C5 A) {s s':Af} {e:Int} (h:A s=.inl (e,s')):(V6 A U).run s=.inl (⟨e,hB _ _ _ h⟩,s'):=by
 unfold V6
 dsimp only
 rw [h]
 dsimp only
 rw [dif_neg (hB _ _ _ h)]
theorem PF {A:Af->Rs} {U:∀s v s',A s=.inr (v,s')->mu s'<=mu s} {s:Af} {p:Nd×Af} (h:A s=.inr p):(V6 A U).run s=.inr p:=by
 unfold V6
 dsimp only
 rw [h]
def A0:Rd Nd:=V6 Cs λs v s' h=>(P2 h).1
def L7 {α:Type}:Rd α:=⟨λs=>.inl (⟨NN s,Jz s⟩,s),λs v s' h=>by cases h⟩
def BU (k:Int) (x:List UInt8):Rd Nd:=.look λs=>if A9 s k x=true then A0 else L7
def HK (ks:List Int):Rd Nd:=.look λs=>if ks.contains (Aa s).1.kind=true then A0 else L7
def Hh:Rd Unit:=.seq A0 λ_=>.ret ()
theorem XN {s:Af} {k:Int} (h:A9 s k x=true) (U:k≠0):A0.run s=.inr (Av (Aa s).1,(Aa s).2.1):=PF (DE h U)
theorem CU {s:Af} (h:(Aa s).2.2=0):A0.run s=.inr (Av (Aa s).1,(Aa s).2.1):=PF (by unfold Cs;rw [if_pos h])
theorem H2 {s:Af} (h:¬(Aa s).2.2=0):A0.run s=.inl (⟨(Aa s).2.2,h⟩,s):=by
 have e:Cs s=.inl ((Aa s).2.2,s):=by unfold Cs;rw [if_neg h]
 exact Re IP e
theorem K0 {s s':Af} {v:Nd} (h:A0.run s=.inr (v,s')) (U:(Aa s).1.kind≠21):mu s'<mu s:=by
 by_cases e:(Aa s).2.2=0
 .rw [CU e] at h;cases h;exact (CK e).2 U
 .rw [H2 e] at h;cases h
theorem EY {s:Af} (h:(Aa s).1.kind≠0):(Aa s).2.2=0:=by
 apply Classical.byContradiction
 intro e
 rw [Q9 e] at h
 exact h rfl
theorem Mg {k:Int} (U:k≠21):Rd.A7 (BU k x):=Rd.A7.look λs v s' h=>by
 split at h
 .rename_i hi
  refine K0 h λe=>U ?_
  unfold A9 at hi
  simp only [Bool.and_eq_true,beq_iff_eq] at hi
  exact hi.1.symm.trans e
 .cases h
theorem YD {ks:List Int} (U:ks.contains 21=false):Rd.A7 (HK ks):=Rd.A7.look λs v s' h=>by
 split at h
 .rename_i hi
  exact K0 h λe=>by rw [e,U] at hi;cases hi
 .cases h
end Go.Proofs.Z
namespace Go.Proofs
open Go.Shelf
open Go.RowKit in
open Go.RowKit in
def Tryz.VE:Go.Shelf.Ren:=⟨λ|160=>150|232=>220|231=>219|227=>221|234=>223|233=>222|236=>225|235=>224|228=>273|271=>275|151=>274|197=>82|120=>320|152=>319|260=>148|137=>346|119=>347|224=>330|225=>329|217=>328|266=>351|n=>n,λ|9=>9|4=>4|3=>3|5=>5|117=>190|116=>189|0=>0|124=>193|21=>21|105=>100|46=>183|119=>182|139=>186|138=>185|n=>n,λ|3=>0|4=>1|n=>n⟩
theorem Tryz.nw:Go.Proofs.Lays.n160 Tryz.prog Tryz.VE:={
 mixed:=EQ
 f119:=Tryz.func347.trans (congrArg some EQ)
 f120:=Tryz.func320.trans (congrArg some EQ)
 f137:=Tryz.func346.trans (congrArg some EQ)
 f151:=Tryz.func274.trans (congrArg some EQ)
 f152:=Tryz.func319.trans (congrArg some EQ)
 f160:=Tryz.func150.trans (congrArg some EQ)
 f197:=Tryz.func82.trans (congrArg some EQ)
 f217:=Tryz.func328.trans (congrArg some EQ)
 f224:=Tryz.func330.trans (congrArg some EQ)
 f225:=Tryz.func329.trans (congrArg some EQ)
 f227:=Tryz.func221.trans (congrArg some EQ)
 f228:=Tryz.func273.trans (congrArg some EQ)
 f231:=Tryz.func219.trans (congrArg some EQ)
 f232:=Tryz.func220.trans (congrArg some EQ)
 f233:=Tryz.func222.trans (congrArg some EQ)
 f234:=Tryz.func223.trans (congrArg some EQ)
 f235:=Tryz.func224.trans (congrArg some EQ)
 f236:=Tryz.func225.trans (congrArg some EQ)
 f260:=Tryz.func148.trans (congrArg some EQ)
 f266:=Tryz.func351.trans (congrArg some EQ)
 f271:=Tryz.func275.trans (congrArg some EQ)
 t0:=Tryz.underlying0
 a0:=Tryz.isAgg0
 z0:=Tryz.sizeOf0
 v0:=Tryz.zeroValue0
 t3:=Tryz.underlying3
 a3:=Tryz.isAgg3
 z3:=Tryz.sizeOf3
 v3:=Tryz.zeroValue3
 t4:=Tryz.underlying4
 a4:=Tryz.isAgg4
 z4:=Tryz.sizeOf4
 v4:=Tryz.zeroValue4
 t5:=Tryz.underlying5
 a5:=Tryz.isAgg5
 z5:=Tryz.sizeOf5
 v5:=Tryz.zeroValue5
 t9:=Tryz.underlying9
 a9:=Tryz.isAgg9
 z9:=Tryz.sizeOf9
 v9:=Tryz.zeroValue9
 t21:=Tryz.underlying21
 a21:=Tryz.isAgg21
 z21:=Tryz.sizeOf21
 v21:=Tryz.zeroValue21
 t46:=Tryz.underlying183
 a46:=Tryz.isAgg183
 z46:=Tryz.sizeOf183
 v46:=Tryz.zeroValue183
 t105:=Tryz.underlying100
 a105:=Tryz.isAgg100
 z105:=Tryz.sizeOf100
 v105:=Tryz.zeroValue100
 t116:=Tryz.underlying189
 a116:=Tryz.isAgg189
 z116:=Tryz.sizeOf189
 t117:=Tryz.underlying190
 a117:=Tryz.isAgg190
 z117:=Tryz.sizeOf190
 v117:=Tryz.zeroValue190
 t119:=Tryz.underlying182
 a119:=Tryz.isAgg182
 z119:=Tryz.sizeOf182
 t124:=Tryz.underlying193
 a124:=Tryz.isAgg193
 z124:=Tryz.sizeOf193
 v124:=Tryz.zeroValue193
 t138:=Tryz.underlying185
 a138:=Tryz.isAgg185
 z138:=Tryz.sizeOf185
 v138:=Tryz.zeroValue185
 t139:=Tryz.underlying186
 a139:=Tryz.isAgg186
 z139:=Tryz.sizeOf186
 v139:=Tryz.zeroValue186
 g3:=EQ
 g4:=by kernel_rfl}
open Go.RowKit in
theorem Tryz.strings_Trim_one (s:ByteArray) (c:UInt8) (hc:c.toNat<128) (w:World) (U:s.size<=9223372036854775807):
 Calls Tryz.prog 150 #[.string s,.string ⟨#[c]⟩] w λe w'=>e=.returned (.string ⟨(Lib.trimB s.data.toList c).toArray⟩)/\(w'=w\/w'=w.drew):=Any.strings_Trim_one Tryz.nw s c hc w U
def Tryz.VB:Go.Shelf.Ren:=⟨λ|137=>346|217=>328|266=>351|n=>n,λ|9=>9|5=>5|3=>3|n=>n,λ|n=>n⟩
theorem Tryz.ns:Go.Proofs.Lays.n137 Tryz.prog Tryz.VB:={
 mixed:=EQ
 f137:=Tryz.func346.trans (congrArg some EQ)
 f217:=Tryz.func328.trans (congrArg some EQ)
 f266:=Tryz.func351.trans (congrArg some EQ)
 t3:=Tryz.underlying3
 a3:=Tryz.isAgg3
 z3:=Tryz.sizeOf3
 v3:=Tryz.zeroValue3
 t5:=Tryz.underlying5
 a5:=Tryz.isAgg5
 z5:=Tryz.sizeOf5
 v5:=Tryz.zeroValue5
 t9:=Tryz.underlying9
 a9:=Tryz.isAgg9
 z9:=Tryz.sizeOf9
 v9:=Tryz.zeroValue9}
open Go.RowKit in
theorem Tryz.strings_IndexByte (s:ByteArray) (c:Int) (w:World):
 Calls Tryz.prog 346 #[.string s,.int .u8 c] w λe w'=>e=.returned (.int .i64 (Lib.indexByte s.data.toList c.toNat.toUInt8))/\w'=w:=Any.strings_IndexByte Tryz.ns s c w
def Tryz.VC:Go.Shelf.Ren:=⟨λ|144=>157|143=>231|219=>285|217=>328|225=>329|224=>330|267=>331|266=>351|314=>352|n=>n,λ|9=>9|4=>4|3=>3|5=>5|46=>183|146=>254|51=>253|n=>n,λ|1=>2|n=>n⟩
theorem Tryz.nt:Go.Proofs.Lays.n144 Tryz.prog Tryz.VC:={
 mixed:=EQ
 f143:=Tryz.func231.trans (congrArg some EQ)
 f144:=Tryz.func157.trans (congrArg some EQ)
 f217:=Tryz.func328.trans (congrArg some EQ)
 f219:=Tryz.func285.trans (congrArg some EQ)
 f224:=Tryz.func330.trans (congrArg some EQ)
 f225:=Tryz.func329.trans (congrArg some EQ)
 f266:=Tryz.func351.trans (congrArg some EQ)
 f267:=Tryz.func331.trans (congrArg some EQ)
 f314:=Tryz.func352.trans (congrArg some EQ)
 t3:=Tryz.underlying3
 a3:=Tryz.isAgg3
 z3:=Tryz.sizeOf3
 v3:=Tryz.zeroValue3
 t4:=Tryz.underlying4
 a4:=Tryz.isAgg4
 z4:=Tryz.sizeOf4
 v4:=Tryz.zeroValue4
 t5:=Tryz.underlying5
 a5:=Tryz.isAgg5
 z5:=Tryz.sizeOf5
 v5:=Tryz.zeroValue5
 t9:=Tryz.underlying9
 a9:=Tryz.isAgg9
 z9:=Tryz.sizeOf9
 v9:=Tryz.zeroValue9
 t46:=Tryz.underlying183
 a46:=Tryz.isAgg183
 z46:=Tryz.sizeOf183
 v46:=Tryz.zeroValue183
 t51:=Tryz.underlying253
 a51:=Tryz.isAgg253
 z51:=Tryz.sizeOf253
 v51:=Tryz.zeroValue253
 t146:=Tryz.underlying254
 a146:=Tryz.isAgg254
 z146:=Tryz.sizeOf254
 v146:=Tryz.zeroValue254
 g1:=by kernel_rfl}
open Go.RowKit Go.Lib in
theorem Tryz.strings_Contains (s sub:ByteArray) (m:Int) (w:World) (hs:s.size<4294967281) (U:w.cell? ⟨2,0,none⟩=some (.int .i64 m)):
 Calls Tryz.prog 157 #[.string s,.string sub] w λe w'=>e=.returned (.bool (Lib.contains s.data.toList sub.data.toList))/\w'=w:=Any.strings_Contains Tryz.nt s sub m w hs U
def Tryz.TS:Go.Shelf.Ren:=⟨λ|15=>41|20=>83|n=>n,λ|9=>9|23=>58|3=>3|4=>4|0=>0|21=>21|n=>n,λ|n=>n⟩
theorem Tryz.iw:Go.Proofs.LaysGw.n15 Tryz.prog Tryz.TS:={
 mixed:=EQ
 f15:=Tryz.func41.trans (congrArg some EQ)
 f20:=Tryz.func83.trans (congrArg some EQ)
 t0:=Tryz.underlying0
 a0:=Tryz.isAgg0
 z0:=Tryz.sizeOf0
 v0:=Tryz.zeroValue0
 i0:=EQ
 t3:=Tryz.underlying3
 a3:=Tryz.isAgg3
 z3:=Tryz.sizeOf3
 v3:=Tryz.zeroValue3
 i3:=EQ
 t4:=Tryz.underlying4
 a4:=Tryz.isAgg4
 z4:=Tryz.sizeOf4
 v4:=Tryz.zeroValue4
 i4:=EQ
 t9:=Tryz.underlying9
 a9:=Tryz.isAgg9
 z9:=Tryz.sizeOf9
 v9:=Tryz.zeroValue9
 i9:=EQ
 t21:=Tryz.underlying21
 a21:=Tryz.isAgg21
 z21:=Tryz.sizeOf21
 v21:=Tryz.zeroValue21
 i21:=EQ
 t23:=Tryz.underlying58
 a23:=Tryz.isAgg58
 z23:=Tryz.sizeOf58
 v23:=Tryz.zeroValue58
 i23:=by kernel_rfl}
def Tryz.YR:Go.Shelf.Ren:=⟨λ|99=>87|206=>149|n=>n,λ|9=>9|4=>4|3=>3|n=>n,λ|n=>n⟩
theorem Tryz.qS:Go.Proofs.Lays.n99 Tryz.prog Tryz.YR:={
 mixed:=EQ
 f99:=Tryz.func87.trans (congrArg some EQ)
 f206:=Tryz.func149.trans (congrArg some EQ)
 t3:=Tryz.underlying3
 a3:=Tryz.isAgg3
 z3:=Tryz.sizeOf3
 v3:=Tryz.zeroValue3
 t4:=Tryz.underlying4
 a4:=Tryz.isAgg4
 z4:=Tryz.sizeOf4
 v4:=Tryz.zeroValue4
 t9:=Tryz.underlying9
 a9:=Tryz.isAgg9
 z9:=Tryz.sizeOf9
 v9:=Tryz.zeroValue9}
open Go.RowKit Go.Lib in
theorem Tryz.strings_HasPrefix (s p:ByteArray) (w:World):
 Calls Tryz.prog 87 #[.string s,.string p] w λe w'=>e=.returned (.bool (Lib.hasPrefix s.data.toList p.data.toList))/\w'=w:=Any.strings_HasPrefix Tryz.qS s p w
def Tryz.VD:Go.Shelf.Ren:=⟨λ|157=>358|229=>359|199=>360|261=>361|311=>362|312=>363|n=>n,λ|9=>9|31=>74|3=>3|5=>5|4=>4|119=>182|0=>0|40=>58|152=>264|21=>21|154=>266|51=>253|141=>268|196=>272|193=>269|198=>275|49=>273|194=>270|201=>278|226=>280|46=>183|227=>281|n=>n,λ|0=>3|6=>4|n=>n⟩
theorem Tryz.nu:Go.Proofs.Lays.n157 Tryz.prog Tryz.VD:={
 mixed:=EQ
 f157:=Tryz.func358.trans (congrArg some EQ)
 f199:=Tryz.func360.trans (congrArg some EQ)
 f229:=Tryz.func359.trans (congrArg some EQ)
 f261:=Tryz.func361.trans (congrArg some EQ)
 f311:=Tryz.func362.trans (congrArg some EQ)
 f312:=Tryz.func363.trans (congrArg some EQ)
 t0:=Tryz.underlying0
 a0:=Tryz.isAgg0
 z0:=Tryz.sizeOf0
 v0:=Tryz.zeroValue0
 t3:=Tryz.underlying3
 a3:=Tryz.isAgg3
 z3:=Tryz.sizeOf3
 v3:=Tryz.zeroValue3
 t4:=Tryz.underlying4
 a4:=Tryz.isAgg4
 z4:=Tryz.sizeOf4
 v4:=Tryz.zeroValue4
 t5:=Tryz.underlying5
 a5:=Tryz.isAgg5
 z5:=Tryz.sizeOf5
 v5:=Tryz.zeroValue5
 t9:=Tryz.underlying9
 a9:=Tryz.isAgg9
 z9:=Tryz.sizeOf9
 v9:=Tryz.zeroValue9
 t21:=Tryz.underlying21
 a21:=Tryz.isAgg21
 z21:=Tryz.sizeOf21
 v21:=Tryz.zeroValue21
 t31:=Tryz.underlying74
 a31:=Tryz.isAgg74
 z31:=Tryz.sizeOf74
 v31:=Tryz.zeroValue74
 t40:=Tryz.underlying58
 a40:=Tryz.isAgg58
 z40:=Tryz.sizeOf58
 v40:=Tryz.zeroValue58
 t46:=Tryz.underlying183
 a46:=Tryz.isAgg183
 z46:=Tryz.sizeOf183
 v46:=Tryz.zeroValue183
 t49:=Tryz.underlying273
 a49:=Tryz.isAgg273
 z49:=Tryz.sizeOf273
 v49:=Tryz.zeroValue273
 t51:=Tryz.underlying253
 a51:=Tryz.isAgg253
 z51:=Tryz.sizeOf253
 v51:=Tryz.zeroValue253
 t119:=Tryz.underlying182
 a119:=Tryz.isAgg182
 z119:=Tryz.sizeOf182
 t141:=Tryz.underlying268
 a141:=Tryz.isAgg268
 z141:=Tryz.sizeOf268
 v141:=Tryz.zeroValue268
 t152:=Tryz.underlying264
 a152:=Tryz.isAgg264
 z152:=Tryz.sizeOf264
 v152:=Tryz.zeroValue264
 t154:=Tryz.underlying266
 a154:=Tryz.isAgg266
 z154:=Tryz.sizeOf266
 v154:=Tryz.zeroValue266
 t193:=Tryz.underlying269
 a193:=Tryz.isAgg269
 z193:=Tryz.sizeOf269
 v193:=Tryz.zeroValue269
 t194:=Tryz.underlying270
 a194:=Tryz.isAgg270
 z194:=Tryz.sizeOf270
 v194:=Tryz.zeroValue270
 t196:=Tryz.underlying272
 a196:=Tryz.isAgg272
 z196:=Tryz.sizeOf272
 v196:=Tryz.zeroValue272
 t198:=Tryz.underlying275
 a198:=Tryz.isAgg275
 z198:=Tryz.sizeOf275
 v198:=Tryz.zeroValue275
 t201:=Tryz.underlying278
 a201:=Tryz.isAgg278
 z201:=Tryz.sizeOf278
 v201:=Tryz.zeroValue278
 t226:=Tryz.underlying280
 a226:=Tryz.isAgg280
 z226:=Tryz.sizeOf280
 v226:=Tryz.zeroValue280
 t227:=Tryz.underlying281
 a227:=Tryz.isAgg281
 z227:=Tryz.sizeOf281
 v227:=Tryz.zeroValue281
 g0:=EQ
 g6:=by kernel_rfl}
open Go.RowKit Go.Lib in
theorem Tryz.strings_Fields (s : ByteArray) (w : World) (hs : s.size < 4294967281) (U : ∀ (j : Nat) b, s.data.toList[j]? = some b -> b.toNat < 128) (htab : Lib.TabIs Tryz.prog w "strings.asciiSpace" .u8 Lib.asciiSpaceTab) :
 Calls Tryz.prog 358 #[.string s] w λe w'=>
  e=.returned (.slice (some ⟨w.heap.size,0,none⟩) (Lib.fields s.data.toList).length (Lib.fields s.data.toList).length)/\w'=w.alloc (.cells ((Lib.fields s.data.toList).map λl=>Value.string ⟨l.toArray⟩).toArray 9):=Any.strings_Fields Tryz.nu EQ EQ s w hs U htab
def Tryz.VF:Go.Shelf.Ren:=⟨λ|197=>82|260=>148|n=>n,λ|9=>9|21=>21|3=>3|4=>4|5=>5|105=>100|119=>182|0=>0|46=>183|139=>186|138=>185|n=>n,λ|3=>0|4=>1|n=>n⟩
theorem Tryz.nx:Go.Proofs.Lays.n197 Tryz.prog Tryz.VF:={
 mixed:=EQ
 f197:=Tryz.func82.trans (congrArg some EQ)
 f260:=Tryz.func148.trans (congrArg some EQ)
 t0:=Tryz.underlying0
 a0:=Tryz.isAgg0
 z0:=Tryz.sizeOf0
 v0:=Tryz.zeroValue0
 t3:=Tryz.underlying3
 a3:=Tryz.isAgg3
 z3:=Tryz.sizeOf3
 v3:=Tryz.zeroValue3
 t4:=Tryz.underlying4
 a4:=Tryz.isAgg4
 z4:=Tryz.sizeOf4
 v4:=Tryz.zeroValue4
 t5:=Tryz.underlying5
 a5:=Tryz.isAgg5
 z5:=Tryz.sizeOf5
 v5:=Tryz.zeroValue5
 t9:=Tryz.underlying9
 a9:=Tryz.isAgg9
 z9:=Tryz.sizeOf9
 v9:=Tryz.zeroValue9
 t21:=Tryz.underlying21
 a21:=Tryz.isAgg21
 z21:=Tryz.sizeOf21
 v21:=Tryz.zeroValue21
 t46:=Tryz.underlying183
 a46:=Tryz.isAgg183
 z46:=Tryz.sizeOf183
 v46:=Tryz.zeroValue183
 t105:=Tryz.underlying100
 a105:=Tryz.isAgg100
 z105:=Tryz.sizeOf100
 v105:=Tryz.zeroValue100
 t119:=Tryz.underlying182
 a119:=Tryz.isAgg182
 z119:=Tryz.sizeOf182
 t138:=Tryz.underlying185
 a138:=Tryz.isAgg185
 z138:=Tryz.sizeOf185
 v138:=Tryz.zeroValue185
 t139:=Tryz.underlying186
 a139:=Tryz.isAgg186
 z139:=Tryz.sizeOf186
 v139:=Tryz.zeroValue186
 g3:=EQ
 g4:=by kernel_rfl}
open Go.RowKit Go.Lib in
theorem Tryz.utf8_DecodeRuneInString (s:ByteArray) (w:World) (U:Lib.Utf8Tabs 0 1 w):
 Calls Tryz.prog 82 #[.string s] w λe w'=>e=.returned (.tuple #[.int .i32 (Lib.decodeGo s).1,.int .i64 (Lib.decodeGo s).2])/\Below w.heap.size w w':=Any.utf8_DecodeRuneInString Tryz.nx s w U
open Go.RowKit Go.Lib in
theorem Tryz.strings_IndexFunc_grows (g:Nat) (U:Array Value) (eg:∀args w,(callFunc g args).run Tryz.prog w=.ok (.enter g args) w) (p:Nat->Bool) (s:ByteArray) (w:World) (hp:PredGrows Tryz.prog g U p w):
 Calls Tryz.prog 41 #[.string s,.func (.func g) #[] U] w λe w'=>e=.returned (.int .i64 (Lib.idxFunc p true s))/\Below w.heap.size w w':=Any.strings_IndexFunc_grows Tryz.iw g U eg p s w hp
end Go.Proofs
namespace Go.Aw
open Go
theorem CH.below {st:St} {w w':World} (h:CH I st w) (b:RowKit.Below w.heap.size w w'):Fr I st w I st w'/\CH I st w':=by
 refine ⟨⟨b.os,b.tape,b.output,b.size,λx hx _ _=>b.block x hx,Mem.le_refl _,λ_ _ h k=>absurd h k,λ_ h k=>absurd h k,λ_ h=>.inr h⟩,?_,?_,?_,h.JB,?_,h.UF⟩
 .intro x o v e
  have e:=h.cell x o v e
  rw [Ia (b.block x (Mn e))];exact e
 .intro x n e
  obtain ⟨c,ty,U,h2⟩:=h.shape x n e
  exact ⟨c,ty,by rw [b.block x (FO U)];exact U,h2⟩
 .intro x cs e
  obtain ⟨vs,ty,U,h2⟩:=h.box x cs e
  exact ⟨vs,ty,by rw [b.block x (FO U)];exact U,h2⟩
 .intro x n e
  exact ⟨Nat.lt_of_lt_of_le (h.hw x n e).1 b.size,(h.hw x n e).2⟩
theorem Dx {P:Program} {st:St} (hf:Plain P f) (v:V)
 (h:∀(I:Mem) (w:World) (U:List Value),CH I st w->Aj I args U->Calls P f U.toArray w λe w'=>(∃c,e=.returned c/\AE I v c)/\RowKit.Below w.heap.size w w')
 (k:R (.ret v) st):Bc P f args st R:=
 ⟨λI w U hs ha=>(h I w U hs ha).mono λe w' ⟨⟨c,he,hc⟩,hb⟩=>⟨I,st,.ret v,(hs.below hb).1,(hs.below hb).2,by subst he;exact hc,k⟩,hf⟩
theorem CH.row {st:St} {w:World} (h:CH I st w) (vs:List Value) (ty:TypeId):
 Fr I st w (I.add w.heap.size 0 vs vs.length) st (w.alloc (.cells vs.toArray ty))/\CH (I.add w.heap.size 0 vs vs.length) st (w.alloc (.cells vs.toArray ty))/\I.le (I.add w.heap.size 0 vs vs.length):=by
 have hr:Rel [] I st w I (λ_=>none) {tmps:=[],boxes:=[],BI:=0,sz:=0,gl:=[]} st {tmps:=#[],defers:=[]} w:=
  Rb h rfl (λt v e=>by cases e) rfl rfl
 have h1:=hr.newRow vs [] ty
 rw [List.append_nil,List.length_nil,Nat.add_zero] at h1
 have U:=h1.IK (St.KJ (St.le_refl st) (DV h).2 vs.length)
 exact ⟨U.fr,U.s,U.fr.le⟩
theorem jH {n:Nat} (l:List (List UInt8)) (hl:∀x ∈ l,x.length<Fe) (hn:l.length<Fe)
 (U:I.le (I.add b 0 (l.map λx=>Value.string ⟨x.toArray⟩) n)):
 AE (I.add b 0 (l.map λx=>Value.string ⟨x.toArray⟩) n) (.slice 1 (l.map λx=>[.str x]) .any) (.slice (some ⟨b,0,none⟩) l.length l.length):=by
 simp only [AE]
 refine ⟨some ⟨b,0,none⟩,l.length,GT,GT,by simpa using hn,Do,trivial,.inr rfl,?_⟩
 refine Co.add _ (l.map λx=>Value.string ⟨x.toArray⟩) 0 ?_ U (λj c hj=>Mem.Tn hj)
 clear U hn
 induction l with
 |nil=>simp only [List.map_nil,BX]
 |cons a r ih=>
  simp only [List.map_cons,BX]
  refine ⟨[Value.string ⟨a.toArray⟩],r.map λx=>Value.string ⟨x.toArray⟩,rfl,rfl,?_,ih λx hx=>hl x (List.mem_cons_of_mem _ hx)⟩
  simp only [Aj,AE]
  exact ⟨_,_,rfl,⟨rfl,hl a List.mem_cons_self⟩,rfl⟩
end Go.Aw
namespace Go.Proofs.Z
open Go Go.Aw
def U8 (s:List UInt8):Int×Int:=match s with
 |[]=>(65533,0)
 |a::r=>(((AU (a::r)).1:Nat),((AU (a::r)).2:Nat))
theorem Ow (s:List UInt8):(((Lib.decodeGo ⟨s.toArray⟩).1:Nat):Int)=(U8 s).1/\(((Lib.decodeGo ⟨s.toArray⟩).2:Nat):Int)=(U8 s).2:=by
 cases s with
 |nil=>exact ⟨rfl,rfl⟩
 |cons a r=>
  have U:¬(⟨(a::r).toArray⟩:ByteArray).size=0:=by show ¬(a::r).toArray.size=0;simp
  unfold Lib.decodeGo
  rw [if_neg U,Tw GT,List.drop_zero]
  exact ⟨rfl,rfl⟩
section
variable {st:St} {R:AL->St->Prop}
theorem pA (h:R (.ret (.Bh [.int .i32 (U8 s).1,.int .i64 (U8 s).2])) st):PC 82 [.str s] st R:=by
 refine Dx ⟨_,Tryz.func82,Do,Do⟩ _ (λI w cargs U ha=>?_) h
 simp only [Aj,AE] at ha
 obtain ⟨c,r,rfl,⟨rfl,hl⟩,rfl⟩:=ha
 refine (Tryz.utf8_DecodeRuneInString ⟨s.toArray⟩ w ⟨λi hi=>U.cell _ _ _ (U.UF.first i hi),λi hi=>⟨U.cell _ _ _ (U.UF.accept i hi).1,U.cell _ _ _ (U.UF.accept i hi).2⟩⟩).mono λe w' ⟨he,hb⟩=>⟨⟨_,he,?_⟩,hb⟩
 rw [(Ow s).1,(Ow s).2]
 simp only [AE,Aj]
 exact ⟨_,rfl,_,_,rfl,rfl,_,_,rfl,rfl,rfl⟩
theorem Ji {p:List UInt8} (h:R (.ret (.bool (p.isPrefixOf s))) st):PC 87 [.str s,.str p] st R:=by
 refine Dx ⟨_,Tryz.func87,Do,Do⟩ _ (λI w U hs ha=>?_) h
 simp only [Aj,AE] at ha
 obtain ⟨c,r,rfl,⟨rfl,hl⟩,c2,r2,rfl,⟨rfl,hl2⟩,rfl⟩:=ha
 refine (Tryz.strings_HasPrefix ⟨s.toArray⟩ ⟨p.toArray⟩ w).mono λe w' ⟨he,hw⟩=>⟨⟨_,he,?_⟩,hw ▸ RowKit.Below.refl _ _⟩
 simp only [AE]
 rfl
theorem sf {c:UInt8} (hc:c.toNat<128) (h:R (.ret (.str (Lib.trimB s c))) st):PC 150 [.str s,.str [c]] st R:=by
 refine Dx ⟨_,Tryz.func150,Do,Do⟩ _ (λI w U hs ha=>?_) h
 simp only [Aj,AE] at ha
 obtain ⟨c1,r,rfl,⟨rfl,hl⟩,c2,r2,rfl,⟨rfl,hl2⟩,rfl⟩:=ha
 have hsz:(⟨s.toArray⟩:ByteArray).size<=9223372036854775807:=by show s.toArray.size<=_;unfold Fe at hl;simp;omega
 refine (Tryz.strings_Trim_one ⟨s.toArray⟩ c hc w hsz).mono λe w' ⟨he,hw⟩=>⟨⟨_,he,?_⟩,?_⟩
 .simp only [AE]
  refine ⟨trivial,?_⟩
  have:(Lib.trimB s c).length<=s.length:=by
   unfold Lib.trimB Lib.trimLeftB Lib.trimRightB
   refine Nat.le_trans (List.dropWhile_sublist _).length_le ?_
   rw [List.length_reverse]
   refine Nat.le_trans (List.dropWhile_sublist _).length_le ?_
   simp
  unfold Fe at hl |-;omega
 .rcases hw with rfl|rfl
  .exact RowKit.Below.refl _ _
  .exact (RowKit.Below.refl _ _).drew
theorem qo {c:UInt8} (h:R (.ret (.int .i64 (Lib.indexByte s c))) st):PC 346 [.str s,.int .u8 c.toNat] st R:=by
 refine Dx ⟨_,Tryz.func346,Do,Do⟩ _ (λI w U hs ha=>?_) h
 simp only [Aj,AE] at ha
 obtain ⟨c1,r,rfl,⟨rfl,hl⟩,c2,r2,rfl,rfl,rfl⟩:=ha
 refine (Tryz.strings_IndexByte ⟨s.toArray⟩ c.toNat w).mono λe w' ⟨he,hw⟩=>⟨⟨_,he,?_⟩,hw ▸ RowKit.Below.refl _ _⟩
 simp [AE]
theorem Yq (hz:s.length<4294967281) (h:R (.ret (.bool (Lib.contains s t))) st):PC 157 [.str s,.str t] st R:=by
 refine Dx ⟨_,Tryz.func157,Do,Do⟩ _ (λI w U hs ha=>?_) h
 simp only [Aj,AE] at ha
 obtain ⟨c1,r,rfl,⟨rfl,hl⟩,c2,r2,rfl,⟨rfl,hl2⟩,rfl⟩:=ha
 obtain ⟨m,hm⟩:=hs.UF.maxLen
 refine (Tryz.strings_Contains ⟨s.toArray⟩ ⟨t.toArray⟩ m w (by show s.toArray.size<_;simpa using hz) (hs.cell _ _ _ hm)).mono λe w' ⟨he,hw⟩=>⟨⟨_,he,?_⟩,hw ▸ RowKit.Below.refl _ _⟩
 simp [AE]
end
end Go.Proofs.Z
namespace Go.Aw
open Go
noncomputable def Env.F3 (env:Env) (U:List (Nat×V)) (bx:List (Nat×List V)) (keep kb:List Nat):Env:=match env with
 |⟨ts,bs,n,sz,gl⟩=>⟨Env.ts ⟨ts,bs,n,sz,gl⟩ U keep,List.rec (motive:=λ_=>List (Nat×List V)) (Env.bx ⟨ts,bs,n,sz,gl⟩ kb) (λp _ ih=>p::ih) bx,n,sz,gl⟩
theorem QW {st:St} (f:α->List (Nat×V)) (g:α->List (Nat×List V)) (keep kb:List Nat) (S:α->St) (J:α->Prop) (U:α->Nat) (x0:α) (h0:J x0)
 (he:(env.F3 (f x0) (g x0) keep kb).C7 env) (hs:St.le (S x0) st)
 (hb:∀x,J x->ih (Bp (λenv' st'=>∃y,J y/\U y<U x/\(env.F3 (f y) (g y) keep kb).C7 env'/\St.le (S y) st') Q) (env.F3 (f x) (g x) keep kb) (S x)):
 ∃(α:Type) (E:α->Env) (S:α->St) (J:α->Prop) (U:α->Nat) (x0:α),J x0/\(E x0).C7 env/\St.le (S x0) st/\
  ∀x,J x->ih (Bp (λenv' st'=>∃y,J y/\U y<U x/\(E y).C7 env'/\St.le (S y) st') Q) (E x) (S x):=
 ⟨α,λk=>env.F3 (f k) (g k) keep kb,S,J,U,x0,h0,he,hs,hb⟩
theorem TZ {st:St} (f:α->β->List (Nat×V)) (g:α->β->List (Nat×List V)) (keep kb:List Nat) (S:α->β->St) (J:α->β->Prop) (U:α->β->Nat) (x0:α) (y0:β) (h0:J x0 y0)
 (he:(env.F3 (f x0 y0) (g x0 y0) keep kb).C7 env) (hs:St.le (S x0 y0) st)
 (hb:∀x y,J x y->ih (Bp (λenv' st'=>∃p:α×β,J p.1 p.2/\U p.1 p.2<U x y/\(env.F3 (f p.1 p.2) (g p.1 p.2) keep kb).C7 env'/\St.le (S p.1 p.2) st') Q) (env.F3 (f x y) (g x y) keep kb) (S x y)):
 ∃(α:Type) (E:α->Env) (S:α->St) (J:α->Prop) (U:α->Nat) (x0:α),J x0/\(E x0).C7 env/\St.le (S x0) st/\
  ∀x,J x->ih (Bp (λenv' st'=>∃y,J y/\U y<U x/\(E y).C7 env'/\St.le (S y) st') Q) (E x) (S x):=
 ⟨α×β,λp=>env.F3 (f p.1 p.2) (g p.1 p.2) keep kb,λp=>S p.1 p.2,λp=>J p.1 p.2,λp=>U p.1 p.2,(x0,y0),h0,he,hs,λp h=>hb p.1 p.2 h⟩
theorem T0 {st:St} {γ:Type} (f:α->β->γ->List (Nat×V)) (g:α->β->γ->List (Nat×List V)) (keep kb:List Nat) (S:α->β->γ->St) (J:α->β->γ->Prop) (U:α->β->γ->Nat) (x0:α) (y0:β) (z0:γ) (h0:J x0 y0 z0)
 (he:(env.F3 (f x0 y0 z0) (g x0 y0 z0) keep kb).C7 env) (hs:St.le (S x0 y0 z0) st)
 (hb:∀x y z,J x y z->ih (Bp (λenv' st'=>∃p:α×β×γ,J p.1 p.2.1 p.2.2/\U p.1 p.2.1 p.2.2<U x y z/\(env.F3 (f p.1 p.2.1 p.2.2) (g p.1 p.2.1 p.2.2) keep kb).C7 env'/\St.le (S p.1 p.2.1 p.2.2) st') Q) (env.F3 (f x y z) (g x y z) keep kb) (S x y z)):
 ∃(α:Type) (E:α->Env) (S:α->St) (J:α->Prop) (U:α->Nat) (x0:α),J x0/\(E x0).C7 env/\St.le (S x0) st/\
  ∀x,J x->ih (Bp (λenv' st'=>∃y,J y/\U y<U x/\(E y).C7 env'/\St.le (S y) st') Q) (E x) (S x):=
 ⟨α×β×γ,λp=>env.F3 (f p.1 p.2.1 p.2.2) (g p.1 p.2.1 p.2.2) keep kb,λp=>S p.1 p.2.1 p.2.2,λp=>J p.1 p.2.1 p.2.2,λp=>U p.1 p.2.1 p.2.2,(x0,y0,z0),h0,he,hs,λp h=>hb p.1 p.2.1 p.2.2 h⟩
theorem BP {k:IntKind} {b:Int} (e:a=b):AL.ret (.int k a)=AL.ret (.int k b):=by rw [e]
theorem WJ {n:Nat} {p:Prop} (k:n<4611686018427387904->p):n<Fe->p:=k
theorem WK {l:List UInt8} {K:Nat->Nat->Prop} (k:∀c m,(c,m)=AU l->K c m):∀c m,(c,m)=AU l->K c m:=k
theorem WN {K:List UInt8->Prop} (U:0<=a) (h1:a<=s.length) (k:K (s.drop a.toNat)):
 (0<=a/\a<=(s.length:Int)/\(s.length:Int)<=s.length)/\∀s',s'=(s.take (s.length:Int).toNat).drop a.toNat->K s':=
 ⟨⟨U,h1,Int.le_refl _⟩,λs' e=>by
   rw [show (s.length:Int).toNat=s.length by omega,List.take_length] at e;subst e;exact k⟩
theorem WO {b:Int} {K:List UInt8->Prop} (U:0<=b) (h1:b<=s.length) (k:K (s.take b.toNat)):
 ((0:Int)<=0/\0<=b/\b<=s.length)/\∀s',s'=(s.take b.toNat).drop (0:Int).toNat->K s':=
 ⟨⟨Int.le_refl _,U,h1⟩,λs' e=>by
   rw [show (0:Int).toNat=0 from rfl,List.drop_zero] at e;subst e;exact k⟩
theorem WP {b:Int} {K:List UInt8->Prop} (U:0<=a) (h1:a<=b) (h2:b<=s.length) (k:K ((s.take b.toNat).drop a.toNat)):
 (0<=a/\a<=b/\b<=s.length)/\∀s',s'=(s.take b.toNat).drop a.toNat->K s':=⟨⟨U,h1,h2⟩,λs' e=>e ▸ k⟩
theorem WM {K:UInt8->Prop} (h0:0<=i) (h1:i<s.length) (k:∀e,s[i.toNat]? =some e->K e):0<=i/\∃e,s[i.toNat]? =some e/\K e:=by
 have U:i.toNat<s.length:=AC
 exact ⟨h0,s[i.toNat],List.getElem?_eq_getElem U,k _ (List.getElem?_eq_getElem U)⟩
theorem WL {e:UInt8} {K:UInt8->Prop} (h:s[i.toNat]? =some e) (U:0<=i) (k:K e):0<=i/\∃e,s[i.toNat]? =some e/\K e:=⟨U,e,h,k⟩
theorem D1 (h:P:=by with_reducible first|(show _/\_;first|exact Wa)|(show Bk _ _ _;first|exact Wb|exact Wc)|fail):P:=h
theorem BV (k:A) (h:A->P:=by intro k;with_reducible first|(show _/\_;first|exact Wd EQ k|exact Wm ‹_› AC k|exact Wn AC AC k|exact Wo AC AC k|exact Wp AC AC AC k|exact Wr Do AC AC k|exact Ws Do k|exact WB ‹_› AC k|exact WC AC AC k|exact WD AC AC k|exact WE AC AC AC k|exact WL ‹_› AC k|exact WM AC AC k|exact WN AC AC k|exact WO AC AC k|exact WP AC AC AC k)|(show Bk _ _ _;first|exact Wt IR k|exact Wu IR k|exact Wv AC k|exact Ww AC k|exact Wi k|exact Wj k)|(intro x y z;exact Wl k x y z)|(intro x y z;exact Wz k x y z)|(intro x y z;exact WA k x y z)|(intro x;exact WJ k x)|(intro x y z;exact WK k x y z)|(show Exists _;first|exact Wq AC AC k)|fail):P:=h k
theorem D2 {B C:V->Prop} (k:V) (l:B k) (m:C k) (h:∀k,B k->C k->P:=by intro k l m;with_reducible first|(show Exists _;first|exact We k l m|exact W8 GE k l m|exact W0 GE k l m|exact W9 k l m)|fail):P:=h k l m
theorem BW (k:A) (l:B) (h:A->B->P:=by intro k l;with_reducible first|(show Bk _ _ _;first|exact Wf Do k l|exact Wg k l|exact Wh k l|exact Wk k l)|fail):P:=h k l
theorem uD (k:A) (l:B) (h:A->B->P:=by intro k l;with_reducible first|(intro x y;exact Wx k l x y)|(intro x y;exact Wy k l x y)|fail):P:=h k l
end Go.Aw
namespace Go.Proofs.Z
open Go Go.Aw
def pn (st0 st:St):AF×List Nd->Prop
 |(.any,_)=>False
 |(.full,_)=>True
 |(.tok t,l)=>st0.fresh t/\st.hw t=some (l.length*6)
def ZS:AF×List Nd->AF×List Nd->Prop
 |(.tok t,_),(.tok u,_)=>t≠u
 |_,_=>True
theorem ZS.symm {r q:AF×List Nd} (h:ZS r q):ZS q r:=by
 obtain ⟨o1,U⟩:=r;obtain ⟨o2,l2⟩:=q
 cases o1<;>cases o2<;>first|exact trivial|exact Ne.symm h
structure Rx (st0 st:St) (rows:List (AF×List Nd)):Prop where
 le:st0.le st
 ok:∀r ∈ rows,pn st0 st r
 ap:rows.Pairwise ZS
section
variable {st0 st:St} {r q:AF×List Nd} {rows:List (AF×List Nd)}
theorem Rx.start:Rx st st []:=⟨St.le_refl _,λr U=>absurd U List.not_mem_nil,List.Pairwise.nil⟩
theorem Rx.drop (h:Rx st0 st (r::rows)):Rx st0 st rows:=⟨h.le,λq U=>h.ok q (List.mem_cons_of_mem _ U),(List.pairwise_cons.1 h.ap).2⟩
theorem Rx.push (h:Rx st0 st rows) (l:List Nd):Rx st0 st ((.full,l)::rows):=⟨h.le,λq U=>by
 rcases List.mem_cons.1 U with e|e
 .subst e;exact trivial
 .exact h.ok q e,List.pairwise_cons.2 ⟨λq U=>trivial,h.ap⟩⟩
theorem Rx.swap (h:Rx st0 st (r::q::rows)):Rx st0 st (q::r::rows):=by
 have h1:=List.pairwise_cons.1 h.ap
 have h2:=List.pairwise_cons.1 h1.2
 refine ⟨h.le,λx U=>h.ok x ?_,List.pairwise_cons.2 ⟨λx U=>?_,List.pairwise_cons.2 ⟨λx U=>h1.1 x (List.mem_cons_of_mem _ U),h2.2⟩⟩⟩
 .simp only [List.mem_cons] at U |-
  rcases U with e|e|e
  .exact .inr (.inl e)
  .exact .inl e
  .exact .inr (.inr e)
 .rcases List.mem_cons.1 U with e|e
  .subst e;exact (h1.1 q (List.mem_cons_self ..)).symm
  .exact h2.1 x e
theorem Rx.fresh {t:Nat} (h:Rx st0 st rows) (U:st.fresh t):st0.fresh t:=by
 refine ⟨?_,?_⟩
 .cases e:st0.box t with
  |none=>rfl
  |some c=>
   have:=h.le.1 t c e
   rw [U.1] at this;cases this
 .cases e:st0.hw t with
  |none=>rfl
  |some c=>
   have:=h.le.2 t c e
   rw [U.2] at this;cases this
theorem Rx.kV {t:Nat} (h:Rx st0 st rows) (ht:st.fresh t):∀r ∈ rows,r.1≠.tok t:=λr U e=>by
 have:=h.ok r U
 obtain ⟨o,l⟩:=r
 dsimp only at e
 subst e
 have:=this.2
 rw [ht.2] at this;cases this
theorem Rx.app {own:AF} (h:Rx st0 st ((own,l)::rows)) (hb:l.length+new.length<=1000000000)
 (k:∀own' st',st'.box=st.box->Rx st0 st' ((own',l++new)::rows)->K (.slice 6 ((l++new).map Ax) own') st'):Ag 6 72 (l.map Ax) own (new.map Ax) st K:=by
 have hw:(new.map Ax).map (·.map V.Ko)=new.map Ax:=by
  rw [List.map_map]
  exact List.map_congr_left λx _=>rfl
 have hsc:((new.map Ax).all λv=>v.all V.sc)=true:=by
  rw [List.all_map,List.all_eq_true]
  intro x _;rfl
 have hlen:(l.map Ax).length+(new.map Ax).length=(l++new).length:=GT
 have hap:=List.pairwise_cons.1 h.ap
 have mk:∀(t:Nat) (m:St),(∀r ∈ rows,pn st0 m r)->st0.fresh t->st0.le m->(∀r ∈ rows,r.1≠.tok t)->m.hw t=some ((l++new).length*6)->Rx st0 m ((.tok t,l++new)::rows):=by
  intro t m h1 h2 h4 h5 h6
  refine ⟨h4,λr U=>?_,List.pairwise_cons.2 ⟨λr U=>?_,hap.2⟩⟩
  .rcases List.mem_cons.1 U with e|e
   .subst e;exact ⟨h2,h6⟩
   .exact h1 r e
  .obtain ⟨o,q⟩:=r
   cases o with
   |tok u=>exact λe=>h5 _ U (by subst e;rfl)
   |any=>exact trivial
   |full=>exact trivial
 refine ⟨by rw [hlen,List.length_append];omega,by rw [hlen,List.length_append];unfold Fe;omega,Ay hsc ?_⟩
 cases own with
 |any=>exact (h.ok _ (List.mem_cons_self ..)).elim
 |full=>
  refine ⟨λe=>?_,λ_=>.inl λt ht=>?_⟩
  .have e:new=[]:=List.map_eq_nil_iff.1 e
   subst e
   have:=k .full st rfl (by rw [List.append_nil];exact h)
   rw [List.append_nil] at this;exact this
  .rw [hw,hlen,<-List.map_append]
   refine k (.tok t) _ rfl (mk t _ (λr U=>?_) (h.fresh ht) (St.KJ h.le (h.fresh ht).2 _) (h.drop.kV ht) (by simp [St.B2]))
   have h1:=h.ok r (List.mem_cons_of_mem _ U)
   have h2:=h.drop.kV ht r U
   obtain ⟨o,q⟩:=r
   cases o with
   |tok u=>
    have:u≠t:=λe=>h2 (by subst e;rfl)
    exact ⟨h1.1,by simp only [St.B2];rw [if_neg this];exact h1.2⟩
   |any=>exact h1
   |full=>exact h1
 |tok t0=>
  have h0:=h.ok _ (List.mem_cons_self ..)
  refine ⟨by rw [List.length_map];exact h0.2,λt ht=>?_⟩
  rw [hw,hlen,<-List.map_append]
  have hne:∀r ∈ rows,r.1≠.tok t0:=λr U e=>by
   have:=hap.1 r U
   obtain ⟨o,q⟩:=r
   dsimp only at e
   subst e
   exact this rfl
  have hst:∀r ∈ rows,r.1≠.tok t:=λr U=>by
   rcases ht with rfl|ht
   .exact hne r U
   .exact h.drop.kV ht r U
  have hf:st0.fresh t:=by
   rcases ht with rfl|ht
   .exact h0.1
   .exact h.fresh ht
  refine k (.tok t) _ rfl (mk t _ (λr U=>?_) hf ⟨h.le.1,λx n hx=>?_⟩ hst (by simp [St.B2]))
  .have h1:=h.ok r (List.mem_cons_of_mem _ U)
   have h2:=hst r U
   have h3:=hne r U
   obtain ⟨o,q⟩:=r
   cases o with
   |tok u=>
    have e1:u≠t:=λe=>h2 (by subst e;rfl)
    have e2:u≠t0:=λe=>h3 (by subst e;rfl)
    exact ⟨h1.1,by simp only [St.B2,St.Ex];rw [if_neg e1,if_neg e2];exact h1.2⟩
   |any=>exact h1
   |full=>exact h1
  .simp only [St.B2,St.Ex]
   split
   .rename_i e;subst e
    rw [hf.2] at hx;cases hx
   .split
    .rename_i e;subst e
     rw [h0.1.2] at hx;cases hx
    .exact h.le.2 x n hx
theorem Rx.Ab {b:Nat} {cs cs':List V} (h:Rx (st0.Ab b cs) st rows):Rx (st0.Ab b cs') (st.Ab b cs') rows:=by
 refine ⟨⟨λx c U=>?_,λx n U=>h.le.2 x n U⟩,λr hr=>?_,h.ap⟩
 .by_cases e:x=b
  .subst e;rw [St.An] at U |-;exact U
  .rw [St.AA (Ne.symm e)] at U |-
   exact h.le.1 x c (by rw [St.AA (Ne.symm e)];exact U)
 .have:=h.ok r hr
  obtain ⟨o,l⟩:=r
  cases o with
  |any=>exact this
  |full=>exact this
  |tok t=>
   have hb:b≠t:=by
    rintro rfl
    have:=this.1.1
    rw [St.An] at this;cases this
   exact ⟨⟨by rw [St.AA hb];have:=this.1.1;rw [St.AA hb] at this;exact this,this.1.2⟩,this.2⟩
end
structure Cx (st0:St) (b:Nat) (s:Af) (st:St) (rows:List (AF×List Nd)):Prop where
 has:Has st b s
 rx:∃cs,Rx (st0.Ab b cs) st rows
 mu:mu s<=100000000
structure Cy (st0:St) (b:Nat) (s:Af) (st:St) (rows:List (AF×List Nd)):Prop where
 has:Has st b s
 rx:∃cs,Rx (st0.Ab b cs) st rows
section
variable {st0 st st':St} {b:Nat} {s s':Af} {r q:AF×List Nd} {rows:List (AF×List Nd)}
theorem Cx.y (h:Cx st0 b s st rows):Cy st0 b s st rows:=⟨h.has,h.rx⟩
theorem Cy.drop (h:Cy st0 b s st (r::rows)):Cy st0 b s st rows:=⟨h.has,h.rx.imp λ_ e=>e.drop⟩
theorem Cx.um (h:Cx st0 b s st rows) (hu:H9 st st' b s'):Cy st0 b s' st' rows:=by
 obtain ⟨U,cs,rfl⟩:=hu
 obtain ⟨c0,hr⟩:=h.rx
 exact ⟨U,⟨cs,hr.Ab⟩⟩
theorem Cx.hb (h:Cx st0 b s st rows):s.BT.length<=500000000:=BB h.mu
theorem Cx.start (h:Has st b s) (U:Proofs.Z.mu s<=100000000):Cx st b s st []:=
 ⟨h,by
   rcases h with e|⟨_,_,_,_,_,e⟩
   all_goals exact ⟨_,by rw [St.Rr e];exact Rx.start⟩,U⟩
theorem Cx.drop (h:Cx st0 b s st (r::rows)):Cx st0 b s st rows:=⟨h.has,h.rx.imp λ_ e=>e.drop,h.mu⟩
theorem Cx.push (h:Cx st0 b s st rows) (l:List Nd):Cx st0 b s st ((.full,l)::rows):=⟨h.has,h.rx.imp λ_ e=>e.push l,h.mu⟩
theorem Cx.swap (h:Cx st0 b s st (r::q::rows)):Cx st0 b s st (q::r::rows):=⟨h.has,h.rx.imp λ_ e=>e.swap,h.mu⟩
theorem Cx.set (h:Cx st0 b s st rows) (hu:H9 st st' b s') (hm:Proofs.Z.mu s'<=100000000):Cx st0 b s' st' rows:=by
 obtain ⟨U,cs,rfl⟩:=hu
 obtain ⟨c0,hr⟩:=h.rx
 exact ⟨U,⟨cs,hr.Ab⟩,hm⟩
theorem Cx.RP (h:Cx st0 b s st rows) (hu:H9 st st' b s') (U:Proofs.Z.mu s'<=Proofs.Z.mu s):Cx st0 b s' st' rows:=h.set hu (Nat.le_trans U h.mu)
theorem Cx.look (h:Cx st0 b s st rows):Cx st0 b s (st.Ab b (Dd s)) rows:=h.RP A6 (Nat.le_refl _)
theorem Cx.YH {t:Nat} (h:Cx st0 b s st rows) (U:st.fresh t):st0.box t=none/\t≠b:=by
 obtain ⟨c0,hr⟩:=h.rx
 have hb:t≠b:=by
  rintro rfl
  rcases h.has with e|⟨_,_,_,_,_,e⟩<;>(rw [U.1] at e;cases e)
 have:=(hr.fresh U).1
 rw [St.AA hb.symm] at this
 exact ⟨this,hb⟩
theorem Cx.rF {c:Nat} {z:List V} (h:Cx st0 b s st rows) (hf:st.fresh c):Cx (st0.Ab c cs) b s ((st.Ab c z).Ab c cs) rows:=by
 have hb:=(h.YH hf).2
 rw [St.set_set]
 obtain ⟨c0,hr⟩:=h.rx
 refine ⟨?_,⟨c0,⟨λx v U=>?_,λx n U=>hr.le.2 x n U⟩,λr hr'=>?_,hr.ap⟩,h.mu⟩
 .rcases h.has with e|⟨q1,q2,q3,q4,q5,e⟩
  .exact .inl (by rw [St.AA hb];exact e)
  .exact .inr ⟨q1,q2,q3,q4,q5,by rw [St.AA hb];exact e⟩
 .by_cases e:x=c
  .subst e
   rw [St.AA hb.symm,St.An] at U
   rw [St.An];exact U
  .rw [St.AA (Ne.symm e)]
   by_cases e2:x=b
   .subst e2
    rw [St.An] at U
    exact hr.le.1 x v (by rw [St.An];exact U)
   .rw [St.AA (Ne.symm e2),St.AA (Ne.symm e)] at U
    exact hr.le.1 x v (by rw [St.AA (Ne.symm e2)];exact U)
 .have hk:=hr.ok r hr'
  obtain ⟨o,l⟩:=r
  cases o with
  |any=>exact hk
  |full=>exact hk
  |tok t=>
   have htc:t≠c:=by
    rintro rfl
    have:=hk.2
    rw [hf.2] at this;cases this
   have h1:=hk.1.1
   have htb:t≠b:=by
    rintro rfl
    rw [St.An] at h1;cases h1
   rw [St.AA htb.symm] at h1
   exact ⟨⟨by rw [St.AA htb.symm,St.AA htc.symm];exact h1,hk.1.2⟩,hk.2⟩
theorem Cx.bB {c:Nat} (h:Cx st0 b s st rows) (U:st.fresh c):Cx (st0.Ab c cs) b s (st.Ab c cs) rows:=by
 have:=h.rF (z:=cs) (cs:=cs) U
 rw [St.set_set] at this;exact this
theorem Rx.unbox {c:Nat} (h:Rx (st0.Ab c cs) st rows) (hf:st0.box c=none):Rx st0 st rows:=by
 refine ⟨⟨λx v hx=>?_,h.le.2⟩,λr hr=>?_,h.ap⟩
 .have:x≠c:=by rintro rfl;rw [hf] at hx;cases hx
  exact h.le.1 x v (by rw [St.AA this.symm];exact hx)
 .have U:=h.ok r hr
  obtain ⟨o,l⟩:=r
  cases o with
  |any=>exact U
  |full=>exact U
  |tok t=>
   have h1:=U.1.1
   have:t≠c:=by rintro rfl;rw [St.An] at h1;cases h1
   rw [St.AA this.symm] at h1
   exact ⟨⟨h1,U.1.2⟩,U.2⟩
theorem XM {c:Nat} {cs':List V} (h:c≠b):(st0.Ab c cs).Ab b cs'=(st0.Ab b cs').Ab c cs:=by
 simp only [St.Ab,St.mk.injEq,and_true]
 funext x
 by_cases e:x=b
 .subst e;rw [if_pos rfl,if_neg (Ne.symm h),if_pos rfl]
 .rw [if_neg e]
  split
  .rfl
  .rfl
theorem Cx.unbox {c:Nat} {cs:List V} (h:Cx (st0.Ab c cs) b s st rows) (U:st0.box c=none/\c≠b):Cx st0 b s st rows:=
 ⟨h.has,h.rx.imp λc0 hr=>by rw [XM U.2] at hr;exact hr.unbox (by rw [St.AA U.2.symm];exact U.1),h.mu⟩
theorem Cy.unbox {c:Nat} {cs:List V} (h:Cy (st0.Ab c cs) b s st rows) (U:st0.box c=none/\c≠b):Cy st0 b s st rows:=
 ⟨h.has,h.rx.imp λc0 hr=>by rw [XM U.2] at hr;exact hr.unbox (by rw [St.AA U.2.symm];exact U.1)⟩
theorem Has.eq (h:Has st b s) (e:st'.box=st.box):Has st' b s:=by unfold Has at h |-;rw [e];exact h
theorem Cx.app {own:AF} {l new:List Nd} {K:V->St->Prop} (h:Cx st0 b s st ((own,l)::rows)) (hb:l.length+new.length<=1000000000)
 (k:∀U st',Cx st0 b s st' ((U,l++new)::rows)->K (.slice 6 ((l++new).map Ax) U) st'):Ag 6 72 (l.map Ax) own (new.map Ax) st K:=by
 obtain ⟨c0,hr⟩:=h.rx
 exact hr.app hb λU st' e hr'=>k U st' ⟨h.has.eq e,⟨c0,hr'⟩,h.mu⟩
theorem Cx.Fk {own:AF} {x:Nd} (h:Cx st0 b s st ((own,l)::rows)) (hb:l.length+1<=1000000000)
 (k:∀U st',Cx st0 b s st' ((U,l++[x])::rows)->K (.slice 6 ((l++[x]).map Ax) U) st'):Ag 6 72 (l.map Ax) own [Ax x] st K:=h.app (new:=[x]) hb k
theorem Cx.tX {own:AF} {x y:Nd} (h:Cx st0 b s st ((own,l)::rows)) (hb:l.length+2<=1000000000)
 (k:∀U st',Cx st0 b s st' ((U,l++[x,y])::rows)->K (.slice 6 ((l++[x,y]).map Ax) U) st'):Ag 6 72 (l.map Ax) own [Ax x,Ax y] st K:=h.app (new:=[x,y]) hb k
theorem Rx.Fk {own:AF} {x:Nd} (h:Rx st0 st ((own,l)::rows)) (hb:l.length+1<=1000000000)
 (k:∀U st',Rx st0 st' ((U,l++[x])::rows)->K (.slice 6 ((l++[x]).map Ax) U) st'):Ag 6 72 (l.map Ax) own [Ax x] st K:=h.app (new:=[x]) hb λU st' _ c=>k U st' c
end
structure Bx {α:Type} (en:α->V) (f:FuncId) (mk:Nat->List V) (A:Rd α):Prop where
 ap:∀{st0:St} {b:Nat} {s:Af} {st:St} {rows:List (AF×List Nd)} {K:AL->St->Prop},Cx st0 b s st rows->
 Rd.wp A s (λv s'=>∀st',Cx st0 b s' st' rows->K (.ret (en v)) st') (λe s'=>∀st',Cy st0 b s' st' rows->K (.Cz (fault e.1)) st')->PC f (mk b) st K
theorem Bx.go {U:α->V} {A:Rd α} {s:Af} {st:St} {K:AL->St->Prop} {Q:α->Af->Prop} {E:Er->Af->Prop} (hf:Bx U f mk A) (hc:Cx st0 b s st rows) (h:Rd.wp A s Q E)
 (k:∀v s' st',A.run s=.inr (v,s')->mu s'<=mu s->Cx st0 b s' st' rows->Q v s'->K (.ret (U v)) st') (kb:∀e s' st',Cy st0 b s' st' rows->E e s'->K (.Cz (fault e.1)) st'):PC f (mk b) st K:=
 hf.ap hc (Rd.wp_mono h (λv s' r q st' c=>k v s' st' r (A.le _ _ _ r) c q) (λe s' _ q st' c=>kb e s' st' c q))
theorem Bx.UN {U:α->V} {A:Rd α} {s:Af} {st:St} {K:AL->St->Prop} {Q:α->Af->Prop} {E:Er->Af->Prop} (hf:Bx U f mk A) (hF:Rd.A7 A) (hc:Cx st0 b s st rows) (h:Rd.wp A s Q E)
 (k:∀v s' st',A.run s=.inr (v,s')->mu s'<mu s->Cx st0 b s' st' rows->Q v s'->K (.ret (U v)) st') (kb:∀e s' st',Cy st0 b s' st' rows->E e s'->K (.Cz (fault e.1)) st'):PC f (mk b) st K:=
 hf.go hc h (λv s' st' r m c q=>k v s' st' r (hF _ _ _ r) c q) kb
structure sE {α:Type} (en:α->AF->V) (ls:α->List Nd) (f:FuncId) (mk:Nat->List V) (A:Rd α):Prop where
 ap:∀{st0:St} {b:Nat} {s:Af} {st:St} {rows:List (AF×List Nd)} {K:AL->St->Prop},Cx st0 b s st rows->
 Rd.wp A s (λv s'=>∀own st',Cx st0 b s' st' ((own,ls v)::rows)->K (.ret (en v own)) st') (λe s'=>∀st',Cy st0 b s' st' rows->K (.Cz (fault e.1)) st')->PC f (mk b) st K
theorem sE.go {U:α->AF->V} {ls:α->List Nd} {A:Rd α} {s:Af} {st:St} {K:AL->St->Prop} {Q:α->Af->Prop} {E:Er->Af->Prop} (hf:sE U ls f mk A) (hc:Cx st0 b s st rows) (h:Rd.wp A s Q E)
 (k:∀v own s' st',A.run s=.inr (v,s')->mu s'<=mu s->Cx st0 b s' st' ((own,ls v)::rows)->Q v s'->K (.ret (U v own)) st') (kb:∀e s' st',Cy st0 b s' st' rows->E e s'->K (.Cz (fault e.1)) st'):PC f (mk b) st K:=
 hf.ap hc (Rd.wp_mono h (λv s' r q own st' c=>k v own s' st' r (A.le _ _ _ r) c q) (λe s' _ q st' c=>kb e s' st' c q))
structure ph (f:FuncId) (mk:Nat->V->List V) (A:List Nd->Rd (List Nd)):Prop where
 ap:∀{st0:St} {b:Nat} {s:Af} {st:St} {rows:List (AF×List Nd)} {K:AL->St->Prop} {own:AF} {l:List Nd},l.length<=90000000->Cx st0 b s st ((own,l)::rows)->
 Rd.wp (A l) s (λl' s'=>∀own' st',Cx st0 b s' st' ((own',l')::rows)->K (.ret (.slice 6 (l'.map Ax) own')) st') (λe s'=>∀st',Cy st0 b s' st' rows->K (.Cz (fault e.1)) st')->PC f (mk b (.slice 6 (l.map Ax) own)) st K
theorem ph.go {mk:Nat->V->List V} {A:List Nd->Rd (List Nd)} {s:Af} {st:St} {K:AL->St->Prop} {Q:List Nd->Af->Prop} {E:Er->Af->Prop} {own:AF} (hf:ph f mk A) (hl:l.length<=90000000) (hc:Cx st0 b s st ((own,l)::rows)) (h:Rd.wp (A l) s Q E)
 (k:∀l' U s' st',(A l).run s=.inr (l',s')->mu s'<=mu s->Cx st0 b s' st' ((U,l')::rows)->Q l' s'->K (.ret (.slice 6 (l'.map Ax) U)) st') (kb:∀e s' st',Cy st0 b s' st' rows->E e s'->K (.Cz (fault e.1)) st'):PC f (mk b (.slice 6 (l.map Ax) own)) st K:=
 hf.ap hl hc (Rd.wp_mono h (λv s' r q own st' c=>k v own s' st' r ((A l).le _ _ _ r) c q) (λe s' _ q st' c=>kb e s' st' c q))
theorem Fo {s:Af} {st:St} {K:AL->St->Prop} {r r':AL} (hc:Cx st0 b s st rows) (h:∀st',Cx st0 b s st' rows->K r st') (e:r=r'.wk):∃r2 U,(r2=r'\/r2=r'.wk)/\St.le U st/\K r2 U:=⟨r,st,.inr e,St.le_refl _,h st hc⟩
theorem DJ {s:Af} {st:St} {K:AL->St->Prop} {e:Int} (hc:Cy st0 b s st rows) (h:∀st',Cy st0 b s st' rows->K (.Cz (fault e)) st'):∃r2 U,(r2=.Cz (fault e)\/r2=(AL.Cz (fault e)).wk)/\St.le U st/\K r2 U:=⟨_,st,.inl rfl,St.le_refl _,h st hc⟩
theorem U1 {c:Bool} {Q p q:Prop} (h:if c=true then P else Q) (U:c=true->P->p) (k2:c=false->Q->q):Bk c p q:=Wk (λe=>U e (by rw [if_pos e] at h;exact h)) (λe=>k2 e (by rw [if_neg (by rw [e];decide)] at h;exact h))
theorem cz [BEq α] [LawfulBEq α] {a b:α} {Q p q:Prop} (h:if (a==b)=true then P else Q) (U:a=b->P->p) (k2:¬a=b->Q->q):Bk (a==b) p q:=
 Wg (λe=>U e (by rw [if_pos (beq_iff_eq.2 e)] at h;exact h)) (λe=>k2 e (by rw [if_neg (λx=>e (beq_iff_eq.1 x))] at h;exact h))
theorem cw {c:Prop} [Decidable c] {Q p q:Prop} (h:if c then P else Q) (U:c->P->p) (k2:¬c->Q->q):Bk (decide c) p q:=
 Wh (λe=>U e (by rw [if_pos e] at h;exact h)) (λe=>k2 e (by rw [if_neg e] at h;exact h))
theorem ql {b:Bool} {p q:Prop} (h:b=true) (k:p):Bk b p q:=Wk (λ_=>k) (λe=>by rw [h] at e;cases e)
theorem fJ {b:Bool} {p q:Prop} (h:b=false) (k:q):Bk b p q:=Wk (λe=>by rw [h] at e;cases e) (λ_=>k)
structure LS (σ:Type) where
 x:σ
 s:Af
 m:St
 o:AF
theorem Dh {σ:Type} {Q0:AM->Env->St->Prop} {st:St} {s:Af} {Q:β->Af->Prop} {E:Er->Af->Prop} {body:σ->Rd (Sum σ β)} {x0:σ}
 (f:σ->AF->List (Nat×V)) (g:σ->AF->List (Nat×List V)) (keep kb:List Nat) (rw:σ->AF->List (AF×List Nd)) (wt:σ->Nat) (U:AF) (hc:Cx st0 b s st (rw x0 U)) (h:Rd.wp (Rd.loop body x0) s Q E) (hl:wt x0+4*mu s<=500000000)
 (he:(env.F3 (f x0 U) (g x0 U) keep kb).C7 env)
 (hb:∀x s1 st1 own1,Cx st0 b s1 st1 (rw x own1)->Rd.wp (body x) s1 (Rd.again body s1 Q E) E->wt x+4*mu s1<=500000000->mu s1<=mu s->
   ih (Bp (λenv' st'=>∃y:LS σ,(Cx st0 b y.s y.m (rw y.x y.o)/\Rd.wp (Rd.loop body y.x) y.s Q E/\wt y.x+4*mu y.s<=500000000/\mu y.s<=mu s)/\mu y.s<mu s1/\(env.F3 (f y.x y.o) (g y.x y.o) keep kb).C7 env'/\St.le y.m st') Q0)
    (env.F3 (f x own1) (g x own1) keep kb) st1):
 ∃(α:Type) (E:α->Env) (S:α->St) (J:α->Prop) (μ:α->Nat) (x0:α),J x0/\(E x0).C7 env/\St.le (S x0) st/\
  ∀x,J x->ih (Bp (λenv' st'=>∃y,J y/\μ y<μ x/\(E y).C7 env'/\St.le (S y) st') Q0) (E x) (S x):=
 ⟨LS σ,λy=>env.F3 (f y.x y.o) (g y.x y.o) keep kb,λy=>y.m,
   λy=>Cx st0 b y.s y.m (rw y.x y.o)/\Rd.wp (Rd.loop body y.x) y.s Q E/\wt y.x+4*mu y.s<=500000000/\mu y.s<=mu s,λy=>mu y.s,⟨x0,s,st,U⟩,⟨hc,h,hl,Nat.le_refl _⟩,he,St.le_refl _,
   λy ⟨j1,j2,j3,j4⟩=>hb y.x y.s y.m y.o j1 (by rw [<-Rd.wp_loop];exact j2) j3 j4⟩
section
variable {st0 st:St} {b:Nat} {s:Af} {rows:List (AF×List Nd)} {K:AL->St->Prop}
theorem Uk (hc:Cx st0 b s st rows) (k:∀st',Cx st0 b s st' rows->K (.ret (Eb (Aa s).1)) st'):PC 135 [.ptr b 0] st K:=Hc hc.has hc.hb (k _ hc.look)
theorem qQ {k:Int} (hc:Cx st0 b s st rows) (U:∀st',Cx st0 b s st' rows->K (.ret (.bool (A9 s k x))) st'):PC 98 [.ptr b 0,.int .i64 k,.str x] st K:=YQ hc.has hc.hb (U _ hc.look)
theorem im {k:Int} (hc:Cx st0 b s st rows) (e:A9 s k x=true) (U:∀st',Cx st0 b s st' rows->K (.ret (.bool true)) st'):PC 98 [.ptr b 0,.int .i64 k,.str x] st K:=qQ hc (by rw [e];exact U)
theorem pH {k:Int} (hc:Cx st0 b s st rows) (e:A9 s k x=false) (U:∀st',Cx st0 b s st' rows->K (.ret (.bool false)) st'):PC 98 [.ptr b 0,.int .i64 k,.str x] st K:=qQ hc (by rw [e];exact U)
theorem sX {k:Int} {Q:Prop} (hc:Cx st0 b s st rows) (h:if A9 s k x=true then P else Q) (U:∀st',Cx st0 b s st' rows->A9 s k x=true->P->K (.ret (.bool true)) st') (k2:∀st',Cx st0 b s st' rows->A9 s k x=false->Q->K (.ret (.bool false)) st'):
 PC 98 [.ptr b 0,.int .i64 k,.str x] st K:=by
 cases e:A9 s k x with
 |true=>exact im hc e λst' c=>U st' c e (by rw [if_pos e] at h;exact h)
 |false=>exact pH hc e λst' c=>k2 st' c e (by rw [if_neg (by rw [e];decide)] at h;exact h)
theorem J6:Bx enc 100 (λb=>[.ptr b 0]) A0:=by
 refine ⟨λ{st0 b s st rows K} hc h=>?_⟩
 refine Om hc.has hc.hb (λe st' U=>?_) (λe=>?_)
 .unfold Rd.wp at h;rw [CU e] at h;exact h st' (hc.RP U (CK e).1)
 .unfold Rd.wp at h;rw [H2 e] at h;exact h _ hc.look.y
theorem P0 {k:Int} {Q:Nd->Af->Prop} {E:Er->Af->Prop} (hc:Cx st0 b s st rows) (h:Rd.wp A0 s Q E) (e:A9 s k x=true) (hk:k≠0/\k≠21) (kk:∀s' st',(Aa s).2.1=s'->mu s'<mu s->Cx st0 b s' st' rows->Q (Av (Aa s).1) s'->K (.ret (enc (Av (Aa s).1))) st'):
 PC 100 [.ptr b 0] st K:=by
 unfold Rd.wp at h
 rw [XN e hk.1] at h
 have U:=C0 e hk.1 hk.2
 exact Om hc.has hc.hb (λ_ st' hu=>kk _ st' rfl U (hc.RP hu (Nat.le_of_lt U)) h) (λn=>absurd (FK e hk.1) n)
theorem P1 {Q:Nd->Af->Prop} {E:Er->Af->Prop} (hc:Cx st0 b s st rows) (h:Rd.wp A0 s Q E) (hk:(Aa s).1.kind≠0/\(Aa s).1.kind≠21) (kk:∀s' st',(Aa s).2.1=s'->mu s'<mu s->Cx st0 b s' st' rows->Q (Av (Aa s).1) s'->K (.ret (enc (Av (Aa s).1))) st'):
 PC 100 [.ptr b 0] st K:=by
 have e:=EY hk.1
 unfold Rd.wp at h
 rw [CU e] at h
 have U:=(CK e).2 hk.2
 exact Om hc.has hc.hb (λ_ st' hu=>kk _ st' rfl U (hc.RP hu (Nat.le_of_lt U)) h) (λn=>absurd e n)
theorem UX {Q:α->Af->Prop} {E:Er->Af->Prop} (hc:Cx st0 b s st rows) (h:Rd.wp (L7:Rd α) s Q E) (U:∀e s' st',Cy st0 b s' st' rows->E e s'->K (.Cz (fault e.1)) st'):PC 191 [.ptr b 0] st K:=
 fG hc.has hc.hb (U _ _ _ hc.look.y h)
theorem cj {k:Int}:Bx enc 167 (λb=>[.ptr b 0,.int .i64 k,.str x]) (BU k x):=by
 refine ⟨λ{st0 b s st rows K} hc h=>?_⟩
 unfold BU at h
 rw [Rd.Ah,Rd.Az] at h
 refine lr hc.has hc.hb (λU e2 st' hu=>?_) (λU e2=>?_) (λU=>?_)
 .rw [if_pos U] at h
  unfold Rd.wp at h;rw [CU e2] at h;exact h st' (hc.RP hu (CK e2).1)
 .rw [if_pos U] at h
  unfold Rd.wp at h;rw [H2 e2] at h;exact h _ hc.look.y
 .rw [if_neg (by rw [U];decide)] at h
  exact h _ hc.look.y
theorem sU {s':Af} (hc:Cx st0 b s st rows) (U:mu s'<=100000000) (k:∀st',Cx st0 b s' st' rows->K (.ret (.Bh [])) st'):PC 234 [.ptr b 0,Am s'] st K:=mX hc.has λst' hu=>k st' (hc.set hu U)
theorem Ly {Q:Unit->Af->Prop} {E:Er->Af->Prop} (hc:Cx st0 b s st rows) (h:Rd.wp Hh s Q E) (hk:(Aa s).1.kind≠0/\(Aa s).1.kind≠21) (kk:∀s' st',(Aa s).2.1=s'->mu s'<mu s->Cx st0 b s' st' rows->Q () s'->K (.ret (Eb (Aa s).1)) st'):
 PC 161 [.ptr b 0] st K:=by
 have e:=EY hk.1
 unfold Hh at h
 rw [Rd.wp_seq] at h
 unfold Rd.wp at h
 rw [CU e] at h
 have U:=(CK e).2 hk.2
 exact Zx hc.has hc.hb (λ_ st' hu=>kk _ st' rfl U (hc.RP hu (Nat.le_of_lt U)) h) (λn=>absurd e n)
theorem bY {k:Int} {Q:Unit->Af->Prop} {E:Er->Af->Prop} (hc:Cx st0 b s st rows) (h:if A9 (Aa s).2.1 k x=true then Rd.wp Hh s Q E else P) (hk:(Aa s).1.kind≠0/\(Aa s).1.kind≠21)
 (kk:∀s' st',mu s'<mu s->Cx st0 b s' st' rows->(if A9 s' k x=true then Q () s' else P)->K (.ret (Eb (Aa s).1)) st'):PC 161 [.ptr b 0] st K:=by
 have e:=EY hk.1
 have U:=(CK e).2 hk.2
 refine Zx hc.has hc.hb (λ_ st' hu=>kk _ st' U (hc.RP hu (Nat.le_of_lt U)) ?_) (λn=>absurd e n)
 split
 .rename_i hi
  rw [if_pos hi] at h
  unfold Hh at h
  rw [Rd.wp_seq] at h
  unfold Rd.wp at h
  rw [CU e] at h
  exact h
 .rename_i hi
  rw [if_neg hi] at h;exact h
theorem MY {s0:Af} (hc:Cx st0 b s st rows) (U:mu s0<=100000000) (k:∀st',Cx st0 b s0 st' rows->K (.ret (.Bh [])) st'):PC 234 [.ptr b 0,.agg s0.cells] st K:=sU hc U k
theorem sd (hc:Cx st0 b s st rows) (hk:(Aa s).1.kind≠0/\(Aa s).1.kind≠21) (kk:∀s' st',(Aa s).2.1=s'->mu s'<mu s->Cx st0 b s' st' rows->K (.ret (enc (Av (Aa s).1))) st'):PC 100 [.ptr b 0] st K:=by
 have e:=EY hk.1
 have U:=(CK e).2 hk.2
 exact Om hc.has hc.hb (λ_ st' hu=>kk _ st' rfl U (hc.RP hu (Nat.le_of_lt U))) (λn=>absurd e n)
end
theorem Dk (h:P:=by with_reducible first|(show _/\_;first|exact Wa)|(show Bk _ _ _;first|exact Wb|exact Wc)|fail):P:=h
theorem AG (k:A) (h:A->P:=by intro k;with_reducible first|(show _/\_;first|exact Wd EQ k|exact Wm ‹_› AC k|exact Wn AC AC k|exact Wo AC AC k|exact Wp AC AC AC k|exact Wr Do AC AC k|exact Ws Do k|exact WB ‹_› AC k|exact WC AC AC k|exact WD AC AC k|exact WE AC AC AC k)|(show Bk _ _ _;first|exact Wt IR k|exact Wu IR k|exact Wv AC k|exact Ww AC k|exact ql ‹_› k|exact fJ ‹_› k|exact Wi k|exact Wj k)|(intro x y z;exact Wl k x y z)|(intro x y z;exact Wz k x y z)|(intro x y z;exact WA k x y z)|(show Exists _;first|exact Wq AC AC k)|fail):P:=h k
theorem Dl {B C:V->Prop} (k:V) (l:B k) (m:C k) (h:∀k,B k->C k->P:=by intro k l m;with_reducible first|(show Exists _;first|exact We k l m|exact W8 GE k l m|exact W0 GE k l m|exact W9 k l m)|fail):P:=h k l m
theorem AH (k:A) (l:B) (h:A->B->P:=by intro k l;with_reducible first|(show Bk _ _ _;first|exact cz h k l|exact cw h k l|exact U1 h k l)|fail):P:=h k l
theorem AJ (k:A) (l:B) (h:A->B->P:=by intro k l;with_reducible first|(show Bk _ _ _;first|exact Wf Do k l|exact Wg k l|exact Wh k l|exact Wk k l)|fail):P:=h k l
theorem Hx (k:A) (l:B) (h:A->B->P:=by intro k l;with_reducible first|(intro x y;exact Wx k l x y)|(intro x y;exact Wy k l x y)|fail):P:=h k l
abbrev H5 (f:FuncId) (args:List V) (st:St) (R:AL->St->Prop):Prop:=Bc Tryz.prog f args st R
def JO (x:Int):List Int->Int->Int
 |[],_=> -1
 |y::r,i=>if x=y then i else JO x r (i+1)
theorem QS {x:Int}:∀{l:List Int} {i:Int},0<=i->(0<=JO x l i↔l.contains x=true)
 |[],i,h=>by simp [JO]
 |y::r,i,h=>by
  simp only [JO]
  split
  .rename_i e;subst e;simp [h]
  .rename_i e
   rw [QS AC]
   simp [e]
theorem ij {x:Int} {st:St} {own:AF} (h:R (.ret (.int .i64 (JO x kinds 0))) st):H5 343 [.slice 1 (ints kinds) own,.int .i64 x] st R:=by
 refine pB Tryz.func343 ?_
 have hlen:(ints kinds).length=kinds.length:=by simp [ints]
 intro m hm hl
 rw [hlen] at hm
 subst hm
 conv=>whnf
 refine ⟨Nat,λk=>{tmps:=[(8,.int .i64 k),(7,.int .i64 kinds.length),(0,.slice 1 (ints kinds) own),(1,.int .i64 x)],boxes:=[],BI:=0,sz:=19,gl:=[]},λ_=>st,
  λk=>k<=kinds.length/\JO x kinds 0=JO x (kinds.drop k) k,λk=>kinds.length - k,0,⟨Nat.zero_le _,rfl⟩,⟨rfl,⟨rfl,rfl,rfl,rfl,rfl,rfl,rfl,rfl,trivial⟩,trivial,rfl⟩,St.le_refl _,?_⟩
 rintro k ⟨hk,hi⟩
 refine Wh (λh1=>?_) (λh1=>?_)
 .have U:k<kinds.length:=AC
  have he:(ints kinds)[(k:Int).toNat]? =some [.int .i64 kinds[k]]:=by simp [ints,U]
  refine ⟨AC,_,he,?_⟩
  have hd:JO x (kinds.drop k) k=if x=kinds[k] then (k:Int) else JO x (kinds.drop (k+1)) (k+1):=by
   rw [List.drop_eq_getElem_cons U];rfl
  refine Wg (λh2=>?_) (λh2=>?_)
  .exact fin h (by rw [hi,hd,if_pos h2])
  .refine ⟨((k+1:Nat):Int),?_,?_⟩
   .simp only [Fe] at hl
    rw [LC AC AC];rfl
   .refine ⟨k+1,⟨U,?_⟩,by show kinds.length - (k+1)<kinds.length - k;omega,⟨rfl,⟨rfl,rfl,rfl,rfl,rfl,rfl,rfl,rfl,trivial⟩,trivial,rfl⟩,St.le_refl _⟩
    rw [hi,hd,if_neg h2];rfl
 .refine fin h ?_
  have:k=kinds.length:=AC
  rw [hi,this,List.drop_length];rfl
section
variable {st:St} {R:AL->St->Prop}
theorem U6 {x:Int} {own:AF} (h:R (.ret (.bool (kinds.contains x))) st):H5 306 [.slice 1 (ints kinds) own,.int .i64 x] st R:=by
 refine pB Tryz.func306 ?_
 refine ij ?_
 have key:=QS (x:=x) (l:=kinds) (i:=0) AC
 refine Wh (λU=>?_) (λU=>?_)
 .exact Ao h (key.1 U)
 .refine Ao h ?_
  cases hc:kinds.contains x with
  |false=>rfl
  |true=>exact absurd (key.2 hc) U
def Ey (n:Nd) (kinds:List Int):Bool:=n.kind==1&&kinds.contains n.form
theorem Je {own:AF} (h:R (.ret (.bool (Ey n kinds))) st):H5 260 [enc n,.slice 1 (ints kinds) own] st R:=by
 refine pB Tryz.func260 ?_
 unfold Ey at h
 repeat' ((conv=>whnf);first|(refine Gv ?_;intros)|(refine Gw ?_ ?_<;>intro _)|refine U6 ?_)
 all_goals exact Ao h lc
def B9 (n:Nd) (k:Int) (t:List UInt8):Bool:=Ey n [k]&&n.text==t
theorem J4 {k:Int} (h:R (.ret (.bool (B9 n k t))) st):H5 261 [enc n,.int .i64 k,.str t] st R:=by
 refine pB Tryz.func261 ?_
 unfold B9 at h
 repeat' ((conv=>whnf);first|(refine Gv ?_;intros)|(refine Gw ?_ ?_<;>intro _)|refine Je (kinds:=[k]) ?_)
 all_goals exact Ao h lc
def Bs (n:Nd) (o s:List UInt8):Option (List Nd):=
 if 2<=n.kids.length/\n.kids[0]?.any (B9 · 15 o)=true/\n.kids[n.kids.length - 1]?.any (B9 · 15 s)=true then some ((n.kids.take (n.kids.length - 1)).drop 1) else none
theorem I8 (U:∀l,Bs n o s=some l->R (.ret (.Bh [.slice 6 (Cc l) .any,.bool true])) st)
 (hn:Bs n o s=none->R (.ret (.Bh [.slice 6 [] .any,.bool false])) st):H5 256 [enc n,.str o,.str s] st R:=by
 refine pB Tryz.func256 ?_
 repeat' ((conv=>whnf);first|(refine Gv ?_;intros)|(refine Gw ?_ ?_<;>intro _)|refine J4 ?_)
 .exact TK (hn (by simp [Bs];omega)) rfl
 all_goals
  have e:((n.kids.length:Int) - 1).toNat=n.kids.length - 1:=AC
  simp only [e,Int.toNat_zero,Int.reduceToNat] at *
  first
   |exact TK (U _ (by simp_all [Bs];omega)) rfl
   |exact TK (hn (by simp_all [Bs])) rfl
theorem Mj (h:Bs n o s=some l):l.length+2=n.kids.length:=by
 simp only [Bs] at h
 split at h
 .rename_i g
  cases h
  simp only [List.length_drop,List.length_take];omega
 .cases h
theorem TM (U:∀l,Bs n o s=some l->l.length+2=n.kids.length->R (.ret (.Bh [.slice 6 (Cc l) .any,.bool true])) st)
 (hn:Bs n o s=none->R (.ret (.Bh [.slice 6 [] .any,.bool false])) st):H5 256 [enc n,.str o,.str s] st R:=
 I8 (λl h=>U l h (Mj h)) hn
def FV:Nd:=.mk 0 0 [] 0 0 []
def GW (n:Nd):Bool:=Ey n [6,8]||B9 n 10 [58]
theorem VP (h:R (.ret (.bool (GW n))) st):H5 311 [enc n] st R:=by
 refine pB Tryz.func311 ?_
 repeat' ((conv=>whnf);first|(refine Gv ?_;intros)|(refine Gw ?_ ?_<;>intro _)|refine Je (kinds:=[6,8]) ?_|refine J4 ?_)
 all_goals conv=>whnf
 all_goals (refine Ao h ?_;clear h;simp_all [GW])
def EJ (n:Nd):Option Nd:=if n.kind=3 then (match Bs n [40] [41] with|some l=>if l.length=1 then l[0]? else none|none=>none) else none
theorem VW (U:∀x,EJ n=some x->R (.ret (.Bh [enc x,.bool true])) st) (hn:EJ n=none->R (.ret (.Bh [enc FV,.bool false])) st):H5 304 [enc n] st R:=by
 refine pB Tryz.func304 ?_
 repeat' ((conv=>whnf);first|(refine Gv ?_;intros)|(refine Gw ?_ ?_<;>intro _)|refine I8 (λl hl=>?_) (λhl=>?_))
 all_goals conv=>whnf
 all_goals first
  |exact AZ rfl (U _ (by clear U hn;simp_all [EJ]))
  |exact AZ rfl (hn (by clear U hn;simp_all [EJ]))
def Br (n:Nd):Option (List UInt8):=
 if Ey n [1] then some n.text else match EJ n with|some x=>if Ey x [5] then some x.text else none|none=>none
theorem MB (U:∀t,Br n=some t->R (.ret (.Bh [.str t,.bool true])) st) (hn:Br n=none->R (.ret (.Bh [.str [],.bool false])) st):H5 257 [enc n] st R:=by
 refine pB Tryz.func257 ?_
 repeat' ((conv=>whnf);first|(refine Gv ?_;intros)|(refine Gw ?_ ?_<;>intro _)|refine VW (λl hl=>?_) (λhl=>?_)|refine Je (kinds:=[1]) ?_|refine Je (kinds:=[5]) ?_)
 all_goals conv=>whnf
 all_goals first
  |exact AZ rfl (U _ (by clear U hn;simp_all [Br]))
  |exact AZ rfl (hn (by clear U hn;simp_all [Br]))
def Gh (n:Nd):Bool:=Ey n [2,4]||(match EJ n with|some x=>GW x|none=>false)
theorem T2 (h:R (.ret (.bool (Gh n))) st):H5 265 [enc n] st R:=by
 refine pB Tryz.func265 ?_
 repeat' ((conv=>whnf);first|(refine Gv ?_;intros)|(refine Gw ?_ ?_<;>intro _)|refine VW (λl U=>?_) (λU=>?_)|refine Je (kinds:=[2,4]) ?_|refine VP ?_)
 all_goals conv=>whnf
 all_goals (refine Ao h ?_;clear h;simp_all [Gh])
def Bf (n:Nd):Nd×Bool:=
 if n.kind=18 then (if n.kids.length=1 then ((n.kids[0]?.getD FV),false) else if n.kids.length=3 then (match Bs n [96] [96] with|some l=>((l[0]?.getD FV),true)|none=>(FV,false)) else (FV,false)) else (FV,false)
theorem OJ (h:R (.ret (.Bh [enc (Bf n).1,.bool (Bf n).2])) st):H5 305 [enc n] st R:=by
 refine pB Tryz.func305 ?_
 repeat' ((conv=>whnf);first|(refine Gv ?_;intros)|(refine Gw ?_ ?_<;>intro _)|refine TM (λl U hk=>?_) (λU=>?_))
 all_goals conv=>whnf
 all_goals refine AZ ?_ h
 all_goals clear h
 all_goals simp_all [Bf]
 all_goals rfl
def DY (n:Nd):Bool:=if (Bf n).2 then Ey (Bf n).1 [2,4] else GW (Bf n).1
theorem aL (h:R (.ret (.bool (DY n))) st):H5 312 [enc n] st R:=by
 refine pB Tryz.func312 ?_
 repeat' ((conv=>whnf);first|(refine Gv ?_;intros)|(refine Gw ?_ ?_<;>intro _)|refine OJ ?_|refine Je (kinds:=[2,4]) ?_|refine VP ?_)
 all_goals conv=>whnf
 all_goals (refine Ao h ?_;clear h;simp_all [DY])
def Dq (n:Nd):Option (List UInt8):=
 if (if (Bf n).2 then Ey (Bf n).1 [1] else Ey (Bf n).1 [5]) then some (Bf n).1.text else none
theorem l7 (U:∀t,Dq n=some t->R (.ret (.Bh [.str t,.bool true])) st) (hn:Dq n=none->R (.ret (.Bh [.str [],.bool false])) st):H5 258 [enc n] st R:=by
 refine pB Tryz.func258 ?_
 repeat' ((conv=>whnf);first|(refine Gv ?_;intros)|(refine Gw ?_ ?_<;>intro _)|refine OJ ?_|refine Je (kinds:=[1]) ?_|refine Je (kinds:=[5]) ?_)
 all_goals conv=>whnf
 all_goals first
  |exact AZ rfl (U _ (by clear U hn;simp_all [Dq]))
  |exact AZ rfl (hn (by clear U hn;simp_all [Dq]))
def BS (f:FuncId) (p:Nd->Bool) (x:Nd):Prop:=∀(st:St) (R:AL->St->Prop),R (.ret (.bool (p x))) st->H5 f [enc x] st R
def EC (p:Nd->Bool):Bool->List Nd->Bool
 |_,[]=>true
 |b,x::r=>(if b then B9 x 15 [44] else p x)&&EC p (!b) r
def JU (p:Nd->Bool) (l:List Nd):Bool:=l.length % 2==1&&EC p false l
theorem Ms {k:Nat} {x:Nd} (h:l[k]? =some x):
 EC p (k % 2==1) (l.drop k)=((if k % 2=1 then B9 x 15 [44] else p x)&&EC p ((k+1) % 2==1) (l.drop (k+1))):=by
 rw [drop_at h,EC]
 have:(!(k % 2==1))=((k+1) % 2==1):=by
  rcases Nat.mod_two_eq_zero_or_one k with e|e
  .have:(k+1) % 2=1:=AC
   simp [e,this]
  .have:(k+1) % 2=0:=AC
   simp [e,this]
 rw [this];simp only [beq_iff_eq]
theorem V8 (U:∀x ∈ l,BS f p x) (h:R (.ret (.bool (JU p l))) st):H5 309 [.slice 6 (Cc l) .any,.func f [] []] st R:=by
 refine pB Tryz.func309 ?_
 repeat' ((conv=>whnf);first|(refine Gv ?_;intros)|(refine Gw ?_ ?_<;>intro _)|refine J4 ?_)
 .conv=>whnf
  refine Ao h ?_
  have:=GL.1 ‹_›
  simp [JU,this]
 .refine N1 13 [11,12,1] l.length (λk=>k<=l.length/\(EC p false l=EC p (k % 2==1) (l.drop k))) ⟨Nat.zero_le _,rfl⟩ Yl ?_
  rintro k ⟨hk,hi⟩
  repeat' ((conv=>whnf);first|(refine Gv ?_;intros)|(refine Gw ?_ ?_<;>intro _)|refine J4 ?_|refine U _ ‹_› _ _ ?_)
  all_goals conv=>whnf
  all_goals simp only [GL,Jt,Int.toNat_natCast] at *
  all_goals try (have e:=Ms (p:=p) ‹l[k]? =some _›;rw [e] at hi;clear e)
  all_goals try omega
  all_goals first
   |(refine ⟨k+1,⟨AC,?_⟩,AC,Yl,St.le_refl _⟩;clear h;simp_all)
   |(refine Ao h ?_;clear h;simp_all [JU])
  rw [List.drop_eq_nil_of_le AC];rfl
def EG (p:Nd->Bool):List Nd->Int->Int
 |[],_=> -1
 |y::r,i=>if p y then i else EG p r (i+1)
theorem KG {p:Nd->Bool}:∀{l:List Nd} {i:Int},0<=i->(0<=EG p l i↔l.any p=true)
 |[],i,h=>by simp [EG]
 |y::r,i,h=>by
  simp only [EG,List.any_cons]
  split
  .rename_i e;simp [h,e]
  .rename_i e
   rw [KG AC]
   simp [e]
theorem TP {st:St}
 (U:∀x ∈ l,BS f p x) (h:R (.ret (.int .i64 (EG p l 0))) st):H5 344 [.slice 6 (Cc l) .any,.func f [] []] st R:=by
 refine pB Tryz.func344 ?_
 repeat' ((conv=>whnf);first|(refine Gv ?_;intros)|(refine Gw ?_ ?_<;>intro _)|refine J4 ?_)
 refine N1 8 [6,7,0,1] l.length (λk=>k<=l.length/\(EG p l 0=EG p (l.drop k) k)) ⟨Nat.zero_le _,rfl⟩ Yl ?_
 rintro k ⟨hk,hi⟩
 repeat' ((conv=>whnf);first|(refine Gv ?_;intros)|(refine Gw ?_ ?_<;>intro _)|refine U _ ‹_› _ _ ?_)
 all_goals conv=>whnf
 all_goals try (have e:=drop_at ‹l[Int.toNat k]? =some _›;rw [Int.toNat_natCast] at e;rw [e,EG] at hi;clear e)
 all_goals first
  |(refine ⟨k+1,⟨AC,?_⟩,AC,Yl,St.le_refl _⟩;clear h;simp_all)
  |(refine fin h ?_;clear h;simp_all;done)
  |(refine fin h ?_;rw [hi,List.drop_eq_nil_of_le AC];rfl)
theorem O7 (hf:∀x ∈ l,BS f p x) (h:R (.ret (.bool (l.any p))) st):H5 307 [.slice 6 (Cc l) .any,.func f [] []] st R:=by
 refine pB Tryz.func307 ?_
 refine TP hf ?_
 have key:=KG (p:=p) (l:=l) (i:=0) AC
 refine Wh (λU=>?_) (λU=>?_)
 .exact Ao h (key.1 U)
 .refine Ao h ?_
  cases hc:l.any p with
  |false=>rfl
  |true=>exact absurd (key.2 hc) U
theorem ni {x:Nd}:BS 308 (λx=> !B9 x 15 [44]) x:=by
 intro st R h
 refine pB Tryz.func308 ?_
 repeat' ((conv=>whnf);first|(refine Gv ?_;intros)|(refine Gw ?_ ?_<;>intro _)|refine J4 ?_)
 all_goals conv=>whnf
 all_goals (refine Ao h ?_;clear h;simp_all)
def M0 (n:Nd):Bool:=
 (Br n).isSome||Gh n||(match Bs n [91] [93] with|some l=>l.isEmpty|none=>match Bs n [40] [41] with|some l=> !l.any λx=> !B9 x 15 [44]|none=>false)
theorem qM (h:R (.ret (.bool (M0 n))) st):H5 262 [enc n] st R:=by
 refine pB Tryz.func262 ?_
 repeat' ((conv=>whnf);first|(refine Gv ?_;intros)|(refine Gw ?_ ?_<;>intro _)|refine MB (λl U=>?_) (λU=>?_)|refine T2 ?_|refine I8 (λl U=>?_) (λU=>?_)|refine O7 (λx _=>ni) ?_)
 all_goals conv=>whnf
 all_goals (refine Ao h ?_;clear h;simp_all [M0])
end
section
variable {st:St} {R:AL->St->Prop}
theorem Mk (h:Bs n o s=some l):∀x ∈ l,x ∈ n.kids:=by
 simp only [Bs] at h
 split at h
 .cases h
  intro x U
  exact List.mem_of_mem_take (List.mem_of_mem_drop U)
 .cases h
def ED (p:Nd->Bool) (n:Nd) (o s:List UInt8) (least:Int) (one:Bool):Bool:=
 match Bs n o s with
 |some l=>decide (2*least - 1<=(l.length:Int))&&(!one||l.length==1)&&JU p l
 |none=>false
theorem U3 {least:Int} {one:Bool} (h0:0<=least) (h1:least<=10) (hp:∀x ∈ n.kids,BS 205 p x)
 (h:R (.ret (.bool (ED p n o s least one))) st):H5 263 [enc n,.str o,.str s,.int .i64 least,.bool one] st R:=by
 cases one
 all_goals refine pB Tryz.func263 ?_
 repeat' ((conv=>whnf);first|(refine Gv ?_;intros)|(refine Gw ?_ ?_<;>intro _)|refine I8 (λl U=>?_) (λU=>?_)|refine V8 (λx hx=>hp x (Mk ‹_› x hx)) ?_)
 all_goals conv=>whnf
 all_goals (refine Ao h ?_;clear h;simp_all [ED])
 all_goals (intros;omega)
def Iu (q:Nd->Bool):List Nd->Bool
 |[]=>true
 |x::r=>q x&&Iu q r
def FD (p:Nd->Bool) (x:Nd):Bool:= !(x.kind==11)&& !(x.kind==17)&&p x
def ET (p:Nd->Bool) (l:List Nd):Bool:=Iu (FD p) l&&decide (0<l.length)
theorem U2 (U:∀x ∈ l,BS 205 p x) (h:R (.ret (.bool (ET p l))) st):H5 255 [.slice 6 (Cc l) .any] st R:=by
 refine pB Tryz.func255 ?_
 repeat' ((conv=>whnf);first|(refine Gv ?_;intros)|(refine Gw ?_ ?_<;>intro _)|refine J4 ?_)
 refine N1 7 [5,6,0] l.length (λk=>k<=l.length/\Iu (FD p) l=Iu (FD p) (l.drop k)) ⟨Nat.zero_le _,rfl⟩ Yl ?_
 rintro k ⟨hk,hi⟩
 repeat' ((conv=>whnf);first|(refine Gv ?_;intros)|(refine Gw ?_ ?_<;>intro _)|refine U _ ‹_› _ _ ?_)
 all_goals conv=>whnf
 all_goals try (have e:=drop_at ‹l[Int.toNat k]? =some _›;rw [Int.toNat_natCast] at e;rw [e,Iu] at hi;clear e)
 all_goals first
  |(refine ⟨k+1,⟨AC,?_⟩,AC,Yl,St.le_refl _⟩;clear h;simp_all [FD];done)
  |(refine Ao h ?_;clear h;simp_all [ET,FD];done)
  |(refine Ao h ?_;clear h;rw [List.drop_eq_nil_of_le AC] at hi;simp_all [ET,Iu];done)
  |skip
def JK (p:Nd->Bool) (n:Nd):Bool:=
 n.kind==13&&n.kids.length==3&&n.kids[0]?.any (Ey · [1,3])&&n.kids[1]?.any (B9 · 10 [61])&&n.kids[2]?.any p
theorem mP (U:∀x ∈ n.kids,BS 205 p x):BS 310 (JK p) n:=by
 intro st R h
 refine pB Tryz.func310 ?_
 repeat' ((conv=>whnf);first|(refine Gv ?_;intros)|(refine Gw ?_ ?_<;>intro _)|refine Je (kinds:=[1,3]) ?_|refine J4 ?_|refine U _ ‹_› _ _ ?_)
 all_goals conv=>whnf
 all_goals (refine Ao h ?_;clear h;simp_all [JK])
def JY (p:Nd->Bool) (n:Nd):Bool:=
 decide (3<=n.kids.length)&&n.kids[0]?.any Gh&&(match Bs (.mk 0 0 [] 0 0 (n.kids.drop 1)) [123] [125] with|some l=>l.isEmpty||JU (JK p) l|none=>false)
theorem jF (hp:∀x ∈ n.kids,∀y ∈ x.kids,BS 205 p y) (h:R (.ret (.bool (JY p n))) st):H5 264 [enc n] st R:=by
 refine pB Tryz.func264 ?_
 repeat' ((conv=>whnf);first|(refine Gv ?_;intros)|(refine Gw ?_ ?_<;>intro _)|refine T2 ?_|refine I8 (n:=.mk 0 0 [] 0 0 _) (λl U=>?_) (λU=>?_)|refine V8 (λx hx=>mP (hp x (List.mem_of_mem_drop (i:=1) (l:=n.kids) (Mk (n:=.mk 0 0 [] 0 0 (n.kids.drop 1)) ‹_› x hx)))) ?_)
 all_goals conv=>whnf
 all_goals (refine Ao h ?_;clear h;try simp only [Int.toNat_zero,Int.toNat_one] at *;simp_all [JY])
 all_goals first
  |omega
  |(have:¬3<=n.kids.length:=by omega
    simp [JY,this])
def HV (p:Nd->Bool):Nat->List Nd->Bool
 |2,[]=>true
 |_,[]=>false
 |0,x::r=>if x.kind=19 then HV p 1 r else (!(x.kind==17)&&p x)&&HV p 2 r
 |1,x::r=>Ey x [11,12]&&HV p 2 r
 |_,x::r=>DY x&&HV p 0 r
theorem kf {k:Nat} {x:Nd} (h:l[k]? =some x):HV p 0 (l.drop k)=if x.kind=19 then HV p 1 (l.drop (k+1)) else (!(x.kind==17)&&p x)&&HV p 2 (l.drop (k+1)):=by
 rw [drop_at h];rfl
theorem ki {k:Nat} {x:Nd} (h:l[k]? =some x):HV p 1 (l.drop k)=(Ey x [11,12]&&HV p 2 (l.drop (k+1))):=by
 rw [drop_at h];rfl
theorem SX {k:Nat} {x:Nd} (h:l[k]? =some x):HV p 2 (l.drop k)=(DY x&&HV p 0 (l.drop (k+1))):=by
 rw [drop_at h];rfl
theorem Kh {k s:Nat} (h:l.length<=k):HV p s (l.drop k)=(s==2):=by
 rw [List.drop_eq_nil_of_le h]
 match s with
 |0=>rfl
 |1=>rfl
 |2=>rfl
 |s+3=>simp [HV]
theorem uq:(0:Int).toNat=0:=rfl
theorem ur:((0:Int)+1).toNat=1:=rfl
theorem uu:((0:Int)+1+1).toNat=2:=rfl
theorem sv {k:Nat}:((k:Int)+1).toNat=k+1:=AC
theorem tV {k:Nat}:((k:Int)+1+1).toNat=k+2:=AC
theorem kn (U:∀x ∈ l,BS 205 p x) (h:R (.ret (.bool (HV p 0 l))) st):H5 266 [.slice 6 (Cc l) .any] st R:=by
 refine pB Tryz.func266 ?_
 conv=>whnf
 refine ⟨Nat,λ_=>0,λk=>{tmps:=[(3,.int .i64 k),(0,.slice 6 (Cc l) .any)],boxes:=[],BI:=0,sz:=57,gl:=[]},λ_=>st,
  λk=>k<=l.length/\HV p 0 l=HV p 0 (l.drop k),λk=>l.length - k,?_,?_⟩
 .have hi:HV p 0 l=HV p 0 (l.drop 0):=rfl
  repeat' ((conv=>whnf);first|(refine Gv ?_;intros)|(refine Gw ?_ ?_<;>intro _)|refine Je (kinds:=[11,12]) ?_|refine aL ?_|refine U _ ‹_› _ _ ?_)
  all_goals conv=>whnf
  all_goals try simp only [uq,ur,uu,sv,tV,Int.toNat_natCast,Nat.zero_add,Nat.reduceAdd] at *
  all_goals try (have e:=kf (p:=p) ‹l[0]? =some _›;rw [e] at hi;clear e)
  all_goals (try have e1:=ki (p:=p) ‹l[1]? =some _›)
  all_goals (try have e2:=SX (p:=p) ‹l[1]? =some _›)
  all_goals (try have e3:=SX (p:=p) ‹l[2]? =some _›)
  all_goals (try have f0:=Kh (p:=p) (s:=0) (l:=l) (k:=0) AC)
  all_goals (try have f1:=Kh (p:=p) (s:=1) (l:=l) (k:=1) AC)
  all_goals (try have f2:=Kh (p:=p) (s:=2) (l:=l) (k:=1) AC)
  all_goals (try have f3:=Kh (p:=p) (s:=2) (l:=l) (k:=2) AC)
  all_goals try simp only [Nat.zero_add,Nat.reduceAdd] at *
  all_goals first
   |(refine Ao h ?_;clear h;clear U;simp_all;done)
   |(refine ⟨3,(by first|trivial|rfl),⟨AC,?_⟩,Yl,St.le_refl _⟩;clear h;clear U;simp_all;done)
   |(refine ⟨2,(by first|trivial|rfl),⟨AC,?_⟩,Yl,St.le_refl _⟩;clear h;clear U;simp_all;done)
 .rintro k ⟨hk,hi⟩
  refine ⟨_,rfl,?_⟩
  repeat' ((conv=>whnf);first|(refine Gv ?_;intros)|(refine Gw ?_ ?_<;>intro _)|refine Je (kinds:=[11,12]) ?_|refine aL ?_|refine U _ ‹_› _ _ ?_)
  all_goals conv=>whnf
  all_goals try simp only [uq,ur,uu,sv,tV,Int.toNat_natCast,Nat.zero_add,Nat.reduceAdd] at *
  all_goals try (have e:=kf (p:=p) ‹l[k]? =some _›;rw [e] at hi;clear e)
  all_goals (try have e1:=ki (p:=p) ‹l[k+1]? =some _›)
  all_goals (try have e2:=SX (p:=p) ‹l[k+1]? =some _›)
  all_goals (try have e3:=SX (p:=p) ‹l[k+2]? =some _›)
  all_goals (try have f0:=Kh (p:=p) (s:=0) (l:=l) (k:=k) AC)
  all_goals (try have f1:=Kh (p:=p) (s:=1) (l:=l) (k:=k+1) AC)
  all_goals (try have f2:=Kh (p:=p) (s:=2) (l:=l) (k:=k+1) AC)
  all_goals (try have f3:=Kh (p:=p) (s:=2) (l:=l) (k:=k+2) AC)
  all_goals try simp only [Nat.zero_add,Nat.reduceAdd] at *
  all_goals first
   |(refine Ao h ?_;clear h;clear U;simp_all;done)
   |(refine ⟨k+3,(by first|trivial|rfl),⟨AC,?_⟩,AC,Yl,St.le_refl _⟩;clear h;clear U;simp_all;done)
   |(refine ⟨k+2,(by first|trivial|rfl),⟨AC,?_⟩,AC,Yl,St.le_refl _⟩;clear h;clear U;simp_all;done)
end
section
variable {st:St} {R:AL->St->Prop}
def DP (p:Nd->Bool) (n:Nd):Bool:=
 if n.kind=1 then Ey n [1,2,4,11,12,13,14]
 else if n.kind=14 then n.kids.length==1&&n.kids[0]?.any (B9 · 9 [95])
 else if n.kind=3 then M0 n
 else if n.kind=15 then n.kids.length==3&&n.kids[0]?.any (Ey · [1])&&n.kids[1]?.any (B9 · 10 [64])&&n.kids[2]?.any p
 else if n.kind=16 then n.kids.length==2&&n.kids[0]?.any (B9 · 10 [126])&&n.kids[1]?.any p
 else if n.kind=4 then ED p n [40] [41] 1 true
 else if n.kind=5 then ED p n [40] [41] 2 false
 else if n.kind=6 then ED p n [91] [93] 1 false
 else if n.kind=12 then JY p n
 else if n.kind=11 then decide (0<n.kids.length)&&n.kids[0]?.any Gh&&ET p (n.kids.drop 1)
 else if n.kind=17 then decide (1<n.kids.length)&&HV p 0 n.kids
 else false
theorem iR (hp:∀x,x.size<n.size->BS 205 p x):BS 205 (DP p) n:=by
 intro st R h
 have U:∀x ∈ n.kids,BS 205 p x:=λx hx=>hp x (CT hx)
 have hkk:∀x ∈ n.kids,∀y ∈ x.kids,BS 205 p y:=λx hx y hy=>hp y (Nat.lt_trans (CT hy) (CT hx))
 have hd:∀x ∈ n.kids.drop 1,BS 205 p x:=λx hx=>U x (List.mem_of_mem_drop hx)
 refine pB Tryz.func205 ?_
 repeat' ((conv=>whnf);first|(refine Gv ?_;intros)|(refine Gw ?_ ?_<;>intro _)|refine Je (kinds:=[1,2,4,11,12,13,14]) ?_|refine J4 ?_|refine qM ?_|refine Je (kinds:=[1]) ?_|refine U _ ‹_› _ _ ?_|refine U3 (p:=p) Do Do U ?_|refine jF hkk ?_|refine T2 ?_|refine U2 hd ?_|refine kn U ?_)
 all_goals conv=>whnf
 all_goals (refine Ao h ?_;clear h hp U hkk hd;try simp only [Int.toNat_zero,Int.toNat_one,Int.reduceToNat] at *)
 all_goals first
  |(simp_all [DP];done)
  |(have:1<n.kids.length:=by omega
    simp_all [DP];done)
  |(have:¬1<n.kids.length:=by omega
    simp_all [DP];intros;omega)
def VR:Nat->Nd->Bool
 |0,_=>false
 |k+1,n=>DP (VR k) n
theorem size_pos (n:Nd):0<n.size:=by cases n;rw [Nd.size];omega
theorem Y2:∀(k:Nat) (n:Nd),n.size<=k->BS 205 (VR k) n
 |0,n,h=>by have:=size_pos n;omega
 |k+1,n,h=>iR λx U=>Y2 k x AC
def S3 (p:Nd->Bool) (l:List Nd):Bool:=if l.length=1 then l[0]?.any (λx=> !(x.kind==17)&&p x) else HV p 0 l
theorem kN (U:∀x ∈ l,BS 205 p x) (h:R (.ret (.bool (S3 p l))) st):H5 259 [.slice 6 (Cc l) .any] st R:=by
 refine pB Tryz.func259 ?_
 repeat' ((conv=>whnf);first|(refine Gv ?_;intros)|(refine Gw ?_ ?_<;>intro _)|refine U _ ‹_› _ _ ?_|refine kn U ?_)
 all_goals conv=>whnf
 all_goals (refine Ao h ?_;clear h U;try simp only [Int.toNat_zero,Int.toNat_one,Int.reduceToNat] at *)
 all_goals first
  |(simp_all [S3];done)
  |skip
def DW (p:Nd->Bool) (l:List Nd):Nat->List Nd->List UInt8×Bool
 |_,[]=>([],false)
 |i,x::r=>match Dq x with
  |some t=>(t,S3 p (l.take i)&&S3 p (l.drop (i+1)))
  |none=>DW p l (i+1) r
def BE (p:Nd->Bool) (q:Nd->List UInt8×Bool) (n:Nd):List UInt8×Bool:=
 if n.kind=11 then
  if 2<=n.kids.length then (if ET p (n.kids.drop 1) then (match n.kids[0]? with
   |none=>([],false)
   |some f=>if f.kind=4 then (match Bs f [40] [41] with|some l=>if l.length=1 then (match l[0]? with|some x=>q x|none=>([],false)) else ([],false)|none=>([],false))
    else match Br f with|some t=>(t,true)|none=>([],false)) else ([],false)) else ([],false)
 else if n.kind=17 then DW p n.kids 0 n.kids
 else ([],false)
theorem Vq {f:List UInt8×Bool} {b:Bool} (h:f=(t,b)):AL.ret (.Bh [.str f.1,.bool f.2])=(AL.ret (.Bh [.str t,.bool b])).wk:=by subst h;rfl
def X9 (q:Nd->List UInt8×Bool) (x:Nd):Prop:=∀(st:St) (R:AL->St->Prop),R (.ret (.Bh [.str (q x).1,.bool (q x).2])) st->H5 204 [enc x] st R
theorem RZ {q:Nd->List UInt8×Bool} (hp:∀x,x.size<n.size->BS 205 p x) (hq:∀x,x.size<n.size->X9 q x):X9 (BE p q) n:=by
 intro st R h
 have hk:∀x ∈ n.kids,BS 205 p x:=λx U=>hp x (CT U)
 have hd:∀x ∈ n.kids.drop 1,BS 205 p x:=λx U=>hk x (List.mem_of_mem_drop U)
 refine pB Tryz.func204 ?_
 repeat' ((conv=>whnf);first|(refine Gv ?_;intros)|(refine Gw ?_ ?_<;>intro _)|refine U2 hd ?_|refine I8 (λl hl=>?_) (λhl=>?_)|refine MB (λl hl=>?_) (λhl=>?_)|refine hq _ (Nat.lt_trans (CT (Mk ‹_› _ ‹_›)) (CT ‹_›)) _ _ ?_)
 all_goals try (refine Lj 63 [1,61,62] [0] n.kids.length (λk=>k<=n.kids.length/\DW p n.kids 0 n.kids=DW p n.kids k (n.kids.drop k)) ⟨Nat.zero_le _,rfl⟩ Yl ?_;rintro k ⟨hkl,hi⟩)
 repeat' ((conv=>whnf);first|(refine Gv ?_;intros)|(refine Gw ?_ ?_<;>intro _)|refine l7 (λl hl=>?_) (λhl=>?_)|refine kN (λx U=>hk x (List.mem_of_mem_take (List.mem_of_mem_drop U))) ?_|refine kN (λx U=>hk x (List.mem_of_mem_drop U)) ?_)
 all_goals conv=>whnf
 all_goals first
  |refine AZ ?_ h
  |(refine ⟨k+1,⟨AC,?_⟩,AC,Yl,St.le_refl _⟩)
  |skip
 all_goals clear h hp hq hk hd
 all_goals try (have e:=drop_at ‹n.kids[Int.toNat k]? =some _›;rw [Int.toNat_natCast] at e;rw [e,DW] at hi;clear e)
 all_goals try simp only [Int.toNat_zero,Int.toNat_one,Int.reduceToNat,Int.toNat_natCast] at *
 all_goals first
  |(simp_all;done)
  |refine Vq ?_
 .have:¬2<=n.kids.length:=AC
  simp [BE, *]
 all_goals try have g:2<=n.kids.length:=AC
 .rename_i x _ _ y _ _ _
  have e:BE p q n=q y:=by simp_all [BE]
  rw [e];exact Prod.ext rfl ‹_›
 .rename_i x _ _ y _ _ _
  have e:BE p q n=q y:=by simp_all [BE]
  rw [e];exact Prod.ext rfl ‹_›
 all_goals try (rw [List.drop_eq_nil_of_le AC,DW] at hi)
 all_goals simp_all [BE]
def ic:Nat->Nd->List UInt8×Bool
 |0,_=>([],false)
 |k+1,n=>BE (VR k) (ic k) n
theorem QP:∀(k:Nat) (n:Nd),n.size<=k->X9 (ic k) n
 |0,n,h=>by have:=size_pos n;omega
 |k+1,n,h=>RZ (λx U=>Y2 k x AC) λx U=>QP k x AC
end
section
variable {st:St} {R:AL->St->Prop}
def G4 (n:Nd):Bool:=VR n.size n
theorem Y1:BS 205 G4 n:=λst R h=>Y2 n.size n (Nat.le_refl _) st R h
def NQ (n:Nd):Int:=if G4 n then 0 else 120
theorem ga (h:R (.ret (.int .i64 (NQ n))) st):H5 173 [enc n] st R:=by
 refine pB Tryz.func173 ?_
 repeat' ((conv=>whnf);first|(refine Gv ?_;intros)|(refine Gw ?_ ?_<;>intro _)|refine Y1 _ _ ?_)
 all_goals conv=>whnf
 all_goals (refine fin h ?_;clear h;simp_all [NQ])
def TX (n:Nd):Int×List UInt8×Int:=
 if (ic n.size n).2 then (1,(ic n.size n).1,0) else if G4 n then (2,[],0) else (0,[],120)
theorem Vr {f:Int×List UInt8×Int} {b c:Int} (h:f=(b,t,c)):AL.ret (.Bh [.int .i64 f.1,.str f.2.1,.int .i64 f.2.2])=(AL.ret (.Bh [.int .i64 b,.str t,.int .i64 c])).wk:=by subst h;rfl
theorem s7 (h:R (.ret (.Bh [.int .i64 (TX n).1,.str (TX n).2.1,.int .i64 (TX n).2.2])) st):H5 139 [enc n] st R:=by
 refine pB Tryz.func139 ?_
 repeat' ((conv=>whnf);first|(refine Gv ?_;intros)|(refine Gw ?_ ?_<;>intro _)|refine QP _ n (Nat.le_refl _) _ _ ?_|refine Y1 _ _ ?_)
 all_goals conv=>whnf
 all_goals (refine AZ ?_ h;clear h;refine Vr ?_;simp_all [TX])
def Fg (q:Nd->List (List UInt8)) (field:Bool):Nat->List Nd->List (List UInt8)
 |_,[]=>[]
 |i,x::r=>(if 0<i\/field=false then q x else [])++Fg q field (i+1) r
def Cv (q:Nd->List (List UInt8)) (n:Nd):List (List UInt8):=
 match Br n with
 |some s=>[s]
 |none=>if n.kind=18\/n.kind=19 then [] else Fg q (n.kind==13) 0 n.kids
def Ya (q:Nd->List (List UInt8)) (x:Nd):Prop:=∀(l:List (List UInt8)) (own:AF) (st:St) (R:AL->St->Prop),l.length+(q x).length<=1000000000->own.BH st->
 (∀U:AF,U.BH st->R (.ret (.slice 1 (strs (l++q x)) U)) (U.st st (l++q x).length))->H5 301 [.slice 1 (strs l) own,enc x] (own.st st l.length) R
attribute [local irreducible] Go.Aw.Ag
theorem Y5 {q:Nd->List (List UInt8)} (hq:∀x,x.size<n.size->Ya q x):Ya (Cv q) n:=by
 intro l own st R hb ho h
 refine pB Tryz.func301 ?_
 repeat' ((conv=>whnf);first|(refine Gv ?_;intros)|(refine Gw ?_ ?_<;>intro _)|refine MB (λt ht=>?_) (λht=>?_)|refine OY (new:=[_]) ho ?_ (λown' ho'=>?_))
 .have e:Cv q n=[t]:=by simp [Cv,ht]
  rw [e] at hb;exact hb
 .conv=>whnf
  have e:Cv q n=[t]:=by simp [Cv,ht]
  rw [e] at h
  exact fin (h own' ho') rfl
 .conv=>whnf
  have e:Cv q n=[]:=by simp [Cv, *]
  rw [e,List.append_nil] at h
  exact fin (h own ho) rfl
 .conv=>whnf
  have e:Cv q n=[]:=by simp [Cv, *]
  rw [e,List.append_nil] at h
  exact fin (h own ho) rfl
 .have e:Cv q n=Fg q (n.kind==13) 0 n.kids:=by simp [Cv, *]
  rw [e] at h hb
  conv=>whnf
  refine Mm (α:=Nat×AF×List (List UInt8)) (λx=>[(31,.int .i64 (x.1:Int)),(0,.slice 1 (strs x.2.2) x.2.1)]) [3,29,30] [0] (λx=>AF.st st x.2.2.length x.2.1)
   (λx=>x.1<=n.kids.length/\AF.BH st x.2.1/\l++Fg q (n.kind==13) 0 n.kids=x.2.2++Fg q (n.kind==13) x.1 (n.kids.drop x.1)) (λx=>n.kids.length - x.1) (0,own,l) ⟨Nat.zero_le _,ho,rfl⟩ Yl (St.le_refl _) ?_
  rintro ⟨k,own1,U⟩ ⟨hk,ho1,hi⟩
  simp only at hk ho1 hi
  have hlen:=congrArg List.length hi
  simp only [List.length_append] at hlen
  repeat' ((conv=>whnf);first|(refine Gv ?_;intros)|(refine Gw ?_ ?_<;>intro _)|refine hq _ (CT ‹_›) U own1 st _ ?_ ho1 (λown2 ho2=>?_))
  all_goals try conv=>whnf
  all_goals try (have e:=drop_at ‹n.kids[_]? =some _›;simp only [Int.toNat_natCast] at e;rw [e,Fg] at hi hlen;clear e)
  all_goals simp only [Int.toNat_natCast] at *
  .rw [if_pos (.inl AC)] at hlen
   rw [List.length_append] at hlen
   show U.length+_<=1000000000
   omega
  .refine ⟨(k+1,own2,U++_),⟨by show k+1<=_;omega,ho2,?_⟩,by show _ - (k+1)<_ - k;omega,Yl,St.le_refl _⟩
   rw [if_pos (.inl AC)] at hi
   rw [hi,List.append_assoc]
  .refine ⟨(k+1,own1,U),⟨by show k+1<=_;omega,ho1,?_⟩,by show _ - (k+1)<_ - k;omega,Yl,St.le_refl _⟩
   rw [if_neg (by rintro (g|g)<;>first|omega|simp_all)] at hi
   rw [hi];rfl
  .have g:(n.kind==13)=false:=lc
   rw [if_pos (.inr g),List.length_append] at hlen
   show U.length+_<=1000000000
   omega
  .refine ⟨(k+1,own2,U++_),⟨by show k+1<=_;omega,ho2,?_⟩,by show _ - (k+1)<_ - k;omega,Yl,St.le_refl _⟩
   have g:(n.kind==13)=false:=lc
   rw [if_pos (.inr g)] at hi
   rw [hi,List.append_assoc]
  .rw [List.drop_eq_nil_of_le AC,Fg,List.append_nil] at hi
   rw [hi] at h
   exact fin (h own1 ho1) rfl
def FQ:Nat->Nd->List (List UInt8)
 |0,_=>[]
 |k+1,n=>Cv (FQ k) n
theorem VX:∀(k:Nat) (n:Nd),n.size<=k->Ya (FQ k) n
 |0,n,h=>by have:=size_pos n;omega
 |k+1,n,h=>Y5 λx U=>VX k x AC
def GG (n:Nd):List (List UInt8)×Int:=if G4 n then (FQ n.size n,0) else ([],120)
theorem dC (hb:(FQ n.size n).length<=1000000000) (h:R (.ret (.Bh [.slice 1 (strs (GG n).1) .any,.int .i64 (GG n).2])) st):H5 251 [enc n] st R:=by
 refine pB Tryz.func251 ?_
 repeat' ((conv=>whnf);first|(refine Gv ?_;intros)|(refine Gw ?_ ?_<;>intro _)|refine Y1 _ _ ?_|refine VX _ n (Nat.le_refl _) [] .full st _ ?_ trivial (λown2 U=>?_))
 all_goals try conv=>whnf
 .show 0+_<=_
  omega
 .have e:GG n=(FQ n.size n,0):=by simp_all [GG]
  rw [e] at h
  exact ⟨_,st,.inr rfl,AF.Ba U,h⟩
 .have e:GG n=([],120):=by simp_all [GG]
  rw [e] at h
  exact AZ rfl h
end
section
variable {st:St} {R:AL->St->Prop}
def CP (n:Nd) (k:Int):Bool:=n.kind==1&&n.form==k
theorem Ho {k:Int}:Ey n [k]=CP n k:=by
 simp only [Ey,CP,List.contains_cons,List.contains_nil,Bool.or_false]
theorem GS {j k:Int}:Ey n [j,k]=(CP n j||CP n k):=by
 simp only [Ey,CP,List.contains_cons,List.contains_nil,Bool.or_false]
 cases n.kind==1<;>rfl
theorem HX {k:Int}:B9 n k t=(CP n k&&n.text==t):=by simp [B9,Ho]
theorem SF:EJ n=if n.kind=3/\n.kids.length=3/\n.kids[0]?.any (B9 · 15 [40])=true/\n.kids[2]?.any (B9 · 15 [41])=true then n.kids[1]? else none:=by
 unfold EJ
 by_cases hk:n.kind=3
 .rw [if_pos hk]
  by_cases h3:n.kids.length=3
  .have e2:3 - 1=2:=rfl
   simp only [Bs,h3,hk,true_and,e2]
   have e:(2<=3/\n.kids[0]?.any (B9 · 15 [40])=true/\n.kids[2]?.any (B9 · 15 [41])=true)↔(n.kids[0]?.any (B9 · 15 [40])=true/\n.kids[2]?.any (B9 · 15 [41])=true):=⟨λh=>h.2,λh=>⟨AC,h⟩⟩
   simp only [e]
   split
   .rename_i l U
    split at U
    .cases U
     rename_i g
     rw [if_pos g,if_pos (by simp [h3])]
     simp [List.getElem?_take]
    .cases U
   .rename_i U
    split at U
    .cases U
    .rename_i g;rw [if_neg g]
  .rw [if_neg (λh=>h3 h.2.1)]
   cases hf:Bs n [40] [41] with
   |none=>rfl
   |some l=>
    have:=Mj hf
    exact if_neg AC
 .rw [if_neg hk,if_neg (λh=>hk h.1)]
theorem Gn {k:Int} (h:R (.ret (.bool (CP n k))) st):H5 180 [enc n,.int .i64 k] st R:=by
 refine pB Tryz.func180 ?_
 repeat' ((conv=>whnf);first|(refine Gv ?_;intros)|(refine Gw ?_ ?_<;>intro _)|fail)
 all_goals conv=>whnf
 all_goals (refine Ao h ?_;clear h;simp_all [CP])
theorem Gp (h:R (.ret (.bool (B9 n 15 t))) st):H5 216 [enc n,.str t] st R:=by
 refine pB Tryz.func216 ?_
 repeat' ((conv=>whnf);first|(refine Gv ?_;intros)|(refine Gw ?_ ?_<;>intro _)|refine Gn ?_)
 all_goals conv=>whnf
 all_goals (refine Ao h ?_;clear h;simp_all [HX])
theorem Zq (h:R (.ret (.bool (Ey n [11,12,13,14]))) st):H5 182 [enc n] st R:=by
 refine pB Tryz.func182 ?_
 repeat' ((conv=>whnf);first|(refine Gv ?_;intros)|(refine Gw ?_ ?_<;>intro _)|refine Gn ?_)
 all_goals conv=>whnf
 all_goals (refine Ao h ?_;clear h;simp_all [Ey,CP])
theorem Xd (U:∀x,EJ n=some x->R (.ret (.Bh [enc x,.bool true])) st) (hn:EJ n=none->R (.ret (.Bh [enc FV,.bool false])) st):H5 238 [enc n] st R:=by
 refine pB Tryz.func238 ?_
 repeat' ((conv=>whnf);first|(refine Gv ?_;intros)|(refine Gw ?_ ?_<;>intro _)|refine Gp ?_)
 all_goals conv=>whnf
 all_goals try simp only [Int.toNat_zero,Int.toNat_one,Int.reduceToNat] at *
 all_goals first
  |exact AZ rfl (U _ (by clear U hn;simp_all [SF];done))
  |exact AZ rfl (hn (by clear U hn;simp_all [SF];done))
theorem KU (U:∀t,Br n=some t->R (.ret (.Bh [.str t,.bool true])) st) (hn:Br n=none->R (.ret (.Bh [.str [],.bool false])) st):H5 183 [enc n] st R:=by
 refine pB Tryz.func183 ?_
 repeat' ((conv=>whnf);first|(refine Gv ?_;intros)|(refine Gw ?_ ?_<;>intro _)|refine Xd (λl hl=>?_) (λhl=>?_)|refine Gn ?_)
 all_goals conv=>whnf
 all_goals first
  |exact AZ rfl (U _ (by clear U hn;simp_all [Br,Ho];done))
  |exact AZ rfl (hn (by clear U hn;simp_all [Br,Ho];done))
theorem WU (h:R (.ret (.bool (GW n))) st):H5 239 [enc n] st R:=by
 refine pB Tryz.func239 ?_
 repeat' ((conv=>whnf);first|(refine Gv ?_;intros)|(refine Gw ?_ ?_<;>intro _)|refine Gn ?_)
 all_goals conv=>whnf
 all_goals (refine Ao h ?_;clear h;simp_all [GW,GS,HX])
theorem Xe (h:R (.ret (.bool (Gh n))) st):H5 181 [enc n] st R:=by
 refine pB Tryz.func181 ?_
 repeat' ((conv=>whnf);first|(refine Gv ?_;intros)|(refine Gw ?_ ?_<;>intro _)|refine Xd (λl U=>?_) (λU=>?_)|refine Gn ?_|refine WU ?_)
 all_goals conv=>whnf
 all_goals (refine Ao h ?_;clear h;simp_all [Gh,GS])
def DH (n:Nd):Int×List UInt8:=
 if n.kind=18/\DY n=true then (1,(Bf n).1.text) else match Dq n with|some t=>(2,t)|none=>(0,[])
theorem dd {f:Int×List UInt8} {b:Int} (h:f=(b,t)):AL.ret (.Bh [.int .i64 f.1,.str f.2])=(AL.ret (.Bh [.int .i64 b,.str t])).wk:=by subst h;rfl
theorem dP {x y z:Nd} (h0:n.kids[0]? =some x) (h1:n.kids[1]? =some y) (h2:n.kids[2]? =some z) (U:n.kids.length=3) (h:B9 x 15 [96]=true) (k:B9 z 15 [96]=true) (hk:n.kind=18):Bf n=(y,true):=by
 obtain ⟨_,e0⟩:=List.getElem?_eq_some_iff.1 h0
 obtain ⟨_,e1⟩:=List.getElem?_eq_some_iff.1 h1
 obtain ⟨_,e2⟩:=List.getElem?_eq_some_iff.1 h2
 have:Bs n [96] [96]=some ((n.kids.take 2).drop 1):=by
  simp [Bs,U,e0,e2,h,k]
 simp [Bf,hk,U,this,e1]
theorem O0 {x z:Nd} (h0:n.kids[0]? =some x) (h2:n.kids[2]? =some z) (U:n.kids.length=3) (h:¬(B9 x 15 [96]=true/\B9 z 15 [96]=true)):Bf n=(FV,false):=by
 have:Bs n [96] [96]=none:=by
  simp only [Bs,U,h0]
  rw [if_neg]
  rintro ⟨_,g1,g2⟩
  simp only [h2,Option.any_some,show 3 - 1=2 from rfl] at g1 g2
  exact h ⟨g1,g2⟩
 simp [Bf,U,this]
theorem P4:GW FV=false/\Ey FV [2,4]=false/\Ey FV [1]=false/\Ey FV [5]=false:=⟨rfl,rfl,rfl,rfl⟩
theorem ON (h:R (.ret (.Bh [.int .i64 (DH n).1,.str (DH n).2])) st):H5 217 [enc n] st R:=by
 refine pB Tryz.func217 ?_
 repeat' ((conv=>whnf);first|exact uP|(refine Gv ?_;intros)|(refine uQ ?_ ?_ ?_;rotate_left)|(refine Gw ?_ ?_<;>intro _)|refine WU ?_|refine Gn ?_|refine Gp ?_|with_reducible refine WF ?_)
 all_goals conv=>whnf
 all_goals (refine AZ ?_ h;clear h;refine dd ?_)
 all_goals try simp only [Int.toNat_zero,Int.toNat_one,Int.reduceToNat] at *
 .rename_i x hx _ U
  have e:Bf n=(x,false):=by simp_all [Bf]
  simp_all [DH,DY]
 .rename_i x hx _ U ho
  have e:Bf n=(x,false):=by simp_all [Bf]
  simp_all [DH,DY,Dq,Ho]
 .rename_i x hx _ U ho
  have e:Bf n=(x,false):=by simp_all [Bf]
  simp_all [DH,DY,Dq,Ho]
 all_goals try (have e:=dP ‹n.kids[0]? =_› ‹n.kids[1]? =_› ‹n.kids[2]? =_› ‹_› ‹_› ‹_› ‹_›;simp_all [DH,DY,Dq,Ho,GS];done)
 .have e:=O0 ‹n.kids[0]? =_› ‹n.kids[2]? =_› ‹_› lc
  simp [DH,DY,Dq,e,P4]
 .have hl:n.kids.length=3:=‹_›
  have e:=O0 (n:=n) ‹n.kids[0]? =_› (List.getElem?_eq_getElem AC) hl lc
  simp [DH,DY,Dq,e,P4]
 .have e:Bf n=(FV,false):=by simp_all [Bf]
  simp [DH,DY,Dq,e,P4]
 .have e:Bf n=(FV,false):=by simp_all [Bf]
  simp [DH,DY,Dq,e,P4]
end
section
variable {st:St} {R:AL->St->Prop}
def L9 (x:Nd):Bool:=B9 x 15 [44]
def FP (n:Nd):List Nd:=(n.kids.take (n.kids.length - 1)).drop 1
def Dg (n:Nd) (t:List UInt8):Bool:=n.kids[0]?.any (B9 · 15 t)
def Fq (n:Nd) (t:List UInt8):Bool:=n.kids[n.kids.length - 1]?.any (B9 · 15 t)
theorem GF:Bs n o s=if 2<=n.kids.length/\Dg n o=true/\Fq n s=true then some (FP n) else none:=rfl
theorem EI (h:2<=n.kids.length):(FP n).length=n.kids.length - 2:=by
 simp [FP];omega
theorem M8 {i:Nat} (h:i+2<n.kids.length):(FP n)[i]? =n.kids[i+1]? :=by
 unfold FP
 rw [List.getElem?_drop,List.getElem?_take,if_pos AC,Nat.add_comm]
theorem hI (h:Dg n o=true) (U:o≠s):Dg n s=false:=by
 unfold Dg at *
 cases hx:n.kids[0]? with
 |none=>rfl
 |some x=>
  rw [hx] at h
  simp only [Option.any_some,HX,Bool.and_eq_true,beq_iff_eq] at h |-
  rw [h.2]
  simp [U]
theorem UQ {q:Nd->Bool}:∀{l:List Nd},l.any (λx=> !q x)= !Iu q l
 |[]=>rfl
 |x::r=>by rw [List.any_cons,Iu,UQ];cases q x<;>rfl
theorem lM {q:Nd->Bool} {k:Nat} {x:Nd} (h:l[k]? =some x):Iu q (l.drop k)=(q x&&Iu q (l.drop (k+1))):=by rw [drop_at h];rfl
theorem fq {q:Nd->Bool} {k:Nat} (h:l.length<=k):Iu q (l.drop k)=true:=by rw [List.drop_eq_nil_of_le h];rfl
def ZY (n:Nd):Bool:=match Bs n [91] [93] with|some l=>l.isEmpty|none=>match Bs n [40] [41] with|some l=> !l.any λx=> !B9 x 15 [44]|none=>false
theorem fH:ZY n=(decide (2<=n.kids.length)&&((Dg n [91]&&Fq n [93]&&n.kids.length==2)||(Iu L9 (FP n)&&Dg n [40]&&Fq n [41]))):=by
 unfold ZY
 rw [GF,GF]
 by_cases U:2<=n.kids.length
 .have hm:=EI U
  cases h91:Dg n [91] with
  |true=>
   rw [hI h91 Do]
   cases Fq n [93] with
   |false=>simp [U]
   |true=>
    simp only [U,decide_true,true_and,and_self,if_true,Bool.true_and,Bool.and_true,Bool.and_false,Bool.false_and,Bool.or_false]
    rw [show (FP n).isEmpty=((FP n).length==0) by cases FP n<;>rfl,hm]
    by_cases h:n.kids.length=2
    .simp [h]
    .have:¬n.kids.length - 2=0:=AC
     rw [beq_eq_false_iff_ne.2 this,beq_eq_false_iff_ne.2 h]
  |false=>
   have e:(λx=>B9 x 15 [44])=L9:=rfl
   cases h40:Dg n [40]<;>cases h41:Fq n [41]<;>simp [U,UQ,e]
 .simp only [U,false_and,if_false,decide_false,Bool.false_and]
theorem nY (hk:n.kind=3) (h:R (.ret (.bool (ZY n))) st):H5 184 [enc n] st R:=by
 refine pB Tryz.func184 ?_
 repeat' ((conv=>whnf);first|(refine Gv ?_;intros)|(refine Gw ?_ ?_<;>intro _)|refine Gp ?_)
 all_goals try (refine q7 4 1 [1,3] [0] n.kids.length (λk=>1<=k/\k<=n.kids.length - 1/\Iu L9 (FP n)=Iu L9 ((FP n).drop (k - 1))) ⟨AC,AC,rfl⟩ Yl ?_;rintro k ⟨U,hk2,hi⟩)
 repeat' ((conv=>whnf);first|(refine Gv ?_;intros)|(refine Gw ?_ ?_<;>intro _)|refine Gp ?_)
 all_goals try conv=>whnf
 all_goals try simp only [Int.toNat_zero,Int.toNat_one,Int.reduceToNat,Int.toNat_natCast] at *
 all_goals try (have hm:(FP n)[k - 1]? =n.kids[k]? :=(M8 AC).trans (by rw [Nat.sub_add_cancel U]))
 all_goals try (have ha:=lM (q:=L9) (l:=FP n) (k:=k - 1) (hm.trans ‹n.kids[k]? =_›);rw [Nat.sub_add_cancel U] at ha;rw [ha] at hi;clear ha)
 all_goals first
  |(refine ⟨k+1,⟨AC,AC,?_⟩,AC,Yl,St.le_refl _⟩;clear h;simp_all [L9];done)
  |refine Ao h ?_
 all_goals clear h
 all_goals rw [fH]
 all_goals have hl:((n.kids.length:Int) - 1).toNat=n.kids.length - 1:=AC
 all_goals try simp only [hl] at *
 all_goals try (rw [fq (l:=FP n) (k:=k - 1) (by rw [EI AC];omega)] at hi)
 all_goals first
  |(have h2:¬2<=n.kids.length:=by omega
    rw [decide_eq_false h2];rfl)
  |(have h2:2<=n.kids.length:=by omega
    simp_all [Dg,Fq,L9];done)
theorem jv (U:∀x ∈ l,BS 129 p x) (h:R (.ret (.bool (Iu (FD p) l))) st):H5 187 [.slice 6 (Cc l) .any] st R:=by
 refine pB Tryz.func187 ?_
 repeat' ((conv=>whnf);first|(refine Gv ?_;intros)|(refine Gw ?_ ?_<;>intro _)|refine Gn ?_)
 refine N1 3 [0] l.length (λk=>k<=l.length/\Iu (FD p) l=Iu (FD p) (l.drop k)) ⟨Nat.zero_le _,rfl⟩ Yl ?_
 rintro k ⟨hk,hi⟩
 repeat' ((conv=>whnf);first|(refine Gv ?_;intros)|(refine Gw ?_ ?_<;>intro _)|refine U _ ‹_› _ _ ?_)
 all_goals conv=>whnf
 all_goals try (have e:=drop_at ‹l[Int.toNat k]? =some _›;rw [Int.toNat_natCast] at e;rw [e,Iu] at hi;clear e)
 all_goals first
  |(refine ⟨k+1,⟨AC,?_⟩,AC,Yl,St.le_refl _⟩;clear h;simp_all [FD];done)
  |(refine Ao h ?_;clear h;simp_all [FD];done)
  |(refine Ao h ?_;clear h;rw [List.drop_eq_nil_of_le AC] at hi;simp_all [Iu];done)
theorem Xf (hk:n.kind=18):((DH n).1=1↔DY n=true):=by
 unfold DH
 by_cases U:DY n=true
 .simp [hk,U]
 .rw [if_neg (λx=>U x.2)]
  cases Dq n<;>simp [U]
theorem YZ (h:DY n=true):n.kind=18:=by
 by_cases U:n.kind=18
 .exact U
 .have:Bf n=(FV,false):=by simp [Bf,U]
  rw [DY,this] at h
  exact absurd h Do
theorem Us:(DH n).1=1↔DY n=true:=by
 by_cases U:n.kind=18
 .exact Xf U
 .constructor
  .intro h
   unfold DH at h
   rw [if_neg (λx=>U x.1)] at h
   cases hb:Dq n<;>rw [hb] at h<;>simp at h
  .intro h;exact absurd (YZ h) U
theorem Jf {x:Nd} {k:Int} (h:CP x k=true):x.kind=1:=by
 simp only [CP,Bool.and_eq_true,beq_iff_eq] at h;exact h.1
theorem bR (U:∀x ∈ l,BS 129 p x) (hn:∀x ∈ l,CP x 11=true\/CP x 12=true->p x=true) (h:R (.ret (.bool (HV p 0 l))) st):H5 188 [.slice 6 (Cc l) .any] st R:=by
 refine pB Tryz.func188 ?_
 repeat' ((conv=>whnf);first|(refine Gv ?_;intros)|(refine Gw ?_ ?_<;>intro _)|refine Gn ?_)
 refine N1 3 [0] l.length (λk=>k<=l.length/\HV p 0 l=HV p 0 (l.drop k)) ⟨Nat.zero_le _,rfl⟩ Yl ?_
 rintro k ⟨hk,hi⟩
 repeat' ((conv=>whnf);first|(refine Gv ?_;intros)|(refine Gw ?_ ?_<;>intro _)|refine Gn ?_|refine U _ ‹_› _ _ ?_|refine ON ?_)
 all_goals conv=>whnf
 all_goals try (exfalso;omega)
 all_goals try simp only [uq,ur,uu,sv,tV,Int.toNat_natCast,Nat.zero_add,Nat.reduceAdd,Us] at *
 all_goals try (have e:=kf (p:=p) ‹l[k]? =some _›;rw [e] at hi;clear e)
 all_goals (try have e1:=ki (p:=p) ‹l[k+1]? =some _›)
 all_goals (try have e2:=SX (p:=p) ‹l[k+1]? =some _›)
 all_goals (try have e3:=SX (p:=p) ‹l[k+2]? =some _›)
 all_goals (try have f0:=Kh (p:=p) (s:=0) (l:=l) (k:=k) AC)
 all_goals (try have f1:=Kh (p:=p) (s:=1) (l:=l) (k:=k+1) AC)
 all_goals (try have f2:=Kh (p:=p) (s:=2) (l:=l) (k:=k+1) AC)
 all_goals (try have f3:=Kh (p:=p) (s:=2) (l:=l) (k:=k+2) AC)
 all_goals (try have g1:=hn _ ‹_ ∈ l› (.inl ‹CP _ 11=true›))
 all_goals (try have g2:=hn _ ‹_ ∈ l› (.inr ‹CP _ 12=true›))
 all_goals (try have g3:=Jf ‹CP _ 11=true›)
 all_goals (try have g4:=Jf ‹CP _ 12=true›)
 all_goals try simp only [Nat.zero_add,Nat.reduceAdd] at *
 all_goals first
  |(refine Ao h ?_;clear h U hn;simp_all [GS];done)
  |(refine ⟨k+3,⟨AC,?_⟩,AC,Yl,St.le_refl _⟩;clear h U hn;simp_all [GS];done)
  |(refine ⟨k+2,⟨AC,?_⟩,AC,Yl,St.le_refl _⟩;clear h U hn;simp_all [GS];done)
end
end Go.Proofs.Z
