/-
  Parts of a proof: lemmas that the last text uses.
-/
import Derived.Test.YtkidoddkbhchkaaGreatDoorS1
import Derived.Recover
import Derived.IntWalk
import Derived.Shelf.Strings.Builder1
import Derived.Shelf.Strings.Builder2
import Derived.Shelf.Strings.OnBuilder
import Derived.Shelf.Strings.Trim
import Derived.Shelf.Small.Utf8
import Derived.Shelf.Small.Strs
import Derived.Shelf.Strings.BuilderF
import Derived.Shelf.Strings.Builder2Cap
import Derived.Shelf.Strings.Search1
import Derived.Shelf.Strings.Search2
import Derived.Shelf.Strings.Search3
import Derived.Shelf.LaysM
import Derived.Shelf.Strings.Shaped
import Derived.Shelf.GgClosure.StringsIndexFunc
import Derived.Ground.GgwProg
import Derived.Shelf.GgClosure.StringsIndexFuncTop
import Derived.Shelf.GgClosure.StringsRunes
import Derived.Shelf.Strings.Prefix
import Derived.Shelf.Strings.Fields
import Derived.Shelf.Strings.SplitShaped
import Derived.Shelf.Unicode.Latin
import Derived.Shelf.Unicode.Decode
import Derived.Shelf.Strings.Runes
import Derived.Shelf.Strings.AsciiSet
import Derived.Shelf.Unicode.DecodeSlow
import Derived.Shelf.Unicode.DecodeAny
import Derived.Shelf.Unicode.Is16White
import Derived.Shelf.Unicode.IsSpaceAny
import Derived.Shelf.Unicode.DecodeLast
import Derived.Shelf.Unicode.Is16Any
import Derived.Shelf.Unicode.Is32Any
import Derived.Shelf.Unicode.ExclAny
import Derived.Shelf.Strings.FuncGrows
import Derived.Shelf.Slices.Turned
import Derived.Ground.Names2Prog
import Derived.Shelf.Slices.Clone
import Derived.Ground.SlgnProg
import Derived.Shelf.SlicesE.Clone
import Derived.Test.YtkidoddkbhchkaaGreatDoorProg
import Derived.Below
set_option linter.unusedVariables false
set_option linter.unusedSimpArgs false
namespace Go.Aw
open Go
section
variable {D:List Deferred} {P:Program} {T:List (Nat×Ty)} {C:FuncId→List V→St→(Res→St→Prop)→Prop} {I0 I:Mem} {st0 st:St} {w0 w:World} {β:Nat→Option Nat} {env:Env} {a:Act}
def closedP (all:List Oper) (PL:List (List Bool×Nat)):Bool:=
 ((List.range all.length).all fun j=> !(readyL all (List.replicate all.length false) j)||PL.contains (List.replicate all.length false,j))&&
 ((List.replicate all.length false==List.replicate all.length true)||(List.range all.length).any fun j=>readyL all (List.replicate all.length false) j)&&
 PL.all fun p=>(p.1.length==all.length)&&((List.range all.length).all fun j=> !(readyL all (p.1.set p.2 true) j)||PL.contains (p.1.set p.2 true,j))&&
  ((p.1.set p.2 true==List.replicate all.length true)||(List.range all.length).any fun j=>readyL all (p.1.set p.2 true) j)
def stepP (T:List (Nat×Ty)) (C:FuncId→List V→St→(Res→St→Prop)→Prop) (all:List Oper) (Q:AExit→Env→St→Prop) (E:List Bool→Env) (S:List Bool→St) (p:List Bool×Nat):Prop:=
 match all[p.2]? with
 |some o=>guardWp all o (E p.1) (opWp T C o (E p.1) (S p.1) (fun v env st=>env.go o.dst v fun env=>(E (p.1.set p.2 true)).leC env∧St.le (S (p.1.set p.2 true)) st) Q)
   ((E p.1).go o.dst (.tup []) fun env=>(E (p.1.set p.2 true)).leC env∧St.le (S (p.1.set p.2 true)) (S p.1))
 |none=>True
theorem Xi2 (hT:TOk P T) (hC:∀f args st R,C f args st R→ACalls P f args st R∧Plain P f) {all:List Oper} {Q:AExit→Env→St→Prop} {E:List Bool→Env} {S:List Bool→St} {PL:List (List Bool×Nat)}
 (hc:closedP all PL=true) (step:∀p ∈ PL,stepP T C all Q E S p) (fin:Q .normal (E (List.replicate all.length true)) (S (List.replicate all.length true))):
 ∀(fuel:Nat) (bs:List Bool) (listed:Array Bool) (I:Mem) (β:Nat→Option Nat) (a:Act) (w:World),bs.length=all.length→listed.toList=bs→bs.count false≤fuel→
  (∀j,j<all.length→readyL all bs j=true→(bs,j) ∈ PL)→(bs=List.replicate all.length true∨∃j,j<all.length∧readyL all bs j=true)→
  Rel D I0 st0 w0 I β (E bs) (S bs) a w→wpAny P .any all.toArray (liftQ D I0 st0 w0 Q) fuel listed a w:=by
 have full:∀{bs:List Bool},bs.length=all.length→bs.count false=0→bs=List.replicate all.length true:=fun {bs} hb h0=>by
  rw [List.eq_replicate_iff]
  refine ⟨hb,fun b hb=>?_⟩
  cases b with
  |true=>rfl
  |false=>have:=List.count_pos_iff.2 hb;omega
 have noready:∀{j:Nat},readyL all (List.replicate all.length true) j=true→j<all.length→False:=fun {j} h hj=>by
  unfold readyL at h
  simp only [Bool.and_eq_true,Bool.not_eq_true'] at h
  have:=h.1
  rw [List.getD_eq_getElem?_getD,List.getElem?_replicate,if_pos hj] at this
  cases this
 simp only [closedP,Bool.and_eq_true,List.all_eq_true] at hc
 intro fuel
 induction fuel with
 |zero=>
  intro bs listed I β a w hb hl hf hp hr h
  have:=full hb (by omega)
  subst this
  refine ⟨?_,⟨I,β,_,_,.normal,h,trivial,fin⟩⟩
  rw [List.eq_nil_iff_forall_not_mem]
  intro j hj
  obtain ⟨h1,h2⟩:=(QY hl hb).1 hj
  exact noready h2 h1
 |succ fuel ih=>
  intro bs listed I β a w hb hl hf hp hr h
  refine ⟨fun h0=>?_,fun i hi=>?_⟩
  ·rcases hr with rfl|⟨j,h1,h2⟩
   ·exact ⟨I,β,_,_,.normal,h,trivial,fin⟩
   ·have:=(QY hl hb).2 ⟨h1,h2⟩
    rw [h0] at this;cases this
  ·obtain ⟨h1,h2⟩:=(QY hl hb).1 hi
   have hm:=hp i h1 h2
   have hs:=step _ hm
   unfold stepP at hs
   have ho:all[i]? =some all[i]:=List.getElem?_eq_getElem h1
   simp only [ho] at hs
   obtain ⟨⟨c1,c2⟩,c3⟩:=hc.2 _ hm
   refine Gh hT hC (Q:=Q) ho (fun {I β env st a w} h k=>?_) h hs (K:=fun env st=>(E (bs.set i true)).leC env∧St.le (S (bs.set i true)) st)
   ·have hbi:i<bs.length:=by omega
    refine ih (bs.set i true) _ I _ a w (by simpa using hb) (by simp [hl]) ?_ (fun j hj hr=>?_) ?_ ((h.stLe k.2).envLe (Env.UH k.1))
    ·have:=List.count_set (a:=true) (i:=i) (l:=bs) (b:=false) hbi
     unfold readyL at h2
     simp only [Bool.and_eq_true,Bool.not_eq_true'] at h2
     have hbi':=h2.1
     rw [List.getD_eq_getElem?_getD,List.getElem?_eq_getElem hbi] at hbi'
     simp only [Option.getD_some] at hbi'
     rw [hbi'] at this
     have hpos:0<bs.count false:=List.count_pos_iff.2 (by rw [←hbi'];exact List.getElem_mem hbi)
     simp only [beq_self_eq_true,if_true,show (true==false)=false from rfl,Bool.false_eq_true,if_false] at this
     omega
    ·have:=c2 j (List.mem_range.2 hj)
     rw [hr] at this
     simpa using this
    ·simp only [Bool.or_eq_true,beq_iff_eq,List.any_eq_true] at c3
     rcases c3 with c3|⟨j,hj,hr⟩
     ·exact .inl c3
     ·exact .inr ⟨j,List.mem_range.1 hj,hr⟩
theorem XgI (hP:POk P T) (hC:∀f args st R,C f args st R→ACalls P f args st R∧Plain P f) {id:Nat} {ops:Array Oper} {Q:AExit→Env→St→Prop} (E:List Bool→Env) (S:List Bool→St) (PL:List (List Bool×Nat))
 (hc:closedP ops.toList PL=true) (h0:(E (List.replicate ops.toList.length false)).leC env) (s0:St.le (S (List.replicate ops.toList.length false)) st) (step:∀p ∈ PL,stepP T C ops.toList Q E S p)
 (fin:Q .normal (E (List.replicate ops.toList.length true)) (S (List.replicate ops.toList.length true))):AW P (.region id ops true) Q env st:=fun D I0 st0 w0 I β a w h=>
 wp_region_any hP.m (by
  have hc':=hc
  simp only [closedP,Bool.and_eq_true,List.all_eq_true] at hc'
  have:=Xi2 (D:=D) hP.t hC hc step fin ops.size (List.replicate ops.toList.length false) (Array.replicate ops.size false) I _ a _ (by simp) (by simp) (by simp) (fun j hj hr=>?_) ?_ (((h.grew (Grew.drew w)).stLe s0).envLe (Env.UH h0))
  ·simpa using this
  ·have:=hc'.1.1 j (List.mem_range.2 hj)
   rw [hr] at this
   simpa using this
  ·have:=hc'.1.2
   simp only [Bool.or_eq_true,beq_iff_eq,List.any_eq_true] at this
   rcases this with h|⟨j,hj,hr⟩
   ·exact .inl h
   ·exact .inr ⟨j,List.mem_range.1 hj,hr⟩)
end
def V.isPtr:V→Bool
 | .ptr _ _=>true
 |_=>false
theorem RepL.ptrs {I J:Mem}:∀{vs:List V} {cs:List Value},RepL I vs cs→vs.all V.isPtr=true→RepL J vs cs
 |[],cs,h,_=>by simpa only [RepL] using h
 |v::vs,cs,h,k=>by
  simp only [RepL] at h ⊢
  obtain ⟨c,r,rfl,h1,h2⟩:=h
  simp only [List.all_cons,Bool.and_eq_true] at k
  refine ⟨c,r,rfl,?_,RepL.ptrs h2 k.2⟩
  cases v<;>first|(simp only [Rep] at h1 ⊢;exact h1)|exact absurd k.1 (by simp [V.isPtr])
def DCalls (P:Program) (g:FuncId) (args:List V) (x:Option V) (st:St) (R:St→Prop):Prop:=
 ∀(I:Mem) (w:World) (cargs:List Value) (u:FrameMode),RelS I st w→RepL I args cargs→
  (match x with|none=>u=.returning|some v=>∃c,u=.panicking [{v:=c,recovered:=false}]∧Rep I v c)→
  CallsD P g cargs.toArray u w fun e u' w'=>(∃v,e=.returned v)∧settle u'=.returning∧∃I' st',Fr I st w I' st' w'∧RelS I' st' w'∧R st'
section
variable {D:List Deferred} {P:Program} {T:List (Nat×Ty)} {I0 I:Mem} {st0 st:St} {w0 w:World} {β:Nat→Option Nat} {env:Env} {a:Act}
theorem Rel.defer (h:Rel D I0 st0 w0 I β env st a w) (d:Deferred):Rel (d::D) I0 st0 w0 I β env st {a with defers:=d::a.defers} w:=
 ⟨h.fr,h.s,⟨h.f.size,h.f.tmps,h.f.box,h.f.nxt,h.f.inj,h.f.sep,by rw [←h.f.defers]⟩⟩
def retQ (T:List (Nat×Ty)) (fn:Func) (R:Res→St→Prop) (env:Env) (st:St):Prop:=
 forceRet T env st fn.results.toList fun vs=>match vs with|[v]=>R (.ret v) st|vs=>R (.ret (.tup vs)) st
def leaveQ (P:Program) (T:List (Nat×Ty)) (g:FuncId) (caps:List V) (fn:Func) (R:Res→St→Prop):AExit→Env→St→Prop
 | .normal,env,st| .ret,env,st=>DCalls P g caps none st fun st'=>retQ T fn R env st'
 | .pan v,env,st=>DCalls P g caps (some v) st fun st'=>retQ T fn R env st'
 |_,_,_=>False
def noQ:AExit→Env→St→Prop:=fun _ _ _=>False
theorem Jj {fn:Func} {args:List V} {cargs:List Value} (gl:List Nat) (hs:RelS I st w) (hargs:RepL I args cargs) (hle:Nat.ble args.length fn.ntmps=true):
 Rel [] I st w I (fun _=>none) {tmps:=args0 0 args,boxes:=[],nxt:=0,sz:=fn.ntmps,gl} st
  {tmps:=cargs.toArray++Array.replicate (fn.ntmps - cargs.toArray.size) undef,defers:=[]} w:=by
 have hle:=Nat.le_of_ble_eq_true hle
 have hlen:=RepL.length hargs
 refine Xcq hs (by simp;omega) (fun t v e=>?_) rfl rfl
 obtain ⟨_,e⟩:=Xbr e
 rw [Nat.sub_zero] at e
 obtain ⟨c',e1,e2⟩:=RepL.get hargs e
 have hlt:t<cargs.length:=by
  rcases Nat.lt_or_ge t cargs.length with h|h
  ·exact h
  ·rw [List.getElem?_eq_none h] at e1;cases e1
 have:(cargs.toArray++Array.replicate (fn.ntmps - cargs.toArray.size) undef).getD t undef=c':=by
  rw [List.getElem?_eq_getElem hlt] at e1
  injection e1 with e1
  subst e1
  simp [Array.getD,Array.getElem_append,hlt]
  omega
 rw [this]
 exact e2
theorem GN (hP:POk P T) {f:FuncId} {fn:Func} (gl:List Nat) {args:List V} {R:Res→St→Prop} (hf:P.funcs[f]? =some fn) {c0 c1 rest:Code} {rid:Nat} {mk df:Oper}
 (hb : fn.body = some (.seq c0 (.seq c1 (.seq (.region rid #[mk, df] false) rest)))) (hn : (fn.name == "runtime.NumGoroutine") = false) {g : FuncId} {cap : Array Operand} {tf : Nat}
 (h1:mk.op=.makeFunc (.func g) #[] cap) (h2:mk.dst=some tf) (h3:mk.guard=none) (h4:df.op=.defer {callee:=.value (.tmp tf),args:=#[],argTypes:=#[]}) (h5:df.guard=none) (h6:df.dst=none)
 (hg:Plain P g) (hle:Nat.ble args.length fn.ntmps=true)
 (h:awp T (PCalls P) c0 (thenQ (awp T (PCalls P) c1 (thenQ (fun env st=>evs env cap.toList fun vs=>vs.all V.isPtr=true∧env.go (some tf) (.func g [] vs) fun env=>
   AW P rest (leaveQ P T g vs fn R) env st) noQ)) noQ) {tmps:=args0 0 args,boxes:=[],nxt:=0,sz:=fn.ntmps,gl} st):PCalls P f args st R:=by
 refine ⟨?_,fn,hf,by rw [hb];rfl,hn⟩
 intro I w cargs hs hargs
 refine calls_of_wp_defers hf hb ?_
 have hsd:=fun c {Q env st} k=>Hq (Q:=Q) (env:=env) (st:=st) hP (Qg P) (fun _ _ _ _ _ h k=>k.mono h) c k
 refine wp_seq (wp_mono (hsd c0 h [] I st w I _ _ w (Jj gl hs hargs hle)) ?_)
 rintro e a w1 ⟨I1,β1,env1,st1,ae,r1,x1,k1⟩
 cases ae with
 |exit _|goto _|ret|pan _=>exact k1.elim
 |normal=>
 cases e with
 |exit _|goto _|ret|panic _|outgrown=>exact x1.elim
 |normal=>
 refine wp_seq (wp_mono (hsd c1 k1 [] I st w I1 _ _ w1 r1) ?_)
 rintro e a w2 ⟨I2,β2,env2,st2,ae,r2,x2,k2⟩
 cases ae with
 |exit _|goto _|ret|pan _=>exact k2.elim
 |normal=>
 cases e with
 |exit _|goto _|ret|panic _|outgrown=>exact x2.elim
 |normal=>
 refine wp_seq (wp_region_list ?_)
 show wpList P #[mk,df] _ [mk,df] a w2
 unfold wpList
 rw [if_pos (by simp [Region.wanted,h3])]
 left
 obtain ⟨vs,hv,kp,kg⟩:=ZO r2.f (show evs env2 cap.toList _ from k2)
 have hcv:Rep I2 (.func g [] vs) (.func (.func g) #[] (cap.map a.eval)):=by
  simp only [Rep]
  exact ⟨[],cap.toList.map a.eval,by congr 1;apply Array.ext';simp,by simp only [RepL],hv⟩
 obtain ⟨env3,r3,k3⟩:=XZ r2 (RepT.of hcv) kg
 have htf:tf<a.tmps.size:=by
  rw [r2.f.size]
  exact (Xad kg).1 tf rfl
 unfold Oper.wp
 rw [show (execOp a.eval mk).run P w2=.ok (.value (.func (.func g) #[] (cap.map a.eval))) w2 by simp only [execOp,h1,Array.map_empty];rfl]
 show wpList P #[mk,df] _ [df] (a.put mk.dst _) w2
 rw [h2]
 unfold wpList
 rw [if_pos (by simp [Region.wanted,h5])]
 left
 have hev:(a.put (some tf) (.func (.func g) #[] (cap.map a.eval))).eval (.tmp tf)=.func (.func g) #[] (cap.map a.eval):=by
  simp [Act.put,Act.eval,htf]
 unfold Oper.wp
 rw [show (execOp (a.put (some tf) (.func (.func g) #[] (cap.map a.eval))).eval df).run P w2=.ok (.defer {target:=.fn (.func g) (cap.map a.eval),args:=#[]}) w2 by
  simp only [execOp,h4,resolve,hev,Deferred.ofValue,Array.map_empty,Array.empty_append];rfl]
 rw [Oper.upon_defer]
 rw [h6]
 unfold wpList
 show rest.wp P _ _ _
 have r4:=r3.defer {target:=.fn (.func g) (cap.map a.eval),args:=#[]}
 refine wp_mono (k3 _ I st w I2 _ _ w2 r4) ?_
 rintro e a5 w5 ⟨I5,β5,env5,st5,ae,r5,x5,k5⟩
 have hd:=r5.f.defers
 obtain ⟨fn2,p1,p2,p3⟩:=hg
 have hinv:(invoke (.fn (.func g) (cap.map a.eval)) #[]).run P w5=.ok (.enter g (cap.toList.map a.eval).toArray) w5:=by
  have hb:fn2.body.isNone=false:=by cases hb:fn2.body<;>simp_all
  simp only [invoke,callFunc,Sem.run_bind,Sem.run_pure,Result.andThen_ok,run_program,p1]
  rw [p3]
  simp [hb]
  apply Array.ext';simp
 have last:∀{u:FrameMode} {x:Option V},u≠.run→(match x with|none=>u=.returning|some v=>∃c,u=.panicking [{v:=c,recovered:=false}]∧Rep I5 v c)→DCalls P g vs x st5 (fun st'=>retQ T fn R env5 st')→
  Leaves P fn a5.tmps (fun e w'=>∃I' st' r,Fr I st w I' st' w'∧RelS I' st' w'∧resM I' e r∧R r st') a5.defers u w5:=by
  intro u x hu hx k
  rw [hd]
  refine leaves_cons hu hinv ((k I5 w5 _ u r5.s (RepL.ptrs hv kp) hx).mono ?_)
  rintro e u' w6 ⟨⟨v,rfl⟩,hset,I6,st6,q1,q2,q3⟩
  show Leaves P fn a5.tmps _ [] (settle u') w6
  rw [hset]
  have r6:=r5.called q1 q2
  obtain ⟨v,c,g1,g2,g3⟩:=Qo (P:=P) hP.t r6 q3
  exact ⟨c,g1,I6,st6,.ret v,r6.fr,r6.s,g2,g3⟩
 cases ae with
 |normal=>
  cases e with
  |normal=>exact last (x:=none) (by simp) rfl k5
  |_=>exact x5.elim
 |ret=>
  cases e with
  |ret=>exact last (x:=none) (by simp) rfl k5
  |_=>exact x5.elim
 |pan v=>
  cases e with
  |panic chain=>
   obtain ⟨c,rfl,hc⟩:=x5
   exact last (x:=some v) (by simp) ⟨c,rfl,hc⟩ k5
  |_=>exact x5.elim
 |exit _=>exact k5.elim
 |goto _=>exact k5.elim
def recV:Option V→V
 |none=>.nili
 |some v=>v
def endQ (T:List (Nat×Ty)) (fn:Func) (R:St→Prop):AExit→Env→St→Prop
 | .normal,env,st| .ret,env,st=>retQ T fn (fun _ st=>R st) env st
 |_,_,_=>False
theorem ZF (hP:POk P T) {g:FuncId} {fn:Func} (gl:List Nat) {args:List V} {x:Option V} {st:St} {R:St→Prop} (hf:P.funcs[g]? =some fn) {rest:Code} {rid:Nat} {ro ao:Oper}
 (hb:fn.body=some (.seq (.region rid #[ro,ao] false) rest)) {t1 t2:Nat} {tys:Array TypeId} (h1:ro.op=.call {callee:=.builtin .recover,args:=#[],argTypes:=tys}) (h2:ro.dst=some t1) (h3:ro.guard=none)
 (h4:ao.op=.assign (.tmp t1)) (h5:ao.dst=some t2) (h6:ao.guard=none) (hle:Nat.ble args.length fn.ntmps=true)
 (h:∀env0:Env,env0={tmps:=args0 0 args,boxes:=[],nxt:=0,sz:=fn.ntmps,gl}→env0.go (some t1) (recV x) fun env=>env.go (some t2) (recV x) fun env=>AW P rest (endQ T fn R) env st):DCalls P g args x st R:=by
 intro I w cargs u hs hargs hx
 refine callsD_of_wpS hf hb (fun c0 cs hu=>?_)
 refine wpS_seq (wpS_region ?_)
 obtain ⟨c,cs',u',hrec,hrep,hcs,hset⟩:∃(c:Value) (cs':List Frame) (u':FrameMode),(match recoverD (c0::cs) with|some (v,cs1)=>c=v∧cs'=cs1|none=>c=.nilIface∧cs'=c0::cs)∧Rep I (recV x) c∧cs'={c0 with mode:=u'}::cs∧settle u'=.returning:=by
  cases x with
  |none=>
   have hx:u=.returning:=hx
   rw [hx] at hu
   refine ⟨.nilIface,c0::cs,.returning,?_,by simp only [recV,Rep],?_,rfl⟩
   ·simp only [recoverD,hu,and_self]
   ·rw [←hu]
  |some v=>
   obtain ⟨c,hx,hc⟩:=hx
   rw [hx] at hu
   refine ⟨c,{c0 with mode:=.panicking [{v:=c,recovered:=true}]}::cs,.panicking [{v:=c,recovered:=true}],?_,hc,rfl,rfl⟩
   simp only [recoverD,hu,and_self]
 have r0:=Jj (fn:=fn) gl hs hargs hle
 obtain ⟨env1,r1,k1⟩:=XZ r0 (RepT.of hrep) (h _ rfl)
 obtain ⟨env2,r2,k2⟩:=XZ r1 (RepT.of hrep) k1
 have hlt:t1<(cargs.toArray++Array.replicate (fn.ntmps - cargs.toArray.size) undef).size:=by
  have:=(Xad (h _ rfl)).1 t1 rfl
  rw [r0.f.size]
  exact this
 show wpOpsS P #[ro,ao] _ [0,1] _ _ _
 unfold wpOpsS
 simp only [List.getElem?_toArray,List.getElem?_cons_zero]
 rw [if_pos (by simp [Region.wanted,h3])]
 rw [show ∀ρ,(execOp ρ ro).run P w=.ok .recover w from fun ρ=>by simp only [execOp,h1];rfl]
 dsimp only
 have next:∀(b:Act) (tail:Act→List Frame→World→Prop),tail (b.put (some t1) c) cs' w→(match recoverD (c0::cs) with|some (v,cs1)=>tail (b.put ro.dst v) cs1 w|none=>tail (b.put ro.dst .nilIface) (c0::cs) w):=fun b tail ht=>by
  rw [h2]
  cases hr:recoverD (c0::cs) with
  |none=>
   rw [hr] at hrec
   obtain ⟨rfl,rfl⟩:=hrec
   exact ht
  |some p=>
   obtain ⟨v,cs1⟩:=p
   rw [hr] at hrec
   obtain ⟨rfl,rfl⟩:=hrec
   exact ht
 refine next _ (fun a cs w=>wpOpsS P #[ro,ao] _ [1] a cs w) ?_
 unfold wpOpsS
 simp only [List.getElem?_toArray,List.getElem?_cons_succ,List.getElem?_cons_zero]
 rw [if_pos (by simp [Region.wanted,h6])]
 have hev:∀tm:Act,t1<tm.tmps.size→(tm.put (some t1) c).eval (.tmp t1)=c:=fun tm ht=>by simp [Act.put,Act.eval,ht]
 rw [show ∀ρ,(execOp ρ ao).run P w=.ok (.value (ρ (.tmp t1))) w from fun ρ=>by simp only [execOp,h4];rfl]
 dsimp only
 rw [Oper.upon_value,hev _ hlt,h5]
 unfold wpOpsS
 show rest.wpS P _ _ cs' w
 refine wpS_of_wp (wp_mono (k2 [] I st w I _ _ w r2) ?_)
 rintro e a5 w5 ⟨I5,β5,env5,st5,ae,r5,x5,k5⟩
 have last:retQ T fn (fun _ st=>R st) env5 st5→a5.defers=[]∧∃u',cs'={c0 with mode:=u'}::cs∧∃v,(results fn a5.tmps).run P w5=.ok v w5∧((∃v',Ending.returned v=.returned v')∧settle u'=.returning∧∃I' st',Fr I st w I' st' w5∧RelS I' st' w5∧R st'):=fun q=>by
  obtain ⟨v,c,g1,g2,g3⟩:=Qo (P:=P) (R:=fun _ st=>R st) hP.t r5 (show forceRet T env5 st5 fn.results.toList _ from q)
  exact ⟨r5.f.defers,u',hcs,c,g1,⟨_,rfl⟩,hset,I5,st5,r5.fr,r5.s,g3⟩
 cases ae with
 |normal=>
  cases e with
  |normal=>exact last k5
  |_=>exact x5.elim
 |ret=>
  cases e with
  |ret=>exact last k5
  |_=>exact x5.elim
 |pan v=>exact k5.elim
 |exit _=>exact k5.elim
 |goto _=>exact k5.elim
end
end Go.Aw
namespace Go.Aw
theorem Wt {α:Type} [BEq α] [LawfulBEq α] {a b:α} {p q:Prop} (e:a=b) (h:p):bcase (a==b) p q:=Wg (fun _=>h) (fun n=>absurd e n)
theorem Wu {α:Type} [BEq α] [LawfulBEq α] {a b:α} {p q:Prop} (e:¬a=b) (h:q):bcase (a==b) p q:=Wg (fun n=>absurd n e) (fun _=>h)
theorem Wv {c:Prop} [Decidable c] {p q:Prop} (e:c) (h:p):bcase (decide c) p q:=Wh (fun _=>h) (fun n=>absurd e n)
theorem Ww {c:Prop} [Decidable c] {p q:Prop} (e:¬c) (h:q):bcase (decide c) p q:=Wh (fun n=>absurd n e) (fun _=>h)
end Go.Aw
namespace Go.Proofs.YtkidoddkbhchkaaGreatDoor
open Go Go.Aw
abbrev PC (f:FuncId) (args:List V) (st:St) (R:Res→St→Prop):Prop:=PCalls Tryz.prog f args st R
structure Tk where
 kind:Int
 text:List UInt8
 line:Int
 col:Int
structure Sta where
 toks:List Tk
 pos:Int
 opn:List Int
 wait:Int
def Tk.cells (t:Tk):List V:=[.int .i64 t.kind,.str t.text,.int .i64 t.line,.int .i64 t.col]
def encT (t:Tk):V:=.agg t.cells
def encTs (l:List Tk):List (List V):=l.map Tk.cells
def Sta.cells (s:Sta):List V:=[.slice 4 (encTs s.toks) .any,.int .i64 s.pos,.slice 1 (ints s.opn) .any,.int .i64 s.wait]
def encS (s:Sta):V:=.agg s.cells
def tk0:Tk:=⟨0,[],0,0⟩
def sta0:Sta:=⟨[],0,[],0⟩
theorem Jc (l:List Tk):(encTs l).length=l.length:=by simp [encTs]
theorem Qm (l:List Int):(ints l).length=l.length:=by simp [ints]
theorem Wz {l:List Tk} {K:Nat→Prop} (k:l.length<4611686018427387904→K l.length):∀m,m=(encTs l).length→m<lim→K m:=fun m hm h=>by
 rw [Jc] at hm;subst hm;exact k h
theorem WA {l:List Int} {K:Nat→Prop} (k:l.length<4611686018427387904→K l.length):∀m,m=(ints l).length→m<lim→K m:=fun m hm h=>by
 rw [Qm] at hm;subst hm;exact k h
theorem WC {l:List Tk} {i:Int} {K:List V→Prop} (h0:0≤i) (h1:i<l.length) (k:∀x,l[i.toNat]? =some x→K x.cells):0≤i∧∃e,(encTs l)[i.toNat]? =some e∧K e:=by
 have hlt:i.toNat<l.length:=by omega
 exact ⟨h0,l[i.toNat].cells,by simp [encTs,hlt],k _ (List.getElem?_eq_getElem hlt)⟩
theorem WB {l:List Tk} {i:Int} {x:Tk} {K:List V→Prop} (h:l[i.toNat]? =some x) (h0:0≤i) (k:K x.cells):0≤i∧∃e,(encTs l)[i.toNat]? =some e∧K e:=
 ⟨h0,x.cells,by simp [encTs,h],k⟩
theorem WD {l:List Int} {i:Int} {K:List V→Prop} (h0:0≤i) (h1:i<l.length) (k:∀x,l[i.toNat]? =some x→K [.int .i64 x]):0≤i∧∃e,(ints l)[i.toNat]? =some e∧K e:=by
 have hlt:i.toNat<l.length:=by omega
 exact ⟨h0,[.int .i64 l[i.toNat]],by simp [ints,hlt],k _ (List.getElem?_eq_getElem hlt)⟩
theorem WE {l:List Int} {a b:Int} {K:List (List V)→Prop} (h0:0≤a) (h1:a≤b) (h2:b≤l.length) (k:K (ints ((l.take b.toNat).drop a.toNat))):
 (0≤a∧a≤b∧b≤(ints l).length)∧∀es',es'=(((ints l).take b.toNat).drop a.toNat)→K es':=by
 refine ⟨⟨h0,h1,by rw [Qm];exact h2⟩,fun es' e=>?_⟩
 have:((ints l).take b.toNat).drop a.toNat=ints ((l.take b.toNat).drop a.toNat):=by simp [ints,List.map_drop,List.map_take]
 rw [this] at e;subst e;exact k
theorem Wx {es:List (List V)} {K:Bool→Prop} (h:es=[]→K true) (k:K false):∀b,(b=true→es=[])→K b
 |true,e=>h (e rfl)
 |false,_=>k
theorem Wy {es:List (List V)} {K:Bool→Prop} (h:es=[]→K false) (k:K true):∀b,(b=false→es=[])→K b
 |false,e=>h (e rfl)
 |true,_=>k
theorem XeW {l new:List Int} {own:Own} {st:St} {K:V→St→Prop} (h:own.good st) (hb:l.length+new.length≤1000000000)
 (k:∀own':Own,own'.good st→K (.slice 1 (ints (l++new)) own') (own'.st st (l++new).length)):appendTo 1 8 (ints l) own (ints new) (own.st st l.length) K:=by
 have hw:(ints new).map (·.map V.wk0)=ints new:=by
  simp only [ints,List.map_map]
  exact List.map_congr_left fun x _=>rfl
 have hsc:((ints new).all fun v=>v.all V.sc)=true:=by
  simp only [ints,List.all_map,List.all_eq_true]
  exact fun x _=>rfl
 have:=QW (sz:=1) (bytes:=8) (es:=ints l) (new:=ints new) (K:=K) h (by rw [Qm,Qm];omega) (by rw [Qm,Qm];simp only [lim];omega) hsc (fun own' ho=>by
  have:=k own' ho
  rw [Qm,Qm,hw,←show ints (l++new)=ints l++ints new from by simp [ints],←List.length_append,Nat.mul_one]
  exact this)
 rw [Qm,Nat.mul_one] at this
 exact this
section
variable {st:St} {R:Res→St→Prop}
theorem finl {r r':Res} {st':St} (hs:st.le st') (e:r=r'.wk) (h:R r st):∃r2 st2,(r2=r'∨r2=r'.wk)∧St.le st2 st'∧R r2 st2:=⟨r,st,.inr e,hs,h⟩
end
theorem Yb0 {c:Bool} {p q:Prop} {A:Prop} (k:A) (h:A→bcase c p q:=by with_reducible first|exact fun k=>Wt (by first|assumption|omega) k|exact fun k=>Wu (by first|assumption|omega) k|exact fun k=>Wv (by omega) k|exact fun k=>Ww (by omega) k|exact fun k=>Wi k|exact fun k=>Wj k|fail):bcase c p q:=h k
theorem Yb1 {c:Bool} {p q:Prop} {A B:Prop} (k:A) (l:B) (h:A→B→bcase c p q:=by with_reducible first|exact fun k l=>Wf (by decide) k l|exact fun k l=>Wg k l|exact fun k l=>Wh k l|exact fun k l=>Wk k l|fail):bcase c p q:=h k l
section
variable {H:Type}
theorem Xlh {n:Nat} (d:DataW H) (vs:List V) (h:dec Tryz.prog n 50 d=some vs):∃t:Tk,vs=t.cells∧t.text.length+1≤Rows.uptoBulk d:=by
 obtain ⟨m,ds,us,rfl,hl,hm,rfl,hb⟩:=XbH Tryz.underlying50 h
 match ds,hl with
 |[d0,d1,d2,d3],_=>
  simp only [List.zip_cons_cons,List.zip_nil_right] at hm
  obtain ⟨u0,r0,h0,hm0,rfl⟩:=Qa hm
  obtain ⟨u1,r1,h1,hm1,rfl⟩:=Qa hm0
  obtain ⟨u2,r2,h2,hm2,rfl⟩:=Qa hm1
  obtain ⟨u3,r3,h3,hm3,rfl⟩:=Qa hm2
  cases hm3
  obtain ⟨k,rfl⟩:=ZW Tryz.underlying3 h0
  obtain ⟨t,rfl,ht⟩:=Xh5 Tryz.underlying9 h1
  obtain ⟨l,rfl⟩:=ZW Tryz.underlying3 h2
  obtain ⟨c,rfl⟩:=ZW Tryz.underlying3 h3
  have ht:t.length+1=Rows.uptoBulk d1:=ht
  simp only [Rows.uptoBulkAll] at hb
  exact ⟨⟨k,t,l,c⟩,rfl,by show t.length+1≤_;omega⟩
theorem XgM:Tryz.prog.cellsOf 50=4:=by kernel_rfl
theorem Xjo {n:Nat} {d:DataW H} {vs:List V} (h:dec Tryz.prog n 23 d=some vs):∃l:List Tk,vs=[.slice 4 (encTs l) .any]∧(l.map fun t=>t.text.length+1).sum+1≤Rows.uptoBulk d:=by
 obtain ⟨m,es,ds,rfl,rfl,hes,hb⟩:=Xc8 Tryz.underlying23 h
 obtain ⟨l,rfl,hs⟩:=XbG (f:=Tk.cells) (w:=fun t=>t.text.length+1) (fun d vs h=>Xlh d vs h) hes
 exact ⟨l,by rw [XgM];rfl,by omega⟩
end
end Go.Proofs.YtkidoddkbhchkaaGreatDoor
namespace Go.Aw
open Go Go.ChangeShapes
theorem XbZ {P:Program} {f:FuncId} {fn:Func} {s:ChangeSpec} {c:OpenClaim}
 (a1:(c.wf (OpenSpec.ofChange s)&&laidOutB P&&mapsRowed P&&fn.params.all (P.readableRec ·)&&namedTie P c.named s.vars&&(c.stops==[])&&(P.stops==[])&&(c.knobs==[])&&(P.stopKnobs==[]))=true)
 (a2:(c.inPlace==P.inPlace f)=true) (a3:(c.unfollowed==P.unfollowed f)=true) (a4:(c.recurses==P.recurses f)=true) (a5:(c.named==P.varsNamed f)=true)
 (a6:((c.maps==(fn.params.toList++s.plain.varTypes P).any (P.mapsRec ·))&&(c.ifaces==(fn.params.toList++s.plain.varTypes P).any (P.ifacesRec ·))&&(c.mapsOut==P.mapsAmong fn.resultTypes.toList)&&(c.loops==(fn.params.toList++s.plain.varTypes P).any (P.loopsFrom ·))&&(c.wideKeys==(fn.params.toList++s.plain.varTypes P++fn.resultTypes.toList).any (P.wideKeysFrom ·))&&s.vars.all (P.varReadable ·)&&fn.resultTypes.all (fun t=>P.readableRec t&&decide (t<P.types.size))&&(c.ifacesOut==fn.resultTypes.toList.any (P.ifacesRec ·))&&(c.loopsOut==fn.resultTypes.toList.any (P.loopsFrom ·))&&(c.plainKeys==P.plainKeys)&&c.shortTexts.isNone)=true)
 (a7:P.stopsHeard=true) (a8:P.mayEnter=true) (a9:(c.lifted==P.liftsFinal)=true) (a10:(P.make==some c.make)=true)
 (a11:((c.kinds==(if c.domain.isEmpty then [] else fn.params.toList.map fun t=>match P.underlying t with|some (.int k)=>some k|_=>none))&&(c.pinned==c.pinnedBy)&&(c.veiled==(fn.params.toList++s.plain.varTypes P++fn.resultTypes.toList).any (P.veiledRec ·))&&c.veiledFits P fn.params.toList (fn.params.toList++s.plain.varTypes P++fn.resultTypes.toList))=true):
 joinedFacts P f fn s c=true:=by
 unfold joinedFacts
 simp only [Bool.and_eq_true] at a1 a6 a11 ⊢
 obtain ⟨⟨⟨⟨⟨⟨⟨⟨b1,b2⟩,b3⟩,b4⟩,b5⟩,b6⟩,b7⟩,b8⟩,b9⟩:=a1
 obtain ⟨⟨⟨⟨⟨⟨⟨⟨⟨⟨d1,d2⟩,d3⟩,d4⟩,d5⟩,d6⟩,d7⟩,d8⟩,d9⟩,d10⟩,d11⟩:=a6
 obtain ⟨⟨⟨g1,g2⟩,g3⟩,g4⟩:=a11
 exact ⟨⟨⟨⟨⟨⟨⟨⟨⟨⟨⟨⟨⟨⟨⟨⟨⟨⟨⟨⟨⟨⟨⟨⟨⟨⟨⟨⟨⟨⟨⟨b1,b2⟩,b3⟩,b4⟩,b5⟩,b6⟩,b7⟩,b8⟩,b9⟩,a2⟩,a3⟩,a4⟩,a5⟩,d1⟩,d2⟩,d3⟩,d4⟩,d5⟩,d6⟩,d7⟩,d8⟩,d9⟩,d10⟩,d11⟩,a7⟩,a8⟩,a9⟩,a10⟩,g1⟩,g2⟩,g3⟩,g4⟩
theorem Xae {P:Program} {c:OpenClaim} (h:P.funcs.toList.all (fun f=> !f.goes)=true) (hs:c.start=.entering):false=c.goesBy P:=by
 have hall:∀f ∈ P.funcs,Func.goes f=false:=by
  intro f hf
  have:=List.all_eq_true.1 h f (by simpa using hf)
  simpa using this
 have hp:∀g,P.goes g=false:=by
  intro g
  unfold Program.goes
  have h1:((P.closure g).any fun g=>(P.funcs[g]?).any Func.goes)=false:=by
   rw [Bool.eq_false_iff]
   intro hc
   obtain ⟨x, -,hx⟩:=List.any_eq_true.1 hc
   cases hq:P.funcs[x]? with
   |none=>rw [hq] at hx;simp at hx
   |some f=>rw [hq] at hx;simp only [Option.any_some] at hx;rw [hall f (Array.mem_of_getElem? hq)] at hx;cases hx
  have h2:P.funcs.any Func.goes=false:=by
   rw [Bool.eq_false_iff]
   intro hc
   obtain ⟨i,hi,hx⟩:=Array.any_eq_true.1 hc
   rw [hall _ (Array.getElem_mem hi)] at hx;cases hx
  rw [h1,h2];simp
 unfold OpenClaim.goesBy Program.goesAt Program.goesFrom
 rw [hs]
 cases hq:P.funcNamed c.func<;>simp [hp]
end Go.Aw
namespace Go.Proofs.YtkidoddkbhchkaaGreatDoor
open Go Go.Aw Go.ChangeShapes Go.WideShapes Go.ChangeAt Go.RowKit
set_option maxRecDepth 100000
theorem Xaa:Tryz.prog.stopsHeard=true:=by kernel_rfl
theorem HZ:Tryz.prog.mayEnter=true:=by kernel_rfl
theorem Xab:(false==Tryz.prog.liftsFinal)=true:=by kernel_rfl
theorem Xb5:(Tryz.prog.make==some .cut)=true:=by kernel_rfl
theorem Xb3:Tryz.prog.funcs.toList.all (fun f=> !f.goes)=true:=by kernel_rfl
theorem Zh:laidOutB Tryz.prog=true:=by kernel_rfl
theorem Zi:mapsRowed Tryz.prog=true:=by kernel_rfl
theorem Xb2:((List.range Tryz.prog.types.size).all fun t=>match Tryz.prog.underlying t with|some (.slice e)=>decide (0<Tryz.prog.cellsOf e)|_=>true)=true:=by kernel_rfl
end Go.Proofs.YtkidoddkbhchkaaGreatDoor
namespace Go.Proofs.YtkidoddkbhchkaaGreatDoor
open Go Go.Aw
def topF (s:Sta):Int:=(s.opn.getLast?).getD 0
theorem Xnw {s:Sta} (h:¬(s.opn.length:Int)>0):topF s=0:=by
 have:s.opn=[]:=List.length_eq_zero_iff.1 (by omega)
 simp [topF,this]
theorem XkH {s:Sta} {x:Int} (h:s.opn[((s.opn.length:Int) - 1).toNat]? =some x):topF s=x:=by
 have e:((s.opn.length:Int) - 1).toNat=s.opn.length - 1:=by omega
 rw [e] at h
 simp [topF,List.getLast?_eq_getElem?,h]
section
variable {st:St} {R:Res→St→Prop}
theorem XaR {s:Sta} (h:R (.ret (.int .i64 (topF s))) st):PC 289 [encS s] st R:=by
 refine Xa Xb [] Tryz.func289 rfl (by decide) ?_
 repeat' ((conv=>whnf);first|(with_reducible first|refine Yb0 ?_|(refine Yb1 ?_ ?_<;>intro _)|refine Wl (fun _=>?_)|refine Wm (by assumption) (by omega) ?_|refine Wn (by omega) (by omega) (fun _ _ _=>?_)|refine Wq (by omega) (by omega) ?_|refine Wz (fun _=>?_)|refine WA (fun _=>?_)|refine WB (by assumption) (by omega) ?_|refine WC (by omega) (by omega) (fun _ _=>?_)|refine WD (by omega) (by omega) (fun _ _=>?_)))
 ·exact fin h (by rw [XkH (by assumption)])
 ·exact fin h (by rw [Xnw (by omega)])
def unwF (k:Int) (t:Tk):Tk:=⟨k,[],t.line,t.col⟩
theorem XaT {k:Int} {t:Tk} (h:R (.ret (encT (unwF k t))) st):PC 336 [.int .i64 k,encT t] st R:=by
 refine Xa Xb [] Tryz.func336 rfl (by decide) ?_
 repeat' ((conv=>whnf);first|(with_reducible first|refine Yb0 ?_|(refine Yb1 ?_ ?_<;>intro _)))
 all_goals exact fin h rfl
attribute [local irreducible] Go.Aw.appendTo
theorem Xh2 {l:List Int} {own:Own} (hb:l.length≤1000000000) (h:∀own':Own,own'.good st→R (.ret (.slice 1 (ints l) own')) (own'.st st l.length)):PC 334 [.slice 1 (ints l) own] st R:=by
 refine Xa Xb [] Tryz.func334 rfl (by decide) ?_
 repeat' ((conv=>whnf);first|(with_reducible first|refine Yb0 ?_|(refine Yb1 ?_ ?_<;>intro _)|refine Wx (fun _=>?_) ?_|refine Wy (fun _=>?_) ?_))
 ·have:l=[]:=by simpa [ints] using ‹ints l=[]›
  subst this
  exact fin (h .full trivial) rfl
 ·exact XeW (l:=[]) (own:=.full) trivial (by simp only [List.length_nil];omega) fun own' ho=>fin (h own' ho) rfl
theorem clone_e {l l':List Int} {own:Own} (e:l'=l) (hb:l.length≤1000000000) (h:∀own':Own,own'.good st→R (.ret (.slice 1 (ints l) own')) (own'.st st l.length)):PC 334 [.slice 1 (ints l') own] st R:=e ▸ Xh2 hb h
def openedF (s:Sta) (c:Int):Sta:={s with opn:=s.opn++[c]}
theorem XfW {s:Sta} {c:Int} (hb:s.opn.length≤500000000) (h:R (.ret (encS (openedF s c))) st):PC 337 [encS s,.int .i64 c] st R:=by
 refine Xa Xb [] Tryz.func337 rfl (by decide) ?_
 have hb2:s.opn.length+[c].length≤1000000000:=by simp only [List.length_singleton];omega
 repeat' ((conv=>whnf);first|(with_reducible first|refine Yb0 ?_|(refine Yb1 ?_ ?_<;>intro _))|refine Xh2 (by omega) (fun own ho=>?_)|refine XeW (new:=[c]) ho hb2 (fun own' ho'=>?_))
 all_goals exact finl (Own.XR ho') rfl h
def closedF (s:Sta):Sta:={s with opn:=s.opn.dropLast}
theorem Gm {s:Sta} (h0:s.opn≠[]) (hb:s.opn.length≤500000000) (h:R (.ret (encS (closedF s))) st):PC 290 [encS s] st R:=by
 refine Xa Xb [] Tryz.func290 rfl (by decide) ?_
 have hl:0<s.opn.length:=List.length_pos_iff.2 h0
 have hd:(s.opn.take (((s.opn.length:Int) - 1).toNat)).drop (0:Int).toNat=s.opn.dropLast:=by
  rw [show (0:Int).toNat=0 from rfl,List.drop_zero,List.dropLast_eq_take]
  congr 1
  omega
 have hb2:s.opn.dropLast.length≤1000000000:=by rw [List.length_dropLast];omega
 repeat' ((conv=>whnf);first|(with_reducible first|refine Yb0 ?_|(refine Yb1 ?_ ?_<;>intro _)|refine Wl (fun _=>?_)|refine Wo (by omega) (by omega) ?_|refine Wp (by omega) (by omega) (by omega) ?_|refine Wq (by omega) (by omega) ?_|refine Wz (fun _=>?_)|refine WA (fun _=>?_)|refine WE (by omega) (by omega) (by omega) ?_)|refine clone_e hd hb2 (fun own ho=>?_))
 all_goals exact finl (Own.XR ho) rfl h
end
theorem Xlm {α:Type} {l:List α} {k:Nat} {x:α} (h:l[k]? =some x):l.drop k=x::l.drop (k+1):=by
 obtain ⟨h1,h2⟩:=List.getElem?_eq_some_iff.1 h
 rw [←h2,List.drop_eq_getElem_cons h1]
section
variable {st:St} {R:Res→St→Prop}
attribute [local irreducible] Go.Aw.appendTo
def idxFT (p:Int→Bool):List Int→Int→Int
 |[],_=> -1
 |y::r,i=>if p y then i else idxFT p r (i+1)
theorem XfC {p:Int→Bool}:∀{l:List Int} {i:Int},0≤i→(0≤idxFT p l i↔l.any p=true)
 |[],i,h=>by simp [idxFT]
 |y::r,i,h=>by
  simp only [idxFT,List.any_cons]
  split
  ·rename_i e;simp [h,e]
  ·rename_i e
   rw [XfC (by omega)]
   simp [e]
theorem XfD {l:List Int} {f:FuncId} {p:Int→Bool} {own:Own} (hf:∀x (st:St) (R:Res→St→Prop),R (.ret (.bool (p x))) st→PC f [.int .i64 x] st R) (h:R (.ret (.int .i64 (idxFT p l 0))) st):
 PC 353 [.slice 1 (ints l) own,.func f [] []] st R:=by
 refine Xa Xb [] Tryz.func353 rfl (by decide) ?_
 repeat' ((conv=>whnf);first|(with_reducible first|refine Yb0 ?_|(refine Yb1 ?_ ?_<;>intro _)|refine Wl (fun _=>?_)|refine Wm (by assumption) (by omega) ?_|refine Wn (by omega) (by omega) (fun _ _ _=>?_)|refine Wq (by omega) (by omega) ?_|refine Wz (fun _=>?_)|refine WA (fun _=>?_)|refine WB (by assumption) (by omega) ?_|refine WC (by omega) (by omega) (fun _ _=>?_)|refine WD (by omega) (by omega) (fun _ _=>?_)))
 refine Xah 8 [7,0,1] l.length (fun k=>k≤l.length∧(idxFT p l 0=idxFT p (l.drop k) k)) ⟨Nat.zero_le _,rfl⟩ Yl ?_
 rintro k ⟨hk,hi⟩
 repeat' ((conv=>whnf);first|(with_reducible first|refine Yb0 ?_|(refine Yb1 ?_ ?_<;>intro _)|refine Wl (fun _=>?_)|refine Wm (by assumption) (by omega) ?_|refine Wn (by omega) (by omega) (fun _ _ _=>?_)|refine Wq (by omega) (by omega) ?_|refine Wz (fun _=>?_)|refine WA (fun _=>?_)|refine WB (by assumption) (by omega) ?_|refine WC (by omega) (by omega) (fun _ _=>?_)|refine WD (by omega) (by omega) (fun _ _=>?_))|refine hf _ _ _ ?_)
 all_goals conv=>whnf
 all_goals try (have e:=Xlm ‹l[Int.toNat k]? =some _›;rw [Int.toNat_natCast] at e;rw [e,idxFT] at hi;clear e)
 all_goals first
  |(refine ⟨k+1,⟨by omega,?_⟩,by omega,Yl,St.le_refl _⟩;clear h;simp_all)
  |(refine fin h ?_;clear h;simp_all;done)
  |(refine fin h ?_;rw [hi,List.drop_eq_nil_of_le (by omega)];rfl)
theorem XbD {l:List Int} {f:FuncId} {p:Int→Bool} {own:Own} (hf:∀x (st:St) (R:Res→St→Prop),R (.ret (.bool (p x))) st→PC f [.int .i64 x] st R) (h:R (.ret (.bool (l.any p))) st):
 PC 332 [.slice 1 (ints l) own,.func f [] []] st R:=by
 refine Xa Xb [] Tryz.func332 rfl (by decide) ?_
 refine XfD hf ?_
 have key:=XfC (p:=p) (l:=l) (i:=0) (by omega)
 refine Wh (fun h1=>?_) (fun h1=>?_)
 ·exact Xq h (key.1 h1)
 ·refine Xq h ?_
  cases hc:l.any p with
  |false=>rfl
  |true=>exact absurd (key.2 hc) h1
theorem may1_c (x:Int) (st:St) (R:Res→St→Prop) (h:R (.ret (.bool (decide (x<0)))) st):PC 333 [.int .i64 x] st R:=by
 refine Xa Xb [] Tryz.func333 rfl (by decide) ?_
 repeat' ((conv=>whnf);first|(with_reducible first|refine Yb0 ?_|(refine Yb1 ?_ ?_<;>intro _)))
 all_goals exact Xq h (by simp_all)
def mayF (s:Sta):Bool:=
 decide (0≤s.pos)&&decide (s.pos≤s.toks.length)&&decide (0≤s.wait)&&decide (s.wait≤2)&&
 (decide (s.wait≤0)||(match s.toks[s.pos.toNat]? with|some t=>t.kind==16|none=>false))&& !(s.opn.any fun x=>decide (x<0))
theorem XfK {s:Sta} (h:R (.ret (.bool (mayF s))) st):PC 288 [encS s] st R:=by
 refine Xa Xb [] Tryz.func288 rfl (by decide) ?_
 repeat' ((conv=>whnf);first|(with_reducible first|refine Yb0 ?_|(refine Yb1 ?_ ?_<;>intro _)|refine Wl (fun _=>?_)|refine Wm (by assumption) (by omega) ?_|refine Wn (by omega) (by omega) (fun _ _ _=>?_)|refine Wq (by omega) (by omega) ?_|refine Wz (fun _=>?_)|refine WA (fun _=>?_)|refine WB (by assumption) (by omega) ?_|refine WC (by omega) (by omega) (fun _ _=>?_)|refine WD (by omega) (by omega) (fun _ _=>?_))|refine XbD (fun x st R h=>may1_c x st R h) ?_)
 all_goals conv=>whnf
 all_goals refine Xq h ?_
 all_goals clear h
 all_goals unfold mayF
 all_goals first
  |(rw [show decide (0≤s.pos)=false from decide_eq_false (by omega)];simp only [Bool.false_and];done)
  |(rw [show decide (s.pos≤s.toks.length)=false from decide_eq_false (by omega)];simp only [Bool.false_and,Bool.and_false];done)
  |(rw [show decide (0≤s.wait)=false from decide_eq_false (by omega)];simp only [Bool.false_and,Bool.and_false];done)
  |(rw [show decide (s.wait≤2)=false from decide_eq_false (by omega)];simp only [Bool.false_and,Bool.and_false];done)
  |(have hn:s.toks[s.pos.toNat]? =none:=List.getElem?_eq_none (by omega)
    rw [hn,show decide (s.wait≤0)=false from decide_eq_false (by omega)];simp only [Bool.false_and,Bool.and_false,Bool.or_false];done)
  |(rw [show decide (0≤s.pos)=true from decide_eq_true (by omega),show decide (s.pos≤s.toks.length)=true from decide_eq_true (by omega),show decide (0≤s.wait)=true from decide_eq_true (by omega),show decide (s.wait≤2)=true from decide_eq_true (by omega)]
    first
     |(rw [show decide (s.wait≤0)=true from decide_eq_true (by omega)];simp_all;done)
     |(rw [show decide (s.wait≤0)=false from decide_eq_false (by omega)];simp_all;done))
 all_goals trace_state
def beginF (t:Tk) (s:Sta):Tk×Sta:=
 if s.wait=1 then (unwF 20 t,{s with wait:=2})
 else if topF s<t.col then (unwF 18 t,{openedF s t.col with pos:=s.pos+1})
 else (unwF 18 t,{s with wait:=1})
def encTS (p:Tk×Sta):V:=.tup [encT p.1,encS p.2]
theorem begin_c {t:Tk} {s:Sta} (hp:0≤s.pos∧s.pos≤4611686018427387904) (hb:s.opn.length≤500000000) (h:R (.ret (encTS (beginF t s))) st):PC 295 [encT t,encS s] st R:=by
 refine Xa Xb [] Tryz.func295 rfl (by decide) ?_
 repeat' ((conv=>whnf);first|(with_reducible first|exact Wa|exact Wb|exact Wc|refine Wd (by kernel_rfl) ?_|refine We ?_ ?_ ?_|refine W8 (by decide +kernel) ?_ ?_ ?_|refine W0 (by decide +kernel) ?_ ?_ ?_|refine W9 ?_ ?_ ?_|refine Yb0 ?_|(refine Yb1 ?_ ?_<;>intro _)|refine Wq (by omega) (by omega) ?_)|refine XaT (t:=t) ?_|refine XaR (s:=s) ?_|refine XfW (s:=s) hb ?_|refine Wq (a:=s.pos+1) (by omega) (by omega) ?_|with_reducible refine WF ?_)
 all_goals unfold beginF at h
 ·rw [if_pos (by assumption)] at h;exact finw rfl h
 ·rw [if_neg (by assumption),if_pos (by assumption)] at h;exact finw rfl h
 ·rw [if_neg (by assumption),if_neg (by assumption)] at h;exact finw rfl h
def lineF (t:Tk) (s:Sta):Tk×Sta:=
 if 0<topF s∧t.col<topF s then (unwF 20 t,closedF s)
 else if 0<topF s∧t.col=topF s then (unwF 19 t,{s with pos:=s.pos+1,wait:=0})
 else (tk0,{s with pos:=s.pos+1,wait:=0})
theorem XdB {s:Sta} (h:0<topF s):s.opn≠[]:=fun e=>by simp [topF,e] at h
theorem line_c {t:Tk} {s:Sta} (hp:0≤s.pos∧s.pos≤4611686018427387904) (hb:s.opn.length≤500000000) (h:R (.ret (encTS (lineF t s))) st):PC 296 [encT t,encS s] st R:=by
 refine Xa Xb [] Tryz.func296 rfl (by decide) ?_
 repeat' ((conv=>whnf);first|(with_reducible first|exact Wa|exact Wb|exact Wc|refine Wd (by kernel_rfl) ?_|refine We ?_ ?_ ?_|refine W8 (by decide +kernel) ?_ ?_ ?_|refine W0 (by decide +kernel) ?_ ?_ ?_|refine W9 ?_ ?_ ?_|refine Yb0 ?_|(refine Yb1 ?_ ?_<;>intro _)|refine Wq (by omega) (by omega) ?_)|refine XaT (t:=t) ?_|refine XaR (s:=s) ?_|refine Gm (s:=s) (XdB (by omega)) hb ?_|refine Wq (a:=s.pos+1) (by omega) (by omega) ?_|with_reducible refine WF ?_)
 all_goals unfold lineF at h
 all_goals first
  |(rw [if_pos ⟨by omega,by omega⟩] at h;exact finw rfl h)
  |(rw [if_neg (by omega),if_pos ⟨by omega,by omega⟩] at h;exact finw rfl h)
  |(rw [if_neg (by omega),if_neg (by omega)] at h;exact finw rfl h)
 all_goals trace_state
def braceF (t:Tk) (s:Sta):Tk×Sta×Int:=
 if t.kind=15∧t.text=[123] then (t,{openedF s 0 with pos:=s.pos+1},0)
 else if t.kind=15∧t.text=[125] then
  if s.opn=[]∨topF s≠0 then (tk0,s,90) else (t,{closedF s with pos:=s.pos+1},0)
 else (t,{s with pos:=s.pos+1},0)
def encTSE (p:Tk×Sta×Int):V:=.tup [encT p.1,encS p.2.1,.int .i64 p.2.2]
theorem Uc {l:List Int} (h:¬l.length=Int.toNat 0):l≠[]:=fun e=>h (by rw [e];rfl)
theorem XmM {l:List Int} (h:l.length=Int.toNat 0):l=[]:=List.length_eq_zero_iff.1 (by rw [h];rfl)
theorem brace_c {t:Tk} {s:Sta} (hp:0≤s.pos∧s.pos≤4611686018427387904) (hb:s.opn.length≤500000000) (h:R (.ret (encTSE (braceF t s))) st):PC 297 [encT t,encS s] st R:=by
 refine Xa Xb [] Tryz.func297 rfl (by decide) ?_
 repeat' ((conv=>whnf);first|(with_reducible first|exact Wa|exact Wb|exact Wc|refine Wd (by kernel_rfl) ?_|refine We ?_ ?_ ?_|refine W8 (by decide +kernel) ?_ ?_ ?_|refine W0 (by decide +kernel) ?_ ?_ ?_|refine W9 ?_ ?_ ?_|refine Yb0 ?_|(refine Yb1 ?_ ?_<;>intro _)|refine Wl (fun _=>?_)|refine Wq (by omega) (by omega) ?_|refine Wz (fun _=>?_)|refine WA (fun _=>?_))|refine XaR (s:=s) ?_|refine XfW (s:=s) hb ?_|refine Gm (s:=s) (Uc (by assumption)) hb ?_|refine Wq (a:=s.pos+1) (by omega) (by omega) ?_|with_reducible refine WF ?_)
 all_goals unfold braceF at h
 all_goals first
  |(rw [if_pos ⟨by assumption,by assumption⟩] at h;exact finw rfl h)
  |(rw [if_neg (fun e=>absurd e.2 (by assumption)),if_pos ⟨by assumption,by assumption⟩,if_pos (.inl (XmM (by assumption)))] at h;exact finw rfl h)
  |(rw [if_neg (fun e=>absurd e.2 (by assumption)),if_pos ⟨by assumption,by assumption⟩,if_pos (.inr (by assumption))] at h;exact finw rfl h)
  |(rw [if_neg (fun e=>absurd e.2 (by assumption)),if_pos ⟨by assumption,by assumption⟩,if_neg (fun e=>e.elim (Uc (by assumption)) (fun e=>e (by assumption)))] at h;exact finw rfl h)
  |(rw [if_neg (fun e=>absurd e.1 (by assumption)),if_neg (fun e=>absurd e.1 (by assumption))] at h;exact finw rfl h)
  |(rw [if_neg (fun e=>absurd e.2 (by assumption)),if_neg (fun e=>absurd e.2 (by assumption))] at h;exact finw rfl h)
 all_goals trace_state
def endFT (s:Sta):Tk×Sta×Int:=
 if s.opn=[] then (⟨21,[],0,0⟩,s,0) else if 0<topF s then (⟨20,[],0,0⟩,closedF s,0) else (tk0,s,90)
theorem end_cT {s:Sta} (hb:s.opn.length≤500000000) (h:R (.ret (encTSE (endFT s))) st):PC 298 [encS s] st R:=by
 refine Xa Xb [] Tryz.func298 rfl (by decide) ?_
 repeat' ((conv=>whnf);first|(with_reducible first|exact Wa|exact Wb|exact Wc|refine Wd (by kernel_rfl) ?_|refine We ?_ ?_ ?_|refine W8 (by decide +kernel) ?_ ?_ ?_|refine W0 (by decide +kernel) ?_ ?_ ?_|refine W9 ?_ ?_ ?_|refine Yb0 ?_|(refine Yb1 ?_ ?_<;>intro _)|refine Wl (fun _=>?_)|refine Wz (fun _=>?_)|refine WA (fun _=>?_))|refine XaR (s:=s) ?_|refine Gm (s:=s) (Uc (by assumption)) hb ?_|with_reducible refine WF ?_)
 all_goals unfold endFT at h
 all_goals first
  |(rw [if_pos (XmM (by assumption))] at h;exact finw rfl h)
  |(rw [if_neg (Uc (by assumption)),if_pos (by assumption)] at h;exact finw rfl h)
  |(rw [if_neg (Uc (by assumption)),if_neg (by assumption)] at h;exact finw rfl h)
 all_goals trace_state
end
end Go.Proofs.YtkidoddkbhchkaaGreatDoor
namespace Go.Aw
noncomputable def Env.ath (env:Env) (ch:List (Nat×V)) (keep:List Nat) (cb:List (Nat×List V)) (kb:List Nat):Env:=match env with
 |⟨ts,bs,n,sz,gl⟩=>⟨Env.ts ⟨ts,bs,n,sz,gl⟩ ch keep,cb++Env.bx ⟨ts,bs,n,sz,gl⟩ kb,n,sz,gl⟩
theorem UZ {ih:(AExit→Env→St→Prop)→Env→St→Prop} {Q:AExit→Env→St→Prop} {env:Env} {st:St} {α:Type} (f:α→List (Nat×V)) (keep:List Nat) (g:α→List (Nat×List V)) (kb:List Nat) (S:α→St) (J:α→Prop) (μ:α→Nat) (x0:α) (h0:J x0)
 (he:(env.ath (f x0) keep (g x0) kb).leC env) (hs:St.le (S x0) st)
 (hb:∀x,J x→ih (thenQ (fun env' st'=>∃y,J y∧μ y<μ x∧(env.ath (f y) keep (g y) kb).leC env'∧St.le (S y) st') Q) (env.ath (f x) keep (g x) kb) (S x)):
 ∃(α:Type) (E:α→Env) (S:α→St) (J:α→Prop) (μ:α→Nat) (x0:α),J x0∧(E x0).leC env∧St.le (S x0) st∧
  ∀x,J x→ih (thenQ (fun env' st'=>∃y,J y∧μ y<μ x∧(E y).leC env'∧St.le (S y) st') Q) (E x) (S x):=
 ⟨α,fun k=>env.ath (f k) keep (g k) kb,S,J,μ,x0,h0,he,hs,hb⟩
theorem Xgc {T:List (Nat×Ty)} {C:FuncId→List V→St→(Res→St→Prop)→Prop} {w:CW} {lw:Nat→Option CW} {Q:AExit→Env→St→Prop} {env:Env} {st:St}
 (h:w (gotoQ (fun l env' st'=>∃y:Nat,y=l∧False∧env.leC env'∧St.le st st') Q) env st):scopeWp w lw Q env st:=
 ⟨Nat,fun y=>y,fun _=>env,fun _=>st,fun _=>False,fun _=>0,h,fun x e=>e.elim⟩
end Go.Aw
namespace Go.Proofs.YtkidoddkbhchkaaGreatDoor
open Go Go.Aw
def nextG:Nat→Sta→Tk×Sta×Int
 |0,s=>endFT s
 |n+1,s=>match s.toks[s.pos.toNat]? with
  |none=>endFT s
  |some t=>if t.kind=16∧s.wait<2 then ((beginF t s).1,(beginF t s).2,0)
   else if t.kind=16∨t.kind=17 then
    if (lineF t s).1.kind=0 then nextG n (lineF t s).2 else ((lineF t s).1,(lineF t s).2,0)
   else braceF t s
def nextFT (s:Sta):Tk×Sta×Int:=nextG (s.toks.length - s.pos.toNat) s
def nextM (s:Sta):Tk×Sta×Int:=if mayF s then nextFT s else (tk0,sta0,1)
theorem ZP {t:Tk} {s:Sta} (h:(lineF t s).1.kind=0):(lineF t s).2={s with pos:=s.pos+1,wait:=0}:=by
 unfold lineF at h ⊢
 split
 ·rename_i e;rw [if_pos e] at h;exact absurd h (by simp [unwF])
 ·rename_i e;rw [if_neg e] at h
  split<;>rfl
theorem Xaj {s:Sta} (h:¬s.pos<s.toks.length) (h0:0≤s.pos):nextFT s=endFT s:=by
 have:s.toks.length - s.pos.toNat=0:=by omega
 rw [nextFT,this,nextG]
theorem Jr {s:Sta} {t:Tk} (h:s.toks[s.pos.toNat]? =some t) (h0:0≤s.pos):nextFT s=if t.kind=16∧s.wait<2 then ((beginF t s).1,(beginF t s).2,0)
 else if t.kind=16∨t.kind=17 then
  if (lineF t s).1.kind=0 then nextFT (lineF t s).2 else ((lineF t s).1,(lineF t s).2,0)
 else braceF t s:=by
 obtain ⟨hlt,_⟩:=List.getElem?_eq_some_iff.1 h
 obtain ⟨n,hn⟩:∃n,s.toks.length - s.pos.toNat=n+1:=⟨s.toks.length - s.pos.toNat - 1,by omega⟩
 rw [nextFT,hn,nextG,h]
 dsimp only
 split
 ·rfl
 ·split
  ·split
   ·rename_i e
    rw [nextFT,ZP e]
    congr 1
    show n=s.toks.length - (s.pos+1).toNat
    omega
   ·rfl
  ·rfl
section
variable {st:St} {R:Res→St→Prop}
attribute [local irreducible] Go.Aw.appendTo
theorem next_cT {s:Sta} (hb:s.opn.length≤500000000) (h:R (.ret (encTSE (nextM s))) st):PC 247 [encS s] st R:=by
 refine Xa Xb [] Tryz.func247 rfl (by decide) ?_
 conv=>whnf
 refine Xgc (T:=tys) (C:=PCalls Tryz.prog) ?_
 unfold nextM at h
 repeat' ((conv=>whnf);first|(with_reducible first|exact Wa|exact Wb|exact Wc|refine Wd (by kernel_rfl) ?_|refine We ?_ ?_ ?_|refine W8 (by decide +kernel) ?_ ?_ ?_|refine W0 (by decide +kernel) ?_ ?_ ?_|refine W9 ?_ ?_ ?_|refine Yb0 ?_|(refine Yb1 ?_ ?_<;>intro _)|refine Wl (fun _=>?_)|refine Wm (by assumption) (by omega) ?_|refine Wn (by omega) (by omega) (fun _ _ _=>?_)|refine Wq (by omega) (by omega) ?_|refine Wz (fun _=>?_)|refine WA (fun _=>?_)|refine WB (by assumption) (by omega) ?_|refine WC (by omega) (by omega) (fun _ _=>?_)|refine WD (by omega) (by omega) (fun _ _=>?_))|refine XfK (s:=s) ?_|with_reducible refine WF ?_)
 ·rename_i e
  rw [e] at h
  have hm:=e
  unfold mayF at hm
  simp only [Bool.and_eq_true,decide_eq_true_eq] at hm
  refine UZ (α:=Sta) (fun x=>[]) [1,2,3,4] (fun x=>[(0,x.cells)]) [1,2] (fun _=>st) (fun x=>x.toks=s.toks∧x.opn=s.opn∧0≤x.pos∧x.pos≤x.toks.length∧nextFT x=nextFT s) (fun x=>x.toks.length - x.pos.toNat) s ⟨rfl,rfl,by omega,by omega,rfl⟩ Yl (St.le_refl _) ?_
  rintro x ⟨x1,x2,x3,x4,x5⟩
  rw [←x5] at h
  have hb':x.opn.length≤500000000:=by rw [x2];exact hb
  repeat' ((conv=>whnf);first|(with_reducible first|exact Wa|exact Wb|exact Wc|refine Wd (by kernel_rfl) ?_|refine We ?_ ?_ ?_|refine W8 (by decide +kernel) ?_ ?_ ?_|refine W0 (by decide +kernel) ?_ ?_ ?_|refine W9 ?_ ?_ ?_|refine Yb0 ?_|(refine Yb1 ?_ ?_<;>intro _)|refine Wl (fun _=>?_)|refine Wm (by assumption) (by omega) ?_|refine Wn (by omega) (by omega) (fun _ _ _=>?_)|refine Wq (by omega) (by omega) ?_|refine Wz (fun _=>?_)|refine WA (fun _=>?_)|refine WB (by assumption) (by omega) ?_|refine WC (by omega) (by omega) (fun _ _=>?_)|refine WD (by omega) (by omega) (fun _ _=>?_))|refine begin_c (s:=x) ⟨by omega,by omega⟩ hb' ?_|refine line_c (s:=x) ⟨by omega,by omega⟩ hb' ?_|refine brace_c (s:=x) ⟨by omega,by omega⟩ hb' ?_|refine end_cT (s:=x) hb' ?_|with_reducible refine WF ?_)
  all_goals rw [if_pos rfl] at h
  all_goals first
   |(rw [Jr (by assumption) x3,if_pos (by omega)] at h;exact finw rfl h)
   |(rw [Jr (by assumption) x3,if_neg (by omega),if_pos (by omega),if_neg (by omega)] at h;exact finw rfl h)
   |(rw [Jr (by assumption) x3,if_neg (by omega),if_neg (by omega)] at h;exact finw rfl h)
   |(rw [Xaj (by omega) x3] at h;exact finw rfl h)
   |(have hz:(lineF ‹Tk› x).1.kind=0:=by assumption
     refine ⟨(lineF ‹Tk› x).2,?_,?_,Yl,St.le_refl _⟩
     ·rw [ZP hz]
      refine ⟨x1,x2,by show 0≤x.pos+1;omega,by show x.pos+1≤x.toks.length;omega,?_⟩
      rw [←x5,Jr (s:=x) (by assumption) x3,if_neg (by omega),if_pos (by omega),if_pos hz,ZP hz]
     ·rw [ZP hz]
      show x.toks.length - (x.pos+1).toNat<_
      omega)
  all_goals trace_state
 ·rename_i e
  rw [e] at h
  exact finw rfl h
end
end Go.Proofs.YtkidoddkbhchkaaGreatDoor
namespace Go.Aw
theorem St.Xd (st:St) (b:Nat) (cs:List V):(st.setBox b cs).box b=some cs:=by simp [St.setBox]
theorem St.set_set (st:St) (b:Nat) (cs cs':List V):(st.setBox b cs).setBox b cs'=st.setBox b cs':=by
 simp only [St.setBox,St.mk.injEq,and_true]
 funext x
 split<;>rfl
theorem St.set_self {st:St} {b:Nat} {cs:List V} (h:st.box b=some cs):st.setBox b cs=st:=by
 cases st with
 |mk box hw=>
  simp only [St.setBox,St.mk.injEq,and_true]
  funext x
  split
  ·rename_i e;subst e;exact h.symm
  ·rfl
theorem Xm {st:St} {b:Nat} {cs:List V} {K:List V→Prop} (h:st.box b=some cs) (k:K cs):∃cs,st.box b=some cs∧K cs:=⟨cs,h,k⟩
end Go.Aw
namespace Go.Proofs.YtkidoddkbhchkaaGreatDoor
open Go Go.Aw
def lookC (s:Sta):List V:=[.slice 4 (encTs s.toks) .any,.int .i64 s.pos,.slice 1 (ints s.opn) .any,.int .i64 s.wait,
 .int .i64 (nextM s).1.kind,.str (nextM s).1.text,.int .i64 (nextM s).1.line,.int .i64 (nextM s).1.col,
 .slice 4 (encTs (nextM s).2.1.toks) .any,.int .i64 (nextM s).2.1.pos,.slice 1 (ints (nextM s).2.1.opn) .any,.int .i64 (nextM s).2.1.wait,.int .i64 (nextM s).2.2,.bool true]
def idleC (s:Sta) (t:Tk) (u:Sta) (o1 o2:Own) (e:Int):List V:=[.slice 4 (encTs s.toks) .any,.int .i64 s.pos,.slice 1 (ints s.opn) .any,.int .i64 s.wait,
 .int .i64 t.kind,.str t.text,.int .i64 t.line,.int .i64 t.col,.slice 4 (encTs u.toks) o1,.int .i64 u.pos,.slice 1 (ints u.opn) o2,.int .i64 u.wait,.int .i64 e,.bool false]
def Has (st:St) (b:Nat) (s:Sta):Prop:=st.box b=some (lookC s)∨∃t u o1 o2 e,st.box b=some (idleC s t u o1 o2 e)
def Upd (st st':St) (b:Nat) (s:Sta):Prop:=Has st' b s∧∃cs,st'=st.setBox b cs
theorem Upd.trans {st st1 st2:St} {b:Nat} {s1 s2:Sta} (h:Upd st st1 b s1) (k:Upd st1 st2 b s2):Upd st st2 b s2:=by
 obtain ⟨_,c1,e1⟩:=h
 obtain ⟨h2,c2,e2⟩:=k
 subst e1
 rw [St.set_set] at e2
 exact ⟨h2,c2,e2⟩
theorem Xx {st:St} {b:Nat} {s:Sta}:Upd st (st.setBox b (lookC s)) b s:=⟨.inl (St.Xd ..),_,rfl⟩
def fault (e:Int):V:=.iface 113 (.agg [.int .i64 e])
section
variable {st:St} {R:Res→St→Prop}
attribute [local irreducible] Go.Aw.appendTo
theorem finx {r r':Res} {st':St} (e:r=r'.wk) (es:st'=st) (h:R r st):∃r2 st2,(r2=r'∨r2=r'.wk)∧St.le st2 st'∧R r2 st2:=by subst es;exact ⟨r,st',.inr e,St.le_refl _,h⟩
theorem Xmr {b:Nat} {s:Sta} (hs:Has st b s) (hb:s.opn.length≤500000000) (h:R (.ret (.tup [])) (st.setBox b (lookC s))):PC 195 [.ptr b 0] st R:=by
 refine Xa Xb [] Tryz.func195 rfl (by decide) ?_
 rcases hs with hs|⟨t,u,o1,o2,e,hs⟩
 ·rw [St.set_self hs] at h
  repeat' ((conv=>whnf);first|(with_reducible first|refine Yb0 ?_|(refine Yb1 ?_ ?_<;>intro _)|refine Wq (by omega) (by omega) ?_)|refine Xm hs ?_)
  all_goals exact fin h rfl
 ·skip
  repeat' ((conv=>whnf);first|(with_reducible first|refine Yb0 ?_|(refine Yb1 ?_ ?_<;>intro _)|refine Wq (by omega) (by omega) ?_)|refine Xm hs ?_|refine Xm (St.Xd ..) ?_|refine next_cT (s:=s) hb ?_)
  all_goals exact finx rfl (by simp only [St.set_set];rfl) h
theorem Je {b:Nat} {s:Sta} (hs:Has st b s) (hb:s.opn.length≤500000000) (h:R (.ret (encT (nextM s).1)) (st.setBox b (lookC s))):PC 135 [.ptr b 0] st R:=by
 refine Xa Xb [] Tryz.func135 rfl (by decide) ?_
 repeat' ((conv=>whnf);first|(with_reducible first|refine Yb0 ?_|(refine Yb1 ?_ ?_<;>intro _))|refine Xm (St.Xd ..) ?_|refine Xmr hs hb ?_)
 all_goals exact finw rfl h
theorem Zv {v:V} {e:Int} (h:R (.pan (fault e)) st):PC 96 [v,.int .i64 e] st R:=by
 refine Xa Xb [] Tryz.func96 rfl (by decide) ?_
 repeat' ((conv=>whnf);first|(with_reducible first|refine Yb0 ?_|(refine Yb1 ?_ ?_<;>intro _)))
 all_goals exact fin h rfl
def badE (s:Sta):Int:=if (nextM s).2.2=0 then 110 else (nextM s).2.2
theorem bad_c {b:Nat} {s:Sta} (hs:Has st b s) (hb:s.opn.length≤500000000) (h:R (.pan (fault (badE s))) (st.setBox b (lookC s))):PC 191 [.ptr b 0] st R:=by
 refine Xa Xb [] Tryz.func191 rfl (by decide) ?_
 unfold badE at h
 repeat' ((conv=>whnf);first|(with_reducible first|refine Yb0 ?_|(refine Yb1 ?_ ?_<;>intro _))|refine Xm (St.Xd ..) ?_|refine Xmr hs hb ?_|refine Zv ?_)
 all_goals first
  |(rw [if_pos (by assumption)] at h;exact fin h rfl)
  |(rw [if_neg (by assumption)] at h;exact fin h rfl)
theorem go_look {b:Nat} {s s':Sta} (hs:st.box b=some (lookC s)) (h:∀st',Upd st st' b s'→R (.ret (.tup [])) st'):PC 234 [.ptr b 0,encS s'] st R:=by
 refine Xa Xb [] Tryz.func234 rfl (by decide) ?_
 have h:=h (st.setBox b (idleC s' (nextM s).1 (nextM s).2.1 .any .any (nextM s).2.2)) ⟨.inr ⟨_,_,_,_,_,St.Xd ..⟩,_,rfl⟩
 repeat' ((conv=>whnf);first|(with_reducible first|refine Yb0 ?_|(refine Yb1 ?_ ?_<;>intro _))|refine Xm hs ?_|refine Xm (St.Xd ..) ?_)
 all_goals exact finx rfl (by simp only [St.set_set];rfl) h
theorem go_idle {b:Nat} {s s':Sta} {t:Tk} {u:Sta} {o1 o2:Own} {e:Int} (hs:st.box b=some (idleC s t u o1 o2 e)) (h:∀st',Upd st st' b s'→R (.ret (.tup [])) st'):PC 234 [.ptr b 0,encS s'] st R:=by
 refine Xa Xb [] Tryz.func234 rfl (by decide) ?_
 have h:=h (st.setBox b (idleC s' t u o1 o2 e)) ⟨.inr ⟨_,_,_,_,_,St.Xd ..⟩,_,rfl⟩
 repeat' ((conv=>whnf);first|(with_reducible first|refine Yb0 ?_|(refine Yb1 ?_ ?_<;>intro _))|refine Xm hs ?_|refine Xm (St.Xd ..) ?_)
 all_goals exact finx rfl (by simp only [St.set_set];rfl) h
theorem go_c {b:Nat} {s s':Sta} (hs:Has st b s) (h:∀st',Upd st st' b s'→R (.ret (.tup [])) st'):PC 234 [.ptr b 0,encS s'] st R:=by
 rcases hs with hs|⟨t,u,o1,o2,e,hs⟩
 ·exact go_look hs h
 ·exact go_idle hs h
theorem XhA {b:Nat} {s:Sta} (hs:Has st b s) (hb:s.opn.length≤500000000) (h:(nextM s).2.2=0→∀st',Upd st st' b (nextM s).2.1→R (.ret (encT (nextM s).1)) st')
 (k:¬(nextM s).2.2=0→R (.pan (fault (nextM s).2.2)) (st.setBox b (lookC s))):PC 161 [.ptr b 0] st R:=by
 refine Xa Xb [] Tryz.func161 rfl (by decide) ?_
 repeat' ((conv=>whnf);first|(with_reducible first|refine Yb0 ?_|(refine Yb1 ?_ ?_<;>intro _))|refine Xm (St.Xd ..) ?_|refine Je hs hb ?_|refine Zv ?_|refine go_c (s':=(nextM s).2.1) (.inl (St.Xd st b (lookC s))) (fun st' hu=>?_))
 ·exact finw rfl (h (by assumption) st' (Xx.trans hu))
 ·exact fin (k (by assumption)) rfl
def leafT (t:Tk):Nd:=.mk 1 t.kind t.text t.line t.col []
theorem leaf_c {t:Tk} (h:R (.ret (enc (leafT t))) st):PC 160 [encT t] st R:=by
 refine Xa Xb [] Tryz.func160 rfl (by decide) ?_
 repeat' ((conv=>whnf);first|(with_reducible first|refine Yb0 ?_|(refine Yb1 ?_ ?_<;>intro _)))
 all_goals exact finw rfl h
def isF (s:Sta) (k:Int) (x:List UInt8):Bool:=(nextM s).1.kind==k&&(nextM s).1.text==x
theorem is_c {b:Nat} {s:Sta} {k:Int} {x:List UInt8} (hs:Has st b s) (hb:s.opn.length≤500000000) (h:R (.ret (.bool (isF s k x))) (st.setBox b (lookC s))):PC 98 [.ptr b 0,.int .i64 k,.str x] st R:=by
 refine Xa Xb [] Tryz.func98 rfl (by decide) ?_
 repeat' ((conv=>whnf);first|(with_reducible first|refine Yb0 ?_|(refine Yb1 ?_ ?_<;>intro _))|refine Je hs hb ?_)
 all_goals (refine Xq h ?_;clear h;simp_all [isF])
theorem Xas {b:Nat} {s:Sta} (hs:Has st b s) (hb:s.opn.length≤500000000) (h:(nextM s).2.2=0→∀st',Upd st st' b (nextM s).2.1→R (.ret (enc (leafT (nextM s).1))) st')
 (k:¬(nextM s).2.2=0→R (.pan (fault (nextM s).2.2)) (st.setBox b (lookC s))):PC 100 [.ptr b 0] st R:=by
 refine Xa Xb [] Tryz.func100 rfl (by decide) ?_
 repeat' ((conv=>whnf);first|(with_reducible first|refine Yb0 ?_|(refine Yb1 ?_ ?_<;>intro _))|refine XhA hs hb (fun e st' hu=>?_) (fun e=>?_)|refine leaf_c (t:=(nextM s).1) ?_)
 ·exact finw rfl (h e st' hu)
 ·exact fin (k e) rfl
theorem XnA {b:Nat} {s:Sta} {k:Int} {x:List UInt8} (hs:Has st b s) (hb:s.opn.length≤500000000) (h:isF s k x=true→(nextM s).2.2=0→∀st',Upd st st' b (nextM s).2.1→R (.ret (enc (leafT (nextM s).1))) st')
 (k1:isF s k x=true→¬(nextM s).2.2=0→R (.pan (fault (nextM s).2.2)) (st.setBox b (lookC s))) (k2:isF s k x=false→R (.pan (fault (badE s))) (st.setBox b (lookC s))):PC 167 [.ptr b 0,.int .i64 k,.str x] st R:=by
 refine Xa Xb [] Tryz.func167 rfl (by decide) ?_
 have hl:Has (st.setBox b (lookC s)) b s:=.inl (St.Xd ..)
 repeat' ((conv=>whnf);first|(with_reducible first|refine Yb0 ?_|(refine Yb1 ?_ ?_<;>intro _)|refine Wq (by omega) (by omega) ?_)|refine is_c hs hb ?_|refine Xas hl hb (fun e st' hu=>?_) (fun e=>?_)|refine bad_c hl hb ?_)
 ·exact finw rfl (h (by assumption) e st' (Xx.trans hu))
 ·exact finx rfl (by rw [St.set_set]) (k1 (by assumption) e)
 ·exact finx rfl (by rw [St.set_set]) (k2 (by assumption))
def encR3 (n:Nd) (s:Sta) (e:Int):V:=.tup [enc n,encS s,.int .i64 e]
theorem Xg8 {f:FuncId} {b:Nat} {s s':Sta} {n:Nd} {e d:Int} (hf:∀(st:St) (R:Res→St→Prop),R (.ret (encR3 n s' e)) st→PC f [encS s,.int .i64 d] st R) (hs:Has st b s)
 (h:e=0→∀st',Upd st st' b s'→R (.ret (enc n)) st') (k:¬e=0→∀st',Upd st st' b s'→R (.pan (fault e)) st'):PC 254 [.ptr b 0,.func f [] [],.int .i64 d] st R:=by
 refine Xa Xb [] Tryz.func254 rfl (by decide) ?_
 rcases hs with hs|⟨t,u,o1,o2,e',hs⟩
 ·skip
  repeat' ((conv=>whnf);first|(with_reducible first|refine Yb0 ?_|(refine Yb1 ?_ ?_<;>intro _))|refine Xm hs ?_|refine hf _ _ ?_|refine Zv ?_|refine go_c (s':=s') (.inl hs) (fun st' hu=>?_))
  ·exact finw rfl (h (by assumption) st' hu)
  ·exact fin (k (by assumption) st' hu) rfl
 ·skip
  repeat' ((conv=>whnf);first|(with_reducible first|refine Yb0 ?_|(refine Yb1 ?_ ?_<;>intro _))|refine Xm hs ?_|refine hf _ _ ?_|refine Zv ?_|refine go_c (s':=s') (.inr ⟨t,u,o1,o2,e',hs⟩) (fun st' hu=>?_))
  ·exact finw rfl (h (by assumption) st' hu)
  ·exact fin (k (by assumption) st' hu) rfl
end
end Go.Proofs.YtkidoddkbhchkaaGreatDoor
namespace Go.Aw
open Go
section
variable {P:Program}
theorem Xn {x y:Code} {Q:AExit→Env→St→Prop} {env:Env} {st:St} (h:AW P x (thenQ (fun env st=>AW P y Q env st) Q) env st):AW P (.seq x y) Q env st:=fun D I0 st0 w0 I β a w hr=>by
 refine wp_seq (wp_mono (h D I0 st0 w0 I β a w hr) ?_)
 rintro e a w ⟨I,β,env,st,ae,h1,h2,h3⟩
 cases ae with
 |normal=>cases e<;>first|exact h3 D I0 st0 w0 I β a w h1|exact h2.elim
 |exit i=>cases e<;>first|exact ⟨I,β,env,st,.exit i,h1,h2,h3⟩|exact h2.elim
 |goto i=>cases e<;>first|exact ⟨I,β,env,st,.goto i,h1,h2,h3⟩|exact h2.elim
 |ret=>cases e<;>first|exact ⟨I,β,env,st,.ret,h1,h2,h3⟩|exact h2.elim
 |pan v=>cases e<;>first|exact ⟨I,β,env,st,.pan v,h1,h2,h3⟩|exact h2.elim
theorem Xl {T:List (Nat×Ty)} (hP:POk P T) {c:Code} {Q:AExit→Env→St→Prop} {env:Env} {st:St} (h:awp T (PCalls P) c Q env st):AW P c Q env st:=
 Hq hP (Qg P) (fun _ _ _ _ _ h k=>k.mono h) c h
def Ends (R:Res→St→Prop) (r:Res) (st:St):Prop:=∃r2 st2,(r2=r∨r2=r.wk)∧St.le st2 st∧R r2 st2
theorem PCalls.ends {f:FuncId} {args:List V} {st:St} {R:Res→St→Prop} (h:PCalls P f args st (Ends R)):PCalls P f args st R:=by
 refine ⟨fun I w cargs hs ha=>(h.a I w cargs hs ha).mono ?_,h.b⟩
 rintro e w' ⟨I',st',r,k1,k2,k3,r2,st2,k4,k5,k6⟩
 have hr:Rel [] I st w I' (fun _=>none) {tmps:=[],boxes:=[],nxt:=0,sz:=0,gl:=[]} st' {tmps:=#[],defers:=[]} w':=
  ⟨k1,k2,⟨rfl,fun t v e=>(by cases e),fun id cs e=>(by cases e),fun id b e=>(by cases e),fun i j b e=>(by cases e),fun id b e=>(by cases e),rfl⟩⟩
 have hr':=hr.stLe k5
 refine ⟨I',st2,r2,hr'.fr,hr'.s,?_,k6⟩
 rcases k4 with rfl|rfl
 ·exact k3
 ·cases e with
  |returned c=>
   cases r with
   |ret v=>exact Rep.wk k3
   |pan v=>exact k3.elim
  |panicked chain=>
   cases r with
   |ret v=>exact k3.elim
   |pan v=>
    obtain ⟨c,h1,h2⟩:=k3
    exact ⟨c,h1,Rep.wk h2⟩
  |outgrown=>cases r<;>exact k3.elim
end
end Go.Aw
namespace Go.Proofs.YtkidoddkbhchkaaGreatDoor
open Go Go.Aw
def catchPL:List (List Bool×Nat):=[([false,false,false,false,false,false,false,false],0),([false,false,false,false,false,false,false,false],1),([true,false,false,false,false,false,false,false],1),([true,false,false,false,false,false,false,false],5),([false,true,false,false,false,false,false,false],0),([false,true,false,false,false,false,false,false],2),([true,true,false,false,false,false,false,false],2),([true,true,false,false,false,false,false,false],5),([true,false,false,false,false,true,false,false],1),([false,true,true,false,false,false,false,false],0),([false,true,true,false,false,false,false,false],3),([true,true,true,false,false,false,false,false],3),([true,true,true,false,false,false,false,false],5),([true,true,false,false,false,true,false,false],2),([false,true,true,true,false,false,false,false],0),([false,true,true,true,false,false,false,false],4),([true,true,true,true,false,false,false,false],4),([true,true,true,true,false,false,false,false],5),([true,true,true,false,false,true,false,false],3),([false,true,true,true,true,false,false,false],0),([true,true,true,true,true,false,false,false],5),([true,true,true,true,false,true,false,false],4),([true,true,true,true,true,true,false,false],6),([true,true,true,true,true,true,true,false],7)]
def closePL:List (List Bool×Nat):=[([false,false,false,false,false,false,false,false,false,false],0),([false,false,false,false,false,false,false,false,false,false],1),([false,false,false,false,false,false,false,false,false,false],5),([true,false,false,false,false,false,false,false,false,false],1),([true,false,false,false,false,false,false,false,false,false],5),([false,true,false,false,false,false,false,false,false,false],0),([false,true,false,false,false,false,false,false,false,false],2),([false,true,false,false,false,false,false,false,false,false],5),([false,false,false,false,false,true,false,false,false,false],0),([false,false,false,false,false,true,false,false,false,false],1),([false,false,false,false,false,true,false,false,false,false],6),([true,true,false,false,false,false,false,false,false,false],2),([true,true,false,false,false,false,false,false,false,false],5),([true,false,false,false,false,true,false,false,false,false],1),([true,false,false,false,false,true,false,false,false,false],6),([false,true,true,false,false,false,false,false,false,false],0),([false,true,true,false,false,false,false,false,false,false],3),([false,true,true,false,false,false,false,false,false,false],5),([false,true,false,false,false,true,false,false,false,false],0),([false,true,false,false,false,true,false,false,false,false],2),([false,true,false,false,false,true,false,false,false,false],6),([false,false,false,false,false,true,true,false,false,false],0),([false,false,false,false,false,true,true,false,false,false],1),([true,true,true,false,false,false,false,false,false,false],3),([true,true,true,false,false,false,false,false,false,false],5),([true,true,false,false,false,true,false,false,false,false],2),([true,true,false,false,false,true,false,false,false,false],6),([true,false,false,false,false,true,true,false,false,false],1),([false,true,true,true,false,false,false,false,false,false],0),([false,true,true,true,false,false,false,false,false,false],4),([false,true,true,true,false,false,false,false,false,false],5),([false,true,true,false,false,true,false,false,false,false],0),([false,true,true,false,false,true,false,false,false,false],3),([false,true,true,false,false,true,false,false,false,false],6),([false,true,false,false,false,true,true,false,false,false],0),([false,true,false,false,false,true,true,false,false,false],2),([true,true,true,true,false,false,false,false,false,false],4),([true,true,true,true,false,false,false,false,false,false],5),([true,true,true,false,false,true,false,false,false,false],3),([true,true,true,false,false,true,false,false,false,false],6),([true,true,false,false,false,true,true,false,false,false],2),([false,true,true,true,true,false,false,false,false,false],0),([false,true,true,true,true,false,false,false,false,false],5),([false,true,true,true,false,true,false,false,false,false],0),([false,true,true,true,false,true,false,false,false,false],4),([false,true,true,true,false,true,false,false,false,false],6),([false,true,true,false,false,true,true,false,false,false],0),([false,true,true,false,false,true,true,false,false,false],3),([true,true,true,true,true,false,false,false,false,false],5),([true,true,true,true,true,false,false,false,false,false],7),([true,true,true,true,false,true,false,false,false,false],4),([true,true,true,true,false,true,false,false,false,false],6),([true,true,true,false,false,true,true,false,false,false],3),([false,true,true,true,true,true,false,false,false,false],0),([false,true,true,true,true,true,false,false,false,false],6),([false,true,true,true,false,true,true,false,false,false],0),([false,true,true,true,false,true,true,false,false,false],4),([true,true,true,true,true,true,false,false,false,false],6),([true,true,true,true,true,true,false,false,false,false],7),([true,true,true,true,true,false,false,true,false,false],5),([true,true,true,true,true,false,false,true,false,false],8),([true,true,true,true,false,true,true,false,false,false],4),([false,true,true,true,true,true,true,false,false,false],0),([true,true,true,true,true,true,true,false,false,false],7),([true,true,true,true,true,true,false,true,false,false],6),([true,true,true,true,true,true,false,true,false,false],8),([true,true,true,true,true,false,false,true,true,false],5),([true,true,true,true,true,true,true,true,false,false],8),([true,true,true,true,true,true,false,true,true,false],6),([true,true,true,true,true,true,true,true,true,false],9)]
section
variable {st:St} {R:Res→St→Prop}
attribute [local irreducible] Go.Aw.appendTo
def nd0:Nd:=.mk 0 0 [] 0 0 []
def zeroN:List V:=[.int .i64 0,.int .i64 0,.str [],.int .i64 0,.int .i64 0,.slice 6 [] .full]
theorem XbC {bp bn ba be:Nat} {RS:St→Prop} (h:RS st):DCalls Tryz.prog 95 [.ptr bp 0,.ptr bn 0,.ptr ba 0,.ptr be 0] none st RS:=by
 refine ZF Xb [] Tryz.func95 rfl rfl rfl rfl rfl rfl rfl rfl (fun env0 he=>?_)
 subst he
 conv=>whnf
 refine Xn (Xl Xb ?_)
 repeat' ((conv=>whnf);first|(with_reducible first|exact Wa|exact Wb|exact Wc|refine Wd (by kernel_rfl) ?_|refine We ?_ ?_ ?_|refine W8 (by decide +kernel) ?_ ?_ ?_|refine W0 (by decide +kernel) ?_ ?_ ?_|refine W9 ?_ ?_ ?_|refine Yb0 ?_|(refine Yb1 ?_ ?_<;>intro _)|refine Wq (by omega) (by omega) ?_)|with_reducible refine WF ?_)
 all_goals exact h
theorem St.Xj {st:St} {b c:Nat} {cs:List V} (h:b≠c):(st.setBox b cs).box c=st.box c:=by simp [St.setBox,Ne.symm h]
noncomputable def closeOps:List Oper:=match Tryz.f95.body with|some (.seq _ (.seq _ (.seq _ (.seq _ (.region _ ops _)))))=>ops.toList|_=>[]
noncomputable def closeE (bs:List Bool) (bp bn ba be br:Nat) (sc:List V) (e:Int):Env:=
 {tmps:=putT [(6,.bool true),(14,.bool true),(13,.agg [.int .i64 e]),(5,.lptr 0 0),(4,fault e),(0,.ptr bp 0),(1,.ptr bn 0),(2,.ptr ba 0),(3,.ptr be 0)]
   closeOps
   [.agg zeroN,.ptr br 0,.ptr br 0,.ptr br 0,.agg sc,.lptr 0 0,.int .i64 e,.junk,.junk,.junk] bs,boxes:=[(0,[.int .i64 e])],nxt:=1,sz:=25,gl:=[]}
def closeS (st:St) (bn ba be:Nat) (sc:List V) (e:Int) (bs:List Bool):St:=
 match bs[7]?,bs[8]?,bs[9]? with
 |_,_,some true=>((st.setBox bn zeroN).setBox ba sc).setBox be [.int .i64 e]
 |_,some true,_=>(st.setBox bn zeroN).setBox ba sc
 |some true,_,_=>st.setBox bn zeroN
 |_,_,_=>st
set_option maxHeartbeats 8000000 in
theorem close_some {bp bn ba be br:Nat} {s:Sta} {e:Int} {RS:St→Prop} (hp:st.box bp=some [.ptr br 0]) (hr:Has st br s) {n0:Nd} {s0:Sta} {o1 o2 o3:Own} {e0:Int}
 (hn:st.box bn=some [.int .i64 n0.kind,.int .i64 n0.form,.str n0.text,.int .i64 n0.line,.int .i64 n0.col,.slice 6 (encs n0.kids) o1])
 (ha:st.box ba=some [.slice 4 (encTs s0.toks) o2,.int .i64 s0.pos,.slice 1 (ints s0.opn) o3,.int .i64 s0.wait]) (he:st.box be=some [.int .i64 e0])
 (d1:bn≠bp) (d2:bn≠br) (d3:bn≠ba) (d4:bn≠be) (d5:ba≠bp) (d6:ba≠br) (d7:ba≠be)
 (h:RS (((st.setBox bn zeroN).setBox ba s.cells).setBox be [.int .i64 e])):DCalls Tryz.prog 95 [.ptr bp 0,.ptr bn 0,.ptr ba 0,.ptr be 0] (some (fault e)) st RS:=by
 refine ZF Xb [] Tryz.func95 rfl rfl rfl rfl rfl rfl rfl rfl (fun env0 he=>?_)
 subst he
 conv=>whnf
 refine Xn (Xl Xb ?_)
 repeat' ((conv=>whnf);first|(with_reducible first|exact Wa|exact Wb|exact Wc|refine Wd (by kernel_rfl) ?_|refine We ?_ ?_ ?_|refine W8 (by decide +kernel) ?_ ?_ ?_|refine W0 (by decide +kernel) ?_ ?_ ?_|refine W9 ?_ ?_ ?_|refine Yb0 ?_|(refine Yb1 ?_ ?_<;>intro _)|refine Wq (by omega) (by omega) ?_)|with_reducible refine WF ?_)
 refine Xn (Xl Xb ?_)
 repeat' ((conv=>whnf);first|(with_reducible first|exact Wa|exact Wb|exact Wc|refine Wd (by kernel_rfl) ?_|refine We ?_ ?_ ?_|refine W8 (by decide +kernel) ?_ ?_ ?_|refine W0 (by decide +kernel) ?_ ?_ ?_|refine W9 ?_ ?_ ?_|refine Yb0 ?_|(refine Yb1 ?_ ?_<;>intro _)|refine Wq (by omega) (by omega) ?_)|with_reducible refine WF ?_)
 refine Xn (Xl Xb ?_)
 repeat' ((conv=>whnf);first|(with_reducible first|exact Wa|exact Wb|exact Wc|refine Wd (by kernel_rfl) ?_|refine We ?_ ?_ ?_|refine W8 (by decide +kernel) ?_ ?_ ?_|refine W0 (by decide +kernel) ?_ ?_ ?_|refine W9 ?_ ?_ ?_|refine Yb0 ?_|(refine Yb1 ?_ ?_<;>intro _)|refine Wq (by omega) (by omega) ?_)|with_reducible refine WF ?_)
 have ha':(st.setBox bn zeroN).box ba=some [.slice 4 (encTs s0.toks) o2,.int .i64 s0.pos,.slice 1 (ints s0.opn) o3,.int .i64 s0.wait]:=by rw [St.Xj d3];exact ha
 have he':((st.setBox bn zeroN).setBox ba s.cells).box be=some [.int .i64 e0]:=by rw [St.Xj d7,St.Xj d4];exact he
 refine XgI Xb (Qg _) (fun bs=>closeE bs bp bn ba be br s.cells e) (closeS st bn ba be s.cells e) closePL (by decide +kernel) Yl (St.le_refl _) ?_ h
 unfold closePL
 rcases hr with hr|⟨t,u,q1,q2,q3,hr⟩
 all_goals repeat' (first|refine List.forall_mem_cons.2 ⟨?_,?_⟩|exact fun _ h=>nomatch h)
 repeat' ((conv=>whnf);first|(with_reducible first|exact Wa|exact Wb|exact Wc|refine Wd (by kernel_rfl) ?_|refine We ?_ ?_ ?_|refine W8 (by decide +kernel) ?_ ?_ ?_|refine W0 (by decide +kernel) ?_ ?_ ?_|refine W9 ?_ ?_ ?_|refine Yb0 ?_|(refine Yb1 ?_ ?_<;>intro _)|refine Wq (by omega) (by omega) ?_)|refine Xm hp ?_|refine Xm hr ?_|refine Xm hn ?_|refine Xm ha' ?_|refine Xm he' ?_|with_reducible refine WF ?_)
 all_goals conv=>whnf
 all_goals (refine ⟨Yl,?_⟩)
 all_goals exact St.le_refl _
end
abbrev Rs:=Sum (Int×Sta) (Nd×Sta)
def Tells (st:St) (b:Nat) (R:Res→St→Prop):Rs→Prop
 | .inr (n,s')=>∀st',Upd st st' b s'→R (.ret (enc n)) st'
 | .inl (e,s')=>∀st',Upd st st' b s'→R (.pan (fault e)) st'
def Reads (f:FuncId) (s:Sta) (d:Int) (q:Rs):Prop:=∀(b:Nat) (st:St) (R:Res→St→Prop),Has st b s→Tells st b R q→PC f [.ptr b 0,.int .i64 d] st R
def catchR (s:Sta) (deep:Int) (q:Rs):Nd×Sta×Int:=
 if deep<1 then (nd0,s,2) else match q with
  | .inr (n,s')=>(n,s',0)
  | .inl (e,s')=>(nd0,s',e)
def encRT (p:Nd×Sta×Int):V:=encR3 p.1 p.2.1 p.2.2
section
variable {st:St} {R:Res→St→Prop}
attribute [local irreducible] Go.Aw.appendTo
theorem XO {st:St} {b c:Nat} {cs:List V} (h:(st.setBox b cs).fresh c):b≠c∧st.fresh c:=by
 by_cases e:b=c
 ·subst e
  have:=h.1
  rw [St.Xd] at this
  cases this
 ·refine ⟨e,?_,h.2⟩
  have:=h.1
  rw [St.Xj e] at this
  exact this
theorem Xen {st:St} {K:Nat→Prop} (h:∀b,st.fresh b→K b):∀b,st.fresh b→K b:=h
theorem Xiy {st:St} {b:Nat} {cs:List V} (h:st.box b=some cs):St.le st (st.setBox b cs):=by rw [St.set_self h];exact St.le_refl _
noncomputable def catchOps:List Oper:=match Tryz.f49.body with|some (.seq _ (.seq _ (.seq _ (.seq _ (.seq _ (.seq (.region _ ops _) _))))))=>ops.toList|_=>[]
noncomputable def catchE (bs:List Bool) (b1 b2 b3 b4 b5:Nat) (nc sc:List V):Env:=
 {tmps:=putT [(6,.ptr b1 0),(7,.ptr b2 0),(8,.ptr b3 0),(9,.ptr b5 0)] catchOps [.agg nc,.ptr b4 0,.ptr b4 0,.ptr b4 0,.agg sc,.junk,.junk,.junk] bs,boxes:=[],nxt:=1,sz:=28,gl:=[6,7,8,9,12]}
def catchS (st:St) (b2 b3:Nat) (sc:List V) (bs:List Bool):St:=
 match bs[6]?,bs[7]? with
 |_,some true=>(st.setBox b2 sc).setBox b3 [.int .i64 0]
 |some true,_=>st.setBox b2 sc
 |_,_=>st
set_option maxHeartbeats 8000000 in
theorem Xh1 {f:FuncId} {s:Sta} {deep:Int} {q:Rs} (hq:¬deep<1→Reads f s (if 100<deep then 100 else deep) q) (h:R (.ret (encRT (catchR s deep q))) st):PC 49 [encS s,.int .i64 deep,.func f [] []] st R:=by
 refine PCalls.ends (GN Xb [6,7,8,9,12] Tryz.func49 rfl (by decide) rfl rfl rfl rfl rfl rfl ⟨_,Tryz.func95,rfl,by decide⟩ rfl ?_)
 repeat' ((conv=>whnf);first|(with_reducible first|exact Wa|exact Wb|exact Wc|refine Wd (by kernel_rfl) ?_|refine We ?_ ?_ ?_|refine W8 (by decide +kernel) ?_ ?_ ?_|refine W0 (by decide +kernel) ?_ ?_ ?_|refine W9 ?_ ?_ ?_|refine Yb0 ?_|(refine Yb1 ?_ ?_<;>intro _)|refine Wq (by omega) (by omega) ?_)|refine Xen (fun b5 f5=>?_)|refine Xm (St.Xd ..) ?_|with_reducible refine WF ?_)
 rename_i b1 f1 b2 f2 b3 f3 b4 f4
 obtain ⟨n12,f2a⟩:=XO f2
 obtain ⟨n23,f3a⟩:=XO f3
 obtain ⟨n13,f3b⟩:=XO f3a
 obtain ⟨n34,f4a⟩:=XO f4
 obtain ⟨n24,f4b⟩:=XO f4a
 obtain ⟨n14,f4c⟩:=XO f4b
 obtain ⟨n45,f5a⟩:=XO f5
 obtain ⟨n35,f5b⟩:=XO f5a
 obtain ⟨n25,f5c⟩:=XO f5b
 obtain ⟨n15,f5d⟩:=XO f5c
 conv=>whnf
 refine ⟨rfl,Xo rfl ?_⟩
 generalize hst5:St.setBox _ b5 [V.ptr b4 0]=st5
 have k1:st5.box b1=some zeroN:=by subst hst5;rw [St.Xj n15.symm,St.Xj n15.symm,St.Xj n14.symm,St.Xj n13.symm,St.Xj n12.symm,St.Xd];rfl
 have k2:st5.box b2=some [.slice 4 (encTs sta0.toks) .full,.int .i64 sta0.pos,.slice 1 (ints sta0.opn) .full,.int .i64 sta0.wait]:=by subst hst5;rw [St.Xj n25.symm,St.Xj n25.symm,St.Xj n24.symm,St.Xj n23.symm,St.Xd];rfl
 have k3:st5.box b3=some [.int .i64 0]:=by subst hst5;rw [St.Xj n35.symm,St.Xj n35.symm,St.Xj n34.symm,St.Xd]
 have k4:Has st5 b4 s:=by subst hst5;refine .inr ⟨tk0,sta0,.full,.full,0,?_⟩;rw [St.Xj n45.symm,St.Xj n45.symm,St.Xd];rfl
 have k5:st5.box b5=some [.ptr b4 0]:=by subst hst5;rw [St.Xd]
 have kle:st.le st5:=by
  subst hst5
  exact St.Xg (St.Xg (St.Xg (St.Xg (St.Xg (St.Xg (St.le_refl _) f1.1 _) f2a.1 _) f3b.1 _) f4c.1 _) f5d.1 _) f5d.1 _
 have kpan:∀(st6:St) (e:Int) (s':Sta),Upd st5 st6 b4 s'→st6.box b5=some [.ptr b4 0]∧st6.box b1=some zeroN∧st6.box b2=some [.slice 4 (encTs sta0.toks) .full,.int .i64 sta0.pos,.slice 1 (ints sta0.opn) .full,.int .i64 sta0.wait]∧st6.box b3=some [.int .i64 0]∧st.le st6:=by
  rintro st6 e s' ⟨_,cs,rfl⟩
  exact ⟨by rw [St.Xj n45];exact k5,by rw [St.Xj n14.symm];exact k1,by rw [St.Xj n24.symm];exact k2,by rw [St.Xj n34.symm];exact k3,St.Xg kle f4c.1 _⟩
 clear hst5 f2 f3 f4 f5 f3a f4a f4b f5a f5b f5c
 refine Xn (Xl Xb ?_)
 repeat' ((conv=>whnf);first|(with_reducible first|exact Wa|exact Wb|exact Wc|refine Wd (by kernel_rfl) ?_|refine We ?_ ?_ ?_|refine W8 (by decide +kernel) ?_ ?_ ?_|refine W0 (by decide +kernel) ?_ ?_ ?_|refine W9 ?_ ?_ ?_|refine Yb0 ?_|(refine Yb1 ?_ ?_<;>intro _)|refine Wq (by omega) (by omega) ?_)|refine Xm k5 ?_|refine Zv ?_|with_reducible refine WF ?_)
 ·refine close_some (n0:=nd0) (s0:=sta0) k5 k4 k1 k2 k3 n15 n14 n12 n13 n25 n24 n23 ?_
  have g1:(((st5.setBox b1 zeroN).setBox b2 s.cells).setBox b3 [.int .i64 2]).box b1=some zeroN:=by rw [St.Xj n13.symm,St.Xj n12.symm,St.Xd]
  have g2:(((st5.setBox b1 zeroN).setBox b2 s.cells).setBox b3 [.int .i64 2]).box b2=some s.cells:=by rw [St.Xj n23.symm,St.Xd]
  have gl:st.le (((st5.setBox b1 zeroN).setBox b2 s.cells).setBox b3 [.int .i64 2]):=St.Xg (St.Xg (St.Xg kle f1.1 _) f2a.1 _) f3b.1 _
  unfold catchR at h
  rw [if_pos (by assumption)] at h
  repeat' ((conv=>whnf);first|(with_reducible first|exact Wa|exact Wb|exact Wc|refine Wd (by kernel_rfl) ?_|refine We ?_ ?_ ?_|refine W8 (by decide +kernel) ?_ ?_ ?_|refine W0 (by decide +kernel) ?_ ?_ ?_|refine W9 ?_ ?_ ?_|refine Yb0 ?_|(refine Yb1 ?_ ?_<;>intro _)|refine Wq (by omega) (by omega) ?_)|refine Xm g1 ?_|refine Xm g2 ?_|refine Xm (St.Xd ..) ?_|with_reducible refine WF ?_)
  all_goals exact finl gl rfl h
 ·rename_i hd
  unfold catchR at h
  rw [if_neg hd] at h
  have hq:=hq hd b4
  refine Xn (Xl Xb ?_)
  cases q with
  |inl q=>
   obtain ⟨e,s'⟩:=q
   repeat' ((conv=>whnf);first|(with_reducible first|exact Wa|exact Wb|exact Wc|refine Wd (by kernel_rfl) ?_|refine We ?_ ?_ ?_|refine W8 (by decide +kernel) ?_ ?_ ?_|refine W0 (by decide +kernel) ?_ ?_ ?_|refine W9 ?_ ?_ ?_|refine Yb0 ?_|(refine Yb1 ?_ ?_<;>intro _)|refine Wq (by omega) (by omega) ?_)|refine Xm k5 ?_|refine ⟨_,rfl,?_⟩|refine hq _ _ k4 (fun st6 hu=>?_)|with_reducible refine WF ?_)
   obtain ⟨j5,j1,j2,j3,jle⟩:=kpan st6 e s' hu
   refine close_some (n0:=nd0) (s0:=sta0) j5 hu.1 j1 j2 j3 n15 n14 n12 n13 n25 n24 n23 ?_
   have g1:(((st6.setBox b1 zeroN).setBox b2 s'.cells).setBox b3 [.int .i64 e]).box b1=some zeroN:=by rw [St.Xj n13.symm,St.Xj n12.symm,St.Xd]
   have g2:(((st6.setBox b1 zeroN).setBox b2 s'.cells).setBox b3 [.int .i64 e]).box b2=some s'.cells:=by rw [St.Xj n23.symm,St.Xd]
   have gl:st.le (((st6.setBox b1 zeroN).setBox b2 s'.cells).setBox b3 [.int .i64 e]):=St.Xg (St.Xg (St.Xg jle f1.1 _) f2a.1 _) f3b.1 _
   repeat' ((conv=>whnf);first|(with_reducible first|exact Wa|exact Wb|exact Wc|refine Wd (by kernel_rfl) ?_|refine We ?_ ?_ ?_|refine W8 (by decide +kernel) ?_ ?_ ?_|refine W0 (by decide +kernel) ?_ ?_ ?_|refine W9 ?_ ?_ ?_|refine Yb0 ?_|(refine Yb1 ?_ ?_<;>intro _)|refine Wq (by omega) (by omega) ?_)|refine Xm g1 ?_|refine Xm g2 ?_|refine Xm (St.Xd ..) ?_|with_reducible refine WF ?_)
   all_goals exact finl gl rfl h
  |inr q=>
   obtain ⟨n,s'⟩:=q
   have kret:=fun st6 hu=>kpan st6 0 s' hu
   repeat' ((conv=>whnf);first|(with_reducible first|exact Wa|exact Wb|exact Wc|refine Wd (by kernel_rfl) ?_|refine We ?_ ?_ ?_|refine W8 (by decide +kernel) ?_ ?_ ?_|refine W0 (by decide +kernel) ?_ ?_ ?_|refine W9 ?_ ?_ ?_|refine Yb0 ?_|(refine Yb1 ?_ ?_<;>intro _)|refine Wq (by omega) (by omega) ?_)|refine Xm k5 ?_|refine ⟨_,rfl,?_⟩|refine hq _ _ k4 (fun st6 hu=>?_)|refine Xm (kret st6 hu).2.1 ?_|with_reducible refine WF ?_)
   obtain ⟨j5,j1,j2,j3,jle⟩:=kret st6 hu
   generalize hst7:st6.setBox b1 (encN n)=st7
   have i1:st7.box b1=some (encN n):=by subst hst7;rw [St.Xd]
   have i5:st7.box b5=some [.ptr b4 0]:=by subst hst7;rw [St.Xj n15];exact j5
   have i2:st7.box b2=some [.slice 4 (encTs sta0.toks) .full,.int .i64 sta0.pos,.slice 1 (ints sta0.opn) .full,.int .i64 sta0.wait]:=by subst hst7;rw [St.Xj n12];exact j2
   have i3:(st7.setBox b2 s'.cells).box b3=some [.int .i64 0]:=by subst hst7;rw [St.Xj n23,St.Xj n13];exact j3
   have i4:Has st7 b4 s':=by
    subst hst7
    rcases hu.1 with e|⟨t,u,o1,o2,e',e⟩
    ·exact .inl (by rw [St.Xj n14];exact e)
    ·exact .inr ⟨t,u,o1,o2,e',by rw [St.Xj n14];exact e⟩
   have ile:st.le st7:=by subst hst7;exact St.Xg jle f1.1 _
   refine Xn (XgI Xb (Qg _) (fun bs=>catchE bs b1 b2 b3 b4 b5 (encN n) s'.cells) (catchS st7 b2 b3 s'.cells) catchPL (by decide +kernel) Yl (by rw [←hst7];exact St.le_refl _) ?_ ?_)
   ·skip
    unfold catchPL
    rcases i4 with i4|⟨t,u,q1,q2,q3,i4⟩
    all_goals repeat' (first|refine List.forall_mem_cons.2 ⟨?_,?_⟩|exact fun _ h=>nomatch h)
    repeat' ((conv=>whnf);first|(with_reducible first|exact Wa|exact Wb|exact Wc|refine Wd (by kernel_rfl) ?_|refine We ?_ ?_ ?_|refine W8 (by decide +kernel) ?_ ?_ ?_|refine W0 (by decide +kernel) ?_ ?_ ?_|refine W9 ?_ ?_ ?_|refine Yb0 ?_|(refine Yb1 ?_ ?_<;>intro _)|refine Wq (by omega) (by omega) ?_)|refine Xm i5 ?_|refine Xm i1 ?_|refine Xm i4 ?_|refine Xm i2 ?_|refine Xm i3 ?_|with_reducible refine WF ?_)
    all_goals conv=>whnf
    all_goals (refine ⟨Yl,?_⟩)
    all_goals first|exact St.le_refl _|exact Xiy i1
   ·refine Xl Xb (XbC (bp:=b5) ?_)
    have g1:((st7.setBox b2 s'.cells).setBox b3 [.int .i64 0]).box b1=some (encN n):=by rw [St.Xj n13.symm,St.Xj n12.symm];exact i1
    have g2:((st7.setBox b2 s'.cells).setBox b3 [.int .i64 0]).box b2=some s'.cells:=by rw [St.Xj n23.symm,St.Xd]
    have gl:st.le ((st7.setBox b2 s'.cells).setBox b3 [.int .i64 0]):=St.Xg (St.Xg ile f2a.1 _) f3b.1 _
    repeat' ((conv=>whnf);first|(with_reducible first|exact Wa|exact Wb|exact Wc|refine Wd (by kernel_rfl) ?_|refine We ?_ ?_ ?_|refine W8 (by decide +kernel) ?_ ?_ ?_|refine W0 (by decide +kernel) ?_ ?_ ?_|refine W9 ?_ ?_ ?_|refine Yb0 ?_|(refine Yb1 ?_ ?_<;>intro _)|refine Wq (by omega) (by omega) ?_)|refine Xm g1 ?_|refine Xm g2 ?_|refine Xm (St.Xd ..) ?_|with_reducible refine WF ?_)
    all_goals exact finl gl rfl h
end
def mu (s:Sta):Nat:=4*(s.toks.length - s.pos.toNat)+s.opn.length+(2 - s.wait.toNat)
theorem opn_mu (s:Sta):s.opn.length≤mu s:=by unfold mu;omega
theorem Um {s:Sta} (h:s.opn≠[]):(closedF s).opn.length+1=s.opn.length:=by
 have:0<s.opn.length:=List.length_pos_iff.2 h
 simp only [closedF,List.length_dropLast]
 omega
theorem XgH {s:Sta} {t:Tk} (h:s.toks[s.pos.toNat]? =some t):s.pos.toNat<s.toks.length:=(List.getElem?_eq_some_iff.1 h).1
theorem XlM {s:Sta} (h:(endFT s).2.2=0):mu (endFT s).2.1≤mu s∧((endFT s).1.kind≠21→mu (endFT s).2.1<mu s):=by
 unfold endFT at h ⊢
 split
 ·exact ⟨Nat.le_refl _,fun e=>absurd rfl e⟩
 ·split
  ·rename_i e1 e2
   have:=Um e1
   refine ⟨?_,fun _=>?_⟩<;>simp only [mu,closedF] at* <;>omega
  ·rename_i e1 e2
   rw [if_neg e1,if_neg e2] at h
   cases h
theorem Xk4 {t:Tk} {s:Sta} (h0:0≤s.pos) (h1:0≤s.wait) (h2:s.wait<2) (ht:s.toks[s.pos.toNat]? =some t):mu (beginF t s).2<mu s:=by
 have:=XgH ht
 unfold beginF
 split
 ·rename_i e;simp only [mu];rw [e,show Int.toNat 2=2 from rfl,show Int.toNat 1=1 from rfl];omega
 ·split
  ·simp only [mu,openedF,List.length_append,List.length_singleton];omega
  ·simp only [mu];omega
theorem line_mu {t:Tk} {s:Sta} (h0:0≤s.pos) (h2:s.wait≤2) (ht:s.toks[s.pos.toNat]? =some t):mu (lineF t s).2<mu s:=by
 have:=XgH ht
 unfold lineF
 split
 ·rename_i e
  have:=Um (XdB e.1)
  simp only [mu,closedF] at *;omega
 ·split<;>(simp only [mu];omega)
theorem Xk9 {t:Tk} {s:Sta} (h0:0≤s.pos) (ht:s.toks[s.pos.toNat]? =some t) (h:(braceF t s).2.2=0):mu (braceF t s).2.1<mu s:=by
 have:=XgH ht
 unfold braceF at h ⊢
 split
 ·simp only [mu,openedF,List.length_append,List.length_singleton];omega
 ·rename_i e1
  rw [if_neg e1] at h
  split
  ·rename_i e2
   rw [if_pos e2] at h
   split
   ·rename_i e3;rw [if_pos e3] at h;cases h
   ·rename_i e3
    have:=Um (s:=s) (fun e=>e3 (.inl e))
    simp only [mu,closedF] at *;omega
  ·simp only [mu];omega
theorem XfO:∀(n:Nat) (s:Sta),0≤s.pos→0≤s.wait→s.wait≤2→(nextG n s).2.2=0→mu (nextG n s).2.1≤mu s∧((nextG n s).1.kind≠21→mu (nextG n s).2.1<mu s)
 |0,s,h0,h1,h2,h=>XlM h
 |n+1,s,h0,h1,h2,h=>by
  unfold nextG at h ⊢
  cases ht:s.toks[s.pos.toNat]? with
  |none=>rw [ht] at h;exact XlM h
  |some t=>
   rw [ht] at h
   dsimp only at h ⊢
   split
   ·rename_i e
    have:=Xk4 h0 h1 e.2 ht
    exact ⟨Nat.le_of_lt this,fun _=>this⟩
   ·rename_i e1
    rw [if_neg e1] at h
    have hl:=line_mu h0 h2 ht
    split
    ·rename_i e2
     rw [if_pos e2] at h
     split
     ·rename_i e3
      rw [if_pos e3] at h
      have hz:=ZP e3
      have:=XfO n (lineF t s).2 (by rw [hz];show 0≤s.pos+1;omega) (by rw [hz];exact Int.le_refl _) (by rw [hz];show (0:Int)≤2;decide) h
      exact ⟨by omega,fun e=>by omega⟩
     ·exact ⟨Nat.le_of_lt hl,fun _=>hl⟩
    ·rename_i e2
     rw [if_neg e2] at h
     have:=Xk9 h0 ht h
     exact ⟨Nat.le_of_lt this,fun _=>this⟩
theorem Zu {s:Sta} (h:(nextM s).2.2=0):mu (nextM s).2.1≤mu s∧((nextM s).1.kind≠21→mu (nextM s).2.1<mu s):=by
 unfold nextM at h ⊢
 cases hm:mayF s with
 |false=>rw [hm] at h;cases h
 |true=>
  rw [hm,if_pos rfl] at h
  rw [if_pos rfl]
  unfold mayF at hm
  simp only [Bool.and_eq_true,decide_eq_true_eq] at hm
  exact XfO _ s (by omega) (by omega) (by omega) h
theorem Xil {s:Sta} (h:¬(endFT s).2.2=0):(endFT s).1=tk0:=by
 unfold endFT at h ⊢
 split
 ·rename_i e;rw [if_pos e] at h;exact absurd rfl h
 ·rename_i e;rw [if_neg e] at h
  split
  ·rename_i e;rw [if_pos e] at h;exact absurd rfl h
  ·rfl
theorem Xji {t:Tk} {s:Sta} (h:¬(braceF t s).2.2=0):(braceF t s).1=tk0:=by
 unfold braceF at h ⊢
 split
 ·rename_i e;rw [if_pos e] at h;exact absurd rfl h
 ·rename_i e;rw [if_neg e] at h
  split
  ·rename_i e;rw [if_pos e] at h
   split
   ·rfl
   ·rename_i e;rw [if_neg e] at h;exact absurd rfl h
  ·rename_i e;rw [if_neg e] at h;exact absurd rfl h
theorem Xdo:∀(n:Nat) (s:Sta),¬(nextG n s).2.2=0→(nextG n s).1=tk0
 |0,s,h=>Xil h
 |n+1,s,h=>by
  unfold nextG at h ⊢
  cases ht:s.toks[s.pos.toNat]? with
  |none=>rw [ht] at h;exact Xil h
  |some t=>
   rw [ht] at h
   dsimp only at h ⊢
   split
   ·rename_i e;rw [if_pos e] at h;exact absurd rfl h
   ·rename_i e;rw [if_neg e] at h
    split
    ·rename_i e;rw [if_pos e] at h
     split
     ·rename_i e;rw [if_pos e] at h;exact Xdo n _ h
     ·rename_i e;rw [if_neg e] at h;exact absurd rfl h
    ·rename_i e;rw [if_neg e] at h;exact Xji h
theorem XfQ {s:Sta} (h:¬(nextM s).2.2=0):(nextM s).1=tk0:=by
 unfold nextM at h ⊢
 cases hm:mayF s with
 |false=>rfl
 |true=>rw [hm,if_pos rfl] at h;rw [if_pos rfl];exact Xdo _ _ h
theorem Jp {s:Sta} {k:Int} {x:List UInt8} (h:isF s k x=true) (hk:k≠0):(nextM s).2.2=0:=by
 apply Classical.byContradiction
 intro e
 unfold isF at h
 rw [XfQ e] at h
 simp only [tk0,Bool.and_eq_true,beq_iff_eq] at h
 exact hk h.1.symm
theorem Qq {s:Sta} {k:Int} {x:List UInt8} (h:isF s k x=true) (hk:k≠0) (hk2:k≠21):mu (nextM s).2.1<mu s:=by
 refine (Zu (Jp h hk)).2 fun e=>?_
 unfold isF at h
 simp only [Bool.and_eq_true,beq_iff_eq] at h
 exact hk2 (h.1.symm.trans e)
abbrev Ls:=Sum (Int×Sta) (List Nd×Sta)
def takeP (s:Sta):Rs:=if (nextM s).2.2=0 then .inr (leafT (nextM s).1,(nextM s).2.1) else .inl ((nextM s).2.2,s)
def badP (s:Sta):Rs:=.inl (badE s,s)
def wantP (s:Sta) (k:Int) (x:List UInt8):Rs:=if isF s k x then takeP s else badP s
def startsF (t:Tk):Bool:=t.kind==2||t.kind==4||t.kind==1||(t.kind==15&&(t.text==[40]||t.text==[91]))
def nodeK (k:Int) (l:List Nd):Nd:=.mk k 0 [] 0 0 l
def rowL (A:Sta→Rs) (l:List Nd) (s:Sta):Ls:=
 if startsF (nextM s).1 then match A s with
  | .inl e=>.inl e
  | .inr p=>if mu p.2<mu s then rowL A (l++[p.1]) p.2 else .inl (2,s)
 else .inr (l,s)
termination_by mu s
def rowP (A:Sta→Rs) (s:Sta):Rs:=
 match A s with
 | .inl e=>.inl e
 | .inr p=>match rowL A [p.1] p.2 with
   | .inl e=>.inl e
   | .inr q=>if q.1.length=1 then .inr (p.1,q.2) else .inr (nodeK 39 q.1,q.2)
def arrL (A:Sta→Rs) (l:List Nd) (s:Sta):Ls:=
 if isF s 10 [45,62] then match rowP A (nextM s).2.1 with
  | .inl e=>.inl e
  | .inr p=>if mu p.2<mu s then arrL A (l++[leafT (nextM s).1,p.1]) p.2 else .inl (2,s)
 else .inr (l,s)
termination_by mu s
def arrowsP (A:Sta→Rs) (n:Nd) (s:Sta):Rs:=
 match arrL A [n] s with
 | .inl e=>.inl e
 | .inr q=>if q.1.length=1 then .inr (n,q.2) else .inr (nodeK 37 q.1,q.2)
def wholeP (A:Sta→Rs) (s:Sta):Rs:=
 match rowP A s with
 | .inl e=>.inl e
 | .inr p=>arrowsP A p.1 p.2
def fullP (A:Sta→Rs) (s:Sta):Rs:=
 match rowP A s with
 | .inl e=>.inl e
 | .inr p=>if isF p.2 10 [61,62] then match wholeP A (nextM p.2).2.1 with
    | .inl e=>.inl e
    | .inr q=>.inr (nodeK 38 [p.1,leafT (nextM p.2).1,q.1],q.2)
   else arrowsP A p.1 p.2
def typesL (Y:Sta→Rs) (l:List Nd) (s:Sta):Ls:=
 if isF s 15 [44] then match Y (nextM s).2.1 with
  | .inl e=>.inl e
  | .inr p=>if mu p.2<mu s then typesL Y (l++[leafT (nextM s).1,p.1]) p.2 else .inl (2,s)
 else .inr (l,s)
termination_by mu s
def commaL (l:List Nd) (s:Sta):List Nd×Sta:=
 if isF s 15 [44] then if mu (nextM s).2.1<mu s then commaL (l++[leafT (nextM s).1]) (nextM s).2.1 else (l,s) else (l,s)
termination_by mu s
def finP (k:Int) (l:List Nd) (s:Sta) (x:List UInt8):Rs:=match wantP s 15 x with
 | .inl e=>.inl e
 | .inr p=>.inr (nodeK k (l++[p.1]),p.2)
def roundP (Y:Sta→Rs) (s:Sta):Rs:=
 match takeP s with
 | .inl e=>.inl e
 | .inr p=>
   if isF p.2 10 [45,62] then finP 3 [p.1,leafT (nextM p.2).1] (nextM p.2).2.1 [41]
   else if isF p.2 15 [41] then finP 3 [p.1] p.2 [41]
   else if isF p.2 15 [44] then finP 3 (commaL [p.1] p.2).1 (commaL [p.1] p.2).2 [41]
   else match Y p.2 with
    | .inl e=>.inl e
    | .inr q=>match typesL Y [p.1,q.1] q.2 with
      | .inl e=>.inl e
      | .inr r=>finP (if 2<r.1.length then 5 else 4) r.1 r.2 [41]
def squareP (Y:Sta→Rs) (s:Sta):Rs:=
 match takeP s with
 | .inl e=>.inl e
 | .inr p=>
   if isF p.2 15 [93] then .inr (nodeK 3 [p.1,leafT (nextM p.2).1],(nextM p.2).2.1)
   else match Y p.2 with
    | .inl e=>.inl e
    | .inr q=>finP 6 [p.1,q.1] q.2 [93]
def atomP (Y:Sta→Rs) (s:Sta):Rs:=
 if startsF (nextM s).1 then if (nextM s).1.kind=15 then if (nextM s).1.text=[40] then roundP Y s else squareP Y s else takeP s else badP s
def typeP:Nat→Sta→Rs
 |0,s=>.inl (2,s)
 |d+1,s=>wholeP (atomP (typeP d)) s
def Bads (A:Sta→Rs):Prop:=∀s e s',A s=.inl (e,s')→e≠0
def Falls (A:Sta→Rs):Prop:=∀s n s',A s=.inr (n,s')→mu s'<mu s
theorem Xa2 (s:Sta):badE s≠0:=by
 unfold badE
 split
 ·decide
 ·rename_i e;exact e
theorem JN:Bads takeP:=fun s e s' h=>by
 unfold takeP at h
 split at h
 ·cases h
 ·rename_i hn;cases h;exact hn
theorem XeY:Bads badP:=fun s e s' h=>by unfold badP at h;cases h;exact Xa2 s
theorem Xi9 {k:Int} {x:List UInt8}:Bads (fun s=>wantP s k x):=fun s e s' h=>by
 unfold wantP at h
 dsimp only at h
 split at h
 ·exact JN _ _ _ h
 ·exact XeY _ _ _ h
theorem UK {k:Int} {l:List Nd} {x:List UInt8}:Bads (fun s=>finP k l s x):=fun s e s' h=>by
 unfold finP at h
 dsimp only at h
 split at h
 ·rename_i e1 hw
  cases h
  exact Xi9 _ _ _ hw
 ·cases h
theorem Xm5 {A:Sta→Rs} (hA:Bads A) (l:List Nd) (s:Sta):∀e s',rowL A l s=.inl (e,s')→e≠0:=by
 fun_induction rowL A l s with
 |case1 l s h1 e1 h2=>intro e s' h;cases h;exact hA _ _ _ h2
 |case2 l s h1 p h2 h3 ih=>exact ih
 |case3 l s h1 p h2 h3=>intro e s' h;cases h;decide
 |case4 l s h1=>intro e s' h;cases h
theorem Xbv {A:Sta→Rs} (hA:Bads A):Bads (rowP A):=fun s e s' h=>by
 unfold rowP at h
 split at h
 ·rename_i h1;cases h;exact hA _ _ _ h1
 ·split at h
  ·rename_i h1;cases h;exact Xm5 hA _ _ _ _ h1
  ·split at h<;>cases h
theorem Xk0 {A:Sta→Rs} (hA:Bads A) (l:List Nd) (s:Sta):∀e s',arrL A l s=.inl (e,s')→e≠0:=by
 fun_induction arrL A l s with
 |case1 l s h1 e1 h2=>intro e s' h;cases h;exact Xbv hA _ _ _ h2
 |case2 l s h1 p h2 h3 ih=>exact ih
 |case3 l s h1 p h2 h3=>intro e s' h;cases h;decide
 |case4 l s h1=>intro e s' h;cases h
theorem Xay {A:Sta→Rs} (hA:Bads A) {n:Nd}:Bads (arrowsP A n):=fun s e s' h=>by
 unfold arrowsP at h
 split at h
 ·rename_i h1;cases h;exact Xk0 hA _ _ _ _ h1
 ·split at h<;>cases h
theorem Xbw {A:Sta→Rs} (hA:Bads A):Bads (wholeP A):=fun s e s' h=>by
 unfold wholeP at h
 split at h
 ·rename_i h1;cases h;exact Xbv hA _ _ _ h1
 ·exact Xay hA _ _ _ h
theorem Xc5 {A:Sta→Rs} (hA:Bads A):Bads (fullP A):=fun s e s' h=>by
 unfold fullP at h
 split at h
 ·rename_i h1;cases h;exact Xbv hA _ _ _ h1
 ·split at h
  ·split at h
   ·rename_i h1;cases h;exact Xbw hA _ _ _ h1
   ·cases h
  ·exact Xay hA _ _ _ h
theorem XhL {Y:Sta→Rs} (hY:Bads Y) (l:List Nd) (s:Sta):∀e s',typesL Y l s=.inl (e,s')→e≠0:=by
 fun_induction typesL Y l s with
 |case1 l s h1 e1 h2=>intro e s' h;cases h;exact hY _ _ _ h2
 |case2 l s h1 p h2 h3 ih=>exact ih
 |case3 l s h1 p h2 h3=>intro e s' h;cases h;decide
 |case4 l s h1=>intro e s' h;cases h
theorem XgJ {Y:Sta→Rs} (hY:Bads Y):Bads (roundP Y):=fun s e s' h=>by
 unfold roundP at h
 split at h
 ·rename_i h1;cases h;exact JN _ _ _ h1
 ·split at h
  ·exact UK _ _ _ h
  ·split at h
   ·exact UK _ _ _ h
   ·split at h
    ·exact UK _ _ _ h
    ·split at h
     ·rename_i h1;cases h;exact hY _ _ _ h1
     ·split at h
      ·rename_i h1;cases h;exact XhL hY _ _ _ _ h1
      ·exact UK _ _ _ h
theorem XeZ {Y:Sta→Rs} (hY:Bads Y):Bads (squareP Y):=fun s e s' h=>by
 unfold squareP at h
 split at h
 ·rename_i h1;cases h;exact JN _ _ _ h1
 ·split at h
  ·cases h
  ·split at h
   ·rename_i h1;cases h;exact hY _ _ _ h1
   ·exact UK _ _ _ h
theorem Hr {Y:Sta→Rs} (hY:Bads Y):Bads (atomP Y):=fun s e s' h=>by
 unfold atomP at h
 split at h
 ·split at h
  ·split at h
   ·exact XgJ hY _ _ _ h
   ·exact XeZ hY _ _ _ h
  ·exact JN _ _ _ h
 ·exact XeY _ _ _ h
theorem JO:∀d,Bads (typeP d)
 |0=>fun s e s' h=>by cases h;decide
 |d+1=>Xbw (Hr (JO d))
theorem Xbk {s:Sta} {n:Nd} {s':Sta} (h:takeP s=.inr (n,s')):mu s'≤mu s∧((nextM s).1.kind≠21→mu s'<mu s):=by
 unfold takeP at h
 split at h
 ·rename_i e;cases h;exact Zu e
 ·cases h
theorem want_mu {s:Sta} {k:Int} {x:List UInt8} {n:Nd} {s':Sta} (hk:k≠0) (hk2:k≠21) (h:wantP s k x=.inr (n,s')):mu s'<mu s:=by
 unfold wantP at h
 split at h
 ·rename_i e
  unfold takeP at h
  rw [if_pos (Jp e hk)] at h
  cases h
  exact Qq e hk hk2
 ·cases h
theorem QM {s:Sta} {k:Int} {l:List Nd} {x:List UInt8} {n:Nd} {s':Sta} (h:finP k l s x=.inr (n,s')):mu s'<mu s:=by
 unfold finP at h
 split at h
 ·cases h
 ·rename_i h1;cases h;exact want_mu (by decide) (by decide) h1
theorem VI {s:Sta} {n:Nd} {s':Sta} (hs:startsF (nextM s).1=true) (h:takeP s=.inr (n,s')):mu s'<mu s:=by
 refine (Xbk h).2 fun e=>?_
 unfold startsF at hs
 rw [e] at hs
 simp at hs
theorem XeA {A:Sta→Rs} (l:List Nd) (s:Sta):∀q s',rowL A l s=.inr (q,s')→mu s'≤mu s:=by
 fun_induction rowL A l s with
 |case1 l s h1 e1 h2=>intro e s' h;cases h
 |case2 l s h1 p h2 h3 ih=>intro e s' h;have:=ih e s' h;omega
 |case3 l s h1 p h2 h3=>intro e s' h;cases h
 |case4 l s h1=>intro e s' h;cases h;exact Nat.le_refl _
theorem JW {A:Sta→Rs} (hA:Falls A):Falls (rowP A):=fun s n s' h=>by
 unfold rowP at h
 split at h
 ·cases h
 ·rename_i h1
  have:=hA _ _ _ h1
  split at h
  ·cases h
  ·rename_i h2
   have:=XeA _ _ _ _ h2
   split at h<;>(cases h;omega)
theorem XhW {A:Sta→Rs} (l:List Nd) (s:Sta):∀q s',arrL A l s=.inr (q,s')→mu s'≤mu s:=by
 fun_induction arrL A l s with
 |case1 l s h1 e1 h2=>intro e s' h;cases h
 |case2 l s h1 p h2 h3 ih=>intro e s' h;have:=ih e s' h;omega
 |case3 l s h1 p h2 h3=>intro e s' h;cases h
 |case4 l s h1=>intro e s' h;cases h;exact Nat.le_refl _
theorem Vl {A:Sta→Rs} {n m:Nd} {s s':Sta} (h:arrowsP A n s=.inr (m,s')):mu s'≤mu s:=by
 unfold arrowsP at h
 split at h
 ·cases h
 ·rename_i h1
  have:=XhW _ _ _ _ h1
  split at h<;>(cases h;exact this)
theorem Jw {A:Sta→Rs} (hA:Falls A):Falls (wholeP A):=fun s n s' h=>by
 unfold wholeP at h
 split at h
 ·cases h
 ·rename_i h1
  have:=JW hA _ _ _ h1
  have:=Vl h
  omega
theorem Ui {Y:Sta→Rs} (l:List Nd) (s:Sta):∀q s',typesL Y l s=.inr (q,s')→mu s'≤mu s:=by
 fun_induction typesL Y l s with
 |case1 l s h1 e1 h2=>intro e s' h;cases h
 |case2 l s h1 p h2 h3 ih=>intro e s' h;have:=ih e s' h;omega
 |case3 l s h1 p h2 h3=>intro e s' h;cases h
 |case4 l s h1=>intro e s' h;cases h;exact Nat.le_refl _
theorem Vo (l:List Nd) (s:Sta):mu (commaL l s).2≤mu s:=by
 fun_induction commaL l s with
 |case1 l s h1 h2 ih=>omega
 |case2 l s h1 h2=>exact Nat.le_refl _
 |case3 l s h1=>exact Nat.le_refl _
theorem Xf3 {Y:Sta→Rs} (hY:Falls Y) {s:Sta} {n:Nd} {s':Sta} (hs:startsF (nextM s).1=true) (h:roundP Y s=.inr (n,s')):mu s'<mu s:=by
 unfold roundP at h
 split at h
 ·cases h
 ·rename_i h1
  have:=VI hs h1
  split at h
  ·rename_i h2
   have:=Qq h2 (by decide) (by decide)
   have:=QM h
   omega
  ·split at h
   ·have:=QM h;omega
   ·split at h
    ·have:=QM h
     have:=Vo [‹Nd×Sta›.1] ‹Nd×Sta›.2
     omega
    ·split at h
     ·cases h
     ·rename_i h2
      have:=hY _ _ _ h2
      split at h
      ·cases h
      ·rename_i h3
       have:=Ui _ _ _ _ h3
       have:=QM h
       omega
theorem Xkv {Y:Sta→Rs} (hY:Falls Y) {s:Sta} {n:Nd} {s':Sta} (hs:startsF (nextM s).1=true) (h:squareP Y s=.inr (n,s')):mu s'<mu s:=by
 unfold squareP at h
 split at h
 ·cases h
 ·rename_i h1
  have:=VI hs h1
  split at h
  ·rename_i h2
   have:=Qq h2 (by decide) (by decide)
   cases h
   omega
  ·split at h
   ·cases h
   ·rename_i h2
    have:=hY _ _ _ h2
    have:=QM h
    omega
theorem QE {Y:Sta→Rs} (hY:Falls Y):Falls (atomP Y):=fun s n s' h=>by
 unfold atomP at h
 split at h
 ·rename_i hs
  split at h
  ·split at h
   ·exact Xf3 hY hs h
   ·exact Xkv hY hs h
  ·exact VI hs h
 ·cases h
theorem Qk:∀d,Falls (typeP d)
 |0=>fun s n s' h=>by cases h
 |d+1=>Jw (QE (Qk d))
theorem QK {st:St} {b:Nat} {K:Res→St→Prop} {q:Rs} (h:∀n s',q=.inr (n,s')→∀st',Upd st st' b s'→K (.ret (enc n)) st') (k:∀e s',q=.inl (e,s')→∀st',Upd st st' b s'→K (.pan (fault e)) st'):Tells st b K q:=by
 match q with
 | .inr (n,s')=>exact h n s' rfl
 | .inl (e,s')=>exact k e s' rfl
theorem Has.hw {st:St} {b:Nat} {s:Sta} (h:Has st b s) (own:Own) (n:Nat):Has (own.st st n) b s:=by
 cases own with
 |any=>exact h
 |full=>exact h
 |tok t=>exact h
theorem Xi0 {own:Own} {st st':St} {n b:Nat} {s s':Sta} (hg:own.good st) (hh:Has st b s) (hu:Upd (own.st st n) st' b s'):∃st2,st'=own.st st2 n∧Upd st st2 b s'∧own.good st2:=by
 obtain ⟨h1,cs,e⟩:=hu
 cases own with
 |any=>exact hg.elim
 |full=>exact ⟨st',rfl,⟨h1,cs,e⟩,trivial⟩
 |tok t=>
  refine ⟨st.setBox b cs,e,⟨?_,cs,rfl⟩,?_,?_⟩
  ·rw [e] at h1;exact h1
  ·have:b≠t:=by
    rintro rfl
    have h2:st.box b=none:=hg.1
    rcases hh with k|⟨_,_,_,_,_,k⟩<;>(rw [h2] at k;cases k)
   rw [St.Xj this];exact hg.1
  ·exact hg.2
def TellsO (own:Own) (n:Nat) (st:St) (b:Nat) (R:Res→St→Prop):Rs→Prop
 | .inr (x,s')=>∀st',Upd st st' b s'→own.good st'→R (.ret (enc x)) (own.st st' n)
 | .inl (e,s')=>∀st',Upd st st' b s'→own.good st'→R (.pan (fault e)) (own.st st' n)
theorem ZE {own:Own} {n:Nat} {st:St} {b:Nat} {s:Sta} {R:Res→St→Prop} {q:Rs} (hg:own.good st) (hh:Has st b s) (h:TellsO own n st b R q):Tells (own.st st n) b R q:=by
 refine QK (fun x s' e st' hu=>?_) (fun x s' e st' hu=>?_)
 ·obtain ⟨st2,rfl,h2,h3⟩:=Xi0 hg hh hu
  subst e
  exact h st2 h2 h3
 ·obtain ⟨st2,rfl,h2,h3⟩:=Xi0 hg hh hu
  subst e
  exact h st2 h2 h3
section
variable {st:St} {R:Res→St→Prop}
attribute [local irreducible] Go.Aw.appendTo
theorem Xgp {t:Tk} (h:R (.ret (.bool (startsF t))) st):PC 159 [encT t] st R:=by
 refine Xa Xb [] Tryz.func159 rfl (by decide) ?_
 repeat' ((conv=>whnf);first|(with_reducible first|refine Yb0 ?_|(refine Yb1 ?_ ?_<;>intro _)))
 all_goals conv=>whnf
 all_goals (refine Xq h ?_;clear h;simp_all [startsF])
def Reads0 (f:FuncId) (d:Int) (A:Sta→Rs):Prop:=∀s,mu s≤100000000→Reads f s d (A s)
theorem Zw {s:Sta} (h:mu s≤100000000):s.opn.length≤500000000:=by have:=opn_mu s;omega
theorem ZL {b:Nat} {s:Sta} (hs:Has st b s) (hb:s.opn.length≤500000000) (h:Tells st b R (takeP s)):PC 100 [.ptr b 0] st R:=by
 unfold takeP at h
 refine Xas hs hb (fun e=>?_) (fun e=>?_)
 ·rw [if_pos e] at h;exact h
 ·rw [if_neg e] at h;exact h _ Xx
theorem bad_d {b:Nat} {s:Sta} (hs:Has st b s) (hb:s.opn.length≤500000000) (h:∀st',Upd st st' b s→R (.pan (fault (badE s))) st'):PC 191 [.ptr b 0] st R:=bad_c hs hb (h _ Xx)
theorem XcM {b:Nat} {s:Sta} {k:Int} {x:List UInt8} (hs:Has st b s) (hb:s.opn.length≤500000000) (h:Tells st b R (wantP s k x)):PC 167 [.ptr b 0,.int .i64 k,.str x] st R:=by
 unfold wantP takeP at h
 refine XnA hs hb (fun e1 e2=>?_) (fun e1 e2=>?_) (fun e1=>?_)
 ·rw [if_pos e1,if_pos e2] at h;exact h
 ·rw [if_pos e1,if_neg e2] at h;exact h _ Xx
 ·rw [if_neg (by rw [e1];decide)] at h;exact h _ Xx
theorem atom_c {d:Int} {Y:Sta→Rs} (hr:Reads0 232 d (roundP Y)) (hsq:Reads0 233 d (squareP Y)):Reads0 158 d (atomP Y):=by
 intro s hm b st R hs h
 refine Xa Xb [] Tryz.func158 rfl (by decide) ?_
 have hb:=Zw hm
 have hl:Has (st.setBox b (lookC s)) b s:=.inl (St.Xd ..)
 unfold atomP at h
 repeat' ((conv=>whnf);first|(with_reducible first|refine Yb0 ?_|(refine Yb1 ?_ ?_<;>intro _)|refine Wq (by omega) (by omega) ?_)|refine Je hs hb ?_|refine Xgp ?_|refine ZL hl hb (QK (fun n s' hq st' hu=>?_) (fun e s' hq st' hu=>?_))|refine bad_d hl hb (fun st' hu=>?_)|refine hr s hm b _ _ hl (QK (fun n s' hq st' hu=>?_) (fun e s' hq st' hu=>?_))|refine hsq s hm b _ _ hl (QK (fun n s' hq st' hu=>?_) (fun e s' hq st' hu=>?_)))
 all_goals repeat (first|rw [if_pos (by assumption)] at h|rw [if_neg (by assumption)] at h|rw [if_neg (Bool.eq_false_iff.1 (by assumption))] at h)
 all_goals first
  |exact fin (h st' (Xx.trans hu)) rfl
  |(rw [hq] at h;exact finw rfl (h st' (Xx.trans hu)))
  |(rw [hq] at h;exact fin (h st' (Xx.trans hu)) rfl)
 all_goals trace_state
end
theorem Xc4 {l new:List Nd} {own:Own} {st:St} {K:V→St→Prop} (h:own.good st) (hb:l.length+new.length≤1000000000)
 (k:∀own':Own,own'.good st→K (.slice 6 (encs (l++new)) own') (own'.st st ((l++new).length*6))):appendTo 6 72 (encs l) own (encs new) (own.st st (l.length*6)) K:=by
 have hw:(encs new).map (·.map V.wk0)=encs new:=by
  rw [XY,List.map_map]
  refine List.map_congr_left fun x _=>?_
  rfl
 have hsc:((encs new).all fun v=>v.all V.sc)=true:=by
  rw [XY,List.all_map,List.all_eq_true]
  intro x _
  rfl
 have:=QW (sz:=6) (bytes:=72) (es:=encs l) (new:=encs new) (K:=K) h (by rw [Qn,Qn];omega) (by rw [Qn,Qn];simp only [lim];omega) hsc (fun own' ho=>by
  have:=k own' ho
  rw [Qn,Qn,hw,←Xfk,←List.length_append]
  exact this)
 rw [Qn] at this
 exact this
theorem Hg {l:List Nd} {x:Nd} {own:Own} {st:St} {K:V→St→Prop} (h:own.good st) (hb:l.length+1≤1000000000)
 (k:∀own':Own,own'.good st→K (.slice 6 (encs (l++[x])) own') (own'.st st ((l++[x]).length*6))):appendTo 6 72 (encs l) own [encN x] (own.st st (l.length*6)) K:=by
 have:=Xc4 (l:=l) (new:=[x]) h hb k
 rw [XY [x]] at this
 exact this
theorem XhV {l:List Nd} {x:Nd} {own:Own} {st:St} {K:V→St→Prop} (h:own.good st) (hb:l.length+1≤1000000000)
 (k:∀own':Own,own'.good st→K (.slice 6 (encs (l++[x])) own') (own'.st st ((l++[x]).length*6))):appendTo 6 72 (l.map encN) own [encN x] (own.st st (l.length*6)) K:=by
 rw [←XY]
 exact Hg h hb k
theorem Xds {d:Nat} {K:Int→Prop} (h:d≤1000000) (k:K (d:Int)):∃r,r=IntKind.i64.wrap (((d+1:Nat):Int) - 1)∧K r:=by
 refine ⟨d,?_,k⟩
 rw [show ((d+1:Nat):Int) - 1=(d:Int) by omega,VK (by omega) (by omega)]
section
variable {st:St} {R:Res→St→Prop}
attribute [local irreducible] Go.Aw.appendTo
theorem XeK {b:Nat} {K:Res→St→Prop} {q:Rs} {x:Int} {s':Sta} (e:q=.inl (x,s')) (h:∀st',Upd st st' b s'→K (.pan (fault x)) st'):Tells st b K q:=by subst e;exact h
theorem ZR {own:Own} {m:Nat} {st:St} {b:Nat} {K:Res→St→Prop} {q:Rs} (h:∀n s',q=.inr (n,s')→∀st',Upd st st' b s'→own.good st'→K (.ret (enc n)) (own.st st' m)) (k:∀e s',q=.inl (e,s')→∀st',Upd st st' b s'→own.good st'→K (.pan (fault e)) (own.st st' m)):TellsO own m st b K q:=by
 match q with
 | .inr (n,s')=>exact h n s' rfl
 | .inl (e,s')=>exact k e s' rfl
theorem Ji {b:Nat} {K:Res→St→Prop} {q:Rs} {x:Nd} {s':Sta} (e:q=.inr (x,s')) (h:∀st',Upd st st' b s'→K (.ret (enc x)) st'):Tells st b K q:=by subst e;exact h
def Calls3 (f:FuncId) (d:Int) (A:Sta→Rs):Prop:=∀s,mu s≤100000000→∀(st:St) (R:Res→St→Prop),R (.ret (encRT (catchR s d (A s)))) st→PC f [encS s,.int .i64 d] st R
theorem into_r {f:FuncId} {d:Nat} {A:Sta→Rs} (hf:Calls3 f d A) (h0:d=0→∀s,A s=.inl (2,s)) (hA:Bads A) {b:Nat} {s:Sta} (hm:mu s≤100000000) (hs:Has st b s) (h:Tells st b R (A s)):
 PC 254 [.ptr b 0,.func f [] [],.int .i64 d] st R:=by
 by_cases hd:(d:Int)<1
 ·have hz:d=0:=by omega
  rw [h0 hz s] at h
  refine Xg8 (n:=nd0) (s':=s) (e:=2) (fun st R k=>hf s hm st R ?_) hs (fun e=>by cases e) (fun _=>h)
  unfold catchR;rw [if_pos hd];exact k
 ·cases hq:A s with
  |inr p=>
   rw [hq] at h
   refine Xg8 (n:=p.1) (s':=p.2) (e:=0) (fun st R k=>hf s hm st R ?_) hs (fun _=>h) (fun e=>absurd rfl e)
   unfold catchR;rw [if_neg hd,hq];exact k
  |inl p=>
   rw [hq] at h
   have hne:=hA s p.1 p.2 hq
   refine Xg8 (n:=nd0) (s':=p.2) (e:=p.1) (fun st R k=>hf s hm st R ?_) hs (fun e=>absurd e hne) (fun _=>h)
   unfold catchR;rw [if_neg hd,hq];exact k
theorem Xd7 {f:FuncId} {d:Nat} {x:Int} {A:Sta→Rs} (hx:x=(d:Int)) (hf:Calls3 f d A) (h0:d=0→∀s,A s=.inl (2,s)) (hA:Bads A) {b:Nat} {s:Sta} (hm:mu s≤100000000) (hs:Has st b s) (h:Tells st b R (A s)):
 PC 254 [.ptr b 0,.func f [] [],.int .i64 x] st R:=by subst hx;exact into_r hf h0 hA hm hs h
theorem Xnn {d:Nat} (hd:d≤1000000) {Y:Sta→Rs} (hY:Calls3 287 d Y) (h0:d=0→∀s,Y s=.inl (2,s)) (hB:Bads Y) (hF:Falls Y):Reads0 233 ((d+1:Nat):Int) (squareP Y):=by
 intro s hm b st R hs h
 refine Xa Xb [] Tryz.func233 rfl (by decide) ?_
 have hb:=Zw hm
 unfold squareP at h
 cases hq1:takeP s with
 |inl q=>
  rw [hq1] at h
  obtain ⟨e,s'⟩:=q
  repeat' ((conv=>whnf);first|(with_reducible first|refine Yb0 ?_|(refine Yb1 ?_ ?_<;>intro _)|refine Wq (by omega) (by omega) ?_)|refine ZL hs hb (XeK hq1 (fun st1 h1=>?_)))
  all_goals exact fin (h st1 h1) rfl
 |inr q=>
  obtain ⟨n1,s1⟩:=q
  rw [hq1] at h
  have hm1:mu s1≤100000000:=by have:=(Xbk hq1).1;omega
  have hb1:=Zw hm1
  repeat' ((conv=>whnf);first|(with_reducible first|refine Yb0 ?_|(refine Yb1 ?_ ?_<;>intro _)|refine Wq (by omega) (by omega) ?_)|refine ZL hs hb (Ji hq1 (fun st1 h1=>?_))|refine is_c h1.1 hb1 ?_)
  ·have hp:isF s1 15 [93]=true:=by assumption
   have hl1:Has (st1.setBox b (lookC s1)) b s1:=.inl (St.Xd ..)
   have hq2:takeP s1=.inr (leafT (nextM s1).1,(nextM s1).2.1):=by unfold takeP;rw [if_pos (Jp hp (by decide))]
   dsimp only at h
   rw [if_pos hp] at h
   have hn1:[n1].length+1≤1000000000:=by show 1+1≤1000000000;decide
   repeat' ((conv=>whnf);first|(with_reducible first|refine Yb0 ?_|(refine Yb1 ?_ ?_<;>intro _)|refine Wq (by omega) (by omega) ?_)|refine ZL hl1 hb1 (Ji hq2 (fun st2 h2=>?_))|refine XhV (l:=[n1]) (x:=leafT (nextM s1).1) (own:=.full) trivial hn1 (fun own1 ho1=>?_))
   all_goals exact finl (Own.XR ho1) rfl (h st2 (h1.trans (Xx.trans h2)))
  ·have hp:isF s1 15 [93]=false:=by assumption
   have hl1:Has (st1.setBox b (lookC s1)) b s1:=.inl (St.Xd ..)
   dsimp only at h
   rw [if_neg (by rw [hp];decide)] at h
   have hn1:[n1].length+1≤1000000000:=by show 1+1≤1000000000;decide
   have hn2:∀n2:Nd,([n1]++[n2]).length+1≤1000000000:=fun _=>by simp only [List.length_append,List.length_singleton];decide
   repeat' ((conv=>whnf);first|(with_reducible first|refine Yb0 ?_|(refine Yb1 ?_ ?_<;>intro _)|refine Wq (by omega) (by omega) ?_)|refine Xd7 (by omega) hY h0 hB hm1 hl1 (QK (fun n2 s2 hq2 st2 h2=>?_) (fun e2 s2 hq2 st2 h2=>?_))|refine XhV (l:=[n1]) (x:=n2) (own:=.full) trivial hn1 (fun own1 ho1=>?_)|refine XcM (h2.1.hw own1 _) (Zw (Nat.le_trans (Nat.le_of_lt (hF _ _ _ hq2)) hm1)) (ZE ho1 h2.1 (ZR (fun n3 s3 hq3 st3 h3 hg3=>?_) (fun e3 s3 hq3 st3 h3 hg3=>?_)))|refine Hg (l:=[n1]++[n2]) (x:=n3) hg3 (hn2 n2) (fun own2 ho2=>?_))
   all_goals rw [hq2] at h
   ·unfold finP at h
    dsimp only at h
    rw [hq3] at h
    exact finl (Own.XR ho2) rfl (h st3 (((h1.trans Xx).trans h2).trans h3))
   ·unfold finP at h
    dsimp only at h
    rw [hq3] at h
    exact finl (Own.XR hg3) rfl (h st3 (((h1.trans Xx).trans h2).trans h3))
   ·exact fin (h st2 ((h1.trans Xx).trans h2)) rfl
end
theorem Xax {l:List Nd} {x:Nd} {own:Own} {st:St} {K:V→St→Prop} (h:own.good st) (hb:l.length+1≤1000000000)
 (k:∀own':Own,own'.good st→K (.slice 6 ((l++[x]).map encN) own') (own'.st st ((l++[x]).length*6))):appendTo 6 72 (l.map encN) own [encN x] (own.st st (l.length*6)) K:=by
 rw [←XY]
 exact Hg h hb (by simpa only [XY] using k)
theorem Qp {k:Int} {l:List Nd} {own:Own}:Res.ret (enc (nodeK k l))=(Res.ret (.agg [.int .i64 k,.int .i64 0,.str [],.int .i64 0,.int .i64 0,.slice 6 (l.map encN) own])).wk:=by
 rw [←XY];rfl
theorem Xez {A:Sta→Rs} {l:List Nd} {s:Sta} {n:Nd} {s':Sta} (h:startsF (nextM s).1=true) (hA:A s=.inr (n,s')) (hm:mu s'<mu s):rowL A l s=rowL A (l++[n]) s':=by
 rw [rowL,if_pos h,hA]
 dsimp only
 rw [if_pos hm]
section
variable {st:St} {R:Res→St→Prop}
attribute [local irreducible] Go.Aw.appendTo
theorem Zl {l:List Nd} {K:Nat→Prop} (k:l.length<4611686018427387904→K l.length):∀m,m=(l.map encN).length→m<lim→K m:=fun m hm h=>by
 rw [List.length_map] at hm;subst hm;exact k h
theorem Xeu {own:Own} {st:St} {n b:Nat} {cs:List V}:(own.st st n).setBox b cs=own.st (st.setBox b cs) n:=by cases own<;>rfl
theorem peek_o {own:Own} {n b:Nat} {s:Sta} (hg:own.good st) (hs:Has st b s) (hb:s.opn.length≤500000000) (h:R (.ret (encT (nextM s).1)) (own.st (st.setBox b (lookC s)) n)):PC 135 [.ptr b 0] (own.st st n) R:=
 Je (hs.hw own n) hb (by rw [Xeu];exact h)
theorem JZ {own:Own} {b:Nat} {s:Sta} {cs:List V} (hg:own.good st) (hs:Has st b s):own.good (st.setBox b cs):=by
 cases own with
 |any=>exact hg
 |full=>trivial
 |tok t=>
  have:b≠t:=by
   rintro rfl
   have h2:st.box b=none:=hg.1
   rcases hs with k|⟨_,_,_,_,_,k⟩<;>(rw [h2] at k;cases k)
  exact ⟨by rw [St.Xj this];exact hg.1,hg.2⟩
theorem one_at {l:List Nd} {n1:Nd} {K:List V→Prop} (h:l.length=Int.toNat 1) (j:l.length=1→l=[n1]) (k:K (encN n1)):(0:Int)≤0∧∃e,(l.map encN)[Int.toNat 0]? =some e∧K e:=
 ⟨Int.le_refl _,encN n1,by rw [j h];rfl,k⟩
theorem row_cT {d:Int} {A:Sta→Rs} (ha:Reads0 158 d A) (hF:Falls A):Reads0 97 d (rowP A):=by
 intro s hm b st R hs h
 refine Xa Xb [] Tryz.func97 rfl (by decide) ?_
 unfold rowP at h
 cases hq1:A s with
 |inl q=>
  obtain ⟨e,s1⟩:=q
  rw [hq1] at h
  repeat' ((conv=>whnf);first|(with_reducible first|refine Yb0 ?_|(refine Yb1 ?_ ?_<;>intro _)|refine Wl (fun _=>?_)|refine Wm (by assumption) (by omega) ?_|refine Wn (by omega) (by omega) (fun _ _ _=>?_)|refine Wz (fun _=>?_)|refine WA (fun _=>?_)|refine WB (by assumption) (by omega) ?_|refine WC (by omega) (by omega) (fun _ _=>?_)|refine WD (by omega) (by omega) (fun _ _=>?_))|refine ha s hm b _ _ hs (XeK hq1 (fun st1 h1=>?_)))
  all_goals exact fin (h st1 h1) rfl
 |inr q=>
  obtain ⟨n1,s1⟩:=q
  rw [hq1] at h
  have hf1:=hF _ _ _ hq1
  dsimp only at h
  repeat' ((conv=>whnf);first|(with_reducible first|refine Yb0 ?_|(refine Yb1 ?_ ?_<;>intro _)|refine Wl (fun _=>?_)|refine Wm (by assumption) (by omega) ?_|refine Wn (by omega) (by omega) (fun _ _ _=>?_)|refine Wz (fun _=>?_)|refine WA (fun _=>?_)|refine WB (by assumption) (by omega) ?_|refine WC (by omega) (by omega) (fun _ _=>?_)|refine WD (by omega) (by omega) (fun _ _=>?_))|refine ha s hm b _ _ hs (Ji hq1 (fun st1 h1=>?_)))
  refine UZ (α:=List Nd×Sta×St×Own) (fun x=>[(5,.slice 6 (x.1.map encN) x.2.2.2)]) [0,1,4] (fun x=>[]) [0] (fun x=>x.2.2.2.st x.2.2.1 (x.1.length*6))
   (fun x=>x.2.2.2.good x.2.2.1∧Upd st x.2.2.1 b x.2.1∧x.1≠[]∧x.1.length+mu x.2.1≤200000000∧mu x.2.1≤mu s1∧rowL A x.1 x.2.1=rowL A [n1] s1∧(x.1.length=1→x.1=[n1])) (fun x=>mu x.2.1) ([n1],s1,st1,.full)
   ⟨trivial,h1,by simp,by show 1+mu s1≤_;omega,Nat.le_refl _,rfl,fun _=>rfl⟩ Yl (St.le_refl _) ?_
  rintro ⟨l,s2,st2,own⟩ ⟨j1,j2,j3,j4,j5,j6,j7⟩
  dsimp only at j1 j2 j3 j4 j5 j6 j7
  have hm2:mu s2≤100000000:=by omega
  have hb2:=Zw hm2
  have hl3:Has (st2.setBox b (lookC s2)) b s2:=.inl (St.Xd ..)
  have g3:own.good (st2.setBox b (lookC s2)):=JZ j1 j2.1
  have u3:Upd st (st2.setBox b (lookC s2)) b s2:=j2.trans Xx
  have hn:l.length+1≤1000000000:=by omega
  repeat' ((conv=>whnf);first|(with_reducible first|refine Yb0 ?_|(refine Yb1 ?_ ?_<;>intro _)|refine Wl (fun _=>?_)|refine Wm (by assumption) (by omega) ?_|refine Wn (by omega) (by omega) (fun _ _ _=>?_)|refine Wz (fun _=>?_)|refine WA (fun _=>?_)|refine WB (by assumption) (by omega) ?_|refine WC (by omega) (by omega) (fun _ _=>?_)|refine WD (by omega) (by omega) (fun _ _=>?_))|refine peek_o j1 j2.1 hb2 ?_|refine Xgp ?_|refine ha s2 hm2 b _ _ (hl3.hw own _) (ZE g3 hl3 (ZR (fun n2 s4 hq2 st4 h4 g4=>?_) (fun e2 s4 hq2 st4 h4 g4=>?_)))|refine Xax (l:=l) g4 hn (fun own' ho'=>?_)|refine Zl (fun _=>?_)|refine one_at (by assumption) j7 ?_)
  ·have hd:=hF _ _ _ hq2
   refine ⟨(l++[n2],s4,st4,own'),⟨ho',u3.trans h4,by simp,by show (l++[n2]).length+mu s4≤_;rw [List.length_append,List.length_singleton];omega,by show mu s4≤_;omega,?_,?_⟩,hd,Yl,St.le_refl _⟩
   ·show rowL A (l++[n2]) s4=_
    rw [←j6,Xez (l:=l) (by assumption) hq2 hd]
   ·intro e
    have:=List.length_pos_iff.2 j3
    have e:(l++[n2]).length=1:=e
    rw [List.length_append,List.length_singleton] at e
    omega
  ·have hr:rowL A l s2=.inl (e2,s4):=by rw [rowL,if_pos (by assumption),hq2]
   rw [←j6,hr] at h
   exact finl (Own.XR g4) rfl (h st4 (u3.trans h4))
  ·have hr:rowL A l s2=.inr (l,s2):=by rw [rowL,if_neg (Bool.eq_false_iff.1 (by assumption))]
   rw [←j6,hr] at h
   dsimp only at h
   rw [if_pos (by assumption)] at h
   exact finl (Own.XR g3) rfl (h _ u3)
  ·have hr:rowL A l s2=.inr (l,s2):=by rw [rowL,if_neg (Bool.eq_false_iff.1 (by assumption))]
   rw [←j6,hr] at h
   dsimp only at h
   rw [if_neg (by assumption)] at h
   exact finl (Own.XR g3) Qp (h _ u3)
end
theorem XkY {l:List Nd} {x y:Nd} {own:Own} {st:St} {K:V→St→Prop} (h:own.good st) (hb:l.length+2≤1000000000)
 (k:∀own':Own,own'.good st→K (.slice 6 ((l++[x,y]).map encN) own') (own'.st st ((l++[x,y]).length*6))):appendTo 6 72 (l.map encN) own [encN x,encN y] (own.st st (l.length*6)) K:=by
 rw [←XY]
 have:=Xc4 (l:=l) (new:=[x,y]) h hb (by simpa only [XY] using k)
 rw [XY [x,y]] at this
 exact this
theorem XdI {A:Sta→Rs} {l:List Nd} {s:Sta} {n:Nd} {s':Sta} (h:isF s 10 [45,62]=true) (hA:rowP A (nextM s).2.1=.inr (n,s')) (hm:mu s'<mu s):arrL A l s=arrL A (l++[leafT (nextM s).1,n]) s':=by
 rw [arrL,if_pos h,hA]
 dsimp only
 rw [if_pos hm]
theorem Jh {s:Sta} {k:Int} {x:List UInt8} (h:isF s k x=true) (hk:k≠0):takeP s=.inr (leafT (nextM s).1,(nextM s).2.1):=by unfold takeP;rw [if_pos (Jp h hk)]
section
variable {st:St} {R:Res→St→Prop}
attribute [local irreducible] Go.Aw.appendTo
theorem is_o {own:Own} {n b:Nat} {s:Sta} {k:Int} {x:List UInt8} (hs:Has st b s) (hb:s.opn.length≤500000000) (h:R (.ret (.bool (isF s k x))) (own.st (st.setBox b (lookC s)) n)):PC 98 [.ptr b 0,.int .i64 k,.str x] (own.st st n) R:=
 is_c (hs.hw own n) hb (by rw [Xeu];exact h)
theorem XcG {own:Own} {n:Nat} {st:St} {b:Nat} {s s':Sta} {R:Res→St→Prop} {q:Rs} {x:Nd} (hg:own.good st) (hh:Has st b s) (e:q=.inr (x,s')) (h:∀st',Upd st st' b s'→own.good st'→R (.ret (enc x)) (own.st st' n)):Tells (own.st st n) b R q:=
 ZE hg hh (by subst e;exact h)
def ReadsN (f:FuncId) (d:Int) (A:Nd→Sta→Rs):Prop:=∀n s,mu s≤100000000→∀(b:Nat) (st:St) (R:Res→St→Prop),Has st b s→Tells st b R (A n s)→PC f [.ptr b 0,enc n,.int .i64 d] st R
theorem XeX {d:Int} {A:Sta→Rs} (hr:Reads0 97 d (rowP A)) (hF:Falls A):ReadsN 99 d (arrowsP A):=by
 intro n1 s1 hm b st R hs h
 refine Xa Xb [] Tryz.func99 rfl (by decide) ?_
 unfold arrowsP at h
 repeat' ((conv=>whnf);first|(with_reducible first|refine Yb0 ?_|(refine Yb1 ?_ ?_<;>intro _)|refine Wl (fun _=>?_)|refine Wz (fun _=>?_)|refine WA (fun _=>?_)))
 refine UZ (α:=List Nd×Sta×St×Own) (fun x=>[(7,.slice 6 (x.1.map encN) x.2.2.2)]) [0,2,4,6] (fun x=>[]) [0,1] (fun x=>x.2.2.2.st x.2.2.1 (x.1.length*6))
  (fun x=>x.2.2.2.good x.2.2.1∧Has x.2.2.1 b x.2.1∧(∃s0,Upd st x.2.2.1 b s0∨x.2.2.1=st)∧x.1≠[]∧x.1.length+2*mu x.2.1≤400000000∧mu x.2.1≤mu s1∧arrL A x.1 x.2.1=arrL A [n1] s1) (fun x=>mu x.2.1) ([n1],s1,st,.full)
  ⟨trivial,hs,⟨s1,.inr rfl⟩,by simp,by show 1+2*mu s1≤_;omega,Nat.le_refl _,rfl⟩ Yl (St.le_refl _) ?_
 rintro ⟨l,s2,st2,own⟩ ⟨j1,j2,j3,j4,j5,j6,j7⟩
 dsimp only at j1 j2 j3 j4 j5 j6 j7
 have hm2:mu s2≤100000000:=by omega
 have hb2:=Zw hm2
 have hl3:Has (st2.setBox b (lookC s2)) b s2:=.inl (St.Xd ..)
 have g3:own.good (st2.setBox b (lookC s2)):=JZ j1 j2
 have up:∀{st4 s4},Upd st2 st4 b s4→Upd st st4 b s4:=fun {st4 s4} hu=>by
  obtain ⟨s0,h3|h3⟩:=j3
  ·exact h3.trans hu
  ·subst h3;exact hu
 have hn:l.length+2≤1000000000:=by omega
 have hm4:isF s2 10 [45,62]=true→mu (nextM s2).2.1≤100000000:=fun e=>by have:=Qq e (by decide) (by decide);omega
 repeat' ((conv=>whnf);first|(with_reducible first|refine Yb0 ?_|(refine Yb1 ?_ ?_<;>intro _)|refine Wl (fun _=>?_)|refine Wz (fun _=>?_)|refine WA (fun _=>?_))|refine is_o j2 hb2 ?_|refine ZL (hl3.hw own _) hb2 (XcG g3 hl3 (Jh (by assumption) (by decide)) (fun st4 h4 g4=>?_))|refine hr _ (hm4 (by assumption)) b _ _ (h4.1.hw own _) (ZE g4 h4.1 (ZR (fun n2 s5 hq2 st5 h5 g5=>?_) (fun e2 s5 hq2 st5 h5 g5=>?_)))|refine XkY (l:=l) (x:=leafT (nextM s2).1) (y:=n2) g5 hn (fun own' ho'=>?_)|refine Zl (fun _=>?_))
 ·have hp:isF s2 10 [45,62]=true:=by assumption
  have hd:=JW hF _ _ _ hq2
  have hd2:=Qq hp (by decide) (by decide)
  have hd3:mu s5<mu s2:=by omega
  have hu:=(Xx (st:=st2) (b:=b) (s:=s2)).trans (h4.trans h5)
  refine ⟨(l++[leafT (nextM s2).1,n2],s5,st5,own'),⟨ho',h5.1,⟨s5,.inl (up hu)⟩,by simp,?_,by show mu s5≤_;omega,?_⟩,hd3,Yl,St.le_refl _⟩
  ·show (l++[leafT (nextM s2).1,n2]).length+2*mu s5≤_
   rw [List.length_append]
   show l.length+2+2*mu s5≤_
   omega
  ·show arrL A (l++[leafT (nextM s2).1,n2]) s5=_
   rw [←j7,XdI (l:=l) hp hq2 hd3]
 ·have hp:isF s2 10 [45,62]=true:=by assumption
  have hu:=(Xx (st:=st2) (b:=b) (s:=s2)).trans (h4.trans h5)
  have hr:arrL A l s2=.inl (e2,s5):=by rw [arrL,if_pos hp,hq2]
  rw [←j7,hr] at h
  exact finl (Own.XR g5) rfl (h st5 (up hu))
 ·have hr:arrL A l s2=.inr (l,s2):=by rw [arrL,if_neg (Bool.eq_false_iff.1 (by assumption))]
  rw [←j7,hr] at h
  dsimp only at h
  rw [if_pos (by assumption)] at h
  exact finl (Own.XR g3) rfl (h _ (up Xx))
 ·have hr:arrL A l s2=.inr (l,s2):=by rw [arrL,if_neg (Bool.eq_false_iff.1 (by assumption))]
  rw [←j7,hr] at h
  dsimp only at h
  rw [if_neg (by assumption)] at h
  exact finl (Own.XR g3) Qp (h _ (up Xx))
theorem whole_c {d:Int} {A:Sta→Rs} (hr:Reads0 97 d (rowP A)) (ha:ReadsN 99 d (arrowsP A)) (hF:Falls A):Reads0 101 d (wholeP A):=by
 intro s hm b st R hs h
 refine Xa Xb [] Tryz.func101 rfl (by decide) ?_
 unfold wholeP at h
 have hm1:∀{n1 s1},rowP A s=.inr (n1,s1)→mu s1≤100000000:=fun e=>by have:=JW hF _ _ _ e;omega
 repeat' ((conv=>whnf);first|(with_reducible first|refine Yb0 ?_|(refine Yb1 ?_ ?_<;>intro _))|refine hr s hm b _ _ hs (QK (fun n1 s1 hq1 st1 h1=>?_) (fun e1 s1 hq1 st1 h1=>?_))|refine ha n1 s1 (hm1 hq1) b _ _ h1.1 (QK (fun n2 s2 hq2 st2 h2=>?_) (fun e2 s2 hq2 st2 h2=>?_)))
 all_goals rw [hq1] at h
 all_goals dsimp only at h
 ·rw [hq2] at h;exact finw rfl (h st2 (h1.trans h2))
 ·rw [hq2] at h;exact fin (h st2 (h1.trans h2)) rfl
 ·exact fin (h st1 h1) rfl
end
abbrev Er:={e:Int // e≠0}
abbrev Rv (α:Type):=Sum (Er×Sta) (α×Sta)
structure Rd (α:Type) where
 run:Sta→Rv α
 le:∀s v s',run s=.inr (v,s')→mu s'≤mu s
namespace Rd
variable {α β γ σ:Type}
theorem ext' {a b:Rd α} (h:∀s,a.run s=b.run s):a=b:=by
 obtain ⟨r1,l1⟩:=a
 obtain ⟨r2,l2⟩:=b
 obtain rfl:r1=r2:=funext h
 rfl
def ret (v:α):Rd α:=⟨fun s=>.inr (v,s),fun s v' s' h=>by cases h;exact Nat.le_refl _⟩
def seq (m:Rd α) (k:α→Rd β):Rd β:=⟨fun s=>match m.run s with
 | .inl e=>.inl e
 | .inr p=>(k p.1).run p.2,fun s v s' h=>by
 cases hm:m.run s with
 |inl e=>rw [hm] at h;cases h
 |inr p=>rw [hm] at h;exact Nat.le_trans ((k p.1).le _ _ _ h) (m.le _ _ _ hm)⟩
def fail (e:Er):Rd α:=⟨fun s=>.inl (e,s),fun s v s' h=>by cases h⟩
def failAt (t:Sta) (e:Er):Rd α:=⟨fun _=>.inl (e,t),fun s v s' h=>by cases h⟩
def look (f:Sta→Rd α):Rd α:=⟨fun s=>(f s).run s,fun s v s' h=>(f s).le _ _ _ h⟩
def iter (body:σ→Rd (Sum σ β)) (x:σ) (s:Sta):Rv β:=
 match (body x).run s with
 | .inl e=>.inl e
 | .inr (.inr y,s')=>.inr (y,s')
 | .inr (.inl x',s')=>if mu s'<mu s then iter body x' s' else .inl (⟨2,by decide⟩,s)
termination_by mu s
theorem iter_le (body:σ→Rd (Sum σ β)) (x:σ) (s:Sta):∀v s',iter body x s=.inr (v,s')→mu s'≤mu s:=by
 fun_induction iter body x s with
 |case1 x s e h=>intro v s' h;cases h
 |case2 x s y s1 h=>intro v s' h';cases h';exact (body x).le _ _ _ h
 |case3 x s x' s1 h hlt ih=>intro v s' h';have:=ih v s' h';omega
 |case4 x s x' s1 h hlt=>intro v s' h';cases h'
def loop (body:σ→Rd (Sum σ β)) (x:σ):Rd β:=⟨iter body x,iter_le body x⟩
theorem Xmt {body:σ→Rd (Sum σ β)} {w:σ→Nat} {w':β→Nat} {c:Nat} (h1:∀x s x' s',(body x).run s=.inr (.inl x',s')→w x'≤w x+4) (h2:∀x s y s',(body x).run s=.inr (.inr y,s')→w' y≤w x+c) (x:σ) (s:Sta):
 ∀y s',(loop body x).run s=.inr (y,s')→w' y+4*mu s'≤w x+c+4*mu s:=by
 show ∀y s',iter body x s=.inr (y,s')→_
 fun_induction iter body x s with
 |case1 x s e h=>intro y s' h';cases h'
 |case2 x s y s1 h=>intro y s' h';cases h';have:=h2 _ _ _ _ h;have:=(body x).le _ _ _ h;omega
 |case3 x s x' s1 h hlt ih=>intro y s' h';have:=ih y s' h';have:=h1 _ _ _ _ h;omega
 |case4 x s x' s1 h hlt=>intro y s' h';cases h'
def wp (m:Rd α) (s:Sta) (Q:α→Sta→Prop) (E:Er→Sta→Prop):Prop:=match m.run s with
 | .inl p=>E p.1 p.2
 | .inr p=>Q p.1 p.2
theorem wp_ret {v:α} {s:Sta} {Q:α→Sta→Prop} {E:Er→Sta→Prop}:wp (ret v) s Q E=Q v s:=rfl
theorem wp_seq {m:Rd α} {k:α→Rd β} {s:Sta} {Q:β→Sta→Prop} {E:Er→Sta→Prop}:wp (seq m k) s Q E=wp m s (fun v s'=>wp (k v) s' Q E) E:=by
 unfold wp seq
 dsimp only
 cases m.run s<;>rfl
theorem Zf {e:Er} {s:Sta} {Q:α→Sta→Prop} {E:Er→Sta→Prop}:wp (fail e) s Q E=E e s:=rfl
theorem Xaw {e:Er} {s t:Sta} {Q:α→Sta→Prop} {E:Er→Sta→Prop}:wp (failAt t e) s Q E=E e t:=rfl
theorem Xi {f:Sta→Rd α} {s:Sta} {Q:α→Sta→Prop} {E:Er→Sta→Prop}:wp (look f) s Q E=wp (f s) s Q E:=rfl
theorem Xy {c:Prop} [Decidable c] {a b:Rd α} {s:Sta} {Q:α→Sta→Prop} {E:Er→Sta→Prop}:wp (if c then a else b) s Q E=if c then wp a s Q E else wp b s Q E:=by split<;>rfl
def again (body:σ→Rd (Sum σ β)) (s:Sta) (Q:β→Sta→Prop) (E:Er→Sta→Prop):Sum σ β→Sta→Prop
 | .inr y,s'=>Q y s'
 | .inl x,s'=>if mu s'<mu s then wp (loop body x) s' Q E else E ⟨2,by decide⟩ s
theorem wp_loop {body:σ→Rd (Sum σ β)} {x:σ} {s:Sta} {Q:β→Sta→Prop} {E:Er→Sta→Prop}:wp (loop body x) s Q E=wp (body x) s (again body s Q E) E:=by
 have e:(loop body x).run s=match (body x).run s with
  | .inl e=>.inl e
  | .inr (.inr y,s')=>.inr (y,s')
  | .inr (.inl x',s')=>if mu s'<mu s then (loop body x').run s' else .inl (⟨2,by decide⟩,s):=by
  show iter body x s=_
  rw [iter]
  rfl
 unfold wp
 rw [e]
 cases hb:(body x).run s with
 |inl p=>rfl
 |inr p=>
  obtain ⟨r,s'⟩:=p
  cases r with
  |inr y=>rfl
  |inl x'=>
   dsimp only [again]
   by_cases hm:mu s'<mu s
   ·rw [if_pos hm,if_pos hm];rfl
   ·rw [if_neg hm,if_neg hm]
theorem XT {body:σ→Rd (Sum σ β)} {s s':Sta} {Q:β→Sta→Prop} {E:Er→Sta→Prop} {y:β}:again body s Q E (.inr y) s'=Q y s':=rfl
theorem JL {body:σ→Rd (Sum σ β)} {s s':Sta} {Q:β→Sta→Prop} {E:Er→Sta→Prop} {x:σ} (h:again body s Q E (.inl x) s') (hm:mu s'<mu s):wp (loop body x) s' Q E:=by
 have h:if mu s'<mu s then wp (loop body x) s' Q E else E ⟨2,by decide⟩ s:=h
 rw [if_pos hm] at h;exact h
theorem wp_mono {m:Rd α} {s:Sta} {Q Q':α→Sta→Prop} {E E':Er→Sta→Prop} (h:wp m s Q E) (hq:∀v s',m.run s=.inr (v,s')→Q v s'→Q' v s') (he:∀e s',m.run s=.inl (e,s')→E e s'→E' e s'):wp m s Q' E':=by
 unfold wp at h ⊢
 split at h
 ·exact he _ _ ‹_› h
 ·exact hq _ _ ‹_› h
theorem Xgz {m:Rd α} {s:Sta} {Q:α→Sta→Prop} {E:Er→Sta→Prop} (hq:∀v s',m.run s=.inr (v,s')→Q v s') (he:∀e s',m.run s=.inl (e,s')→E e s'):wp m s Q E:=by
 unfold wp
 split
 ·exact he _ _ ‹_›
 ·exact hq _ _ ‹_›
def Falls (m:Rd α):Prop:=∀s v s',m.run s=.inr (v,s')→mu s'<mu s
theorem Falls.seq {m:Rd α} {k:α→Rd β} (h:Falls m):Falls (seq m k):=fun s v s' e=>by
 unfold Rd.seq at e
 dsimp only at e
 split at e
 ·cases e
 ·exact Nat.lt_of_le_of_lt ((k _).le _ _ _ e) (h _ _ _ ‹_›)
theorem Falls.at {m:Rd α} {k:α→Rd β} {s s':Sta} {v:β} (h:∀v s',m.run s=.inr (v,s')→mu s'<mu s) (e:(Rd.seq m k).run s=.inr (v,s')):mu s'<mu s:=by
 unfold Rd.seq at e
 dsimp only at e
 split at e
 ·cases e
 ·exact Nat.lt_of_le_of_lt ((k _).le _ _ _ e) (h _ _ ‹_›)
theorem Falls.fail {e:Er}:Falls (fail e:Rd α):=fun s v s' h=>by cases h
theorem Falls.failAt {t:Sta} {e:Er}:Falls (failAt t e:Rd α):=fun s v s' h=>by cases h
theorem Falls.look {f:Sta→Rd α} (h:∀s v s',(f s).run s=.inr (v,s')→mu s'<mu s):Falls (look f):=fun s v s' e=>h s v s' e
theorem Falls.ite {c:Prop} [Decidable c] {a b:Rd α} (h1:Falls a) (h2:Falls b):Falls (if c then a else b):=by split<;>assumption
end Rd
def ofRs (A:Sta→Rs) (hle:∀s v s',A s=.inr (v,s')→mu s'≤mu s):Rd Nd:=⟨fun s=>match A s with
 | .inl p=>if h:p.1=0 then .inl (⟨2,by decide⟩,p.2) else .inl (⟨p.1,h⟩,p.2)
 | .inr p=>.inr p,fun s v s' h=>by
 cases hA:A s with
 |inl p=>rw [hA] at h;dsimp only at h;split at h<;>cases h
 |inr p=>rw [hA] at h;cases h;exact hle _ _ _ hA⟩
theorem Ve {A:Sta→Rs} {hle:∀s v s',A s=.inr (v,s')→mu s'≤mu s} (hB:Bads A) {s s':Sta} {e:Int} (h:A s=.inl (e,s')):(ofRs A hle).run s=.inl (⟨e,hB _ _ _ h⟩,s'):=by
 unfold ofRs
 dsimp only
 rw [h]
 dsimp only
 rw [dif_neg (hB _ _ _ h)]
theorem Uw {A:Sta→Rs} {hle:∀s v s',A s=.inr (v,s')→mu s'≤mu s} {s:Sta} {p:Nd×Sta} (h:A s=.inr p):(ofRs A hle).run s=.inr p:=by
 unfold ofRs
 dsimp only
 rw [h]
def takeR:Rd Nd:=ofRs takeP fun s v s' h=>(Xbk h).1
def badR {α:Type}:Rd α:=⟨fun s=>.inl (⟨badE s,Xa2 s⟩,s),fun s v s' h=>by cases h⟩
def wantR (k:Int) (x:List UInt8):Rd Nd:=.look fun s=>if isF s k x=true then takeR else badR
def kindR (ks:List Int):Rd Nd:=.look fun s=>if ks.contains (nextM s).1.kind=true then takeR else badR
def skipR:Rd Unit:=.seq takeR fun _=>.ret ()
theorem Xnp {s:Sta} {k:Int} {x:List UInt8} (h:isF s k x=true) (hk:k≠0):takeR.run s=.inr (leafT (nextM s).1,(nextM s).2.1):=Uw (Jh h hk)
theorem Ql {s:Sta} (h:(nextM s).2.2=0):takeR.run s=.inr (leafT (nextM s).1,(nextM s).2.1):=Uw (by unfold takeP;rw [if_pos h])
theorem He {s:Sta} (h:¬(nextM s).2.2=0):takeR.run s=.inl (⟨(nextM s).2.2,h⟩,s):=by
 have e:takeP s=.inl ((nextM s).2.2,s):=by unfold takeP;rw [if_neg h]
 exact Ve JN e
theorem Vk {s s':Sta} {v:Nd} (h:takeR.run s=.inr (v,s')) (hk:(nextM s).1.kind≠21):mu s'<mu s:=by
 by_cases e:(nextM s).2.2=0
 ·rw [Ql e] at h;cases h;exact (Zu e).2 hk
 ·rw [He e] at h;cases h
theorem QF {s:Sta} (h:(nextM s).1.kind≠0):(nextM s).2.2=0:=by
 apply Classical.byContradiction
 intro e
 rw [XfQ e] at h
 exact h rfl
theorem Xb1 {k:Int} {x:List UInt8} (hk2:k≠21):Rd.Falls (wantR k x):=Rd.Falls.look fun s v s' h=>by
 split at h
 ·rename_i hi
  refine Vk h fun e=>hk2 ?_
  unfold isF at hi
  simp only [Bool.and_eq_true,beq_iff_eq] at hi
  exact hi.1.symm.trans e
 ·cases h
theorem Xg1 {ks:List Int} (hk:ks.contains 21=false):Rd.Falls (kindR ks):=Rd.Falls.look fun s v s' h=>by
 split at h
 ·rename_i hi
  exact Vk h fun e=>by rw [e,hk] at hi;cases hi
 ·cases h
abbrev PCP (f:FuncId) (args:List V) (st:St) (R:Res→St→Prop):Prop:=PCalls Tryz.prog f args st R
def indexF (x:Int):List Int→Int→Int
 |[],_=> -1
 |y::r,i=>if x=y then i else indexF x r (i+1)
theorem Xcd {x:Int}:∀{l:List Int} {i:Int},0≤i→(0≤indexF x l i↔l.contains x=true)
 |[],i,h=>by simp [indexF]
 |y::r,i,h=>by
  simp only [indexF]
  split
  ·rename_i e;subst e;simp [h]
  ·rename_i e
   rw [Xcd (by omega)]
   simp [e]
theorem Xmc {kinds:List Int} {x:Int} {st:St} {R:Res→St→Prop} {own:Own} (h:R (.ret (.int .i64 (indexF x kinds 0))) st):PCP 343 [.slice 1 (ints kinds) own,.int .i64 x] st R:=by
 refine Xa Xb [] Tryz.func343 rfl (by decide) ?_
 have hlen:(ints kinds).length=kinds.length:=by simp [ints]
 intro m hm hl
 rw [hlen] at hm
 subst hm
 conv=>whnf
 refine ⟨Nat,fun k=>{tmps:=[(8,.int .i64 k),(7,.int .i64 kinds.length),(0,.slice 1 (ints kinds) own),(1,.int .i64 x)],boxes:=[],nxt:=0,sz:=19,gl:=[]},fun _=>st,
  fun k=>k≤kinds.length∧indexF x kinds 0=indexF x (kinds.drop k) k,fun k=>kinds.length - k,0,⟨Nat.zero_le _,rfl⟩,⟨rfl,⟨rfl,rfl,rfl,rfl,rfl,rfl,rfl,rfl,trivial⟩,trivial,rfl⟩,St.le_refl _,?_⟩
 rintro k ⟨hk,hi⟩
 refine Wh (fun h1=>?_) (fun h1=>?_)
 ·have hlt:k<kinds.length:=by omega
  have he:(ints kinds)[(k:Int).toNat]? =some [.int .i64 kinds[k]]:=by simp [ints,hlt]
  refine ⟨by omega,_,he,?_⟩
  have hd:indexF x (kinds.drop k) k=if x=kinds[k] then (k:Int) else indexF x (kinds.drop (k+1)) (k+1):=by
   rw [List.drop_eq_getElem_cons hlt];rfl
  refine Wg (fun h2=>?_) (fun h2=>?_)
  ·exact fin h (by rw [hi,hd,if_pos h2])
  ·refine ⟨((k+1:Nat):Int),?_,?_⟩
   ·simp only [lim] at hl
    rw [VK (by omega) (by omega)];rfl
   ·refine ⟨k+1,⟨hlt,?_⟩,by show kinds.length - (k+1)<kinds.length - k;omega,⟨rfl,⟨rfl,rfl,rfl,rfl,rfl,rfl,rfl,rfl,trivial⟩,trivial,rfl⟩,St.le_refl _⟩
    rw [hi,hd,if_neg h2];rfl
 ·refine fin h ?_
  have:k=kinds.length:=by omega
  rw [hi,this,List.drop_length];rfl
section
variable {st:St} {R:Res→St→Prop}
theorem Xe6 {kinds:List Int} {x:Int} {own:Own} (h:R (.ret (.bool (kinds.contains x))) st):PCP 306 [.slice 1 (ints kinds) own,.int .i64 x] st R:=by
 refine Xa Xb [] Tryz.func306 rfl (by decide) ?_
 refine Xmc ?_
 have key:=Xcd (x:=x) (l:=kinds) (i:=0) (by omega)
 refine Wh (fun h1=>?_) (fun h1=>?_)
 ·exact Xq h (key.1 h1)
 ·refine Xq h ?_
  cases hc:kinds.contains x with
  |false=>rfl
  |true=>exact absurd (key.2 hc) h1
def isFP (n:Nd) (kinds:List Int):Bool:=n.kind==1&&kinds.contains n.form
theorem Ub {n:Nd} {kinds:List Int} {own:Own} (h:R (.ret (.bool (isFP n kinds))) st):PCP 260 [enc n,.slice 1 (ints kinds) own] st R:=by
 refine Xa Xb [] Tryz.func260 rfl (by decide) ?_
 unfold isFP at h
 repeat' ((conv=>whnf);first|(with_reducible first|refine Ya0 ?_|(refine Ya1 ?_ ?_<;>intro _))|refine Xe6 ?_)
 all_goals exact Xq h (by simp_all)
def saidF (n:Nd) (k:Int) (t:List UInt8):Bool:=isFP n [k]&&n.text==t
theorem UC {n:Nd} {k:Int} {t:List UInt8} (h:R (.ret (.bool (saidF n k t))) st):PCP 261 [enc n,.int .i64 k,.str t] st R:=by
 refine Xa Xb [] Tryz.func261 rfl (by decide) ?_
 unfold saidF at h
 repeat' ((conv=>whnf);first|(with_reducible first|refine Ya0 ?_|(refine Ya1 ?_ ?_<;>intro _))|refine Ub (kinds:=[k]) ?_)
 all_goals exact Xq h (by simp_all)
def framedF (n:Nd) (o s:List UInt8):Option (List Nd):=
 if 2≤n.kids.length∧n.kids[0]?.any (saidF · 15 o)=true∧n.kids[n.kids.length - 1]?.any (saidF · 15 s)=true then some ((n.kids.take (n.kids.length - 1)).drop 1) else none
theorem JY {n:Nd} {o s:List UInt8} (hs:∀l,framedF n o s=some l→R (.ret (.tup [.slice 6 (encs l) .any,.bool true])) st)
 (hn:framedF n o s=none→R (.ret (.tup [.slice 6 [] .any,.bool false])) st):PCP 256 [enc n,.str o,.str s] st R:=by
 refine Xa Xb [] Tryz.func256 rfl (by decide) ?_
 repeat' ((conv=>whnf);first|(with_reducible first|refine Ya0 ?_|(refine Ya1 ?_ ?_<;>intro _)|refine Wl (fun _=>?_)|refine Wm (by assumption) (by omega) ?_|refine Wn (by omega) (by omega) (fun _ _ _=>?_)|refine Wo (by omega) (by omega) ?_|refine Wp (by omega) (by omega) (by omega) ?_|refine Wq (by omega) (by omega) ?_)|refine UC ?_)
 ·exact Xd2 (hn (by simp [framedF];omega)) rfl
 all_goals
  have e:((n.kids.length:Int) - 1).toNat=n.kids.length - 1:=by omega
  simp only [e,Int.toNat_zero,Int.reduceToNat] at *
  first
   |exact Xd2 (hs _ (by simp_all [framedF];omega)) rfl
   |exact Xd2 (hn (by simp_all [framedF])) rfl
theorem Xg5 {n:Nd} {o s:List UInt8} {l:List Nd} (h:framedF n o s=some l):l.length+2=n.kids.length:=by
 simp only [framedF] at h
 split at h
 ·rename_i g
  cases h
  simp only [List.length_drop,List.length_take];omega
 ·cases h
theorem Xd4 {n:Nd} {o s:List UInt8} (hs:∀l,framedF n o s=some l→l.length+2=n.kids.length→R (.ret (.tup [.slice 6 (encs l) .any,.bool true])) st)
 (hn:framedF n o s=none→R (.ret (.tup [.slice 6 [] .any,.bool false])) st):PCP 256 [enc n,.str o,.str s] st R:=
 JY (fun l h=>hs l h (Xg5 h)) hn
def zeroNP:Nd:=.mk 0 0 [] 0 0 []
def makingF (n:Nd):Bool:=isFP n [6,8]||saidF n 10 [58]
theorem XfJ {n:Nd} (h:R (.ret (.bool (makingF n))) st):PCP 311 [enc n] st R:=by
 refine Xa Xb [] Tryz.func311 rfl (by decide) ?_
 repeat' ((conv=>whnf);first|(with_reducible first|refine Ya0 ?_|(refine Ya1 ?_ ?_<;>intro _))|refine Ub (kinds:=[6,8]) ?_|refine UC ?_)
 all_goals conv=>whnf
 all_goals (refine Xq h ?_;clear h;simp_all [makingF])
def namedF (n:Nd):Option Nd:=if n.kind=3 then (match framedF n [40] [41] with|some l=>if l.length=1 then l[0]? else none|none=>none) else none
theorem XfM {n:Nd} (hs:∀x,namedF n=some x→R (.ret (.tup [enc x,.bool true])) st) (hn:namedF n=none→R (.ret (.tup [enc zeroNP,.bool false])) st):PCP 304 [enc n] st R:=by
 refine Xa Xb [] Tryz.func304 rfl (by decide) ?_
 repeat' ((conv=>whnf);first|(with_reducible first|refine Ya0 ?_|(refine Ya1 ?_ ?_<;>intro _)|refine Wl (fun _=>?_)|refine Wm (by assumption) (by omega) ?_|refine Wn (by omega) (by omega) (fun _ _ _=>?_)|refine Wq (by omega) (by omega) ?_)|refine JY (fun l hl=>?_) (fun hl=>?_))
 all_goals conv=>whnf
 all_goals first
  |exact finw rfl (hs _ (by clear hs hn;simp_all [namedF]))
  |exact finw rfl (hn (by clear hs hn;simp_all [namedF]))
def variableF (n:Nd):Option (List UInt8):=
 if isFP n [1] then some n.text else match namedF n with|some x=>if isFP x [5] then some x.text else none|none=>none
theorem Gg {n:Nd} (hs:∀t,variableF n=some t→R (.ret (.tup [.str t,.bool true])) st) (hn:variableF n=none→R (.ret (.tup [.str [],.bool false])) st):PCP 257 [enc n] st R:=by
 refine Xa Xb [] Tryz.func257 rfl (by decide) ?_
 repeat' ((conv=>whnf);first|(with_reducible first|refine Ya0 ?_|(refine Ya1 ?_ ?_<;>intro _))|refine XfM (fun l hl=>?_) (fun hl=>?_)|refine Ub (kinds:=[1]) ?_|refine Ub (kinds:=[5]) ?_)
 all_goals conv=>whnf
 all_goals first
  |exact finw rfl (hs _ (by clear hs hn;simp_all [variableF]))
  |exact finw rfl (hn (by clear hs hn;simp_all [variableF]))
def makerF (n:Nd):Bool:=isFP n [2,4]||(match namedF n with|some x=>makingF x|none=>false)
theorem Xei {n:Nd} (h:R (.ret (.bool (makerF n))) st):PCP 265 [enc n] st R:=by
 refine Xa Xb [] Tryz.func265 rfl (by decide) ?_
 repeat' ((conv=>whnf);first|(with_reducible first|refine Ya0 ?_|(refine Ya1 ?_ ?_<;>intro _))|refine XfM (fun l hl=>?_) (fun hl=>?_)|refine Ub (kinds:=[2,4]) ?_|refine XfJ ?_)
 all_goals conv=>whnf
 all_goals (refine Xq h ?_;clear h;simp_all [makerF])
def operatorF (n:Nd):Nd×Bool:=
 if n.kind=18 then (if n.kids.length=1 then ((n.kids[0]?.getD zeroNP),false) else if n.kids.length=3 then (match framedF n [96] [96] with|some l=>((l[0]?.getD zeroNP),true)|none=>(zeroNP,false)) else (zeroNP,false)) else (zeroNP,false)
theorem XaI {n:Nd} (h:R (.ret (.tup [enc (operatorF n).1,.bool (operatorF n).2])) st):PCP 305 [enc n] st R:=by
 refine Xa Xb [] Tryz.func305 rfl (by decide) ?_
 repeat' ((conv=>whnf);first|(with_reducible first|refine Ya0 ?_|(refine Ya1 ?_ ?_<;>intro _)|refine Wl (fun _=>?_)|refine Wm (by assumption) (by omega) ?_|refine Wn (by omega) (by omega) (fun _ _ _=>?_))|refine Xd4 (fun l hl hk=>?_) (fun hl=>?_))
 all_goals conv=>whnf
 all_goals refine finw ?_ h
 all_goals clear h
 all_goals simp_all [operatorF]
 all_goals rfl
def makesF (n:Nd):Bool:=if (operatorF n).2 then isFP (operatorF n).1 [2,4] else makingF (operatorF n).1
theorem XiA {n:Nd} (h:R (.ret (.bool (makesF n))) st):PCP 312 [enc n] st R:=by
 refine Xa Xb [] Tryz.func312 rfl (by decide) ?_
 repeat' ((conv=>whnf);first|(with_reducible first|refine Ya0 ?_|(refine Ya1 ?_ ?_<;>intro _))|refine XaI ?_|refine Ub (kinds:=[2,4]) ?_|refine XfJ ?_)
 all_goals conv=>whnf
 all_goals (refine Xq h ?_;clear h;simp_all [makesF])
def boundF (n:Nd):Option (List UInt8):=
 if (if (operatorF n).2 then isFP (operatorF n).1 [1] else isFP (operatorF n).1 [5]) then some (operatorF n).1.text else none
theorem bound_c {n:Nd} (hs:∀t,boundF n=some t→R (.ret (.tup [.str t,.bool true])) st) (hn:boundF n=none→R (.ret (.tup [.str [],.bool false])) st):PCP 258 [enc n] st R:=by
 refine Xa Xb [] Tryz.func258 rfl (by decide) ?_
 repeat' ((conv=>whnf);first|(with_reducible first|refine Ya0 ?_|(refine Ya1 ?_ ?_<;>intro _)|refine Wq (by omega) (by omega) ?_)|refine XaI ?_|refine Ub (kinds:=[1]) ?_|refine Ub (kinds:=[5]) ?_)
 all_goals conv=>whnf
 all_goals first
  |exact finw rfl (hs _ (by clear hs hn;simp_all [boundF]))
  |exact finw rfl (hn (by clear hs hn;simp_all [boundF]))
def TellsP (f:FuncId) (p:Nd→Bool) (x:Nd):Prop:=∀(st:St) (R:Res→St→Prop),R (.ret (.bool (p x))) st→PCP f [enc x] st R
def partedG (p:Nd→Bool):Bool→List Nd→Bool
 |_,[]=>true
 |b,x::r=>(if b then saidF x 15 [44] else p x)&&partedG p (!b) r
def partedF (p:Nd→Bool) (l:List Nd):Bool:=l.length % 2==1&&partedG p false l
theorem Xhr {p:Nd→Bool} {l:List Nd} {k:Nat} {x:Nd} (h:l[k]? =some x):
 partedG p (k % 2==1) (l.drop k)=((if k % 2=1 then saidF x 15 [44] else p x)&&partedG p ((k+1) % 2==1) (l.drop (k+1))):=by
 rw [drop_at h,partedG]
 have:(!(k % 2==1))=((k+1) % 2==1):=by
  rcases Nat.mod_two_eq_zero_or_one k with e|e
  ·have:(k+1) % 2=1:=by omega
   simp [e,this]
  ·have:(k+1) % 2=0:=by omega
   simp [e,this]
 rw [this];simp only [beq_iff_eq]
theorem XfX {l:List Nd} {f:FuncId} {p:Nd→Bool} (hf:∀x ∈ l,TellsP f p x) (h:R (.ret (.bool (partedF p l))) st):PCP 309 [.slice 6 (encs l) .any,.func f [] []] st R:=by
 refine Xa Xb [] Tryz.func309 rfl (by decide) ?_
 repeat' ((conv=>whnf);first|(with_reducible first|refine Ya0 ?_|(refine Ya1 ?_ ?_<;>intro _)|refine Wl (fun _=>?_)|refine Wm (by assumption) (by omega) ?_|refine Wn (by omega) (by omega) (fun _ _ _=>?_)|refine Wq (by omega) (by omega) ?_|refine Ws (by decide) ?_)|refine UC ?_)
 ·conv=>whnf
  refine Xq h ?_
  have:=XcH.1 ‹_›
  simp [partedF,this]
 ·refine Xah 13 [11,12,1] l.length (fun k=>k≤l.length∧(partedG p false l=partedG p (k % 2==1) (l.drop k))) ⟨Nat.zero_le _,rfl⟩ Yl ?_
  rintro k ⟨hk,hi⟩
  repeat' ((conv=>whnf);first|(with_reducible first|refine Ya0 ?_|(refine Ya1 ?_ ?_<;>intro _)|refine Wl (fun _=>?_)|refine Wm (by assumption) (by omega) ?_|refine Wn (by omega) (by omega) (fun _ _ _=>?_)|refine Wq (by omega) (by omega) ?_|refine Ws (by decide) ?_)|refine UC ?_|refine hf _ (by assumption) _ _ ?_)
  all_goals conv=>whnf
  all_goals simp only [XcH,XkF,Int.toNat_natCast] at *
  all_goals try (have e:=Xhr (p:=p) ‹l[k]? =some _›;rw [e] at hi;clear e)
  all_goals try omega
  all_goals first
   |(refine ⟨k+1,⟨by omega,?_⟩,by omega,Yl,St.le_refl _⟩;clear h;simp_all)
   |(refine Xq h ?_;clear h;simp_all [partedF])
  rw [List.drop_eq_nil_of_le (by omega)];rfl
def indexFuncF (p:Nd→Bool):List Nd→Int→Int
 |[],_=> -1
 |y::r,i=>if p y then i else indexFuncF p r (i+1)
theorem UW {p:Nd→Bool}:∀{l:List Nd} {i:Int},0≤i→(0≤indexFuncF p l i↔l.any p=true)
 |[],i,h=>by simp [indexFuncF]
 |y::r,i,h=>by
  simp only [indexFuncF,List.any_cons]
  split
  ·rename_i e;simp [h,e]
  ·rename_i e
   rw [UW (by omega)]
   simp [e]
theorem Xd6 {l:List Nd} {f:FuncId} {p:Nd→Bool} {st:St} {R:Res→St→Prop}
 (hf:∀x ∈ l,TellsP f p x) (h:R (.ret (.int .i64 (indexFuncF p l 0))) st):PCP 344 [.slice 6 (encs l) .any,.func f [] []] st R:=by
 refine Xa Xb [] Tryz.func344 rfl (by decide) ?_
 repeat' ((conv=>whnf);first|(with_reducible first|refine Ya0 ?_|(refine Ya1 ?_ ?_<;>intro _)|refine Wl (fun _=>?_)|refine Wm (by assumption) (by omega) ?_|refine Wn (by omega) (by omega) (fun _ _ _=>?_)|refine Wq (by omega) (by omega) ?_)|refine UC ?_)
 refine Xah 8 [6,7,0,1] l.length (fun k=>k≤l.length∧(indexFuncF p l 0=indexFuncF p (l.drop k) k)) ⟨Nat.zero_le _,rfl⟩ Yl ?_
 rintro k ⟨hk,hi⟩
 repeat' ((conv=>whnf);first|(with_reducible first|refine Ya0 ?_|(refine Ya1 ?_ ?_<;>intro _)|refine Wl (fun _=>?_)|refine Wm (by assumption) (by omega) ?_|refine Wn (by omega) (by omega) (fun _ _ _=>?_)|refine Wq (by omega) (by omega) ?_)|refine hf _ (by assumption) _ _ ?_)
 all_goals conv=>whnf
 all_goals try (have e:=drop_at ‹l[Int.toNat k]? =some _›;rw [Int.toNat_natCast] at e;rw [e,indexFuncF] at hi;clear e)
 all_goals first
  |(refine ⟨k+1,⟨by omega,?_⟩,by omega,Yl,St.le_refl _⟩;clear h;simp_all)
  |(refine fin h ?_;clear h;simp_all;done)
  |(refine fin h ?_;rw [hi,List.drop_eq_nil_of_le (by omega)];rfl)
theorem XaW {l:List Nd} {f:FuncId} {p:Nd→Bool} (hf:∀x ∈ l,TellsP f p x) (h:R (.ret (.bool (l.any p))) st):PCP 307 [.slice 6 (encs l) .any,.func f [] []] st R:=by
 refine Xa Xb [] Tryz.func307 rfl (by decide) ?_
 refine Xd6 hf ?_
 have key:=UW (p:=p) (l:=l) (i:=0) (by omega)
 refine Wh (fun h1=>?_) (fun h1=>?_)
 ·exact Xq h (key.1 h1)
 ·refine Xq h ?_
  cases hc:l.any p with
  |false=>rfl
  |true=>exact absurd (key.2 hc) h1
theorem head1_c {x:Nd}:TellsP 308 (fun x=> !saidF x 15 [44]) x:=by
 intro st R h
 refine Xa Xb [] Tryz.func308 rfl (by decide) ?_
 repeat' ((conv=>whnf);first|(with_reducible first|refine Ya0 ?_|(refine Ya1 ?_ ?_<;>intro _)|refine Wq (by omega) (by omega) ?_)|refine UC ?_)
 all_goals conv=>whnf
 all_goals (refine Xq h ?_;clear h;simp_all)
def headF (n:Nd):Bool:=
 (variableF n).isSome||makerF n||(match framedF n [91] [93] with|some l=>l.isEmpty|none=>match framedF n [40] [41] with|some l=> !l.any fun x=> !saidF x 15 [44]|none=>false)
theorem head_c {n:Nd} (h:R (.ret (.bool (headF n))) st):PCP 262 [enc n] st R:=by
 refine Xa Xb [] Tryz.func262 rfl (by decide) ?_
 repeat' ((conv=>whnf);first|(with_reducible first|refine Ya0 ?_|(refine Ya1 ?_ ?_<;>intro _)|refine Wl (fun _=>?_)|refine Wq (by omega) (by omega) ?_)|refine Gg (fun l hl=>?_) (fun hl=>?_)|refine Xei ?_|refine JY (fun l hl=>?_) (fun hl=>?_)|refine XaW (fun x _=>head1_c) ?_)
 all_goals conv=>whnf
 all_goals (refine Xq h ?_;clear h;simp_all [headF])
end
section
variable {st:St} {R:Res→St→Prop}
theorem Gc {n:Nd} {o s:List UInt8} {l:List Nd} (h:framedF n o s=some l):∀x ∈ l,x ∈ n.kids:=by
 simp only [framedF] at h
 split at h
 ·cases h
  intro x hx
  exact List.mem_of_mem_take (List.mem_of_mem_drop hx)
 ·cases h
def bracketedF (p:Nd→Bool) (n:Nd) (o s:List UInt8) (least:Int) (one:Bool):Bool:=
 match framedF n o s with
 |some l=>decide (2*least - 1≤(l.length:Int))&&(!one||l.length==1)&&partedF p l
 |none=>false
theorem Xe4 {p:Nd→Bool} {n:Nd} {o s:List UInt8} {least:Int} {one:Bool} (h0:0≤least) (h1:least≤10) (hp:∀x ∈ n.kids,TellsP 205 p x)
 (h:R (.ret (.bool (bracketedF p n o s least one))) st):PCP 263 [enc n,.str o,.str s,.int .i64 least,.bool one] st R:=by
 cases one
 all_goals refine Xa Xb [] Tryz.func263 rfl (by decide) ?_
 repeat' ((conv=>whnf);first|(with_reducible first|refine Ya0 ?_|(refine Ya1 ?_ ?_<;>intro _)|refine Wl (fun _=>?_)|refine Wq (by omega) (by omega) ?_)|refine JY (fun l hl=>?_) (fun hl=>?_)|refine XfX (fun x hx=>hp x (Gc (by assumption) x hx)) ?_)
 all_goals conv=>whnf
 all_goals (refine Xq h ?_;clear h;simp_all [bracketedF])
 all_goals (intros;omega)
def allB (q:Nd→Bool):List Nd→Bool
 |[]=>true
 |x::r=>q x&&allB q r
def besideG (p:Nd→Bool) (x:Nd):Bool:= !(x.kind==11)&& !(x.kind==17)&&p x
def besideF (p:Nd→Bool) (l:List Nd):Bool:=allB (besideG p) l&&decide (0<l.length)
theorem Xe3 {p:Nd→Bool} {l:List Nd} (hp:∀x ∈ l,TellsP 205 p x) (h:R (.ret (.bool (besideF p l))) st):PCP 255 [.slice 6 (encs l) .any] st R:=by
 refine Xa Xb [] Tryz.func255 rfl (by decide) ?_
 repeat' ((conv=>whnf);first|(with_reducible first|refine Ya0 ?_|(refine Ya1 ?_ ?_<;>intro _)|refine Wl (fun _=>?_)|refine Wm (by assumption) (by omega) ?_|refine Wn (by omega) (by omega) (fun _ _ _=>?_)|refine Wq (by omega) (by omega) ?_)|refine UC ?_)
 refine Xah 7 [5,6,0] l.length (fun k=>k≤l.length∧allB (besideG p) l=allB (besideG p) (l.drop k)) ⟨Nat.zero_le _,rfl⟩ Yl ?_
 rintro k ⟨hk,hi⟩
 repeat' ((conv=>whnf);first|(with_reducible first|refine Ya0 ?_|(refine Ya1 ?_ ?_<;>intro _)|refine Wl (fun _=>?_)|refine Wm (by assumption) (by omega) ?_|refine Wn (by omega) (by omega) (fun _ _ _=>?_)|refine Wq (by omega) (by omega) ?_)|refine hp _ (by assumption) _ _ ?_)
 all_goals conv=>whnf
 all_goals try (have e:=drop_at ‹l[Int.toNat k]? =some _›;rw [Int.toNat_natCast] at e;rw [e,allB] at hi;clear e)
 all_goals first
  |(refine ⟨k+1,⟨by omega,?_⟩,by omega,Yl,St.le_refl _⟩;clear h;simp_all [besideG];done)
  |(refine Xq h ?_;clear h;simp_all [besideF,besideG];done)
  |(refine Xq h ?_;clear h;rw [List.drop_eq_nil_of_le (by omega)] at hi;simp_all [besideF,allB];done)
  |skip
def fieldF (p:Nd→Bool) (n:Nd):Bool:=
 n.kind==13&&n.kids.length==3&&n.kids[0]?.any (isFP · [1,3])&&n.kids[1]?.any (saidF · 10 [61])&&n.kids[2]?.any p
theorem field_c {p:Nd→Bool} {n:Nd} (hp:∀x ∈ n.kids,TellsP 205 p x):TellsP 310 (fieldF p) n:=by
 intro st R h
 refine Xa Xb [] Tryz.func310 rfl (by decide) ?_
 repeat' ((conv=>whnf);first|(with_reducible first|refine Ya0 ?_|(refine Ya1 ?_ ?_<;>intro _)|refine Wl (fun _=>?_)|refine Wm (by assumption) (by omega) ?_|refine Wn (by omega) (by omega) (fun _ _ _=>?_))|refine Ub (kinds:=[1,3]) ?_|refine UC ?_|refine hp _ (by assumption) _ _ ?_)
 all_goals conv=>whnf
 all_goals (refine Xq h ?_;clear h;simp_all [fieldF])
def recordF (p:Nd→Bool) (n:Nd):Bool:=
 decide (3≤n.kids.length)&&n.kids[0]?.any makerF&&(match framedF (.mk 0 0 [] 0 0 (n.kids.drop 1)) [123] [125] with|some l=>l.isEmpty||partedF (fieldF p) l|none=>false)
theorem XmY {p:Nd→Bool} {n:Nd} (hp:∀x ∈ n.kids,∀y ∈ x.kids,TellsP 205 p y) (h:R (.ret (.bool (recordF p n))) st):PCP 264 [enc n] st R:=by
 refine Xa Xb [] Tryz.func264 rfl (by decide) ?_
 repeat' ((conv=>whnf);first|(with_reducible first|refine Ya0 ?_|(refine Ya1 ?_ ?_<;>intro _)|refine Wl (fun _=>?_)|refine Wm (by assumption) (by omega) ?_|refine Wn (by omega) (by omega) (fun _ _ _=>?_)|refine Wo (by omega) (by omega) ?_|refine Wp (by omega) (by omega) (by omega) ?_|refine Wq (by omega) (by omega) ?_)|refine Xei ?_|refine JY (n:=.mk 0 0 [] 0 0 _) (fun l hl=>?_) (fun hl=>?_)|refine XfX (fun x hx=>field_c (hp x (List.mem_of_mem_drop (i:=1) (l:=n.kids) (Gc (n:=.mk 0 0 [] 0 0 (n.kids.drop 1)) (by assumption) x hx)))) ?_)
 all_goals conv=>whnf
 all_goals (refine Xq h ?_;clear h;try simp only [Int.toNat_zero,Int.toNat_one] at *;simp_all [recordF])
 all_goals first
  |omega
  |(have:¬3≤n.kids.length:=by omega
    simp [recordF,this])
def rowS (p:Nd→Bool):Nat→List Nd→Bool
 |2,[]=>true
 |_,[]=>false
 |0,x::r=>if x.kind=19 then rowS p 1 r else (!(x.kind==17)&&p x)&&rowS p 2 r
 |1,x::r=>isFP x [11,12]&&rowS p 2 r
 |_,x::r=>makesF x&&rowS p 0 r
theorem rowS0 {p:Nd→Bool} {l:List Nd} {k:Nat} {x:Nd} (h:l[k]? =some x):rowS p 0 (l.drop k)=if x.kind=19 then rowS p 1 (l.drop (k+1)) else (!(x.kind==17)&&p x)&&rowS p 2 (l.drop (k+1)):=by
 rw [drop_at h];rfl
theorem rowS1 {p:Nd→Bool} {l:List Nd} {k:Nat} {x:Nd} (h:l[k]? =some x):rowS p 1 (l.drop k)=(isFP x [11,12]&&rowS p 2 (l.drop (k+1))):=by
 rw [drop_at h];rfl
theorem rowS2 {p:Nd→Bool} {l:List Nd} {k:Nat} {x:Nd} (h:l[k]? =some x):rowS p 2 (l.drop k)=(makesF x&&rowS p 0 (l.drop (k+1))):=by
 rw [drop_at h];rfl
theorem rowSe {p:Nd→Bool} {l:List Nd} {k s:Nat} (h:l.length≤k):rowS p s (l.drop k)=(s==2):=by
 rw [List.drop_eq_nil_of_le h]
 match s with
 |0=>rfl
 |1=>rfl
 |2=>rfl
 |s+3=>simp [rowS]
theorem tn0:(0:Int).toNat=0:=rfl
theorem tn1:((0:Int)+1).toNat=1:=rfl
theorem tn2:((0:Int)+1+1).toNat=2:=rfl
theorem tn3 {k:Nat}:((k:Int)+1).toNat=k+1:=by omega
theorem tn4 {k:Nat}:((k:Int)+1+1).toNat=k+2:=by omega
theorem Xm7 {p:Nd→Bool} {l:List Nd} (hp:∀x ∈ l,TellsP 205 p x) (h:R (.ret (.bool (rowS p 0 l))) st):PCP 266 [.slice 6 (encs l) .any] st R:=by
 refine Xa Xb [] Tryz.func266 rfl (by decide) ?_
 conv=>whnf
 refine ⟨Nat,fun _=>0,fun k=>{tmps:=[(3,.int .i64 k),(0,.slice 6 (encs l) .any)],boxes:=[],nxt:=0,sz:=57,gl:=[]},fun _=>st,
  fun k=>k≤l.length∧rowS p 0 l=rowS p 0 (l.drop k),fun k=>l.length - k,?_,?_⟩
 ·have hi:rowS p 0 l=rowS p 0 (l.drop 0):=rfl
  repeat' ((conv=>whnf);first|(with_reducible first|refine Ya0 ?_|(refine Ya1 ?_ ?_<;>intro _)|refine Wl (fun _=>?_)|refine Wm (by assumption) (by omega) ?_|refine Wn (by omega) (by omega) (fun _ _ _=>?_)|refine Wq (by omega) (by omega) ?_)|refine Ub (kinds:=[11,12]) ?_|refine XiA ?_|refine hp _ (by assumption) _ _ ?_)
  all_goals conv=>whnf
  all_goals try simp only [tn0,tn1,tn2,tn3,tn4,Int.toNat_natCast,Nat.zero_add,Nat.reduceAdd] at *
  all_goals try (have e:=rowS0 (p:=p) ‹l[0]? =some _›;rw [e] at hi;clear e)
  all_goals (try have e1:=rowS1 (p:=p) ‹l[1]? =some _›)
  all_goals (try have e2:=rowS2 (p:=p) ‹l[1]? =some _›)
  all_goals (try have e3:=rowS2 (p:=p) ‹l[2]? =some _›)
  all_goals (try have f0:=rowSe (p:=p) (s:=0) (l:=l) (k:=0) (by omega))
  all_goals (try have f1:=rowSe (p:=p) (s:=1) (l:=l) (k:=1) (by omega))
  all_goals (try have f2:=rowSe (p:=p) (s:=2) (l:=l) (k:=1) (by omega))
  all_goals (try have f3:=rowSe (p:=p) (s:=2) (l:=l) (k:=2) (by omega))
  all_goals try simp only [Nat.zero_add,Nat.reduceAdd] at *
  all_goals first
   |(refine Xq h ?_;clear h;clear hp;simp_all;done)
   |(refine ⟨3,(by first|trivial|rfl),⟨by omega,?_⟩,Yl,St.le_refl _⟩;clear h;clear hp;simp_all;done)
   |(refine ⟨2,(by first|trivial|rfl),⟨by omega,?_⟩,Yl,St.le_refl _⟩;clear h;clear hp;simp_all;done)
 ·rintro k ⟨hk,hi⟩
  refine ⟨_,rfl,?_⟩
  repeat' ((conv=>whnf);first|(with_reducible first|refine Ya0 ?_|(refine Ya1 ?_ ?_<;>intro _)|refine Wl (fun _=>?_)|refine Wm (by assumption) (by omega) ?_|refine Wn (by omega) (by omega) (fun _ _ _=>?_)|refine Wq (by omega) (by omega) ?_)|refine Ub (kinds:=[11,12]) ?_|refine XiA ?_|refine hp _ (by assumption) _ _ ?_)
  all_goals conv=>whnf
  all_goals try simp only [tn0,tn1,tn2,tn3,tn4,Int.toNat_natCast,Nat.zero_add,Nat.reduceAdd] at *
  all_goals try (have e:=rowS0 (p:=p) ‹l[k]? =some _›;rw [e] at hi;clear e)
  all_goals (try have e1:=rowS1 (p:=p) ‹l[k+1]? =some _›)
  all_goals (try have e2:=rowS2 (p:=p) ‹l[k+1]? =some _›)
  all_goals (try have e3:=rowS2 (p:=p) ‹l[k+2]? =some _›)
  all_goals (try have f0:=rowSe (p:=p) (s:=0) (l:=l) (k:=k) (by omega))
  all_goals (try have f1:=rowSe (p:=p) (s:=1) (l:=l) (k:=k+1) (by omega))
  all_goals (try have f2:=rowSe (p:=p) (s:=2) (l:=l) (k:=k+1) (by omega))
  all_goals (try have f3:=rowSe (p:=p) (s:=2) (l:=l) (k:=k+2) (by omega))
  all_goals try simp only [Nat.zero_add,Nat.reduceAdd] at *
  all_goals first
   |(refine Xq h ?_;clear h;clear hp;simp_all;done)
   |(refine ⟨k+3,(by first|trivial|rfl),⟨by omega,?_⟩,by omega,Yl,St.le_refl _⟩;clear h;clear hp;simp_all;done)
   |(refine ⟨k+2,(by first|trivial|rfl),⟨by omega,?_⟩,by omega,Yl,St.le_refl _⟩;clear h;clear hp;simp_all;done)
end
section
variable {st:St} {R:Res→St→Prop}
def mayStep (p:Nd→Bool) (n:Nd):Bool:=
 if n.kind=1 then isFP n [1,2,4,11,12,13,14]
 else if n.kind=14 then n.kids.length==1&&n.kids[0]?.any (saidF · 9 [95])
 else if n.kind=3 then headF n
 else if n.kind=15 then n.kids.length==3&&n.kids[0]?.any (isFP · [1])&&n.kids[1]?.any (saidF · 10 [64])&&n.kids[2]?.any p
 else if n.kind=16 then n.kids.length==2&&n.kids[0]?.any (saidF · 10 [126])&&n.kids[1]?.any p
 else if n.kind=4 then bracketedF p n [40] [41] 1 true
 else if n.kind=5 then bracketedF p n [40] [41] 2 false
 else if n.kind=6 then bracketedF p n [91] [93] 1 false
 else if n.kind=12 then recordF p n
 else if n.kind=11 then decide (0<n.kids.length)&&n.kids[0]?.any makerF&&besideF p (n.kids.drop 1)
 else if n.kind=17 then decide (1<n.kids.length)&&rowS p 0 n.kids
 else false
theorem Xmx {p:Nd→Bool} {n:Nd} (hp:∀x,x.size<n.size→TellsP 205 p x):TellsP 205 (mayStep p) n:=by
 intro st R h
 have hk:∀x ∈ n.kids,TellsP 205 p x:=fun x hx=>hp x (Zn hx)
 have hkk:∀x ∈ n.kids,∀y ∈ x.kids,TellsP 205 p y:=fun x hx y hy=>hp y (Nat.lt_trans (Zn hy) (Zn hx))
 have hd:∀x ∈ n.kids.drop 1,TellsP 205 p x:=fun x hx=>hk x (List.mem_of_mem_drop hx)
 refine Xa Xb [] Tryz.func205 rfl (by decide) ?_
 repeat' ((conv=>whnf);first|(with_reducible first|refine Ya0 ?_|(refine Ya1 ?_ ?_<;>intro _)|refine Wl (fun _=>?_)|refine Wm (by assumption) (by omega) ?_|refine Wn (by omega) (by omega) (fun _ _ _=>?_)|refine Wo (by omega) (by omega) ?_|refine Wp (by omega) (by omega) (by omega) ?_)|refine Ub (kinds:=[1,2,4,11,12,13,14]) ?_|refine UC ?_|refine head_c ?_|refine Ub (kinds:=[1]) ?_|refine hk _ (by assumption) _ _ ?_|refine Xe4 (p:=p) (by decide) (by decide) hk ?_|refine XmY hkk ?_|refine Xei ?_|refine Xe3 hd ?_|refine Xm7 hk ?_)
 all_goals conv=>whnf
 all_goals (refine Xq h ?_;clear h hp hk hkk hd;try simp only [Int.toNat_zero,Int.toNat_one,Int.reduceToNat] at *)
 all_goals first
  |(simp_all [mayStep];done)
  |(have:1<n.kids.length:=by omega
    simp_all [mayStep];done)
  |(have:¬1<n.kids.length:=by omega
    simp_all [mayStep];intros;omega)
def mayK:Nat→Nd→Bool
 |0,_=>false
 |k+1,n=>mayStep (mayK k) n
theorem size_pos (n:Nd):0<n.size:=by cases n;rw [Nd.size];omega
theorem Xhg:∀(k:Nat) (n:Nd),n.size≤k→TellsP 205 (mayK k) n
 |0,n,h=>by have:=size_pos n;omega
 |k+1,n,h=>Xmx fun x hx=>Xhg k x (by omega)
def sideF (p:Nd→Bool) (l:List Nd):Bool:=if l.length=1 then l[0]?.any (fun x=> !(x.kind==17)&&p x) else rowS p 0 l
theorem Xnh {p:Nd→Bool} {l:List Nd} (hp:∀x ∈ l,TellsP 205 p x) (h:R (.ret (.bool (sideF p l))) st):PCP 259 [.slice 6 (encs l) .any] st R:=by
 refine Xa Xb [] Tryz.func259 rfl (by decide) ?_
 repeat' ((conv=>whnf);first|(with_reducible first|refine Ya0 ?_|(refine Ya1 ?_ ?_<;>intro _)|refine Wl (fun _=>?_)|refine Wm (by assumption) (by omega) ?_|refine Wn (by omega) (by omega) (fun _ _ _=>?_))|refine hp _ (by assumption) _ _ ?_|refine Xm7 hp ?_)
 all_goals conv=>whnf
 all_goals (refine Xq h ?_;clear h hp;try simp only [Int.toNat_zero,Int.toNat_one,Int.reduceToNat] at *)
 all_goals first
  |(simp_all [sideF];done)
  |skip
def functionG (p:Nd→Bool) (l:List Nd):Nat→List Nd→List UInt8×Bool
 |_,[]=>([],false)
 |i,x::r=>match boundF x with
  |some t=>(t,sideF p (l.take i)&&sideF p (l.drop (i+1)))
  |none=>functionG p l (i+1) r
def functionStep (p:Nd→Bool) (q:Nd→List UInt8×Bool) (n:Nd):List UInt8×Bool:=
 if n.kind=11 then
  if 2≤n.kids.length then (if besideF p (n.kids.drop 1) then (match n.kids[0]? with
   |none=>([],false)
   |some f=>if f.kind=4 then (match framedF f [40] [41] with|some l=>if l.length=1 then (match l[0]? with|some x=>q x|none=>([],false)) else ([],false)|none=>([],false))
    else match variableF f with|some t=>(t,true)|none=>([],false)) else ([],false)) else ([],false)
 else if n.kind=17 then functionG p n.kids 0 n.kids
 else ([],false)
theorem Xl4 {f:List UInt8×Bool} {t:List UInt8} {b:Bool} (h:f=(t,b)):Res.ret (.tup [.str f.1,.bool f.2])=(Res.ret (.tup [.str t,.bool b])).wk:=by subst h;rfl
def TellsF (q:Nd→List UInt8×Bool) (x:Nd):Prop:=∀(st:St) (R:Res→St→Prop),R (.ret (.tup [.str (q x).1,.bool (q x).2])) st→PCP 204 [enc x] st R
theorem XcS {p:Nd→Bool} {q:Nd→List UInt8×Bool} {n:Nd} (hp:∀x,x.size<n.size→TellsP 205 p x) (hq:∀x,x.size<n.size→TellsF q x):TellsF (functionStep p q) n:=by
 intro st R h
 have hk:∀x ∈ n.kids,TellsP 205 p x:=fun x hx=>hp x (Zn hx)
 have hd:∀x ∈ n.kids.drop 1,TellsP 205 p x:=fun x hx=>hk x (List.mem_of_mem_drop hx)
 refine Xa Xb [] Tryz.func204 rfl (by decide) ?_
 repeat' ((conv=>whnf);first|(with_reducible first|refine Ya0 ?_|(refine Ya1 ?_ ?_<;>intro _)|refine Wl (fun _=>?_)|refine Wm (by assumption) (by omega) ?_|refine Wn (by omega) (by omega) (fun _ _ _=>?_)|refine Wo (by omega) (by omega) ?_|refine Wp (by omega) (by omega) (by omega) ?_|refine Wq (by omega) (by omega) ?_)|refine Xe3 hd ?_|refine JY (fun l hl=>?_) (fun hl=>?_)|refine Gg (fun l hl=>?_) (fun hl=>?_)|refine hq _ (Nat.lt_trans (Zn (Gc (by assumption) _ (by assumption))) (Zn (by assumption))) _ _ ?_)
 all_goals try (refine GA 63 [1,61,62] [0] n.kids.length (fun k=>k≤n.kids.length∧functionG p n.kids 0 n.kids=functionG p n.kids k (n.kids.drop k)) ⟨Nat.zero_le _,rfl⟩ Yl ?_;rintro k ⟨hkl,hi⟩)
 repeat' ((conv=>whnf);first|(with_reducible first|refine Ya0 ?_|(refine Ya1 ?_ ?_<;>intro _)|refine Wl (fun _=>?_)|refine Wm (by assumption) (by omega) ?_|refine Wn (by omega) (by omega) (fun _ _ _=>?_)|refine Wo (by omega) (by omega) ?_|refine Wp (by omega) (by omega) (by omega) ?_|refine Wq (by omega) (by omega) ?_)|refine bound_c (fun l hl=>?_) (fun hl=>?_)|refine Xnh (fun x hx=>hk x (List.mem_of_mem_take (List.mem_of_mem_drop hx))) ?_|refine Xnh (fun x hx=>hk x (List.mem_of_mem_drop hx)) ?_)
 all_goals conv=>whnf
 all_goals first
  |refine finw ?_ h
  |(refine ⟨k+1,⟨by omega,?_⟩,by omega,Yl,St.le_refl _⟩)
  |skip
 all_goals clear h hp hq hk hd
 all_goals try (have e:=drop_at ‹n.kids[Int.toNat k]? =some _›;rw [Int.toNat_natCast] at e;rw [e,functionG] at hi;clear e)
 all_goals try simp only [Int.toNat_zero,Int.toNat_one,Int.reduceToNat,Int.toNat_natCast] at *
 all_goals first
  |(simp_all;done)
  |refine Xl4 ?_
 ·have:¬2≤n.kids.length:=by omega
  simp [functionStep, *]
 all_goals try have g:2≤n.kids.length:=by omega
 ·rename_i x _ _ y _ _ _
  have e:functionStep p q n=q y:=by simp_all [functionStep]
  rw [e];exact Prod.ext rfl ‹_›
 ·rename_i x _ _ y _ _ _
  have e:functionStep p q n=q y:=by simp_all [functionStep]
  rw [e];exact Prod.ext rfl ‹_›
 all_goals try (rw [List.drop_eq_nil_of_le (by omega),functionG] at hi)
 all_goals simp_all [functionStep]
def funK:Nat→Nd→List UInt8×Bool
 |0,_=>([],false)
 |k+1,n=>functionStep (mayK k) (funK k) n
theorem Xb9:∀(k:Nat) (n:Nd),n.size≤k→TellsF (funK k) n
 |0,n,h=>by have:=size_pos n;omega
 |k+1,n,h=>XcS (fun x hx=>Xhg k x (by omega)) fun x hx=>Xb9 k x (by omega)
end
section
variable {st:St} {R:Res→St→Prop}
def mayFP (n:Nd):Bool:=mayK n.size n
theorem Xhf {n:Nd}:TellsP 205 mayFP n:=fun st R h=>Xhg n.size n (Nat.le_refl _) st R h
def checkF (n:Nd):Int:=if mayFP n then 0 else 120
theorem Xld {n:Nd} (h:R (.ret (.int .i64 (checkF n))) st):PCP 173 [enc n] st R:=by
 refine Xa Xb [] Tryz.func173 rfl (by decide) ?_
 repeat' ((conv=>whnf);first|(with_reducible first|refine Ya0 ?_|(refine Ya1 ?_ ?_<;>intro _)|refine Wq (by omega) (by omega) ?_)|refine Xhf _ _ ?_)
 all_goals conv=>whnf
 all_goals (refine fin h ?_;clear h;simp_all [checkF])
def lhsF (n:Nd):Int×List UInt8×Int:=
 if (funK n.size n).2 then (1,(funK n.size n).1,0) else if mayFP n then (2,[],0) else (0,[],120)
theorem Xl6 {f:Int×List UInt8×Int} {t:List UInt8} {b c:Int} (h:f=(b,t,c)):Res.ret (.tup [.int .i64 f.1,.str f.2.1,.int .i64 f.2.2])=(Res.ret (.tup [.int .i64 b,.str t,.int .i64 c])).wk:=by subst h;rfl
theorem lhs_c {n:Nd} (h:R (.ret (.tup [.int .i64 (lhsF n).1,.str (lhsF n).2.1,.int .i64 (lhsF n).2.2])) st):PCP 139 [enc n] st R:=by
 refine Xa Xb [] Tryz.func139 rfl (by decide) ?_
 repeat' ((conv=>whnf);first|(with_reducible first|refine Ya0 ?_|(refine Ya1 ?_ ?_<;>intro _))|refine Xb9 _ n (Nat.le_refl _) _ _ ?_|refine Xhf _ _ ?_)
 all_goals conv=>whnf
 all_goals (refine finw ?_ h;clear h;refine Xl6 ?_;simp_all [lhsF])
def namesG (q:Nd→List (List UInt8)) (field:Bool):Nat→List Nd→List (List UInt8)
 |_,[]=>[]
 |i,x::r=>(if 0<i∨field=false then q x else [])++namesG q field (i+1) r
def namesStep (q:Nd→List (List UInt8)) (n:Nd):List (List UInt8):=
 match variableF n with
 |some s=>[s]
 |none=>if n.kind=18∨n.kind=19 then [] else namesG q (n.kind==13) 0 n.kids
def TellsN (q:Nd→List (List UInt8)) (x:Nd):Prop:=∀(l:List (List UInt8)) (own:Own) (st:St) (R:Res→St→Prop),l.length+(q x).length≤1000000000→own.good st→
 (∀own':Own,own'.good st→R (.ret (.slice 1 (strs (l++q x)) own')) (own'.st st (l++q x).length))→PCP 301 [.slice 1 (strs l) own,enc x] (own.st st l.length) R
attribute [local irreducible] Go.Aw.appendTo
theorem Xhi {q:Nd→List (List UInt8)} {n:Nd} (hq:∀x,x.size<n.size→TellsN q x):TellsN (namesStep q) n:=by
 intro l own st R hb ho h
 refine Xa Xb [] Tryz.func301 rfl (by decide) ?_
 repeat' ((conv=>whnf);first|(with_reducible first|refine Ya0 ?_|(refine Ya1 ?_ ?_<;>intro _)|refine Wl (fun _=>?_)|refine Wm (by assumption) (by omega) ?_|refine Wn (by omega) (by omega) (fun _ _ _=>?_)|refine Wq (by omega) (by omega) ?_)|refine Gg (fun t ht=>?_) (fun ht=>?_)|refine XaQ (new:=[_]) ho ?_ (fun own' ho'=>?_))
 ·have e:namesStep q n=[t]:=by simp [namesStep,ht]
  rw [e] at hb;exact hb
 ·conv=>whnf
  have e:namesStep q n=[t]:=by simp [namesStep,ht]
  rw [e] at h
  exact fin (h own' ho') rfl
 ·conv=>whnf
  have e:namesStep q n=[]:=by simp [namesStep, *]
  rw [e,List.append_nil] at h
  exact fin (h own ho) rfl
 ·conv=>whnf
  have e:namesStep q n=[]:=by simp [namesStep, *]
  rw [e,List.append_nil] at h
  exact fin (h own ho) rfl
 ·have e:namesStep q n=namesG q (n.kind==13) 0 n.kids:=by simp [namesStep, *]
  rw [e] at h hb
  conv=>whnf
  refine Xeh (α:=Nat×Own×List (List UInt8)) (fun x=>[(31,.int .i64 (x.1:Int)),(0,.slice 1 (strs x.2.2) x.2.1)]) [3,29,30] [0] (fun x=>Own.st st x.2.2.length x.2.1)
   (fun x=>x.1≤n.kids.length∧Own.good st x.2.1∧l++namesG q (n.kind==13) 0 n.kids=x.2.2++namesG q (n.kind==13) x.1 (n.kids.drop x.1)) (fun x=>n.kids.length - x.1) (0,own,l) ⟨Nat.zero_le _,ho,rfl⟩ Yl (St.le_refl _) ?_
  rintro ⟨k,own1,acc⟩ ⟨hk,ho1,hi⟩
  simp only at hk ho1 hi
  have hlen:=congrArg List.length hi
  simp only [List.length_append] at hlen
  repeat' ((conv=>whnf);first|(with_reducible first|refine Ya0 ?_|(refine Ya1 ?_ ?_<;>intro _)|refine Wl (fun _=>?_)|refine Wm (by assumption) (by omega) ?_|refine Wn (by omega) (by omega) (fun _ _ _=>?_)|refine Wq (by omega) (by omega) ?_)|refine hq _ (Zn (by assumption)) acc own1 st _ ?_ ho1 (fun own2 ho2=>?_))
  all_goals try conv=>whnf
  all_goals try (have e:=drop_at ‹n.kids[_]? =some _›;simp only [Int.toNat_natCast] at e;rw [e,namesG] at hi hlen;clear e)
  all_goals simp only [Int.toNat_natCast] at *
  ·rw [if_pos (.inl (by omega))] at hlen
   rw [List.length_append] at hlen
   show acc.length+_≤1000000000
   omega
  ·refine ⟨(k+1,own2,acc++_),⟨by show k+1≤_;omega,ho2,?_⟩,by show _ - (k+1)<_ - k;omega,Yl,St.le_refl _⟩
   rw [if_pos (.inl (by omega))] at hi
   rw [hi,List.append_assoc]
  ·refine ⟨(k+1,own1,acc),⟨by show k+1≤_;omega,ho1,?_⟩,by show _ - (k+1)<_ - k;omega,Yl,St.le_refl _⟩
   rw [if_neg (by rintro (g|g)<;>first|omega|simp_all)] at hi
   rw [hi];rfl
  ·have g:(n.kind==13)=false:=by simp_all
   rw [if_pos (.inr g),List.length_append] at hlen
   show acc.length+_≤1000000000
   omega
  ·refine ⟨(k+1,own2,acc++_),⟨by show k+1≤_;omega,ho2,?_⟩,by show _ - (k+1)<_ - k;omega,Yl,St.le_refl _⟩
   have g:(n.kind==13)=false:=by simp_all
   rw [if_pos (.inr g)] at hi
   rw [hi,List.append_assoc]
  ·rw [List.drop_eq_nil_of_le (by omega),namesG,List.append_nil] at hi
   rw [hi] at h
   exact fin (h own1 ho1) rfl
def namesK:Nat→Nd→List (List UInt8)
 |0,_=>[]
 |k+1,n=>namesStep (namesK k) n
theorem XfN:∀(k:Nat) (n:Nd),n.size≤k→TellsN (namesK k) n
 |0,n,h=>by have:=size_pos n;omega
 |k+1,n,h=>Xhi fun x hx=>XfN k x (by omega)
def namesE (n:Nd):List (List UInt8)×Int:=if mayFP n then (namesK n.size n,0) else ([],120)
theorem Xj5 {n:Nd} (hb:(namesK n.size n).length≤1000000000) (h:R (.ret (.tup [.slice 1 (strs (namesE n).1) .any,.int .i64 (namesE n).2])) st):PCP 251 [enc n] st R:=by
 refine Xa Xb [] Tryz.func251 rfl (by decide) ?_
 repeat' ((conv=>whnf);first|(with_reducible first|refine Ya0 ?_|(refine Ya1 ?_ ?_<;>intro _)|refine Wq (by omega) (by omega) ?_)|refine Xhf _ _ ?_|refine XfN _ n (Nat.le_refl _) [] .full st _ ?_ trivial (fun own2 ho2=>?_))
 all_goals try conv=>whnf
 ·show 0+_≤_
  omega
 ·have e:namesE n=(namesK n.size n,0):=by simp_all [namesE]
  rw [e] at h
  exact ⟨_,st,.inr rfl,Own.XR ho2,h⟩
 ·have e:namesE n=([],120):=by simp_all [namesE]
  rw [e] at h
  exact finw rfl h
end
theorem Xcn {q:Nd→List (List UInt8)} {b:Bool}:∀{l:List Nd} {i:Nat},(∀x ∈ l,(q x).length≤x.size)→(namesG q b i l).length≤sizes l
 |[],_,_=>by simp [namesG,sizes]
 |x::r,i,h=>by
  have:=Xcn (b:=b) (l:=r) (i:=i+1) fun y hy=>h y (List.mem_cons_of_mem _ hy)
  have:=h x List.mem_cons_self
  rw [namesG,List.length_append,sizes]
  split
  ·omega
  ·simp only [List.length_nil];omega
theorem Xco:∀{k:Nat} {n:Nd},(namesK k n).length≤n.size
 |0,n=>Nat.zero_le _
 |k+1,n=>by
  rw [namesK,namesStep]
  have:=size_pos n
  split
  ·simp only [List.length_cons,List.length_nil];omega
  ·split
   ·simp
   ·have:=Xcn (b:=n.kind==13) (l:=n.kids) (i:=0) (q:=namesK k) fun x _=>Xco
    cases n with
    |mk a b c d e ks=>rw [Nd.size];show (namesG _ _ 0 ks).length≤_;have:(namesG (namesK k) (a==13) 0 ks).length≤sizes ks:=this;show (namesG (namesK k) (a==13) 0 ks).length≤_;omega
section
variable {st:St} {R:Res→St→Prop}
theorem Xmy {n:Nd} (hl:n.size≤1000000000) (h:R (.ret (.tup [.slice 1 (strs (namesE n).1) .any,.int .i64 (namesE n).2])) st):PCP 251 [enc n] st R:=
 Xj5 (Nat.le_trans Xco hl) h
theorem XlK {k f:Int} {t:List UInt8} {l c:Int} {ks:List Nd}:enc (.mk k f t l c ks)=.agg [.int .i64 k,.int .i64 f,.str t,.int .i64 l,.int .i64 c,.slice 6 (ks.map encN) .any]:=by
 rw [enc,encN,XY];rfl
end
end Go.Proofs.YtkidoddkbhchkaaGreatDoor
namespace Go.Proofs
open Go.Shelf
open Go.RowKit in
open Go.RowKit in
def Tryz.lays160_ren:Go.Shelf.Ren:=⟨fun|160=>150|232=>220|231=>219|227=>221|234=>223|233=>222|236=>225|235=>224|228=>273|271=>275|151=>274|197=>82|120=>320|152=>319|260=>148|137=>346|119=>347|224=>330|225=>329|217=>328|266=>351|n=>n,fun|9=>9|4=>4|3=>3|5=>5|117=>190|116=>189|0=>0|124=>193|21=>21|105=>100|46=>183|119=>182|139=>186|138=>185|n=>n,fun|3=>0|4=>1|n=>n⟩
theorem Tryz.lays160:Go.Proofs.Lays.n160 Tryz.prog Tryz.lays160_ren:={
 mixed:=by kernel_rfl
 f119:=Tryz.func347.trans (congrArg some (by kernel_rfl))
 f120:=Tryz.func320.trans (congrArg some (by kernel_rfl))
 f137:=Tryz.func346.trans (congrArg some (by kernel_rfl))
 f151:=Tryz.func274.trans (congrArg some (by kernel_rfl))
 f152:=Tryz.func319.trans (congrArg some (by kernel_rfl))
 f160:=Tryz.func150.trans (congrArg some (by kernel_rfl))
 f197:=Tryz.func82.trans (congrArg some (by kernel_rfl))
 f217:=Tryz.func328.trans (congrArg some (by kernel_rfl))
 f224:=Tryz.func330.trans (congrArg some (by kernel_rfl))
 f225:=Tryz.func329.trans (congrArg some (by kernel_rfl))
 f227:=Tryz.func221.trans (congrArg some (by kernel_rfl))
 f228:=Tryz.func273.trans (congrArg some (by kernel_rfl))
 f231:=Tryz.func219.trans (congrArg some (by kernel_rfl))
 f232:=Tryz.func220.trans (congrArg some (by kernel_rfl))
 f233:=Tryz.func222.trans (congrArg some (by kernel_rfl))
 f234:=Tryz.func223.trans (congrArg some (by kernel_rfl))
 f235:=Tryz.func224.trans (congrArg some (by kernel_rfl))
 f236:=Tryz.func225.trans (congrArg some (by kernel_rfl))
 f260:=Tryz.func148.trans (congrArg some (by kernel_rfl))
 f266:=Tryz.func351.trans (congrArg some (by kernel_rfl))
 f271:=Tryz.func275.trans (congrArg some (by kernel_rfl))
 t0:=Tryz.underlying0
 a0:=Tryz.isAgg0
 z0:=Tryz.sizeOf0
 v0:=Tryz.zeroValue0
 t3:=Tryz.underlying3
 a3:=Tryz.isAgg3
 z3:=Tryz.sizeOf3
 v3:=Tryz.zeroValue3
 t4:=Tryz.underlying4
 a4:=Tryz.isAgg4
 z4:=Tryz.sizeOf4
 v4:=Tryz.zeroValue4
 t5:=Tryz.underlying5
 a5:=Tryz.isAgg5
 z5:=Tryz.sizeOf5
 v5:=Tryz.zeroValue5
 t9:=Tryz.underlying9
 a9:=Tryz.isAgg9
 z9:=Tryz.sizeOf9
 v9:=Tryz.zeroValue9
 t21:=Tryz.underlying21
 a21:=Tryz.isAgg21
 z21:=Tryz.sizeOf21
 v21:=Tryz.zeroValue21
 t46:=Tryz.underlying183
 a46:=Tryz.isAgg183
 z46:=Tryz.sizeOf183
 v46:=Tryz.zeroValue183
 t105:=Tryz.underlying100
 a105:=Tryz.isAgg100
 z105:=Tryz.sizeOf100
 v105:=Tryz.zeroValue100
 t116:=Tryz.underlying189
 a116:=Tryz.isAgg189
 z116:=Tryz.sizeOf189
 t117:=Tryz.underlying190
 a117:=Tryz.isAgg190
 z117:=Tryz.sizeOf190
 v117:=Tryz.zeroValue190
 t119:=Tryz.underlying182
 a119:=Tryz.isAgg182
 z119:=Tryz.sizeOf182
 t124:=Tryz.underlying193
 a124:=Tryz.isAgg193
 z124:=Tryz.sizeOf193
 v124:=Tryz.zeroValue193
 t138:=Tryz.underlying185
 a138:=Tryz.isAgg185
 z138:=Tryz.sizeOf185
 v138:=Tryz.zeroValue185
 t139:=Tryz.underlying186
 a139:=Tryz.isAgg186
 z139:=Tryz.sizeOf186
 v139:=Tryz.zeroValue186
 g3:=by kernel_rfl
 g4:=by kernel_rfl}
open Go.RowKit in
theorem Tryz.strings_Trim_one (s:ByteArray) (c:UInt8) (hc:c.toNat<128) (w:World) (hs:s.size≤9223372036854775807):
 Calls Tryz.prog 150 #[.string s,.string ⟨#[c]⟩] w fun e w'=>e=.returned (.string ⟨(Lib.trimB s.data.toList c).toArray⟩)∧(w'=w∨w'=w.drew):=Any.strings_Trim_one Tryz.lays160 s c hc w hs
def Tryz.lays137_ren:Go.Shelf.Ren:=⟨fun|137=>346|217=>328|266=>351|n=>n,fun|9=>9|5=>5|3=>3|n=>n,fun|n=>n⟩
theorem Tryz.lays137:Go.Proofs.Lays.n137 Tryz.prog Tryz.lays137_ren:={
 mixed:=by kernel_rfl
 f137:=Tryz.func346.trans (congrArg some (by kernel_rfl))
 f217:=Tryz.func328.trans (congrArg some (by kernel_rfl))
 f266:=Tryz.func351.trans (congrArg some (by kernel_rfl))
 t3:=Tryz.underlying3
 a3:=Tryz.isAgg3
 z3:=Tryz.sizeOf3
 v3:=Tryz.zeroValue3
 t5:=Tryz.underlying5
 a5:=Tryz.isAgg5
 z5:=Tryz.sizeOf5
 v5:=Tryz.zeroValue5
 t9:=Tryz.underlying9
 a9:=Tryz.isAgg9
 z9:=Tryz.sizeOf9
 v9:=Tryz.zeroValue9}
open Go.RowKit in
theorem Tryz.strings_IndexByte (s:ByteArray) (c:Int) (w:World):
 Calls Tryz.prog 346 #[.string s,.int .u8 c] w fun e w'=>e=.returned (.int .i64 (Lib.indexByte s.data.toList c.toNat.toUInt8))∧w'=w:=Any.strings_IndexByte Tryz.lays137 s c w
def Tryz.lays144_ren:Go.Shelf.Ren:=⟨fun|144=>157|143=>231|219=>285|217=>328|225=>329|224=>330|267=>331|266=>351|314=>352|n=>n,fun|9=>9|4=>4|3=>3|5=>5|46=>183|146=>254|51=>253|n=>n,fun|1=>2|n=>n⟩
theorem Tryz.lays144:Go.Proofs.Lays.n144 Tryz.prog Tryz.lays144_ren:={
 mixed:=by kernel_rfl
 f143:=Tryz.func231.trans (congrArg some (by kernel_rfl))
 f144:=Tryz.func157.trans (congrArg some (by kernel_rfl))
 f217:=Tryz.func328.trans (congrArg some (by kernel_rfl))
 f219:=Tryz.func285.trans (congrArg some (by kernel_rfl))
 f224:=Tryz.func330.trans (congrArg some (by kernel_rfl))
 f225:=Tryz.func329.trans (congrArg some (by kernel_rfl))
 f266:=Tryz.func351.trans (congrArg some (by kernel_rfl))
 f267:=Tryz.func331.trans (congrArg some (by kernel_rfl))
 f314:=Tryz.func352.trans (congrArg some (by kernel_rfl))
 t3:=Tryz.underlying3
 a3:=Tryz.isAgg3
 z3:=Tryz.sizeOf3
 v3:=Tryz.zeroValue3
 t4:=Tryz.underlying4
 a4:=Tryz.isAgg4
 z4:=Tryz.sizeOf4
 v4:=Tryz.zeroValue4
 t5:=Tryz.underlying5
 a5:=Tryz.isAgg5
 z5:=Tryz.sizeOf5
 v5:=Tryz.zeroValue5
 t9:=Tryz.underlying9
 a9:=Tryz.isAgg9
 z9:=Tryz.sizeOf9
 v9:=Tryz.zeroValue9
 t46:=Tryz.underlying183
 a46:=Tryz.isAgg183
 z46:=Tryz.sizeOf183
 v46:=Tryz.zeroValue183
 t51:=Tryz.underlying253
 a51:=Tryz.isAgg253
 z51:=Tryz.sizeOf253
 v51:=Tryz.zeroValue253
 t146:=Tryz.underlying254
 a146:=Tryz.isAgg254
 z146:=Tryz.sizeOf254
 v146:=Tryz.zeroValue254
 g1:=by kernel_rfl}
open Go.RowKit Go.Lib in
theorem Tryz.strings_Contains (s sub:ByteArray) (m:Int) (w:World) (hs:s.size<4294967281) (hm:w.cell? ⟨2,0,none⟩=some (.int .i64 m)):
 Calls Tryz.prog 157 #[.string s,.string sub] w fun e w'=>e=.returned (.bool (Lib.contains s.data.toList sub.data.toList))∧w'=w:=Any.strings_Contains Tryz.lays144 s sub m w hs hm
def Tryz.laysGw15_ren:Go.Shelf.Ren:=⟨fun|15=>41|20=>83|n=>n,fun|9=>9|23=>58|3=>3|4=>4|0=>0|21=>21|n=>n,fun|n=>n⟩
theorem Tryz.laysGw15:Go.Proofs.LaysGw.n15 Tryz.prog Tryz.laysGw15_ren:={
 mixed:=by kernel_rfl
 f15:=Tryz.func41.trans (congrArg some (by kernel_rfl))
 f20:=Tryz.func83.trans (congrArg some (by kernel_rfl))
 t0:=Tryz.underlying0
 a0:=Tryz.isAgg0
 z0:=Tryz.sizeOf0
 v0:=Tryz.zeroValue0
 i0:=by kernel_rfl
 t3:=Tryz.underlying3
 a3:=Tryz.isAgg3
 z3:=Tryz.sizeOf3
 v3:=Tryz.zeroValue3
 i3:=by kernel_rfl
 t4:=Tryz.underlying4
 a4:=Tryz.isAgg4
 z4:=Tryz.sizeOf4
 v4:=Tryz.zeroValue4
 i4:=by kernel_rfl
 t9:=Tryz.underlying9
 a9:=Tryz.isAgg9
 z9:=Tryz.sizeOf9
 v9:=Tryz.zeroValue9
 i9:=by kernel_rfl
 t21:=Tryz.underlying21
 a21:=Tryz.isAgg21
 z21:=Tryz.sizeOf21
 v21:=Tryz.zeroValue21
 i21:=by kernel_rfl
 t23:=Tryz.underlying58
 a23:=Tryz.isAgg58
 z23:=Tryz.sizeOf58
 v23:=Tryz.zeroValue58
 i23:=by kernel_rfl}
def Tryz.lays99_ren:Go.Shelf.Ren:=⟨fun|99=>87|206=>149|n=>n,fun|9=>9|4=>4|3=>3|n=>n,fun|n=>n⟩
theorem Tryz.lays99:Go.Proofs.Lays.n99 Tryz.prog Tryz.lays99_ren:={
 mixed:=by kernel_rfl
 f99:=Tryz.func87.trans (congrArg some (by kernel_rfl))
 f206:=Tryz.func149.trans (congrArg some (by kernel_rfl))
 t3:=Tryz.underlying3
 a3:=Tryz.isAgg3
 z3:=Tryz.sizeOf3
 v3:=Tryz.zeroValue3
 t4:=Tryz.underlying4
 a4:=Tryz.isAgg4
 z4:=Tryz.sizeOf4
 v4:=Tryz.zeroValue4
 t9:=Tryz.underlying9
 a9:=Tryz.isAgg9
 z9:=Tryz.sizeOf9
 v9:=Tryz.zeroValue9}
open Go.RowKit Go.Lib in
theorem Tryz.strings_HasPrefix (s p:ByteArray) (w:World):
 Calls Tryz.prog 87 #[.string s,.string p] w fun e w'=>e=.returned (.bool (Lib.hasPrefix s.data.toList p.data.toList))∧w'=w:=Any.strings_HasPrefix Tryz.lays99 s p w
def Tryz.lays157_ren:Go.Shelf.Ren:=⟨fun|157=>358|229=>359|199=>360|261=>361|311=>362|312=>363|n=>n,fun|9=>9|31=>74|3=>3|5=>5|4=>4|119=>182|0=>0|40=>58|152=>264|21=>21|154=>266|51=>253|141=>268|196=>272|193=>269|198=>275|49=>273|194=>270|201=>278|226=>280|46=>183|227=>281|n=>n,fun|0=>3|6=>4|n=>n⟩
theorem Tryz.lays157:Go.Proofs.Lays.n157 Tryz.prog Tryz.lays157_ren:={
 mixed:=by kernel_rfl
 f157:=Tryz.func358.trans (congrArg some (by kernel_rfl))
 f199:=Tryz.func360.trans (congrArg some (by kernel_rfl))
 f229:=Tryz.func359.trans (congrArg some (by kernel_rfl))
 f261:=Tryz.func361.trans (congrArg some (by kernel_rfl))
 f311:=Tryz.func362.trans (congrArg some (by kernel_rfl))
 f312:=Tryz.func363.trans (congrArg some (by kernel_rfl))
 t0:=Tryz.underlying0
 a0:=Tryz.isAgg0
 z0:=Tryz.sizeOf0
 v0:=Tryz.zeroValue0
 t3:=Tryz.underlying3
 a3:=Tryz.isAgg3
 z3:=Tryz.sizeOf3
 v3:=Tryz.zeroValue3
 t4:=Tryz.underlying4
 a4:=Tryz.isAgg4
 z4:=Tryz.sizeOf4
 v4:=Tryz.zeroValue4
 t5:=Tryz.underlying5
 a5:=Tryz.isAgg5
 z5:=Tryz.sizeOf5
 v5:=Tryz.zeroValue5
 t9:=Tryz.underlying9
 a9:=Tryz.isAgg9
 z9:=Tryz.sizeOf9
 v9:=Tryz.zeroValue9
 t21:=Tryz.underlying21
 a21:=Tryz.isAgg21
 z21:=Tryz.sizeOf21
 v21:=Tryz.zeroValue21
 t31:=Tryz.underlying74
 a31:=Tryz.isAgg74
 z31:=Tryz.sizeOf74
 v31:=Tryz.zeroValue74
 t40:=Tryz.underlying58
 a40:=Tryz.isAgg58
 z40:=Tryz.sizeOf58
 v40:=Tryz.zeroValue58
 t46:=Tryz.underlying183
 a46:=Tryz.isAgg183
 z46:=Tryz.sizeOf183
 v46:=Tryz.zeroValue183
 t49:=Tryz.underlying273
 a49:=Tryz.isAgg273
 z49:=Tryz.sizeOf273
 v49:=Tryz.zeroValue273
 t51:=Tryz.underlying253
 a51:=Tryz.isAgg253
 z51:=Tryz.sizeOf253
 v51:=Tryz.zeroValue253
 t119:=Tryz.underlying182
 a119:=Tryz.isAgg182
 z119:=Tryz.sizeOf182
 t141:=Tryz.underlying268
 a141:=Tryz.isAgg268
 z141:=Tryz.sizeOf268
 v141:=Tryz.zeroValue268
 t152:=Tryz.underlying264
 a152:=Tryz.isAgg264
 z152:=Tryz.sizeOf264
 v152:=Tryz.zeroValue264
 t154:=Tryz.underlying266
 a154:=Tryz.isAgg266
 z154:=Tryz.sizeOf266
 v154:=Tryz.zeroValue266
 t193:=Tryz.underlying269
 a193:=Tryz.isAgg269
 z193:=Tryz.sizeOf269
 v193:=Tryz.zeroValue269
 t194:=Tryz.underlying270
 a194:=Tryz.isAgg270
 z194:=Tryz.sizeOf270
 v194:=Tryz.zeroValue270
 t196:=Tryz.underlying272
 a196:=Tryz.isAgg272
 z196:=Tryz.sizeOf272
 v196:=Tryz.zeroValue272
 t198:=Tryz.underlying275
 a198:=Tryz.isAgg275
 z198:=Tryz.sizeOf275
 v198:=Tryz.zeroValue275
 t201:=Tryz.underlying278
 a201:=Tryz.isAgg278
 z201:=Tryz.sizeOf278
 v201:=Tryz.zeroValue278
 t226:=Tryz.underlying280
 a226:=Tryz.isAgg280
 z226:=Tryz.sizeOf280
 v226:=Tryz.zeroValue280
 t227:=Tryz.underlying281
 a227:=Tryz.isAgg281
 z227:=Tryz.sizeOf281
 v227:=Tryz.zeroValue281
 g0:=by kernel_rfl
 g6:=by kernel_rfl}
open Go.RowKit Go.Lib in
theorem Tryz.strings_Fields (s : ByteArray) (w : World) (hs : s.size < 4294967281) (hascii : ∀ (j : Nat) b, s.data.toList[j]? = some b → b.toNat < 128) (htab : Lib.TabIs Tryz.prog w "strings.asciiSpace" .u8 Lib.asciiSpaceTab) :
 Calls Tryz.prog 358 #[.string s] w fun e w'=>
  e=.returned (.slice (some ⟨w.heap.size,0,none⟩) (Lib.fields s.data.toList).length (Lib.fields s.data.toList).length)∧w'=w.alloc (.cells ((Lib.fields s.data.toList).map fun l=>Value.string ⟨l.toArray⟩).toArray 9):=Any.strings_Fields Tryz.lays157 (by kernel_rfl) (by kernel_rfl) s w hs hascii htab
def Tryz.lays197_ren:Go.Shelf.Ren:=⟨fun|197=>82|260=>148|n=>n,fun|9=>9|21=>21|3=>3|4=>4|5=>5|105=>100|119=>182|0=>0|46=>183|139=>186|138=>185|n=>n,fun|3=>0|4=>1|n=>n⟩
theorem Tryz.lays197:Go.Proofs.Lays.n197 Tryz.prog Tryz.lays197_ren:={
 mixed:=by kernel_rfl
 f197:=Tryz.func82.trans (congrArg some (by kernel_rfl))
 f260:=Tryz.func148.trans (congrArg some (by kernel_rfl))
 t0:=Tryz.underlying0
 a0:=Tryz.isAgg0
 z0:=Tryz.sizeOf0
 v0:=Tryz.zeroValue0
 t3:=Tryz.underlying3
 a3:=Tryz.isAgg3
 z3:=Tryz.sizeOf3
 v3:=Tryz.zeroValue3
 t4:=Tryz.underlying4
 a4:=Tryz.isAgg4
 z4:=Tryz.sizeOf4
 v4:=Tryz.zeroValue4
 t5:=Tryz.underlying5
 a5:=Tryz.isAgg5
 z5:=Tryz.sizeOf5
 v5:=Tryz.zeroValue5
 t9:=Tryz.underlying9
 a9:=Tryz.isAgg9
 z9:=Tryz.sizeOf9
 v9:=Tryz.zeroValue9
 t21:=Tryz.underlying21
 a21:=Tryz.isAgg21
 z21:=Tryz.sizeOf21
 v21:=Tryz.zeroValue21
 t46:=Tryz.underlying183
 a46:=Tryz.isAgg183
 z46:=Tryz.sizeOf183
 v46:=Tryz.zeroValue183
 t105:=Tryz.underlying100
 a105:=Tryz.isAgg100
 z105:=Tryz.sizeOf100
 v105:=Tryz.zeroValue100
 t119:=Tryz.underlying182
 a119:=Tryz.isAgg182
 z119:=Tryz.sizeOf182
 t138:=Tryz.underlying185
 a138:=Tryz.isAgg185
 z138:=Tryz.sizeOf185
 v138:=Tryz.zeroValue185
 t139:=Tryz.underlying186
 a139:=Tryz.isAgg186
 z139:=Tryz.sizeOf186
 v139:=Tryz.zeroValue186
 g3:=by kernel_rfl
 g4:=by kernel_rfl}
open Go.RowKit Go.Lib in
theorem Tryz.utf8_DecodeRuneInString (s:ByteArray) (w:World) (hT:Lib.Utf8Tabs 0 1 w):
 Calls Tryz.prog 82 #[.string s] w fun e w'=>e=.returned (.tuple #[.int .i32 (Lib.decodeGo s).1,.int .i64 (Lib.decodeGo s).2])∧Below w.heap.size w w':=Any.utf8_DecodeRuneInString Tryz.lays197 s w hT
open Go.RowKit Go.Lib in
theorem Tryz.strings_IndexFunc_grows (g:Nat) (lb:Array Value) (eg:∀args w,(callFunc g args).run Tryz.prog w=.ok (.enter g args) w) (p:Nat→Bool) (s:ByteArray) (w:World) (hp:PredGrows Tryz.prog g lb p w):
 Calls Tryz.prog 41 #[.string s,.func (.func g) #[] lb] w fun e w'=>e=.returned (.int .i64 (Lib.idxFunc p true s))∧Below w.heap.size w w':=Any.strings_IndexFunc_grows Tryz.laysGw15 g lb eg p s w hp
end Go.Proofs
namespace Go.Aw
open Go
theorem RelS.below {I:Mem} {st:St} {w w':World} (h:RelS I st w) (b:RowKit.Below w.heap.size w w'):Fr I st w I st w'∧RelS I st w':=by
 refine ⟨⟨b.os,b.tape,b.output,b.size,fun x hx _ _=>b.block x hx,Mem.le_refl _,fun _ _ h k=>absurd h k,fun _ h k=>absurd h k,fun _ h=>.inr h⟩,?_,?_,?_,h.boxI,?_,h.tab⟩
 ·intro x o v e
  have e:=h.cell x o v e
  rw [Jv (b.block x (lt_of_cell e))];exact e
 ·intro x n e
  obtain ⟨c,ty,h1,h2⟩:=h.shape x n e
  exact ⟨c,ty,by rw [b.block x (lt_of_heap h1)];exact h1,h2⟩
 ·intro x cs e
  obtain ⟨vs,ty,h1,h2⟩:=h.box x cs e
  exact ⟨vs,ty,by rw [b.block x (lt_of_heap h1)];exact h1,h2⟩
 ·intro x n e
  exact ⟨Nat.lt_of_lt_of_le (h.hw x n e).1 b.size,(h.hw x n e).2⟩
theorem Qt {P:Program} {f:FuncId} {args:List V} {st:St} {R:Res→St→Prop} (hf:Plain P f) (v:V)
 (h:∀(I:Mem) (w:World) (cargs:List Value),RelS I st w→RepL I args cargs→Calls P f cargs.toArray w fun e w'=>(∃c,e=.returned c∧Rep I v c)∧RowKit.Below w.heap.size w w')
 (k:R (.ret v) st):PCalls P f args st R:=
 ⟨fun I w cargs hs ha=>(h I w cargs hs ha).mono fun e w' ⟨⟨c,he,hc⟩,hb⟩=>⟨I,st,.ret v,(hs.below hb).1,(hs.below hb).2,by subst he;exact hc,k⟩,hf⟩
theorem RelS.row {I:Mem} {st:St} {w:World} (h:RelS I st w) (vs:List Value) (ty:TypeId):
 Fr I st w (I.add w.heap.size 0 vs vs.length) st (w.alloc (.cells vs.toArray ty))∧RelS (I.add w.heap.size 0 vs vs.length) st (w.alloc (.cells vs.toArray ty))∧I.le (I.add w.heap.size 0 vs vs.length):=by
 have hr:Rel [] I st w I (fun _=>none) {tmps:=[],boxes:=[],nxt:=0,sz:=0,gl:=[]} st {tmps:=#[],defers:=[]} w:=
  Xcq h rfl (fun t v e=>by cases e) rfl rfl
 have h1:=hr.newRow vs [] ty
 rw [List.append_nil,List.length_nil,Nat.add_zero] at h1
 have h2:=h1.stLe (St.UY (St.le_refl st) (Qy h).2 vs.length)
 exact ⟨h2.fr,h2.s,h2.fr.le⟩
theorem Xm0 {I:Mem} {b n:Nat} (l:List (List UInt8)) (hl:∀x ∈ l,x.length<lim) (hn:l.length<lim)
 (hle:I.le (I.add b 0 (l.map fun x=>Value.string ⟨x.toArray⟩) n)):
 Rep (I.add b 0 (l.map fun x=>Value.string ⟨x.toArray⟩) n) (.slice 1 (l.map fun x=>[.str x]) .any) (.slice (some ⟨b,0,none⟩) l.length l.length):=by
 simp only [Rep]
 refine ⟨some ⟨b,0,none⟩,l.length,by simp,by simp,by simpa using hn,by decide,trivial,.inr rfl,?_⟩
 refine RepE.add _ (l.map fun x=>Value.string ⟨x.toArray⟩) 0 ?_ hle (fun j c hj=>Mem.XgB hj)
 clear hle hn
 induction l with
 |nil=>simp only [List.map_nil,RepR]
 |cons a r ih=>
  simp only [List.map_cons,RepR]
  refine ⟨[Value.string ⟨a.toArray⟩],r.map fun x=>Value.string ⟨x.toArray⟩,rfl,rfl,?_,ih fun x hx=>hl x (List.mem_cons_of_mem _ hx)⟩
  simp only [RepL,Rep]
  exact ⟨_,_,rfl,⟨rfl,hl a List.mem_cons_self⟩,rfl⟩
end Go.Aw
namespace Go.Proofs.YtkidoddkbhchkaaGreatDoor
open Go Go.Aw
def decF (s:List UInt8):Int×Int:=match s with
 |[]=>(65533,0)
 |a::r=>(((decR (a::r)).1:Nat),((decR (a::r)).2:Nat))
theorem XaA (s:List UInt8):(((Lib.decodeGo ⟨s.toArray⟩).1:Nat):Int)=(decF s).1∧(((Lib.decodeGo ⟨s.toArray⟩).2:Nat):Int)=(decF s).2:=by
 cases s with
 |nil=>exact ⟨rfl,rfl⟩
 |cons a r=>
  have hz:¬(⟨(a::r).toArray⟩:ByteArray).size=0:=by show ¬(a::r).toArray.size=0;simp
  unfold Lib.decodeGo
  rw [if_neg hz,XdO (by simp),List.drop_zero]
  exact ⟨rfl,rfl⟩
section
variable {st:St} {R:Res→St→Prop}
theorem dec_c {s:List UInt8} (h:R (.ret (.tup [.int .i32 (decF s).1,.int .i64 (decF s).2])) st):PC 82 [.str s] st R:=by
 refine Qt ⟨_,Tryz.func82,by decide,by decide⟩ _ (fun I w cargs hs ha=>?_) h
 simp only [RepL,Rep] at ha
 obtain ⟨c,r,rfl,⟨rfl,hl⟩,rfl⟩:=ha
 refine (Tryz.utf8_DecodeRuneInString ⟨s.toArray⟩ w ⟨fun i hi=>hs.cell _ _ _ (hs.tab.first i hi),fun i hi=>⟨hs.cell _ _ _ (hs.tab.accept i hi).1,hs.cell _ _ _ (hs.tab.accept i hi).2⟩⟩).mono fun e w' ⟨he,hb⟩=>⟨⟨_,he,?_⟩,hb⟩
 rw [(XaA s).1,(XaA s).2]
 simp only [Rep,RepL]
 exact ⟨_,rfl,_,_,rfl,rfl,_,_,rfl,rfl,rfl⟩
theorem Ue {s p:List UInt8} (h:R (.ret (.bool (p.isPrefixOf s))) st):PC 87 [.str s,.str p] st R:=by
 refine Qt ⟨_,Tryz.func87,by decide,by decide⟩ _ (fun I w cargs hs ha=>?_) h
 simp only [RepL,Rep] at ha
 obtain ⟨c,r,rfl,⟨rfl,hl⟩,c2,r2,rfl,⟨rfl,hl2⟩,rfl⟩:=ha
 refine (Tryz.strings_HasPrefix ⟨s.toArray⟩ ⟨p.toArray⟩ w).mono fun e w' ⟨he,hw⟩=>⟨⟨_,he,?_⟩,hw ▸ RowKit.Below.refl _ _⟩
 simp only [Rep]
 rfl
theorem trim_c {s:List UInt8} {c:UInt8} (hc:c.toNat<128) (h:R (.ret (.str (Lib.trimB s c))) st):PC 150 [.str s,.str [c]] st R:=by
 refine Qt ⟨_,Tryz.func150,by decide,by decide⟩ _ (fun I w cargs hs ha=>?_) h
 simp only [RepL,Rep] at ha
 obtain ⟨c1,r,rfl,⟨rfl,hl⟩,c2,r2,rfl,⟨rfl,hl2⟩,rfl⟩:=ha
 have hsz:(⟨s.toArray⟩:ByteArray).size≤9223372036854775807:=by show s.toArray.size≤_;unfold lim at hl;simp;omega
 refine (Tryz.strings_Trim_one ⟨s.toArray⟩ c hc w hsz).mono fun e w' ⟨he,hw⟩=>⟨⟨_,he,?_⟩,?_⟩
 ·simp only [Rep]
  refine ⟨trivial,?_⟩
  have:(Lib.trimB s c).length≤s.length:=by
   unfold Lib.trimB Lib.trimLeftB Lib.trimRightB
   refine Nat.le_trans (List.dropWhile_sublist _).length_le ?_
   rw [List.length_reverse]
   refine Nat.le_trans (List.dropWhile_sublist _).length_le ?_
   simp
  unfold lim at hl ⊢;omega
 ·rcases hw with rfl|rfl
  ·exact RowKit.Below.refl _ _
  ·exact (RowKit.Below.refl _ _).drew
theorem byte_c {s:List UInt8} {c:UInt8} (h:R (.ret (.int .i64 (Lib.indexByte s c))) st):PC 346 [.str s,.int .u8 c.toNat] st R:=by
 refine Qt ⟨_,Tryz.func346,by decide,by decide⟩ _ (fun I w cargs hs ha=>?_) h
 simp only [RepL,Rep] at ha
 obtain ⟨c1,r,rfl,⟨rfl,hl⟩,c2,r2,rfl,rfl,rfl⟩:=ha
 refine (Tryz.strings_IndexByte ⟨s.toArray⟩ c.toNat w).mono fun e w' ⟨he,hw⟩=>⟨⟨_,he,?_⟩,hw ▸ RowKit.Below.refl _ _⟩
 simp [Rep]
theorem XgP {s t:List UInt8} (hz:s.length<4294967281) (h:R (.ret (.bool (Lib.contains s t))) st):PC 157 [.str s,.str t] st R:=by
 refine Qt ⟨_,Tryz.func157,by decide,by decide⟩ _ (fun I w cargs hs ha=>?_) h
 simp only [RepL,Rep] at ha
 obtain ⟨c1,r,rfl,⟨rfl,hl⟩,c2,r2,rfl,⟨rfl,hl2⟩,rfl⟩:=ha
 obtain ⟨m,hm⟩:=hs.tab.maxLen
 refine (Tryz.strings_Contains ⟨s.toArray⟩ ⟨t.toArray⟩ m w (by show s.toArray.size<_;simpa using hz) (hs.cell _ _ _ hm)).mono fun e w' ⟨he,hw⟩=>⟨⟨_,he,?_⟩,hw ▸ RowKit.Below.refl _ _⟩
 simp [Rep]
end
end Go.Proofs.YtkidoddkbhchkaaGreatDoor
namespace Go.Aw
open Go
noncomputable def Env.atx (env:Env) (ch:List (Nat×V)) (bx:List (Nat×List V)) (keep kb:List Nat):Env:=match env with
 |⟨ts,bs,n,sz,gl⟩=>⟨Env.ts ⟨ts,bs,n,sz,gl⟩ ch keep,List.rec (motive:=fun _=>List (Nat×List V)) (Env.bx ⟨ts,bs,n,sz,gl⟩ kb) (fun p _ ih=>p::ih) bx,n,sz,gl⟩
theorem Xch {ih:(AExit→Env→St→Prop)→Env→St→Prop} {Q:AExit→Env→St→Prop} {env:Env} {st:St} {α:Type} (f:α→List (Nat×V)) (g:α→List (Nat×List V)) (keep kb:List Nat) (S:α→St) (J:α→Prop) (μ:α→Nat) (x0:α) (h0:J x0)
 (he:(env.atx (f x0) (g x0) keep kb).leC env) (hs:St.le (S x0) st)
 (hb:∀x,J x→ih (thenQ (fun env' st'=>∃y,J y∧μ y<μ x∧(env.atx (f y) (g y) keep kb).leC env'∧St.le (S y) st') Q) (env.atx (f x) (g x) keep kb) (S x)):
 ∃(α:Type) (E:α→Env) (S:α→St) (J:α→Prop) (μ:α→Nat) (x0:α),J x0∧(E x0).leC env∧St.le (S x0) st∧
  ∀x,J x→ih (thenQ (fun env' st'=>∃y,J y∧μ y<μ x∧(E y).leC env'∧St.le (S y) st') Q) (E x) (S x):=
 ⟨α,fun k=>env.atx (f k) (g k) keep kb,S,J,μ,x0,h0,he,hs,hb⟩
theorem Xhd {ih:(AExit→Env→St→Prop)→Env→St→Prop} {Q:AExit→Env→St→Prop} {env:Env} {st:St} {α β:Type} (f:α→β→List (Nat×V)) (g:α→β→List (Nat×List V)) (keep kb:List Nat) (S:α→β→St) (J:α→β→Prop) (μ:α→β→Nat) (x0:α) (y0:β) (h0:J x0 y0)
 (he:(env.atx (f x0 y0) (g x0 y0) keep kb).leC env) (hs:St.le (S x0 y0) st)
 (hb:∀x y,J x y→ih (thenQ (fun env' st'=>∃p:α×β,J p.1 p.2∧μ p.1 p.2<μ x y∧(env.atx (f p.1 p.2) (g p.1 p.2) keep kb).leC env'∧St.le (S p.1 p.2) st') Q) (env.atx (f x y) (g x y) keep kb) (S x y)):
 ∃(α:Type) (E:α→Env) (S:α→St) (J:α→Prop) (μ:α→Nat) (x0:α),J x0∧(E x0).leC env∧St.le (S x0) st∧
  ∀x,J x→ih (thenQ (fun env' st'=>∃y,J y∧μ y<μ x∧(E y).leC env'∧St.le (S y) st') Q) (E x) (S x):=
 ⟨α×β,fun p=>env.atx (f p.1 p.2) (g p.1 p.2) keep kb,fun p=>S p.1 p.2,fun p=>J p.1 p.2,fun p=>μ p.1 p.2,(x0,y0),h0,he,hs,fun p h=>hb p.1 p.2 h⟩
theorem Xeg {ih:(AExit→Env→St→Prop)→Env→St→Prop} {Q:AExit→Env→St→Prop} {env:Env} {st:St} {α β γ:Type} (f:α→β→γ→List (Nat×V)) (g:α→β→γ→List (Nat×List V)) (keep kb:List Nat) (S:α→β→γ→St) (J:α→β→γ→Prop) (μ:α→β→γ→Nat) (x0:α) (y0:β) (z0:γ) (h0:J x0 y0 z0)
 (he:(env.atx (f x0 y0 z0) (g x0 y0 z0) keep kb).leC env) (hs:St.le (S x0 y0 z0) st)
 (hb:∀x y z,J x y z→ih (thenQ (fun env' st'=>∃p:α×β×γ,J p.1 p.2.1 p.2.2∧μ p.1 p.2.1 p.2.2<μ x y z∧(env.atx (f p.1 p.2.1 p.2.2) (g p.1 p.2.1 p.2.2) keep kb).leC env'∧St.le (S p.1 p.2.1 p.2.2) st') Q) (env.atx (f x y z) (g x y z) keep kb) (S x y z)):
 ∃(α:Type) (E:α→Env) (S:α→St) (J:α→Prop) (μ:α→Nat) (x0:α),J x0∧(E x0).leC env∧St.le (S x0) st∧
  ∀x,J x→ih (thenQ (fun env' st'=>∃y,J y∧μ y<μ x∧(E y).leC env'∧St.le (S y) st') Q) (E x) (S x):=
 ⟨α×β×γ,fun p=>env.atx (f p.1 p.2.1 p.2.2) (g p.1 p.2.1 p.2.2) keep kb,fun p=>S p.1 p.2.1 p.2.2,fun p=>J p.1 p.2.1 p.2.2,fun p=>μ p.1 p.2.1 p.2.2,(x0,y0,z0),h0,he,hs,fun p h=>hb p.1 p.2.1 p.2.2 h⟩
theorem XU {k:IntKind} {a b:Int} (e:a=b):Res.ret (.int k a)=Res.ret (.int k b):=by rw [e]
theorem WJ {n:Nat} {p:Prop} (k:n<4611686018427387904→p):n<lim→p:=k
theorem WK {l:List UInt8} {K:Nat→Nat→Prop} (k:∀c m,(c,m)=decR l→K c m):∀c m,(c,m)=decR l→K c m:=k
theorem WN {s:List UInt8} {a:Int} {K:List UInt8→Prop} (h0:0≤a) (h1:a≤s.length) (k:K (s.drop a.toNat)):
 (0≤a∧a≤(s.length:Int)∧(s.length:Int)≤s.length)∧∀s',s'=(s.take (s.length:Int).toNat).drop a.toNat→K s':=
 ⟨⟨h0,h1,Int.le_refl _⟩,fun s' e=>by
   rw [show (s.length:Int).toNat=s.length by omega,List.take_length] at e;subst e;exact k⟩
theorem WO {s:List UInt8} {b:Int} {K:List UInt8→Prop} (h0:0≤b) (h1:b≤s.length) (k:K (s.take b.toNat)):
 ((0:Int)≤0∧0≤b∧b≤s.length)∧∀s',s'=(s.take b.toNat).drop (0:Int).toNat→K s':=
 ⟨⟨Int.le_refl _,h0,h1⟩,fun s' e=>by
   rw [show (0:Int).toNat=0 from rfl,List.drop_zero] at e;subst e;exact k⟩
theorem WP {s:List UInt8} {a b:Int} {K:List UInt8→Prop} (h0:0≤a) (h1:a≤b) (h2:b≤s.length) (k:K ((s.take b.toNat).drop a.toNat)):
 (0≤a∧a≤b∧b≤s.length)∧∀s',s'=(s.take b.toNat).drop a.toNat→K s':=⟨⟨h0,h1,h2⟩,fun s' e=>e ▸ k⟩
theorem WM {s:List UInt8} {i:Int} {K:UInt8→Prop} (h0:0≤i) (h1:i<s.length) (k:∀e,s[i.toNat]? =some e→K e):0≤i∧∃e,s[i.toNat]? =some e∧K e:=by
 have hlt:i.toNat<s.length:=by omega
 exact ⟨h0,s[i.toNat],List.getElem?_eq_getElem hlt,k _ (List.getElem?_eq_getElem hlt)⟩
theorem WL {s:List UInt8} {i:Int} {e:UInt8} {K:UInt8→Prop} (h:s[i.toNat]? =some e) (h0:0≤i) (k:K e):0≤i∧∃e,s[i.toNat]? =some e∧K e:=⟨h0,e,h,k⟩
theorem Yc0 {c:Bool} {p q:Prop} {A:Prop} (k:A) (h:A→bcase c p q:=by with_reducible first|exact fun k=>Wt (by first|assumption|omega) k|exact fun k=>Wu (by first|assumption|omega) k|exact fun k=>Wv (by omega) k|exact fun k=>Ww (by omega) k|exact fun k=>Wi k|exact fun k=>Wj k|fail):bcase c p q:=h k
theorem Yc1 {c:Bool} {p q:Prop} {A B:Prop} (k:A) (l:B) (h:A→B→bcase c p q:=by with_reducible first|exact fun k l=>Wf (by decide) k l|exact fun k l=>Wg k l|exact fun k l=>Wh k l|exact fun k l=>Wk k l|fail):bcase c p q:=h k l
def markF (c:Int):Int:=
 if c=40∨c=41∨c=44∨c=59∨c=91∨c=93∨c=96∨c=123∨c=125 then 6
 else if c=34∨c=39 then 7
 else if 32<c∧c<127 then 5
 else 0
def beyondF (c:Int):Int:=
 if c=215∨c=247 then 5
 else if 223≤c∧c≤255∨945≤c∧c≤969 then 2
 else if 192≤c∧c≤222∨913≤c∧c≤937∧c≠930 then 3
 else if c<160∨c=173∨55296≤c∧c≤57343∨1114111<c then 0
 else if 160<c∧c≤191∨8592≤c∧c≤8959 then 5
 else 8
def classF (c:Int):Int:=
 if c=32∨9≤c∧c≤13 then 1
 else if 48≤c∧c≤57 then 4
 else if 97≤c∧c≤122∨c=95 then 2
 else if 65≤c∧c≤90 then 3
 else if c<128 then markF c else beyondF c
def digitF (c base:Int):Int:=
 let v:=if 48≤c∧c≤57 then c - 48 else if 97≤c∧c≤102 then c - 87 else if 65≤c∧c≤70 then c - 55 else 16
 if base<2∨16<base∨base≤v then -1 else v
theorem QI (l:List UInt8):1≤(decR l).2:=by
 unfold decR
 split
 ·decide
 ·dsimp only
  repeat' split
  all_goals simp
theorem ZV {l:List UInt8} (h:l≠[]):(decR l).2≤l.length:=by
 cases l with
 |nil=>exact absurd rfl h
 |cons a l=>
  have hc:∀k:Nat,(match l[k]? with|some b=>b.toNat / 64==2|none=>false)=true→k+2≤(a::l).length:=fun k e=>by
   cases hk:l[k]? with
   |none=>rw [hk] at e;cases e
   |some b=>have:=(List.getElem?_eq_some_iff.1 hk).1;rw [List.length_cons];omega
  unfold decR
  dsimp only
  split
  ·simp
  split
  ·rename_i h2
   simp only [Bool.and_eq_true] at h2
   have:=hc 0 h2.2
   split<;>simp only<;>omega
  split
  ·rename_i h2
   simp only [Bool.and_eq_true] at h2
   have:=hc 1 h2.2
   split<;>simp only<;>omega
  split
  ·rename_i h2
   simp only [Bool.and_eq_true] at h2
   have:=hc 2 h2.2
   split<;>simp only<;>omega
  ·simp
def spanD (p:Nat×Nat→Bool) (l:List UInt8):Nat:=
 match l with
 |[]=>0
 |a::r=>if p (decR (a::r)) then (decR (a::r)).2+spanD p ((a::r).drop (decR (a::r)).2) else 0
termination_by l.length
decreasing_by
 have:=QI (a::r)
 simp only [List.length_drop,List.length_cons]
 omega
theorem Ze (p:Nat×Nat→Bool):spanD p []=0:=by rw [spanD]
theorem Qj {p:Nat×Nat→Bool} {l:List UInt8} (h:l≠[]) (hp:p (decR l)=true):spanD p l=(decR l).2+spanD p (l.drop (decR l).2):=by
 cases l with
 |nil=>exact absurd rfl h
 |cons a r=>rw [spanD,if_pos hp]
theorem Zo {p:Nat×Nat→Bool} {l:List UInt8} (hp:p (decR l)=false):spanD p l=0:=by
 cases l with
 |nil=>exact Ze p
 |cons a r=>rw [spanD,if_neg (by rw [hp];decide)]
theorem GZ (p:Nat×Nat→Bool) (l:List UInt8):spanD p l≤l.length:=by
 fun_induction spanD p l with
 |case1=>exact Nat.le_refl _
 |case2 a r h ih=>
  have:=ZV (l:=a::r) (by simp)
  rw [List.length_drop] at ih
  omega
 |case3 a r h=>exact Nat.zero_le _
theorem XhJ (p:Nat×Nat→Bool) (l:List UInt8) (h:spanD p l<l.length):p (decR (l.drop (spanD p l)))=false:=by
 fun_induction spanD p l with
 |case1=>simp at h
 |case2 a r hp ih=>
  rw [List.length_drop] at ih
  have:=ZV (l:=a::r) (by simp)
  rw [←List.drop_drop]
  exact ih (by omega)
 |case3 a r hp=>simpa using hp
def spanR (p:Int→Bool) (l:List UInt8):Nat:=spanD (fun d=>p (d.1:Nat)) l
theorem XdA (p:Int→Bool):spanR p []=0:=Ze _
theorem Xkt {p:Int→Bool} {l:List UInt8} (h:l≠[]) (hp:p ((decR l).1:Nat)=true):spanR p l=(decR l).2+spanR p (l.drop (decR l).2):=Qj h hp
theorem XcB {p:Int→Bool} {l:List UInt8} (hp:p ((decR l).1:Nat)=false):spanR p l=0:=Zo hp
theorem ZK (p:Int→Bool) (l:List UInt8):spanR p l≤l.length:=GZ _ l
theorem XcC (p:Int→Bool) (l:List UInt8) (h:spanR p l<l.length):p ((decR (l.drop (spanR p l))).1:Nat)=false:=XhJ _ l h
theorem rune_le {t:List UInt8} {pos c m:Nat} (h:pos<t.length) (hd:(c,m)=decR (t.drop pos)):pos+m≤t.length∧1≤m:=by
 have h1:=QI (t.drop pos)
 have h2:=ZV (l:=t.drop pos) (fun e=>by have:=congrArg List.length e;rw [List.length_drop,List.length_nil] at this;omega)
 rw [List.length_drop,←hd] at h2
 rw [←hd] at h1
 exact ⟨by omega,h1⟩
theorem Xbi {p:Nat×Nat→Bool} {t:List UInt8} {pos c m n:Nat} (h:pos<t.length) (hd:(c,m)=decR (t.drop pos)) (hp:p (c,m)=true) (hi:n=pos+spanD p (t.drop pos)):n=pos+m+spanD p (t.drop (pos+m)):=by
 rw [hi,Qj (fun e=>by have:=congrArg List.length e;rw [List.length_drop,List.length_nil] at this;omega) (by rw [←hd];exact hp),←hd,List.drop_drop]
 exact (Nat.add_assoc _ _ _).symm
theorem XeG {p:Nat×Nat→Bool} {t:List UInt8} {pos c m n:Nat} (hd:(c,m)=decR (t.drop pos)) (hp:p (c,m)=false) (hi:n=pos+spanD p (t.drop pos)):n=pos:=by
 rw [hi,Zo (by rw [←hd];exact hp)];rfl
theorem XcD {p:Nat×Nat→Bool} {t:List UInt8} {pos n:Nat} (h:¬pos<t.length) (hi:n=pos+spanD p (t.drop pos)):n=pos:=by
 rw [hi,List.drop_eq_nil_iff.2 (by omega),Ze];rfl
def goodD (d:Nat×Nat):Bool:= !(d.1==65533&&d.2==1)
end Go.Aw
namespace Go.Proofs.YtkidoddkbhchkaaGreatDoor
open Go Go.Aw
def nextF (s:List UInt8) (i:Int):Int×Int:=if i<0∨s.length≤i then (0,0) else decF (s.drop i.toNat)
def runF (s:List UInt8) (i class':Int):Int:=if i<0∨s.length<i then 0 else i+spanR (fun c=>classF c==class') (s.drop i.toNat)
def chkF (s:List UInt8):Int×Int:=if spanD goodD s<s.length then (spanD goodD s,10) else (s.length,0)
theorem Xdn {s:List UInt8} {i:Int} (h:i<0∨s.length≤i):nextF s i=(0,0):=if_pos h
theorem GH {s:List UInt8} {i:Int} (h:0≤i) (k:i<s.length):nextF s i=decF (s.drop i.toNat):=if_neg (by omega)
theorem Xnb {s:List UInt8} {i k:Int} (h:i<0∨s.length<i):runF s i k=0:=if_pos h
theorem Xbf {s:List UInt8} {i k:Int} (h:0≤i) (h1:i≤s.length):runF s i k=i+spanR (fun c=>classF c==k) (s.drop i.toNat):=if_neg (by omega)
theorem Xh4 {s:List UInt8} (h:s≠[]):decF s=((((decR s).1:Nat):Int),(((decR s).2:Nat):Int)):=by
 cases s with
 |nil=>exact absurd rfl h
 |cons a r=>rfl
theorem Xa3 {s:List UInt8} {pos c m:Nat} (h:pos<s.length) (hd:(c,m)=decR (s.drop pos)):decF (s.drop (pos:Int).toNat)=((c:Int),(m:Int)):=by
 rw [show (pos:Int).toNat=pos by omega,Xh4 (fun e=>by have:=congrArg List.length e;rw [List.length_drop,List.length_nil] at this;omega),←hd]
theorem Xle {s:List UInt8} {pos:Nat} (h:pos<s.length) (k:spanD goodD s=pos):chkF s=(((pos:Nat):Int),10):=by
 unfold chkF;rw [k,if_pos h]
theorem chkF_ok {s:List UInt8} {pos:Nat} (h:¬pos<s.length) (k:spanD goodD s=pos):chkF s=((s.length:Int),0):=by
 unfold chkF;rw [k,if_neg h]
section
variable {st:St} {R:Res→St→Prop}
theorem mark_c {c:Int} (h:R (.ret (.int .i64 (markF c))) st):PC 84 [.int .i32 c] st R:=by
 refine Xa Xb [] Tryz.func84 rfl (by decide) ?_
 repeat' ((conv=>whnf);first|(with_reducible first|refine Yc0 ?_|(refine Yc1 ?_ ?_<;>intro _)))
 all_goals exact fin h (XU (by unfold markF;(repeat' split)<;>first|omega|rfl))
theorem Xk5 {c:Int} (h:R (.ret (.int .i64 (beyondF c))) st):PC 85 [.int .i32 c] st R:=by
 refine Xa Xb [] Tryz.func85 rfl (by decide) ?_
 repeat' ((conv=>whnf);first|(with_reducible first|refine Yc0 ?_|(refine Yc1 ?_ ?_<;>intro _)))
 all_goals exact fin h (XU (by unfold beyondF;(repeat' split)<;>first|omega|rfl))
theorem Vn {c:Int} (h:R (.ret (.int .i64 (classF c))) st):PC 43 [.int .i32 c] st R:=by
 refine Xa Xb [] Tryz.func43 rfl (by decide) ?_
 repeat' ((conv=>whnf);first|(with_reducible first|refine Yc0 ?_|(refine Yc1 ?_ ?_<;>intro _))|refine mark_c ?_|refine Xk5 ?_)
 all_goals exact fin h (XU (by unfold classF;(repeat' split)<;>first|omega|rfl))
theorem XmE {s:List UInt8} {i:Int} (hl:s.length<4611686018427387904) (h:R (.ret (.tup [.int .i32 (nextF s i).1,.int .i64 (nextF s i).2])) st):PC 276 [.str s,.int .i64 i] st R:=by
 refine Xa Xb [] Tryz.func276 rfl (by decide) ?_
 repeat' ((conv=>whnf);first|(with_reducible first|refine Yc0 ?_|(refine Yc1 ?_ ?_<;>intro _)|refine Wl (fun _=>?_)|refine Wo (by omega) (by omega) ?_|refine Wp (by omega) (by omega) (by omega) ?_|refine Wz (fun _=>?_)|refine WA (fun _=>?_)|refine WE (by omega) (by omega) (by omega) ?_|refine WJ (fun _=>?_)|refine WN (by omega) (by omega) ?_|refine WO (by omega) (by omega) ?_|refine WP (by omega) (by omega) (by omega) ?_)|refine dec_c ?_)
 all_goals exact fin h (by first|rw [Xdn (by omega)]|rw [GH (by omega) (by omega)])
theorem run_c {s:List UInt8} {i k:Int} (hl:s.length<4611686018427387904) (h:R (.ret (.int .i64 (runF s i k))) st):PC 86 [.str s,.int .i64 i,.int .i64 k] st R:=by
 refine Xa Xb [] Tryz.func86 rfl (by decide) ?_
 repeat' ((conv=>whnf);first|(with_reducible first|refine Yc0 ?_|(refine Yc1 ?_ ?_<;>intro _)|refine Wl (fun _=>?_)|refine Wo (by omega) (by omega) ?_|refine Wp (by omega) (by omega) (by omega) ?_|refine Wq (by omega) (by omega) ?_|refine Wz (fun _=>?_)|refine WA (fun _=>?_)|refine WE (by omega) (by omega) (by omega) ?_|refine WJ (fun _=>?_)|refine WK (fun _ _ _=>?_)|refine WN (by omega) (by omega) ?_|refine WO (by omega) (by omega) ?_|refine WP (by omega) (by omega) (by omega) ?_)|refine Vn ?_)
 all_goals try exact fin h (XU (Xnb (by omega)))
 have hlen:(s.drop i.toNat).length=s.length - i.toNat:=List.length_drop
 generalize ht:s.drop i.toNat=t at hlen
 refine Xch (α:=Nat) (fun _=>[]) (fun pos=>[(0,[.sit t pos])]) [0,1,2,20] [] (fun _=>st) (fun pos=>pos≤t.length∧spanR (fun c=>classF c==k) t=pos+spanR (fun c=>classF c==k) (t.drop pos)) (fun pos=>t.length - pos) 0 ⟨Nat.zero_le _,by simp⟩ Yl (St.le_refl _) ?_
 rintro pos ⟨hp,hi⟩
 repeat' ((conv=>whnf);first|(with_reducible first|refine Yc0 ?_|(refine Yc1 ?_ ?_<;>intro _)|refine Wl (fun _=>?_)|refine Wo (by omega) (by omega) ?_|refine Wp (by omega) (by omega) (by omega) ?_|refine Wq (by omega) (by omega) ?_|refine Wz (fun _=>?_)|refine WA (fun _=>?_)|refine WE (by omega) (by omega) (by omega) ?_|refine WJ (fun _=>?_)|refine WK (fun _ _ _=>?_)|refine WN (by omega) (by omega) ?_|refine WO (by omega) (by omega) ?_|refine WP (by omega) (by omega) (by omega) ?_)|refine Vn ?_)
 ·rename_i hlt c m hd hk
  have hr:=rune_le hlt hd
  conv=>whnf
  exact ⟨pos+m,⟨hr.1,Xbi hlt hd (beq_iff_eq.2 hk) hi⟩,by omega,Yl,St.le_refl _⟩
 ·rename_i hlt c m hd hk
  have:=XeG (p:=fun d=>classF (d.1:Nat)==k) hd (beq_eq_false_iff_ne.2 hk) hi
  exact fin h (XU (by rw [Xbf (by omega) (by omega),ht,this]))
 ·rename_i hlt hls
  have:=XcD hlt hi
  exact fin h (XU (by rw [Xbf (by omega) (by omega),ht,this];omega))
theorem XdN {s:List UInt8} (h:R (.ret (.tup [.int .i64 (chkF s).1,.int .i64 (chkF s).2])) st):PC 40 [.str s] st R:=by
 refine Xa Xb [] Tryz.func40 rfl (by decide) ?_
 repeat' ((conv=>whnf);first|(with_reducible first|refine Yc0 ?_|(refine Yc1 ?_ ?_<;>intro _)|refine Wl (fun _=>?_)|refine Wo (by omega) (by omega) ?_|refine Wp (by omega) (by omega) (by omega) ?_|refine Wz (fun _=>?_)|refine WA (fun _=>?_)|refine WE (by omega) (by omega) (by omega) ?_|refine WJ (fun _=>?_)|refine WK (fun _ _ _=>?_)|refine WN (by omega) (by omega) ?_|refine WO (by omega) (by omega) ?_|refine WP (by omega) (by omega) (by omega) ?_))
 refine Xch (α:=Nat) (fun _=>[]) (fun pos=>[(0,[.sit s pos])]) [0,9] [] (fun _=>st) (fun pos=>pos≤s.length∧spanD goodD s=pos+spanD goodD (s.drop pos)) (fun pos=>s.length - pos) 0 ⟨Nat.zero_le _,by simp⟩ Yl (St.le_refl _) ?_
 rintro pos ⟨hp,hi⟩
 repeat' ((conv=>whnf);first|(with_reducible first|refine Yc0 ?_|(refine Yc1 ?_ ?_<;>intro _)|refine Wl (fun _=>?_)|refine Wo (by omega) (by omega) ?_|refine Wp (by omega) (by omega) (by omega) ?_|refine Wz (fun _=>?_)|refine WA (fun _=>?_)|refine WE (by omega) (by omega) (by omega) ?_|refine WJ (fun _=>?_)|refine WK (fun _ _ _=>?_)|refine WN (by omega) (by omega) ?_|refine WO (by omega) (by omega) ?_|refine WP (by omega) (by omega) (by omega) ?_)|refine dec_c ?_)
 ·rename_i hlt c m hd hc hm
  rw [Xa3 hlt hd] at hm
  have hk:=XeG hd (by simp only [goodD];have h1:c=65533:=hc;have h2:m=1:=Int.ofNat.inj hm;rw [h1,h2];rfl) hi
  exact fin h (by rw [Xle hlt hk])
 ·rename_i hlt c m hd hc hm
  rw [Xa3 hlt hd] at hm
  have hr:=rune_le hlt hd
  conv=>whnf
  exact ⟨pos+m,⟨hr.1,Xbi hlt hd (by simp only [goodD];have:¬m=1:=fun e=>hm (by subst e;rfl);simp [this]) hi⟩,by omega,Yl,St.le_refl _⟩
 ·rename_i hlt c m hd hc
  have hr:=rune_le hlt hd
  conv=>whnf
  exact ⟨pos+m,⟨hr.1,Xbi hlt hd (by simp only [goodD];have:¬c=65533:=hc;simp [this]) hi⟩,by omega,Yl,St.le_refl _⟩
 ·rename_i hlt hls
  exact fin h (by rw [chkF_ok hlt (XcD hlt hi)])
end
end Go.Proofs.YtkidoddkbhchkaaGreatDoor
namespace Go.Aw
open Go
def hdF:List UInt8→Int
 |[]=> -1
 |a::_=>(a.toNat:Nat)
theorem Xmb (l:List UInt8): -1≤hdF l∧hdF l≤255:=by
 cases l with
 |nil=>exact ⟨by decide,by decide⟩
 |cons a r=>have:=a.toNat_lt;simp only [hdF];omega
def nlF (l:List UInt8):Nat:=if hdF l=13∧hdF (l.drop 1)=10 then 2 else if hdF l=13∨hdF l=10∨hdF l=12 then 1 else 0
def stopF (col:Int):Int:=(col - 1) / 8*8+9
def stepN (l:List UInt8):Nat:=if 0<nlF l then nlF l else (decR l).2
def stepL (l:List UInt8) (line:Int):Int:=if 0<nlF l then line+1 else line
def stepC (l:List UInt8) (col:Int):Int:=if 0<nlF l then 1 else if hdF l=9 then stopF col else col+1
theorem QN {s:List UInt8} {i:Nat} {e:UInt8} (h:s[i]? =some e):hdF (s.drop i)=(e.toNat:Nat):=by rw [drop_at h];rfl
theorem Jm {s:List UInt8} {i:Nat} (h:s.length≤i):hdF (s.drop i)= -1:=by rw [List.drop_eq_nil_iff.2 h];rfl
theorem Xhk (l:List UInt8):nlF l≤l.length:=by
 rcases l with _|⟨a,_|⟨b,r⟩⟩
 ·decide
 ·have e:¬(hdF [a]=13∧hdF ([a].drop 1)=10):=fun h=>absurd (show (-1:Int)=10 from h.2) (by decide)
  unfold nlF
  rw [if_neg e,List.length_singleton]
  by_cases h:hdF [a]=13∨hdF [a]=10∨hdF [a]=12
  ·rw [if_pos h];omega
  ·rw [if_neg h];omega
 ·unfold nlF
  simp only [List.length_cons]
  by_cases h1:hdF (a::b::r)=13∧hdF ((a::b::r).drop 1)=10
  ·rw [if_pos h1];omega
  ·rw [if_neg h1]
   by_cases h:hdF (a::b::r)=13∨hdF (a::b::r)=10∨hdF (a::b::r)=12
   ·rw [if_pos h];omega
   ·rw [if_neg h];omega
theorem Zp {l:List UInt8} (h:l≠[]):stepN l≤l.length∧1≤stepN l:=by
 unfold stepN
 split
 ·exact ⟨Xhk l,by assumption⟩
 ·exact ⟨ZV h,QI l⟩
theorem XiY (s:List UInt8) (pos:Nat):¬pos<s.length∨(pos+stepN (s.drop pos)≤s.length∧1≤stepN (s.drop pos)):=by
 by_cases h:pos<s.length
 ·have:=Zp (l:=s.drop pos) (fun e=>by have:=congrArg List.length e;rw [List.length_drop,List.length_nil] at this;omega)
  rw [List.length_drop] at this
  exact .inr ⟨by omega,this.2⟩
 ·exact .inl h
end Go.Aw
namespace Go.Proofs.YtkidoddkbhchkaaGreatDoor
open Go Go.Aw
def spot (pos:Nat) (line col:Int):V:=.agg [.int .i64 pos,.int .i64 line,.int .i64 col]
theorem XcE {p:Nat} {p' l l' c c':Int} (e1:(p:Int)=p') (e2:l=l') (e3:c=c'):Res.ret (spot p l c)=Res.ret (.agg [.int .i64 p',.int .i64 l',.int .i64 c']):=by subst e1;subst e2;subst e3;rfl
section
variable {st:St} {R:Res→St→Prop}
theorem XiB {s:List UInt8} {i:Int} {c m:Nat} (hl:s.length<4611686018427387904) (hx:nextF s i=((c:Int),(m:Int))) (h:R (.ret (.tup [.int .i32 c,.int .i64 m])) st):PC 276 [.str s,.int .i64 i] st R:=XmE hl (by rw [hx];exact h)
theorem Xdm {s:List UInt8} {pos:Nat} (hl:s.length<4611686018427387904) (hp:pos<s.length) (h:R (.ret (.int .i64 (nlF (s.drop pos):Nat))) st):PC 226 [.str s,.int .i64 pos] st R:=by
 obtain ⟨e,he⟩:∃e,s[pos]? =some e:=⟨s[pos],List.getElem?_eq_getElem hp⟩
 have he':s[(pos:Int).toNat]? =some e:=he
 have h0:=QN he
 have h1:hdF ((s.drop pos).drop 1)=hdF (s.drop (pos+1)):=by rw [List.drop_drop]
 refine Xa Xb [] Tryz.func226 rfl (by decide) ?_
 repeat' ((conv=>whnf);first|(with_reducible first|refine Yc0 ?_|(refine Yc1 ?_ ?_<;>intro _)|refine Wl (fun _=>?_)|refine Wq (by omega) (by omega) ?_|refine Wz (fun _=>?_)|refine WA (fun _=>?_)|refine WJ (fun _=>?_)|refine WL (by assumption) (by omega) ?_|refine WM (by omega) (by omega) (fun _ _=>?_)))
 all_goals try have h2:=QN (show s[pos+1]? =some _ by assumption)
 all_goals try have h3:=Jm (s:=s) (i:=pos+1) (by omega)
 all_goals exact fin h (XU (by unfold nlF;rw [h1];(repeat' split)<;>omega))
theorem stop_c {col:Int} (h0:1≤col) (h1:col≤4000000000000000000) (h:R (.ret (.int .i64 (stopF col))) st):PC 277 [.int .i64 col] st R:=by
 refine Xa Xb [] Tryz.func277 rfl (by decide) ?_
 repeat' ((conv=>whnf);first|(with_reducible first|refine Yc0 ?_|(refine Yc1 ?_ ?_<;>intro _)|refine Wq (by omega) (by omega) ?_|refine Wr (by decide) (by omega) (by omega) ?_|refine Ws (by decide) ?_))
 exact fin h (XU (by unfold stopF;omega))
theorem XiK {s:List UInt8} {pos:Nat} {line col:Int} (hl:s.length<4611686018427387904) (hp:pos<s.length) (h0:1≤line) (h1:line≤4000000000000000000) (h2:1≤col) (h3:col≤4000000000000000000)
 (h:R (.ret (spot (pos+stepN (s.drop pos)) (stepL (s.drop pos) line) (stepC (s.drop pos) col))) st):PC 227 [.str s,spot pos line col] st R:=by
 obtain ⟨e,he⟩:∃e,s[pos]? =some e:=⟨s[pos],List.getElem?_eq_getElem hp⟩
 have he':s[(pos:Int).toNat]? =some e:=he
 have hh:=QN he
 have hn:=Xhk (s.drop pos)
 rw [List.length_drop] at hn
 rcases hd:decR (s.drop pos) with ⟨c,m⟩
 have hr:=rune_le hp hd.symm
 have hx:nextF s pos=((c:Int),(m:Int)):=by rw [GH (by omega) (by omega),Xa3 hp hd.symm]
 refine Xa Xb [] Tryz.func227 rfl (by decide) ?_
 repeat' ((conv=>whnf);first|(with_reducible first|refine Yc0 ?_|(refine Yc1 ?_ ?_<;>intro _)|refine Wq (by omega) (by omega) ?_|refine WL (by assumption) (by omega) ?_|refine WM (by omega) (by omega) (fun _ _=>?_))|refine Xdm hl hp ?_|refine XiB hl hx ?_|refine stop_c h2 h3 ?_)
 ·have hz:0<nlF (s.drop pos):=by omega
  exact fin h (XcE (by unfold stepN;rw [if_pos hz];omega) (by unfold stepL;rw [if_pos hz]) (by unfold stepC;rw [if_pos hz]))
 ·have hz:¬0<nlF (s.drop pos):=by omega
  exact fin h (XcE (by unfold stepN;rw [if_neg hz,hd];omega) (by unfold stepL;rw [if_neg hz]) (by unfold stepC;rw [if_neg hz,if_pos (by omega)]))
 ·have hz:¬0<nlF (s.drop pos):=by omega
  exact fin h (XcE (by unfold stepN;rw [if_neg hz,hd];omega) (by unfold stepL;rw [if_neg hz]) (by unfold stepC;rw [if_neg hz,if_neg (by omega)]))
end
end Go.Proofs.YtkidoddkbhchkaaGreatDoor
namespace Go.Aw
open Go
def walkP (l:List UInt8) (k:Nat) (p:Int×Int):Int×Int:=
 match l with
 |[]=>p
 |a::r=>if k<stepN (a::r) then p else walkP ((a::r).drop (stepN (a::r))) (k - stepN (a::r)) (stepL (a::r) p.1,stepC (a::r) p.2)
termination_by l.length
decreasing_by
 have:=Zp (l:=a::r) (by simp)
 simp only [List.length_drop,List.length_cons]
 omega
theorem ZT (k:Nat) (p:Int×Int):walkP [] k p=p:=by rw [walkP]
theorem Zx {l:List UInt8} {k:Nat} {p:Int×Int} (h:k<stepN l):walkP l k p=p:=by
 cases l with
 |nil=>exact ZT k p
 |cons a r=>rw [walkP,if_pos h]
theorem QV {l:List UInt8} {k:Nat} {p:Int×Int} (h0:l≠[]) (h:¬k<stepN l):walkP l k p=walkP (l.drop (stepN l)) (k - stepN l) (stepL l p.1,stepC l p.2):=by
 cases l with
 |nil=>exact absurd rfl h0
 |cons a r=>rw [walkP,if_neg h]
theorem Zy {l:List UInt8} {p:Int×Int}:walkP l 0 p=p:=by
 cases l with
 |nil=>exact ZT 0 p
 |cons a r=>exact Zx (Zp (by simp)).2
theorem XdS {s:List UInt8} {pos:Nat} (h:pos<s.length):s.drop pos≠[]:=fun e=>by
 have:=congrArg List.length e;rw [List.length_drop,List.length_nil] at this;omega
theorem XcL {s:List UInt8} {pos k:Nat} {line col:Int} (h:pos<s.length) (hk:¬pos+k<pos+stepN (s.drop pos)):
 walkP (s.drop pos) k (line,col)=walkP (s.drop (pos+stepN (s.drop pos))) (k - stepN (s.drop pos)) (stepL (s.drop pos) line,stepC (s.drop pos) col):=by
 rw [QV (XdS h) (by omega),List.drop_drop]
theorem XeI (l:List UInt8) (line:Int):line≤stepL l line∧stepL l line≤line+1:=by unfold stepL;split<;>omega
theorem Xbj (l:List UInt8) {col:Int} (h:1≤col):1≤stepC l col∧stepC l col≤col+8:=by
 unfold stepC stopF
 by_cases h1:0<nlF l
 ·rw [if_pos h1];omega
 ·rw [if_neg h1]
  by_cases h2:hdF l=9
  ·rw [if_pos h2];omega
  ·rw [if_neg h2];omega
end Go.Aw
namespace Go.Proofs.YtkidoddkbhchkaaGreatDoor
open Go Go.Aw
section
variable {st:St} {R:Res→St→Prop}
theorem of_c {s:List UInt8} {k:Nat} (hl:s.length≤100000000) (hk:k≤s.length) (h:R (.ret (.tup [.int .i64 (walkP s k (1,1)).1,.int .i64 (walkP s k (1,1)).2,.int .i64 0])) st):PC 152 [.str s,.int .i64 k] st R:=by
 refine Xa Xb [] Tryz.func152 rfl (by decide) ?_
 repeat' ((conv=>whnf);first|(with_reducible first|exact Wa|exact Wb|exact Wc|refine Wd (by kernel_rfl) ?_|refine We ?_ ?_ ?_|refine W8 (by decide +kernel) ?_ ?_ ?_|refine W0 (by decide +kernel) ?_ ?_ ?_|refine W9 ?_ ?_ ?_|refine Yc0 ?_|(refine Yc1 ?_ ?_<;>intro _)|refine Wl (fun _=>?_)|refine Wz (fun _=>?_)|refine WA (fun _=>?_)|refine WJ (fun _=>?_))|with_reducible refine WF ?_)
 refine Xeg (α:=Nat) (β:=Int) (γ:=Int) (fun _ _ _=>[]) (fun pos line col=>[(0,[.int .i64 (pos:Int),.int .i64 line,.int .i64 col])]) [0,1,7] [] (fun _ _ _=>st)
  (fun pos line col=>pos≤k∧1≤line∧line≤1+(pos:Int)∧1≤col∧col≤1+8*(pos:Int)∧walkP s k (1,1)=walkP (s.drop pos) (k - pos) (line,col)) (fun pos _ _=>k - pos) 0 1 1 ⟨by omega,by omega,by omega,by omega,by omega,rfl⟩ Yl (St.le_refl _) ?_
 rintro pos line col ⟨h1,h2,h3,h4,h5,h6⟩
 have hr:=XiY s pos
 have hL:=XeI (s.drop pos) line
 have hC:=Xbj (s.drop pos) h4
 repeat' ((conv=>whnf);first|(with_reducible first|exact Wa|exact Wb|exact Wc|refine Wd (by kernel_rfl) ?_|refine We ?_ ?_ ?_|refine W8 (by decide +kernel) ?_ ?_ ?_|refine W0 (by decide +kernel) ?_ ?_ ?_|refine W9 ?_ ?_ ?_|refine Yc0 ?_|(refine Yc1 ?_ ?_<;>intro _)|refine Wl (fun _=>?_)|refine Wz (fun _=>?_)|refine WA (fun _=>?_)|refine WJ (fun _=>?_))|refine XiK (by omega) (by omega) (by omega) (by omega) (by omega) (by omega) ?_|with_reducible refine WF ?_)
 ·exact fin h (by rw [h6,Zx (by omega)])
 ·conv=>whnf
  exact ⟨(pos+stepN (s.drop pos),stepL (s.drop pos) line,stepC (s.drop pos) col),⟨by dsimp only;omega,by dsimp only;omega,by dsimp only;omega,by dsimp only;omega,by dsimp only;omega,by dsimp only;rw [h6,XcL (by omega) (by omega),Nat.sub_sub]⟩,by dsimp only;omega,Yl,St.le_refl _⟩
 ·have hz:k - pos=0:=by omega
  exact fin h (by rw [h6,hz,Zy])
theorem width_c {s:List UInt8} {c0:Int} (hl:s.length≤100000000) (h0:1≤c0) (h1:c0≤2147483648) (h:R (.ret (.tup [.int .i64 (walkP s s.length (1,c0)).2,.int .i64 0])) st):PC 153 [.str s,.int .i64 c0] st R:=by
 refine Xa Xb [] Tryz.func153 rfl (by decide) ?_
 repeat' ((conv=>whnf);first|(with_reducible first|refine Yc0 ?_|(refine Yc1 ?_ ?_<;>intro _)|refine Wl (fun _=>?_)|refine Wz (fun _=>?_)|refine WA (fun _=>?_)|refine WJ (fun _=>?_)))
 refine Xeg (α:=Nat) (β:=Int) (γ:=Int) (fun _ _ _=>[]) (fun pos line col=>[(0,[.int .i64 (pos:Int),.int .i64 line,.int .i64 col])]) [0,6] [] (fun _ _ _=>st)
  (fun pos line col=>pos≤s.length∧1≤line∧line≤1+(pos:Int)∧1≤col∧col≤c0+8*(pos:Int)∧walkP s s.length (1,c0)=walkP (s.drop pos) (s.length - pos) (line,col)) (fun pos _ _=>s.length - pos) 0 1 c0 ⟨by omega,by omega,by omega,by omega,by omega,rfl⟩ Yl (St.le_refl _) ?_
 rintro pos line col ⟨h1,h2,h3,h4,h5,h6⟩
 have hr:=XiY s pos
 have hL:=XeI (s.drop pos) line
 have hC:=Xbj (s.drop pos) h4
 repeat' ((conv=>whnf);first|(with_reducible first|refine Yc0 ?_|(refine Yc1 ?_ ?_<;>intro _)|refine Wl (fun _=>?_)|refine Wz (fun _=>?_)|refine WA (fun _=>?_)|refine WJ (fun _=>?_))|refine XiK (by omega) (by omega) (by omega) (by omega) (by omega) (by omega) ?_)
 ·conv=>whnf
  exact ⟨(pos+stepN (s.drop pos),stepL (s.drop pos) line,stepC (s.drop pos) col),⟨by dsimp only;omega,by dsimp only;omega,by dsimp only;omega,by dsimp only;omega,by dsimp only;omega,by dsimp only;rw [h6,XcL (by omega) (by omega),Nat.sub_sub]⟩,by dsimp only;omega,Yl,St.le_refl _⟩
 ·have hz:s.length - pos=0:=by omega
  exact fin h (by rw [h6,hz,Zy])
end
end Go.Proofs.YtkidoddkbhchkaaGreatDoor
namespace Go.Aw
open Go
theorem loop_4 {ih:(AExit→Env→St→Prop)→Env→St→Prop} {Q:AExit→Env→St→Prop} {env:Env} {st:St} {α β γ δ:Type} (f:α→β→γ→δ→List (Nat×V)) (g:α→β→γ→δ→List (Nat×List V)) (keep kb:List Nat) (S:α→β→γ→δ→St) (J:α→β→γ→δ→Prop) (μ:α→β→γ→δ→Nat) (x0:α) (y0:β) (z0:γ) (u0:δ) (h0:J x0 y0 z0 u0)
 (he:(env.atx (f x0 y0 z0 u0) (g x0 y0 z0 u0) keep kb).leC env) (hs:St.le (S x0 y0 z0 u0) st)
 (hb:∀x y z u,J x y z u→ih (thenQ (fun env' st'=>∃p:α×β×γ×δ,J p.1 p.2.1 p.2.2.1 p.2.2.2∧μ p.1 p.2.1 p.2.2.1 p.2.2.2<μ x y z u∧(env.atx (f p.1 p.2.1 p.2.2.1 p.2.2.2) (g p.1 p.2.1 p.2.2.1 p.2.2.2) keep kb).leC env'∧St.le (S p.1 p.2.1 p.2.2.1 p.2.2.2) st') Q) (env.atx (f x y z u) (g x y z u) keep kb) (S x y z u)):
 ∃(α:Type) (E:α→Env) (S:α→St) (J:α→Prop) (μ:α→Nat) (x0:α),J x0∧(E x0).leC env∧St.le (S x0) st∧
  ∀x,J x→ih (thenQ (fun env' st'=>∃y,J y∧μ y<μ x∧(E y).leC env'∧St.le (S y) st') Q) (E x) (S x):=
 ⟨α×β×γ×δ,fun p=>env.atx (f p.1 p.2.1 p.2.2.1 p.2.2.2) (g p.1 p.2.1 p.2.2.1 p.2.2.2) keep kb,fun p=>S p.1 p.2.1 p.2.2.1 p.2.2.2,fun p=>J p.1 p.2.1 p.2.2.1 p.2.2.2,fun p=>μ p.1 p.2.1 p.2.2.1 p.2.2.2,(x0,y0,z0,u0),h0,he,hs,fun p h=>hb p.1 p.2.1 p.2.2.1 p.2.2.2 h⟩
def linesG (s:List UInt8) (frm pos:Nat):List (List UInt8):=
 if h:pos<s.length then
  if 0<nlF (s.drop pos) then (s.take pos).drop frm::linesG s (pos+nlF (s.drop pos)) (pos+nlF (s.drop pos)) else linesG s frm (pos+1)
 else [s.drop frm]
termination_by s.length - pos
decreasing_by all_goals omega
theorem max_l {a b:Int} {K:Int→Prop} (h:¬a<b) (k:K a):∃r,r=(if a<b then b else a)∧K r:=⟨a,(if_neg h).symm,k⟩
theorem max_r {a b:Int} {K:Int→Prop} (h:a<b) (k:K b):∃r,r=(if a<b then b else a)∧K r:=⟨b,(if_pos h).symm,k⟩
theorem XkZ {l:List (List UInt8)} {x:List UInt8} {own:Own} {st:St} {K:V→St→Prop} (h:own.good st) (hb:l.length≤999999999)
 (k:∀own':Own,own'.good st→K (.slice 1 (strs (l++[x])) own') (own'.st st (l++[x]).length)):appendTo 1 16 (strs l) own [[.str x]] (own.st st l.length) K:=
 XaQ (new:=[x]) h (by rw [List.length_singleton];omega) k
theorem Xj0 {s:List UInt8} {frm pos:Nat} (h:pos<s.length) (k:0<nlF (s.drop pos)):linesG s frm pos=(s.take pos).drop frm::linesG s (pos+nlF (s.drop pos)) (pos+nlF (s.drop pos)):=by
 rw [linesG,dif_pos h,if_pos k]
theorem XjY {s:List UInt8} {frm pos:Nat} (h:pos<s.length) (k:¬0<nlF (s.drop pos)):linesG s frm pos=linesG s frm (pos+1):=by
 rw [linesG,dif_pos h,if_neg k]
theorem Xhb {s:List UInt8} {frm pos:Nat} (h:¬pos<s.length):linesG s frm pos=[s.drop frm]:=by
 rw [linesG,dif_neg h]
end Go.Aw
namespace Go.Proofs.YtkidoddkbhchkaaGreatDoor
open Go Go.Aw
section
variable {st:St} {R:Res→St→Prop}
attribute [local irreducible] Go.Aw.appendTo
theorem Xiz {s:List UInt8} (hl:s.length≤100000000) (h:∀own:Own,own.good st→R (.ret (.slice 1 (strs (linesG s 0 0)) own)) (own.st st (linesG s 0 0).length)):PC 151 [.str s] st R:=by
 refine Xa Xb [] Tryz.func151 rfl (by decide) ?_
 repeat' ((conv=>whnf);first|(with_reducible first|refine Yc0 ?_|(refine Yc1 ?_ ?_<;>intro _)|refine Wl (fun _=>?_)|refine Wo (by omega) (by omega) ?_|refine Wp (by omega) (by omega) (by omega) ?_|refine Wq (by omega) (by omega) ?_|refine Wx (fun _=>?_) ?_|refine Wy (fun _=>?_) ?_|refine Wz (fun _=>?_)|refine WA (fun _=>?_)|refine WE (by omega) (by omega) (by omega) ?_|refine WJ (fun _=>?_)|refine WN (by omega) (by omega) ?_|refine WO (by omega) (by omega) ?_|refine WP (by omega) (by omega) (by omega) ?_))
 refine loop_4 (α:=Nat) (β:=Nat) (γ:=List (List UInt8)) (δ:=Own) (fun pos frm l own=>[(5,.int .i64 (pos:Int)),(4,.int .i64 (frm:Int)),(3,.slice 1 (strs l) own)]) (fun _ _ _ _=>[]) [0] [] (fun _ _ l own=>own.st st l.length)
  (fun pos frm l own=>frm≤pos∧pos≤s.length∧l.length≤pos∧own.good st∧linesG s 0 0=l++linesG s frm pos) (fun pos _ _ _=>s.length - pos) 0 0 [] .full ⟨by omega,by omega,by simp,trivial,rfl⟩ Yl (St.le_refl _) ?_
 rintro pos frm l own ⟨h1,h2,h3,h4,h5⟩
 have hn:=Xhk (s.drop pos)
 rw [List.length_drop] at hn
 repeat' ((conv=>whnf);first|(with_reducible first|refine Yc0 ?_|(refine Yc1 ?_ ?_<;>intro _)|refine Wl (fun _=>?_)|refine Wo (by omega) (by omega) ?_|refine Wp (by omega) (by omega) (by omega) ?_|refine Wq (by omega) (by omega) ?_|refine Wx (fun _=>?_) ?_|refine Wy (fun _=>?_) ?_|refine Wz (fun _=>?_)|refine WA (fun _=>?_)|refine WE (by omega) (by omega) (by omega) ?_|refine WJ (fun _=>?_)|refine WN (by omega) (by omega) ?_|refine WO (by omega) (by omega) ?_|refine WP (by omega) (by omega) (by omega) ?_)|refine Xdm (by omega) (by omega) ?_|refine max_l (by omega) ?_|refine max_r (by omega) ?_|refine XkZ h4 (by omega) (fun own' ho=>?_))
 ·conv=>whnf
  exact ⟨(pos+nlF (s.drop pos),pos+nlF (s.drop pos),l++[(s.take pos).drop frm],own'),⟨Nat.le_refl _,by dsimp only;omega,by dsimp only;rw [List.length_append,List.length_singleton];omega,ho,by dsimp only;rw [h5,Xj0 (by omega) (by omega),List.append_assoc];rfl⟩,by dsimp only;omega,Yl,St.le_refl _⟩
 ·conv=>whnf
  exact ⟨(pos+1,frm,l,own),⟨by dsimp only;omega,by dsimp only;omega,by dsimp only;omega,h4,by dsimp only;rw [h5,XjY (by omega) (by omega)]⟩,by dsimp only;omega,Yl,St.le_refl _⟩
 ·exact fin (by have:=h own' ho;rw [h5,Xhb (by omega)] at this;exact this) rfl
end
end Go.Proofs.YtkidoddkbhchkaaGreatDoor
namespace Go.Aw
open Go
def resW:List (List UInt8):=[[95],[99,97,115,101],[99,108,97,115,115],[100,97,116,97],[100,101,102,97,117,108,116],[100,101,114,105,118,105,110,103],[100,111],[101,108,115,101],[102,111,114,101,105,103,110],[105,102],[105,109,112,111,114,116],[105,110],[105,110,102,105,120],[105,110,102,105,120,108],[105,110,102,105,120,114],[105,110,115,116,97,110,99,101],[108,101,116],[109,111,100,117,108,101],[110,101,119,116,121,112,101],[111,102],[116,104,101,110],[116,121,112,101],[119,104,101,114,101]]
def markW:List (List UInt8):=[[46,46],[58],[58,58],[61],[92],[124],[60,45],[45,62],[64],[126],[61,62]]
def resF (w:List UInt8):Bool:=resW.contains w
def symF (w:List UInt8):Int:=if markW.contains w then 10 else if hdF w=58 then 6 else 5
def inName (c:Int):Bool:=classF c==2||classF c==3||classF c==4||c==39
def nameN (l:List UInt8):Nat:=spanR inName l
def firstF (l:List UInt8):Int:=match l with
 |[]=>0
 |a::r=>classF ((decR (a::r)).1:Nat)
def plainF (l:List UInt8):Int×Nat:=
 if firstF l=6 then (15,1)
 else if firstF l=5 then (symF (l.take (spanR (fun c=>classF c==5) l)),spanR (fun c=>classF c==5) l)
 else if firstF l=3 then (2,nameN l)
 else if firstF l=2 then (if resF (l.take (nameN l)) then 9 else 1,nameN l)
 else (0,0)
def qualF (k:Int):Int:=if k=1 then 3 else if k=2 then 4 else if k=5 then 7 else if k=6 then 8 else 0
theorem pre1 (c:UInt8) (l:List UInt8):[c].isPrefixOf l=decide (hdF l=(c.toNat:Nat)):=by
 cases l with
 |nil=>exact (decide_eq_false (fun e=>by have h:(-1:Int)=(c.toNat:Nat):=e;omega)).symm
 |cons a r=>
  show (c==a&&true)=decide (((a.toNat:Nat):Int)=(c.toNat:Nat))
  rw [Bool.and_true,Bool.eq_iff_iff,beq_iff_eq,decide_eq_true_iff]
  exact ⟨fun e=>by rw [e],fun e=>UInt8.toNat_inj.1 (by omega)⟩
end Go.Aw
namespace Go.Proofs.YtkidoddkbhchkaaGreatDoor
open Go Go.Aw
section
variable {st:St} {R:Res→St→Prop}
theorem Xhv {w:List UInt8} (h:R (.ret (.bool (resF w))) st):PC 327 [.str w] st R:=by
 refine Xa Xb [] Tryz.func327 rfl (by decide) ?_
 repeat' ((conv=>whnf);first|(with_reducible first|refine Yc0 ?_|(refine Yc1 ?_ ?_<;>intro _)))
 all_goals exact fin h (congrArg (fun b=>Res.ret (V.bool b)) (by first|(subst_vars;decide)|(simp only [resF,resW];simp_all)))
theorem Xkx {w:List UInt8} (h:R (.ret (.int .i64 (symF w))) st):PC 325 [.str w] st R:=by
 refine Xa Xb [] Tryz.func325 rfl (by decide) ?_
 repeat' ((conv=>whnf);first|(with_reducible first|refine Yc0 ?_|(refine Yc1 ?_ ?_<;>intro _))|refine Ue ?_)
 all_goals try rename_i hp
 all_goals try rw [pre1,decide_eq_true_eq] at hp
 all_goals try rw [pre1,decide_eq_false_iff_not] at hp
 all_goals exact fin h (XU (by first|(subst_vars;decide)|(have hp:hdF w=58:=hp;simp only [symF,markW];simp_all)|(have hp:¬hdF w=58:=hp;simp only [symF,markW];simp_all)))
theorem XnB {c:Int} (h:R (.ret (.bool (inName c))) st):PC 350 [.int .i32 c] st R:=by
 refine Xa Xb [] Tryz.func350 rfl (by decide) ?_
 repeat' ((conv=>whnf);first|(with_reducible first|refine Yc0 ?_|(refine Yc1 ?_ ?_<;>intro _))|refine Vn ?_)
 all_goals exact fin h (congrArg (fun b=>Res.ret (V.bool b)) (by simp only [inName];simp_all))
theorem XfZ {k:Int} (h:R (.ret (.int .i64 (qualF k))) st):PC 284 [.int .i64 k] st R:=by
 refine Xa Xb [] Tryz.func284 rfl (by decide) ?_
 repeat' ((conv=>whnf);first|(with_reducible first|refine Yc0 ?_|(refine Yc1 ?_ ?_<;>intro _)))
 all_goals exact fin h (XU (by unfold qualF;(repeat' split)<;>omega))
end
theorem XaE (s:List UInt8):firstF s=if (nextF s 0).2=0 then 0 else classF (nextF s 0).1:=by
 cases s with
 |nil=>rw [Xdn (by simp)];rfl
 |cons a r=>
  have h1:=QI (a::r)
  rw [GH (by omega) (by simp),show (0:Int).toNat=0 from rfl,List.drop_zero,Xh4 (by simp),if_neg (by dsimp only;omega)]
  rfl
section
variable {st:St} {R:Res→St→Prop}
theorem name_c {s:List UInt8} (hl:s.length<4611686018427387904) (h:R (.ret (.str (s.take (nameN s)))) st):PC 326 [.str s] st R:=by
 refine Xa Xb [] Tryz.func326 rfl (by decide) ?_
 repeat' ((conv=>whnf);first|(with_reducible first|refine Yc0 ?_|(refine Yc1 ?_ ?_<;>intro _)|refine Wo (by omega) (by omega) ?_|refine Wp (by omega) (by omega) (by omega) ?_|refine Wq (by omega) (by omega) ?_|refine WE (by omega) (by omega) (by omega) ?_|refine WK (fun _ _ _=>?_)|refine WN (by omega) (by omega) ?_|refine WO (by omega) (by omega) ?_|refine WP (by omega) (by omega) (by omega) ?_))
 refine Xch (α:=Nat) (fun _=>[]) (fun pos=>[(0,[.sit s pos])]) [0,6] [] (fun _=>st) (fun pos=>pos≤s.length∧nameN s=pos+spanR inName (s.drop pos)) (fun pos=>s.length - pos) 0 ⟨Nat.zero_le _,by simp [nameN]⟩ Yl (St.le_refl _) ?_
 rintro pos ⟨hp,hi⟩
 repeat' ((conv=>whnf);first|(with_reducible first|refine Yc0 ?_|(refine Yc1 ?_ ?_<;>intro _)|refine Wo (by omega) (by omega) ?_|refine Wp (by omega) (by omega) (by omega) ?_|refine Wq (by omega) (by omega) ?_|refine WE (by omega) (by omega) (by omega) ?_|refine WK (fun _ _ _=>?_)|refine WN (by omega) (by omega) ?_|refine WO (by omega) (by omega) ?_|refine WP (by omega) (by omega) (by omega) ?_)|refine XnB ?_)
 ·rename_i hlt c m hd hk
  have hr:=rune_le hlt hd
  conv=>whnf
  exact ⟨pos+m,⟨hr.1,Xbi hlt hd hk hi⟩,by omega,Yl,St.le_refl _⟩
 ·rename_i hlt c m hd hk
  have:=XeG (p:=fun d=>inName (d.1:Nat)) hd hk hi
  exact fin h (by rw [this];rfl)
 ·rename_i hlt
  have:=XcD hlt hi
  exact fin h (by rw [this,List.take_of_length_le (by omega)])
theorem first_c {s:List UInt8} (hl:s.length<4611686018427387904) (h:R (.ret (.int .i64 (firstF s))) st):PC 324 [.str s] st R:=by
 refine Xa Xb [] Tryz.func324 rfl (by decide) ?_
 repeat' ((conv=>whnf);first|(with_reducible first|refine Yc0 ?_|(refine Yc1 ?_ ?_<;>intro _))|refine XmE hl ?_|refine Vn ?_)
 ·exact fin h (XU (by rw [XaE,if_pos (by assumption)]))
 ·exact fin h (XU (by rw [XaE,if_neg (by assumption)]))
end
theorem run0 {s:List UInt8} {k:Int}:runF s 0 k=(spanR (fun c=>classF c==k) s:Nat):=by
 rw [Xbf (by omega) (by omega)];simp
theorem XjN {s:List UInt8} (h:¬firstF s=0):0<s.length:=by
 cases s with
 |nil=>exact absurd rfl h
 |cons a r=>simp
section
variable {st:St} {R:Res→St→Prop}
theorem run_k {s:List UInt8} {k:Int} (hl:s.length<4611686018427387904) (h:R (.ret (.int .i64 (spanR (fun c=>classF c==k) s:Nat))) st):PC 86 [.str s,.int .i64 0,.int .i64 k] st R:=run_c hl (by rw [run0];exact h)
theorem XiJ {s:List UInt8} (hl:s.length<4611686018427387904) (h:R (.ret (.tup [.int .i64 (plainF s).1,.str (s.take (plainF s).2)])) st):PC 283 [.str s] st R:=by
 have hr:=ZK (fun c=>classF c==5) s
 have hne:firstF s=0∨0<s.length:=by
  by_cases h0:firstF s=0
  ·exact .inl h0
  ·exact .inr (XjN h0)
 refine Xa Xb [] Tryz.func283 rfl (by decide) ?_
 repeat' ((conv=>whnf);first|(with_reducible first|exact Wa|exact Wb|exact Wc|refine Wd (by kernel_rfl) ?_|refine We ?_ ?_ ?_|refine W8 (by decide +kernel) ?_ ?_ ?_|refine W0 (by decide +kernel) ?_ ?_ ?_|refine W9 ?_ ?_ ?_|refine Yc0 ?_|(refine Yc1 ?_ ?_<;>intro _)|refine Wo (by omega) (by omega) ?_|refine Wp (by omega) (by omega) (by omega) ?_|refine WE (by omega) (by omega) (by omega) ?_|refine WN (by omega) (by omega) ?_|refine WO (by omega) (by omega) ?_|refine WP (by omega) (by omega) (by omega) ?_)|refine first_c hl ?_|refine run_k hl ?_|refine Xkx ?_|refine name_c hl ?_|refine Xhv ?_|with_reducible refine WF ?_)
 ·exact fin h (by unfold plainF;rw [if_pos (by assumption)];rfl)
 ·exact fin h (by unfold plainF;rw [if_neg (by omega),if_pos (by omega)];rfl)
 ·exact fin h (by unfold plainF;rw [if_neg (by omega),if_neg (by omega),if_pos (by omega)])
 ·exact fin h (by unfold plainF;rw [if_neg (by omega),if_neg (by omega),if_neg (by omega),if_pos (by omega),if_pos (by assumption)])
 ·exact fin h (by unfold plainF;rw [if_neg (by omega),if_neg (by omega),if_neg (by omega),if_pos (by omega),if_neg (by simp_all)])
 ·exact fin h (by unfold plainF;rw [if_neg (by omega),if_neg (by omega),if_neg (by omega),if_neg (by omega)];rfl)
end
end Go.Proofs.YtkidoddkbhchkaaGreatDoor
