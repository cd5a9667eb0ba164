/-
  Parts of a proof: lemmas that the last text uses.
-/
import Derived.Test.YtpkekfapphbgjaaGreatDoorB5
set_option linter.unusedVariables false
set_option linter.unusedSimpArgs false
set_option maxHeartbeats 16000000
variable {R:Go.Aw.At->Go.Aw.St->Prop} {g:List (Nat×Nat)} {X:Type} {all:List Go.Oper} {Q:Go.Aw.AD->Go.Aw.Env->Go.Aw.St->Prop} {id d t k pos n n1 n2 m:Nat} {ops:Array Go.Oper} {b c i v base:Int} {sched:List (Nat×Bool)} {L:List Nat} {l s x:List UInt8} {e:Go.Aw.Env} {K:Go.Aw.V->Go.Aw.St->Prop} {ty:Go.TypeId} {o:List Int} {p:Int×Nat} {st0:Go.Aw.St} {w1 w2:Go.Aw.AA} {tx:Bool}
namespace Go.Proofs.Z
open Go Go.Aw
open Rd (ret seq fail Ge look loop)
def fT (item:Rd Nd) (l:List Nd):Rd (Sum (List Nd) (List Nd)):=.seq item λn=>.look λs=>if Bp s 15 [44]=true then .seq AO λc=>.ret (.inl (l++[n]++[c])) else .ret (.inr (l++[n]))
def fS (item:Rd Nd) (shut:List UInt8) (p:Bool×List Nd):Rd (Sum (Bool×List Nd) (List Nd)):=
 if p.1=true then .look λs=>if Bp s 15 shut=true then .ret (.inr p.2) else .seq item λn=>.look λs=>if Bp s 15 [44]=true then .seq AO λc=>.ret (.inl (false,p.2++[n]++[c])) else .ret (.inr (p.2++[n]))
 else .seq item λn=>.look λs=>if Bp s 15 [44]=true then .seq AO λc=>.ret (.inl (false,p.2++[n]++[c])) else .ret (.inr (p.2++[n]))
def Hi (item:Rd Nd) (shut:List UInt8) (l:List Nd):Rd (List Nd):=.seq (.loop (fS item shut) (true,l)) λl=>.seq (BA 15 shut) λc=>.ret (l++[c])
def Gx (ks:List Int):Rd Nd:=.seq (BA 15 [40]) λo=>.seq (Df ks) λn=>.seq (BA 15 [41]) λc=>.ret (Az 3 [o,n,c])
def te (n:Nd):Int:=match n.kids[1]? with
 |some x=>x.form
 |none=>0
def Rj:Rd Nd:=.look λs=>if Bp s 15 [40]=true then .look λs0=>.seq (Gx [5,6]) λn=>if (te n==5)=true then .ret n else .Ge s0 Hl else Df [1]
def T8:Rd Nd:=.look λs=>if Bp s 15 [40]=true then Gx [5,6] else Df [1,2]
def Zr (own:Bool):List Int:=if own then [1] else [1,3]
def Qk (own:Bool):List Int:=if own then [2] else [2,4]
def sq (own:Bool):List Int:=if own then [5,6] else [5,6,7,8]
abbrev UU:List UInt8:=[109,111,100,117,108,101]
abbrev ZI:List UInt8:=[113,117,97,108,105,102,105,101,100]
abbrev uM:List UInt8:=[97,115]
abbrev o6:List UInt8:=[104,105,100,105,110,103]
abbrev UT:List UInt8:=[105,109,112,111,114,116]
abbrev o0:List UInt8:=[101,120,112,111,114,116]
abbrev tP:List UInt8:=[115,97,102,101]
abbrev o8:List UInt8:=[117,110,115,97,102,101]
abbrev qd:List UInt8:=[116,121,112,101]
abbrev qc:List UInt8:=[100,97,116,97]
abbrev XR:List UInt8:=[110,101,119,116,121,112,101]
abbrev lp:List UInt8:=[99,108,97,115,115]
abbrev SY:List UInt8:=[105,110,115,116,97,110,99,101]
abbrev XP:List UInt8:=[100,101,102,97,117,108,116]
abbrev XQ:List UInt8:=[102,111,114,101,105,103,110]
abbrev eK:List UInt8:=[100,101,114,105,118,105,110,103]
def iM (l:List Nd):Rd Nd:=.look λs=>if Bp s 15 [40]=true then .seq AO λo=>.look λs=>if Bp s 10 [46,46]=true then .seq AO λd=>.seq (BA 15 [41]) λc=>.ret (Az 52 (l++[o]++[d,c]))
 else .seq (Hi T8 [41] (l++[o])) λl=>.ret (Az 52 l)
 else .ret (Az 52 l)
def iN (own:Bool):Rd Nd:=.look λs=>if Bp s 15 [40]=true then .seq (Gx (sq own)) λn=>.ret (Az 52 [n])
 else if ((Ac s).1.kind==2)=true then .seq (Df (Qk own)) λn=>iM [n]
 else if ((Ac s).1.kind==4)=true then .seq (Df (Qk own)) λn=>iM [n]
 else .seq (Df (Zr own)) λn=>.ret (Az 52 [n])
def iO (own:Bool):Rd Nd:=if own=true then iN own else .look λs=>if Bp s 9 UU=true then .seq AO λm=>.seq (Df (Qk own)) λn=>.ret (Az 52 [m,n]) else iN own
def iR (own:Bool) (l:List Nd):Rd (Sum (List Nd) (List Nd)):=.look λs=>if Bp s 15 [41]=true then .ret (.inr l) else fT (iO own) l
def Gi (own:Bool):Rd Nd:=.seq (BA 15 [40]) λo=>.seq (.loop (iR own) [o]) λl=>.seq (BA 15 [41]) λc=>.ret (Az 51 (l++[c]))
def TT (l:List Nd):Rd Nd:=.seq (Gi true) λn=>.ret (Az 50 (l++[n]))
def TS (l:List Nd):Rd Nd:=.look λs=>if Bp s 1 o6=true then .seq AO λh=>TT (l++[h])
 else if Bp s 15 [40]=true then TT l else .ret (Az 50 l)
def TR (l:List Nd):Rd Nd:=.seq (Df [2,4]) λn=>.look λs=>if Bp s 1 uM=true then .seq AO λa=>.seq (Df [2,4]) λm=>TS (l++[n]++[a]++[m]) else TS (l++[n])
def Mc:Rd Nd:=.seq AO λi=>.look λs=>if Bp s 1 ZI=true then .seq AO λq=>TR ([i]++[q]) else TR [i]
def Qh (full:Rd Nd) (l:List Nd):Rd Nd:=.seq Rj λn=>.seq (BA 10 [58,58]) λc=>.seq full λt=>.ret (Az 47 (l++[n]++[c]++[t]))
def L9 (full:Rd Nd) (l:List Nd):Rd Nd:=.look λs=>if ((Ac s).1.kind==14)=true then .seq AO λt=>Qh full (l++[t]) else Qh full l
def VH (full:Rd Nd) (l:List Nd):Rd Nd:=.look λs=>if (if Bp s 1 tP=true then true else Bp s 1 o8)=true then
 (if Bp (Ac s).2.1 10 [58,58]=true then L9 full l else .seq AO λt=>L9 full (l++[t]))
 else L9 full l
def Qg (full:Rd Nd) (l:List Nd):Rd Nd:=.seq AO λw=>.seq (Df [1]) λn=>VH full (l++[w]++[n])
def Ma (full:Rd Nd):Rd Nd:=.seq AO λf=>.look λs=>if Bp s 9 UT=true then Qg full [f] else if Bp s 1 o0=true then Qg full [f] else RR
def J7 (whole:Rd Nd):Rd Nd:=.seq AO λd=>.seq (BA 15 [40]) λo=>.seq (Hi whole [41] [d,o]) λl=>.ret (Az 46 l)
def Ed (n:Nd):Bool:=if n.kind==39 then n.kids.head?.all (DB · [2])&&n.kids.tail.all (DB · [1]) else DB n [2]
def KH (row:Rd Nd) (l:List Nd):Rd (List Nd×Nd):=.seq row λr=>.look λs=>if Bp s 10 [61,62]=true then .seq AO λa=>.seq row λq=>.ret (l++[r]++[a],q) else .ret (l,r)
def Hv (b:Bool):Rd Unit:=if b=true then .ret () else .fail Hl
def MS (row whole:Rd Nd):Rd Nd:=.seq AO λt=>.seq row λr=>.seq (Hv (Ed r)) λ_=>.seq (BA 10 [61]) λe=>.seq whole λw=>.ret (Az 41 ([t,r]++[e]++[w]))
def MR (atom:Rd Nd):Rd Nd:=.seq AO λb=>.seq atom λa=>.ret (Az 40 [b,a])
def JS (atom:Rd Nd):Rd Nd:=.look λs=>if Bp s 5 [33]=true then MR atom
 else if Bp s 15 [40]=true then (if ((Ac (Ac s).2.1).1.kind==6)=true then Gx [6] else atom)
 else atom
def UQ (t:Tk):Bool:=if t.kind==5 then t.text==[33] else if t.kind==15 then t.text==[40]||t.text==[91] else t.kind==2||t.kind==4||t.kind==1
def Zf (atom:Rd Nd) (l:List Nd):Rd (Sum (List Nd) (List Nd)):=.look λs=>if UQ (Ac s).1=true then .seq (JS atom) λn=>.ret (.inl (l++[n])) else .ret (.inr l)
def NB (atom:Rd Nd):Rd (List Nd):=.seq (JS atom) λn=>.loop (Zf atom) [n]
def Fj (n:Nd):Bool:=n.kind==40
def bD (l:List Nd):Rd Nd:=if l.length=1 then .ret (l.headD Kj) else .seq (Hv (!l.any Fj)) λ_=>.ret (Az 39 l)
def GZ (n:Nd):Bool:=DB n [2]||(n.kind==3&&n.kids.length==3&&n.kids[1]?.any (DB · [6]))
def gI (l:List Nd):Rd (Sum (List Nd) (List Nd)):=.look λs=>if Bp s 15 [44]=true then .seq AO λc=>.seq Rj λn=>.ret (.inl (l++[c]++[n])) else .ret (.inr l)
def MV (atom whole:Rd Nd):Rd Nd:=.seq Rj λn=>.seq (.loop gI [n]) λl=>.seq (BA 10 [58,58]) λc=>.look λs=>
 if Bp s 5 [33]=true then .seq (MR atom) λt=>.ret (Az 13 (l++[c]++[t])) else .seq whole λt=>.ret (Az 13 (l++[c]++[t]))
def ZC:Rd Nd:=.look λs=>if ((Ac s).1.kind==6)=true then .seq AO λt=>.ret (Az 18 [t])
 else .look λs0=>.seq AO λo=>.seq (Df [1,2,3,4]) λn=>.seq (BA 15 [96]) λc=>if (n.form==2)=true then .ret (Az 18 [o,n,c]) else .Ge s0 Hl
def J4 (atom:Rd Nd) (l:List Nd):Rd Nd:=.seq (bD l) λa=>.seq ZC λo=>.seq (NB atom) λr=>.seq (bD r) λb=>.ret (Az 48 [a,o,b])
def LR (atom:Rd Nd) (l:List Nd):Rd Nd:=.look λs=>if ((Ac s).1.kind==6)=true then J4 atom l else if Bp s 15 [96]=true then J4 atom l
 else .seq (Hv (GZ (l.headD Kj))) λ_=>.ret (Az 48 l)
def IB (atom whole:Rd Nd):Rd Nd:=.seq (NB atom) λl=>if (l.length==1&&GZ (l.headD Kj))=true then
 .look λs=>if Bp s 15 [123]=true then .seq AO λo=>.seq (Hi (MV atom whole) [125] (l++[o])) λl=>.ret (Az 48 l) else LR atom l
 else LR atom l
def J8:Rd Nd:=.seq AO λd=>.look λs=>if Bp s 15 [40]=true then .seq AO λo=>.seq (Hi (Df [2,4]) [41] ([d]++[o])) λl=>.ret (Az 49 l) else .seq (Df [2,4]) λc=>.ret (Az 49 ([d]++[c]))
def LV (k:Int) (l:List Nd):Rd Nd:=.look λs=>if Bp s 9 eK=true then .seq J8 λd=>.ret (Az k (l++[d])) else .ret (Az k l)
def pA (atom whole:Rd Nd) (p:List UInt8×List Nd):Rd (Sum (List UInt8×List Nd) (List Nd)):=.look λs=>if Bp s 10 p.1=true then .seq AO λe=>.seq (IB atom whole) λc=>.ret (.inl ([124],p.2++[e]++[c])) else .ret (.inr p.2)
def Z2 (atom row whole:Rd Nd):Rd Nd:=.seq AO λd=>.seq (KH row [d]) λp=>.seq (Hv (Ed p.2)) λ_=>.seq (.loop (pA atom whole) ([61],p.1++[p.2])) λl=>LV 42 l
def Uc (n:Nd):Bool:=if GZ (n.kids.headD Kj) then
 (if n.kids.length=2 then !Fj (n.kids[1]?.getD Kj)
 else if n.kids.length=4/\(n.kids[2]?.getD Kj).kind=13 then decide ((n.kids[2]?.getD Kj).kids.length=3)&& !Fj ((n.kids[2]?.getD Kj).kids[2]?.getD Kj) else false)
 else false
def Mp (atom row whole:Rd Nd):Rd Nd:=.seq AO λd=>.seq (KH row [d]) λp=>.seq (Hv (Ed p.2)) λ_=>.seq (BA 10 [61]) λe=>.seq (IB atom whole) λc=>.seq (Hv (Uc c)) λ_=>LV 43 (p.1++[p.2]++[e]++[c])
def ZV (decls:Rd Nd) (k:Int) (l:List Nd) (U:Nd->Bool):Rd Nd:=.look λs=>if Bp s 9 Je=true then .seq AO λw=>.seq decls λb=>.seq (Hv (b.kids.all U)) λ_=>.ret (Az k (l++[Az 31 [w,b]])) else .ret (Az k l)
def HE (n:Nd):Bool:=n.kind==39&&n.kids.length==2&&DB (n.kids[0]?.getD Kj) [2]&&DB (n.kids[1]?.getD Kj) [1]
def Md (n:Nd):Bool:=n.kind==39&&n.kids.length==2&&DB (n.kids[0]?.getD Kj) [2,4]
def Tj (row decls:Rd Nd):Rd Nd:=.seq AO λc=>.seq (KH row [c]) λp=>.seq (Hv (HE p.2)) λ_=>ZV decls 44 (p.1++[p.2]) λ_=>true
def Kg (row decls:Rd Nd):Rd Nd:=.seq AO λc=>.seq (KH row [c]) λp=>.seq (Hv (Md p.2)) λ_=>ZV decls 45 (p.1++[p.2]) λn=>n.kind==36
def ld (atom row whole full decl decls:Rd Nd):Rd Nd:=.look λs=>if ((Ac s).1.kind==9)=true then
 (if ((Ac s).1.text==UT)=true then Mc
 else if ((Ac s).1.text==qd)=true then MS row whole
 else if ((Ac s).1.text==qc)=true then Z2 atom row whole
 else if ((Ac s).1.text==XR)=true then Mp atom row whole
 else if ((Ac s).1.text==lp)=true then Tj row decls
 else if ((Ac s).1.text==SY)=true then Kg row decls
 else if ((Ac s).1.text==XP)=true then J7 whole
 else if ((Ac s).1.text==XQ)=true then Ma full
 else decl)
 else decl
def bK (t:Tk):Bool:=(t.kind==9&&(t.text==UT||t.text==qd||t.text==qc||t.text==XR||t.text==lp||t.text==SY||t.text==XP||t.text==XQ))||(FP t||K4 t)
def UK (d:Nat):Rd Nd:=IQ (Dj (Dk (d - 1))) λs v s' h=>Nat.le_of_lt (BC (Bv _) _ _ _ h)
def lh (d:Nat):Rd Nd:=IQ (Gm (Dj (Dk (d - 1)))) λs v s' h=>Nat.le_of_lt (ET (BC (Bv _)) _ _ _ h)
def UR (d:Nat):Rd Nd:=IQ (D2 (Dj (Dk (d - 1)))) λs v s' h=>Nat.le_of_lt (FZ (BC (Bv _)) _ _ _ h)
end Go.Proofs.Z
namespace Go.Aw
open Go
section
variable {D:List Deferred} {P:Program} {T:List (Nat×Ty)} {I0 I:Mem} {st0 st:St} {w0 w:World} {β:Nat->Option Nat} {env:Env} {a:Act}
theorem R2 (hP:MZ P T) {f:FuncId} {fn:Func} (gl:List Nat) {args:List V} (hf:P.funcs[f]? =some fn) {c0 c1 c2 rest:Code} {rid:Nat} {mk df:Oper}
 (hb : fn.body = some (.seq c0 (.seq c1 (.seq c2 (.seq (.region rid #[mk, df] false) rest))))) (hn : (fn.name == "runtime.NumGoroutine") = false) {g : FuncId} {cap : Array Operand} {tf : Nat}
 (h1:mk.op=.makeFunc (.func g) #[] cap) (h2:mk.dst=some tf) (h3:mk.guard=none) (h4:df.op=.defer {callee:=.value (.tmp tf),args:=#[],argTypes:=#[]}) (h5:df.guard=none) (h6:df.dst=none)
 (hg:Plain P g) (hle:Nat.ble args.length fn.ntmps=true)
 (h:AW P c0 (BF (λenv st=>AW P c1 (BF (λenv st=>AW P c2 (λae env st=>match ae with
   | .normal=>TB env cap.toList λvs=>vs.all V.aC=true/\env.go (some tf) (.func g [] vs) λenv=>AW P rest (YN P T g vs fn R) env st
   | .ret=>R4 T fn R env st
   |_=>False) env st) lE) env st) lE) {tmps:=Hg 0 args,boxes:=[],BG:=0,sz:=fn.ntmps,gl} st):A0 P f args st R:=by
 refine ⟨?_,fn,hf,kw,hn⟩
 intro I w cargs hs hargs
 refine calls_of_wp_defers hf hb ?_
 refine wp_seq (wp_mono (h [] I st w I _ _ w (EX gl hs hargs hle)) ?_)
 rintro e a w1 ⟨I1,β1,env1,st1,ae,r1,x1,k1⟩
 cases ae with
 |exit _|goto _|ret|BK _=>exact k1.elim
 |normal=>
 cases e with
 |exit _|goto _|ret|panic _|outgrown=>exact x1.elim
 |normal=>
 refine wp_seq (wp_mono (k1 [] I st w I1 _ _ w1 r1) ?_)
 rintro e a w2 ⟨I2,β2,env2,st2,ae,U,x2,k2⟩
 cases ae with
 |exit _|goto _|ret|BK _=>exact k2.elim
 |normal=>
 cases e with
 |exit _|goto _|ret|panic _|outgrown=>exact x2.elim
 |normal=>
 refine wp_seq (wp_mono (k2 [] I st w I2 _ _ w2 U) ?_)
 clear k2 U x2
 rintro e a w2 ⟨I2,β2,env2,st2,ae,U,x2,k2⟩
 cases ae with
 |exit _|goto _|BK _=>exact k2.elim
 |ret=>
  cases e with
  |normal|exit _|goto _|panic _|outgrown=>exact x2.elim
  |ret=>
   obtain ⟨v,c,g1,g2,g3⟩:=B6 (P:=P) hP.t U k2
   show Leaves P fn a.tmps _ a.defers _ w2
   rw [U.f.defers]
   exact ⟨c,g1,I2,st2,.ret v,U.fr,U.s,g2,g3⟩
 |normal=>
 cases e with
 |exit _|goto _|ret|panic _|outgrown=>exact x2.elim
 |normal=>
 refine wp_seq (wp_region_list ?_)
 show wpList P #[mk,df] _ [mk,df] a w2
 unfold wpList
 rw [if_pos (by simp [Region.wanted,h3])]
 left
 obtain ⟨vs,hv,kp,kg⟩:=ES U.f (show TB env2 cap.toList _ from k2)
 have hcv:AH I2 (.func g [] vs) (.func (.func g) #[] (cap.map a.eval)):=by
  simp only [AH]
  exact ⟨[],cap.toList.map a.eval,by congr 1;grind,H1,hv⟩
 obtain ⟨env3,r3,k3⟩:=BL U (AQ.of hcv) kg
 have htf:tf<a.tmps.size:=by
  rw [U.f.size]
  exact (HI kg).1 tf rfl
 unfold Oper.wp
 rw [show (execOp a.eval mk).run P w2=.ok (.value (.func (.func g) #[] (cap.map a.eval))) w2 by simp only [execOp,h1,Array.map_empty];rfl]
 show wpList P #[mk,df] _ [df] (a.put mk.dst _) w2
 rw [h2]
 unfold wpList
 rw [if_pos (by simp [Region.wanted,h5])]
 left
 have hev:(a.put (some tf) (.func (.func g) #[] (cap.map a.eval))).eval (.tmp tf)=.func (.func g) #[] (cap.map a.eval):=by
  simp [Act.put,Act.eval,htf]
 unfold Oper.wp
 rw [show (execOp (a.put (some tf) (.func (.func g) #[] (cap.map a.eval))).eval df).run P w2=.ok (.defer {target:=.fn (.func g) (cap.map a.eval),args:=#[]}) w2 by
  simp only [execOp,h4,resolve,hev,Deferred.ofValue,Array.map_empty,Array.empty_append];rfl]
 rw [Oper.upon_defer]
 rw [h6]
 unfold wpList
 show rest.wp P _ _ _
 have r4:=r3.defer {target:=.fn (.func g) (cap.map a.eval),args:=#[]}
 refine wp_mono (k3 _ I st w I2 _ _ w2 r4) ?_
 rintro e a5 w5 ⟨I5,β5,env5,st5,ae,r5,x5,k5⟩
 have hd:=r5.f.defers
 obtain ⟨fn2,p1,p2,p3⟩:=hg
 have hinv:(invoke (.fn (.func g) (cap.map a.eval)) #[]).run P w5=.ok (.enter g (cap.toList.map a.eval).toArray) w5:=by
  have hb:fn2.body.isNone=false:=by cases hb:fn2.body<;>simp_all
  simp only [invoke,callFunc,Sem.run_bind,Sem.run_pure,Result.andThen_ok,run_program,p1]
  rw [p3]
  simp [hb]
  apply Array.ext';simp
 have last:∀{u:FrameMode} {x:Option V},u≠.run->(match x with|none=>u=.returning|some v=>∃c,u=.panicking [{v:=c,recovered:=false}]/\AH I5 v c)->GM P g vs x st5 (λst'=>R4 T fn R env5 st')->
  Leaves P fn a5.tmps (λe w'=>∃I' st' r,Fr I st w I' st' w'/\B7 I' st' w'/\dJ I' e r/\R r st') a5.defers u w5:=by
  intro u x hu hx k
  rw [hd]
  refine leaves_cons hu hinv ((k I5 w5 _ u r5.s (Ao.rN hv kp) hx).mono ?_)
  rintro e u' w6 ⟨⟨v,rfl⟩,hset,I6,st6,q1,q2,q3⟩
  show Leaves P fn a5.tmps _ [] (settle u') w6
  rw [hset]
  have r6:=r5.called q1 q2
  obtain ⟨v,c,g1,g2,g3⟩:=B6 (P:=P) hP.t r6 q3
  exact ⟨c,g1,I6,st6,.ret v,r6.fr,r6.s,g2,g3⟩
 cases ae with
 |normal=>
  cases e with
  |normal=>exact last (x:=none) GT rfl k5
  |_=>exact x5.elim
 |ret=>
  cases e with
  |ret=>exact last (x:=none) GT rfl k5
  |_=>exact x5.elim
 |BK v=>
  cases e with
  |panic chain=>
   obtain ⟨c,rfl,hc⟩:=x5
   exact last (x:=some v) GT ⟨c,rfl,hc⟩ k5
  |_=>exact x5.elim
 |exit _=>exact k5.elim
 |goto _=>exact k5.elim
end
section
variable {D:List Deferred} {P:Program} {T:List (Nat×Ty)} {C:FuncId->List V->St->(At->St->Prop)->Prop} {I0 I:Mem} {st0 st:St} {w0 w:World} {β:Nat->Option Nat} {env:Env} {a:Act}
def kH {X:Type} (T:List (Nat×Ty)) (C:FuncId->List V->St->(At->St->Prop)->Prop) (all:List Oper) (Q:AD->Env->St->Prop) (E:X->List Bool->Env) (S:X->List Bool->St) (J:X->List Bool->Prop) (x:X) (p:List Bool×Nat):Prop:=
 match all[p.2]? with
 |some o=>Bg all o (E x p.1) (FE T C o (E x p.1) (S x p.1) (λv env st=>env.go o.dst v λenv=>∃y,J y (p.1.set p.2 true)/\(E y (p.1.set p.2 true)).Ek env/\St.le (S y (p.1.set p.2 true)) st) Q)
   ((E x p.1).go o.dst (.Bj []) λenv=>∃y,J y (p.1.set p.2 true)/\(E y (p.1.set p.2 true)).Ek env/\St.le (S y (p.1.set p.2 true)) (S x p.1))
 |none=>True
theorem X7 (hT:Gc P T) (hC:∀f args st R,C f args st R->C0 P f args st R/\Plain P f) {E:X->List Bool->Env} {S:X->List Bool->St} {J:X->List Bool->Prop} {PL:List (List Bool×Nat)}
 (hc:Hh all PL=true) (step:∀p ∈ PL,∀x,J x p.1->kH T C all Q E S J x p) (fin:∀x,J x (List.replicate all.length true)->Q .normal (E x (List.replicate all.length true)) (S x (List.replicate all.length true))):
 ∀(fuel:Nat) (bs:List Bool) (listed:Array Bool) (I:Mem) (β:Nat->Option Nat) (a:Act) (w:World),bs.length=all.length->listed.toList=bs->bs.count false<=fuel->
  (∀j,j<all.length->Bz all bs j=true->(bs,j) ∈ PL)->(bs=List.replicate all.length true\/∃j,j<all.length/\Bz all bs j=true)->
  ∀x,J x bs->Rel D I0 st0 w0 I β (E x bs) (S x bs) a w->wpAny P .any all.toArray (Ci D I0 st0 w0 Q) fuel listed a w:=by
 have full:∀{bs:List Bool},bs.length=all.length->bs.count false=0->bs=List.replicate all.length true:=λ{bs} hb h0=>by
  rw [List.eq_replicate_iff]
  grind
 have noready:∀{j:Nat},Bz all (List.replicate all.length true) j=true->j<all.length->False:=λ{j} h U=>by
  unfold Bz at h
  simp_all
 simp only [Hh,Bool.and_eq_true,List.all_eq_true] at hc
 intro fuel
 induction fuel with
 |zero=>
  intro bs listed I β a w hb hl hf hp hr x U h
  have:=full hb AC
  subst this
  refine ⟨?_,⟨I,β,_,_,.normal,h,trivial,fin x U⟩⟩
  rw [List.eq_nil_iff_forall_not_mem]
  intro j U
  obtain ⟨h1,h2⟩:=(D8 hl hb).1 U
  grind
 |succ fuel ih=>
  intro bs listed I β a w hb hl hf hp hr x U h
  refine ⟨λh0=>?_,λi hi=>?_⟩
  .rcases hr with rfl|⟨j,h1,h2⟩
   .exact ⟨I,β,_,_,.normal,h,trivial,fin x U⟩
   .have:=(D8 hl hb).2 ⟨h1,h2⟩
    simp_all
  .obtain ⟨h1,h2⟩:=(D8 hl hb).1 hi
   have hm:=hp i h1 h2
   have hs:=step _ hm x U
   unfold kH at hs
   have ho:all[i]? =some all[i]:=List.getElem?_eq_getElem h1
   simp only [ho] at hs
   obtain ⟨⟨c1,c2⟩,c3⟩:=hc.2 _ hm
   refine Lo hT hC (Q:=Q) ho (λ{I β env st a w} h k=>?_) h hs (K:=λenv st=>∃y,J y (bs.set i true)/\(E y (bs.set i true)).Ek env/\St.le (S y (bs.set i true)) st)
   .obtain ⟨y,kj,k⟩:=k
    have hbi:i<bs.length:=AC
    refine ih (bs.set i true) _ I _ a w kw (by simp [hl]) ?_ (λj U hr=>?_) ?_ y kj ((h.Gw k.2).H0 (Env.Ie k.1))
    .have:=List.count_set (a:=true) (i:=i) (l:=bs) (b:=false) hbi
     unfold Bz at h2
     grind
    .grind
    grind
theorem lV (hP:MZ P T) (hC:∀f args st R,C f args st R->C0 P f args st R/\Plain P f) (E:X->List Bool->Env) (S:X->List Bool->St) (J:X->List Bool->Prop) (x0:X) (PL:List (List Bool×Nat))
 (hc:Hh ops.toList PL=true) (j0:J x0 (List.replicate ops.toList.length false)) (h0:(E x0 (List.replicate ops.toList.length false)).Ek env) (s0:St.le (S x0 (List.replicate ops.toList.length false)) st) (step:∀p ∈ PL,∀x,J x p.1->kH T C ops.toList Q E S J x p)
 (fin:∀x,J x (List.replicate ops.toList.length true)->Q .normal (E x (List.replicate ops.toList.length true)) (S x (List.replicate ops.toList.length true))):AW P (.region id ops true) Q env st:=λD I0 st0 w0 I β a w h=>
 wp_region_any hP.m (by
  have U:=hc
  simp only [Hh,Bool.and_eq_true,List.all_eq_true] at U
  have:=X7 (D:=D) hP.t hC hc step fin ops.size (List.replicate ops.toList.length false) (Array.replicate ops.size false) I _ a _ GT GT GT (λj hj hr=>?_) ?_ x0 j0 (((h.IG (HB.drew w)).Gw s0).H0 (Env.Ie h0))
  .simp_all
  .grind
  simp_all)
end
section
variable {D:List Deferred} {P:Program} {T:List (Nat×Ty)} {C:FuncId->List V->St->(At->St->Prop)->Prop} {I0 I:Mem} {st0 st:St} {w0 w:World} {β:Nat->Option Nat} {env:Env} {a:Act}
theorem Xb {J:Mem} {b:Nat}:∀{l:List V} {us:List Value} {o:Nat},Ao I l us->I.le J->(∀j c,us[j]? =some c->J.cell b (o+j)=some c)->Fv J b o l
 |[],us,o,h,hl,U=>trivial
 |v::r,us,o,h,hl,U=>by
  simp only [Ao] at h
  obtain ⟨c,s,rfl,h1,h2⟩:=h
  exact ⟨⟨c,U 0 c rfl,AH.mono hl _ _ h1⟩,Xb h2 hl λj c e=>by rw [show o+1+j=o+(j+1) by omega];exact U (j+1) c (by simpa using e)⟩
theorem OJ {c:Code} {env:Env} {st:St} (t id:Nat) {cs:List V} (ht:env.get t=.B3 id 0) (hb:assoc env.boxes id=some cs) (hn:NA cs=true)
 (h:AW P c Q {env with tmps:=(t,.FY cs 0)::IE id env.tmps,boxes:=Hk id env.boxes} st):AW P c Q env st:=
 KR t id ht hb hn λb hf D I0 st0 w0 I β a w hr=>by
  obtain ⟨vs,hv,hl,hr'⟩:=hr.freeze (b:=b) (cs:=cs) (by simp [St.Aa])
  refine h D I0 st0 w0 _ β a w (Rel.Gw ⟨hr'.fr,hr'.s,{hr'.f with tmps:=?_}⟩ (St.YM hf.1))
  intro t' v e
  have h0:=λv e=>hr'.f.tmps t' v e
  have h1:=hr.f.tmps t (.ptr b 0) (by rw [Bf];simp)
  rw [Bf] at e
  cases U:Nat.beq t t' with
  |true=>
   rw [U] at e
   have:=Nat.eq_of_beq_eq_true U
   subst this
   simp only [cond_true,Option.some.injEq] at e
   subst e
   have h2:AH I (.ptr b 0) (a.tmps.getD t undef):=h1
   refine AQ.of ?_
   simp only [AH] at h2 |-
   exact ⟨b,0,h2,Xb hv hl λj c e=>by
    have:=Mem.M1 (I:=I) (b:=b) (h:=0) (n:=vs.length) e
    simp_all⟩
  |false=>
   rw [U] at e
   exact h0 v (by rw [Bf,U];exact e)
theorem iJ (hM:∀f args st (R R':At->St->Prop),(∀r s,R r s->R' r s)->C f args st R->C f args st R')
 (hm:Ft sched all=true)
 (h:DC T C all sched L (Ba (L.map some) env.boxes) Q sched env st):
 (∀(bs:List Bool) (e:Env) (st1:St) (i:Nat) (o:Oper),bs.length=all.length->Kz T C all sched st L (Ba (L.map some) env.boxes) Q env bs e st1->all[i]? =some o->Bz all bs i=true->
   Bg all o e (FE T C o e st1 (λv env' st'=>env'.go o.dst v λenv''=>Kz T C all sched st L (Ba (L.map some) env.boxes) Q env (bs.set i true) env'' st') (λx _ s=>∀e',Q x e' s)) (e.go o.dst (.Bj []) λenv'=>Kz T C all sched st L (Ba (L.map some) env.boxes) Q env (bs.set i true) env' st1))/\
 (∀(bs:List Bool) (e:Env) (st1:St),bs.length=all.length->Kz T C all sched st L (Ba (L.map some) env.boxes) Q env bs e st1->bs=List.replicate all.length true\/∃j,j<all.length/\Bz all bs j=true)/\
 (∀(e:Env) (st1:St),Kz T C all sched st L (Ba (L.map some) env.boxes) Q env (List.replicate all.length true) e st1->∃env',(e.eqv env'/\env'.boxes=e.boxes/\env'.gl=e.gl)/\Q .normal env' st1)/\
 Kz T C all sched st L (Ba (L.map some) env.boxes) Q env (List.replicate all.length false) env st:=by
 have M:=Pf.of hm
 have hb0:∀id cs,assoc (Ba (L.map some) env.boxes) id=some cs->assoc env.boxes id=some cs/\id ∉ L:=λid cs e=>by
  obtain ⟨h1,h2⟩:=ID e
  simp_all
 have hget:∀bs:List Bool,∀j,j<bs.length->bs.getD j true=bs.getD j false:=λbs j hj=>by simp_all
 have ready:∀{bs:List Bool} {i:Nat} {o:Oper},all[i]? =some o->bs.length=all.length->Bz all bs i=true->bs.getD i false=false/\∀x ∈ o.after,Region.binds .any x=true->bs.getD x.on false=true:=by
  intro bs i o ho hb hrd
  have hi:i<bs.length:=by rw [hb];exact (List.getElem?_eq_some_iff.1 ho).1
  unfold Bz at hrd
  rw [ho,hget bs i hi] at hrd
  simp only [Bool.and_eq_true,Bool.not_eq_true',List.all_eq_true] at hrd
  refine ⟨hrd.1,λx hx hb=>?_⟩
  have:=hrd.2 x kw
  rw [hb] at this
  simpa using this
 have listed:∀{bs:List Bool},(∀i o,all[i]? =some o->bs.getD i false=true->∀x ∈ o.after,Region.binds .any x=true->bs.getD x.on false=true)->
  ∀(n:Nat) {i j:Nat} {o:Oper},reaches all n i j=true->all[i]? =some o->(∀x ∈ o.after,Region.binds .any x=true->bs.getD x.on false=true)->bs.getD j false=true:=by
  intro bs cl n
  induction n with
  |zero=>intro i j o h;cases h
  |succ n ih=>
   intro i j o h ho ha
   rw [reaches,ho] at h
   simp only [Bool.or_eq_true,List.any_eq_true,Bool.and_eq_true] at h
   rcases h with ⟨x,h1,h2,h3⟩|⟨x,h1,⟨h2,h3⟩,h4⟩
   .have:=Nat.eq_of_beq_eq_true h3
    grind
   .have hx:=ha x kw h2
    cases hp:all[x.on]? with
    |none=>
     cases n with
     |zero=>cases h4
     |succ n=>rw [reaches,hp] at h4;cases h4
    |some p=>grind
 refine ⟨?_,?_,?_,?_⟩
 .intro bs e st1 i o hbl hinv ho hrd
  obtain ⟨vs,pre,post,Ef,F,hh⟩:=hinv
  obtain ⟨hbi,haft⟩:=ready ho hbl hrd
  have hil:i<bs.length:=by rw [hbl];exact (List.getElem?_eq_some_iff.1 ho).1
  have Ct:∀{CS:List (Nat×Bool)} {q:Bool} {r:List (Nat×Bool)},sched=CS++(i,q)::r->∀t ∈ Oper.Ct all o,assoc e.tmps t=F8 all env.tmps vs (λk=>decide (k ∈ CS.map (·.1))) t:=by
   intro CS q r hs t ht
   rw [F.tm]
   refine CH λk p hk hd=>⟨?_,λ_=>rfl⟩
   rcases Nat.lt_trichotomy k i with hki|rfl|hki
   .have h1:=M.lo i k o p t ho hk hd ht hki
    have h2:=listed F.cl _ h1 ho haft
    have h3:=M.ahead _ h1 _ _ _ hs
    grind
   .show bs.getD k false=decide (k ∈ CS.map (·.1))
    rw [hbi,decide_eq_false (M.nodup _ _ _ _ hs)]
   .have h1:=M.hi i k o p t ho hk hd ht hki
    show bs.getD k false=decide (k ∈ CS.map (·.1))
    have h2:bs.getD k false=false:=by
     cases hb:bs.getD k false with
     |false=>rfl
     |true=>have:=listed F.cl _ h1 hk (F.cl k p hk hb);grind
    have h3:k ∉ CS.map (·.1):=λhm=>by
     obtain ⟨x,hx,hxe⟩:=List.mem_map.1 hm
     obtain ⟨pa,ra,ea⟩:=List.append_of_mem hx
     have h4:=M.ahead _ h1 pa x.2 (ra++(i,q)::r) (by grind)
     exact M.nodup _ _ _ _ hs (by grind)
    grind
  have cl':∀k p,all[k]? =some p->(bs.set i true).getD k false=true->∀x ∈ p.after,Region.binds .any x=true->(bs.set i true).getD x.on false=true:=by
   intro k p hp hk x hx hb
   rw [Et hil] at hk |-
   split
   .rfl
   .split at hk
    .grind
    .exact F.cl k p hp hk x hx hb
  by_cases hmem:i ∈ pre.map (·.1)
  . 
   obtain ⟨⟨i',q⟩,hx,rfl⟩:=List.mem_map.1 hmem
   obtain ⟨CS,r,epre⟩:=List.append_of_mem hx
   cases q with
   |false=>have:=F.gw _ hx;grind
   |true=>
    have hs:sched=CS++(i',true)::(r++post):=by rw [F.split,epre];simp
    obtain ⟨hd,hy⟩:=F.hy CS i' r o epre ho
    have hy:=hy e (Ct hs) F.n2 F.s2 F.g2
    obtain ⟨o',ho',U⟩:=M.kind _ _ _ _ hs
    have ho2:all[i']? =some o:=ho
    rw [ho2] at ho'
    cases ho'
    have U:Ev o.op=true:=U
    have hqk:BW o.op=true:=by
     revert U
     cases o.op<;>simp [Ev,BW]
    have step:e.go o.dst (vs i') (λe'=>Kz T C all sched st L (Ba (L.map some) env.boxes) Q env (bs.set i' true) e' st1):=by
     refine N7 (λt ht=>by rw [F.s2];grind) ⟨vs,pre,post,Ef,⟨F.split,λj hj=>?_,λj hj=>?_,F.boxes,F.n1,F.n2,F.s1,F.s2,F.g1,F.g2,λt=>?_,F.tf,F.bx,F.go,F.sD,F.mU,F.hy,cl'⟩,hh⟩
     .rw [Et hil] at hj
      split at hj
      .grind
      .exact F.sub j hj
     .rw [Et hil]
      split
      .rfl
      .exact F.gw j hj
     .have:=FI (S:=λj=>bs.getD j false) (S':=λj=>(bs.set i' true).getD j false) (v:=vs i') M.dst ho F.tm (λj hj=>by grind) (by grind) t
      refine this.trans (CH λk p _ _=>⟨rfl,λ_=>?_⟩)
      unfold NV
      grind
    refine E9 (λx=>?_) (λx=>?_) hy
    .have hbx:FJ sched all i'=true->e.boxes=env.boxes:=λhe=>F.mU λk ok hk hok=>by
      unfold FJ at he
      have h1:=List.all_eq_true.1 he (k,false) (by grind)
      simp only [Bool.false_or,hok] at h1
      cases hst:CP ok.op with
      |false=>rfl
      |true=>
       rw [hst] at h1
       simp only [Bool.not_true,Bool.false_or] at h1
       have:=listed F.cl _ h1 hok (F.cl k ok hok (F.gw k hk))
       grind
     rcases x with x|⟨he,x⟩|⟨he,x⟩
     .unfold Bx at x
      refine C3 (T:=T) (C:=C) (env:=e.only (Ba (L.map some) env.boxes) (Oper.Ct all o)) (env':=e) (st:=Ji) (st':=st1) hM hqk (.inr ⟨U,λ_=>rfl⟩) (GI λt _=>rfl) F.bx (λv s s' g k=>?_) (λ_ _ k=>k.elim) x
      grind
     .have hini:st1=st:=F.sD λk hk=>by
       unfold GR at he
       have h1:=List.all_eq_true.1 he (k,false) (by grind)
       simp only [Bool.false_or] at h1
       have h2:=F.gw k hk
       cases hp:all[k]? with
       |none=>
        grind
       |some p=>
        have:=listed F.cl _ h1 hp (F.cl k p hp h2)
        grind
      subst hini
      unfold Bx at x
      have hb:=hbx (Jy he)
      refine C3 (T:=T) (C:=C) (env:=e.only env.boxes (Oper.Ct all o)) (env':=e) (st:=st1) (st':=st1) hM hqk (.inl rfl) (GI λt _=>rfl) (λid cs h=>by rw [hb];exact h) (λv s s' g k=>?_) (λ_ _ k=>k.elim) x
      grind
     .unfold Bx at x
      have hb:=hbx he
      refine C3 (T:=T) (C:=C) (env:=e.only env.boxes (Oper.Ct all o)) (env':=e) (st:=Ji) (st':=st1) hM hqk (.inr ⟨U,λ_=>rfl⟩) (GI λt _=>rfl) (λid cs h=>by rw [hb];exact h) (λv s s' g k=>?_) (λ_ _ k=>k.elim) x
      grind
    grind
  . 
   obtain ⟨x,hx,rfl⟩:=List.mem_map.1 (M.cover i (List.getElem?_eq_some_iff.1 ho).1)
   rw [F.split] at hx
   have hxp:x ∈ post:=by
    rcases List.mem_append.1 hx with g|g
    .grind
    .exact g
   cases post with
   |nil=>cases hxp
   |cons p r=>
    obtain ⟨k,q⟩:=p
    have hq:q=false:=hh _ _ rfl
    subst hq
    have hxe:x=(k,false):=by
     rcases List.mem_cons.1 hxp with g|g
     .exact g
     .have h1:=M.chain pre k r F.split x g
      have h2:=listed F.cl _ h1 ho haft
      exact absurd (F.sub k h2) (M.nodup _ _ _ _ F.split)
    subst hxe
    have ho:all[k]? =some o:=ho
    have hbi:bs.getD k false=false:=hbi
    have hil:k<bs.length:=hil
    have hmem:k ∉ pre.map (·.1):=hmem
    have hgo:=F.go
    rw [La] at hgo
    simp only [ho] at hgo
    have ag:∀t ∈ Oper.Ct all o,assoc Ef.tmps t=assoc e.tmps t:=λt ht=>by rw [F.tf,Ct F.split t ht]
    have hag:=PV (all:=all) (o:=o) ag
    have next:∀(v:V) (s:St) (B:List (Nat×List V)),(∀id cs,assoc (Ba (L.map some) env.boxes) id=some cs->assoc B id=some cs)->(CP o.op=false->B=e.boxes)->
     Env.go {Ef with boxes:=B} o.dst v (λenv'=>DC T C all sched L (Ba (L.map some) env.boxes) Q r env' s)->
     Env.go {e with boxes:=B} o.dst v (λe'=>Kz T C all sched st L (Ba (L.map some) env.boxes) Q env (bs.set k true) e' s):=by
     intro v s B hB hBe hk
     obtain ⟨hd,hk⟩:=HI hk
     have hd:∀t,o.dst=some t->t<Ef.sz:=hd
     have hmp:∀j,j≠k->(j ∈ (pre++[(k,false)]).map (·.1)↔j ∈ pre.map (·.1)):=λj hj=>by simp [hj]
     refine N7 (λt ht=>by show t<e.sz;rw [F.s2,<-F.s1];grind) (JG M r (NV vs k v) (pre++[(k,false)]) {Ef with boxes:=B,tmps:=RJ Ef.tmps o.dst v} ⟨by rw [F.split];simp,λj hj=>?_,λj hj=>?_,rfl,F.n1,F.n2,F.s1,F.s2,F.g1,F.g2,λt=>?_,λt=>?_,hB,hk,λhk=>absurd (List.mem_append_right _ List.mem_cons_self) (hk k),λhk=>(hBe (hk k o (List.mem_append_right _ List.mem_cons_self) ho)).trans (F.mU λk o hm ho=>hk k o (List.mem_append_left _ hm) ho),λCS j r' o' hs ho'=>?_,cl'⟩)
     .rw [Et hil] at hj
      rw [List.map_append]
      split at hj
      .grind
      .exact List.mem_append_left _ (F.sub j hj)
     .rw [Et hil]
      split
      .rfl
      .rename_i hne
       rcases List.mem_append.1 hj with g|g
       .exact F.gw j g
       grind
     .exact FI (S:=λj=>bs.getD j false) (S':=λj=>(bs.set k true).getD j false) M.dst ho F.tm (λj hj=>by grind) (by grind) t
     .exact FI (S':=λj=>decide (j ∈ (pre++[(k,false)]).map (·.1))) M.dst ho F.tf (λj hj=>by grind) GT t
     .rcases Lj hs with ⟨rfl,e2⟩|⟨r2,e2⟩
      .cases e2
      .have hj:=F.hy CS j r2 o' e2 ho'
       refine hj.NV (λe=>?_) (λhm=>hmem ?_)
       .grind
       grind
    have heE:∀(E:Env),{E with boxes:=E.boxes}=E:=λE=>rfl
    refine HJ ag (E9 (λx=>?_) (λx=>?_) hgo)
    .obtain ⟨x1,x⟩:=As.1 x
     obtain ⟨o',ho',U⟩:=M.kind _ _ _ _ F.split
     rw [ho] at ho'
     cases ho'
     have U:(BW o.op||CP o.op)=true:=U
     cases hqk:BW o.op with
     |true=>
      refine C3 (T:=T) (C:=C) (env:=Ef) (env':=e) (st:=st1) (st':=st1) hM hqk (.inl rfl) hag (λid cs hb=>by rw [<-F.boxes];exact hb) (λv s s' g hk=>?_) (λv s hk=>hk) x
      have:s'=s:=by rcases g with ⟨_,g⟩|⟨g1,g2⟩;exact g;rw [g1,g2]
      subst this
      have:=next v s' e.boxes F.bx (λ_=>rfl) (by rw [<-F.boxes];exact hk)
      omega
     |false=>
      rw [hqk] at U
      have hst:CP o.op=true:=by simpa using U
      cases hop:o.op with
      |store t p y=>
       refine JN (T:=T) (C:=C) hop x1 hag F.boxes (by rw [F.n1,F.n2]) (by rw [F.s1,F.s2]) (by rw [F.g1,F.g2]) (λs B hB hk=>?_) x
       refine next .BD s B (λid cs hb=>?_) (λh=>by grind) hk
       obtain ⟨_,h2⟩:=hb0 id cs hb
       exact hB id cs h2 (by rw [F.boxes];exact F.bx id cs hb)
      |_=>rw [hop] at hst;cases hst
    .have:=next (.Bj []) st1 e.boxes F.bx (λ_=>rfl) (by rw [<-F.boxes];exact x)
     omega
 .intro bs e st hbl hinv
  obtain ⟨vs,pre,post,Ef,F,hh⟩:=hinv
  by_cases hall:∀p ∈ sched,bs.getD p.1 false=true
  .left
   rw [List.eq_replicate_iff]
   refine ⟨hbl,λb hb=>?_⟩
   obtain ⟨j,hj,rfl⟩:=List.mem_iff_getElem.1 hb
   obtain ⟨p,hp,e⟩:=List.mem_map.1 (M.cover j AC)
   grind
  .right
   have hex:∃pr p po,sched=pr++p::po/\bs.getD p.1 false=false/\∀x ∈ pr,bs.getD x.1 false=true:=by
    clear F hh
    revert hall
    generalize sched=l
    intro hall
    induction l with
    |nil=>grind
    |cons x l ih=>
     cases hb:bs.getD x.1 false with
     |false=>exact ⟨[],x,l,rfl,hb,λy hy=>by cases hy⟩
     |true=>
      obtain ⟨pr,p,po,h1,h2,h3⟩:=ih λh=>hall λp hp=>by grind
      grind
   obtain ⟨pr,⟨k,q⟩,po,h1,h2,h3⟩:=hex
   obtain ⟨o,ho,_⟩:=M.kind _ _ _ _ h1
   have hk:k<all.length:=(List.getElem?_eq_some_iff.1 ho).1
   refine ⟨k,hk,?_⟩
   unfold Bz
   rw [ho,hget bs k AC,h2]
   simp only [Bool.not_false,Bool.true_and,List.all_eq_true]
   intro x hx
   cases hb:Region.binds .any x with
   |false=>rfl
   |true=>
    obtain ⟨y,hy,e⟩:=List.mem_map.1 (M.back _ _ _ _ o h1 ho x (by grind) hb)
    grind
 .intro e st hinv
  obtain ⟨vs,pre,post,Ef,F,hh⟩:=hinv
  have hp:post=[]:=by
   cases post with
   |nil=>rfl
   |cons p r=>
    obtain ⟨o,ho,_⟩:=M.kind _ _ _ _ F.split
    have:=F.sub p.1 (by grind)
    exact absurd this (M.nodup _ _ _ _ F.split)
  subst hp
  refine ⟨Ef,⟨⟨λt=>?_,λt=>by rw [F.boxes],by rw [F.n1,F.n2],by rw [F.s1,F.s2]⟩,F.boxes,by rw [F.g1,F.g2]⟩,F.go⟩
  rw [F.tm,F.tf]
  refine CH λk p hk _=>⟨?_,λ_=>rfl⟩
  have hlt:=(List.getElem?_eq_some_iff.1 hk).1
  have h1:(List.replicate all.length true).getD k false=true:=by rw [List.getD_eq_getElem?_getD,List.getElem?_replicate,if_pos hlt];rfl
  show (List.replicate all.length true).getD k false=decide (k ∈ pre.map (·.1))
  rw [h1,decide_eq_true (F.sub k h1)]
 .have hf:∀j,(List.replicate all.length false).getD j false=false:=λj=>by grind
  have h0:∀(vs:Nat->V) t,F8 all env.tmps vs (λj=>(List.replicate all.length false).getD j false) t=assoc env.tmps t:=λvs t=>by
   unfold F8;grind
  refine JG M sched (λ_=>.BD) [] env ⟨rfl,λj hj=>(by grind),λj hj=>(by cases hj),rfl,rfl,rfl,rfl,rfl,rfl,rfl,λt=>(h0 _ t).symm,λt=>?_,λid cs hb=>(hb0 id cs hb).1,h,λ_=>rfl,λ_=>rfl,λCS j r o e=>(by cases CS<;>cases e),λi o ho hi=>(by grind)⟩
  unfold F8
  grind
def OL (A:List Oper) (U os:Oper) (t:Nat):Bool:=
 U.after.toList.isEmpty&&(U.guard.isNone&&(os.guard.isNone&&(CP os.op&&(A.all (λo=>o.guard.isNone&&(BW o.op&&(!(o.dst==some t)&&(!((Oper.Ct A o).contains t)&&o.after.toList.all λe=>Nat.blt e.on A.length))))&&
  ((List.range (A.length+1)).all (λi=>os.after.toList.any λe=>Nat.beq e.on i&&Region.binds .any e)&&os.after.toList.all λe=>Nat.ble e.on A.length)))))
def S8 (T:List (Nat×Ty)) (C:FuncId->List V->St->(At->St->Prop)->Prop) (U os:Oper) (Q:AD->Env->St->Prop) (x:AD) (e:Env) (s:St):Prop:=match x with
 | .normal=>FE T C U e s (λv e s=>e.go U.dst v λe=>FE T C os e s (λv e s=>e.go os.dst v λe=>Q .normal e s) (λx _ s=>∀e',Q x e' s)) (λ_ _ _=>True)
 |x=>∀e',Q x e' s
structure sB (t:Nat) (z:List V) (e0 e:Env):Prop where
 boxes:e.boxes=(e0.BG,z)::e0.boxes
 BG:e.BG=e0.BG+1
 sz:e.sz=e0.sz
 gl:e.gl=e0.gl
 tm:∀s,assoc e.tmps s=if s=t then some (.B3 e0.BG 0) else assoc e0.tmps s
def tV (I:List Bool->Env->St->Prop) (n t:Nat) (z:List V) (Q:AD->Env->St->Prop) (bs:List Bool) (e:Env) (s:St):Prop:=∃U x y,bs=U++[x,y]/\U.length=n/\
 ((x=false/\y=false/\I U e s)\/(x=true/\y=false/\∃e0,I U e0 s/\sB t z e0 e)\/(x=true/\y=true/\U=List.replicate n true/\∃env',e.eqv env'/\Q .normal env' s))
theorem H6 {l r:List Bool} {i:Nat} {d:Bool} (h:i<l.length):(l++r).getD i d=l.getD i d:=by
 rw [List.getD_eq_getElem?_getD,List.getD_eq_getElem?_getD,List.getElem?_append_left h]
theorem sB.get {t:Nat} {z:List V} {e0 e:Env} (h:sB t z e0 e) {s:Nat} (U:s≠t):e0.get s=e.get s:=by
 unfold Env.get
 rw [h.tm,if_neg U]
theorem sB.go {z:List V} {e0:Env} (h:sB t z e0 e) {d:Option Nat} (hd:d≠some t) (v:V):sB t z {e0 with tmps:=RJ e0.tmps d v} {e with tmps:=RJ e.tmps d v}:=
 ⟨h.boxes,h.BG,h.sz,h.gl,λs=>by
   show assoc (RJ e.tmps d v) s=if s=t then some (.B3 e0.BG 0) else assoc (RJ e0.tmps d v) s
   rw [Fw,Fw,h.tm]
   by_cases U:d=some s
   .rw [if_pos U,if_pos U,if_neg (λe=>hd (by rw [U,e]))]
   .rw [if_neg U,if_neg U]⟩
theorem Kz.facts {sti:St} {b0:List (Nat×List V)} {U:Env} {bs:List Bool} {st:St} (hq:∀(k:Nat) (o:Oper),all[k]? =some o->CP o.op=false) (h:Kz T C all sched sti L b0 Q U bs e st):
 e.BG=U.BG/\e.sz=U.sz/\e.gl=U.gl/\e.boxes=U.boxes:=by
 obtain ⟨vs,pre,post,Ef,F,_⟩:=h
 exact ⟨F.n2,F.s2,F.g2,F.mU λk o _ ho=>hq k o ho⟩
theorem R3 {o:Op} (h:BW o=true):CP o=false:=by
 cases o<;>first|rfl|cases h
theorem eZ {U:Oper} {s:St} {K:V->Env->St->Prop} {z:Ty} (ho:U.op=.alloc ty) (hz:assoc T ty=some z):FE T C U e s K Q=IK e s U.dst z.zero.cells K:=by
 simp only [FE,ho,hz]
theorem U1 (hT:Gc P T) (hC:∀f args st R,C f args st R->C0 P f args st R/\Plain P f) (hM:∀f args st (R R':At->St->Prop),(∀r s,R r s->R' r s)->C f args st R->C f args st R')
 {A:List Oper} {oa os:Oper} {z:Ty} (hm:Ft sched A=true) (hk:OL A oa os t=true) (ho:oa.op=.alloc ty) (hd:oa.dst=some t) (hz:assoc T ty=some z) (hts:t<env.sz) (hgl:env.R0 (some t)=false)
 (h:DC T C A sched L (Ba (L.map some) env.boxes) (S8 T C oa os Q) sched env st) (hr:Rel D I0 st0 w0 I β env st a w):
 wpAny P .any (A++[oa,os]).toArray (Ci D I0 st0 w0 Q) (A++[oa,os]).toArray.size (Array.replicate (A++[oa,os]).toArray.size false) a {w with drawn:=w.drawn+1}:=by
 obtain ⟨step,live,fin,start⟩:=iJ (T:=T) (C:=C) hM hm h
 have hr:=hr.IG (HB.drew w)
 generalize hI:Kz T C A sched st L (Ba (L.map some) env.boxes) (S8 T C oa os Q) env=I0' at step live fin start
 unfold OL at hk
 simp only [Bool.and_eq_true,List.all_eq_true,List.any_eq_true,List.mem_range,Bool.not_eq_true'] at hk
 obtain ⟨k1,k2,k3,k4,k5,k6,k7⟩:=hk
 have hAo:∀(i:Nat) (o:Oper),A[i]? =some o->o.guard=none/\BW o.op=true/\o.dst≠some t/\t ∉ Oper.Ct A o/\∀e ∈ o.after.toList,e.on<A.length:=λi o hi=>by
  obtain ⟨h1,h2,h3,h4,h5⟩:=k5 o (List.mem_of_getElem? hi)
  refine ⟨by simpa using h1,h2,by simpa using h3,by simpa using h4,λe he=>?_⟩
  have:=h5 e he
  rw [Nat.blt_eq] at this;exact this
 have facts:∀{bs e s},I0' bs e s->e.BG=env.BG/\e.sz=env.sz/\e.gl=env.gl/\e.boxes=env.boxes:=λ{bs e s} hi=>by
  rw [<-hI] at hi
  exact Kz.facts (λk o ho=>R3 (hAo k o ho).2.1) hi
 have fresh:assoc env.boxes env.BG=none:=by
  cases e:assoc env.boxes env.BG with
  |none=>rfl
  |some cs=>
   obtain ⟨b,hb,_⟩:=hr.f.box _ _ e
   exact absurd (hr.f.BG _ _ hb) (Nat.lt_irrefl _)
 have hga:oa.guard=none:=by simpa using k2
 have hgs:os.guard=none:=by simpa using k3
 have hla:(A++[oa,os]).length=A.length+2:=GT
 refine ZR hT hC (Inv:=tV I0' A.length t z.zero.cells Q) ?_ ?_ ?_ _ (List.replicate (A++[oa,os]).length false) _ _ β env st _ _ GT GT GT ?_ hr
 .rintro bs e s i o hbl ⟨bA,x,y,rfl,hlen,U⟩ hio hrd
  have rdA:i<A.length->Bz A bA i=true:=λhi=>by
   rw [List.getElem?_append_left hi] at hio
   unfold Bz at hrd |-
   rw [List.getElem?_append_left hi,hio] at hrd
   rw [hio]
   rw [H6 AC] at hrd
   simp only [Bool.and_eq_true,List.all_eq_true] at hrd |-
   refine ⟨hrd.1,λe he=>?_⟩
   have:=hrd.2 e he
   rwa [H6 (by rw [hlen];exact (hAo i o hio).2.2.2.2 e he)] at this
  rcases Nat.lt_trichotomy i A.length with hi|rfl|hi
  .have hrA:=rdA hi
   rw [List.getElem?_append_left hi] at hio
   obtain ⟨g1,g2,g3,g4,g5⟩:=hAo i o hio
   have hset:∀x y,(bA++[x,y]).set i true=bA.set i true++[x,y]:=λx y=>List.set_append_left _ _ AC
   have hls:(bA.set i true).length=A.length:=by simpa using hlen
   unfold Bg
   rw [g1]
   rcases U with ⟨rfl,rfl,U⟩|⟨rfl,rfl,e0,U,ha⟩|⟨rfl,rfl,U,_⟩
   .have:=step bA e s i o hlen U hio hrA
    unfold Bg at this
    rw [g1] at this
    refine C3 (env:=e) (env':=e) (st:=s) (st':=s) hM g2 (.inl rfl) (λ_ _=>rfl) (λid cs h=>h) (λv s1 s2 g k=>?_) (λv s1 k=>k e e) this
    have hs:s2=s1:=by rcases g with ⟨_,g⟩|⟨g1,g2⟩;exact g;rw [g1,g2]
    subst hs
    obtain ⟨q1,q2⟩:=HI k
    exact N7 q1 ⟨bA.set i true,false,false,hset _ _,hls,.inl ⟨rfl,rfl,q2⟩⟩
   .have:=step bA e0 s i o hlen U hio hrA
    unfold Bg at this
    rw [g1] at this
    have hf:=facts U
    refine C3 (env:=e0) (env':=e) (st:=s) (st':=s) hM g2 (.inl rfl) (λx hx=>?_) (λid cs h=>?_) (λv s1 s2 g k=>?_) (λv s1 k=>k e e) this
    .cases x with
     |tmp t'=>
      refine ha.get λe=>g4 ?_
      subst e
      exact List.mem_append.2 (.inl (List.mem_filterMap.2 ⟨.tmp t',hx,rfl⟩))
     |const v=>rfl
     |func f=>rfl
     |global g=>rfl
    .rw [ha.boxes,Bf]
     cases hb:Nat.beq e0.BG id with
     |false=>exact h
     |true=>
      have:=Nat.eq_of_beq_eq_true hb
      subst this
      rw [hf.2.2.2,hf.1,fresh] at h
      cases h
    .have hs:s2=s1:=by rcases g with ⟨_,g⟩|⟨g1,g2⟩;exact g;rw [g1,g2]
     subst hs
     obtain ⟨q1,q2⟩:=HI k
     exact N7 (λt' ht'=>by rw [ha.sz];exact q1 t' ht') ⟨bA.set i true,true,false,hset _ _,hls,.inr (.inl ⟨rfl,rfl,_,q2,ha.go g3 v⟩)⟩
   .unfold Bz at hrA
    rw [U,List.getD_eq_getElem?_getD,List.getElem?_replicate,if_pos hi] at hrA
    simp at hrA
  .have hoo:o=oa:=by
    rw [List.getElem?_append_right (Nat.le_refl _),Nat.sub_self] at hio
    simpa using hio.symm
   subst hoo
   have hx:x=false:=by
    unfold Bz at hrd
    rw [List.getD_eq_getElem?_getD,List.getElem?_append_right AC,hlen,Nat.sub_self] at hrd
    cases x with
    |false=>rfl
    |true=>simp at hrd
   subst hx
   rcases U with ⟨_,rfl,U⟩|⟨U,_⟩|⟨U,_⟩
   .have hf:=facts U
    unfold Bg
    rw [hga]
    have hg2:e.R0 o.dst=false:=by
     rw [hd]
     unfold Env.R0 at hgl |-
     rw [hf.2.2.1];exact hgl
    simp only [FE,ho,hz]
    unfold IK
    rw [hg2]
    refine A5.2 ?_
    refine N7 (λt' ht'=>?_) ⟨bA,true,false,?_,hlen,.inr (.inl ⟨rfl,rfl,e,U,⟨rfl,rfl,rfl,rfl,λs'=>?_⟩⟩)⟩
    .rw [hd] at ht'
     cases ht'
     show t<e.sz
     rw [hf.2.1];exact hts
    .rw [List.set_append_right _ _ AC,hlen,Nat.sub_self];rfl
    .show assoc (RJ e.tmps o.dst (.B3 e.BG 0)) s'=_
     rw [Fw,hd]
     by_cases h1:s'=t
     .rw [if_pos (by rw [h1]),if_pos h1]
     .rw [if_neg (λe=>h1 (Option.some.inj e).symm),if_neg h1]
   .cases U
   .cases U
  .have hi2:i=A.length+1:=by
    have:=(List.getElem?_eq_some_iff.1 hio).1
    omega
   subst hi2
   have hoo:o=os:=by
    rw [List.getElem?_append_right AC,show A.length+1 - A.length=1 by omega] at hio
    simpa using hio.symm
   subst hoo
   unfold Bz at hrd
   rw [hio] at hrd
   simp only [Bool.and_eq_true,List.all_eq_true,Bool.not_eq_true'] at hrd
   obtain ⟨r1,r2⟩:=hrd
   have hon:∀j,j<A.length+1->(bA++[x,y]).getD j false=true:=λj hj=>by
    obtain ⟨e',he',hb⟩:=k6 j hj
    have h1:=r2 e' he'
    rw [Nat.eq_of_beq_eq_true hb.1,hb.2] at h1
    simpa using h1
   have hy:y=false:=by
    rw [List.getD_eq_getElem?_getD,List.getElem?_append_right AC,hlen,show A.length+1 - A.length=1 by omega] at r1
    simpa using r1
   have hx:x=true:=by
    have:=hon A.length AC
    rw [List.getD_eq_getElem?_getD,List.getElem?_append_right AC,hlen,Nat.sub_self] at this
    simpa using this
   have hbA:bA=List.replicate A.length true:=by
    rw [List.eq_replicate_iff]
    refine ⟨hlen,λb hb=>?_⟩
    obtain ⟨j,hj,rfl⟩:=List.mem_iff_getElem.1 hb
    have:=hon j AC
    rw [H6 hj,List.getD_eq_getElem?_getD,List.getElem?_eq_getElem hj] at this
    simpa using this
   subst hy;subst hx
   rcases U with ⟨U,_⟩|⟨_,_,e0,U,ha⟩|⟨_,U,_⟩
   .cases U
   .rw [hbA] at U
    obtain ⟨env',⟨q1,q2,q3⟩,q4⟩:=fin e0 s U
    have hf:=facts U
    have q4:FE T C oa env' s (λv e s=>e.go oa.dst v λe=>FE T C o e s (λv e s=>e.go o.dst v λe=>Q .normal e s) (λx _ s=>∀e',Q x e' s)) (λ_ _ _=>True):=q4
    have hg2:env'.R0 oa.dst=false:=by
     rw [hd]
     unfold Env.R0 at hgl |-
     rw [q3,hf.2.2.1];exact hgl
    rw [eZ ho hz] at q4
    unfold IK at q4
    rw [hg2] at q4
    obtain ⟨_,q5⟩:=HI (A5.1 q4)
    unfold Bg
    rw [hgs]
    have tmq:∀s',assoc (RJ env'.tmps oa.dst (.B3 env'.BG 0)) s'=assoc e.tmps s':=λs'=>by
     rw [Fw,hd,<-q1.tmps,<-q1.BG,ha.tm]
     by_cases h1:s'=t
     .rw [if_pos (by rw [h1]),if_pos h1]
     .rw [if_neg (λe=>h1 (Option.some.inj e).symm),if_neg h1]
    have ev:∀x:Operand,Env.eval ⟨RJ env'.tmps oa.dst (.B3 env'.BG 0),(env'.BG,z.zero.cells)::env'.boxes,env'.BG+1,env'.sz,env'.gl⟩ x=e.eval x:=λx=>by
     cases x with
     |tmp t'=>
      have:=tmq t'
      show Env.get _ t'=e.get t'
      unfold Env.get
      dsimp only
      rw [this]
     |const v=>rfl
     |func f=>rfl
     |global g=>rfl
    cases hop:o.op with
    |store ty' px vx=>
     obtain ⟨L',hL'⟩:∃L',Is L' ⟨RJ env'.tmps oa.dst (.B3 env'.BG 0),(env'.BG,z.zero.cells)::env'.boxes,env'.BG+1,env'.sz,env'.gl⟩ o=true:=by
      unfold Is
      rw [hop]
      dsimp only
      cases hv:Env.eval ⟨RJ env'.tmps oa.dst (.B3 env'.BG 0),(env'.BG,z.zero.cells)::env'.boxes,env'.BG+1,env'.sz,env'.gl⟩ px with
      |B3 id off=>exact ⟨[id],GT⟩
      |_=>exact ⟨[],rfl⟩
     refine JN (T:=T) (C:=C) hop hL' (λx _=>ev x) (by rw [ha.boxes,q2,<-q1.BG]) (by rw [ha.BG,<-q1.BG]) (by rw [ha.sz,<-q1.sz]) (by rw [ha.gl,q3]) (λs' B hB hk=>?_) q5
     obtain ⟨p1,p2⟩:=HI hk
     refine N7 (λt' ht'=>by have:=p1 t' ht';rw [show ({e with boxes:=B}:Env).sz=e.sz from rfl,ha.sz,q1.sz];exact this) ⟨bA,true,true,?_,hlen,.inr (.inr ⟨rfl,rfl,hbA,⟨RJ (RJ env'.tmps oa.dst (.B3 env'.BG 0)) o.dst .BD,B,env'.BG+1,env'.sz,env'.gl⟩,⟨λs''=>?_,λ_=>rfl,?_,?_⟩,p2⟩)⟩
     .rw [List.set_append_right _ _ AC,hlen,show A.length+1 - A.length=1 by omega];rfl
     .show assoc (RJ e.tmps o.dst .BD) s''=assoc (RJ (RJ env'.tmps oa.dst (.B3 env'.BG 0)) o.dst .BD) s''
      rw [Fw,Fw (ts:=RJ env'.tmps oa.dst (.B3 env'.BG 0)),tmq]
     .show e.BG=env'.BG+1
      rw [ha.BG,q1.BG]
     .show e.sz=env'.sz
      rw [ha.sz,q1.sz]
    |_=>rw [hop] at k4;cases k4
   .cases U
 .rintro bs e s hbl ⟨bA,x,y,rfl,hlen,U⟩
  have lift:∀{j:Nat} {x y:Bool},j<A.length->Bz A bA j=true->Bz (A++[oa,os]) (bA++[x,y]) j=true:=λ{j x y} hj hq=>by
   unfold Bz at hq |-
   rw [H6 AC,List.getElem?_append_left hj]
   have hoj:A[j]? =some A[j]:=List.getElem?_eq_getElem hj
   rw [hoj] at hq |-
   simp only [Bool.and_eq_true,List.all_eq_true] at hq |-
   refine ⟨hq.1,λe he=>?_⟩
   rw [H6 (by rw [hlen];exact (hAo j _ hoj).2.2.2.2 e he)]
   exact hq.2 e he
  rcases U with ⟨rfl,rfl,U⟩|⟨rfl,rfl,e0,U,ha⟩|⟨rfl,rfl,U,_⟩
  .refine .inr ⟨A.length,AC,?_⟩
   unfold Bz
   rw [List.getElem?_append_right (Nat.le_refl _),Nat.sub_self,List.getD_eq_getElem?_getD,List.getElem?_append_right AC,hlen,Nat.sub_self]
   have:oa.after.toList=[]:=by simpa using k1
   simp [this]
  .rcases live bA e0 s hlen U with h1|⟨j,h1,h2⟩
   .refine .inr ⟨A.length+1,AC,?_⟩
    unfold Bz
    rw [List.getElem?_append_right AC,List.getD_eq_getElem?_getD,List.getElem?_append_right AC,hlen,show A.length+1 - A.length=1 by omega]
    rw [Bool.and_eq_true]
    refine ⟨rfl,?_⟩
    show (os.after.toList.all λe=> !(Region.binds .any e)||(bA++[true,false]).getD e.on false)=true
    rw [List.all_eq_true]
    intro e he
    have hle:e.on<=A.length:=Nat.le_of_ble_eq_true (k7 e he)
    rw [Bool.or_eq_true]
    refine .inr ?_
    rcases Nat.lt_or_eq_of_le hle with h2|h2
    .rw [H6 AC,h1,List.getD_eq_getElem?_getD,List.getElem?_replicate,if_pos h2];rfl
    .rw [List.getD_eq_getElem?_getD,List.getElem?_append_right AC,h2,hlen,Nat.sub_self];rfl
   .exact .inr ⟨j,AC,lift h1 h2⟩
  .refine .inl ?_
   rw [U,hla,List.replicate_succ',List.replicate_succ',List.append_assoc]
   rfl
 .rintro e s ⟨bA,x,y,hbs,hlen,U⟩
  have hlast:(bA++[x,y]).getD A.length false=true/\(bA++[x,y]).getD (A.length+1) false=true:=by
   rw [<-hbs,List.getD_eq_getElem?_getD,List.getD_eq_getElem?_getD,List.getElem?_replicate,List.getElem?_replicate,if_pos AC,if_pos AC]
   exact ⟨rfl,rfl⟩
  have hy:y=true:=by
   have:=hlast.2
   rw [List.getD_eq_getElem?_getD,List.getElem?_append_right AC,hlen,show A.length+1 - A.length=1 by omega] at this
   simpa using this
  rcases U with ⟨_,U,_⟩|⟨_,U,_⟩|⟨_,_,_,h1⟩
  .rw [hy] at U;cases U
  .rw [hy] at U;cases U
  .exact h1
 .refine ⟨List.replicate A.length false,false,false,?_,GT,.inl ⟨rfl,rfl,start⟩⟩
  rw [hla,List.replicate_succ',List.replicate_succ',List.append_assoc]
  rfl
theorem fm (hP:MZ P T) (hC:∀f args st R,C f args st R->C0 P f args st R/\Plain P f) (hM:∀f args st (R R':At->St->Prop),(∀r s,R r s->R' r s)->C f args st R->C f args st R')
 (A:List Oper) (U os:Oper) (sched:List (Nat×Bool)) (L:List Nat) {z:Ty} (he:ops=(A++[U,os]).toArray) (hm:Ft sched A=true) (hk:OL A U os t=true) (ho:U.op=.alloc ty) (hd:U.dst=some t) (hz:assoc T ty=some z) (hts:t<env.sz) (hgl:env.R0 (some t)=false)
 (h:DC T C A sched L (Ba (L.map some) env.boxes) (S8 T C U os Q) sched env st):AW P (.region id ops true) Q env st:=λD I0 st0 w0 I β a w hr=>
 wp_region_any hP.m (by
  subst he
  exact U1 hP.t hC hM hm hk ho hd hz hts hgl h hr)
theorem M5 (hP:MZ P T) (hC:∀f args st R,C f args st R->C0 P f args st R/\Plain P f) (hM:∀f args st (R R':At->St->Prop),(∀r s,R r s->R' r s)->C f args st R->C f args st R')
 (k t:Nat) (sched:List (Nat×Bool)) (L:List Nat) {U os:Oper} {z:Ty} (h1:ops.toList[k]? =some U) (h2:ops.toList[k+1]? =some os) (h3:ops.toList.length=k+2) (hm:Ft sched (ops.toList.take k)=true) (hk:OL (ops.toList.take k) U os t=true) (ho:U.op=.alloc ty) (hd:U.dst=some t) (hz:assoc T ty=some z) (hts:t<env.sz) (hgl:env.R0 (some t)=false)
 (h:DC T C (ops.toList.take k) sched L (Ba (L.map some) env.boxes) (S8 T C U os Q) sched env st):AW P (.region id ops true) Q env st:=by
 refine fm hP hC hM _ U os sched L (by
  have e1:ops.toList.drop k=[U,os]:=by
   obtain ⟨g1,g2⟩:=List.getElem?_eq_some_iff.1 h1
   obtain ⟨g3,g4⟩:=List.getElem?_eq_some_iff.1 h2
   rw [List.drop_eq_getElem_cons g1,g2,List.drop_eq_getElem_cons g3,g4,List.drop_eq_nil_of_le AC]
  rw [<-e1,List.take_append_drop]) hm hk ho hd hz hts hgl h
end
theorem fW (h:l≠[]) (g:DV (AR l)=true) (t:List UInt8):AR (l.take (AR l).2++t)=AR l:=by
 rcases l with _|⟨a,r⟩
 .exact absurd rfl h
 revert g
 generalize U:AR (a::r)=x
 have hx0:=U
 unfold AR at U
 dsimp only at U
 intro g
 rcases r with _|⟨b,_|⟨c,_|⟨d,r⟩⟩⟩
 all_goals simp only [List.getElem?_nil,List.getElem?_cons_zero,List.getElem?_cons_succ,List.getD_cons_zero,List.getD_cons_succ,Bool.and_false,Bool.false_eq_true,if_false] at U
 all_goals repeat' split at U
 all_goals subst U
 all_goals first
  |(exfalso;revert g;simp [DV];done)
  |skip
 all_goals simp only [List.take_succ_cons,List.take_zero,List.cons_append,List.nil_append]
 all_goals unfold AR
 all_goals dsimp only
 all_goals try simp only [List.getElem?_nil,List.getElem?_cons_zero,List.getElem?_cons_succ,List.getD_cons_zero,List.getD_cons_succ]
 all_goals repeat' (first|rfl|rw [if_pos ‹_›]|rw [if_neg ‹_›])
def Vd (l:List UInt8):Prop:=Cd DV l=l.length
theorem Vd.rune (h:Vd l) (hne:l≠[]):DV (AR l)=true/\Vd (l.drop (AR l).2):=by
 have U:DV (AR l)=true:=by
  cases U:DV (AR l) with
  |true=>rfl
  |false=>
   unfold Vd at h
   rw [MM U] at h
   grind
 refine ⟨U,?_⟩
 unfold Vd at h |-
 rw [Ku hne U] at h
 grind
inductive Bd:List UInt8->Nat->Prop
 |zero (l:List UInt8):Bd l 0
 |step {l:List UInt8} {k:Nat}:l≠[]->Bd (l.drop (AR l).2) k->Bd l ((AR l).2+k)
theorem Bd.vd {i:Nat} (h:Bd l i) (k:Vd l):Vd (l.drop i):=by
 induction h with
 |zero l=>exact k
 |step U h ih=>
  have:=ih (k.rune U).2
  simp_all
theorem Bd.span (p:Nat×Nat->Bool) (l:List UInt8):Bd l (Cd p l):=by
 fun_induction Cd p l with
 |case1=>exact .zero _
 |case2 a r U ih=>exact .step GT ih
 |case3 a r U=>exact .zero _
theorem Bd.one (h:l≠[]):Bd l (AR l).2:=by
 have:=Bd.step h (.zero (l.drop (AR l).2))
 omega
theorem Si (h:l≠[]) (g:DV (AR l)=true) (k:Nat) (hk:1<=k) (U:k<(AR l).2):∃b,l[k]? =some b/\128<=b.toNat:=by
 rcases l with _|⟨a,r⟩
 .simp_all
 revert g U
 generalize hx:AR (a::r)=x
 unfold AR at hx
 dsimp only at hx
 intro g U
 have d2:∀b:UInt8,(b.toNat / 64==2)=true->128<=b.toNat:=λb hb=>by grind
 rcases r with _|⟨b,_|⟨c,_|⟨d,r⟩⟩⟩
 all_goals simp only [List.getElem?_nil,List.getElem?_cons_zero,List.getElem?_cons_succ,List.getD_cons_zero,List.getD_cons_succ,Bool.and_false,Bool.false_eq_true,if_false] at hx
 all_goals repeat' split at hx
 all_goals subst hx
 all_goals first
  |(exfalso;revert g;simp [DV];done)
  |skip
 all_goals first
  |(exfalso;have U:k<1:=U;omega)
  |skip
 all_goals simp only [Bool.and_eq_true] at *
 all_goals have hk':k=1\/k=2\/k=3:=by first|omega|(dsimp only at U;omega)
 all_goals rcases hk' with rfl|rfl|rfl
 all_goals first
  |(exfalso;omega)
  |(exfalso;dsimp only at U;omega)
  |skip
 all_goals refine ⟨_,rfl,d2 _ ?_⟩
 all_goals simp only [beq_iff_eq] at *
 all_goals omega
theorem Bd.pq {b:UInt8} (hv:Vd l) (hb:l[k]? =some b) (h:b.toNat<128):Bd l k/\Bd l (k+1):=by
 induction hn:l.length using Nat.strongRecOn generalizing l k with
 |_ n ih=>
  have U:l≠[]:=λe=>by simp_all
  obtain ⟨g,hv'⟩:=hv.rune U
  have hp:=FX l
  have hle:=Hj U
  by_cases hk:k<(AR l).2
  .by_cases h0:k=0
   .subst h0
    refine ⟨.zero l,?_⟩
    cases l with
    |nil=>simp_all
    |cons a r=>
     simp only [List.getElem?_cons_zero,Option.some.injEq] at hb
     subst hb
     have e:AR (a::r)=(a.toNat,1):=by unfold AR;dsimp only;rw [if_pos AC]
     have:=Bd.one U
     simp_all
   .obtain ⟨b',h1,h2⟩:=Si U g k AC hk
    grind
  .obtain ⟨j,rfl⟩:∃j,k=(AR l).2+j:=⟨k - (AR l).2,AC⟩
   have:=ih (l.drop (AR l).2).length (by grind) hv' (k:=j) kw rfl
   exact ⟨.step U this.1,by rw [Nat.add_assoc];exact .step U this.2⟩
inductive BT:List UInt8->Nat->Prop
 |zero (l:List UInt8):BT l 0
 |step {l:List UInt8} {k:Nat}:l≠[]->BT (l.drop (AU l)) k->BT l (AU l+k)
theorem FD (l:List UInt8):(HS l=0/\¬(AE l=13\/AE l=10\/AE l=12))\/(HS l=1/\(AE l=13\/AE l=10\/AE l=12)/\¬(AE l=13/\AE (l.drop 1)=10))\/(HS l=2/\AE l=13/\AE (l.drop 1)=10):=by
 unfold HS
 grind
theorem FR (U:0<=AE l) (h:AE l<128):(AR l).2=1/\(((AR l).1:Nat):Int)=AE l:=by
 cases l with
 |nil=>exact absurd U Do
 |cons a r=>
  have h:((a.toNat:Nat):Int)<128:=h
  have e:AR (a::r)=(a.toNat,1):=by unfold AR;dsimp only;rw [if_pos AC]
  rw [e];exact ⟨rfl,rfl⟩
theorem Bd.cut (h:Bd l k) (hn:¬(0<k/\AE (l.drop (k - 1))=13/\AE (l.drop k)=10)):BT l k:=by
 induction hm:l.length using Nat.strongRecOn generalizing l k with
 |_ n ih=>
  cases h with
  |zero=>exact .zero l
  |@step _ j U h=>
   have hp:=FX l
   have hle:=Hj U
   rcases FD l with ⟨e,h1⟩|⟨e,h1,h2⟩|⟨e,h1,h2⟩
   .have es:AU l=(AR l).2:=by unfold AU;rw [if_neg AC]
    rw [<-es]
    refine .step U ?_
    rw [es]
    refine ih _ (by grind) h (λhc=>hn ⟨AC,?_,?_⟩) rfl
    .have:=hc.2.1;rw [List.drop_drop] at this;rwa [show (AR l).2+j - 1=(AR l).2+(j - 1) by omega]
    simp_all
   .have ed:=FR (l:=l) AC AC
    have es:AU l=(AR l).2:=by unfold AU;rw [if_pos AC,e,ed.1]
    rw [<-es]
    refine .step U ?_
    rw [es]
    refine ih _ (by grind) h (λhc=>hn ⟨AC,?_,?_⟩) rfl
    .have:=hc.2.1;rw [List.drop_drop] at this;rwa [show (AR l).2+j - 1=(AR l).2+(j - 1) by omega]
    .have:=hc.2.2;rwa [List.drop_drop] at this
   .have ed:=FR (l:=l) AC AC
    rw [ed.1] at h hn |-
    have es:AU l=2:=by unfold AU;rw [if_pos AC,e]
    cases h with
    |zero=>simp_all
    |@step _ j hne' h=>
     have ed':=FR (l:=l.drop 1) AC AC
     rw [ed'.1] at h hn |-
     rw [show 1+(1+j)=AU l+j by omega]
     refine .step U ?_
     rw [es]
     rw [List.drop_drop] at h
     have hl2:l.length≠0:=by have:=List.length_pos_iff.2 U;omega
     refine ih _ (by grind) h (λhc=>hn ⟨AC,?_,?_⟩) rfl
     .have:=hc.2.1;rw [List.drop_drop] at this;grind
     .have:=hc.2.2;rw [List.drop_drop] at this;grind
theorem RH:∀(n:Nat) (l:List UInt8) (k:Nat) (p:Int×Int),l.length<=n->1<=p.2->p.1<=(BZ l k p).1/\(BZ l k p).1<=p.1+l.length/\1<=(BZ l k p).2/\(BZ l k p).2<=p.2+8*l.length
 |n,[],k,p,_,h=>by rw [FM];simp only [List.length_nil];omega
 |0,a::r,k,p,hn,h=>by simp at hn
 |n+1,a::r,k,p,hn,h=>by
  by_cases U:k<AU (a::r)
  .rw [EM U];omega
  .rw [EA GT U]
   have h1:=F9 (l:=a::r) GT
   have h2:=UG (a::r) p.1
   have h3:=UF (a::r) h
   have hd:((a::r).drop (AU (a::r))).length=(a::r).length - AU (a::r):=List.length_drop
   have ih:=RH n ((a::r).drop (AU (a::r))) (k - AU (a::r)) (Fi (a::r) p.1,Gq (a::r) p.2) AC h3.1
   dsimp only at ih
   omega
theorem SZ:∀(n:Nat) (l:List UInt8) (k:Nat) (x c U y:Int),l.length<=n->(BZ l k (x,c)).1 - x=(BZ l k (y,U)).1 - y
 |n,[],k,x,c,U,y,_=>by rw [FM,FM];omega
 |0,a::r,k,x,c,U,y,hn=>by simp at hn
 |n+1,a::r,k,x,c,U,y,hn=>by
  by_cases hk:k<AU (a::r)
  .rw [EM hk,EM hk];omega
  .rw [EA GT hk,EA GT hk]
   have h1:=F9 (l:=a::r) GT
   have hd:((a::r).drop (AU (a::r))).length=(a::r).length - AU (a::r):=List.length_drop
   have ih:=SZ n ((a::r).drop (AU (a::r))) (k - AU (a::r)) (Fi (a::r) x) (Gq (a::r) c) (Gq (a::r) U) (Fi (a::r) y) AC
   have e:Fi (a::r) x - x=Fi (a::r) y - y:=by unfold Fi;split<;>omega
   dsimp only
   omega
theorem XS:∀(n:Nat) (l:List UInt8) (k:Nat) (x c y:Int),l.length<=n->(BZ l k (x,c)).2=(BZ l k (y,c)).2
 |n,[],k,x,c,y,_=>by rw [FM,FM]
 |0,a::r,k,x,c,y,hn=>by simp at hn
 |n+1,a::r,k,x,c,y,hn=>by
  by_cases U:k<AU (a::r)
  .rw [EM U,EM U]
  .rw [EA GT U,EA GT U]
   have h1:=F9 (l:=a::r) GT
   have hd:((a::r).drop (AU (a::r))).length=(a::r).length - AU (a::r):=List.length_drop
   exact XS n _ _ _ _ _ AC
def DD (d:Nat) (l:List UInt8):Option Nat:=
 match l with
 |[]=>none
 |a::r=>
  if (a.toNat:Int)=123/\AE r=45 then (DD (d+1) (r.drop 1)).map (·+2)
  else if (a.toNat:Int)=45/\AE r=125 then (if d<=1 then some 2 else (DD (d - 1) (r.drop 1)).map (·+2))
  else (DD d r).map (·+1)
termination_by l.length
decreasing_by all_goals simp only [List.length_drop,List.length_cons];omega
def E8 (pos:Nat) (o:Option Nat):Int:=match o with
 |none=> -1
 |some n=>(pos+n:Nat)
theorem Nh {o:Option Nat}:E8 pos (o.map (·+k))=E8 (pos+k) o:=by
 cases o with
 |none=>rfl
 |some n=>simp only [E8,Option.map_some];omega
theorem iV (h:¬pos<s.length):E8 pos (DD d (s.drop pos))= -1:=by
 rw [List.drop_eq_nil_iff.2 AC,DD];rfl
theorem dt (U:AE (s.drop pos)=123) (h2:AE (s.drop (pos+1))=45):E8 pos (DD d (s.drop pos))=E8 (pos+2) (DD (d+1) (s.drop (pos+2))):=by
 have hp:pos<s.length:=by
  by_cases hp:pos<s.length
  .exact hp
  .rw [De AC] at U;exact absurd U Do
 rw [List.drop_eq_getElem_cons hp] at U |-
 rw [DD,if_pos ⟨U,h2⟩,Nh,List.drop_drop]
theorem QK (U:AE (s.drop pos)=45) (h2:AE (s.drop (pos+1))=125):E8 pos (DD d (s.drop pos))=if d<=1 then ((pos+2:Nat):Int) else E8 (pos+2) (DD (d - 1) (s.drop (pos+2))):=by
 have hp:pos<s.length:=by
  by_cases hp:pos<s.length
  .exact hp
  .rw [De AC] at U;exact absurd U Do
 rw [List.drop_eq_getElem_cons hp] at U |-
 have U:((s[pos].toNat:Nat):Int)=45:=U
 rw [DD,if_neg (λe=>by omega),if_pos ⟨U,h2⟩]
 by_cases hd:d<=1
 .rw [if_pos hd,if_pos hd];rfl
 .rw [if_neg hd,if_neg hd,Nh,List.drop_drop]
theorem nQ (hp:pos<s.length) (U:¬(AE (s.drop pos)=123/\AE (s.drop (pos+1))=45)) (h2:¬(AE (s.drop pos)=45/\AE (s.drop (pos+1))=125)):E8 pos (DD d (s.drop pos))=E8 (pos+1) (DD d (s.drop (pos+1))):=by
 rw [List.drop_eq_getElem_cons hp] at U h2 |-
 have U:¬(((s[pos].toNat:Nat):Int)=123/\AE (s.drop (pos+1))=45):=U
 have h2:¬(((s[pos].toNat:Nat):Int)=45/\AE (s.drop (pos+1))=125):=h2
 rw [DD,if_neg U,if_neg h2,Nh]
def D4:List UInt8->Nat
 |[]=>0
 |a::r=>if 0<HS (a::r) then 0 else D4 r+1
theorem ai (l:List UInt8):D4 l<=l.length:=by
 induction l with
 |nil=>exact Nat.le_refl _
 |cons a r ih=>unfold D4;split<;>simp only [List.length_cons]<;>omega
theorem mD (h:0<HS (s.drop pos)):D4 (s.drop pos)=0:=by
 cases U:s.drop pos with
 |nil=>rfl
 |cons a r=>rw [U] at h;rw [D4,if_pos h]
theorem mC (U:pos<s.length) (h:¬0<HS (s.drop pos)):D4 (s.drop pos)=D4 (s.drop (pos+1))+1:=by
 rw [List.drop_eq_getElem_cons U] at h |-
 rw [D4,if_neg h]
theorem gB (U:¬pos<s.length):D4 (s.drop pos)=0:=by
 rw [List.drop_eq_nil_iff.2 AC];rfl
theorem dg (s:List UInt8) (U pos:Nat) (h:U<=pos) (hpl:pos<=s.length):∃r,Ds s U pos=(s.take (pos+D4 (s.drop pos))).drop U::r:=by
 fun_induction Ds s U pos with
 |case1 U pos hp hn ih=>rw [mD hn];exact ⟨_,rfl⟩
 |case2 U pos hp hn ih=>
  obtain ⟨r,e⟩:=ih AC AC
  rw [mC hp hn]
  exact ⟨r,by rw [e,show pos+1+D4 (s.drop (pos+1))=pos+(D4 (s.drop (pos+1))+1) by omega]⟩
 |case3 U pos hp=>
  rw [gB hp,List.take_of_length_le AC];exact ⟨[],rfl⟩
def HQ (l:List UInt8):Nat:=
 let n:=BQ (λc=>Ax c==5) l
 if 2<=n/\(l.take n).all (λb=>b==45)=true then n+D4 (l.drop n) else 0
def Fg (l:List UInt8):Int:=
 if AE l=123/\AE (l.drop 1)=45 then E8 2 (DD 1 (l.drop 2))
 else if AE l=45 then (HQ l:Nat) else 0
def Cw (s:List UInt8) (pos:Nat):Int×Int:=
 if Fg (s.drop pos)<0 then (0,60) else if Fg (s.drop pos)=0 then (0,0) else (pos+Fg (s.drop pos),0)
theorem iU (d:Nat) (l:List UInt8) (n:Nat) (h:DD d l=some n):n<=l.length:=by
 fun_induction DD d l generalizing n with
 |case1=>cases h
 |case2 d a r hc ih=>
  obtain ⟨m,hm,rfl⟩:=Option.map_eq_some_iff.1 h
  have:=ih m hm
  have hr:r≠[]:=λe=>by rw [e] at hc;exact absurd hc.2 Do
  have:=List.length_pos_iff.2 hr
  simp only [List.length_drop,List.length_cons] at *;omega
 |case3 d a r hc U hd=>
  have hr:r≠[]:=λe=>by rw [e] at U;exact absurd U.2 Do
  have:=List.length_pos_iff.2 hr
  injection h with h
  simp only [List.length_cons] at *;omega
 |case4 d a r hc U hd ih=>
  obtain ⟨m,hm,rfl⟩:=Option.map_eq_some_iff.1 h
  have:=ih m hm
  have hr:r≠[]:=λe=>by rw [e] at U;exact absurd U.2 Do
  have:=List.length_pos_iff.2 hr
  simp only [List.length_drop,List.length_cons] at *;omega
 |case5 d a r hc U ih=>
  obtain ⟨m,hm,rfl⟩:=Option.map_eq_some_iff.1 h
  have:=ih m hm
  simp only [List.length_cons] at *;omega
theorem dM (l:List UInt8):HQ l<=l.length:=by
 have h1:=Ew (λc=>Ax c==5) l
 have U:=ai (l.drop (BQ (λc=>Ax c==5) l))
 rw [List.length_drop] at U
 unfold HQ
 dsimp only
 split<;>omega
theorem jd (l:List UInt8):Fg l<=l.length:=by
 have h1:=dM l
 unfold Fg
 split
 .rename_i U
  cases h:DD 1 (l.drop 2) with
  |none=>simp only [E8];omega
  |some n=>
   have:=iU _ _ _ h
   have hr:l.drop 1≠[]:=λe=>by rw [e] at U;exact absurd U.2 Do
   have:=List.length_pos_iff.2 hr
   simp only [List.length_drop,E8] at *;omega
 .split<;>omega
def EL (c:Int):Option Int:=
 if c=92\/c=34\/c=39 then some c
 else if c=97 then some 7 else if c=98 then some 8 else if c=116 then some 9 else if c=110 then some 10
 else if c=118 then some 11 else if c=102 then some 12 else if c=114 then some 13 else none
def Ez (base:Int):Int->List UInt8->Int
 |v,[]=>v
 |v,a::r=>if Bo ((a.toNat:Nat):Int) base<0 then v else Ez base (min (v*base+Bo ((a.toNat:Nat):Int) base) 1114112) r
def Hb (base:Int) (l:List UInt8):Option (Int×Nat):=if Bt base l=0\/1114111<Ez base 0 l then none else some (Ez base 0 l,Bt base l)
def CN:List (List UInt8):=[[78,85,76],[83,79,72],[83,84,88],[69,84,88],[69,79,84],[69,78,81],[65,67,75],[66,69,76],[66,83],[72,84],[76,70],[86,84],[70,70],[67,82],[83,79],[83,73],[68,76,69],[68,67,49],[68,67,50],[68,67,51],[68,67,52],[78,65,75],[83,89,78],[69,84,66],[67,65,78],[69,77],[83,85,66],[69,83,67],[70,83],[71,83],[82,83],[85,83],[83,80],[68,69,76]]
def JH (l:List UInt8):List (List UInt8)->Nat->Nat×Nat->Nat×Nat
 |[],_,p=>p
 |w::U,i,p=>JH l U (i+1) (if p.2<w.length/\w.isPrefixOf l=true then (i,w.length) else p)
def Ha (l:List UInt8):Int×Nat:=(if (JH l CN 0 (0,0)).1=33 then 127 else (JH l CN 0 (0,0)).1,(JH l CN 0 (0,0)).2)
def Dq (text:Bool) (l:List UInt8):Option (Int×Nat):=
 match EL (AE (l.drop 1)) with
 |some v=>some (v,2)
 |none=>
  if AE (l.drop 1)=38/\text=true then some (-1,2)
  else if AE (l.drop 1)=94/\64<=AE (l.drop 2)/\AE (l.drop 2)<=95 then some (AE (l.drop 2) - 64,3)
  else if AE (l.drop 1)=111 then (Hb 8 (l.drop 2)).map λp=>(p.1,2+p.2)
  else if AE (l.drop 1)=120 then (Hb 16 (l.drop 2)).map λp=>(p.1,2+p.2)
  else if 48<=AE (l.drop 1)/\AE (l.drop 1)<=57 then (Hb 10 (l.drop 1)).map λp=>(p.1,1+p.2)
  else if 0<(Ha (l.drop 1)).2 then some ((Ha (l.drop 1)).1,1+(Ha (l.drop 1)).2) else none
def Ch (l:List UInt8):Nat:=
 if AE l=92/\BQ (λc=>Ax c==1) (l.drop 1)≠0/\AE (l.drop (1+BQ (λc=>Ax c==1) (l.drop 1)))=92 then BQ (λc=>Ax c==1) (l.drop 1)+2 else 0
def LB (d:Nat×Nat):Bool:=Ax (d.1:Nat)==0||(Ax (d.1:Nat)==1&& !(d.1==32))||(d.1==65533&&d.2==1)
def Di (text:Bool) (l:List UInt8):Sum Int (Int×Nat):=
 match l with
 |[]=>.inl 50
 |a::r=>
  if AE (a::r)=92 then
   if text=true/\0<Ch (a::r) then .inr (-1,Ch (a::r))
   else match Dq text (a::r) with
    |none=>.inl 51
    |some p=>.inr p
  else if LB (AR (a::r)) then .inl 50 else .inr (((AR (a::r)).1:Nat),(AR (a::r)).2)
theorem XO (base v:Int) (l:List UInt8) (h0:1<=base) (U:0<=v) (hm:v<=1114112):0<=Ez base v l/\Ez base v l<=1114112:=by
 induction l generalizing v with
 |nil=>exact ⟨U,hm⟩
 |cons a r ih=>
  unfold Ez
  split
  .omega
  .rename_i hd
   have:0<=v*base:=Int.mul_nonneg U AC
   grind
theorem Ub (l:List UInt8):∀(U:List (List UInt8)) (i:Nat) (p:Nat×Nat),p.2<=l.length->(JH l U i p).2<=l.length
 |[],_,p,h=>h
 |w::U,i,p,h=>by
  unfold JH
  refine Ub l U _ _ ?_
  grind
theorem iL (l:List UInt8) (h:¬(65<=AE l/\AE l<=90)):∀(U:List (List UInt8)) (i:Nat) (p:Nat×Nat),(∀w ∈ U,65<=AE w/\AE w<=90)->JH l U i p=p
 |[],_,p,_=>rfl
 |w::U,i,p,hw=>by
  unfold JH
  rw [if_neg,iL l h U _ _ (λx hx=>hw x (List.mem_cons_of_mem _ hx))]
  rintro ⟨_,hc⟩
  have h1:=hw w List.mem_cons_self
  obtain ⟨t,rfl⟩:=List.isPrefixOf_iff_prefix.1 hc
  cases w with
  |nil=>simp_all
  |cons a w=>exact h h1
theorem iP:∀w ∈ CN,65<=AE w/\AE w<=90:=by
 have h:CN.all (λw=>decide (65<=AE w)&&decide (AE w<=90))=true:=GE
 simp_all
theorem QG (h:¬(65<=AE l/\AE l<=90)):Ha l=(0,0):=by
 have e:=iL l h CN 0 (0,0) iP
 have key:∀p:Nat×Nat,p=(0,0)->((if p.1=33 then 127 else (p.1:Int),p.2):Int×Nat)=(0,0):=λp U=>by simp_all
 exact key _ e
theorem au (l:List UInt8):Ch l<=l.length:=by
 unfold Ch
 split
 .rename_i h
  have U:=Ew (λc=>Ax c==1) (l.drop 1)
  rw [List.length_drop] at U
  have h2:l.drop (1+BQ (λc=>Ax c==1) (l.drop 1))≠[]:=λe=>by rw [e] at h;exact absurd h.2.2 Do
  grind
 omega
theorem MK (h:EL c=some v):0<=c/\0<=v:=by
 unfold EL at h
 grind
theorem OZ (h:Hb base l=some p):1<=p.2/\p.2<=l.length:=by
 unfold Hb at h
 split at h
 .cases h
 .injection h with h
  subst h
  exact ⟨AC,Ec base l⟩
theorem Tz {text:Bool} (h:Dq text l=some p):1<=p.2/\p.2<=l.length:=by
 unfold Dq at h
 split at h
 .rename_i v hs
  have:=BS (l:=l) (k:=1) (MK hs).1
  grind
 .rename_i hs
  have e1:∀k,0<=AE (l.drop k)->k<l.length:=λk=>BS
  have e2:=e1 1
  have e3:=e1 2
  repeat' split at h
  .grind
  .grind
  .obtain ⟨q,U,rfl⟩:=Option.map_eq_some_iff.1 h
   have:=OZ U
   grind
  .obtain ⟨q,U,rfl⟩:=Option.map_eq_some_iff.1 h
   have:=OZ U
   grind
  .obtain ⟨q,U,rfl⟩:=Option.map_eq_some_iff.1 h
   have:=OZ U
   grind
  .injection h with h;subst h
   have:=Ub (l.drop 1) CN 0 (0,0) (Nat.zero_le _)
   rw [List.length_drop] at this
   have h7:(Ha (l.drop 1)).2=(JH (l.drop 1) CN 0 (0,0)).2:=by simp only [Ha]
   omega
  grind
theorem ED {text:Bool} (h:Di text l=.inr p):1<=p.2/\p.2<=l.length:=by
 unfold Di at h
 split at h
 .cases h
 .rename_i a r
  have h1:=FX (a::r)
  have h2:=Hj (l:=a::r) GT
  have h3:=au (a::r)
  split at h
  .split at h
   .grind
   .split at h
    .cases h
    .rename_i q U
     injection h with h;subst h;exact Tz U
  grind
def C6 (l:List UInt8):Sum (Nat×Int) Nat:=
 if AE l=34 then .inr 1
 else match h:Di true l with
  | .inl e=>.inl (0,e)
  | .inr p=>match C6 (l.drop p.2) with
    | .inl q=>.inl (q.1+p.2,q.2)
    | .inr n=>.inr (n+p.2)
termination_by l.length
decreasing_by
 have:=ED h
 grind
def Jk (l:List UInt8):List Int:=
 if AE l=34 then []
 else match h:Di true l with
  | .inl e=>[]
  | .inr p=>if p.1= -1 then Jk (l.drop p.2) else p.1::Jk (l.drop p.2)
termination_by l.length
decreasing_by
 all_goals
  have:=ED h
  rw [List.length_drop];omega
def Ga (pos:Nat) (l:List UInt8):List (Nat×Nat):=
 if AE l=34 then []
 else match h:Di true l with
  | .inl e=>[]
  | .inr p=>if 0<Ch l then (pos,pos+p.2)::Ga (pos+p.2) (l.drop p.2) else Ga (pos+p.2) (l.drop p.2)
termination_by l.length
decreasing_by
 all_goals
  have:=ED h
  rw [List.length_drop];omega
def Ep (l:List UInt8):Sum (Nat×Int) Nat:=
 if AE l=39 then .inl (0,50)
 else match Di false l with
  | .inl e=>.inl (0,e)
  | .inr p=>if AE (l.drop p.2)=39 then .inr (p.2+1) else .inl (p.2,50)
def Bs (s:List UInt8) (pos:Nat):Int×Int×Int:=
 if AE (s.drop pos)=34 then match C6 (s.drop (pos+1)) with
  | .inl q=>(0,(pos+1+q.1:Nat),q.2)
  | .inr n=>(14,(pos+1+n:Nat),0)
 else if AE (s.drop pos)=39 then match Ep (s.drop (pos+1)) with
  | .inl q=>(0,(pos+1+q.1:Nat),q.2)
  | .inr n=>(13,(pos+1+n:Nat),0)
 else (0,0,0)
theorem BT.add {i j:Nat} (h:BT l i) (k:BT (l.drop i) j):BT l (i+j):=by
 induction h with
 |zero l=>simp_all
 |step U h ih=>
  rw [Nat.add_assoc]
  refine .step U (ih ?_)
  simp_all
theorem BT.bd (h:BT l k):Bd l k:=by
 induction h with
 |zero l=>exact .zero l
 |@step l k U h ih=>
  rcases FD l with ⟨e,h1⟩|⟨e,h1,h2⟩|⟨e,h1,h2⟩
  .have es:AU l=(AR l).2:=by unfold AU;rw [if_neg AC]
   rw [es] at ih |-;exact .step U ih
  .have ed:=FR (l:=l) AC AC
   have es:AU l=(AR l).2:=by unfold AU;rw [if_pos AC,e,ed.1]
   rw [es] at ih |-;exact .step U ih
  .have ed:=FR (l:=l) AC AC
   have ed':=FR (l:=l.drop 1) AC AC
   have es:AU l=2:=by unfold AU;rw [if_pos AC,e]
   have hne':l.drop 1≠[]:=λe=>by rw [e] at h2;exact absurd h2 Do
   rw [es] at ih |-
   have b1:Bd (l.drop 1) (1+k):=by
    have:=Bd.step hne' (k:=k) kw
    rwa [ed'.1] at this
   have:=Bd.step U (k:=1+k) kw
   grind
theorem BT.one (U:0<=AE l) (h1:AE l<128) (h:¬(AE l=13\/AE l=10\/AE l=12)):BT l 1:=by
 have hne:l≠[]:=λe=>by rw [e] at U;exact absurd U Do
 have ed:=FR U h1
 have es:AU l=1:=by
  rcases FD l with ⟨e,_⟩|⟨_,h2,_⟩|⟨_,h2,_⟩
  .unfold AU;simp_all
  .omega
  .omega
 have:=BT.step hne (.zero (l.drop (AU l)))
 simp_all
theorem BT.span {p:Nat×Nat->Bool} (hp:∀d,p d=true->d.1≠10/\d.1≠12/\d.1≠13) (l:List UInt8):BT l (Cd p l):=by
 fun_induction Cd p l with
 |case1=>exact .zero _
 |case2 a r U ih=>
  have h1:=hp _ U
  have es:AU (a::r)=(AR (a::r)).2:=by
   unfold AU
   rw [if_neg]
   rcases FD (a::r) with ⟨e,_⟩|⟨_,h2,_⟩|⟨_,h2,_⟩
   .omega
   .have:=FR (l:=a::r) AC AC;omega
   .have:=FR (l:=a::r) AC AC;omega
  have:=BT.step (l:=a::r) (k:=Cd p ((a::r).drop (AR (a::r)).2)) GT kw
  simp_all
 |case3 a r U=>exact .zero _
theorem fQ {k:Int} (h:Ax c=k) (U:k≠1):c≠10/\c≠12/\c≠13:=by
 refine ⟨?_,?_,?_⟩<;>(rintro rfl;exact U (h.symm.trans Do))
theorem BT.kind {k:Int} (hk:k≠1) (l:List UInt8):BT l (BQ (λc=>Ax c==k) l):=by
 refine BT.span (λd U=>?_) l
 have:=fQ (beq_iff_eq.1 U) hk
 omega
theorem BT.name (l:List UInt8):BT l (KL l):=by
 refine BT.span (λd U=>?_) l
 have U:HK ((d.1:Nat):Int)=true:=U
 refine ⟨?_,?_,?_⟩<;>(intro e;rw [e] at U;revert U;decide)
theorem fY {a:UInt8} (h:¬Bo ((a.toNat:Nat):Int) base<0):48<=a.toNat/\a.toNat<128:=by
 unfold Bo at h
 grind
theorem BT.row (base:Int) (l:List UInt8):BT l (Bt base l):=by
 induction l with
 |nil=>exact .zero _
 |cons a r ih=>
  unfold Bt
  split
  .exact .zero _
  .rename_i h
   have:=fY h
   rw [Nat.add_comm]
   exact BT.add (BT.one (l:=a::r) (show (0:Int)<=((a.toNat:Nat):Int) by omega) (show ((a.toNat:Nat):Int)<128 by omega) (show ¬(((a.toNat:Nat):Int)=13\/((a.toNat:Nat):Int)=10\/((a.toNat:Nat):Int)=12) by omega)) ih
theorem BT.tZ (l:List UInt8):BT l (H4 l):=by
 unfold H4
 split
 .exact BT.add (BT.one AC AC AC) (BT.row _ _)
 .exact .zero _
theorem BT.sign (l:List UInt8):BT l (KN l):=by
 unfold KN
 split
 .exact BT.one AC AC AC
 .exact .zero _
theorem BT.exp (l:List UInt8):BT l (L3 l):=by
 unfold L3
 split
 .rw [Nat.add_assoc]
  refine BT.add (BT.one AC AC AC) (BT.add (BT.sign _) ?_)
  rw [List.drop_drop]
  exact BT.row _ _
 .exact .zero _
theorem BT.num (l:List UInt8):BT l (Ei l).2:=by
 unfold Ei
 split
 .rename_i h
  unfold Cs at h
  split at h
  .rename_i hc
   have hb:=hc.2.1
   unfold Ee at hb
   have h1:65<=AE (l.drop 1)/\AE (l.drop 1)<128:=by
    split at hb
    .omega
    .omega
   have U:BT l 2:=BT.add (i:=1) (j:=1) (BT.one AC AC AC) (BT.one AC AC AC)
   exact BT.add U (BT.row _ _)
  omega
 .split
  .exact .zero _
  .refine BT.add (BT.add (BT.row _ _) (BT.tZ _)) (BT.exp _)
theorem mc (h:Ax c=6):32<c/\c<128:=by
 unfold Ax at h
 split at h
 .omega
 .split at h
  .omega
  .split at h
   .omega
   .split at h
    .omega
    .split at h
     .unfold F7 at h
      omega
     .unfold J0 at h
      omega
theorem mI (h:GV l=6):32<AE l/\AE l<128:=by
 cases l with
 |nil=>exact absurd h Do
 |cons a r=>
  have h:Ax ((AR (a::r)).1:Nat)=6:=h
  have U:=mc h
  by_cases ha:a.toNat<128
  .rw [J6 ha] at U
   exact U
  .have:=OR (r:=r) ha
   omega
theorem BT.plain (l:List UInt8):BT l (Be l).2:=by
 unfold Be
 split
 .rename_i h
  have:=mI h
  exact BT.one AC AC AC
 .split
  .exact BT.kind Do l
  .split
   .exact BT.name l
   .split
    .exact BT.name l
    .exact .zero _
theorem BT.scan (s:List UInt8) (n:Nat) (k:Int) (h:BT s n):BT s (Hz s n k).2:=by
 fun_induction Hz s n k with
 |case1 n k hn U ih=>
  have hd:AE (s.drop n)=46:=U.2.1
  have c1:=BT.one (l:=s.drop n) AC AC AC
  exact ih (BT.add (BT.add h c1) (BT.plain _))
 |case2 n k hn U=>exact h
 |case3 n k hn=>exact h
theorem BT.word (l:List UInt8):BT l (D3 l).2:=BT.scan l _ _ (BT.plain l)
theorem Vd.end (h:Vd l):Bd l l.length:=by
 have:=Bd.span DV l
 rwa [show Cd DV l=l.length from h] at this
theorem BT.behind (hv:Vd l) (h0:0<AE (l.drop k)) (h:AE (l.drop k)<128) (hn:AE (l.drop k)≠13):BT l (k+1):=by
 have hk:=BS (l:=l) (k:=k) AC
 have U:=List.getElem?_eq_getElem hk
 have e:=Ck U
 refine ((Bd.pq hv U AC).2).cut (λhc=>hn ?_)
 simp_all
theorem Y2 (d:Nat) (l:List UInt8) (n:Nat) (h:DD d l=some n):2<=n/\AE (l.drop (n - 1))=125:=by
 fun_induction DD d l generalizing n with
 |case1=>cases h
 |case2 d a r hc ih=>
  obtain ⟨m,U,rfl⟩:=Option.map_eq_some_iff.1 h
  have:=ih m U
  refine ⟨AC,?_⟩
  rw [show m+2 - 1=(m - 1)+1+1 by omega,List.drop_succ_cons]
  simp_all
 |case3 d a r hc hk hd=>
  injection h with h
  subst h
  simp_all
 |case4 d a r hc hk hd ih=>
  obtain ⟨m,U,rfl⟩:=Option.map_eq_some_iff.1 h
  have:=ih m U
  refine ⟨AC,?_⟩
  rw [show m+2 - 1=(m - 1)+1+1 by omega,List.drop_succ_cons]
  simp_all
 |case5 d a r hc hk ih=>
  obtain ⟨m,U,rfl⟩:=Option.map_eq_some_iff.1 h
  have:=ih m U
  refine ⟨AC,?_⟩
  rw [show m+1 - 1=(m - 1)+1 by omega,List.drop_succ_cons]
  omega
theorem BT.uK (hv:Vd l):BT l (D4 l):=by
 have hb:Bd l (D4 l)/\¬(0<D4 l/\AE (l.drop (D4 l - 1))=13/\AE (l.drop (D4 l))=10):=by
  have key:∀l:List UInt8,(D4 l=l.length\/∃b,l[D4 l]? =some b/\b.toNat<128)/\¬(0<D4 l/\AE (l.drop (D4 l - 1))=13):=by
   intro l
   induction l with
   |nil=>exact ⟨.inl rfl,λh=>absurd h.1 Do⟩
   |cons a r ih=>
    by_cases hn:0<HS (a::r)
    .rw [D4,if_pos hn]
     refine ⟨.inr ⟨a,rfl,?_⟩,λh=>absurd h.1 Do⟩
     rcases FD (a::r) with ⟨e,_⟩|⟨_,U,_⟩|⟨_,U,_⟩
     .omega
     .simp only [AE] at U;omega
     .simp only [AE] at U;omega
    .rw [D4,if_neg hn]
     refine ⟨?_,?_⟩
     .simp_all
     .rintro ⟨_,h⟩
      by_cases h0:0<D4 r
      .refine ih.2 ⟨h0,?_⟩
       rwa [show D4 r+1 - 1=(D4 r - 1)+1 by omega,List.drop_succ_cons] at h
      .rw [show D4 r+1 - 1=0 by omega,List.drop_zero] at h
       rcases FD (a::r) with ⟨_,e⟩|⟨e,_⟩|⟨e,_⟩
       .omega
       .omega
       .omega
  refine ⟨?_,λh=>(key l).2 ⟨h.1,h.2.1⟩⟩
  rcases (key l).1 with h|⟨b,h1,U⟩
  .rw [h];exact hv.end
  .exact (Bd.pq hv h1 U).1
 exact hb.1.cut hb.2
theorem BT.note (U:Vd l) (h:Fg l=n):BT l n:=by
 unfold Fg at h
 split at h
 .rename_i hc
  cases hn:DD 1 (l.drop 2) with
  |none=>rw [hn] at h;simp only [E8] at h;omega
  |some m=>
   rw [hn] at h
   simp only [E8] at h
   have:=Y2 _ _ _ hn
   rw [List.drop_drop] at this
   have e:n=(2+(m - 1))+1:=AC
   rw [e]
   exact BT.behind U AC AC AC
 .split at h
  .have e:n=HQ l:=AC
   rw [e]
   unfold HQ
   dsimp only
   split
   .exact BT.add (BT.kind Do l) (BT.uK ((Bd.span _ l).vd U))
   .exact .zero _
  .have e:n=0:=AC
   rw [e];exact .zero _
theorem ZB (l:List UInt8) (n:Nat) (h:C6 l=.inr n):1<=n/\AE (l.drop (n - 1))=34:=by
 fun_induction C6 l generalizing n with
 |case1 l U=>simp_all
 |case2 l U e he=>cases h
 |case3 l U p hp q hq ih=>cases h
 |case4 l U p hp m hm ih=>
  injection h with h
  subst h
  have:=ih m hm
  refine ⟨AC,?_⟩
  have h2:=this.2
  rwa [List.drop_drop,show p.2+(m - 1)=m+p.2 - 1 by omega] at h2
theorem BT.quote {p:Nat} (hv:Vd (s.drop p)) (h:(Bs s p).1≠0):∃n,(Bs s p).2.1=(p+n:Nat)/\2<=n/\BT (s.drop p) n:=by
 unfold Bs at h |-
 split
 .rename_i hq
  rw [if_pos hq] at h
  cases U:C6 (s.drop (p+1)) with
  |inl q=>simp_all
  |inr n=>
   have:=ZB _ _ U
   refine ⟨n+1,by grind,AC,?_⟩
   have h2:=this.2
   rw [show s.drop (p+1)=(s.drop p).drop 1 by simp_all,List.drop_drop,show 1+(n - 1)=n by omega] at h2
   exact BT.behind hv AC AC AC
 .rename_i hq
  rw [if_neg hq] at h
  split
  .rename_i hq'
   rw [if_pos hq'] at h
   cases U:Ep (s.drop (p+1)) with
   |inl q=>simp_all
   |inr n=>
    have:1<=n/\AE ((s.drop (p+1)).drop (n - 1))=39:=by
     unfold Ep at U
     split at U
     .cases U
     .grind
    refine ⟨n+1,by grind,AC,?_⟩
    have h2:=this.2
    rw [show s.drop (p+1)=(s.drop p).drop 1 by simp_all,List.drop_drop,show 1+(n - 1)=n by omega] at h2
    exact BT.behind hv AC AC AC
  simp_all
theorem XA (l:List (List UInt8)):(strs l).length=l.length:=by simp [strs]
theorem Ta {l:List (List UInt8)} {K:List V->Prop} (h:l[i.toNat]? =some x) (U:0<=i) (k:K [V.str x]):0<=i/\∃e,(strs l)[i.toNat]? =some e/\K e:=
 ⟨U,[V.str x],by simp [strs,h],k⟩
theorem Ml {l:List (List UInt8)} {K:Nat->Prop} (k:l.length<4611686018427387904->K l.length):∀m,m=(strs l).length->m<C9->K m:=λm U h=>by
 rw [XA] at U;subst U;exact k h
theorem KF {p:UInt8->Bool}:∀(l:List UInt8),(l.dropWhile p).all p=true->l.all p=true
 |[],_=>rfl
 |a::r,h=>by
  rw [List.dropWhile_cons] at h
  by_cases U:p a=true
  .rw [if_pos U] at h;rw [List.all_cons,U,Bool.true_and];exact KF r h
  simp_all
theorem dropWhile_nil {p:UInt8->Bool}:∀(l:List UInt8),l.dropWhile p=[]↔l.all p=true
 |[]=>by simp
 |a::r=>by
  rw [List.dropWhile_cons,List.all_cons]
  by_cases U:p a=true
  .rw [if_pos U,U,Bool.true_and];exact dropWhile_nil r
  simp_all
theorem SV (l:List UInt8):Lib.trimB l 45=[]↔l.all (λb=>b==45)=true:=by
 unfold Lib.trimB Lib.trimLeftB Lib.trimRightB
 rw [dropWhile_nil,List.all_reverse]
 refine ⟨λh=>?_,λh=>?_⟩
 .have:=KF _ h
  grind
 .have:l.reverse.dropWhile (λb=>b==45)=[]:=(dropWhile_nil _).2 (by grind)
  simp_all
theorem tG (a b:UInt8) (l:List UInt8):[a,b].isPrefixOf l=decide (AE l=(a.toNat:Nat)/\AE (l.drop 1)=(b.toNat:Nat)):=by
 rcases l with _|⟨x,_|⟨y,r⟩⟩
 .rfl
 .show (a==x&&false)=_
  rw [Bool.and_false]
  refine (decide_eq_false λe=>?_).symm
  have h:(-1:Int)=(b.toNat:Nat):=e.2;omega
 .show (a==x&&(b==y&&true))=decide (((x.toNat:Nat):Int)=(a.toNat:Nat)/\((y.toNat:Nat):Int)=(b.toNat:Nat))
  rw [Bool.and_true,Bool.eq_iff_iff,Bool.and_eq_true,beq_iff_eq,beq_iff_eq,decide_eq_true_iff]
  exact ⟨λe=>by simp_all,λe=>⟨UInt8.toNat_inj.1 AC,UInt8.toNat_inj.1 AC⟩⟩
theorem Zp {w:(AD->Env->St->Prop)->Env->St->Prop} {U:Nat->Option ((AD->Env->St->Prop)->Env->St->Prop)} {env:Env} {st:St}
 (h:w (aA (λl env' st'=>∃y:Empty,(λe:Empty=>(e.elim:Nat)) y=l/\(λ_:Empty=>True) y/\((λe:Empty=>(e.elim:Env)) y).Ek env'/\St.le ((λe:Empty=>(e.elim:St)) y) st') Q) env st):O4 w U Q env st:=
 ⟨Empty,λe=>e.elim,λe=>e.elim,λe=>e.elim,λ_=>True,λe=>e.elim,h,λx=>x.elim⟩
theorem qN {r r':At} {st st':St} (hle:St.le st st') (h:R r st) (e:r=r'):∃r2 U,(r2=r'\/r2=r'.wk)/\St.le U st'/\R r2 U:=⟨r,st,.inl e,hle,h⟩
end Go.Aw
namespace Go.Proofs.Z
open Go Go.Aw
section
variable {st:St} {R:At->St->Prop}
theorem sf {i:Nat} {k:Int} (U:s.length<=100000000) (hi:i<=s.length) (h:R (.ret (.int .i64 (i+BQ (λc=>Ax c==k) (s.drop i):Nat))) st):PC 206 [.str s,.int .i64 i,.int .i64 k] st R:=
 se AC (by rw [I8 AC AC,show (i:Int).toNat=i by omega];exact h)
theorem Uj (e:i.toNat=n) (h:R (.ret (.bool (decide (AE (s.drop n)=123/\AE (s.drop (n+1))=45)))) st):PC 73 [.str (s.drop i.toNat),.str [123,45]] st R:=by
 refine Il ?_
 rw [tG,e,List.drop_drop]
 exact h
theorem mf (e:i.toNat=n) (h:R (.ret (.bool (decide (AE (s.drop n)=45/\AE (s.drop (n+1))=125)))) st):PC 73 [.str (s.drop i.toNat),.str [45,125]] st R:=by
 refine Il ?_
 rw [tG,e,List.drop_drop]
 exact h
theorem iW (hl:s.length<=100000000) (hs:AE s=123/\AE (s.drop 1)=45) (h:R (.ret (.int .i64 (E8 2 (DD 1 (s.drop 2))))) st):PC 74 [.str s] st R:=by
 have hs0:AE (s.drop 0)=123:=hs.1
 refine pB Tryz.func74 ?_
 repeat' ((conv=>whnf);first|(refine Br ?_;intros)|(refine BR ?_ ?_<;>intro _)|refine Zp ?_)
 refine K7 (α:=Nat) (β:=Nat) (λpos d=>[(3,.int .i64 (d:Int)),(4,.int .i64 (pos:Int))]) (λ_ _=>[]) [0] [] (λ_ _=>st)
  (λpos d=>pos<=s.length/\d<=pos/\((pos=0/\d=0)\/(1<=d/\2<=pos/\E8 2 (DD 1 (s.drop 2))=E8 pos (DD d (s.drop pos))))) (λpos _=>s.length - pos) 0 0 ⟨Nat.zero_le _,Nat.le_refl _,.inl ⟨rfl,rfl⟩⟩ Yl (St.le_refl _) ?_
 rintro pos d ⟨h1,h2,h3⟩
 have q1:=λh=>BS (l:=s) (k:=pos+1) h
 rcases h3 with ⟨rfl,rfl⟩|⟨h3,h4,h5⟩
 .have hs1:AE (s.drop (0+1))=45:=hs.2
  repeat' ((conv=>whnf);first|(refine Br ?_;intros)|(refine BR ?_ ?_<;>intro _)|refine Uj (n:=0) AC ?_)
  .conv=>whnf
   exact ⟨(2,1),⟨AC,AC,.inr ⟨Nat.le_refl _,Nat.le_refl _,rfl⟩⟩,AC,Yl,St.le_refl _⟩
 repeat' ((conv=>whnf);first|(refine Br ?_;intros)|(refine BR ?_ ?_<;>intro _)|refine Uj (n:=pos) AC ?_|refine mf (n:=pos) AC ?_)
 .have k:AE (s.drop pos)=123/\AE (s.drop (pos+1))=45:=FS
  conv=>whnf
  exact ⟨(pos+2,d+1),⟨AC,AC,.inr ⟨AC,AC,h5.trans (dt k.1 k.2)⟩⟩,AC,Yl,St.le_refl _⟩
 .have k:AE (s.drop pos)=45/\AE (s.drop (pos+1))=125:=FS
  have e:=QK (d:=d) k.1 k.2
  rw [if_pos AC] at e
  exact fin h (Bq AC)
 .have k:AE (s.drop pos)=45/\AE (s.drop (pos+1))=125:=FS
  have e:=QK (d:=d) k.1 k.2
  rw [if_neg AC] at e
  obtain ⟨U,rfl⟩:∃U,d=U+1:=⟨d - 1,AC⟩
  rw [Nat.add_sub_cancel] at e
  have e2:((U+1:Nat):Int) - 1=(U:Int):=AC
  refine ⟨(pos+2,U),⟨AC,AC,.inr ⟨AC,AC,h5.trans e⟩⟩,AC,?_,St.le_refl _⟩
  rw [<-e2]
  exact Yl
 .conv=>whnf
  exact ⟨(pos+1,d),⟨AC,AC,.inr ⟨AC,AC,h5.trans (nQ AC AC AC)⟩⟩,AC,Yl,St.le_refl _⟩
 .exact fin h (Bq (by rw [h5,iV AC]))
theorem rE (hl:s.length<=100000000) (h:R (.ret (.int .i64 (HQ s:Nat))) st):PC 75 [.str s] st R:=by
 have hr:=Ew (λc=>Ax c==5) s
 generalize hn:BQ (λc=>Ax c==5) s=n at hr
 have hrun:∀{R:At->St->Prop},R (.ret (.int .i64 (n:Nat))) st->PC 72 [.str s,.int .i64 0,.int .i64 5] st R:=λh=>p8 AC kw
 obtain ⟨rest,hg⟩:=dg (s.drop n) 0 0 (Nat.le_refl _) (Nat.zero_le _)
 rw [List.drop_zero,List.drop_zero,Nat.zero_add] at hg
 have U:∀{R:At->St->Prop},(∀own:AA,own.Bw st->R (.ret (.slice 1 (strs (((s.drop n).take (D4 (s.drop n)))::rest)) own)) (own.st st (((s.drop n).take (D4 (s.drop n)))::rest).length))->PC 120 [.str (s.drop (n:Int).toNat)] st R:=
  λh=>aI (by grind) kw
 refine pB Tryz.func75 ?_
 have hel:=ai (s.drop n)
 have hlt:((s.drop n).take (D4 (s.drop n))).length=D4 (s.drop n):=Nm
 rw [List.length_drop] at hel
 have hrl:HQ s=if 2<=n/\(s.take n).all (λb=>b==45)=true then n+D4 (s.drop n) else 0:=by unfold HQ;rw [hn]
 repeat' ((conv=>whnf);first|(refine Br ?_;intros)|(refine BR ?_ ?_<;>intro _)|refine hrun ?_|refine sx Do ?_|refine U (λown ho=>?_)|refine Ta (l:=((s.drop n).take (D4 (s.drop n)))::rest) rfl AC ?_)
 .rw [if_neg AC] at hrl
  exact fin h (Bq AC)
 .have ht:=(SV (s.take n)).1 (by grind)
  rw [if_pos ⟨AC,ht⟩] at hrl
  exact qN (AA.Bi AC) h (Bq AC)
 .have ht:¬(s.take n).all (λb=>b==45)=true:=λe=>absurd ((SV (s.take n)).2 e) (by grind)
  rw [if_neg (λe=>ht e.2)] at hrl
  exact fin h (Bq AC)
theorem SB (h:Fg (s.drop pos)<0):Cw s pos=(0,60):=if_pos h
theorem aQ (h:Fg (s.drop pos)=0):Cw s pos=(0,0):=by unfold Cw;simp_all
theorem dv {n:Int} (h:Fg (s.drop pos)=n) (U:0<n) (e:i=pos+n):Cw s pos=(i,0):=by unfold Cw;grind
theorem Mt {n:Int} (h:Fg (s.drop pos)=n) (U:0<n) (e:i=pos+n):At.ret (.Bj [.int .i64 (Cw s pos).1,.int .i64 (Cw s pos).2])=At.ret (.Bj [.int .i64 i,.int .i64 0]):=by rw [dv h U e]
theorem nX (hl:s.length<=100000000) (hp:pos<s.length) (h:R (.ret (.Bj [.int .i64 (Cw s pos).1,.int .i64 (Cw s pos).2])) st):PC 48 [.str s,.int .i64 pos] st R:=by
 have hle:=jd (s.drop pos)
 rw [List.length_drop] at hle
 have U:(s.drop pos).length<=100000000:=IR
 have d1:(s.drop pos).drop 1=s.drop (pos+1):=List.drop_drop
 obtain ⟨e,he⟩:∃e,s[pos]? =some e:=⟨s[pos],List.getElem?_eq_getElem hp⟩
 have he':s[(pos:Int).toNat]? =some e:=he
 have hh:=Ck he
 refine pB Tryz.func48 ?_
 by_cases hk:AE (s.drop pos)=123/\AE (s.drop (pos+1))=45
 .have hN:Fg (s.drop pos)=E8 2 (DD 1 ((s.drop pos).drop 2)):=if_pos ⟨hk.1,kw⟩
  have hc:∀{R:At->St->Prop},R (.ret (.int .i64 (Fg (s.drop pos)))) st->PC 74 [.str (s.drop (pos:Int).toNat)] st R:=λh=>iW U ⟨hk.1,kw⟩ kw
  repeat' ((conv=>whnf);first|(refine Br ?_;intros)|(refine BR ?_ ?_<;>intro _)|refine Uj (n:=pos) AC ?_|refine hc ?_)
  all_goals first
   |exact fin h (by rw [SB AC])
   |exact fin h (by rw [aQ AC])
   |exact fin h (Mt rfl AC AC)
   |exact fin h (Mt (hN AC) AC AC)
 .have hN:AE (s.drop pos)=45->Fg (s.drop pos)=(HQ (s.drop pos):Nat):=λe=>by unfold Fg;omega
  have hN0:¬AE (s.drop pos)=45->Fg (s.drop pos)=0:=λe=>by unfold Fg;simp_all
  have hc:∀{R:At->St->Prop},R (.ret (.int .i64 (HQ (s.drop pos):Nat))) st->PC 75 [.str (s.drop (pos:Int).toNat)] st R:=λh=>rE U h
  repeat' ((conv=>whnf);first|(refine Br ?_;intros)|(refine BR ?_ ?_<;>intro _)|refine Uj (n:=pos) AC ?_|refine hc ?_)
  all_goals first
   |exact fin h (by rw [SB AC])
   |exact fin h (by rw [aQ AC])
   |exact fin h (Mt rfl AC AC)
   |exact fin h (Mt (hN AC) AC AC)
end
end Go.Proofs.Z
namespace Go.Aw
open Go
def J2 (l:List UInt8):Int:=if AE l<0 then 0 else AE l
theorem qz {i:Nat} {e:UInt8} (h:s[i]? =some e):J2 (s.drop i)=(e.toNat:Nat):=by unfold J2;rw [Ck h,if_neg AC]
theorem fE {i:Nat} (h:s.length<=i):J2 (s.drop i)=0:=by unfold J2;rw [De h];rfl
theorem Js (l:List UInt8):(AE l= -1/\J2 l=0)\/(0<=AE l/\J2 l=AE l):=by
 have:=Ns l
 unfold J2
 split
 .exact .inl ⟨AC,rfl⟩
 .exact .inr ⟨AC,rfl⟩
def dB (l:List (Nat×Nat)):List (List V):=l.map λp=>[V.int .i64 (p.1:Int),V.int .i64 (p.2:Int)]
def R7 (st:St) (n:Nat):AA->Prop
 | .full=>True
 | .tok b=>st.hw b=some n
 | .any=>False
def eU (st0:St):AA->Prop
 | .tok b=>st0.fresh b
 |_=>True
def ZN:AA->AA->Prop
 | .tok b,.tok c=>b≠c
 |_,_=>True
structure BU (st0 st:St) (w1:AA) (n1:Nat) (w2:AA) (n2:Nat):Prop where
 o1:R7 st n1 w1
 o2:R7 st n2 w2
 f1:eU st0 w1
 f2:eU st0 w2
 ne:ZN w1 w2
 le:st0.le st
theorem ZN.symm {a b:AA} (h:ZN a b):ZN b a:=by
 cases a<;>cases b<;>first|exact h|exact Ne.symm h
theorem BU.swap {st:St} (h:BU st0 st w1 n1 w2 n2):BU st0 st w2 n2 w1 n1:=⟨h.o2,h.o1,h.f2,h.f1,h.ne.symm,h.le⟩
theorem BU.set {st:St} {b:Nat} (h:BU st0 st w1 n1 w2 n2) (hb:st0.box b=none) (cs:List V):BU st0 (st.Aa b cs) w1 n1 w2 n2:=
 ⟨by have:=h.o1;cases w1<;>exact this,by have:=h.o2;cases w2<;>exact this,h.f1,h.f2,h.ne,St.Aj h.le hb cs⟩
theorem Kp {st:St} {sz bytes:Nat} {es new:List (List V)} (h:BU st0 st w1 n1 w2 n2) (hn:n1=es.length*sz)
 (h1:(es.length+new.length)*bytes<=140737488355328) (h2:es.length+new.length<C9) (h3:(new.all λv=>v.all V.sc)=true) (hne:new≠[])
 (k:∀w1' st',BU st0 st' w1' ((es.length+new.length)*sz) w2 n2->st'.box=st.box->K (.slice sz (es++new.map (·.map V.Jl)) w1') st'):Ag sz bytes es w1 new st K:=by
 subst hn
 have frs:∀{x:Nat},st.fresh x->st0.fresh x:=λ{x} hx=>by
  refine ⟨?_,?_⟩
  .cases e:st0.box x with
   |none=>rfl
   |some c=>have:=h.le.1 _ _ e;rw [hx.1] at this;cases this
  .cases e:st0.hw x with
   |none=>rfl
   |some c=>have:=h.le.2 _ _ e;rw [hx.2] at this;cases this
 refine ⟨h1,h2,AL h3 ?_⟩
 cases hw:w1 with
 |any=>have:=h.o1;rw [hw] at this;exact this
 |full=>
  refine ⟨λe=>absurd e hne,λ_=>.inl λb hb=>k (.tok b) _ ⟨?_,?_,frs hb,h.f2,?_,St.Fb h.le (frs hb).2 _⟩ rfl⟩
  .simp [R7,St.BB]
  .have:=h.o2
   cases w2 with
   |tok c=>
    have hc:st.hw c=some n2:=this
    have:c≠b:=λe=>by subst e;rw [hb.2] at hc;cases hc
    simp [R7,St.BB,this,hc]
   |_=>exact this
  .cases w2 with
   |tok c=>
    have hc:st.hw c=some n2:=h.o2
    exact λe=>by subst e;rw [hb.2] at hc;cases hc
   |_=>trivial
 |tok b=>
  subst hw
  have hb:st.hw b=some (es.length*sz):=h.o1
  have hb0:st0.fresh b:=h.f1
  refine ⟨hb,.inl λb' U=>k (.tok b') _ ⟨?_,?_,?_,h.f2,?_,?_⟩ rfl⟩
  .simp [R7,St.BB]
  .have:=h.o2
   cases w2 with
   |tok c=>
    have hc:st.hw c=some n2:=this
    have hcb:b≠c:=h.ne
    have hcb':c≠b':=λe=>by
     subst e
     rcases U with e|U
     .exact hcb e.symm
     .rw [U.2] at hc;cases hc
    simp [R7,St.BB,St.Dd,hcb',hcb.symm,hc]
   |_=>exact this
  .rcases U with rfl|U
   .exact hb0
   .exact frs U
  .cases w2 with
   |tok c=>
    have hc:st.hw c=some n2:=h.o2
    have hcb:b≠c:=h.ne
    refine λ(e:b'=c)=>?_
    subst e
    rcases U with e|U
    .exact hcb e.symm
    .rw [U.2] at hc;cases hc
   |_=>trivial
  .refine ⟨λx cs e=>h.le.1 x cs e,λx n e=>?_⟩
   have e1:=h.le.2 x n e
   have hx:x≠b:=λhx=>by subst hx;rw [hb0.2] at e;cases e
   have hx':x≠b':=λhx=>by
    subst hx
    rcases U with e'|U
    .exact hx e'
    .rw [U.2] at e1;cases e1
   simp [St.BB,St.Dd,hx,hx',e1]
theorem Hs (l:List Int):(ints l).length=l.length:=by simp [ints]
theorem G1 (l:List (Nat×Nat)):(dB l).length=l.length:=by simp [dB]
theorem Xg {st:St} (h:BU st0 st w1 o.length w2 n2) (hl:o.length<=1000000000)
 (k:∀U st',BU st0 st' U (o++[v]).length w2 n2->st'.box=st.box->K (.slice 1 (ints (o++[v])) U) st'):Ag 1 8 (ints o) w1 [[.int .i64 v]] st K:=by
 refine Kp h (by rw [Hs];omega) (by rw [Hs,List.length_singleton];omega) (by rw [Hs,List.length_singleton];unfold C9;omega) rfl GT (λU st' hr hb=>?_)
 have:=k U st' (by rw [Hs] at hr;rw [List.length_append];simpa using hr) hb
 rwa [show ints (o++[v])=ints o++([[V.int .i64 v]]:List (List V)).map (·.map V.Jl) by simp [ints,V.Jl]] at this
theorem dN {st:St} {p:Nat×Nat} {a:Int} (h:BU st0 st w1 n1 w2 (2*g.length)) (hl:g.length<=1000000000) (ha:a=(p.1:Int)) (hb:b=(p.2:Int))
 (k:∀U st',BU st0 st' w1 n1 U (2*(g++[p]).length)->st'.box=st.box->K (.slice 2 (dB (g++[p])) U) st'):Ag 2 16 (dB g) w2 [[.int .i64 a,.int .i64 b]] st K:=by
 subst ha;subst hb
 refine Kp h.swap (by rw [G1];omega) (by rw [G1,List.length_singleton];omega) (by rw [G1,List.length_singleton];unfold C9;omega) rfl GT (λw1' st' hr hb=>?_)
 have:=k w1' st' (by rw [G1] at hr;rw [List.length_append];have:=hr.swap;simpa [Nat.mul_comm] using this) hb
 rwa [show dB (g++[p])=dB g++([[V.int .i64 (p.1:Int),V.int .i64 (p.2:Int)]]:List (List V)).map (·.map V.Jl) by simp [dB,V.Jl]] at this
theorem St.AJ (st:St) (b:Nat) (cs:List V):(st.Aa b cs).box b=some cs:=by simp [St.Aa]
theorem Am {st:St} {b:Nat} {cs:List V} {K:List V->Prop} (h:st.box b=some cs) (k:K cs):∃cs,st.box b=some cs/\K cs:=⟨cs,h,k⟩
end Go.Aw
namespace Go.Proofs.Z
open Go Go.Aw
def KU (c:Int):Int:=if c=97 then 0 else if c=98 then 1 else if c=116 then 2 else if c=110 then 3 else if c=118 then 4 else if c=102 then 5 else if c=114 then 6 else -1
theorem ql (u:UInt8):Lib.indexByte [97,98,116,110,118,102,114] u=KU (u.toNat:Nat):=by
 have key:∀k:UInt8,((u.toNat:Nat):Int)=((k.toNat:Nat):Int)->u=k:=λk e=>UInt8.toNat_inj.1 AC
 unfold KU
 by_cases U:((u.toNat:Nat):Int)=97
 .rw [key 97 U];rfl
 by_cases h2:((u.toNat:Nat):Int)=98
 .rw [key 98 h2];rfl
 by_cases h3:((u.toNat:Nat):Int)=116
 .rw [key 116 h3];rfl
 by_cases h4:((u.toNat:Nat):Int)=110
 .rw [key 110 h4];rfl
 by_cases h5:((u.toNat:Nat):Int)=118
 .rw [key 118 h5];rfl
 by_cases h6:((u.toNat:Nat):Int)=102
 .rw [key 102 h6];rfl
 by_cases h7:((u.toNat:Nat):Int)=114
 .rw [key 114 h7];rfl
 rw [if_neg U,if_neg h2,if_neg h3,if_neg h4,if_neg h5,if_neg h6,if_neg h7]
 have ne:∀k:UInt8,¬((u.toNat:Nat):Int)=((k.toNat:Nat):Int)->(k==u)=false:=λk e=>beq_eq_false_iff_ne.2 (λx=>e (by rw [x]))
 simp only [Lib.indexByte,ne 97 U,ne 98 h2,ne 116 h3,ne 110 h4,ne 118 h5,ne 102 h6,ne 114 h7]
 rfl
def qC (s:List UInt8) (p:Nat) (tx:Bool) (o:List Int) (w1:AA) (g:List (Nat×Nat)) (w2:AA):List V:=[.str s,.int .i64 (p:Int),.bool tx,.slice 1 (ints o) w1,.slice 2 (dB g) w2]
def IX (p:Int) (e:Int):V:=.iface 257 (.agg [.int .i64 p,.int .i64 e])
section
variable {st:St} {R:At->St->Prop}
theorem FV {v:V} {p e:Int} (h:R (.BK (IX p e)) st):PC 245 [v,.int .i64 p,.int .i64 e] st R:=by
 refine pB Tryz.func245 ?_
 repeat' ((conv=>whnf);first|  fail)
 all_goals exact fin h rfl
theorem Eo {b p:Nat} (hl:s.length<=100000000) (hp:p<=s.length) (hk:k<=10) (hb:st.box b=some (qC s p tx o w1 g w2))
 (h:R (.ret (.int .u8 (J2 (s.drop (p+k))))) st):PC 243 [.ptr b 0,.int .i64 k] st R:=by
 refine pB Tryz.func243 ?_
 have e0:((p:Int)+(k:Int)).toNat=p+k:=AC
 by_cases U:p+k<s.length
 .obtain ⟨e,he⟩:∃e,s[p+k]? =some e:=⟨s[p+k],List.getElem?_eq_getElem U⟩
  have he':s[((p:Int)+(k:Int)).toNat]? =some e:=by rw [e0];exact he
  rw [qz he] at h
  repeat' ((conv=>whnf);first|exact Du|(refine Br ?_;intros)|(refine Dw ?_ ?_ ?_;rotate_left)|refine Am hb ?_|refine An GE ?_|fail)
  all_goals exact fin h rfl
 .rw [fE AC] at h
  repeat' ((conv=>whnf);first|exact Du|(refine Br ?_;intros)|(refine Dw ?_ ?_ ?_;rotate_left)|refine Am hb ?_|refine An GE ?_|fail)
  all_goals exact fin h rfl
theorem sM (U:0<=c) (h1:c<=255) (h:R (.ret (.int .i64 (KU c))) st):PC 294 [.str [97,98,116,110,118,102,114],.int .u8 c] st R:=by
 obtain ⟨u,rfl⟩:∃u:UInt8,c=((u.toNat:Nat):Int):=⟨UInt8.ofNat c.toNat,by rw [UInt8.toNat_ofNat'];omega⟩
 exact qA (by rw [ql];exact h)
def sk:Option Int->V
 |some v=>.Bj [.int .i64 v,.bool true]
 |none=>.Bj [.int .i64 0,.bool false]
theorem kz (U:0<=c) (h1:c<=255) (h:R (.ret (sk (EL c))) st):PC 332 [.int .u8 c] st R:=by
 have ha:(KU c= -1/\¬(c=97\/c=98\/c=116\/c=110\/c=118\/c=102\/c=114))\/(0<=KU c/\KU c<=6/\((c=97/\KU c=0)\/(c=98/\KU c=1)\/(c=116/\KU c=2)\/(c=110/\KU c=3)\/(c=118/\KU c=4)\/(c=102/\KU c=5)\/(c=114/\KU c=6))):=by
  unfold KU
  (repeat' split)<;>first|(left;omega)|(right;omega)
 refine pB Tryz.func332 ?_
 repeat' ((conv=>whnf);first|(refine Br ?_;intros)|(refine BR ?_ ?_<;>intro _)|refine sM U h1 ?_)
 all_goals first
  |exact fin h (by rw [show EL c=some c by unfold EL;rw [if_pos AC]];rfl)
  |(have e:EL c=some (7+KU c):=by
     unfold EL
     rw [if_neg AC]
     (repeat' split)<;>first|(congr 1;omega)|(exfalso;omega)
    exact fin h (by rw [e];rfl))
  |(have e:EL c=none:=by
     unfold EL
     rw [if_neg AC]
     (repeat' split)<;>first|rfl|(exfalso;omega)
    exact fin h (by rw [e];rfl))
end
end Go.Proofs.Z
namespace Go.Proofs.Z
open Go Go.Aw Go.Shelf
theorem dW {I : Mem} {st : St} {w : World} (hs : B7 I st w) : Lib.TabIs Tryz.prog w "strings.asciiSpace" .u8 Lib.asciiSpaceTab := by
 obtain ⟨c,ty,h1,h2⟩:=hs.shape 4 256 hs.SP.kC
 have hg : Tryz.prog.globalNamed "strings.asciiSpace" = some 4 := by kernel_rfl
 unfold Lib.TabIs World.var?
 rw [hg]
 simp only [Option.bind_some,h1,Option.some.injEq]
 have hlen:Lib.asciiSpaceTab.length=256:=GE
 refine Array.ext (by rw [h2];simp [hlen]) λi hi hi'=>?_
 have U:=hs.cell _ _ _ (hs.SP.space i AC)
 simp only [World.cell?,h1,Option.isSome_none,Bool.false_eq_true,if_false] at U
 rw [Array.getElem?_eq_getElem hi] at U
 injection U with U
 rw [U]
 have hi2:i<Lib.asciiSpaceTab.length:=by rw [hlen];omega
 simp [List.getD_eq_getElem?_getD,List.getElem?_eq_getElem hi2]
section
variable {st:St} {R:At->St->Prop}
theorem gJ (hz:s.length<4294967281) (ha:∀b ∈ s,b.toNat<128) (h:R (.ret (.slice 1 (strs (Lib.fields s)) .any)) st) (hl:∀x ∈ Lib.fields s,x.length<C9) (hn:(Lib.fields s).length<C9):PC 214 [.str s] st R:=by
 refine ⟨λI w U hs hc=>?_,⟨_,Tryz.func214,Do,Do⟩⟩
 simp only [Ao,AH] at hc
 obtain ⟨c,r,rfl,⟨rfl,_⟩,rfl⟩:=hc
 refine (Tryz.strings_Fields ⟨s.toArray⟩ w (by show s.toArray.size<_;simpa using hz) (λj b e=>ha b (List.mem_of_getElem? (by simpa using e))) (dW hs)).mono λe w' ⟨he,hw⟩=>?_
 subst hw
 obtain ⟨h1,h2,h3⟩:=hs.row ((Lib.fields s).map λl=>Value.string ⟨l.toArray⟩) 9
 refine ⟨_,_,.ret _,h1,h2,?_,h⟩
 subst he
 exact jJ (Lib.fields s) hl hn h3
theorem qZ {U:List (List UInt8)} {own:AA} {sep:List UInt8} (hx:U.length<=140737488355328) (hj:(Lib.join U sep).length<=140737488355328) (h:R (.ret (.str (Lib.join U sep))) st):PC 54 [.slice 1 (strs U) own,.str sep] st R:=by
 refine Cv ⟨_,Tryz.func54,Do,Do⟩ _ (λI w cargs hs hc=>?_) h
 simp only [Ao] at hc
 obtain ⟨c1,r1,rfl,hc1,c2,r2,rfl,hc2,rfl⟩:=hc
 simp only [AH] at hc2
 obtain ⟨rfl,_⟩:=hc2
 obtain ⟨ad,cap,rfl,e2,e3,e4,e5,e6⟩:=DI (β:=λ_=>none) (show AQ I _ (.slice 1 (strs U) own) c1 from hc1)
 have hlen:(strs U).length=U.length:=by simp [strs]
 rw [hlen] at e2 e3 |-
 by_cases h0:U=[]
 .subst h0
  refine (Tryz.strings_Join_none ad cap ⟨sep.toArray⟩ w).mono λe w' ⟨he,hw⟩=>⟨⟨_,he,?_⟩,hw ▸ RowKit.Below.refl _ _⟩
  simp only [AH]
  exact ⟨by trivial,by show (Lib.join [] sep).length<C9;rw [Lib.join_nil];decide⟩
 .have hpos:=List.length_pos_iff.2 h0
  cases ad with
  |none=>simp only at e6;omega
  |some ad=>
   obtain ⟨bk,o,spot⟩:=ad
   simp only at e6
   obtain ⟨f1,f2⟩:=e6
   obtain rfl:spot=none:=f1.resolve_left AC
   have hcell:∀(j:Nat) x,U[j]? =some x->w.cell? ⟨bk,o+j,none⟩=some (.string ⟨x.toArray⟩):=λj x hj=>by
    obtain ⟨_,g2⟩:=B8.get f2 (i:=j) (e:=[V.str x]) (by simp [strs,hj])
    simp only [Fv,AH,and_true] at g2
    obtain ⟨c,g2,rfl,_⟩:=g2
    have:=hs.cell _ _ _ g2
    rwa [Nat.mul_one] at this
   have hmap:(U.map λx=>(⟨x.toArray⟩:ByteArray)).map (·.data.toList)=U:=by simp [Function.comp_def]
   have hbk:bk<w.heap.size:=by
    obtain ⟨x,hx⟩:∃x,U[0]? =some x:=⟨U[0],List.getElem?_eq_getElem hpos⟩
    exact IJ (hcell 0 x hx)
   have:=Tryz.strings_Join bk o cap (U.map λx=>(⟨x.toArray⟩:ByteArray)) ⟨sep.toArray⟩ w (λj x hj=>by
    rw [List.getElem?_map] at hj
    cases hq:U[j]? with
    |none=>rw [hq] at hj;cases hj
    |some y=>rw [hq] at hj;injection hj with hj;subst hj;exact hcell j y hq) hbk (by rw [List.length_map];exact hx) (by rw [List.length_map];exact e2) (by rw [hmap];exact hj)
   rw [List.length_map,hmap] at this
   refine this.mono λe w' ⟨he,hb⟩=>⟨⟨_,he,?_⟩,hb⟩
   simp only [AH]
   exact ⟨by trivial,by unfold C9;omega⟩
end
def VN (p:Nat->Bool) (s:List UInt8):Int:=if Cd (λd=> !(p d.1)) s<s.length then (Cd (λd=> !(p d.1)) s:Nat) else -1
theorem idx_eq (p:Nat->Bool) (s:List UInt8):∀(f pos:Nat),pos<=s.length->s.length - pos<=f->Lib.idxFuncFrom p true ⟨s.toArray⟩ f pos=if Cd (λd=> !(p d.1)) (s.drop pos)<s.length - pos then ((pos+Cd (λd=> !(p d.1)) (s.drop pos):Nat):Int) else -1
 |0,pos,h1,h2=>by
  rw [if_neg AC];rfl
 |f+1,pos,h1,h2=>by
  unfold Lib.idxFuncFrom
  have hz:(⟨s.toArray⟩:ByteArray).size=s.length:=by simp [ByteArray.size]
  rw [hz]
  by_cases U:pos<s.length
  .rw [if_pos U,To U]
   rcases hd:AR (s.drop pos) with ⟨c,m⟩
   have hr:=rune_le U hd.symm
   dsimp only
   by_cases hc:p c=true
   .rw [if_pos hc,MM (p:=λd=> !(p d.1)) (by rw [hd];simp [hc]),if_pos AC];rfl
   .rw [if_neg hc,idx_eq p s f (pos+m) hr.1 AC]
    have e:=Ku (p:=λd=> !(p d.1)) (Ka U) (by rw [hd];simpa using hc)
    rw [hd,List.drop_drop] at e
    dsimp only at e
    rw [e]
    by_cases hk:Cd (λd=> !(p d.1)) (s.drop (pos+m))<s.length - (pos+m)
    .rw [if_pos hk,if_pos AC];congr 1;omega
    .rw [if_neg hk,if_neg AC]
  .rw [if_neg U,if_neg AC]
section
variable {st:St} {R:At->St->Prop}
def rB:St:=⟨λ_=>none,λ_=>none⟩
theorem aB {g:FuncId} {p:Nat->Bool} (hg:∀c:Nat,c<=1114111->PC g [.int .i32 (c:Int)] rB λr _=>r=.ret (.bool (p c))) (h:R (.ret (.int .i64 (VN p s))) st):PC 44 [.str s,.func g [] []] st R:=by
 refine Cv ⟨_,Tryz.func44,Do,Do⟩ _ (λI w U hs hc=>?_) h
 simp only [Ao,AH] at hc
 obtain ⟨c1,r1,rfl,⟨rfl,hl⟩,c2,r2,rfl,⟨az,cs,rfl,rfl,rfl⟩,rfl⟩:=hc
 obtain ⟨fn,p1,p2,p3⟩:=(hg 0 Do).b
 have eg:∀args w,(callFunc g args).run Tryz.prog w=.ok (.enter g args) w:=λargs w=>by
  have hb:fn.body.isNone=false:=by cases hb:fn.body<;>simp_all
  simp only [callFunc,Sem.run_bind,Result.andThen_ok,run_program,p1]
  rw [p3]
  simp [hb]
 have hp:PredGrows Tryz.prog g #[] p w:=λW x hx hb=>by
  obtain ⟨_,hW⟩:=hs.below hb
  have hW0:B7 I rB W:=⟨hW.cell,hW.shape,λb cs e=>(by cases e),λb e=>absurd rfl e,λb n e=>(by cases e),hW.SP⟩
  refine ((hg x hx).a I W [.int .i32 x] hW0 (by simp only [Ao,AH];exact ⟨_,_,rfl,rfl,rfl⟩)).mono ?_
  rintro e w' ⟨I',st',r,k1,k2,k3,rfl⟩
  refine ⟨?_,⟨k1.os,k1.tape,k1.output,k1.size,λk hk=>k1.KB k hk rfl rfl⟩⟩
  cases e with
  |returned c=>
   have k3:AH I' (.bool (p x)) c:=k3
   simp only [AH] at k3
   rw [k3]
  |panicked _=>exact k3.elim
  |outgrown=>exact k3.elim
 refine (Tryz.strings_IndexFunc_grows g #[] eg p ⟨s.toArray⟩ w hp).mono λe w' ⟨he,hb⟩=>⟨⟨_,he,?_⟩,hb⟩
 simp only [AH]
 unfold Lib.idxFunc VN
 rw [idx_eq p s _ 0 (Nat.zero_le _) (by simp [ByteArray.size]),List.drop_zero,Nat.sub_zero,Nat.zero_add]
end
end Go.Proofs.Z
namespace Go.Aw
open Go
def QJ:List UInt8:=[78,85,76,32,83,79,72,32,83,84,88,32,69,84,88,32,69,79,84,32,69,78,81,32,65,67,75,32,66,69,76,32,66,83,32,72,84,32,76,70,32,86,84,32,70,70,32,67,82,32,83,79,32,83,73,32,68,76,69,32,68,67,49,32,68,67,50,32,68,67,51,32,68,67,52,32,78,65,75,32,83,89,78,32,69,84,66,32,67,65,78,32,69,77,32,83,85,66,32,69,83,67,32,70,83,32,71,83,32,82,83,32,85,83,32,83,80,32,68,69,76]
theorem TF:Lib.fields QJ=CN:=GE
theorem iT:∀b ∈ QJ,b.toNat<128:=by
 have h:QJ.all (λb=>decide (b.toNat<128))=true:=GE
 simp_all
theorem Ny:∀w ∈ CN,1<=w.length/\w.length<=3:=by
 have h:CN.all (λw=>decide (1<=w.length)&&decide (w.length<=3))=true:=GE
 simp_all
theorem nM:CN.length=34:=H1
theorem US {c:Nat} (h:pos<s.length) (U:(c,m)=AR (s.drop pos)) (k:¬Bo (c:Int) base<0):Ez base v (s.drop pos)=Ez base (min (v*base+Bo (c:Int) base) 1114112) (s.drop (pos+1)):=by
 rw [List.drop_eq_getElem_cons h] at U |-
 by_cases hb:s[pos].toNat<128
 .rw [J6 hb] at U
  injection U with h1 h2
  subst h1
  rw [Ez,if_neg k]
 .have:=OR (r:=s.drop (pos+1)) hb
  rw [<-U] at this
  exact absurd (HY (c:=(c:Int)) (base:=base) AC) k
theorem Kx {c:Nat} (h:pos<s.length) (U:(c,m)=AR (s.drop pos)) (k:Bo (c:Int) base<0):Ez base v (s.drop pos)=v:=by
 rw [List.drop_eq_getElem_cons h] at U |-
 by_cases hb:s[pos].toNat<128
 .rw [J6 hb] at U
  injection U with h1 h2
  subst h1
  rw [Ez,if_pos k]
 .rw [Ez,if_pos (HY AC)]
theorem GJ (h:s.length<=pos):Ez base v (s.drop pos)=v:=by rw [List.drop_eq_nil_iff.2 h];rfl
theorem HZ:Bo c b<0\/Bo c b<b:=by
 unfold Bo
 grind
theorem Nj {K:Int->Prop} (h0:0<=v) (h1:v<=1114112) (hb:0<=b) (U:b<=16) (hk:¬Bo c b<0) (k:K (v*b+Bo c b)):∃r,r=IntKind.i64.wrap (v*b+Bo c b)/\K r:=by
 have h2:0<=v*b:=Int.mul_nonneg h0 hb
 have h3:v*b<=1114112*16:=Int.mul_le_mul h1 U hb Do
 have h4:=HZ (c:=c) (b:=b)
 exact Wq AC AC k
theorem iS:QJ.length<1000:=GE
theorem iI {a:Int} {K:Int->Prop} (k:K (min a b)):∃r,r=(if b<a then b else a)/\K r:=⟨min a b,AC,k⟩
theorem Sw {i c:Nat} (h:CN[i]? =some x):JH l (CN.drop i) i (c,n)=JH l (CN.drop (i+1)) (i+1) (if n<x.length/\x.isPrefixOf l=true then (i,x.length) else (c,n)):=by
 rw [drop_at h,JH]
theorem aN {c:Nat} (h:JH l CN 0 (0,0)=(c,n)):Ha l=(if c=33 then 127 else (c:Int),n):=by
 have key:∀p:Nat×Nat,p=(c,n)->((if p.1=33 then 127 else (p.1:Int),p.2):Int×Nat)=(if c=33 then 127 else (c:Int),n):=λp U=>by simp_all
 exact key _ h
end Go.Aw
namespace Go.Proofs.Z
open Go Go.Aw
theorem Fh {t:Bool} (U:Bt b s=n) (e2:Ez b 0 s=v) (e3:decide (n≠0/\v<=1114111)=t):At.ret (.Bj [.int .i64 (Ez b 0 s),.int .i64 (Bt b s:Nat),.bool (decide (Bt b s≠0/\Ez b 0 s<=1114111))])=At.ret (.Bj [.int .i64 v,.int .i64 (n:Int),.bool t]):=kw
section
variable {st:St} {R:At->St->Prop}
theorem gK {l:List (List UInt8)} (e:Lib.fields s=l) (hz:s.length<1000) (U:∀b ∈ s,b.toNat<128) (hl:∀x ∈ l,x.length<=3) (hn:l.length<=1000) (h:R (.ret (.slice 1 (strs l) .any)) st):PC 214 [.str s] st R:=by
 subst e
 exact gJ AC U h (λx hx=>by have:=hl x hx;unfold C9;omega) (by unfold C9;omega)
theorem nP (h:R (.ret (.slice 1 (strs CN) .any)) st):PC 214 [.str QJ] st R:=
 gK TF iS iT (λx U=>(Ny x U).2) (Nat.le_trans (Nat.le_of_eq nM) Do) h
set_option maxRecDepth 100000 in
theorem nN (hl:s.length<=100000000) (h:R (.ret (.Bj [.int .i64 (Ha s).1,.int .i64 (Ha s).2])) st):PC 334 [.str s] st R:=by
 refine pB Tryz.func334 ?_
 repeat' ((conv=>whnf);first|(refine Br ?_;intros)|(refine BR ?_ ?_<;>intro _)|refine nP ?_|refine Ml (λ_=>?_))
 refine K8 (α:=Nat) (β:=Nat) (γ:=Nat) (λi c n=>[(8,.int .i64 (i:Int)),(2,.int .i64 (c:Int)),(3,.int .i64 (n:Int))]) (λ_ _ _=>[]) [0,6,7] [] (λ_ _ _=>st)
  (λi c n=>i<=CN.length/\n<=3/\JH s CN 0 (0,0)=JH s (CN.drop i) i (c,n)) (λi _ _=>CN.length - i) 0 0 0 ⟨Nat.zero_le _,Do,rfl⟩ Yl (St.le_refl _) ?_
 rintro i c n ⟨h1,h2,U⟩
 rcases hx:CN[i]? with _|x
 .have hge:=List.getElem?_eq_none_iff.1 hx
  rw [List.drop_eq_nil_iff.2 hge] at U
  have e:=aN U
  repeat' ((conv=>whnf);first|(refine Br ?_;intros)|(refine BR ?_ ?_<;>intro _)|fail)
  all_goals first
   |exact fin h (by rw [e,if_pos AC])
   |exact fin h (by rw [e,if_neg AC])
 .have hlt:=(List.getElem?_eq_some_iff.1 hx).1
  have hm:=Ny x (List.mem_of_getElem? hx)
  rw [Sw hx] at U
  have hx':CN[((i:Int)).toNat]? =some x:=hx
  repeat' ((conv=>whnf);first|(refine Br ?_;intros)|(refine BR ?_ ?_<;>intro _)|refine Ta hx' AC ?_|refine Il ?_)
  .rw [if_pos ⟨AC,AC⟩] at U
   conv=>whnf
   exact ⟨(i+1,i,x.length),⟨AC,kw,U⟩,AC,Yl,St.le_refl _⟩
  .have hp:x.isPrefixOf s=false:=FS
   rw [if_neg (λy=>by simp_all)] at U
   conv=>whnf
   exact ⟨(i+1,c,n),⟨AC,AC,U⟩,AC,Yl,St.le_refl _⟩
  .rw [if_neg (λy=>by omega)] at U
   conv=>whnf
   exact ⟨(i+1,c,n),⟨AC,AC,U⟩,AC,Yl,St.le_refl _⟩
theorem WR (hl:s.length<=100000000) (hb:b=8\/b=10\/b=16) (h:R (.ret (.Bj [.int .i64 (Ez b 0 s),.int .i64 (Bt b s:Nat),.bool (decide (Bt b s≠0/\Ez b 0 s<=1114111))])) st):PC 367 [.str s,.int .i64 b] st R:=by
 refine pB Tryz.func367 ?_
 repeat' ((conv=>whnf);first|(refine Br ?_;intros)|(refine BR ?_ ?_<;>intro _)|fail)
 refine K7 (α:=Nat) (β:=Int) (λpos v=>[(4,.int .i64 v),(5,.int .i64 (pos:Int))]) (λpos _=>[(0,[.OC s pos])]) [0,1,11] [] (λ_ _=>st)
  (λpos v=>pos<=s.length/\0<=v/\v<=1114112/\Bt b s=pos+Bt b (s.drop pos)/\Ez b 0 s=Ez b v (s.drop pos)) (λpos _=>s.length - pos) 0 0 ⟨Nat.zero_le _,Do,Do,GT,rfl⟩ Yl (St.le_refl _) ?_
 rintro pos v ⟨h1,h2,h3,h4,h5⟩
 rcases hb with rfl|rfl|rfl
 .skip
  have hdl:=λc=>HZ (c:=c) (b:=8)
  repeat' ((conv=>whnf);first|(refine Br ?_;intros)|(refine BR ?_ ?_<;>intro _)|refine LY ?_|refine iI ?_|refine Nj h2 h3 Do Do ‹_› ?_)
  all_goals first
   |(rename_i U c m hd hk _ _
     have e1:=Hy U hd hk
     have e2:=Kx (v:=v) U hd hk
     exact fin h (Fh AC (h5.trans e2) (by first|exact decide_eq_true ⟨AC,AC⟩|exact decide_eq_false AC)))
   |(rename_i U c m hd hk _
     have e1:=Hy U hd hk
     have e2:=Kx (v:=v) U hd hk
     exact fin h (Fh AC (h5.trans e2) (by first|exact decide_eq_true ⟨AC,AC⟩|exact decide_eq_false AC)))
   |(have e1:=FH (base:=8) (s:=s) (pos:=pos) AC
     have e2:=GJ (base:=8) (v:=v) (s:=s) (pos:=pos) AC
     exact fin h (Fh AC (h5.trans e2) (by first|exact decide_eq_true ⟨AC,AC⟩|exact decide_eq_false AC)))
   |(rename_i U c m hd hk
     obtain ⟨e1,e2⟩:=ME U hd hk
     have e3:=US (v:=v) U hd hk
     have e4:=hdl (c:Int)
     subst e1
     conv=>whnf
     exact ⟨(pos+1,min (v*8+Bo (c:Int) 8) 1114112),⟨So,So,So,So,h5.trans e3⟩,So,Yl,St.le_refl _⟩)
 .skip
  have hdl:=λc=>HZ (c:=c) (b:=10)
  repeat' ((conv=>whnf);first|(refine Br ?_;intros)|(refine BR ?_ ?_<;>intro _)|refine LY ?_|refine iI ?_|refine Nj h2 h3 Do Do ‹_› ?_)
  all_goals first
   |(rename_i U c m hd hk _ _
     have e1:=Hy U hd hk
     have e2:=Kx (v:=v) U hd hk
     exact fin h (Fh AC (h5.trans e2) (by first|exact decide_eq_true ⟨AC,AC⟩|exact decide_eq_false AC)))
   |(rename_i U c m hd hk _
     have e1:=Hy U hd hk
     have e2:=Kx (v:=v) U hd hk
     exact fin h (Fh AC (h5.trans e2) (by first|exact decide_eq_true ⟨AC,AC⟩|exact decide_eq_false AC)))
   |(have e1:=FH (base:=10) (s:=s) (pos:=pos) AC
     have e2:=GJ (base:=10) (v:=v) (s:=s) (pos:=pos) AC
     exact fin h (Fh AC (h5.trans e2) (by first|exact decide_eq_true ⟨AC,AC⟩|exact decide_eq_false AC)))
   |(rename_i U c m hd hk
     obtain ⟨e1,e2⟩:=ME U hd hk
     have e3:=US (v:=v) U hd hk
     have e4:=hdl (c:Int)
     subst e1
     conv=>whnf
     exact ⟨(pos+1,min (v*10+Bo (c:Int) 10) 1114112),⟨So,So,So,So,h5.trans e3⟩,So,Yl,St.le_refl _⟩)
 .skip
  have hdl:=λc=>HZ (c:=c) (b:=16)
  repeat' ((conv=>whnf);first|(refine Br ?_;intros)|(refine BR ?_ ?_<;>intro _)|refine LY ?_|refine iI ?_|refine Nj h2 h3 Do Do ‹_› ?_)
  all_goals first
   |(rename_i U c m hd hk _ _
     have e1:=Hy U hd hk
     have e2:=Kx (v:=v) U hd hk
     exact fin h (Fh AC (h5.trans e2) (by first|exact decide_eq_true ⟨AC,AC⟩|exact decide_eq_false AC)))
   |(rename_i U c m hd hk _
     have e1:=Hy U hd hk
     have e2:=Kx (v:=v) U hd hk
     exact fin h (Fh AC (h5.trans e2) (by first|exact decide_eq_true ⟨AC,AC⟩|exact decide_eq_false AC)))
   |(have e1:=FH (base:=16) (s:=s) (pos:=pos) AC
     have e2:=GJ (base:=16) (v:=v) (s:=s) (pos:=pos) AC
     exact fin h (Fh AC (h5.trans e2) (by first|exact decide_eq_true ⟨AC,AC⟩|exact decide_eq_false AC)))
   |(rename_i U c m hd hk
     obtain ⟨e1,e2⟩:=ME U hd hk
     have e3:=US (v:=v) U hd hk
     have e4:=hdl (c:Int)
     subst e1
     conv=>whnf
     exact ⟨(pos+1,min (v*16+Bo (c:Int) 16) 1114112),⟨So,So,So,So,h5.trans e3⟩,So,Yl,St.le_refl _⟩)
end
end Go.Proofs.Z
namespace Go.Aw
open Go
theorem dx (h:Hb b l=some (v,n)):Ez b 0 l=v/\Bt b l=n/\n≠0/\v<=1114111:=by
 unfold Hb at h
 split at h
 .cases h
 .injection h with h;injection h with U h2
  exact ⟨U,h2,AC,AC⟩
theorem dw (h:Hb b l=none):decide (Bt b l≠0/\Ez b 0 l<=1114111)=false:=by
 unfold Hb at h
 split at h
 .exact decide_eq_false AC
 .cases h
theorem HH {r r':At} {st st':St} (es:st'=st) (h:R r st) (e:r=r'):∃r2 U,(r2=r'\/r2=r'.wk)/\St.le U st'/\R r2 U:=by subst es;exact ⟨r,st',.inl e,St.le_refl _,h⟩
theorem St.JL (st:St) (b:Nat) (cs cs':List V):(st.Aa b cs).Aa b cs'=st.Aa b cs':=by
 simp only [St.Aa,St.mk.injEq,and_true]
 funext x
 split<;>rfl
end Go.Aw
namespace Go.Proofs.Z
open Go Go.Aw
theorem SF {q:Nat} (e:i=(q:Int)):[V.str s,.int .i64 i,.bool tx,.slice 1 (ints o) w1,.slice 2 (dB g) w2]=qC s q tx o w1 g w2:=by subst e;rfl
section
variable {st:St} {R:At->St->Prop}
theorem jk (e:i.toNat=m) (hn:Hb b (s.drop m)=some (v,n)) (hl:s.length<=100000000) (hb:b=8\/b=10\/b=16) (h:R (.ret (.Bj [.int .i64 v,.int .i64 n,.bool true])) st):PC 367 [.str (s.drop i.toNat),.int .i64 b] st R:=by
 rw [e]
 obtain ⟨U,e2,e3,e4⟩:=dx hn
 exact WR IR hb (by rw [U,e2,decide_eq_true ⟨e3,e4⟩];exact h)
theorem jl (e:i.toNat=m) (hn:Hb b (s.drop m)=none) (U:s.length<=100000000) (hb:b=8\/b=10\/b=16) (h:R (.ret (.Bj [.int .i64 (Ez b 0 (s.drop m)),.int .i64 (Bt b (s.drop m):Nat),.bool false])) st):PC 367 [.str (s.drop i.toNat),.int .i64 b] st R:=by
 rw [e]
 exact WR IR hb (by rw [dw hn];exact h)
theorem PH {b p:Nat} {frm:Int} (hl:s.length<=100000000) (hp:p+k<=s.length) (U:base=8\/base=10\/base=16) (hb:st.box b=some (qC s p tx o w1 g w2))
 (h:∀v n,Hb base (s.drop (p+k))=some (v,n)->R (.ret (.int .i64 v)) (st.Aa b (qC s (p+k+n) tx o w1 g w2))) (h0:Hb base (s.drop (p+k))=none->R (.BK (IX frm 51)) st):
 PC 333 [.ptr b 0,.int .i64 frm,.int .i64 k,.int .i64 base] st R:=by
 refine pB Tryz.func333 ?_
 rcases hn:Hb base (s.drop (p+k)) with _|⟨v,n⟩
 .have h0:=h0 hn
  repeat' ((conv=>whnf);first|exact Du|(refine Br ?_;intros)|(refine Dw ?_ ?_ ?_;rotate_left)|refine Am hb ?_|refine jl (m:=p+k) AC hn hl U ?_|refine FV ?_|refine Ad 20 [12] [] ?_|fail)
  all_goals exact fin h0 rfl
 .have h:=h v n hn
  have hle:=OZ hn
  rw [List.length_drop] at hle
  dsimp only at hle
  repeat' ((conv=>whnf);first|exact Du|(refine Br ?_;intros)|(refine Dw ?_ ?_ ?_;rotate_left)|refine Am hb ?_|refine jk (m:=p+k) AC hn hl U ?_|refine FV ?_|refine Ad 20 [12] [] ?_|fail)
  exact HH (congrArg (st.Aa b) (SF AC)) h rfl
theorem TM {p:Nat}:Ch (s.drop p)=if AE (s.drop p)=92/\BQ (λc=>Ax c==1) (s.drop (p+1))≠0/\AE (s.drop (p+1+BQ (λc=>Ax c==1) (s.drop (p+1))))=92 then BQ (λc=>Ax c==1) (s.drop (p+1))+2 else 0:=by
 have U:(s.drop p).drop 1=s.drop (p+1):=List.drop_drop
 unfold Ch;rw [U,List.drop_drop,Nat.add_assoc]
theorem Kq {q:Nat} (hl:s.length<=100000000) (hq:q<=s.length) (U:BQ (λc=>Ax c==1) (s.drop q)=k) (e:i=(q:Int)) (h:R (.ret (.int .i64 (q+k:Nat))) st):PC 72 [.str s,.int .i64 i,.int .i64 1] st R:=by
 subst e;exact p7 AC (by rw [I8 AC AC,show (q:Int).toNat=q by omega,U];exact h)
theorem qQ {b p:Nat} (U:s.length<=100000000) (hp:p<=s.length) (hb:st.box b=some (qC s p tx o w1 g w2)) (hg:tx=false\/Ch (s.drop p)=0) (h:R (.ret (.bool false)) st):PC 296 [.ptr b 0] st R:=by
 refine pB Tryz.func296 ?_
 have hby:=Js (s.drop p)
 cases tx with
 |false=>
  repeat' ((conv=>whnf);first|exact Du|(refine Br ?_;intros)|(refine Dw ?_ ?_ ?_;rotate_left)|(refine BR ?_ ?_<;>intro _)|refine Am hb ?_|refine Eo (k:=0) U hp Do hb ?_|refine Ad 11 [9] [] ?_|refine Ad 17 [13,16] [] ?_|fail)
  all_goals exact fin h rfl
 |true=>
  have hg:Ch (s.drop p)=0:=hg.resolve_left Do
  by_cases h1:AE (s.drop p)=92
  .have hp1:p<s.length:=BS (k:=p) AC
   have hr:=Ew (λc=>Ax c==1) (s.drop (p+1))
   have hgn:=TM (s:=s) (p:=p)
   rw [List.length_drop] at hr
   generalize hk:BQ (λc=>Ax c==1) (s.drop (p+1))=k at hr hgn
   have hno:k≠0->¬AE (s.drop (p+1+k))=92:=λe1 e2=>by rw [if_pos ⟨h1,e1,e2⟩] at hgn;omega
   have hb0:J2 (s.drop p)=92:=AC
   by_cases hlt:p+1+k<s.length
   .obtain ⟨e,he⟩:∃e,s[p+1+k]? =some e:=⟨s[p+1+k],List.getElem?_eq_getElem hlt⟩
    have he':s[((p+1+k:Nat):Int).toNat]? =some e:=he
    have hv:=Ck he
    repeat' ((conv=>whnf);first|exact Du|(refine Br ?_;intros)|(refine Dw ?_ ?_ ?_;rotate_left)|(refine BR ?_ ?_<;>intro _)|refine Am hb ?_|refine Eo (k:=0) U hp Do hb ?_|refine Kq (q:=p+1) U AC hk AC ?_|refine Ad 11 [9] [] ?_|refine Ad 17 [13,16] [] ?_|fail)
    all_goals exact fin h rfl
   .skip
    repeat' ((conv=>whnf);first|exact Du|(refine Br ?_;intros)|(refine Dw ?_ ?_ ?_;rotate_left)|(refine BR ?_ ?_<;>intro _)|refine Am hb ?_|refine Eo (k:=0) U hp Do hb ?_|refine Kq (q:=p+1) U AC hk AC ?_|refine Ad 11 [9] [] ?_|refine Ad 17 [13,16] [] ?_|fail)
    all_goals exact fin h rfl
  .have hb0:¬J2 (s.drop p)=92:=AC
   repeat' ((conv=>whnf);first|exact Du|(refine Br ?_;intros)|(refine Dw ?_ ?_ ?_;rotate_left)|(refine BR ?_ ?_<;>intro _)|refine Am hb ?_|refine Eo (k:=0) U hp Do hb ?_|refine Ad 11 [9] [] ?_|refine Ad 17 [13,16] [] ?_|fail)
   all_goals exact fin h rfl
attribute [local irreducible] Go.Aw.Ag
theorem mO {b p:Nat} (hl:s.length<=100000000) (hb:st.box b=some (qC s p true o w1 g w2)) (hg:0<Ch (s.drop p)) (hr2:BU st0 st w1 o.length w2 (2*g.length)) (hgl:g.length<=100000000)
 (h:∀w2' st',BU st0 st' w1 o.length w2' (2*(g++[(p,p+Ch (s.drop p))]).length)->st'.box=st.box->R (.ret (.bool true)) (st'.Aa b (qC s (p+Ch (s.drop p)) true o w1 (g++[(p,p+Ch (s.drop p))]) w2'))):PC 296 [.ptr b 0] st R:=by
 have hby:=Js (s.drop p)
 have U:=TM (s:=s) (p:=p)
 have hr:=Ew (λc=>Ax c==1) (s.drop (p+1))
 rw [List.length_drop] at hr
 generalize hk:BQ (λc=>Ax c==1) (s.drop (p+1))=k at hr U
 have hc:AE (s.drop p)=92/\k≠0/\AE (s.drop (p+1+k))=92:=by
  by_cases hc:AE (s.drop p)=92/\k≠0/\AE (s.drop (p+1+k))=92
  .exact hc
  .rw [if_neg hc] at U;omega
 rw [if_pos hc] at U
 obtain ⟨h1,h2,h3⟩:=hc
 have hp1:p<s.length:=BS (k:=p) AC
 have hp2:p+1+k<s.length:=BS (k:=p+1+k) AC
 obtain ⟨e,he⟩:∃e,s[p+1+k]? =some e:=⟨s[p+1+k],List.getElem?_eq_getElem hp2⟩
 have he':s[((p+1+k:Nat):Int).toNat]? =some e:=he
 have hv:=Ck he
 have hb0:J2 (s.drop p)=92:=AC
 have hpk:((p+1+k:Nat):Int)+1=((p+(k+2):Nat):Int):=AC
 rw [U] at h
 refine pB Tryz.func296 ?_
 repeat' ((conv=>whnf);first|refine Ad 17 [13,16] [] ?_|exact Du|(refine Br ?_;intros)|(refine Dw ?_ ?_ ?_;rotate_left)|refine Am hb ?_|refine Eo (k:=0) hl AC Do hb ?_|refine Kq (q:=p+1) hl AC hk AC ?_|refine dN (p:=(p,p+(k+2))) hr2 AC rfl hpk (λw2' st1 hr3 hb3=>?_)|refine Am ((congrFun hb3 b).trans hb) ?_|refine Am (St.AJ _ _ _) ?_|refine Ad 11 [9] [] ?_|refine Ad 17 [13,16] [] ?_|fail)
 exact HH ((St.JL _ _ _ _).trans (congrArg (st1.Aa b) (SF AC))) (h w2' st1 hr3 hb3) rfl
end
end Go.Proofs.Z
