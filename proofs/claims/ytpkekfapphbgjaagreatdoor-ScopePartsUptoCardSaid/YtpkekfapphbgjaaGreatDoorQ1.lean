/-
  Parts of a proof: lemmas that the last text uses.
-/
import Derived.Test.YtpkekfapphbgjaaGreatDoorQ0
import Derived.Orders
import Derived.KernelRfl
import Derived.Test.YtpkekfapphbgjaaGreatDoorProg
import Derived.Test.YtpkekfapphbgjaaGreatDoorRows
import Derived.WalkKit
import Derived.ProofKit
import Derived.OpenShut
import Derived.JoinedCond
import Derived.ReadAgain
import Derived.Test.YtpkekfapphbgjaaGreatDoorCards
import Derived.Test.YtpkekfapphbgjaaGreatDoorOtie
import Derived.Lib.LaidIn
import Derived.Lib.LaidU8T
import Derived.Lib.LaidTab
import Derived.Shelf.Vars
import Derived.LaidHandle
import Derived.Deep.DeepHandedRow
import Derived.Deep.DeepWitnessRowRef
import Derived.IntWalk
import Derived.Recover
open Go.Proofs.YtpkekfapphbgjaaGreatDoor
set_option linter.unusedVariables false
set_option linter.unusedSimpArgs false
set_option maxHeartbeats 16000000
variable {d:Option Nat} {v:Go.Aw.V} {t:Go.TypeId} {l:List Int} {vs cs args:List Go.Aw.V} {bs:List Bool} {b id i j off k n m base rid:Nat} {x:Option (Nat×List Go.Aw.V)} {xs:List (Option (Nat×List Go.Aw.V))} {env e0 e':Go.Aw.Env} {all:List Go.Oper} {L:List (Option Nat)} {K:List Go.Aw.V->Prop} {o:Go.Oper} {b1 b0 U:List (Nat×List Go.Aw.V)} {Q:Go.Aw.AG->Go.Aw.Env->Go.Aw.St->Prop} {p c:Prop} {S sched:List (Nat×Bool)} {α:Type} {P:Go.Program} {f g:Go.FuncId} {R:Go.Aw.Au->Go.Aw.St->Prop} {I0 I:Go.Aw.Mem} {st0 st' s:Go.Aw.St} {w0 W:Go.World} {β:Nat->Option Nat} {fn:Go.Func} {es:List (List Go.Aw.V)} {T:List (Nat×Go.Aw.Ty)} {C:Go.FuncId->List Go.Aw.V->Go.Aw.St->(Go.Aw.Au->Go.Aw.St->Prop)->Prop} {ih:(Go.Aw.AG->Go.Aw.Env->Go.Aw.St->Prop)->Go.Aw.Env->Go.Aw.St->Prop} {r r':Go.Aw.Au} {rest:Go.Code}
namespace Go.Aw
open Go
def Qr (ts:List (Nat×V)) (d:Option Nat) (v:V):List (Nat×V):=match d with
 |some t=>(t,v)::ts
 |none=>ts
def GZ:List (Nat×V)->List Oper->List V->List Bool->List (Nat×V)
 |ts,o::r,v::vs,b::bs=>GZ (if b then Qr ts o.dst v else ts) r vs bs
 |ts,_,_,_=>ts
theorem Ea {ts:List (Nat×V)} {t:Nat}:assoc (Qr ts d v) t=if d=some t then some v else assoc ts t:=by
 cases d with
 |none=>rfl
 |some s=>
  show assoc ((s,v)::ts) t=_
  rw [Bk]
  simp_all
theorem Jl {t:Nat}:∀{l:List Oper} {vs:List V} {bs:List Bool} {ts:List (Nat×V)},(∀(j:Nat) (o:Oper),l[j]? =some o->bs[j]? =some true->o.dst≠some t)->assoc (GZ ts l vs bs) t=assoc ts t
 |o::r,v::vs,b::bs,ts,h=>by
  rw [GZ,Jl (λj o U hb=>h (j+1) o i7 i7)]
  cases b with
  |false=>rfl
  |true=>
   have:=h 0 o rfl rfl
   simp only [if_true]
   rw [Ea,if_neg this]
 |[],_,_,ts,h=>rfl
 |_::_,[],_,ts,h=>rfl
 |_::_,_::_,[],ts,h=>rfl
theorem QV {t:Nat}:∀{l:List Oper} {vs:List V} {bs:List Bool} {ts:List (Nat×V)} {j:Nat} {o:Oper} {v:V},l[j]? =some o->vs[j]? =some v->bs[j]? =some true->o.dst=some t->
 (∀(i:Nat) (o':Oper),i≠j->l[i]? =some o'->o'.dst≠some t)->assoc (GZ ts l vs bs) t=some v
 |o::r,v::vs,b::bs,ts,0,o',v',U,h2,h3,h4,h5=>by
  simp only [List.getElem?_cons_zero,Option.some.injEq] at U h2 h3
  subst U;subst h2;subst h3
  rw [GZ,Jl (λj o hj _=>h5 (j+1) o AC i7)]
  simp only [if_true]
  rw [Ea,if_pos h4]
 |o::r,v::vs,b::bs,ts,j+1,o',v',U,h2,h3,h4,h5=>by
  rw [GZ]
  exact QV (by simpa using U) i7 i7 h4 (λi o' hi ho=>h5 (i+1) o' AC i7)
 |[],_,_,ts,j,o,v,U,h2,h3,h4,h5=>by cases U
 |_::_,[],_,ts,j,o,v,U,h2,h3,h4,h5=>by cases h2
 |_::_,_::_,[],ts,j,o,v,U,h2,h3,h4,h5=>by cases h3
def Om (l:List Oper):Prop:=∀(i j:Nat) (o p:Oper) (t:Nat),l[i]? =some o->l[j]? =some p->i≠j->p.dst=some t->o.dst≠some t
theorem oQ {ts:List (Nat×V)} {l:List Oper} (U:Om l) (hv:vs.length=l.length) (bs:List Bool) (t:Nat):
 (∃(j:Nat) (o:Oper) (v:V),l[j]? =some o/\vs[j]? =some v/\bs[j]? =some true/\o.dst=some t/\assoc (GZ ts l vs bs) t=some v)\/
 ((∀(j:Nat) (o:Oper),l[j]? =some o->bs[j]? =some true->o.dst≠some t)/\assoc (GZ ts l vs bs) t=assoc ts t):=by
 by_cases h:∃(j:Nat) (o:Oper),l[j]? =some o/\bs[j]? =some true/\o.dst=some t
 .obtain ⟨j,o,h1,h2,h3⟩:=h
  have hj:j<vs.length:=by rw [hv];exact (List.getElem?_eq_some_iff.1 h1).1
  have h4:vs[j]? =some vs[j]:=List.getElem?_eq_getElem hj
  exact .inl ⟨j,o,_,h1,h4,h2,h3,QV h1 h4 h2 h3 λi o' hi ho=>U i j o' o t ho h1 hi h3⟩
 .have h':∀(j:Nat) (o:Oper),l[j]? =some o->bs[j]? =some true->o.dst≠some t:=λj o h1 h2 h3=>h ⟨j,o,h1,h2,h3⟩
  exact .inr ⟨h',Jl h'⟩
theorem cI {ts:List (Nat×V)} {l:List Oper} (U:Om l) (hv:vs.length=l.length) {bs':List Bool} {t:Nat}
 (h:∀(j:Nat) (o:Oper),l[j]? =some o->o.dst=some t->(bs[j]? =some true↔bs'[j]? =some true)):assoc (GZ ts l vs bs) t=assoc (GZ ts l vs bs') t:=by
 rcases oQ (ts:=ts) U hv bs t with ⟨j,o,v,h1,h2,h3,h4,h5⟩|⟨h1,h2⟩
 .rw [h5,QV h1 h2 ((h j o h1 h4).1 h3) h4 λi o' hi ho=>U i j o' o t ho h1 hi h4]
 .rw [h2,Jl λj o k1 k2 k3=>h1 j o k1 ((h j o k1 k3).2 k2) k3]
def uV (l:List (Nat×List V)):Option (Nat×List V)->List (Nat×List V)
 |some p=>p::l
 |none=>l
def KU:List (Option (Nat×List V))->List Bool->List (Nat×List V)->List (Nat×List V)
 |x::U,b::bs,l=>KU U bs (if b then uV l x else l)
 |_,_,l=>l
theorem kU {a:Nat} (h:a≠b):Nat.beq a b=false:=by
 cases hb:Nat.beq a b with
 |false=>rfl
 |true=>simp_all
theorem Oq {l:List (Nat×List V)}:assoc (uV l x) id=(match x with|some (i,cs)=>if i=id then some cs else assoc l id|none=>assoc l id):=by
 cases x with
 |none=>rfl
 |some p=>
  obtain ⟨i,cs⟩:=p
  show assoc ((i,cs)::l) id=_
  rw [Bk]
  simp_all
theorem HV {id:Nat}:∀{U:List (Option (Nat×List V))} {bs:List Bool} {l:List (Nat×List V)},(∀(j:Nat) (p:Nat×List V),U[j]? =some (some p)->bs[j]? =some true->p.1≠id)->assoc (KU U bs l) id=assoc l id
 |x::U,b::bs,l,h=>by
  rw [KU,HV (λj p hj hb=>h (j+1) p i7 i7)]
  cases b with
  |false=>rfl
  |true=>
   simp only [if_true,Oq]
   cases x with
   |none=>rfl
   |some p=>obtain ⟨i,cs⟩:=p;exact if_neg (h 0 (i,cs) rfl rfl)
 |[],_,_,h=>rfl
 |_::_,[],_,h=>rfl
theorem QU {id:Nat} {cs:List V}:∀{xs:List (Option (Nat×List V))} {bs:List Bool} {l:List (Nat×List V)} {j:Nat},xs[j]? =some (some (id,cs))->bs[j]? =some true->
 (∀(i:Nat) (p:Nat×List V),i≠j->xs[i]? =some (some p)->p.1≠id)->assoc (KU xs bs l) id=some cs
 |x::xs,b::bs,l,0,U,h2,h3=>by
  simp only [List.getElem?_cons_zero,Option.some.injEq] at U h2
  subst U;subst h2
  rw [KU,HV (λj p hj _=>h3 (j+1) p AC i7)]
  simp only [if_true,Oq]
 |x::xs,b::bs,l,j+1,U,h2,h3=>by
  rw [KU]
  exact QU (by simpa using U) i7 (λi p hi hp=>h3 (i+1) p AC i7)
 |[],_,_,j,U,h2,h3=>by cases U
 |_::_,[],_,j,U,h2,h3=>by cases h2
def ak (U:List (Option (Nat×List V))):Prop:=∀(i j:Nat) (p q:Nat×List V),U[i]? =some (some p)->U[j]? =some (some q)->i≠j->p.1≠q.1
theorem cH (U:ak xs) {bs':List Bool} {l:List (Nat×List V)}
 (h:∀(j:Nat) (p:Nat×List V),xs[j]? =some (some p)->p.1=id->(bs[j]? =some true↔bs'[j]? =some true)):assoc (KU xs bs l) id=assoc (KU xs bs' l) id:=by
 by_cases hx:∃(j:Nat) (p:Nat×List V),xs[j]? =some (some p)/\bs[j]? =some true/\p.1=id
 .obtain ⟨j,⟨i,cs⟩,h1,h2,rfl⟩:=hx
  rw [QU h1 h2 λk p hk hp=>U k j p _ hp h1 hk,QU h1 ((h j _ h1 rfl).1 h2) λk p hk hp=>U k j p _ hp h1 hk]
 .have h1:∀(j:Nat) (p:Nat×List V),xs[j]? =some (some p)->bs[j]? =some true->p.1≠id:=λj p a b c=>hx ⟨j,p,a,b,c⟩
  rw [HV h1,HV λj p a b c=>h1 j p a ((h j p a c).2 b) c]
theorem oX:(List.replicate i true)[j]? =some true↔j<i:=by grind
def TR (env:Env) (n:Nat) (l:List Oper) (vs:List V) (U:List (Option (Nat×List V))) (bs:List Bool):Env:=
 {tmps:=GZ env.tmps l vs bs,boxes:=KU U bs env.boxes,Bs:=n,sz:=env.sz,gl:=env.gl}
noncomputable def Bt (env:Env) (all:List Oper):List Oper->Nat
 |[]=>0
 |o::r=>bif GV env all o then Bt env all r+1 else 0
noncomputable def Hp (env:Env) (all:List Oper):List Oper->List (Option Nat)
 |[]=>[]
 |o::r=>bif GV env all o then xJ env o::Hp env all r else []
theorem JK {env:Env} {all:List Oper}:∀{l:List Oper} {K:Nat->List (Option Nat)->Prop},HR env all l K↔K (Bt env all l) (Hp env all l)
 |[],K=>Iff.rfl
 |o::r,K=>by
  rw [TS,Bt,Hp]
  cases GV env all o with
  |false=>rfl
  |true=>
   show (match xJ env o with|some id=>_|none=>_)↔_
   cases xJ env o<;>exact JK
theorem Sh {env:Env} {all:List Oper}:∀{l:List Oper} {i:Nat} {o:Oper},i<Bt env all l->l[i]? =some o->(Hp env all l)[i]? =some (xJ env o)
 |[],i,o,h,e=>by cases e
 |p::r,i,o,h,e=>by
  rw [Bt] at h
  rw [Hp]
  cases U:GV env all p with
  |false=>simp_all
  |true=>
   rw [U] at h
   cases i with
   |zero=>simp_all
   |succ i=>exact Sh i7 i7
theorem KT:∀{L:List (Option Nat)} {i j:Nat} {a:Nat},IK L=true->L[i]? =some (some a)->L[j]? =some (some a)->i=j
 |[],i,j,a,h,U,h2=>by cases U
 |none::r,i,j,a,h,U,h2=>by
  cases i with
  |zero=>grind
  |succ i=>
   cases j with
   |zero=>grind
   |succ j=>exact congrArg Nat.succ (KT (L:=r) h (by simpa using U) i7)
 |some b::r,i,j,a,h,U,h2=>by
  rw [IK] at h
  simp only [Bool.and_eq_true,Bool.not_eq_true',List.contains_eq_mem,decide_eq_false_iff_not] at h
  cases i with
  |zero=>
   grind
  |succ i=>
   cases j with
   |zero=>
    grind
   |succ j=>exact congrArg Nat.succ (KT (L:=r) h.2 (by simpa using U) i7)
theorem HH {L:List (Option Nat)}:∀{bs:List (Nat×List V)} {id:Nat} {cs:List V},assoc (Bl L bs) id=some cs->assoc bs id=some cs/\(some id) ∉ L
 |[],id,cs,h=>by cases h
 |(k,c)::r,id,cs,h=>by
  have e:Bl L ((k,c)::r)=Bool.rec (motive:=λ_=>List (Nat×List V)) ((k,c)::Bl L r) (Bl L r) (L.contains (some k)):=rfl
  rw [e] at h
  rw [Bk]
  cases hc:L.contains (some k) with
  |true=>
   rw [hc] at h
   obtain ⟨h1,h2⟩:=HH (bs:=r) h
   have U:k≠id:=λe=>by simp_all
   rw [kU U]
   simp_all
  |false=>
   rw [hc] at h
   have h:assoc ((k,c)::Bl L r) id=some cs:=h
   rw [Bk] at h
   cases hb:Nat.beq k id with
   |true=>
    simp_all
   |false=>rw [hb] at h;exact HH (bs:=r) h
section
variable {D:List Deferred} {P:Program} {T:List (Nat×Ty)} {C:FuncId->List V->St->(Au->St->Prop)->Prop} {I0 I:Mem} {st0 st:St} {w0 w:World} {β:Nat->Option Nat} {env:Env} {a:Act}
theorem HN {K:Env->Prop} (h:env.go d v K):(∀t,d=some t->t<env.sz)/\K {env with tmps:=Qr env.tmps d v}:=by
 cases d with
 |none=>exact ⟨λt e=>(by cases e),h⟩
 |some t=>
  obtain ⟨h1,U⟩:=As.1 h
  exact ⟨λs e=>by simp_all,U⟩
theorem Ii {yes no:Prop} (h:Bi all o env yes no):
 (yes/\∀p q:Prop,p->Bi all o env p q)\/(no/\∀p q:Prop,q->Bi all o env p q):=by
 unfold Bi at h
 cases hg:o.guard with
 |none=>
  rw [hg] at h
  exact .inl ⟨h,λp q U=>by unfold Bi;simp_all⟩
 |some g=>
  obtain ⟨j,want⟩:=g
  rw [hg] at h
  simp only at h
  split at h
  .rename_i b hb
   cases want<;>cases b<;>simp only [cond_true,cond_false,lit] at h
   .exact .inl ⟨h,λp q U=>by unfold Bi;rw [hg];simp only [hb,lit,cond_false];exact U⟩
   .exact .inr ⟨h,λp q U=>by unfold Bi;rw [hg];simp only [hb,lit,cond_false];exact U⟩
   .exact .inr ⟨h,λp q U=>by unfold Bi;rw [hg];simp only [hb,lit,cond_true];exact U⟩
   .exact .inl ⟨h,λp q U=>by unfold Bi;rw [hg];simp only [hb,lit,cond_true];exact U⟩
  .rename_i hb
   exact .inr ⟨h,λp q U=>by unfold Bi;simp_all⟩
  simp_all
def HY (T:List (Nat×Ty)) (C:FuncId->List V->St->(Au->St->Prop)->Prop) (all:List Oper) (b1 U:List (Nat×List V)) (st:St) (o:Oper) (E:Env) (n:Nat) (v:V) (x:Option (Nat×List V)):Prop:=
 match o.op with
 | .alloc t=>∃ty,assoc T t=some ty/\v=.BO n 0/\x=some (n,ty.zero.cells)
 | .box t y=>(E.Bu T t y).known=true/\v=.BO n 0/\x=some (n,(E.Bu T t y).cells)
 | .store t p y=>∃id off cs ty cs',E.eval p=.BO id off/\assoc b1 id=some cs/\assoc T t=some ty/\(E.Bu T t y).known=true/\(E.Bu T t y).cells.length=ty.zero.cells.length/\
    (off+(E.Bu T t y).cells.length<=cs.length/\NV cs=true/\(E.Bu T t y).cells.all V.sc=true/\cs'=cs.take off++(E.Bu T t y).cells++cs.drop (off+(E.Bu T t y).cells.length))/\v=.BE/\x=some (id,cs')
 |_=>Br T C all o U E st v/\x=none
def HF (T:List (Nat×Ty)) (C:FuncId->List V->St->(Au->St->Prop)->Prop) (all:List Oper) (b1 U:List (Nat×List V)) (st:St) (o:Oper) (E:Env) (n:Nat) (v:V) (x:Option (Nat×List V)):Prop:=
 Bi all o E (HY T C all b1 U st o E n v x) (v=.Bp []/\x=none)
theorem PV {K:V->Env->Prop}:env.QP cs K↔K (.BO env.Bs 0) {env with boxes:=(env.Bs,cs)::env.boxes}:=by
 unfold Env.QP
 rw [A9]
theorem K4 {new:List V} (h:Bm cs off new K):off+new.length<=cs.length/\NV cs=true/\new.all V.sc=true/\K (cs.take off++new++cs.drop (off+new.length)):=by
 unfold Bm at h
 obtain ⟨U,h⟩:=As.1 h
 obtain ⟨h1,h⟩:=As.1 h
 obtain ⟨h2,h⟩:=As.1 h
 exact ⟨Nat.le_of_ble_eq_true h1,U,h2,A9.1 h⟩
theorem Yz {K:V->Env->Prop} (h:QG T C all o b1 b0 env st K):
 ∃v x,HY T C all b1 b0 st o env env.Bs v x/\K v {env with boxes:=uV env.boxes x}:=by
 have quiet:(∃v,Br T C all o b0 env st v/\v.part λv=>K v env)->∃v,∃x:Option (Nat×List V),(Br T C all o b0 env st v/\x=none)/\K v {env with boxes:=uV env.boxes x}:=by
  rintro ⟨v,h1,h2⟩
  exact ⟨v,none,⟨h1,rfl⟩,V.N0.1 h2⟩
 cases ho:o.op<;>simp only [QG,HY,ho] at h |-<;>try exact quiet h
 case alloc t=>
  split at h
  .rename_i ty ht
   obtain ⟨_,h⟩:=As.1 h
   exact ⟨_,some (env.Bs,ty.zero.cells),⟨ty,ht,rfl,rfl⟩,PV.1 h⟩
  simp_all
 case box t y=>
  obtain ⟨_,h⟩:=As.1 h
  obtain ⟨U,h⟩:=As.1 (V.AJ.1 h)
  exact ⟨_,some _,⟨U,rfl,rfl⟩,PV.1 h⟩
 case store t p y=>
  split at h
  .rename_i id off he
   split at h
   .rename_i cs ty hcs ht
    obtain ⟨U,h⟩:=As.1 (V.AJ.1 h)
    simp only [Bool.and_eq_true] at U
    obtain ⟨g1,g0,g2,g3⟩:=K4 h
    exact ⟨.BE,some (id,_),⟨id,off,cs,ty,_,he,hcs,ht,U.1,Nat.eq_of_beq_eq_true U.2,⟨g1,g0,g2,rfl⟩,rfl,rfl⟩,g3⟩
   simp_all
  simp_all
theorem YC {all:List Oper} {Q:AG->Env->St->Prop} {e0:Env} {b1 b0:List (Nat×List V)}:∀{l:List Oper} {env:Env},IE T C all Q e0 b1 b0 l env st->∃(vs:List V) (U:List (Option (Nat×List V))),vs.length=Bt e0 all l/\U.length=Bt e0 all l/\
 (∀(i:Nat) (o:Oper) (v:V) (x:Option (Nat×List V)),i<Bt e0 all l->l[i]? =some o->vs[i]? =some v->U[i]? =some x->HF T C all b1 b0 st o (TR env (env.Bs+i) l vs U (List.replicate i true)) (env.Bs+i) v x)/\
 (∀(i:Nat) (o:Oper) (t:Nat),i<Bt e0 all l->l[i]? =some o->o.dst=some t->t<env.sz)/\
 Ey T C all Q (l.drop (Bt e0 all l)) (TR env (env.Bs+Bt e0 all l) l vs U (List.replicate (Bt e0 all l) true)) st
 |[],env,h=>⟨[],[],rfl,rfl,λi o v x e=>by simp_all,λi o t e=>by simp_all,h⟩
 |o::r,env,h=>by
  rw [YB] at h
  cases hk:GV e0 all o with
  |false=>
   rw [hk] at h
   have hl:Bt e0 all (o::r)=0:=by simp [Bt,hk]
   refine ⟨[],[],i7,i7,λi o v x e=>by omega,λi o t e=>by omega,?_⟩
   rw [hl]
   exact h
  |true=>
   rw [hk] at h
   have h:Bi all o env _ _:=h
   have hl:Bt e0 all (o::r)=Bt e0 all r+1:=by simp [Bt,hk]
   have step:∀(v:V) (x:Option (Nat×List V)),HF T C all b1 b0 st o env env.Bs v x->
    (Env.go {env with boxes:=uV env.boxes x} o.dst v λenv=>env.up λenv=>IE T C all Q e0 b1 b0 r env st)->∃(vs:List V) (U:List (Option (Nat×List V))),vs.length=Bt e0 all (o::r)/\U.length=Bt e0 all (o::r)/\
    (∀(i:Nat) (o':Oper) (v:V) (x:Option (Nat×List V)),i<Bt e0 all (o::r)->(o::r)[i]? =some o'->vs[i]? =some v->U[i]? =some x->HF T C all b1 b0 st o' (TR env (env.Bs+i) (o::r) vs U (List.replicate i true)) (env.Bs+i) v x)/\
    (∀(i:Nat) (o':Oper) (t:Nat),i<Bt e0 all (o::r)->(o::r)[i]? =some o'->o'.dst=some t->t<env.sz)/\
    Ey T C all Q ((o::r).drop (Bt e0 all (o::r))) (TR env (env.Bs+Bt e0 all (o::r)) (o::r) vs U (List.replicate (Bt e0 all (o::r)) true)) st:=by
    intro v x hv hg
    obtain ⟨h1,h2⟩:=HN hg
    have h2:IE T C all Q e0 b1 b0 r _ st:=h2
    obtain ⟨vs,U,k1,k2,k3,k4,k5⟩:=YC h2
    rw [hl]
    refine ⟨v::vs,x::U,by simp [k1],by simp [k2],?_,?_,?_⟩
    .intro i o' v' x' hi e1 e2 e3
     cases i with
     |zero=>
      simp only [List.getElem?_cons_zero,Option.some.injEq] at e1 e2 e3
      subst e1;subst e2;subst e3
      exact hv
     |succ i=>
      have:=k3 i o' v' x' AC i7 i7 i7
      have e:env.Bs+1+i=env.Bs+(i+1):=AC
      rw [<-e]
      exact this
    .grind
    .have e:env.Bs+1+Bt e0 all r=env.Bs+(Bt e0 all r+1):=AC
     rw [<-e]
     exact k5
   rcases Ii h with ⟨h1,h3⟩|⟨h1,h3⟩
   .obtain ⟨v,x,h4,h5⟩:=Yz h1
    exact step v x (h3 _ _ h4) h5
   .exact step (.Bp []) none (h3 _ _ ⟨rfl,rfl⟩) h1
structure Q8 (k:Nat) (all:List Oper):Prop where
 le:k<=all.length
 back:∀(i:Nat) (o:Oper),all[i]? =some o->∀e ∈ o.after,Region.binds .any e=true->e.on<i
 dst:Om (all.take (k))
 lo:∀(i j:Nat) (o p:Oper) (t:Nat),i<k->j<k->all[i]? =some o->all[j]? =some p->p.dst=some t->t ∈ Oper.Ch all o->j<i->reaches all all.length i j=true
 hi:∀(i j:Nat) (o p:Oper) (t:Nat),i<k->j<k->all[i]? =some o->all[j]? =some p->p.dst=some t->t ∈ Oper.Ch all o->i<j->reaches all all.length j i=true
 tail:∀(i j:Nat),k<=i->i<all.length->j<i->reaches all all.length i j=true
theorem Q8.of (h:KC k all=true):Q8 k all:=by
 simp only [KC,Bool.and_eq_true,List.all_eq_true,List.mem_range] at h
 obtain ⟨hk,h⟩:=h
 have lt:∀{i:Nat} {o:Oper},all[i]? =some o->i<all.length:=λe=>(List.getElem?_eq_some_iff.1 e).1
 have one:∀(i:Nat) (o:Oper),all[i]? =some o->(∀e ∈ o.after.toList,(!(Region.binds .any e)||Nat.blt e.on i)=true)/\
  (bif Nat.blt i (k) then (List.range (k)).all λj=>Nat.beq i j||match all[j]? with|none=>true|some p=>MH all i j o p
    else (List.range i).all λj=>reaches all all.length i j)=true:=by
  intro i o e
  have:=h i (lt e)
  simp only [e,Bool.and_eq_true] at this
  exact ⟨List.all_eq_true.1 this.1,this.2⟩
 have pair:∀(i j:Nat) (o p:Oper),i<k->j<k->all[i]? =some o->all[j]? =some p->i≠j->MH all i j o p=true:=by
  intro i j o p hi hj U e2 hij
  have:=(one i o U).2
  have hb:Nat.blt i (k)=true:=by rw [Nat.blt_eq];exact hi
  rw [hb] at this
  simp only [cond_true,List.all_eq_true,List.mem_range] at this
  have:=this j hj
  rw [e2] at this
  simp only [Bool.or_eq_true] at this
  rcases this with g|g
  .simp_all
  .exact g
 have edge:∀(i j:Nat) (o p:Oper) (t:Nat),i<k->j<k->all[i]? =some o->all[j]? =some p->i≠j->p.dst=some t->(o.dst≠some t)/\(t ∈ Oper.Ch all o->(if Nat.blt j i then reaches all all.length i j else reaches all all.length j i)=true):=by
  intro i j o p t hi hj U e2 hij ht
  have:=pair i j o p hi hj U e2 hij
  simp only [MH,ht,Bool.and_eq_true,Bool.or_eq_true,Bool.not_eq_true',beq_eq_false_iff_ne] at this
  refine ⟨this.1,λhm=>?_⟩
  rcases this.2 with g|g
  .simp_all
  .exact g
 refine ⟨Nat.le_of_ble_eq_true hk,λi o e x hx hb=>?_,λi j o p t U e2 hij ht=>?_,λi j o p t hi hj U e2 ht hm hlt=>?_,λi j o p t hi hj U e2 ht hm hlt=>?_,λi j hi hl hlt=>?_⟩
 .have:=(one i o e).1 x i7
  simp_all
 .grind
 .have:=(edge i j o p t hi hj U e2 AC ht).2 hm
  simp_all
 .have:=(edge i j o p t hi hj U e2 AC ht).2 hm
  rw [if_neg (by rw [Nat.blt_eq];omega)] at this
  omega
 .have:=(one i all[i] (List.getElem?_eq_getElem hl)).2
  have hb:Nat.blt i (k)=false:=by
   cases hb:Nat.blt i (k) with
   |false=>rfl
   |true=>rw [Nat.blt_eq] at hb;omega
  simp_all
def al (all:List Oper) (listed:Array Bool):Prop:=
 ∀(i:Nat) (o:Oper),all[i]? =some o->listed.getD i false=true->∀e ∈ o.after,Region.binds .any e=true->listed.getD e.on false=true
theorem Ez {all:List Oper} {listed:Array Bool} (hc:al all listed):∀{n i j:Nat} {o:Oper},reaches all n i j=true->all[i]? =some o->(∀e ∈ o.after,Region.binds .any e=true->listed.getD e.on false=true)->listed.getD j false=true
 |0,i,j,o,h,ho,he=>by cases h
 |n+1,i,j,o,h,ho,he=>by
  rw [reaches,ho] at h
  simp only [Bool.or_eq_true,List.any_eq_true,Bool.and_eq_true] at h
  rcases h with ⟨e,h1,h2,h3⟩|⟨e,h1,⟨h2,h3⟩,U⟩
  .have:=Nat.eq_of_beq_eq_true h3
   grind
  .have hl:=he e i7 h2
   cases hp:all[e.on]? with
   |none=>
    cases n with
    |zero=>cases U
    |succ n=>rw [reaches,hp] at U;cases U
   |some p=>exact Ez hc U hp (hc e.on p hp hl)
structure Env.eqv (e e':Env):Prop where
 tmps:∀t,assoc e.tmps t=assoc e'.tmps t
 boxes:∀t,assoc e.boxes t=assoc e'.boxes t
 Bs:e.Bs=e'.Bs
 sz:e.sz=e'.sz
theorem Rel.same {e:Env} (h:Rel D I0 st0 w0 I β e st a w) (k:e.eqv e'):Rel D I0 st0 w0 I β e' st a w:=
 ⟨h.fr,h.s,⟨h.f.size.trans k.sz,λt v x=>h.f.tmps t v ((k.tmps t).trans x),λid cs x=>h.f.box id cs ((k.boxes id).trans x),
   λid b x=>by rw [<-k.Bs];exact h.f.Bs id b x,h.f.inj,h.f.sep,h.f.defers⟩⟩
theorem OO {l:Array Bool} {d:Bool}:l.getD j d=(l.toList[j]?).getD d:=i7
theorem eK {e:Env} {bs:List (Nat×List V)} {l:List Nat} (U:∀t ∈ l,assoc e.tmps t=assoc e'.tmps t) (hn:e.Bs=e'.Bs) (hs:e.sz=e'.sz) (hg:e.gl=e'.gl):e.only bs l=e'.only bs l:=by
 unfold Env.only
 have:l.map (λt=>(t,e.get t))=l.map (λt=>(t,e'.get t)):=List.map_congr_left λt ht=>by unfold Env.get;simp_all
 simp_all
theorem Ri {e:Env}:∀{l:List Nat} {t:Nat},t ∈ l->assoc (l.map λt=>(t,e.get t)) t=some (e.get t)
 |x::r,t,h=>by
  rw [List.map_cons,Bk]
  cases U:Nat.beq x t with
  |true=>simp_all
  |false=>
   rcases List.mem_cons.1 h with rfl|h
   .simp_all
   .exact Ri h
theorem ZH {t:Nat} (h:.tmp t ∈ o.op.operands.toList):t ∈ Oper.Ch all o:=List.mem_append_left _ (List.mem_filterMap.2 ⟨.tmp t,h,rfl⟩)
theorem Gw {e:Env} {bs:List (Nat×List V)} (h:∀t ∈ Oper.Ch all o,assoc e.tmps t=assoc e'.tmps t):∀x ∈ o.op.operands.toList,(e.only bs (Oper.Ch all o)).eval x=e'.eval x:=by
 intro x hx
 cases x with
 |tmp t=>
  have U:t ∈ Oper.Ch all o:=ZH hx
  show Env.get _ t=e'.get t
  unfold Env.get Env.only
  simp only
  rw [Ri U]
  unfold Env.get
  grind
 |_=>rfl
theorem HJ {e:Env} (h:∀t ∈ Oper.Ch all o,assoc e.tmps t=assoc e'.tmps t):∀x ∈ o.op.operands.toList,e.eval x=e'.eval x:=by
 intro x U
 cases x with
 |tmp t=>show Env.get _ t=Env.get _ t;unfold Env.get;rw [h t (ZH U)]
 |_=>rfl
theorem GM {e:Env} {q:Prop} (h:∀t ∈ Oper.Ch all o,assoc e.tmps t=assoc e'.tmps t) (k:Bi all o e p q):Bi all o e' p q:=by
 unfold Bi at *
 cases U:o.guard with
 |none=>simp_all
 |some g=>
  obtain ⟨j,want⟩:=g
  rw [U] at k
  simp only at k |-
  have:((all[j]?).bind (·.dst)).map e.get=((all[j]?).bind (·.dst)).map e'.get:=by
   cases hd:(all[j]?).bind (·.dst) with
   |none=>rfl
   |some t=>
    have:=h t (List.mem_append_right _ i7)
    simp only [Option.map_some,Env.get,this]
  simp_all
theorem F5 {e:Env} {q U q':Prop} (h:p->U) (h':q->q') (k:Bi all o e p q):Bi all o e U q':=by
 rcases Ii k with ⟨k1,k2⟩|⟨k1,k2⟩
 .grind
 grind
theorem Yy (h:GV e0 all o=true):BT o.op=true\/(∃t,o.op=.alloc t)\/(∃t x,o.op=.box t x)\/∃t x y,o.op=.store t x y:=by
 unfold GV at h
 cases U:o.op<;>rw [U] at h<;>first
  |(cases h;done)
  |exact .inl rfl
  |exact .inr (.inl ⟨_,rfl⟩)
  |exact .inr (.inr (.inl ⟨_,_,rfl⟩))
  |exact .inr (.inr (.inr ⟨_,_,_,rfl⟩))
theorem gW (hT:G4 P T) (hC:∀f args st R,C f args st R->CE P f args st R/\Plain P f) (hM:∀f args st (R R':Au->St->Prop),(∀r s,R r s->R' r s)->C f args st R->C f args st R')
 {eh:Env} (hi:all[i]? =some o) (hq:GV eh all o=true) (h:Rel D I0 st0 w0 I β env st a w)
 (hag:∀t ∈ Oper.Ch all o,assoc e0.tmps t=assoc env.tmps t) (hb:∀id cs,assoc b0 id=some cs->assoc env.boxes id=some cs)
 (hb1:∀id cs',x=some (id,cs')->id≠n->∀cs,assoc b1 id=some cs->assoc env.boxes id=some cs) (hb2:∀id cs,assoc b1 id=some cs->id≠n)
 (hf:HF T C all b1 b0 st o e0 n v x) (hid:β n=none) (hn:n<env.Bs) {next:Act->World->Prop} (Q:AG->Env->St->Prop)
 (k:∀I β' c a' w',a'=a.put o.dst c->Rel D I0 st0 w0 I β' {env with boxes:=uV env.boxes x} st a w'->A2 I β' v c->(∀j,j<env.Bs->j≠n->β' j=β j)->next a' w'):wpOp P all.toArray (Ca D I0 st0 w0 Q) i next a w:=by
 unfold wpOp
 have hi':all.toArray[i]? =some o:=by simpa using hi
 simp only [hi']
 have yes:HY T C all b1 b0 st o e0 n v x->o.wp P a w next (Ca D I0 st0 w0 Q):=by
  intro hy
  have quiet:BT o.op=true->Br T C all o b0 e0 st v/\x=none->o.wp P a w next (Ca D I0 st0 w0 Q):=by
   rintro U ⟨hy2,rfl⟩
   have:=C5 (T:=T) (C:=C) (env:=e0.only b0 (Oper.Ch all o)) (env':=env) hM (K':=λv' e s=>v'=v/\e=env/\s=st) (Q':=Q) U (.inl rfl) (Gw hag) hb
    (λv' s s' g x=>⟨x.1,rfl,i7⟩) (λ_ _ x=>x.elim) hy2
   refine NY hT hC (λI β env' st' v' c w' hr hv hβ x=>?_) h this
   obtain ⟨rfl,rfl,rfl⟩:=x
   exact k _ _ _ _ _ rfl hr hv λj hj _=>hβ j hj
  have fresh:∀{cs:List V} {vs:List Value} {t:TypeId},v=.BO n 0->x=some (n,cs)->Ao I cs vs->(execOp a.eval o).run P w=.ok (.value (.pointer (some ⟨w.heap.size,0,none⟩))) (w.alloc (.cells vs.toArray t))->o.wp P a w next (Ca D I0 st0 w0 Q):=by
   rintro cs vs t rfl rfl hr hrun
   unfold Oper.wp
   rw [hrun]
   refine k I _ _ _ _ rfl (h.SF hr t hid hn (Nat.le_refl _)) (show ∃b,_/\_ from ⟨w.heap.size,if_pos rfl,rfl⟩) λj hj hne=>if_neg hne
  rcases Yy hq with U|⟨t,ho⟩|⟨t,y,ho⟩|⟨t,p,y,ho⟩
  .refine quiet U ?_
   unfold HY at hy
   split at hy
   .rename_i ho;rw [ho] at U;cases U
   .rename_i ho;rw [ho] at U;cases U
   .rename_i ho;rw [ho] at U;cases U
   omega
  .unfold HY at hy
   rw [ho] at hy
   obtain ⟨ty,h1,h2,h3⟩:=hy
   obtain ⟨vs,h4,h5⟩:=T5 (P:=P) hT I w a h1 ho
   grind
  .unfold HY at hy
   rw [ho] at hy
   obtain ⟨h1,h2,h3⟩:=hy
   have he:e0.Bu T t y=env.Bu T t y:=Cw (HJ hag y (by rw [ho];simp [Op.operands]))
   rw [he] at h1 h3
   exact fresh h2 h3 (ES ((h.f.Bu hT t y).rep (FI h1)) h1) (dB w a ho)
  .unfold HY at hy
   rw [ho] at hy
   obtain ⟨id,off,cs,ty,cs',h1,h2,h3,h4,h5,⟨h6,h60,h7,rfl⟩,rfl,rfl⟩:=hy
   have he:e0.Bu T t y=env.Bu T t y:=Cw (HJ hag y (by rw [ho];simp [Op.operands]))
   have hp:e0.eval p=env.eval p:=HJ hag p (by rw [ho];simp [Op.operands])
   rw [he] at h4 h5 h6 h7 hb1 k
   have hcs:=hb1 id _ rfl (hb2 id cs h2) cs h2
   have:=P7 (o:=o) (t:=t) (x:=p) (y:=y) (next:=next) (Qc:=Ca D I0 st0 w0 Q) (K:=λv' e s=>v'=.BE/\e={env with boxes:=(id,cs.take off++(env.Bu T t y).cells++cs.drop (off+(env.Bu T t y).cells.length))::env.boxes}/\s=st) hT (λI β' env' st' v' c w' hr hv hβ x=>by
    obtain ⟨rfl,rfl,rfl⟩:=x
    exact k _ _ _ _ _ rfl hr hv λj hj _=>hβ j hj) h ho (by
    rw [<-hp,h1]
    simp only [hcs,h3]
    refine V.AJ.2 (AH ?_ ?_)
    .simp_all
    .unfold Bm
     exact AH h60 (AH i7 (AH h7 (A9.2 GT)))  )
   omega
 have no:v=.Bp []/\x=none->next (a.put o.dst undef) w:=λ⟨e,e'⟩=>by
  subst e;subst e'
  exact k _ _ _ _ _ rfl h (A2.of (v:=.Bp []) (by simp only [AM];exact ⟨[],rfl,H1⟩)) λ_ _ _=>rfl
 have hf:=GM hag hf
 unfold Bi at hf
 cases hg:o.guard with
 |none=>
  rw [hg] at hf
  rw [if_pos (by simp [Region.wanted,hg])]
  simp_all
 |some g=>
  obtain ⟨j,want⟩:=g
  rw [hg] at hf
  simp only at hf
  split at hf
  .rename_i b hb
   have hy:=Kf h hb
   have hw:Region.wanted o (yielded all.toArray a.tmps)=(b==want):=by
    simp only [Region.wanted,hg,hy]
    cases b<;>cases want<;>rfl
   cases want<;>cases b<;>simp only [cond_true,cond_false,lit] at hf
   .simp_all
   .simp_all
   .simp_all
   simp_all
  .rename_i hb
   have hy:=Iv h hb
   rw [if_neg (by simp only [Region.wanted,hg,hy];simp_all)]
   grind
  simp_all
end
section
variable {D:List Deferred} {P:Program} {T:List (Nat×Ty)} {C:FuncId->List V->St->(Au->St->Prop)->Prop} {I0 I:Mem} {st0 st:St} {w0 w:World} {β:Nat->Option Nat} {env:Env} {a:Act}
theorem F2 {d:Bool} {listed:Array Bool} (h:listed.toList=bs++List.replicate n false) (U:bs.length=m):listed.getD j d=(if j<m then bs[j]?.getD d else if j<m+n then false else d):=by
 rw [OO,h]
 grind
theorem Ly:∀{l:List Oper} {vs:List V} {bs:List Bool} {ts:List (Nat×V)},GZ ts l vs bs=GZ ts (l.take vs.length) vs bs
 |[],vs,bs,ts=>by simp_all
 |o::r,[],bs,ts=>rfl
 |o::r,v::vs,[],ts=>rfl
 |o::r,v::vs,b::bs,ts=>by
  simp only [List.length_cons,List.take_succ_cons,GZ]
  exact Ly
theorem MK (hT:G4 P T) (hC:∀f args st R,C f args st R->CE P f args st R/\Plain P f) {k0:Nat} {all:List Oper} (DO:Q8 k0 all) {Q:AG->Env->St->Prop}:
 ∀(r:List Oper) (m:Nat) (listed:Array Bool) (I:Mem) (β:Nat->Option Nat) (env:Env) (st:St) (a:Act) (w:World),r=all.drop m->k0<=m->m<=all.length->
  listed.toList=List.replicate m true++List.replicate (all.length - m) false->Rel D I0 st0 w0 I β env st a w->Ey T C all Q r env st->
  ∀fuel,all.length - m<=fuel->wpAny P .any all.toArray (Ca D I0 st0 w0 Q) fuel listed a w
 |[],m,listed,I,β,env,st,a,w,hr,hk,hm,hl,h,k,fuel,hf=>by
  have hm':all.length<=m:=by
   have:=congrArg List.length hr
   simp at this
   omega
  have:Region.ready .any all.toArray listed=[]:=by
   rw [List.eq_nil_iff_forall_not_mem]
   intro j hj
   obtain ⟨h1,o,U,_⟩:=mem_ready.1 hj
   have hjl:j<all.length:=by
    have:=(Array.getElem?_eq_some_iff.1 U).1
    simpa using this
   rw [F2 hl (List.length_replicate ..),if_pos AC,List.getElem?_replicate,if_pos AC] at h1
   cases h1
  exact wpAny_done this ⟨I,β,env,st,.normal,h,trivial,k⟩ fuel
 |o::r,m,listed,I,β,env,st,a,w,hr,hk,hm,hl,h,k,fuel,hf=>by
  have hmo:all[m]? =some o:=by
   have:=congrArg (·[0]?) hr
   simp at this
   exact this.symm
  have hml:m<all.length:=(List.getElem?_eq_some_iff.1 hmo).1
  have hr':r=all.drop (m+1):=by
   have:=congrArg (List.drop 1) hr
   simpa [Nat.add_comm] using this
  obtain ⟨fuel,rfl⟩:∃n,fuel=n+1:=⟨fuel - 1,AC⟩
  have hin:∀j,j<m->listed.getD j false=true:=λj hj=>by
   rw [F2 hl (List.length_replicate ..),if_pos hj,List.getElem?_replicate,if_pos hj];rfl
  have hout:∀j,m<=j->listed.getD j false=false:=λj hj=>by
   rw [F2 hl (List.length_replicate ..),if_neg AC]
   simp_all
  have hmr:m ∈ Region.ready .any all.toArray listed:=mem_ready.2 ⟨by rw [F2 hl (List.length_replicate ..),if_neg AC,if_pos AC],o,i7,λe he hb=>hin _ (DO.back m o hmo e he hb)⟩
  have hcl:al all listed:=λi p hp hi e he hb=>by
   have hlt:i<m:=by
    rcases Nat.lt_or_ge i m with h'|h'
    .exact h'
    .simp_all
   have:=DO.back i p hp e he hb
   grind
  refine ⟨λh0=>(by simp_all),λi hi=>?_⟩
  have him:i=m:=by
   obtain ⟨h1,p,U,h3⟩:=mem_ready.1 hi
   have U:all[i]? =some p:=by simpa using U
   have hil:=(List.getElem?_eq_some_iff.1 U).1
   rcases Nat.lt_trichotomy i m with h'|h'|h'
   .grind
   .exact h'
   .have:=Ez hcl (DO.tail i m AC hil h') U h3
    simp_all
  subst him
  have hl':(listed.setIfInBounds i true).toList=List.replicate (i+1) true++List.replicate (all.length - (i+1)) false:=by
   simp only [Array.toList_setIfInBounds,hl]
   rw [List.set_append_right _ _ GT]
   have:all.length - i=(all.length - (i+1))+1:=AC
   rw [this,List.replicate_succ,List.length_replicate,Nat.sub_self,List.set_cons_zero,List.replicate_succ',List.append_assoc]
   rfl
  have next:∀{I β env st a w},Rel D I0 st0 w0 I β env st a w->Ey T C all Q r env st->wpAny P .any all.toArray (Ca D I0 st0 w0 Q) fuel (listed.setIfInBounds i true) a w:=λh k=>
   MK hT hC DO r (i+1) _ _ _ _ _ _ _ hr' AC hml hl' h k fuel AC
  rw [SX] at k
  have yes:Gj T C o env st (λv env st=>env.go o.dst v λenv=>Ey T C all Q r env st) Q->o.wp P a w (wpAny P .any all.toArray (Ca D I0 st0 w0 Q) fuel (listed.setIfInBounds i true)) (Ca D I0 st0 w0 Q):=by
   intro k
   refine NY hT hC (λI β env st v c w h hv _ k=>?_) h k
   obtain ⟨env',h1,U⟩:=Cj h hv k
   exact next h1 U
  have no:(env.go o.dst (.Bp []) λenv=>Ey T C all Q r env st)->wpAny P .any all.toArray (Ca D I0 st0 w0 Q) fuel (listed.setIfInBounds i true) (a.put o.dst undef) w:=by
   intro k
   obtain ⟨env',h1,U⟩:=Cj h (c:=undef) (A2.of (v:=.Bp []) (by simp only [AM];exact ⟨[],rfl,H1⟩)) k
   exact next h1 U
  unfold wpOp
  have hi':all.toArray[i]? =some o:=by simpa using hmo
  simp only [hi']
  unfold Bi at k
  cases hg:o.guard with
  |none=>
   rw [hg] at k
   rw [if_pos (by simp [Region.wanted,hg])]
   simp_all
  |some g=>
   obtain ⟨j,want⟩:=g
   rw [hg] at k
   simp only at k
   split at k
   .rename_i b hb
    have hy:=Kf h hb
    have hw:Region.wanted o (yielded all.toArray a.tmps)=(b==want):=by
     simp only [Region.wanted,hg,hy]
     cases b<;>cases want<;>rfl
    cases want<;>cases b<;>simp only [cond_true,cond_false,lit] at k
    .simp_all
    .simp_all
    .simp_all
    simp_all
   .rename_i hb
    have hy:=Iv h hb
    rw [if_neg (by simp only [Region.wanted,hg,hy];simp_all)]
    grind
   simp_all
theorem bF (hT:G4 P T) (hC:∀f args st R,C f args st R->CE P f args st R/\Plain P f) (hM:∀f args st (R R':Au->St->Prop),(∀r s,R r s->R' r s)->C f args st R->C f args st R')
 {U:Nat} (DO:Q8 U all) {eh:Env} (hv:vs.length=U) (hx:xs.length=U) (hkl:U<=all.length)
 (hid:∀(i:Nat) (p:Nat×List V),xs[i]? =some (some p)->p.1=env.Bs+i\/(L[i]? =some (some p.1)/\p.1<env.Bs)) (hU:ak xs) (hbn:∀id cs,assoc env.boxes id=some cs->id<env.Bs) (hhk:∀(i:Nat) (o:Oper),i<U->all[i]? =some o->GV eh all o=true)
 (hf:∀(i:Nat) (o:Oper) (v:V) (x:Option (Nat×List V)),i<U->all[i]? =some o->vs[i]? =some v->xs[i]? =some x->HF T C all env.boxes (Bl L env.boxes) st o (TR env (env.Bs+i) all vs xs (List.replicate i true)) (env.Bs+i) v x)
 (ht:∀(i:Nat) (o:Oper) (t:Nat),i<U->all[i]? =some o->o.dst=some t->t<env.sz)
 (hQ:Ey T C all Q (all.drop (U)) (TR env (env.Bs+U) all vs xs (List.replicate (U) true)) st):
 ∀(fuel:Nat) (bs:List Bool) (listed:Array Bool) (I:Mem) (β:Nat->Option Nat) (a:Act) (w:World),bs.length=U->listed.toList=bs++List.replicate (all.length - U) false->
  bs.count false+(all.length - U)<=fuel->al all listed->(∀j:Nat,bs[j]? =some false->β (env.Bs+j)=none)->
  Rel D I0 st0 w0 I β (TR env (env.Bs+U) all vs xs bs) st a w->wpAny P .any all.toArray (Ca D I0 st0 w0 Q) fuel listed a w:=by
 have hv':vs.length=(all.take (U)).length:=by rw [List.length_take,hv];omega
 have agreeT:∀{ts:List (Nat×V)} {bs bs':List Bool} {t:Nat},(∀(j:Nat) (o:Oper),j<U->all[j]? =some o->o.dst=some t->(bs[j]? =some true↔bs'[j]? =some true))->
  assoc (GZ ts all vs bs) t=assoc (GZ ts all vs bs') t:=by
  intro ts bs bs' t hh
  rw [Ly (l:=all) (bs:=bs),Ly (l:=all) (bs:=bs'),hv]
  exact cI DO.dst hv' λj o hj=>by grind
 intro fuel
 induction fuel with
 |zero=>
  intro bs listed I β a w hbl hl hfu hcl hβ hr
  have hbs:bs=List.replicate (U) true:=by
   rw [List.eq_replicate_iff]
   refine ⟨hbl,λb hb=>?_⟩
   cases b with
   |true=>rfl
   |false=>grind
  subst hbs
  exact MK hT hC DO _ _ _ _ _ _ _ _ _ rfl (Nat.le_refl _) hkl hl hr hQ 0 AC
 |succ fuel ih=>
  intro bs listed I β a w hbl hl hfu hcl hβ hr
  by_cases hc:bs.count false=0
  .have hbs:bs=List.replicate (U) true:=by
    rw [List.eq_replicate_iff]
    refine ⟨hbl,λb hb=>?_⟩
    cases b with
    |true=>rfl
    |false=>grind
   subst hbs
   exact MK hT hC DO _ _ _ _ _ _ _ _ _ rfl (Nat.le_refl _) hkl hl hr hQ _ AC
  .have hin:∀j:Nat,listed.getD j false=true->j<U/\bs[j]? =some true:=by
    intro j hj
    rw [F2 hl hbl] at hj
    split at hj
    .simp_all
    .simp_all
   have hex:∃j:Nat,bs[j]? =some false:=by
    have:false ∈ bs:=List.count_pos_iff.1 AC
    obtain ⟨j,hj,e⟩:=List.mem_iff_getElem.1 this
    exact ⟨j,by grind⟩
   have hmin:∃j:Nat,bs[j]? =some false/\∀i:Nat,i<j->bs[i]? =some true:=by
    obtain ⟨j,hj⟩:=hex
    induction j using Nat.strongRecOn with
    |_ j ih=>
     grind
   obtain ⟨m,hm,hmb⟩:=hmin
   have hmk:m<U:=by rw [<-hbl];exact (List.getElem?_eq_some_iff.1 hm).1
   have hready:Region.ready .any all.toArray listed≠[]:=by
    intro h0
    have:m ∈ Region.ready .any all.toArray listed:=mem_ready.2 ⟨by rw [F2 hl hbl,if_pos hmk,hm];rfl,all[m],GT,λe he hb=>by
     have hlt:=DO.back m all[m] GT e he hb
     rw [F2 hl hbl,if_pos AC,hmb _ hlt];rfl⟩
    rw [h0] at this;cases this
   refine ⟨λh0=>absurd h0 hready,λi hi=>?_⟩
   obtain ⟨h1,o,h2,h3⟩:=mem_ready.1 hi
   have h2':all[i]? =some o:=by simpa using h2
   have hil:i<all.length:=(List.getElem?_eq_some_iff.1 h2').1
   have hik:i<U:=by
    rcases Nat.lt_or_ge i (U) with h'|h'
    .exact h'
    .have:=Ez hcl (DO.tail i m h' hil AC) h2' h3
     grind
   have hbi:bs[i]? =some false:=by
    rw [F2 hl hbl,if_pos hik] at h1
    rw [List.getElem?_eq_getElem AC] at h1 |-
    exact congrArg some h1
   obtain ⟨v,hvi⟩:∃v,vs[i]? =some v:=⟨_,List.getElem?_eq_getElem (hv ▸ hik)⟩
   obtain ⟨x,hxi⟩:∃x,xs[i]? =some x:=⟨_,List.getElem?_eq_getElem (hx ▸ hik)⟩
   have agree:∀t ∈ Oper.Ch all o,assoc (GZ env.tmps all vs (List.replicate i true)) t=assoc (GZ env.tmps all vs bs) t:=by
    intro t ht
    refine agreeT λj p hjk hp hd=>?_
    rw [oX]
    rcases Nat.lt_trichotomy j i with hji|rfl|hij
    .have:=Ez hcl (DO.lo i j o p t hik hjk h2' hp hd ht hji) h2' h3
     grind
    .simp_all
    .refine ⟨λx=>by omega,λx=>?_⟩
     have hjl:listed.getD j false=true:=by rw [F2 hl hbl,if_pos hjk,x];rfl
     have:=Ez hcl (DO.hi i j o p t hik hjk h2' hp hd ht hij) hp (hcl j p hp hjl)
     grind
   refine gW hT hC hM h2' (hhk i o hik h2') hr agree (λid cs hd=>?_) (λid cs' hxe hne cs hcs=>?_) (λid cs hcs=>?_) (hf i o _ _ hik h2' hvi hxi) (hβ i hbi) (by show env.Bs+i<env.Bs+U;omega) Q λI' β' c a' w' ha hr' hrep hβ'=>?_
   .obtain ⟨d1,d2⟩:=HH hd
    have hlt:=hbn id cs d1
    show assoc (KU xs bs env.boxes) id=some cs
    rw [HV λj p hj _ e=>?_]
    .exact d1
    .rcases hid j p hj with g|⟨g,_⟩
     .omega
     grind
   .show assoc (KU xs bs env.boxes) id=some cs
    subst hxe
    rw [HV λj p hj hbj e=>?_]
    .exact hcs
    .by_cases hji:j=i
     .simp_all
     .exact hU j i p (id,cs') hj hxi hji e
   .grind
   .subst ha
    have hbil:i<bs.length:=AC
    have hput:Rel D I0 st0 w0 I' β' {TR env (env.Bs+U) all vs xs bs with boxes:=uV (KU xs bs env.boxes) x,tmps:=Qr (GZ env.tmps all vs bs) o.dst v} st (a.put o.dst c) w':=by
     cases hd:o.dst with
     |none=>exact hr'
     |some t=>exact hr'.put hrep (ht i o t hik h2' hd)
    refine ih (bs.set i true) _ I' β' _ w' i7 ?_ ?_ ?_ ?_ (hput.same ⟨λt=>?_,λid=>?_,rfl,rfl⟩)
    .simp_all
    .grind
    .intro j p hp hj e he hb
     by_cases hij:i=j
     .subst hij
      rw [h2'] at hp
      cases hp
      exact getD_set_true (h3 e he hb)
     .refine getD_set_true (hcl j p hp ?_ e he hb)
      simp_all
    .intro j hj
     by_cases hij:i=j
     .grind
     .rw [List.getElem?_set_ne hij] at hj
      have hjl:j<bs.length:=(List.getElem?_eq_some_iff.1 hj).1
      rw [hβ' (env.Bs+j) (by show env.Bs+j<env.Bs+U;omega) AC]
      grind
    .show assoc (Qr (GZ env.tmps all vs bs) o.dst v) t=assoc (GZ env.tmps all vs (bs.set i true)) t
     rw [Ea]
     split
     .rename_i hd
      rw [Ly (l:=all) (bs:=bs.set i true),hv]
      refine (QV (j:=i) (o:=o) ?_ hvi i7 hd λk p hk hp=>DO.dst k i p o t hp ?_ hk hd).symm
      .simp_all
      simp_all
     .rename_i hd
      refine agreeT λj p hjk hp hdp=>?_
      by_cases hij:i=j
      .grind
      simp_all
    .show assoc (uV (KU xs bs env.boxes) x) id=assoc (KU xs (bs.set i true) env.boxes) id
     rw [Oq]
     have ag:∀id',(∀p,x=some p->p.1≠id')->assoc (KU xs bs env.boxes) id'=assoc (KU xs (bs.set i true) env.boxes) id':=λid' hne=>by
      refine cH hU λj p hj hp=>?_
      by_cases hij:i=j
      .grind
      simp_all
     cases x with
     |none=>simp_all
     |some p=>
      obtain ⟨i',cs⟩:=p
      show (if i'=id then some cs else assoc (KU xs bs env.boxes) id)=_
      by_cases he:i'=id
      .subst he
       rw [if_pos rfl,QU hxi i7 λk p hk hp=>hU k i p (i',cs) hp hxi hk]
      simp_all
theorem HQ {e:Env} {all:List Oper}:∀{l:List Oper},Bt e all l<=l.length
 |[]=>Nat.le_refl _
 |o::r=>by
  rw [Bt]
  cases GV e all o with
  |true=>simp only [cond_true,List.length_cons];exact Nat.succ_le_succ HQ
  |false=>simp
theorem JJ {e:Env} {all:List Oper}:∀{l:List Oper} {i:Nat} {o:Oper},i<Bt e all l->l[i]? =some o->GV e all o=true
 |[],i,o,h,q=>by cases q
 |p::r,i,o,h,q=>by
  rw [Bt] at h
  cases U:GV e all p with
  |false=>simp_all
  |true=>
   rw [U] at h
   cases i with
   |zero=>simp_all
   |succ i=>exact JJ (by simpa using h) i7
theorem yF {E:Env} {p:Nat×List V} (h:HF T C all b1 U st o E n v (some p)):
 p.1=n\/∃t q y off cs,o.op=.store t q y/\E.eval q=.BO p.1 off/\assoc b1 p.1=some cs:=by
 rcases Ii h with ⟨h,_⟩|⟨⟨_,h⟩,_⟩
 .unfold HY at h
  grind
 grind
theorem RE (hT:G4 P T) (hC:∀f args st R,C f args st R->CE P f args st R/\Plain P f) (hM:∀f args st (R R':Au->St->Prop),(∀r s,R r s->R' r s)->C f args st R->C f args st R')
 (hd:(KC (Bt env all all) all&&IK (Hp env all all))=true)
 (h:IE T C all Q env env.boxes (Bl (Hp env all all) env.boxes) all env st) (hr:Rel D I0 st0 w0 I β env st a w):
 wpAny P .any all.toArray (Ca D I0 st0 w0 Q) all.toArray.size (Array.replicate all.toArray.size false) a {w with drawn:=w.drawn+1}:=by
 simp only [Bool.and_eq_true] at hd
 have DO:=Q8.of hd.1
 obtain ⟨vs,xs,h1,h2,h3,h4,h5⟩:=YC h
 have hr:=hr.HO (Et.drew w)
 have hfl:∀j,(Array.replicate all.toArray.size false).getD j false=false:=λj=>by
  rw [OO];grind
 have hbn:∀id cs,assoc env.boxes id=some cs->id<env.Bs:=λid cs e=>by
  obtain ⟨b,hb,_⟩:=hr.f.box id cs e
  exact hr.f.Bs id b hb
 have hid:∀(i:Nat) (p:Nat×List V),xs[i]? =some (some p)->p.1=env.Bs+i\/((Hp env all all)[i]? =some (some p.1)/\p.1<env.Bs):=by
  intro i p hp
  have hi:i<Bt env all all:=by rw [<-h2];exact (List.getElem?_eq_some_iff.1 hp).1
  have hia:i<all.length:=Nat.lt_of_lt_of_le hi HQ
  have ho:all[i]? =some all[i]:=List.getElem?_eq_getElem hia
  have hvi:vs[i]? =some (vs[i]'(by omega)):=List.getElem?_eq_getElem AC
  rcases yF (h3 i _ _ _ hi ho hvi hp) with e|⟨t,q,y,off,cs,e1,e2,e3⟩
  .omega
  .right
   refine ⟨?_,hbn _ _ e3⟩
   rw [Sh hi ho]
   have hk:=JJ hi ho
   unfold GV at hk
   rw [e1] at hk
   cases q with
   |tmp x=>
    simp only [Bool.and_eq_true,Bool.not_eq_true',List.any_eq_false,beq_iff_eq] at hk
    have hx:assoc (GZ env.tmps all vs (List.replicate i true)) x=assoc env.tmps x:=Jl λj o' hj _ e=>hk.1 o' (List.mem_of_getElem? hj) e
    have e2:env.eval (.tmp x)=.BO p.1 off:=by
     have U:Env.get (TR env (env.Bs+i) all vs xs (List.replicate i true)) x=.BO p.1 off:=e2
     unfold Env.get TR at U
     simp only [hx] at U
     exact U
    unfold xJ
    simp_all
   |_=>cases hk
 have hU:ak xs:=by
  intro i j p q hp hq hij e
  rcases hid i p hp with g1|⟨g1,l1⟩<;>rcases hid j q hq with g2|⟨g2,l2⟩
  .omega
  .omega
  .omega
  .rw [<-e] at g2;exact hij (KT hd.2 g1 g2)
 refine bF (env:=env) (eh:=env) (L:=Hp env all all) (bs:=List.replicate (Bt env all all) false) hT hC hM DO h1 h2 HQ hid hU hbn (λi o hi ho=>JJ hi ho) h3 h4 h5 _ _ _ β _ _ GT ?_ (by have:=HQ (e:=env) (all:=all) (l:=all);grind) (λi o ho hi=>?_) (λj hj=>?_)
  ((hr.yV (n:=env.Bs+Bt env all all) (Nat.le_add_right _ _)).same ⟨λt=>?_,λid=>?_,rfl,rfl⟩)
 .have:=HQ (e:=env) (all:=all) (l:=all)
  simp_all
 .simp_all
 .cases hb:β (env.Bs+j) with
  |none=>rfl
  |some b=>have:=hr.f.Bs _ b hb;omega
 .refine (Jl λj o ho hb=>?_).symm
  grind
 .refine (HV λj p hp hb=>?_).symm
  grind
end
section
variable {D:List Deferred} {P:Program} {T:List (Nat×Ty)} {C:FuncId->List V->St->(Au->St->Prop)->Prop} {I0 I:Mem} {st0 st:St} {w0 w:World} {β:Nat->Option Nat} {env:Env} {a:Act}
theorem MQ (hT:G4 P T) (hC:∀f args st R,C f args st R->CE P f args st R/\Plain P f) (hi:all[i]? =some o) {K:Env->St->Prop} {next:Act->World->Prop}
 (hn:∀{I β env st a w},Rel D I0 st0 w0 I β env st a w->K env st->next a w) (h:Rel D I0 st0 w0 I β env st a w)
 (k:Bi all o env (Gj T C o env st (λv env st=>env.go o.dst v λenv=>K env st) Q) (env.go o.dst (.Bp []) λenv=>K env st)):
 wpOp P all.toArray (Ca D I0 st0 w0 Q) i next a w:=by
 have yes:Gj T C o env st (λv env st=>env.go o.dst v λenv=>K env st) Q->o.wp P a w next (Ca D I0 st0 w0 Q):=by
  intro k
  refine NY hT hC (λI β env st v c w h hv _ k=>?_) h k
  obtain ⟨env',h1,h2⟩:=Cj h hv k
  exact hn h1 h2
 have no:(env.go o.dst (.Bp []) λenv=>K env st)->next (a.put o.dst undef) w:=by
  intro k
  obtain ⟨env',h1,h2⟩:=Cj h (c:=undef) (A2.of (v:=.Bp []) (by simp only [AM];exact ⟨[],rfl,H1⟩)) k
  exact hn h1 h2
 unfold wpOp
 have hi':all.toArray[i]? =some o:=by simpa using hi
 simp only [hi']
 unfold Bi at k
 cases U:o.guard with
 |none=>
  rw [U] at k
  rw [if_pos (by simp [Region.wanted,U])]
  simp_all
 |some g=>
  obtain ⟨j,want⟩:=g
  rw [U] at k
  simp only at k
  split at k
  .rename_i b hb
   have hy:=Kf h hb
   have hw:Region.wanted o (yielded all.toArray a.tmps)=(b==want):=by
    simp only [Region.wanted,U,hy]
    cases b<;>cases want<;>rfl
   cases want<;>cases b<;>simp only [cond_true,cond_false,lit] at k
   .simp_all
   .simp_all
   .simp_all
   simp_all
  .rename_i hb
   have hy:=Iv h hb
   rw [if_neg (by simp only [Region.wanted,U,hy];simp_all)]
   grind
  simp_all
def BG (all:List Oper) (bs:List Bool) (i:Nat):Bool:=
 !(bs.getD i true)&&(match all[i]? with|some o=>o.after.toList.all (λe=> !(Region.binds .any e)||bs.getD e.on false)|none=>false)
theorem EN {listed:Array Bool} (hl:listed.toList=bs) (hb:bs.length=all.length):i ∈ Region.ready .any all.toArray listed↔i<all.length/\BG all bs i=true:=by
 have U:∀j d,listed.getD j d=bs.getD j d:=λj d=>by rw [OO,hl,List.getD_eq_getElem?_getD]
 rw [mem_ready]
 unfold BG
 grind
theorem dr (hT:G4 P T) (hC:∀f args st R,C f args st R->CE P f args st R/\Plain P f) {Inv:List Bool->Env->St->Prop}
 (step:∀(bs:List Bool) (env:Env) (st:St) (i:Nat) (o:Oper),bs.length=all.length->Inv bs env st->all[i]? =some o->BG all bs i=true->
   Bi all o env (Gj T C o env st (λv env' st'=>env'.go o.dst v λU=>Inv (bs.set i true) U st') Q) (env.go o.dst (.Bp []) λenv'=>Inv (bs.set i true) env' st))
 (live:∀(bs:List Bool) (env:Env) (st:St),bs.length=all.length->Inv bs env st->bs=List.replicate all.length true\/∃j,j<all.length/\BG all bs j=true)
 (fin:∀(env:Env) (st:St),Inv (List.replicate all.length true) env st->∃env',env.eqv env'/\Q .normal env' st):
 ∀(fuel:Nat) (bs:List Bool) (listed:Array Bool) (I:Mem) (β:Nat->Option Nat) (env:Env) (st:St) (a:Act) (w:World),bs.length=all.length->listed.toList=bs->bs.count false<=fuel->
  Inv bs env st->Rel D I0 st0 w0 I β env st a w->wpAny P .any all.toArray (Ca D I0 st0 w0 Q) fuel listed a w:=by
 have full:∀{bs:List Bool},bs.length=all.length->bs.count false=0->bs=List.replicate all.length true:=λ{bs} hb h0=>by
  rw [List.eq_replicate_iff]
  grind
 have noready:∀{j:Nat},BG all (List.replicate all.length true) j=true->j<all.length->False:=λ{j} h hj=>by
  unfold BG at h
  simp_all
 have done:∀{I β env st a w},Inv (List.replicate all.length true) env st->Rel D I0 st0 w0 I β env st a w->Ca D I0 st0 w0 Q .normal a w:=λhi h=>by
  obtain ⟨env',h1,h2⟩:=fin _ _ hi
  exact ⟨_,_,env',_,.normal,h.same h1,trivial,h2⟩
 intro fuel
 induction fuel with
 |zero=>
  intro bs listed I β env st a w hb hl hf hi h
  have:=full hb AC
  subst this
  refine ⟨?_,done hi h⟩
  rw [List.eq_nil_iff_forall_not_mem]
  intro j hj
  obtain ⟨h1,h2⟩:=(EN hl hb).1 hj
  grind
 |succ fuel ih=>
  intro bs listed I β env st a w hb hl hf hinv h
  refine ⟨λh0=>?_,λi hi=>?_⟩
  .rcases live bs env st hb hinv with rfl|⟨j,h1,h2⟩
   .grind
   .have:=(EN hl hb).2 ⟨h1,h2⟩
    simp_all
  .obtain ⟨h1,h2⟩:=(EN hl hb).1 hi
   have ho:all[i]? =some all[i]:=List.getElem?_eq_getElem h1
   refine MQ hT hC (Q:=Q) ho (λ{I β env st a w} h k=>?_) h (step bs env st i _ hb hinv ho h2) (K:=λenv st=>Inv (bs.set i true) env st)
   have hbi:i<bs.length:=AC
   refine ih (bs.set i true) _ I β env st a w i7 (by simp [hl]) ?_ k h
   have:=List.count_set (a:=true) (i:=i) (l:=bs) (b:=false) hbi
   unfold BG at h2
   simp_all
def writer (all:List Oper) (t:Nat):Option Nat:=(List.range all.length).find? λj=>match all[j]? with|some o=>o.dst==some t|none=>false
theorem Qg {t:Nat} (h:writer all t=some j):∃o,all[j]? =some o/\o.dst=some t:=by
 have:=List.find?_some h
 grind
theorem ai {t:Nat} (h:writer all t=none) (j:Nat) (o:Oper) (U:all[j]? =some o):o.dst≠some t:=by
 have:=List.find?_eq_none.1 h j (List.mem_range.2 (List.getElem?_eq_some_iff.1 U).1)
 simp_all
theorem jX (U:Om all) {t:Nat} (ho:all[j]? =some o) (hd:o.dst=some t):writer all t=some j:=by
 cases h:writer all t with
 |none=>exact absurd hd (ai h j o ho)
 |some k=>
  obtain ⟨p,h1,h2⟩:=Qg h
  by_cases e:j=k
  .rw [e]
  .exact absurd hd (U j k o p t ho h1 e h2)
noncomputable def G1 (all:List Oper) (ts:List (Nat×V)) (vs:Nat->V) (S:Nat->Bool) (t:Nat):Option V:=match writer all t with
 |some j=>if S j=true then some (vs j) else assoc ts t
 |none=>assoc ts t
theorem CT {ts:List (Nat×V)} {vs U:Nat->V} {S S':Nat->Bool} {t:Nat} (h:∀j o,all[j]? =some o->o.dst=some t->S j=S' j/\(S j=true->vs j=U j)):G1 all ts vs S t=G1 all ts U S' t:=by
 unfold G1
 cases hw:writer all t with
 |none=>rfl
 |some j=>
  obtain ⟨o,h1,h2⟩:=Qg hw
  simp_all
def Pw (vs:Nat->V) (i:Nat) (v:V):Nat->V:=λj=>if j=i then v else vs j
theorem Gz (U:Om all) {ts:List (Nat×V)} {vs:Nat->V} {S S':Nat->Bool} {l:List (Nat×V)} (ho:all[i]? =some o) (hl:∀t,assoc l t=G1 all ts vs S t) (hS:∀j,j≠i->S' j=S j) (hi:S' i=true) (t:Nat):
 assoc (Qr l o.dst v) t=G1 all ts (Pw vs i v) S' t:=by
 rw [Ea]
 split
 .rename_i hd
  unfold G1
  rw [jX U ho hd]
  simp [hi,Pw]
 .rename_i hd
  rw [hl]
  refine CT λj p hp hpd=>?_
  have hne:j≠i:=λe=>by simp_all
  exact ⟨(hS j hne).symm,λ_=>by simp [Pw,hne]⟩
structure Q9 (all:List Oper) (sched:List (Nat×Bool)):Prop where
 back:∀pre i q r o,sched=pre++(i,q)::r->all[i]? =some o->∀e ∈ o.after,Region.binds .any e=true->e.on ∈ pre.map (·.1)
 kind:∀pre i q r,sched=pre++(i,q)::r->∃o,all[i]? =some o/\(bif q then Fo o.op else (BT o.op||Da o.op))=true
 nodup:∀pre i q r,sched=pre++(i,q)::r->i ∉ pre.map (·.1)
 chain:∀pre i r,sched=pre++(i,false)::r->∀x ∈ r,reaches all all.length x.1 i=true
 cover:∀i,i<all.length->i ∈ sched.map (·.1)
 dst:Om all
 lo:∀(i j:Nat) (o p:Oper) (t:Nat),all[i]? =some o->all[j]? =some p->p.dst=some t->t ∈ Oper.Ch all o->j<i->reaches all all.length i j=true
 hi:∀(i j:Nat) (o p:Oper) (t:Nat),all[i]? =some o->all[j]? =some p->p.dst=some t->t ∈ Oper.Ch all o->i<j->reaches all all.length j i=true
theorem ck (all:List Oper) (p:Nat×Bool) (r:List (Nat×Bool)) (done:List Nat):eC all (p::r) done=((match all[p.1]? with
 |some o=>(o.after.toList.all λe=> !(Region.binds .any e)||done.contains e.on)&&(bif p.2 then Fo o.op else (BT o.op||Da o.op))
 |none=>false)&&(!(done.contains p.1)&&((p.2||r.all λx=>reaches all all.length x.1 p.1)&&eC all r (p.1::done)))):=rfl
theorem YZ {all:List Oper}:∀{l:List (Nat×Bool)} {done:List Nat},eC all l done=true->∀pre i q r,l=pre++(i,q)::r->
 ∃o,all[i]? =some o/\(∀e ∈ o.after,Region.binds .any e=true->e.on ∈ done\/e.on ∈ pre.map (·.1))/\(bif q then Fo o.op else (BT o.op||Da o.op))=true/\(i ∉ done/\i ∉ pre.map (·.1))/\(q=true\/∀x ∈ r,reaches all all.length x.1 i=true)
 |[],_,_,pre,i,q,r,e=>by simp_all
 |(k,b)::l,done,h,pre,i,q,r,e=>by
  rw [ck] at h
  simp only [Bool.and_eq_true] at h
  obtain ⟨h1,h2,h3,U⟩:=h
  cases pre with
  |nil=>
   grind
  |cons p pre=>
   simp only [List.cons_append,List.cons.injEq] at e
   obtain ⟨rfl,rfl⟩:=e
   obtain ⟨o,k1,k2,k3,⟨k4,k5⟩,k6⟩:=YZ U pre i q r rfl
   grind
theorem Q9.of (h:Kk sched all=true):Q9 all sched:=by
 unfold Kk at h
 simp only [Bool.and_eq_true,List.all_eq_true,List.mem_range,List.any_eq_true] at h
 obtain ⟨h1,h2,h3⟩:=h
 have hat:=YZ h2
 have lt:∀{i:Nat} {o:Oper},all[i]? =some o->i<all.length:=λe=>(List.getElem?_eq_some_iff.1 e).1
 have pair:∀(i j:Nat) (o p:Oper),all[i]? =some o->all[j]? =some p->i≠j->MH all i j o p=true:=by
  intro i j o p e1 e2 hij
  have:=h3 i (lt e1) j (lt e2)
  rw [e1,e2] at this
  simp only [Bool.or_eq_true] at this
  rcases this with g|g
  .simp_all
  .exact g
 have U:∀(i j:Nat) (o p:Oper) (t:Nat),all[i]? =some o->all[j]? =some p->i≠j->p.dst=some t->(o.dst≠some t)/\(t ∈ Oper.Ch all o->(if Nat.blt j i then reaches all all.length i j else reaches all all.length j i)=true):=by
  intro i j o p t e1 e2 hij ht
  have:=pair i j o p e1 e2 hij
  simp only [MH,ht,Bool.and_eq_true,Bool.or_eq_true,Bool.not_eq_true',beq_eq_false_iff_ne] at this
  refine ⟨this.1,λhm=>?_⟩
  rcases this.2 with g|g
  .simp_all
  .exact g
 have nod:∀pre i q r,sched=pre++(i,q)::r->i ∉ pre.map (·.1):=λpre i q r e=>by grind
 refine ⟨λpre i q r o e ho x hx hb=>?_,λpre i q r e=>?_,nod,λpre i r e x hx=>?_,λi hi=>?_,λi j o p t e1 e2 hij ht=>(U i j o p t e1 e2 hij ht).1,λi j o p t e1 e2 ht hm hlt=>?_,λi j o p t e1 e2 ht hm hlt=>?_⟩
 .grind
 .grind
 .grind
 .simp_all
 .have:=(U i j o p t e1 e2 AC ht).2 hm
  simp_all
 .have:=(U i j o p t e1 e2 AC ht).2 hm
  rw [if_neg (by rw [Nat.blt_eq];omega)] at this
  omega
theorem Q9.ahead {all:List Oper} {sched:List (Nat×Bool)} (M:Q9 all sched):∀(n:Nat) {i j:Nat},reaches all n i j=true->∀pre q r,sched=pre++(i,q)::r->j ∈ pre.map (·.1)
 |0,i,j,h,pre,q,r,e=>by cases h
 |n+1,i,j,h,pre,q,r,e=>by
  obtain ⟨o,ho,_⟩:=M.kind pre i q r e
  rw [reaches,ho] at h
  simp only [Bool.or_eq_true,List.any_eq_true,Bool.and_eq_true] at h
  rcases h with ⟨x,h1,U,h3⟩|⟨x,h1,⟨U,h3⟩,h4⟩
  .have:=Nat.eq_of_beq_eq_true h3
   subst this
   exact M.back pre i q r o e ho x i7 U
  .have hm:=M.back pre i q r o e ho x i7 U
   obtain ⟨p,hp,hpe⟩:=List.mem_map.1 hm
   obtain ⟨Dd,r1,e1⟩:=List.append_of_mem hp
   have:=M.ahead n h4 Dd p.2 (r1++(i,q)::r) (by grind)
   simp_all
end
section
variable {D:List Deferred} {P:Program} {T:List (Nat×Ty)} {C:FuncId->List V->St->(Au->St->Prop)->Prop} {I0 I:Mem} {st0 st:St} {w0 w:World} {β:Nat->Option Nat} {env:Env} {a:Act}
theorem PM {K:Env->Prop} (h:∀t,d=some t->t<env.sz) (k:K {env with tmps:=Qr env.tmps d v}):env.go d v K:=by
 cases d with
 |none=>exact k
 |some t=>exact AH i7 k
theorem KE (h:HI S all i=true):GC S all i=true:=by
 unfold HI at h
 unfold GC
 simp_all
def zq (T:List (Nat×Ty)) (C:FuncId->List V->St->(Au->St->Prop)->Prop) (all:List Oper) (S:List (Nat×Bool)) (sti:St) (b0:List (Nat×List V)) (U:Env) (vs:Nat->V) (pre:List (Nat×Bool)) (j:Nat) (o:Oper):Prop:=
 (∀t,o.dst=some t->t<U.sz)/\∀e:Env,(∀t ∈ Oper.Ch all o,assoc e.tmps t=G1 all U.tmps vs (λk=>decide (k ∈ pre.map (·.1))) t)->e.Bs=U.Bs->e.sz=U.sz->e.gl=U.gl->
   Bi all o e (Br T C all o b0 e Kl (vs j)\/(HI S all j=true/\Br T C all o U.boxes e sti (vs j))\/(GC S all j=true/\Br T C all o U.boxes e Kl (vs j))) (vs j=.Bp [])
structure MF (T:List (Nat×Ty)) (C:FuncId->List V->St->(Au->St->Prop)->Prop) (all:List Oper) (sched:List (Nat×Bool)) (sti:St) (L:List Nat) (b0:List (Nat×List V)) (Q:AG->Env->St->Prop) (E0:Env)
 (vs:Nat->V) (pre post:List (Nat×Bool)) (Ef:Env) (bs:List Bool) (e:Env) (st:St):Prop where
 split:sched=pre++post
 sub:∀j,bs.getD j false=true->j ∈ pre.map (·.1)
 lT:∀j,(j,false) ∈ pre->bs.getD j false=true
 boxes:Ef.boxes=e.boxes
 n1:Ef.Bs=E0.Bs
 n2:e.Bs=E0.Bs
 s1:Ef.sz=E0.sz
 s2:e.sz=E0.sz
 g1:Ef.gl=E0.gl
 g2:e.gl=E0.gl
 tm:∀t,assoc e.tmps t=G1 all E0.tmps vs (λj=>bs.getD j false) t
 tf:∀t,assoc Ef.tmps t=G1 all E0.tmps vs (λk=>decide (k ∈ pre.map (·.1))) t
 bx:∀id cs,assoc b0 id=some cs->assoc e.boxes id=some cs
 go:F9 T C all sched L b0 Q post Ef st
 x7:(∀k,(k,false) ∉ pre)->st=sti
 sr:(∀k o,(k,false) ∈ pre->all[k]? =some o->Da o.op=false)->e.boxes=E0.boxes
 hy:∀Dd j r o,pre=Dd++(j,true)::r->all[j]? =some o->zq T C all sched sti b0 E0 vs Dd j o
 cl:∀i o,all[i]? =some o->bs.getD i false=true->∀x ∈ o.after,Region.binds .any x=true->bs.getD x.on false=true
def LN (T:List (Nat×Ty)) (C:FuncId->List V->St->(Au->St->Prop)->Prop) (all:List Oper) (sched:List (Nat×Bool)) (U:St) (L:List Nat) (b0:List (Nat×List V)) (Q:AG->Env->St->Prop) (E0:Env) (bs:List Bool) (e:Env) (st:St):Prop:=
 ∃vs pre post Ef,MF T C all sched U L b0 Q E0 vs pre post Ef bs e st/\∀p r,post=p::r->p.2=false
theorem zq.Pw {all:List Oper} {S:List (Nat×Bool)} {U:St} {b0:List (Nat×List V)} {E0:Env} {vs:Nat->V} {pre:List (Nat×Bool)} {j:Nat} {o:Oper} {i:Nat} {v:V} (h:zq T C all S U b0 E0 vs pre j o) (h1:i≠j) (h2:i ∉ pre.map (·.1)):zq T C all S U b0 E0 (Pw vs i v) pre j o:=by
 refine ⟨h.1,λe he k1 k2 k3=>?_⟩
 have hj:Go.Aw.Pw vs i v j=vs j:=if_neg (λe=>h1 e.symm)
 rw [hj]
 refine h.2 e (λt ht=>(he t ht).trans (CT λk p _ _=>⟨rfl,λhk=>?_⟩)) k1 k2 k3
 have hk:k ∈ pre.map (·.1):=of_decide_eq_true hk
 exact if_neg λ(e:k=i)=>h2 (e ▸ hk)
theorem MJ {pre Dd r:List α} {x y:α} (h:pre++[x]=Dd++y::r):(pre=Dd/\x=y)\/∃U,pre=Dd++y::U:=by
 rcases List.eq_nil_or_concat r with rfl|⟨U,z,rfl⟩
 .simp_all
 .rw [List.concat_eq_append,show Dd++y::(U++[z])=(Dd++y::U)++[z] by simp] at h
  have:=List.append_inj' h rfl
  simp_all
theorem KP {all:List Oper} {sched:List (Nat×Bool)} (M:Q9 all sched) {sti:St} {L:List Nat} {b0:List (Nat×List V)} {Q:AG->Env->St->Prop} {E0:Env} {bs:List Bool} {e:Env} {st:St}:
 ∀(post:List (Nat×Bool)) (vs:Nat->V) (pre:List (Nat×Bool)) (U:Env),MF T C all sched sti L b0 Q E0 vs pre post U bs e st->LN T C all sched sti L b0 Q E0 bs e st
 |[],vs,pre,U,h=>⟨vs,pre,[],U,h,λp r e=>by cases e⟩
 |(i,false)::r,vs,pre,U,h=>⟨vs,pre,_,U,h,λp r e=>by grind⟩
 |(i,true)::r,vs,pre,U,h=>by
  obtain ⟨o,ho,_⟩:=M.kind pre i true r h.split
  have hni:=M.nodup pre i true r h.split
  have hbi:bs.getD i false=false:=by
   cases hb:bs.getD i false with
   |false=>rfl
   |true=>exact absurd (h.sub i hb) hni
  have hgo:=h.go
  rw [ME] at hgo
  simp only [ho] at hgo
  have hst:HI sched all i=true->st=sti:=λhe=>h.x7 λk hk=>by
   unfold HI at he
   have h1:=List.all_eq_true.1 he (k,false) (by rw [h.split];simp_all)
   simp only [Bool.false_or] at h1
   obtain ⟨pa,ra,ea⟩:=List.append_of_mem hk
   have h2:=M.ahead _ h1 pa false (ra++(i,true)::r) (by rw [h.split,ea];simp)
   simp_all
  have hbx:GC sched all i=true->U.boxes=E0.boxes:=λhe=>h.boxes.trans (h.sr λk ok hk hok=>by
   unfold GC at he
   have h1:=List.all_eq_true.1 he (k,false) (by rw [h.split];simp_all)
   simp only [Bool.false_or,hok] at h1
   cases hst:Da ok.op with
   |false=>rfl
   |true=>
    rw [hst] at h1
    simp only [Bool.not_true,Bool.false_or] at h1
    obtain ⟨pa,ra,ea⟩:=List.append_of_mem hk
    have h2:=M.ahead _ h1 pa false (ra++(i,true)::r) (by rw [h.split,ea];simp)
    simp_all)
  have hes:HI sched all i=true->GC sched all i=true:=KE
  have key:∃v,U.go o.dst v (λenv=>F9 T C all sched L b0 Q r env st)/\Bi all o U (Br T C all o b0 U Kl v\/(HI sched all i=true/\Br T C all o E0.boxes U sti v)\/(GC sched all i=true/\Br T C all o E0.boxes U Kl v)) (v=.Bp []):=by
   rcases Ii hgo with ⟨⟨v,k1,k2⟩,k3⟩|⟨k1,k3⟩
   .exact ⟨v,V.N0.1 k2,k3 _ _ (k1.imp id λy=>y.imp (λy=>⟨y.1,i7⟩) λy=>⟨y.1,i7⟩)⟩
   .grind
  obtain ⟨v,k1,k2⟩:=key
  obtain ⟨hd,k1⟩:=HN k1
  have hmem:∀k,k≠i->(k ∈ (pre++[(i,true)]).map (·.1)↔k ∈ pre.map (·.1)):=λk hk=>by
   simp [hk]
  refine KP M r (Pw vs i v) (pre++[(i,true)]) {U with tmps:=Qr U.tmps o.dst v} ⟨by rw [h.split];simp,λj hj=>?_,λj hj=>?_,h.boxes,h.n1,h.n2,h.s1,h.s2,h.g1,h.g2,λt=>?_,λt=>?_,h.bx,k1,λhk=>h.x7 λk hm=>hk k (List.mem_append_left _ hm),λhk=>h.sr λk o hm ho=>hk k o (List.mem_append_left _ hm) ho,λDd j r' o' hs ho'=>?_,h.cl⟩
  .rw [List.map_append];exact List.mem_append_left _ (h.sub j hj)
  .rcases List.mem_append.1 hj with g|g
   .exact h.lT j g
   .simp at g
  .rw [h.tm]
   refine CT λk p hk _=>⟨rfl,λhb=>?_⟩
   have:k≠i:=λe=>by simp_all
   exact (if_neg this).symm
  .exact Gz (S':=λk=>decide (k ∈ (pre++[(i,true)]).map (·.1))) M.dst ho h.tf (λj hj=>by simp_all) GT t
  .rcases MJ hs with ⟨rfl,e2⟩|⟨r2,e2⟩
   .cases e2
    rw [ho] at ho'
    cases ho'
    refine ⟨λt ht=>by rw [<-h.s1];simp_all,λe' he q1 q2 q3=>?_⟩
    have hv:Pw vs i v i=v:=if_pos rfl
    rw [hv]
    have ag:∀t ∈ Oper.Ch all o,assoc U.tmps t=assoc e'.tmps t:=λt ht=>by
     rw [he t ht,h.tf t]
     refine CT λk p _ _=>⟨rfl,λhk=>?_⟩
     have hk:k ∈ pre.map (·.1):=of_decide_eq_true hk
     exact (if_neg λ(e:k=i)=>hni (e ▸ hk)).symm
    have:=GM ag k2
    refine F5 (λx=>?_) (λx=>x) this
    unfold Br at x |-
    rw [<-eK (bs:=b0) (e:=U) (e':=e') ag (by rw [h.n1,q1]) (by rw [h.s1,q2]) (by rw [h.g1,q3]),<-eK (bs:=E0.boxes) (e:=U) (e':=e') ag (by rw [h.n1,q1]) (by rw [h.s1,q2]) (by rw [h.g1,q3])]
    exact x
   .have hj:=h.hy Dd j r2 o' e2 ho'
    refine hj.Pw (λe=>?_) (λhm=>hni ?_)
    .simp_all
    simp_all
theorem K5 {x y:Operand} (ho:o.op=.store t x y) {st:St} {e:Env} {L:List Nat} {K K':V->Env->St->Prop} {Q':AG->Env->St->Prop} (hL:Js L e o=true)
 (he:∀x ∈ o.op.operands.toList,e.eval x=e'.eval x) (hb:e.boxes=e'.boxes) (hn:e.Bs=e'.Bs) (hs:e.sz=e'.sz) (hg:e.gl=e'.gl)
 (hK:∀s B,(∀id cs,id ∉ L->assoc e.boxes id=some cs->assoc B id=some cs)->K .BE {e with boxes:=B} s->K' .BE {e' with boxes:=B} s):Gj T C o e st K Q->Gj T C o e' st K' Q':=by
 have hx:e.eval x=e'.eval x:=he x (by rw [ho];simp [Op.operands])
 have hy:e.Bu T t y=e'.Bu T t y:=Cw (he y (by rw [ho];simp [Op.operands]))
 unfold Js at hL
 rw [ho] at hL
 simp only at hL
 simp only [Gj,ho]
 rw [<-hx]
 obtain ⟨ts,bs,n,sz,gl⟩:=e
 obtain ⟨ts',bs',n',sz',gl'⟩:=e'
 simp only at hb hn hs hg hL
 subst hb;subst hn;subst hs;subst hg
 split
 .rename_i id off hev
  rw [hev] at hL
  split
  .rename_i cs ty h1 h2
   have h1:assoc bs id=some cs:=h1
   simp only [h1,h2]
   rw [<-hy]
   intro k
   have k:=V.AJ.1 k
   obtain ⟨k1,k⟩:=As.1 k
   obtain ⟨k2,U,k3,k⟩:=K4 k
   refine V.AJ.2 ?_
   refine AH k1 ?_
   unfold Bm
   refine AH U (AH i7 (AH k3 (A9.2 ?_)))
   refine hK st _ (λid' cs' h3 h4=>?_) k
   rw [Bk]
   have:Nat.beq id id'=false:=kU λe=>by simp_all
   simp_all
  simp_all
 .split
  .rename_i ty h2
   rw [<-hy]
   rintro ⟨cs,h1,k⟩
   refine ⟨cs,h1,?_⟩
   have k:=V.AJ.1 k
   obtain ⟨k1,k⟩:=As.1 k
   obtain ⟨k2,U,k3,k⟩:=K4 k
   refine V.AJ.2 ?_
   refine AH k1 ?_
   unfold Bm
   refine AH U (AH i7 (AH k3 (A9.2 ?_)))
   simp_all
  simp_all
 grind
theorem Fj (hi:i<bs.length):(bs.set i true).getD j false=if j=i then true else bs.getD j false:=by grind
theorem Uz (hT:G4 P T) (hC:∀f args st R,C f args st R->CE P f args st R/\Plain P f) (hM:∀f args st (R R':Au->St->Prop),(∀r s,R r s->R' r s)->C f args st R->C f args st R')
 {L:List Nat} (hm:Kk sched all=true)
 (h:F9 T C all sched L (Bl (L.map some) env.boxes) Q sched env st) (hr:Rel D I0 st0 w0 I β env st a w):
 wpAny P .any all.toArray (Ca D I0 st0 w0 Q) all.toArray.size (Array.replicate all.toArray.size false) a {w with drawn:=w.drawn+1}:=by
 have M:=Q9.of hm
 have hr:=hr.HO (Et.drew w)
 have hb0:∀id cs,assoc (Bl (L.map some) env.boxes) id=some cs->assoc env.boxes id=some cs/\id ∉ L:=λid cs e=>by
  obtain ⟨h1,h2⟩:=HH e
  simp_all
 have hget:∀bs:List Bool,∀j,j<bs.length->bs.getD j true=bs.getD j false:=λbs j hj=>by simp_all
 have ready:∀{bs:List Bool} {i:Nat} {o:Oper},all[i]? =some o->bs.length=all.length->BG all bs i=true->bs.getD i false=false/\∀x ∈ o.after,Region.binds .any x=true->bs.getD x.on false=true:=by
  intro bs i o ho hb hrd
  have hi:i<bs.length:=by rw [hb];exact (List.getElem?_eq_some_iff.1 ho).1
  unfold BG at hrd
  rw [ho,hget bs i hi] at hrd
  simp only [Bool.and_eq_true,Bool.not_eq_true',List.all_eq_true] at hrd
  refine ⟨hrd.1,λx hx hb=>?_⟩
  have:=hrd.2 x i7
  rw [hb] at this
  simpa using this
 have listed:∀{bs:List Bool},(∀i o,all[i]? =some o->bs.getD i false=true->∀x ∈ o.after,Region.binds .any x=true->bs.getD x.on false=true)->
  ∀(n:Nat) {i j:Nat} {o:Oper},reaches all n i j=true->all[i]? =some o->(∀x ∈ o.after,Region.binds .any x=true->bs.getD x.on false=true)->bs.getD j false=true:=by
  intro bs cl n
  induction n with
  |zero=>intro i j o h;cases h
  |succ n ih=>
   intro i j o h ho ha
   rw [reaches,ho] at h
   simp only [Bool.or_eq_true,List.any_eq_true,Bool.and_eq_true] at h
   rcases h with ⟨x,h1,h2,h3⟩|⟨x,h1,⟨h2,h3⟩,h4⟩
   .have:=Nat.eq_of_beq_eq_true h3
    grind
   .have hx:=ha x i7 h2
    cases hp:all[x.on]? with
    |none=>
     cases n with
     |zero=>cases h4
     |succ n=>rw [reaches,hp] at h4;cases h4
    |some p=>grind
 refine dr hT hC (Inv:=LN T C all sched st L (Bl (L.map some) env.boxes) Q env) ?_ ?_ ?_ _ (List.replicate all.length false) _ _ β env st _ _ GT GT GT ?_ hr
 .intro bs e st1 i o hbl hinv ho hrd
  obtain ⟨vs,pre,post,Ef,F,hh⟩:=hinv
  obtain ⟨hbi,haft⟩:=ready ho hbl hrd
  have hil:i<bs.length:=by rw [hbl];exact (List.getElem?_eq_some_iff.1 ho).1
  have Ch:∀{Dd:List (Nat×Bool)} {q:Bool} {r:List (Nat×Bool)},sched=Dd++(i,q)::r->∀t ∈ Oper.Ch all o,assoc e.tmps t=G1 all env.tmps vs (λk=>decide (k ∈ Dd.map (·.1))) t:=by
   intro Dd q r hs t ht
   rw [F.tm]
   refine CT λk p hk hd=>⟨?_,λ_=>rfl⟩
   rcases Nat.lt_trichotomy k i with hki|rfl|hki
   .have h1:=M.lo i k o p t ho hk hd ht hki
    have h2:=listed F.cl _ h1 ho haft
    have h3:=M.ahead _ h1 _ _ _ hs
    grind
   .show bs.getD k false=decide (k ∈ Dd.map (·.1))
    rw [hbi,decide_eq_false (M.nodup _ _ _ _ hs)]
   .have h1:=M.hi i k o p t ho hk hd ht hki
    show bs.getD k false=decide (k ∈ Dd.map (·.1))
    have h2:bs.getD k false=false:=by
     cases hb:bs.getD k false with
     |false=>rfl
     |true=>have:=listed F.cl _ h1 hk (F.cl k p hk hb);grind
    have h3:k ∉ Dd.map (·.1):=λhm=>by
     obtain ⟨x,hx,hxe⟩:=List.mem_map.1 hm
     obtain ⟨pa,ra,ea⟩:=List.append_of_mem hx
     have h4:=M.ahead _ h1 pa x.2 (ra++(i,q)::r) (by grind)
     exact M.nodup _ _ _ _ hs (by grind)
    grind
  have cl':∀k p,all[k]? =some p->(bs.set i true).getD k false=true->∀x ∈ p.after,Region.binds .any x=true->(bs.set i true).getD x.on false=true:=by
   intro k p hp hk x hx hb
   rw [Fj hil] at hk |-
   split
   .rfl
   .split at hk
    .grind
    .exact F.cl k p hp hk x hx hb
  by_cases hmem:i ∈ pre.map (·.1)
  . 
   obtain ⟨⟨i',q⟩,hx,rfl⟩:=List.mem_map.1 hmem
   obtain ⟨Dd,r,epre⟩:=List.append_of_mem hx
   cases q with
   |false=>have:=F.lT _ hx;grind
   |true=>
    have hs:sched=Dd++(i',true)::(r++post):=by rw [F.split,epre];simp
    obtain ⟨hd,hy⟩:=F.hy Dd i' r o epre ho
    have hy:=hy e (Ch hs) F.n2 F.s2 F.g2
    obtain ⟨o',ho',U⟩:=M.kind _ _ _ _ hs
    have ho2:all[i']? =some o:=ho
    rw [ho2] at ho'
    cases ho'
    have U:Fo o.op=true:=U
    have hqk:BT o.op=true:=by
     revert U
     cases o.op<;>simp [Fo,BT]
    have step:e.go o.dst (vs i') (λe'=>LN T C all sched st L (Bl (L.map some) env.boxes) Q env (bs.set i' true) e' st1):=by
     refine PM (λt ht=>by rw [F.s2];grind) ⟨vs,pre,post,Ef,⟨F.split,λj hj=>?_,λj hj=>?_,F.boxes,F.n1,F.n2,F.s1,F.s2,F.g1,F.g2,λt=>?_,F.tf,F.bx,F.go,F.x7,F.sr,F.hy,cl'⟩,hh⟩
     .rw [Fj hil] at hj
      split at hj
      .grind
      .exact F.sub j hj
     .rw [Fj hil]
      split
      .rfl
      .exact F.lT j hj
     .have:=Gz (S:=λj=>bs.getD j false) (S':=λj=>(bs.set i' true).getD j false) (v:=vs i') M.dst ho F.tm (λj hj=>by grind) (by grind) t
      refine this.trans (CT λk p _ _=>⟨rfl,λ_=>?_⟩)
      unfold Pw
      grind
    refine F5 (λx=>?_) (λx=>?_) hy
    .have hbx:GC sched all i'=true->e.boxes=env.boxes:=λhe=>F.sr λk ok hk hok=>by
      unfold GC at he
      have h1:=List.all_eq_true.1 he (k,false) (by grind)
      simp only [Bool.false_or,hok] at h1
      cases hst:Da ok.op with
      |false=>rfl
      |true=>
       rw [hst] at h1
       simp only [Bool.not_true,Bool.false_or] at h1
       have:=listed F.cl _ h1 hok (F.cl k ok hok (F.lT k hk))
       grind
     rcases x with x|⟨he,x⟩|⟨he,x⟩
     .unfold Br at x
      refine C5 (T:=T) (C:=C) (env:=e.only (Bl (L.map some) env.boxes) (Oper.Ch all o)) (env':=e) (st:=Kl) (st':=st1) hM hqk (.inr ⟨U,λ_=>rfl⟩) (Gw λt _=>rfl) F.bx (λv s s' g k=>?_) (λ_ _ k=>k.elim) x
      grind
     .have hini:st1=st:=F.x7 λk hk=>by
       unfold HI at he
       have h1:=List.all_eq_true.1 he (k,false) (by grind)
       simp only [Bool.false_or] at h1
       have h2:=F.lT k hk
       cases hp:all[k]? with
       |none=>
        grind
       |some p=>
        have:=listed F.cl _ h1 hp (F.cl k p hp h2)
        grind
      subst hini
      unfold Br at x
      have hb:=hbx (KE he)
      refine C5 (T:=T) (C:=C) (env:=e.only env.boxes (Oper.Ch all o)) (env':=e) (st:=st1) (st':=st1) hM hqk (.inl rfl) (Gw λt _=>rfl) (λid cs h=>by rw [hb];exact h) (λv s s' g k=>?_) (λ_ _ k=>k.elim) x
      grind
     .unfold Br at x
      have hb:=hbx he
      refine C5 (T:=T) (C:=C) (env:=e.only env.boxes (Oper.Ch all o)) (env':=e) (st:=Kl) (st':=st1) hM hqk (.inr ⟨U,λ_=>rfl⟩) (Gw λt _=>rfl) (λid cs h=>by rw [hb];exact h) (λv s s' g k=>?_) (λ_ _ k=>k.elim) x
      grind
    grind
  . 
   obtain ⟨x,hx,rfl⟩:=List.mem_map.1 (M.cover i (List.getElem?_eq_some_iff.1 ho).1)
   rw [F.split] at hx
   have hxp:x ∈ post:=by
    rcases List.mem_append.1 hx with g|g
    .grind
    .exact g
   cases post with
   |nil=>cases hxp
   |cons p r=>
    obtain ⟨k,q⟩:=p
    have hq:q=false:=hh _ _ rfl
    subst hq
    have hxe:x=(k,false):=by
     rcases List.mem_cons.1 hxp with g|g
     .exact g
     .have h1:=M.chain pre k r F.split x g
      have h2:=listed F.cl _ h1 ho haft
      exact absurd (F.sub k h2) (M.nodup _ _ _ _ F.split)
    subst hxe
    have ho:all[k]? =some o:=ho
    have hbi:bs.getD k false=false:=hbi
    have hil:k<bs.length:=hil
    have hmem:k ∉ pre.map (·.1):=hmem
    have hgo:=F.go
    rw [ME] at hgo
    simp only [ho] at hgo
    have ag:∀t ∈ Oper.Ch all o,assoc Ef.tmps t=assoc e.tmps t:=λt ht=>by rw [F.tf,Ch F.split t ht]
    have hag:=HJ (all:=all) (o:=o) ag
    have next:∀(v:V) (s:St) (B:List (Nat×List V)),(∀id cs,assoc (Bl (L.map some) env.boxes) id=some cs->assoc B id=some cs)->(Da o.op=false->B=e.boxes)->
     Env.go {Ef with boxes:=B} o.dst v (λenv'=>F9 T C all sched L (Bl (L.map some) env.boxes) Q r env' s)->
     Env.go {e with boxes:=B} o.dst v (λe'=>LN T C all sched st L (Bl (L.map some) env.boxes) Q env (bs.set k true) e' s):=by
     intro v s B hB hBe hk
     obtain ⟨hd,hk⟩:=HN hk
     have hd:∀t,o.dst=some t->t<Ef.sz:=hd
     have hmp:∀j,j≠k->(j ∈ (pre++[(k,false)]).map (·.1)↔j ∈ pre.map (·.1)):=λj hj=>by simp [hj]
     refine PM (λt ht=>by show t<e.sz;rw [F.s2,<-F.s1];grind) (KP M r (Pw vs k v) (pre++[(k,false)]) {Ef with boxes:=B,tmps:=Qr Ef.tmps o.dst v} ⟨by rw [F.split];simp,λj hj=>?_,λj hj=>?_,rfl,F.n1,F.n2,F.s1,F.s2,F.g1,F.g2,λt=>?_,λt=>?_,hB,hk,λhk=>absurd (List.mem_append_right _ List.mem_cons_self) (hk k),λhk=>(hBe (hk k o (List.mem_append_right _ List.mem_cons_self) ho)).trans (F.sr λk o hm ho=>hk k o (List.mem_append_left _ hm) ho),λDd j r' o' hs ho'=>?_,cl'⟩)
     .rw [Fj hil] at hj
      rw [List.map_append]
      split at hj
      .grind
      .exact List.mem_append_left _ (F.sub j hj)
     .rw [Fj hil]
      split
      .rfl
      .rename_i hne
       rcases List.mem_append.1 hj with g|g
       .exact F.lT j g
       grind
     .exact Gz (S:=λj=>bs.getD j false) (S':=λj=>(bs.set k true).getD j false) M.dst ho F.tm (λj hj=>by grind) (by grind) t
     .exact Gz (S':=λj=>decide (j ∈ (pre++[(k,false)]).map (·.1))) M.dst ho F.tf (λj hj=>by grind) GT t
     .rcases MJ hs with ⟨rfl,e2⟩|⟨r2,e2⟩
      .cases e2
      .have hj:=F.hy Dd j r2 o' e2 ho'
       refine hj.Pw (λe=>?_) (λhm=>hmem ?_)
       .grind
       grind
    have heE:∀(E:Env),{E with boxes:=E.boxes}=E:=λE=>rfl
    refine GM ag (F5 (λx=>?_) (λx=>?_) hgo)
    .obtain ⟨x1,x⟩:=As.1 x
     obtain ⟨o',ho',U⟩:=M.kind _ _ _ _ F.split
     rw [ho] at ho'
     cases ho'
     have U:(BT o.op||Da o.op)=true:=U
     cases hqk:BT o.op with
     |true=>
      refine C5 (T:=T) (C:=C) (env:=Ef) (env':=e) (st:=st1) (st':=st1) hM hqk (.inl rfl) hag (λid cs hb=>by rw [<-F.boxes];exact hb) (λv s s' g hk=>?_) (λv s hk=>hk _) x
      have:s'=s:=by rcases g with ⟨_,g⟩|⟨g1,g2⟩;exact g;rw [g1,g2]
      subst this
      have:=next v s' e.boxes F.bx (λ_=>rfl) (by rw [<-F.boxes];exact hk)
      omega
     |false=>
      rw [hqk] at U
      have hst:Da o.op=true:=by simpa using U
      cases hop:o.op with
      |store t p y=>
       refine K5 (T:=T) (C:=C) hop x1 hag F.boxes (by rw [F.n1,F.n2]) (by rw [F.s1,F.s2]) (by rw [F.g1,F.g2]) (λs B hB hk=>?_) x
       refine next .BE s B (λid cs hb=>?_) (λh=>by grind) hk
       obtain ⟨_,h2⟩:=hb0 id cs hb
       exact hB id cs h2 (by rw [F.boxes];exact F.bx id cs hb)
      |_=>rw [hop] at hst;cases hst
    .have:=next (.Bp []) st1 e.boxes F.bx (λ_=>rfl) (by rw [<-F.boxes];exact x)
     omega
 .intro bs e st hbl hinv
  obtain ⟨vs,pre,post,Ef,F,hh⟩:=hinv
  by_cases hall:∀p ∈ sched,bs.getD p.1 false=true
  .left
   rw [List.eq_replicate_iff]
   refine ⟨hbl,λb hb=>?_⟩
   obtain ⟨j,hj,rfl⟩:=List.mem_iff_getElem.1 hb
   obtain ⟨p,hp,e⟩:=List.mem_map.1 (M.cover j AC)
   grind
  .right
   have hex:∃pr p po,sched=pr++p::po/\bs.getD p.1 false=false/\∀x ∈ pr,bs.getD x.1 false=true:=by
    clear F hh
    revert hall
    generalize sched=l
    intro hall
    induction l with
    |nil=>grind
    |cons x l ih=>
     cases hb:bs.getD x.1 false with
     |false=>exact ⟨[],x,l,rfl,hb,λy hy=>by cases hy⟩
     |true=>
      obtain ⟨pr,p,po,h1,h2,h3⟩:=ih λh=>hall λp hp=>by grind
      grind
   obtain ⟨pr,⟨k,q⟩,po,h1,h2,h3⟩:=hex
   obtain ⟨o,ho,_⟩:=M.kind _ _ _ _ h1
   have hk:k<all.length:=(List.getElem?_eq_some_iff.1 ho).1
   refine ⟨k,hk,?_⟩
   unfold BG
   rw [ho,hget bs k AC,h2]
   simp only [Bool.not_false,Bool.true_and,List.all_eq_true]
   intro x hx
   cases hb:Region.binds .any x with
   |false=>rfl
   |true=>
    obtain ⟨y,hy,e⟩:=List.mem_map.1 (M.back _ _ _ _ o h1 ho x (by grind) hb)
    grind
 .intro e st hinv
  obtain ⟨vs,pre,post,Ef,F,hh⟩:=hinv
  have hp:post=[]:=by
   cases post with
   |nil=>rfl
   |cons p r=>
    obtain ⟨o,ho,_⟩:=M.kind _ _ _ _ F.split
    have:=F.sub p.1 (by grind)
    exact absurd this (M.nodup _ _ _ _ F.split)
  subst hp
  refine ⟨Ef,⟨λt=>?_,λt=>by rw [F.boxes],by rw [F.n1,F.n2],by rw [F.s1,F.s2]⟩,F.go⟩
  rw [F.tm,F.tf]
  refine CT λk p hk _=>⟨?_,λ_=>rfl⟩
  have hlt:=(List.getElem?_eq_some_iff.1 hk).1
  have h1:(List.replicate all.length true).getD k false=true:=by rw [List.getD_eq_getElem?_getD,List.getElem?_replicate,if_pos hlt];rfl
  show (List.replicate all.length true).getD k false=decide (k ∈ pre.map (·.1))
  rw [h1,decide_eq_true (F.sub k h1)]
 .have hf:∀j,(List.replicate all.length false).getD j false=false:=λj=>by grind
  have h0:∀(vs:Nat->V) t,G1 all env.tmps vs (λj=>(List.replicate all.length false).getD j false) t=assoc env.tmps t:=λvs t=>by
   unfold G1;grind
  refine KP M sched (λ_=>.BE) [] env ⟨rfl,λj hj=>(by grind),λj hj=>(by cases hj),rfl,rfl,rfl,rfl,rfl,rfl,rfl,λt=>(h0 _ t).symm,λt=>?_,λid cs hb=>(hb0 id cs hb).1,h,λ_=>rfl,λ_=>rfl,λDd j r o e=>(by cases Dd<;>cases e),λi o ho hi=>(by grind)⟩
  unfold G1
  grind
end
section
variable {D:List Deferred} {P:Program} {T:List (Nat×Ty)} {C:FuncId->List V->St->(Au->St->Prop)->Prop} {I0 I:Mem} {st0 st:St} {w0 w:World} {β:Nat->Option Nat} {env:Env} {a:Act}
variable {o:Oper} {K:V->Env->St->Prop} {Q:AG->Env->St->Prop} {next:Act->World->Prop} {Qc:Exit->Act->World->Prop}
theorem ko {x y:Code} {st:St} (h:AW P x (BW (Qw T C y Q) Q) env st) (k:∀env st,Qw T C y Q env st->AW P y Q env st):AW P (.seq x y) Q env st:=λD I0 st0 w0 I β a w hr=>by
 refine wp_seq (wp_mono (h D I0 st0 w0 I β a w hr) ?_)
 rintro e a w ⟨I,β,env,st,ae,h1,U,h3⟩
 cases ae with
 |normal=>cases e<;>first|exact k env st h3 D I0 st0 w0 I β a w h1|exact U.elim
 |exit i=>cases e<;>first|exact ⟨I,β,env,st,.exit i,h1,U,h3⟩|exact U.elim
 |goto i=>cases e<;>first|exact ⟨I,β,env,st,.goto i,h1,U,h3⟩|exact U.elim
 |ret=>cases e<;>first|exact ⟨I,β,env,st,.ret,h1,U,h3⟩|exact U.elim
 |B1 v=>cases e<;>first|exact ⟨I,β,env,st,.B1 v,h1,U,h3⟩|exact U.elim
def BR (P:Program) (T:List (Nat×Ty)) (C:FuncId->List V->St->(Au->St->Prop)->Prop) (c:Code):Prop:=
 ∀l f,(MY T C c).2 l=some f->∃rest,findLabel c l=some rest/\∀Q env st,f Q env st->AW P rest Q env st
theorem BR.none {c:Code} (h:∀l,(MY T C c).2 l=none):BR P T C c:=λl f e=>by simp_all
theorem Sa (c:Code) (l:Nat) (h:(MY T C c).2 l=none):findLabel c l=none:=by
 induction c with
 |seq x y ihx ihy=>
  have e:xH ((MY T C x).2 l) (MY T C y).1 ((MY T C y).2 l)=none:=h
  cases U:(MY T C x).2 l with
  |some g=>rw [U] at e;cases e
  |none=>
   rw [U] at e
   simp [findLabel,ihx U,ihy e]
 |label l0=>
  have e:(bif Nat.beq l0 l then some λ(Q:AG->Env->St->Prop) env st=>Q .normal env st else none)=none:=h
  cases hb:Nat.beq l0 l with
  |true=>simp_all
  |false=>
   have:¬l0=l:=λx=>by simp_all
   simp [findLabel,this]
 |_=>simp [findLabel]
theorem D4 (hT:G4 P T) (hm:P.follows .mixedOrders=true) (hC:∀f args st R,C f args st R->CE P f args st R/\Plain P f) (hM:∀f args st (R R':Au->St->Prop),(∀r s,R r s->R' r s)->C f args st R->C f args st R'):∀(c:Code),(∀{Q:AG->Env->St->Prop} {env:Env} {st:St},Qw T C c Q env st->AW P c Q env st)/\BR P T C c
 | .skip=>⟨λ{Q env st} k=>λD I0 st0 w0 I β a w h=>wp_skip ⟨I,β,env,st,.normal,h,trivial,k⟩,BR.none λ_=>rfl⟩
 | .region id ops true=>⟨λ{Q env st} k=>λD I0 st0 w0 I β a w h=>wp_region_any hm (by
    have k:(HR env ops.toList ops.toList λk L=>(KC k ops.toList&&IK L)=true/\IE T C ops.toList Q env env.boxes (Bl L env.boxes) ops.toList env st)\/∃(sched:List (Nat×Bool)) (L:List Nat),Kk sched ops.toList=true/\F9 T C ops.toList sched L (Bl (L.map some) env.boxes) Q sched env st:=k
    rcases k with k|⟨sched,L,k1,k2⟩
    .obtain ⟨h1,U⟩:=JK.1 k
     have:=RE hT hC hM h1 U h
     omega
    .have:=Uz hT hC hM k1 k2 h
     omega),BR.none λ_=>rfl⟩
 | .region id ops false=>⟨λ{Q env st} k=>λD I0 st0 w0 I β a w h=>wp_region_list (by
    have:=FK hT hC h (show Ey T C ops.toList Q ops.toList env st from k)
    omega),BR.none λ_=>rfl⟩
 | .seq x y=>⟨λ{Q env st} k=>ko ((D4 hT hm hC hM x).1 (show Qw T C x _ env st from k)) λenv st=>(D4 hT hm hC hM y).1,λl f e=>by
    have e:xH ((MY T C x).2 l) (MY T C y).1 ((MY T C y).2 l)=some f:=e
    have hx:=(D4 hT hm hC hM x).2 l
    have hy:=(D4 hT hm hC hM y).2 l
    cases hl:(MY T C x).2 l with
    |none=>
     rw [hl] at e
     obtain ⟨rest,h1,U⟩:=hy f e
     have hn:=Sa x l hl
     exact ⟨rest,by simp [findLabel,hn,h1],U⟩
    |some g=>
     rw [hl] at e
     cases e
     obtain ⟨rest,h1,U⟩:=hx g hl
     exact ⟨.seq rest y,by simp [findLabel,h1],λQ env st k=>ko (U _ env st k) λenv st=>(D4 hT hm hC hM y).1⟩⟩
 | .cond c x y=>⟨λ{Q env st} k=>λD I0 st0 w0 I β a w h=>by
   have hc:=h.f.eval c
   have k:(match env.eval c with
    | .bool t=>lit t (Qw T C x Q env st) (Qw T C y Q env st)
    |_=>False):=k
   split at k
   .rename_i t he
    rw [he] at hc
    have hc:=Jn hc
    cases t with
    |true=>exact wp_cond_true hc ((D4 hT hm hC hM x).1 (show Qw T C x Q env st from k) D I0 st0 w0 I β a w h)
    |false=>exact wp_cond_false hc ((D4 hT hm hC hM y).1 (show Qw T C y Q env st from k) D I0 st0 w0 I β a w h)
   simp_all,BR.none λ_=>rfl⟩
 | .block id c=>⟨λ{Q env st} k=>λD I0 st0 w0 I β a w h=>by
   refine wp_block (wp_mono ((D4 hT hm hC hM c).1 (show Qw T C c _ env st from k) D I0 st0 w0 I β a w h) ?_)
   rintro e a w ⟨I,β,env,st,ae,h1,U,h3⟩
   cases ae with
   |normal=>cases e<;>first|exact ⟨I,β,env,st,.normal,h1,trivial,h3⟩|exact U.elim
   |exit i=>
    cases e<;>try exact U.elim
    rename_i i'
    have U:i'=i:=U
    subst U
    simp only [Mn] at h3
    show (if i'=id then Ca D I0 st0 w0 Q .normal a w else Ca D I0 st0 w0 Q (.exit i') a w)
    by_cases hi:i'=id
    .subst hi
     rw [if_pos rfl]
     simp only [Nat.beq_refl,cond_true] at h3
     exact ⟨I,β,env,st,.normal,h1,trivial,h3⟩
    .rw [if_neg hi]
     have:Nat.beq i' id=false:=by
      cases hb:Nat.beq i' id with
      |false=>rfl
      |true=>simp_all
     rw [this] at h3
     exact ⟨I,β,env,st,.exit i',h1,rfl,h3⟩
   |goto i=>cases e<;>first|exact ⟨I,β,env,st,.goto i,h1,U,h3⟩|exact U.elim
   |ret=>cases e<;>first|exact ⟨I,β,env,st,.ret,h1,U,h3⟩|exact U.elim
   |B1 v=>cases e<;>first|exact ⟨I,β,env,st,.B1 v,h1,U,h3⟩|exact U.elim,BR.none λ_=>rfl⟩
 | .loop c=>⟨λ{Q env st} k=>λD I0 st0 w0 I β a w h=>by
   obtain ⟨α,E,S,J,μ,x0,h0,he,hs,round⟩:=(show ∃(α:Type) (E:α->Env) (S:α->St) (J:α->Prop) (μ:α->Nat) (x0:α),J x0/\(E x0).E4 env/\St.le (S x0) st/\
    ∀x,J x->Qw T C c (BW (λenv' st'=>∃y,J y/\μ y<μ x/\(E y).E4 env'/\St.le (S y) st') Q) (E x) (S x) from k)
   refine K9 (λn a w=>∃I β x,Rel D I0 st0 w0 I β (E x) (S x) a w/\J x/\n=μ x) (n0:=μ x0) ⟨I,_,x0,(h.Hs hs).Ig (Env.Ip he),h0,rfl⟩ ?_
   rintro n a w ⟨I,β,x,h,hi,rfl⟩
   refine wp_mono ((D4 hT hm hC hM c).1 (round x hi) D I0 st0 w0 I β a w h) ?_
   rintro e a w ⟨I,β,env,st,ae,h1,U,h3⟩
   cases ae with
   |normal=>
    cases e<;>try exact U.elim
    obtain ⟨y,g1,g2,g3,g4⟩:=h3
    exact ⟨μ y,g2,I,_,y,(h1.Hs g4).Ig (Env.Ip g3),g1,rfl⟩
   |exit i=>cases e<;>first|exact ⟨I,β,env,st,.exit i,h1,U,h3⟩|exact U.elim
   |goto i=>cases e<;>first|exact ⟨I,β,env,st,.goto i,h1,U,h3⟩|exact U.elim
   |ret=>cases e<;>first|exact ⟨I,β,env,st,.ret,h1,U,h3⟩|exact U.elim
   |B1 v=>cases e<;>first|exact ⟨I,β,env,st,.B1 v,h1,U,h3⟩|exact U.elim,BR.none λ_=>rfl⟩
 | .exit id=>⟨λ{Q env st} k=>λD I0 st0 w0 I β a w h=>wp_exit ⟨I,β,env,st,.exit id,h,rfl,k⟩,BR.none λ_=>rfl⟩
 | .goto l=>⟨λ{Q env st} k=>λD I0 st0 w0 I β a w h=>wp_goto ⟨I,β,env,st,.goto l,h,rfl,k⟩,BR.none λ_=>rfl⟩
 | .label l0=>⟨λ{Q env st} k=>λD I0 st0 w0 I β a w h=>wp_label ⟨I,β,env,st,.normal,h,trivial,k⟩,λl f e=>by
    have e:(bif Nat.beq l0 l then some λ(Q:AG->Env->St->Prop) env st=>Q .normal env st else none)=some f:=e
    cases hb:Nat.beq l0 l with
    |false=>simp_all
    |true=>
     rw [hb] at e
     cases e
     have:=Nat.eq_of_beq_eq_true hb
     subst this
     exact ⟨.skip,by simp [findLabel],λQ env st k=>λD I0 st0 w0 I β a w h=>wp_skip ⟨I,β,env,st,.normal,h,trivial,k⟩⟩⟩
 | .ret=>⟨λ{Q env st} k=>λD I0 st0 w0 I β a w h=>wp_ret ⟨I,β,env,st,.ret,h,trivial,k⟩,BR.none λ_=>rfl⟩
 | .rangeFunc .. =>⟨λ{Q env st} k=>False.elim k,BR.none λ_=>rfl⟩
 | .scope c=>⟨λ{Q env st} k=>λD I0 st0 w0 I β a w h=>by
    obtain ⟨α,lab,E,S,J,μ,first,pass⟩:=(show QY (MY T C c).1 (MY T C c).2 Q env st from k)
    refine XM (λl n a w=>∃I β x,Rel D I0 st0 w0 I β (E x) (S x) a w/\J x/\lab x=l/\n=μ x) ?_ ?_
    .refine wp_mono ((D4 hT hm hC hM c).1 first D I0 st0 w0 I β a w h) ?_
     rintro e a w ⟨I,β,env,st,ae,h1,U,h3⟩
     cases ae with
     |goto i=>
      cases e<;>try exact U.elim
      have U:_=i:=U
      subst U
      obtain ⟨y,g1,g2,g3,g4⟩:=h3
      exact ⟨μ y,I,_,y,(h1.Hs g4).Ig (Env.Ip g3),g2,g1,rfl⟩
     |normal=>cases e<;>first|exact ⟨I,β,env,st,.normal,h1,U,h3⟩|exact U.elim
     |exit i=>cases e<;>first|exact ⟨I,β,env,st,.exit i,h1,U,h3⟩|exact U.elim
     |ret=>cases e<;>first|exact ⟨I,β,env,st,.ret,h1,U,h3⟩|exact U.elim
     |B1 v=>cases e<;>first|exact ⟨I,β,env,st,.B1 v,h1,U,h3⟩|exact U.elim
    .rintro l n a w ⟨I,β,x,h,hi,rfl,rfl⟩
     obtain ⟨f,hf,hp⟩:=pass x hi
     obtain ⟨rest,hr,hs⟩:=(D4 hT hm hC hM c).2 _ f hf
     refine ⟨rest,hr,wp_mono (hs _ _ _ hp D I0 st0 w0 I β a w h) ?_⟩
     rintro e a w ⟨I,β,env,st,ae,h1,U,h3⟩
     cases ae with
     |goto i=>
      cases e<;>try exact U.elim
      have U:_=i:=U
      subst U
      obtain ⟨y,g1,g2,gm,g3,g4⟩:=h3
      exact ⟨μ y,gm,I,_,y,(h1.Hs g4).Ig (Env.Ip g3),g2,g1,rfl⟩
     |normal=>cases e<;>first|exact ⟨I,β,env,st,.normal,h1,U,h3⟩|exact U.elim
     |exit i=>cases e<;>first|exact ⟨I,β,env,st,.exit i,h1,U,h3⟩|exact U.elim
     |ret=>cases e<;>first|exact ⟨I,β,env,st,.ret,h1,U,h3⟩|exact U.elim
     |B1 v=>cases e<;>first|exact ⟨I,β,env,st,.B1 v,h1,U,h3⟩|exact U.elim,BR.none λ_=>rfl⟩
 | .refuse _=>⟨λ{Q env st} k=>False.elim k,BR.none λ_=>rfl⟩
structure T4 (P:Program) (T:List (Nat×Ty)):Prop where
 t:G4 P T
 m:P.follows .mixedOrders=true
theorem Ov (hP:T4 P T) (hC:∀f args st R,C f args st R->CE P f args st R/\Plain P f) (hM:∀f args st (R U:Au->St->Prop),(∀r s,R r s->U r s)->C f args st R->C f args st U) (c:Code) {st:St} (h:Qw T C c Q env st):AW P c Q env st:=(D4 hP.t hP.m hC hM c).1 h
end
structure Ba (P:Program) (f:FuncId) (args:List V) (st:St) (R:Au->St->Prop):Prop where
 a:CE P f args st R
 b:Plain P f
theorem Ba.mono {P:Program} {f:FuncId} {args:List V} {st:St} {R U:Au->St->Prop} (h:Ba P f args st R) (k:∀r s,R r s->U r s):Ba P f args st U:=⟨h.a.mono k,h.b⟩
theorem BF (P:Program):∀f args st R,Ba P f args st R->CE P f args st R/\Plain P f:=λ_ _ _ _ h=>⟨h.a,h.b⟩
section
variable {D:List Deferred} {P:Program} {T:List (Nat×Ty)} {I:Mem} {st:St} {w:World}
theorem Rf:∀{l:List V} {k t:Nat} {v:V},assoc (IP k l) t=some v->k<=t/\l[t - k]? =some v
 |[],k,t,v,h=>by cases h
 |u::r,k,t,v,h=>by
  rw [aD,Bk] at h
  cases hb:Nat.beq k t with
  |true=>
   simp_all
  |false=>
   rw [hb] at h
   obtain ⟨U,h2⟩:=Rf h
   grind
def Zp (tmps:Array Value):ResultVar->Sem Value
 | .tmp t=>pure (tmps.getD t undef)
 | .cell x t=>do loadVar t (<-asAddr (tmps.getD x undef))
theorem WY (hT:G4 P T) {a:Act} (h:Rel D I0 st0 w0 I β env st a w) {x:ResultVar} {K:V->Prop} (k:WX T env st x K):
 ∃v c,(Zp a.tmps x).run P w=.ok c w/\AM I v c/\K v:=by
 cases x with
 |tmp t=>
  have k:(env.get t).force λv=>DM v.plain (K v):=k
  obtain ⟨hp,k⟩:=As.1 (V.AJ.1 k)
  exact ⟨_,_,rfl,(h.f.get t).rep hp,k⟩
 |cell x t=>
  have hx:=h.f.get x
  have fin:∀{ad:Addr} {c:Value} {v:V},a.tmps.getD x undef=.pointer (some ad)->(loadVar t ad).run P w=.ok c w->AM I v c->K v->
   ∃v c,(Zp a.tmps (.cell x t)).run P w=.ok c w/\AM I v c/\K v:=by
   intro ad c v e1 e2 e3 k
   refine ⟨v,c,?_,e3,k⟩
   simp only [Zp,e1,asAddr,Sem.run_bind,Sem.run_pure,Result.andThen_ok,e2]
  simp only [WX] at k
  split at k
  .rename_i id off he
   rw [he] at hx
   obtain ⟨b,hb,hx⟩:=HW hx
   split at k
   .rename_i cs U
    obtain ⟨b',h1,h2⟩:=h.f.box id cs U
    rw [hb] at h1
    injection h1 with h1
    subst h1
    obtain ⟨vs,ty,h2,h3⟩:=h2.cells (L7 k)
    obtain ⟨v,c,g1,g2,g3⟩:=Ex (b:=b) (o:=0) hT h3 (λj v e=>by simpa using Jc h2 e) k
    grind
   simp_all
  .rename_i b off he
   rw [he] at hx
   have hx:=N6 hx
   obtain ⟨cs,U,k⟩:=k
   obtain ⟨vs,ty,h2,h3⟩:=h.s.box b cs U
   obtain ⟨v,c,g1,g2,g3⟩:=Ex (b:=b) (o:=0) hT h3 (λj v e=>by simpa using Jc h2 e) k
   grind
  simp_all
theorem KG (U:G4 P T) {I0:Mem} {st0:St} {w0:World} {β:Nat->Option Nat} {env:Env} {a:Act} (h:Rel D I0 st0 w0 I β env st a w):∀{rs:List ResultVar} {K:List V->Prop},Fh T env st rs K->
 ∃vs cs,Ao I vs cs/\K vs/\(rs.mapM (Zp a.tmps)).run P w=.ok cs w
 |[],K,k=>⟨[],[],H1,k,rfl⟩
 |x::r,K,k=>by
  rw [TP] at k
  obtain ⟨v,c,e1,e2,k⟩:=WY (P:=P) U h k
  obtain ⟨vs,cs,h1,h2,h3⟩:=KG U h k
  refine ⟨v::vs,c::cs,by simp only [Ao];grind,h2,?_⟩
  simp_all
theorem Cu (hT:G4 P T) {a:Act} (h:Rel D I0 st0 w0 I β env st a w)
 (k:Fh T env st fn.results.toList λvs=>match vs with|[v]=>R (.ret v) st|vs=>R (.ret (.Bp vs)) st):
 ∃v c,(results fn a.tmps).run P w=.ok c w/\AM I v c/\R (.ret v) st:=by
 obtain ⟨vs,cs,U,h2,h3⟩:=KG (P:=P) hT h k
 have hr:(results fn a.tmps).run P w=.ok (if hh:cs.toArray.size=1 then cs.toArray[0] else .tuple cs.toArray) w:=by
  have e:results fn a.tmps=(do let vs <-fn.results.mapM (Zp a.tmps);pure (if h:vs.size=1 then vs[0] else .tuple vs)):=by
   unfold results
   congr 1
  rw [e,Array.mapM_eq_mapM_toList]
  simp only [Sem.run_bind,Sem.run_map,h3,Result.andThen_ok,Sem.run_pure]
 have hl:=Ao.length U
 match vs,U,h2,hl with
 |[v],U,h2,hl=>
  simp only [Ao] at U
  grind
 |[],U,h2,hl=>
  have hs:¬(cs.toArray.size=1):=by simp at hl |-;omega
  rw [dif_neg hs] at hr
  exact ⟨_,_,hr,by simp only [AM];simp_all,h2⟩
 |x::y::z,U,h2,hl=>
  have hs:¬(cs.toArray.size=1):=by simp at hl |-;omega
  rw [dif_neg hs] at hr
  exact ⟨_,_,hr,by simp only [AM];simp_all,h2⟩
theorem NU {a:Act} (hs:Cv I st w) (U:a.tmps.size=env.sz) (h2:∀t v,assoc env.tmps t=some v->AM I v (a.tmps.getD t undef)) (h3:env.boxes=[]) (h4:a.defers=D):
 Rel D I st w I (λ_=>none) env st a w:=
 ⟨Fr.refl,hs,⟨U,λt v e=>A2.of (h2 t v e),λid cs e=>(by rw [h3] at e;cases e),λid b e=>(by cases e),λi j b e=>(by cases e),λid b e=>(by cases e),h4⟩⟩
theorem Rb (hP:T4 P T) (gl:List Nat) (hf:P.funcs[f]? =some fn)
 (h:Vh T (Ba P) fn gl args st λr st'=>∃r2 U,(r2=r\/r2=r.wk)/\St.le U st'/\R r2 U):CE P f args st R:=by
 intro I w cargs hs hargs
 unfold Vh at h
 cases hb:fn.body with
 |none=>simp_all
 |some c=>
  rw [hb] at h
  obtain ⟨hle,h⟩:=As.1 h
  have hle:=Nat.le_of_ble_eq_true hle
  have hlen:=Ao.length hargs
  refine calls_of_wp hf hb ?_
  have hrel:Rel [] I st w I (λ_=>none) {tmps:=IP 0 args,boxes:=[],Bs:=0,sz:=fn.ntmps,gl} st
   {tmps:=cargs.toArray++Array.replicate (fn.ntmps - cargs.toArray.size) undef,defers:=[]} w:=by
   refine NU hs (by grind) (λt v e=>?_) rfl rfl
   obtain ⟨_,e⟩:=Rf e
   rw [Nat.sub_zero] at e
   obtain ⟨c',e1,e2⟩:=Ao.get hargs e
   have hlt:t<cargs.length:=by
    rcases Nat.lt_or_ge t cargs.length with h|h
    .exact h
    .simp_all
   have:(cargs.toArray++Array.replicate (fn.ntmps - cargs.toArray.size) undef).getD t undef=c':=by
    rw [List.getElem?_eq_getElem hlt] at e1
    injection e1 with e1
    subst e1
    simp [Array.getD,Array.getElem_append,hlt]
    omega
   rw [this]
   exact e2
  refine wp_mono (Ov hP (BF P) (λ_ _ _ _ _ h k=>k.mono h) c h [] I st w I _ _ w hrel) ?_
  rintro e a w' ⟨I1,β1,env1,st1,ae,h1,h2,h3⟩
  have hret:(Fh T env1 st1 fn.results.toList λvs=>match vs with
   |[v]=>∃r2 U,(r2=.ret v\/r2=(Au.ret v).wk)/\St.le U st1/\R r2 U
   |vs=>∃r2 U,(r2=.ret (.Bp vs)\/r2=(Au.ret (.Bp vs)).wk)/\St.le U st1/\R r2 U)->
   a.defers=[]/\∃v,(results fn a.tmps).run P w'=.ok v w'/\∃I' st' r,Fr I st w I' st' w'/\Cv I' st' w'/\Zo I' (.returned v) r/\R r st':=by
   intro h3
   obtain ⟨v,c,g1,g2,r2,U,g3,g4,g5⟩:=Cu (P:=P) (R:=λr s=>∃r2 U,(r2=r\/r2=r.wk)/\St.le U s/\R r2 U) hP.t h1 h3
   have h1':=h1.Hs g4
   refine ⟨h1.f.defers,c,g1,I1,U,r2,h1'.fr,h1'.s,?_,g5⟩
   rcases g3 with rfl|rfl
   .exact g2
   .exact g2.wk
  cases ae with
  |normal=>cases e<;>first|exact hret h3|exact h2.elim
  |exit i=>exact h3.elim
  |goto i=>exact h3.elim
  |ret=>cases e<;>first|exact hret h3|exact h2.elim
  |B1 v=>
   cases e<;>try exact h2.elim
   obtain ⟨r2,U,g3,g4,g5⟩:=h3
   obtain ⟨c',rfl,h2⟩:=h2
   have h1':=h1.Hs g4
   refine ⟨h1.f.defers,I1,U,r2,h1'.fr,h1'.s,?_,g5⟩
   rcases g3 with rfl|rfl
   .exact ⟨c',rfl,h2⟩
   .exact ⟨c',rfl,h2.wk⟩
theorem DH (hP : T4 P T) (gl : List Nat) (hf : P.funcs[f]? = some fn) (hb : fn.body.isSome = true) (hn : (fn.name == "runtime.NumGoroutine") = false)
 (h:Vh T (Ba P) fn gl args st λr st'=>∃r2 U,(r2=r\/r2=r.wk)/\St.le U st'/\R r2 U):Ba P f args st R:=⟨Rb hP gl hf h,fn,hf,hb,hn⟩
end
section
variable {P:Program} {T:List (Nat×Ty)}
theorem vP (h:∀p ∈ T,On P p.1 p.2):G4 P T:=λt ty e=>h (t,ty) (Gn e)
theorem all_cons {p:Nat×Ty->Prop} {x:Nat×Ty} {l:List (Nat×Ty)} (h:p x) (k:∀q ∈ l,p q):∀q ∈ x::l,p q:=λq U=>by grind
def PE:V->Value
 | .int k n=>.int k n
 | .bool b=>.bool b
 | .str s=>.string ⟨s.toArray⟩
 | .slice _ _ _=>.slice none 0 0
 | .Es=>.pointer none
 | .At=>.nilFunc
 | .Dt=>.nilIface
 |_=>undef
def isZero:V->Bool
 | .int _ _| .bool _| .Es| .At| .Dt=>true
 | .str []=>true
 | .slice (_+1) [] .full=>true
 |_=>false
theorem Zn {z:V} (h:isZero z=true):AM I z (PE z):=by
 unfold isZero at h
 split at h
 .rfl
 .rfl
 .rfl
 .rfl
 .rfl
 .simp [AM,PE,DG]
 .exact J3 (Nat.succ_pos _) _ (.inl rfl)
 grind
theorem O4 {I:Mem}:∀{z:List V},z.all isZero=true->Ao I z (z.map PE)
 |[],_=>by rfl
 |v::r,h=>by
  simp only [List.all_cons,Bool.and_eq_true] at h
  simp only [Ao,List.map_cons]
  exact ⟨_,_,rfl,Zn h.1,O4 h.2⟩
theorem qv {z:V} (h:isZero z=true):(PE z).cells=#[PE z]/\z.known=true/\z.cells=[z]:=by
 unfold isZero at h
 split at h
 all_goals first|(cases h;done)|exact ⟨rfl,rfl,rfl⟩
theorem zh {z:V} {d:TypeDesc} (hu:P.underlying t=some d) (ha:TJ d=false) (hz:isZero z=true)
 (hi:(P.info? t).map (λi=>(i.zero,i.size))=some (some (PE z),1)) (hs:match z with| .str _=>d=.string| .Dt=>∃U,d=.interface U| .int k _=>d=.int k| .bool _=>d=.bool|_=>∀U,d≠.interface U):On P t (.sc z):=by
 cases hp:P.info? t with
 |none=>simp_all
 |some i=>
  rw [hp] at hi
  simp only [Option.map_some,Option.some.injEq,Prod.mk.injEq] at hi
  obtain ⟨h1,h2,h3⟩:=qv hz
  exact ⟨i,d,PE z,hp,hu,ha,hi.2,hi.1,Zn hz,h1,h2,h3,hs⟩
theorem qj {e:TypeId} {sz bytes:Nat} {c:Value} (hu:P.underlying t=some (.slice e)) (hi:(P.info? t).map (λi=>(i.zero,i.size))=some (some (.slice none 0 0),1))
 (U:(P.info? e).map (λi=>(i.zero,i.size,i.bytes))=some (some c,sz,bytes)) (h0:0<sz) (hc:c.cells.size=sz):On P t (.slice e sz bytes):=by
 cases hp:P.info? t with
 |none=>simp_all
 |some i=>
  cases hq:P.info? e with
  |none=>simp_all
  |some j=>
   rw [hp] at hi
   rw [hq] at U
   simp only [Option.map_some,Option.some.injEq,Prod.mk.injEq] at hi U
   exact ⟨i,j,c,hp,hu,hi.2,hi.1,hq,U.2.1,U.2.2,h0,U.1,hc⟩
theorem jP {U:List (Nat×Nat)} {z:List V} {fields:Array Field} (hu:P.underlying t=some (.struct fields)) (hz:z.all isZero=true)
 (hi:(P.info? t).map (λi=>(i.zero,i.size))=some (some (.agg (z.map PE).toArray),z.length))
 (hf:fields.toList.map (λf=>(f.offset,(P.info? f.type).map (·.size)))=U.map (λp=>(p.1,some p.2))) (he:(!dZ z||dU P t z)=true) (h1:(fields.toList.all λf=>match P.info? f.type,P.underlying f.type with|some j,some d=>j.size !=1|| !TJ d|_,_=>false)=true):On P t (.struct U z):=by
 cases hp:P.info? t with
 |none=>simp_all
 |some i=>
  rw [hp] at hi
  simp only [Option.map_some,Option.some.injEq,Prod.mk.injEq] at hi
  refine ⟨i,fields,z.map PE,hp,hu,hi.2,hi.1,O4 hz,?_,λn o s e=>?_,(λhfl=>by simp_all),λn o e=>?_⟩
  .have:=congrArg List.length hf
   grind
  .have h1:(U.map λp=>(p.1,some p.2))[n]? =some (o,some s):=by rw [List.getElem?_map,e];rfl
   grind
  .have h2:(U.map λp=>(p.1,some p.2))[n]? =some (o,some 1):=by rw [List.getElem?_map,e];rfl
   grind
theorem xW {e:TypeId} {sz:Nat} {U:List (Nat×Nat)} {z:List V} (hu:P.underlying t=some (.array n e)) (hz:z.all isZero=true)
 (hi:(P.info? t).map (λi=>(i.zero,i.size))=some (some (.agg (z.map PE).toArray),z.length)) (hj:(P.info? e).map (·.size)=some sz) (hf:U=(List.range U.length).map λi=>(i*sz,sz)) (hn:U.length<=n):On P t (.arr U z):=by
 cases hp:P.info? t with
 |none=>simp_all
 |some i=>
  cases hq:P.info? e with
  |none=>simp_all
  |some j=>
   rw [hp] at hi
   rw [hq] at hj
   simp only [Option.map_some,Option.some.injEq,Prod.mk.injEq] at hi hj
   refine ⟨i,n,e,j,z.map PE,hp,hu,hi.2,hi.1,O4 hz,hq,λk o s e=>?_⟩
   have hk:=(List.getElem?_eq_some_iff.1 e).1
   refine ⟨?_,?_,AC⟩<;>grind
def Ty.zv:Ty->Value×Nat
 | .sc z=>(PE z,1)
 | .slice _ _ _=>(.slice none 0 0,1)
 | .struct _ z| .arr _ z=>(.agg (z.map PE).toArray,z.length)
def vB:V->TypeDesc->Bool
 | .str _,.string=>true
 | .Dt,.interface _=>true
 | .int k _,.int U=>decide (k=U)
 | .bool _,.bool=>true
 | .str _,_| .Dt,_| .int _ _,_| .bool _,_|_,.interface _=>false
 |_,_=>true
def tyB (P:Program) (t:TypeId) (ty:Ty):Bool:=match ty,P.underlying t with
 | .sc z,some d=> !TJ d&&(isZero z&&vB z d)
 | .slice e sz bytes,some (.slice e')=>e==e'&&(match P.info? e with|some j=>(match j.zero with|some c=>c.cells.size==sz|none=>false)&&(j.size==sz&&(j.bytes==bytes&&decide (0<sz)))|none=>false)
 | .struct U z,some (.struct fields)=>z.all isZero&&(decide (fields.toList.map (λf=>(f.offset,(P.info? f.type).map (·.size)))=U.map (λp=>(p.1,some p.2)))&&((!dZ z||dU P t z)&&
    fields.toList.all λf=>match P.info? f.type,P.underlying f.type with|some j,some d=>j.size !=1|| !TJ d|_,_=>false))
 | .arr U z,some (.array n e)=>z.all isZero&&decide (U.length<=n)&&(match P.info? e with|some j=>decide (U=(List.range U.length).map λi=>(i*j.size,j.size))|none=>false)
 |_,_=>false
theorem vO (h1:T.map (λp=>(P.info? p.1).map λi=>(i.zero,i.size))=T.map λp=>some (some p.2.zv.1,p.2.zv.2)) (h2:(T.all λp=>tyB P p.1 p.2)=true):G4 P T:=vP λp hp=>by
 have e1:=List.map_inj_left.1 h1 p hp
 have U:=List.all_eq_true.1 h2 p hp
 obtain ⟨t,ty⟩:=p
 dsimp only at e1 U |-
 unfold tyB at U
 split at U
 .rename_i z d hu
  simp only [Bool.and_eq_true,Bool.not_eq_true'] at U
  refine zh hu U.1 U.2.1 e1 ?_
  have e3:=U.2.2
  unfold vB at e3
  split at e3<;>simp_all
 .rename_i e sz b e' hu
  simp only [Bool.and_eq_true,beq_iff_eq] at U
  obtain ⟨rfl,U⟩:=U
  cases hj:P.info? e with
  |none=>rw [hj] at U;cases U
  |some j=>
   rw [hj] at U
   cases hz:j.zero with
   |none=>simp [hz] at U
   |some c=>
    simp only [hz,Bool.and_eq_true,beq_iff_eq,decide_eq_true_eq] at U
    exact qj (c:=c) hu e1 (by rw [hj];simp [hz,U]) U.2.2.2 U.1
 .rename_i offs z fields hu
  simp only [Bool.and_eq_true,decide_eq_true_eq] at U
  exact jP hu U.1 e1 U.2.1 U.2.2.1 U.2.2.2
 .rename_i offs z n e hu
  simp only [Bool.and_eq_true] at U
  cases hj:P.info? e with
  |none=>rw [hj] at U;cases U.2
  |some j=>
   rw [hj] at U
   exact xW hu U.1.1 e1 (by rw [hj];rfl) (of_decide_eq_true U.2) (of_decide_eq_true U.1.2)
 .cases U
end
theorem FL {args':List V} {st:St} (e:args'=args.map V.wk) (h:Ba P f args' st R):Ba P f args st R:=by
 subst e
 exact ⟨λI w U hs ha=>h.a I w U hs (Ao.map (λ_ _ k=>k.wk) ha),h.b⟩
end Go.Aw
namespace Go.Proofs.Z
open Go Go.Aw
def yb:List (Nat×Ty):=[
 (1,.sc (.At)),
 (2,.sc (.int .i64 0)),
 (3,.sc (.int .i64 0)),
 (4,.sc (.bool false)),
 (5,.sc (.int .u8 0)),
 (9,.sc (.str [])),
 (12,.sc (.int .u64 0)),
 (15,.sc (.Es)),
 (16,.sc (.Es)),
 (20,.sc (.Dt)),
 (21,.sc (.int .i32 0)),
 (22,.sc (.At)),
 (23,.slice 25 6 72),
 (24,.struct [(0,1),(1,1),(2,1),(3,1),(4,1),(5,1)] [.int .i64 0,.int .i64 0,.str [],.int .i64 0,.int .i64 0,.slice 6 [] .full]),
 (25,.struct [(0,1),(1,1),(2,1),(3,1),(4,1),(5,1)] [.int .i64 0,.int .i64 0,.str [],.int .i64 0,.int .i64 0,.slice 6 [] .full]),
 (26,.slice 31 5 48),
 (27,.sc (.int .i64 0)),
 (29,.sc (.At)),
 (30,.struct [(0,1),(1,1),(2,1),(3,1),(4,1)] [.str [],.int .i64 0,.int .i64 0,.int .i64 0,.int .i64 0]),
 (31,.struct [(0,1),(1,1),(2,1),(3,1),(4,1)] [.str [],.int .i64 0,.int .i64 0,.int .i64 0,.int .i64 0]),
 (32,.sc (.At)),
 (33,.sc (.At)),
 (34,.slice 40 4 40),
 (36,.sc (.At)),
 (37,.sc (.At)),
 (38,.sc (.At)),
 (39,.struct [(0,1),(1,1),(2,1),(3,1)] [.int .i64 0,.str [],.int .i64 0,.int .i64 0]),
 (40,.struct [(0,1),(1,1),(2,1),(3,1)] [.int .i64 0,.str [],.int .i64 0,.int .i64 0]),
 (41,.sc (.At)),
 (42,.sc (.At)),
 (43,.sc (.At)),
 (44,.sc (.At)),
 (45,.sc (.At)),
 (47,.sc (.At)),
 (48,.struct [(0,6),(6,4),(10,1)] [.int .i64 0,.int .i64 0,.str [],.int .i64 0,.int .i64 0,.slice 6 [] .full,.int .i64 0,.str [],.int .i64 0,.int .i64 0,.int .i64 0]),
 (49,.struct [(0,6),(6,4),(10,1)] [.int .i64 0,.int .i64 0,.str [],.int .i64 0,.int .i64 0,.slice 6 [] .full,.int .i64 0,.str [],.int .i64 0,.int .i64 0,.int .i64 0]),
 (50,.sc (.At)),
 (52,.sc (.At)),
 (53,.slice 3 1 8),
 (54,.struct [(0,1),(1,1),(2,1),(3,1)] [.slice 4 [] .full,.int .i64 0,.slice 1 [] .full,.int .i64 0]),
 (55,.struct [(0,1),(1,1),(2,1),(3,1)] [.slice 4 [] .full,.int .i64 0,.slice 1 [] .full,.int .i64 0]),
 (57,.sc (.At)),
 (58,.sc (.At)),
 (59,.sc (.At)),
 (61,.sc (.At)),
 (62,.sc (.At)),
 (63,.sc (.At)),
 (64,.sc (.At)),
 (65,.sc (.Es)),
 (66,.struct [(0,1),(1,1),(2,1)] [.int .i64 0,.int .i64 0,.int .i64 0]),
 (67,.struct [(0,1),(1,1),(2,1)] [.int .i64 0,.int .i64 0,.int .i64 0]),
 (68,.struct [(0,1),(1,1)] [.int .i64 0,.bool false]),
 (69,.struct [(0,1),(1,1)] [.int .i64 0,.bool false]),
 (70,.struct [(0,1),(1,1),(2,3),(5,1),(6,1),(7,1),(8,2)] [.str [],.int .i64 0,.int .i64 0,.int .i64 0,.int .i64 0,.slice 4 [] .full,.slice 5 [] .full,.int .i64 0,.int .i64 0,.bool false]),
 (71,.struct [(0,1),(1,1),(2,3),(5,1),(6,1),(7,1),(8,2)] [.str [],.int .i64 0,.int .i64 0,.int .i64 0,.int .i64 0,.slice 4 [] .full,.slice 5 [] .full,.int .i64 0,.int .i64 0,.bool false]),
 (72,.sc (.At)),
 (73,.sc (.At)),
 (74,.struct [(0,1),(1,1),(2,1)] [.int .i64 0,.int .i64 0,.int .i64 0]),
 (75,.struct [(0,1),(1,1),(2,1)] [.int .i64 0,.int .i64 0,.int .i64 0]),
 (76,.sc (.At)),
 (77,.sc (.At)),
 (78,.sc (.At)),
 (79,.slice 9 1 16),
 (80,.sc (.At)),
 (81,.sc (.At)),
 (82,.sc (.At)),
 (83,.sc (.At)),
 (84,.sc (.At)),
 (85,.sc (.Dt)),
 (86,.sc (.Dt)),
 (88,.slice 186 3 32),
 (89,.slice 186 3 32),
 (90,.sc (.At)),
 (91,.sc (.Es)),
 (92,.struct [(0,1),(1,1),(2,1)] [.int .i64 0,.int .i64 0,.int .i64 0]),
 (93,.struct [(0,1),(1,1),(2,1)] [.int .i64 0,.int .i64 0,.int .i64 0]),
 (94,.sc (.At)),
 (95,.sc (.Es)),
 (96,.sc (.At)),
 (97,.struct [(0,1),(1,1),(2,1)] [.int .i64 0,.int .i64 0,.int .i64 0]),
 (98,.struct [(0,1),(1,1),(2,1)] [.int .i64 0,.int .i64 0,.int .i64 0]),
 (99,.sc (.At)),
 (100,.sc (.At)),
 (101,.sc (.At)),
 (102,.sc (.At)),
 (103,.sc (.At)),
 (104,.sc (.At)),
 (106,.sc (.At)),
 (107,.sc (.At)),
 (108,.sc (.At)),
 (109,.sc (.At)),
 (110,.sc (.At)),
 (112,.sc (.At)),
 (113,.sc (.At)),
 (114,.sc (.Es)),
 (115,.slice 5 1 1),
 (116,.struct [(0,1),(1,1)] [.Es,.slice 1 [] .full]),
 (117,.struct [(0,1),(1,1)] [.Es,.slice 1 [] .full]),
 (119,.sc (.At)),
 (120,.sc (.At)),
 (122,.sc (.At)),
 (124,.sc (.At)),
 (126,.sc (.At)),
 (128,.sc (.At)),
 (129,.sc (.At)),
 (134,.sc (.At)),
 (137,.sc (.At)),
 (140,.sc (.At)),
 (141,.sc (.At)),
 (143,.sc (.At)),
 (144,.sc (.At)),
 (145,.sc (.At)),
 (146,.sc (.At)),
 (147,.sc (.At)),
 (148,.sc (.At)),
 (149,.sc (.At)),
 (150,.sc (.At)),
 (151,.sc (.At)),
 (152,.sc (.Es)),
 (153,.struct [(0,4),(4,4),(8,4),(12,1),(13,1)] [.slice 4 [] .full,.int .i64 0,.slice 1 [] .full,.int .i64 0,.int .i64 0,.str [],.int .i64 0,.int .i64 0,.slice 4 [] .full,.int .i64 0,.slice 1 [] .full,.int .i64 0,.int .i64 0,.bool false]),
 (154,.struct [(0,4),(4,4),(8,4),(12,1),(13,1)] [.slice 4 [] .full,.int .i64 0,.slice 1 [] .full,.int .i64 0,.int .i64 0,.str [],.int .i64 0,.int .i64 0,.slice 4 [] .full,.int .i64 0,.slice 1 [] .full,.int .i64 0,.int .i64 0,.bool false]),
 (155,.struct [(0,1)] [.int .i64 0]),
 (156,.struct [(0,1)] [.int .i64 0]),
 (158,.sc (.At)),
 (159,.sc (.At)),
 (160,.sc (.At)),
 (161,.sc (.At)),
 (162,.sc (.At)),
 (163,.sc (.At)),
 (164,.sc (.At)),
 (165,.sc (.At)),
 (166,.sc (.At)),
 (167,.sc (.At)),
 (168,.sc (.Es)),
 (169,.sc (.Es)),
 (171,.sc (.At)),
 (172,.slice 175 2 16),
 (173,.struct [(0,1),(1,1),(2,1),(3,1),(4,1)] [.str [],.int .i64 0,.bool false,.slice 1 [] .full,.slice 2 [] .full]),
 (174,.struct [(0,1),(1,1),(2,1),(3,1),(4,1)] [.str [],.int .i64 0,.bool false,.slice 1 [] .full,.slice 2 [] .full]),
 (175,.arr [(0,1),(1,1)] [.int .i64 0,.int .i64 0]),
 (176,.sc (.At)),
 (177,.sc (.At)),
 (178,.sc (.At)),
 (179,.sc (.Es)),
 (180,.sc (.At)),
 (181,.sc (.At)),
 (182,.sc (.At)),
 (183,.struct [(0,1),(1,1),(2,1),(3,1),(4,1)] [.At,.slice 6 [] .full,.bool false,.At,.At]),
 (184,.struct [(0,1),(1,1),(2,1),(3,1),(4,1)] [.At,.slice 6 [] .full,.bool false,.At,.At]),
 (185,.struct [(0,1),(1,1),(2,1)] [.str [],.int .i64 0,.int .i64 0]),
 (186,.struct [(0,1),(1,1),(2,1)] [.str [],.int .i64 0,.int .i64 0]),
 (188,.sc (.At)),
 (189,.sc (.At)),
 (192,.sc (.Es)),
 (193,.sc (.At)),
 (194,.sc (.At)),
 (195,.sc (.At)),
 (196,.sc (.Dt)),
 (198,.sc (.At)),
 (199,.sc (.Dt)),
 (200,.sc (.At)),
 (201,.sc (.Dt)),
 (202,.slice 86 1 16),
 (203,.sc (.At)),
 (205,.sc (.At)),
 (206,.struct [(0,6),(6,1),(7,1)] [.int .i64 0,.int .i64 0,.str [],.int .i64 0,.int .i64 0,.slice 6 [] .full,.slice 6 [] .full,.bool false]),
 (207,.struct [(0,6),(6,1),(7,1)] [.int .i64 0,.int .i64 0,.str [],.int .i64 0,.int .i64 0,.slice 6 [] .full,.slice 6 [] .full,.bool false]),
 (208,.sc (.At)),
 (209,.sc (.At)),
 (210,.sc (.At)),
 (211,.sc (.At)),
 (212,.sc (.At)),
 (213,.sc (.At)),
 (214,.sc (.At)),
 (215,.sc (.At)),
 (216,.struct [(0,1),(1,1)] [.Es,.int .i64 0]),
 (217,.struct [(0,1),(1,1)] [.Es,.int .i64 0]),
 (219,.sc (.int .u64 0)),
 (220,.struct [(0,1),(1,1)] [.int .u8 0,.int .u8 0]),
 (221,.struct [(0,1),(1,1)] [.int .u8 0,.int .u8 0]),
 (223,.sc (.At)),
 (227,.sc (.At)),
 (228,.sc (.At)),
 (229,.sc (.Es)),
 (231,.sc (.At)),
 (233,.sc (.At)),
 (235,.sc (.At)),
 (236,.sc (.At)),
 (238,.sc (.At)),
 (240,.sc (.At)),
 (241,.sc (.At)),
 (242,.sc (.At)),
 (243,.sc (.At)),
 (245,.sc (.At)),
 (246,.sc (.At)),
 (247,.sc (.At)),
 (248,.sc (.At)),
 (249,.sc (.At)),
 (250,.sc (.At)),
 (252,.sc (.At)),
 (253,.sc (.At)),
 (254,.sc (.At)),
 (255,.sc (.At)),
 (256,.struct [(0,1),(1,1)] [.int .i64 0,.int .i64 0]),
 (257,.struct [(0,1),(1,1)] [.int .i64 0,.int .i64 0]),
 (259,.sc (.At)),
 (261,.sc (.At)),
 (262,.sc (.At)),
 (263,.sc (.At)),
 (264,.sc (.At)),
 (265,.sc (.At)),
 (266,.sc (.At)),
 (267,.struct [(0,1),(1,1),(2,1)] [.int .i64 0,.int .i64 0,.str []]),
 (268,.struct [(0,1),(1,1),(2,1)] [.int .i64 0,.int .i64 0,.str []]),
 (269,.slice 268 3 32),
 (270,.sc (.At)),
 (271,.sc (.At)),
 (272,.sc (.At)),
 (273,.sc (.At)),
 (274,.sc (.At)),
 (276,.sc (.At)),
 (277,.sc (.At)),
 (278,.sc (.At)),
 (279,.sc (.At)),
 (280,.sc (.At)),
 (281,.sc (.At)),
 (282,.sc (.At)),
 (283,.sc (.At)),
 (284,.sc (.At)),
 (285,.sc (.At)),
 (286,.sc (.At)),
 (287,.sc (.At)),
 (289,.sc (.At)),
 (290,.sc (.At)),
 (291,.sc (.At)),
 (292,.struct [(0,1),(1,1)] [.Es,.int .i64 0]),
 (293,.struct [(0,1),(1,1)] [.Es,.int .i64 0]),
 (294,.sc (.At)),
 (295,.sc (.At)),
 (296,.sc (.At)),
 (297,.sc (.At)),
 (298,.sc (.At)),
 (299,.sc (.At)),
 (300,.sc (.At)),
 (301,.sc (.At)),
 (302,.sc (.At)),
 (303,.sc (.At)),
 (304,.sc (.At)),
 (305,.sc (.At)),
 (306,.sc (.int .u32 0)),
 (308,.sc (.At)),
 (309,.slice 311 2 16),
 (310,.struct [(0,1),(1,1)] [.int .i64 0,.int .i64 0]),
 (311,.struct [(0,1),(1,1)] [.int .i64 0,.int .i64 0]),
 (312,.sc (.At)),
 (313,.sc (.Es)),
 (314,.sc (.At)),
 (316,.sc (.At)),
 (317,.sc (.At)),
 (318,.sc (.At)),
 (319,.sc (.At)),
 (320,.sc (.At)),
 (321,.sc (.At)),
 (322,.sc (.At)),
 (323,.sc (.At)),
 (325,.sc (.At)),
 (326,.sc (.At)),
 (327,.slice 333 3 6),
 (328,.slice 336 3 12),
 (329,.struct [(0,1),(1,1),(2,1)] [.slice 3 [] .full,.slice 3 [] .full,.int .i64 0]),
 (330,.struct [(0,1),(1,1),(2,1)] [.slice 3 [] .full,.slice 3 [] .full,.int .i64 0]),
 (331,.sc (.int .u16 0)),
 (332,.struct [(0,1),(1,1),(2,1)] [.int .u16 0,.int .u16 0,.int .u16 0]),
 (333,.struct [(0,1),(1,1),(2,1)] [.int .u16 0,.int .u16 0,.int .u16 0]),
 (334,.sc (.At)),
 (335,.struct [(0,1),(1,1),(2,1)] [.int .u32 0,.int .u32 0,.int .u32 0]),
 (336,.struct [(0,1),(1,1),(2,1)] [.int .u32 0,.int .u32 0,.int .u32 0]),
 (337,.sc (.At)),
 (338,.sc (.At)),
 (339,.sc (.At)),
 (341,.sc (.At)),
 (342,.sc (.At)),
 (343,.sc (.At)),
 (344,.sc (.At)),
 (346,.sc (.At)),
 (347,.sc (.Es)),
 (348,.sc (.Es)),
 (350,.sc (.At)),
 (351,.sc (.At)),
 (352,.sc (.At)),
 (353,.sc (.At)),
 (354,.sc (.At)),
 (355,.sc (.At)),
 (357,.sc (.At)),
 (358,.sc (.At)),
 (359,.sc (.At)),
 (360,.sc (.At)),
 (373,.sc (.At)),
 (385,.sc (.Es))]
theorem Ab:T4 Tryz.prog yb:=⟨vO EQ EQ,EQ⟩
theorem pB {st : St} (hf : Tryz.prog.funcs[f]? = some fn) (h : Vh yb (Ba Tryz.prog) fn [] args st λr st2 => ∃ r2 U, (r2 = r \/ r2 = r.wk) /\ St.le U st2 /\ R r2 U) (hb : fn.body.isSome = true := by rfl) (hn : (fn.name == "runtime.NumGoroutine") = false := by decide) : Ba Tryz.prog f args st R := DH Ab [] hf hb hn h
end Go.Proofs.Z
namespace Go.Proofs.Z
open Go Go.Aw Go.ChangeShapes Go.WideShapes Go.ChangeAt Go.RowKit
def CF (W:World):Mem:={cell:=λb o=>W.cell? ⟨b,o,none⟩,shape:=λb=>match W.heap[b]? with|some (.cells c _ (0,0))=>some c.size|_=>none}
def ZY:St:=⟨λ_=>none,λ_=>none⟩
theorem oV (W:World) (g:gV (CF W).cell (CF W).shape):Cv (CF W) ZY W:=
 ⟨λb o v h=>h,λb n h=>(by
   simp only [CF] at h
   grind),λb cs h=>(by cases h),λb h=>absurd rfl h,λb n h=>(by cases h),g⟩
structure Kept (W W':World):Prop where
 os:W'.os=W.os
 output:W'.output=W.output
 size:W.heap.size<=W'.heap.size
 IL:∀b,b<W.heap.size->W'.heap[b]? =W.heap[b]?
theorem Sz {args:Array Value} (g:gV (CF W).cell (CF W).shape) (h:Ba P f vs ZY λr _=>r=.ret (.bool true)) (ha:Ao (CF W) vs args.toList):
 Calls P f args W λe W'=>e=.returned (.bool true)/\Kept W W':=by
 have:=h.a (CF W) W args.toList (oV W g) ha
 rw [Array.toArray_toList] at this
 refine this.mono λe W' ⟨U,st',r,k1,k2,k3,k4⟩=>?_
 subst k4
 refine ⟨?_,k1.os,k1.output,k1.size,λb hb=>k1.IL b hb rfl rfl⟩
 cases e with
 |returned v=>
  have k3:AM U (.bool true) v:=k3
  simp only [AM] at k3
  rw [k3]
 |panicked c=>exact k3.elim
 |outgrown=>exact k3.elim
section
variable {H:Type} {enc:TypeId×Value->H} {P:Program} {W W':World} {B:Nat}
theorem Kept.sameAt (h:Kept W W') {p:MemPlace} (U:p.block<W.heap.size):W.sameAt W' p:=by
 cases p with
 |cell b off=>
  have:=h.IL b U
  show W'.cell? _=W.cell? _
  simp only [World.cell?,this]
 |map b=>exact h.IL b U
theorem Kept.frozen (h:Kept W W') {b off:Nat} (hb:b<W.heap.size):W'.frozen? ⟨b,off,none⟩=W.frozen? ⟨b,off,none⟩:=by
 simp only [World.frozen?,h.IL b hb]
theorem Kept.keptBut (h:Kept W W') (may:MemPlace->Prop):W.keptBut W' may:=by
 refine ⟨h.os,h.output,λi hi=>?_⟩
 rw [h.IL i hi]
 grind
theorem Mc (h:Kept W W') {base:Nat} {spare:Nat->Bool} {held:Bool}:∀{ts:List TypeId} {vs:List Value} {ds:List (DataW H)} {ps:List MemPlace},
 DataW.TrodAll enc P W base spare held ts vs ds ps->(∀p ∈ ps,p.block<W.heap.size)->DataW.TrodAll enc P W' base spare held ts vs ds ps
 |[],[],[],_,h0,_=>h0
 |_::_,_::_,_::_,_,⟨p,q,⟨n,h1⟩,h2,e⟩,U=>⟨p,q,⟨n,DataW.trod_carry n _ _ _ h1 λx hx=>h.sameAt (U x i7)⟩,
   Mc h h2 (λx hx=>U x i7),e⟩
theorem SA (hl:laidOutB P=true) (hm:mapsRowed P=true) (hz:((List.range P.types.size).all λt=>match P.underlying t with|some (.slice e)=>decide (0<P.cellsOf e)|_=>true)=true)
 {f:Func} {s:ChangeSpec} {apart fresh handsOn again:Bool} {args:Array Value} {ds gs:List (DataW H)} {before:List MemPlace} {tb:TypeId} (hr:f.resultTypes=#[tb]) (htb:P.underlying tb=some .bool)
 (hts:∀t ∈ f.params.toList,t<P.types.size) (hv:s.vars=[]) (hW:DataW.Whole enc P f.params.toList s.vars apart W args.toList ds gs before) (hfn:s.fn H ds={results:=[.lit (.bool true)],args:=ds}) (hk:Kept W W'):
 s.post enc P f apart fresh handsOn again W args (.bool true) W':=by
 have hlt:∀p ∈ before,p.block<W.heap.size:=λp hp=>hW.lt p hp
 have hW':=hW
 obtain ⟨p,q,hA,hV,rfl,hfz,hnd⟩:=hW
 rw [hv] at hV
 obtain ⟨rfl,rfl⟩:=ChangeShapes.trodVars_none hV
 simp only [List.append_nil] at *
 have hres:∀(b:Nat) (sp:Nat->Bool) (hd:Bool),DataW.TrodAll enc P W' b sp hd f.resultTypes.toList ((Value.bool true).resultList f.resultTypes.size) [.lit (.bool true)] []:=by
  intro b sp hd
  rw [hr]
  refine ⟨[],[],⟨1,?_⟩,rfl,rfl⟩
  rw [DataW.trod_step]
  simp [DataW.trodStep,htb]
  rfl
 have U:∀sp:Nat->Bool,(∀x ∈ p,sp x.block=true)->DataW.TrodAll enc P W' 0 sp true f.params.toList args.toList ds p:=λsp hsp=>
  Mc hk (DataW.TrodAll.respare (kids_rows hl hm) (λt e ht hu=>slices_full_of P hz t e ht hu) hts hA hsp) hlt
 have hvars:∀sp:Nat->Bool,DataW.TrodVars enc P W' sp s.vars [] []:=λsp=>by rw [hv];rfl
 have hold:∀x ∈ p,(λb=>decide (b<W.heap.size)) x.block=true:=λx hx=>by simp_all
 refine ⟨ds,[],p,[],p,[],hW',?_,?_,?_,World.keptBut_mono (λx hx=>⟨hx,.inr (.inl hx)⟩) (hk.keptBut (· ∈ p)),λ_=>⟨?_,_,[],p,⟨[]++p,[],trodAll_append (U _ λ_ _=>rfl) (hres _ _ _),hvars _,GT,?_,λha=>hnd ha⟩,λx hx _=>hx⟩⟩
 .grind
 .simp_all
 .simp_all
 .exact RowKit.ok_one hr rfl (RowKit.okWide_bool_mk htb _)
 .intro b off hb
  rw [hk.frozen (b:=b) (hlt _ hb)]
  exact hfz b off hb
def dec (P:Program):Nat->TypeId->DataW H->Option (List V)
 |0,_,_=>none
 |n+1,t,d=>match P.underlying t,d with
  |some .bool,.lit (.bool b)=>some [.bool b]
  |some (.int k),.lit (.int _ m)=>some [.int k m]
  |some .string,.lit (.string s)=>some [.str s]
  |some (.slice e),.nil=>some [.slice (P.cellsOf e) [] .any]
  |some (.slice e),.slice elems _=>(elems.mapM (dec P n e)).map λes=>[.slice (P.cellsOf e) es .any]
  |some (.struct fs),.agg parts=>if parts.length=fs.size then ((fs.toList.zip parts).mapM λp=>dec P n p.1.type p.2).map List.flatten else none
  |_,_=>none
def QA (P:Program) (S:List TypeId):Bool:=S.all λt=>decide (t<P.types.size)&&match P.underlying t with
 |some .bool|some (.int _)|some .string=>P.cellsOf t==1
 |some (.slice e)=>S.contains e&&decide (0<P.cellsOf e)&&P.cellsOf t==1
 |some (.struct fs)=>fs.toList.all λf=>S.contains f.type
 |_=>false
theorem one_le (d:DataW H):1<=Rows.uptoBulk d:=by
 cases d with
 |lit l=>cases l<;>simp [Rows.uptoBulk]
 |_=>simp [Rows.uptoBulk]
theorem W7 {d:DataW H}:∀{l:List (DataW H)},d ∈ l->Rows.uptoBulk d<=Rows.uptoBulkAll l
 |x::r,h=>by
  simp only [Rows.uptoBulkAll]
  rcases List.mem_cons.1 h with rfl|h
  .omega
  .have:=W7 h;omega
theorem length_le:∀(l:List (DataW H)),l.length<=Rows.uptoBulkAll l
 |[]=>by simp_all
 |x::r=>by have:=one_le x;have:=length_le r;simp only [Rows.uptoBulkAll,List.length_cons];omega
theorem eZ {I:Mem} {b:Nat}:∀{vs:List V} {cs:List Value} {o:Nat},Ao I vs cs->(∀j c,cs[j]? =some c->I.cell b (o+j)=some c)->CV I b o vs
 |[],_,_,_,_=>by simp only [CV]
 |v::r,cs,o,h,k=>by
  simp only [Ao] at h
  obtain ⟨c,s,rfl,hv,hr⟩:=h
  simp only [CV]
  refine ⟨⟨c,by simpa using k 0 c rfl,hv⟩,eZ hr λj U hj=>?_⟩
  have:=k (j+1) U i7
  grind
theorem lp {w:World} {a:Addr} {cs:List Value} (h:w.cells? 0 a n=some cs) (hs:a.spot=none):cs.length=n/\∀j c,cs[j]? =some c->w.cell? ⟨a.block,a.off+j,none⟩=some c:=by
 unfold World.cells? at h
 rw [if_pos (Nat.zero_le _)] at h
 have hl:=mapM_some_length h
 simp only [List.length_range] at hl
 refine ⟨hl,λj c U=>?_⟩
 have hjl:j<cs.length:=(List.getElem?_eq_some_iff.1 U).1
 have:=mapM_some_get h j j (List.getElem?_range AC)
 rw [U] at this
 obtain ⟨b,o,sp⟩:=a
 simp only at hs
 subst hs
 rw [CH] at this
 omega
theorem Ru {w:World} {a:Addr} {cs:List Value} (h:w.cells? 0 a n=some cs) (hn:0<n):a.spot=none:=by
 unfold World.cells? at h
 rw [if_pos (Nat.zero_le _)] at h
 have hl:=mapM_some_length h
 simp only [List.length_range] at hl
 have:=mapM_some_get h 0 0 (List.getElem?_range AC)
 have U:cs[0]? =some cs[0]:=List.getElem?_eq_getElem AC
 rw [U] at this
 obtain ⟨b,o,sp⟩:=a
 cases sp with
 |none=>rfl
 |some s=>
  simp only [Addr.add,if_true,World.cell?] at this
  grind
theorem fe {I:Mem} {b sz:Nat}:∀{es:List (List V)} {o:Nat},(∀(i:Nat) (e:List V),es[i]? =some e->e.length=sz/\CV I b (o+i*sz) e)->Cq I sz b o es
 |[],_,_=>by simp only [Cq]
 |e::r,o,h=>by
  simp only [Cq]
  refine ⟨by simpa using h 0 e rfl,fe λi e' U=>?_⟩
  have:=h (i+1) e' i7
  grind
theorem Lh {S:List TypeId} (K:Kids P (·<P.types.size)) (hS:QA P S=true) (hB:B<DG):∀(n:Nat) (t:TypeId) (cs:List Value) (x:DataW H×List MemPlace),t ∈ S->Rows.uptoBulk x.1<=B->
 DataW.trod enc P W 0 (λ_=>true) true n t cs=some x->∃vs,dec P n t x.1=some vs/\vs.length=P.cellsOf t/\Ao (CF W) vs cs:=by
 intro n
 induction n with
 |zero=>intro t cs x _ _ h;simp [DataW.trod] at h
 |succ n ih=>
  intro t cs x ht hb h
  rw [DataW.trod_step] at h
  have hc:=List.all_eq_true.1 hS t ht
  simp only [Bool.and_eq_true,decide_eq_true_eq] at hc
  obtain ⟨hts,hc⟩:=hc
  unfold DataW.trodStep at h
  unfold dec
  cases hu:P.underlying t with
  |none=>simp_all
  |some u=>
   rw [hu] at hc h
   cases u<;>simp only at hc h |-<;>try (cases hc;done)
   case bool=>
    split at h<;>simp_all
    subst h
    exact ⟨_,rfl,rfl,by simp only [Ao,AM];simp_all⟩
   case int k=>
    split at h<;>simp_all
    obtain ⟨⟨rfl,hw⟩,rfl⟩:=h
    exact ⟨_,rfl,rfl,by simp only [Ao,AM];simp_all⟩
   case string=>
    split at h<;>simp_all
    obtain ⟨h1,rfl⟩:=h
    refine ⟨_,rfl,rfl,?_⟩
    simp only [Ao,AM]
    refine ⟨_,_,rfl,⟨GT,?_⟩,rfl⟩
    simp only [Rows.uptoBulk] at hb
    omega
   case slice e=>
    simp only [Bool.and_eq_true,decide_eq_true_eq,beq_iff_eq] at hc
    obtain ⟨⟨he,U⟩,hone⟩:=hc
    have he:e ∈ S:=by simpa using he
    split at h<;>try (simp_all;done)
    .simp only [Option.some.injEq] at h
     subst h
     refine ⟨_,rfl,hone.symm,?_⟩
     simp only [Ao]
     exact ⟨_,_,rfl,J3 U _ (.inr rfl),rfl⟩
    .rename_i _ _ e' a len cap heq
     cases heq
     split at h
     .rename_i hcond
      simp only [Option.map_eq_some_iff,Option.bind_eq_some_iff] at h
      obtain ⟨elems,h1,rest,h2,rfl⟩:=h
      have hlen:elems.length=len:=by simpa using mapM_some_length h1
      simp only [Rows.uptoBulk] at hb
      have hl:=length_le (elems.map (·.1))
      simp only [List.length_map] at hl
      have one:∀(i:Nat) (y:DataW H×List MemPlace),elems[i]? =some y->∃cs,W.cells? 0 (a.add (i*P.cellsOf e)) (P.cellsOf e)=some cs/\∃vs,dec P n e y.1=some vs/\vs.length=P.cellsOf e/\Ao (CF W) vs cs:=by
       intro i y hy
       have hi:i<len:=by rw [<-hlen];exact (List.getElem?_eq_some_iff.1 hy).1
       have:=mapM_some_get h1 i i (List.getElem?_range hi)
       rw [hy] at this
       obtain ⟨cs',hcs,hy'⟩:=Option.bind_eq_some_iff.1 this
       have hmem:y.1 ∈ elems.map (·.1):=List.mem_map_of_mem (List.mem_of_getElem? hy)
       have:=W7 hmem
       exact ⟨cs',hcs,ih e cs' y he AC hy'⟩
      have hes:∃es:List (List V),(elems.map (·.1)).mapM (dec P n e)=some es/\es.length=len/\∀(i:Nat) (vs:List V),es[i]? =some vs->∃cs,W.cells? 0 (a.add (i*P.cellsOf e)) (P.cellsOf e)=some cs/\vs.length=P.cellsOf e/\Ao (CF W) vs cs:=by
       have gen:∀(l:List (DataW H×List MemPlace)) (k:Nat),(∀(i:Nat) (y:DataW H×List MemPlace),l[i]? =some y->∃cs,W.cells? 0 (a.add ((k+i)*P.cellsOf e)) (P.cellsOf e)=some cs/\∃vs,dec P n e y.1=some vs/\vs.length=P.cellsOf e/\Ao (CF W) vs cs)->
        ∃es:List (List V),(l.map (·.1)).mapM (dec P n e)=some es/\es.length=l.length/\∀(i:Nat) (vs:List V),es[i]? =some vs->∃cs,W.cells? 0 (a.add ((k+i)*P.cellsOf e)) (P.cellsOf e)=some cs/\vs.length=P.cellsOf e/\Ao (CF W) vs cs:=by
        intro l
        induction l with
        |nil=>simp_all
        |cons y r ihl=>
         intro k hl
         obtain ⟨cs,g1,vs,g2,g3,g4⟩:=hl 0 y rfl
         obtain ⟨es,k1,k2,k3⟩:=ihl (k+1) (λi y hy=>by
          have:=hl (i+1) y (by grind)
          grind)
         refine ⟨vs::es,by grind,by simp [k2],λi us hi=>?_⟩
         grind
       obtain ⟨es,k1,k2,k3⟩:=gen elems 0 (λi y hy=>by grind)
       exact ⟨es,k1,k2.trans hlen,λi vs hi=>by simp_all⟩
      obtain ⟨es,k1,k2,k3⟩:=hes
      refine ⟨[.slice (P.cellsOf e) es .any],by
       simp_all,hone.symm,?_⟩
      simp only [Ao,AM]
      refine ⟨_,[],rfl,⟨some a,cap,by rw [k2],AC,AC,U,trivial,?_⟩,rfl⟩
      have hspot:cap=0\/a.spot=none:=by
       by_cases h0:cap=0
       .omega
       .right
        by_cases hl0:len=0
        .simp only [if_true] at h2
         have hrl:rest.length=cap - len:=by simpa using mapM_some_length h2
         have:=mapM_some_get h2 0 0 (List.getElem?_range AC)
         rw [List.getElem?_eq_getElem AC] at this
         obtain ⟨cs',hcs,_⟩:=Option.bind_eq_some_iff.1 this
         have hsp:=Ru hcs U
         rw [hl0] at hsp
         simpa [Addr.add] using hsp
        .obtain ⟨cs,hcs,_⟩:=one 0 elems[0] (List.getElem?_eq_getElem AC)
         have hsp:=Ru hcs U
         simpa [Addr.add] using hsp
      refine ⟨hspot,fe λi vs hi=>?_⟩
      obtain ⟨cs,g1,g2,g3⟩:=k3 i vs hi
      refine ⟨g2,eZ g3 λj c hj=>?_⟩
      have hi':i<es.length:=(List.getElem?_eq_some_iff.1 hi).1
      obtain rfl|hne:=Nat.eq_zero_or_pos cap
      .omega
      .obtain ⟨b,o,sp⟩:=a
       have hsp:sp=none:=hspot.resolve_left AC
       subst hsp
       rw [CH] at g1
       exact (lp g1 rfl).2 j c hj
     grind
   case struct fs=>
    split at h
    .rename_i hlen
     simp only [Option.map_eq_some_iff] at h
     obtain ⟨xs,h1,rfl⟩:=h
     simp only [Rows.uptoBulk] at hb
     have hxl:xs.length=fs.size:=by have:=mapM_some_length h1;simpa using this
     obtain ⟨hT,hsum,hoff⟩:=K.struct hts hu
     have hct:∀f ∈ fs.toList,f.type ∈ S:=λf hf=>by grind
     have gen:∀(l:List Field) (ys:List (DataW H×List MemPlace)) (rs:List Value),l.length=ys.length->(∀f ∈ l,f.type ∈ S)->(∀y ∈ ys,Rows.uptoBulk y.1<=B)->
      rs.length=(l.map λf=>P.cellsOf f.type).sum->
      (∀(j:Nat) (f:Field) (y:DataW H×List MemPlace),l[j]? =some f->ys[j]? =some y->DataW.trod enc P W 0 (λ_=>true) true n f.type ((rs.drop ((l.take j).map λf=>P.cellsOf f.type).sum).take (P.cellsOf f.type))=some y)->
      ∃vs,(l.zip (ys.map (·.1))).mapM (λp=>dec P n p.1.type p.2)=some vs/\vs.flatten.length=(l.map λf=>P.cellsOf f.type).sum/\Ao (CF W) vs.flatten rs:=by
      intro l
      induction l with
      |nil=>
       intro ys rs h0 _ _ hr _
       refine ⟨[],GT,rfl,?_⟩
       simp at hr
       subst hr
       rfl
      |cons f r ihl=>
       intro ys rs h0 hS' hB' hr hj
       cases ys with
       |nil=>grind
       |cons y ys=>
        simp only [List.map_cons,List.sum_cons] at hr
        obtain ⟨v,g1,g2,g3⟩:=ih f.type _ y (hS' f List.mem_cons_self) (hB' y List.mem_cons_self) (hj 0 f y rfl rfl)
        simp only [List.take_zero,List.map_nil,List.sum_nil,List.drop_zero] at g3
        obtain ⟨vs,k1,k2,k3⟩:=ihl ys (rs.drop (P.cellsOf f.type)) i7 (λf' hf=>hS' f' (List.mem_cons_of_mem _ hf)) (λy' hy=>hB' y' (List.mem_cons_of_mem _ hy)) i7 (λj f' y' hf hy=>by
         have:=hj (j+1) f' y' i7 i7
         simp_all)
        refine ⟨v::vs,i7,i7,?_⟩
        have:=Ao.append g3 k3
        simp_all
     obtain ⟨vs,g1,g2,g3⟩:=gen fs.toList xs cs i7 hct (λy hy=>by have:=W7 (List.mem_map_of_mem (f:=(·.1)) hy);omega) AC (λj f y hf hy=>by
      have:=mapM_some_get h1 j f hf
      grind)
     simp_all
    grind
theorem Lb {v:Value} {fs:Array Field} (U:P.underlying t=some (.struct fs)) (h:Value.okWide P W .any base t v):∃cs,v=.agg cs:=by
 unfold Value.okWide at h
 grind
theorem J4 {v:Value} (U:∃cs,v=.agg cs) (h:Ao I vs v.cells.toList):AM I (.agg vs) v:=by
 obtain ⟨cs,rfl⟩:=U
 simp only [AM]
 exact ⟨cs.toList,GT,h⟩
end
end Go.Proofs.Z
namespace Go.Proofs.Z
open Go Go.Aw Go.ChangeShapes Go.WideShapes Go.ChangeAt Go.RowKit Go.Lib
theorem own:ownKnob Tryz.prog.godebug=none:=EQ
noncomputable def listed : List (String × DataW Unit) := [("unicode/utf8.first", Lib.firstData), ("unicode/utf8.acceptRanges", Lib.acceptData), ("strings.asciiSpace", Lib.tabData .u8 Lib.asciiSpaceTab), ("unicode.White_Space", Lib.whiteData)]
def ren:Go.Shelf.Ren:=⟨λn=>n,λ|5=>5|119=>218|138=>221|139=>222|n=>n,λ|3=>1|4=>2|n=>n⟩
theorem xX:U8Types Tryz.prog ren:=⟨EQ,EQ,EQ,EQ⟩
theorem wB:U8Extra Tryz.prog ren:=⟨EQ,EQ,EQ,EQ,EQ,EQ,EQ⟩
def vI:Array Value:=(List.replicate 256 (Value.int .u8 0)).toArray
theorem dh:vI.size=256:=EQ
theorem z3:((begin Tryz.prog (λ_ _=>0) default).world.heap[4]?).bind Obj.row? =some (vI,218):=EQ
theorem z2:((begin Tryz.prog (λ_ _=>0) default).world.heap[3]?).bind Obj.row? =some (#[Value.int .i64 0],3):=EQ
abbrev wI:Value:=.iface 191 (.agg #[.pointer (some ⟨7,86,none⟩)])
theorem VO (hL2:laidMet Tryz.prog listed W/\W.cell? ⟨0,0,none⟩=some wI) (U:W.ShapedOpen Tryz.prog):gV (CF W).cell (CF W).shape:=by
 obtain ⟨hL,hH⟩:=hL2
 have h8:=utf8Tabs_of_readsT xX wB (Lib.laidMet.reads hL (by unfold listed;repeat (first|exact .head _|refine .tail _ ?_))) (Lib.laidMet.reads hL (by unfold listed;repeat (first|exact .head _|refine .tail _ ?_)))
 obtain ⟨g, t, cs, fuel, p, hg, hty, hvar, hd⟩ := Lib.laidMet.reads hL (n := "strings.asciiSpace") (by unfold listed; repeat (first | exact .head _ | refine .tail _ ?_))
 obtain rfl := Option.some.inj ((show Tryz.prog.globalNamed "strings.asciiSpace" = some 4 by kernel_rfl).symm.trans hg)
 obtain rfl:=Option.some.inj ((show (Tryz.prog.globals[4]?).map (·.type)=some 218 by kernel_rfl).symm.trans hty)
 have hcs:=cells_of_tab (n:=256) (e:=5) EQ EQ EQ EQ hd
 obtain ⟨cs3,hh3,hs3,_⟩:=U.1 4 _ _ (of_decide_eq_true EQ) z3
 refine ⟨h8.1,h8.2,?_,?_,?_,hH⟩
 .exact cell_of_shapedOpen_int U (of_decide_eq_true EQ) z2 EQ EQ EQ EQ
 .intro i hi
  show W.cell? ⟨4,i,none⟩=_
  rw [World.var?_cell hg hvar i,<-Array.getElem?_toList,hcs]
  have hl:Lib.asciiSpaceTab.length=256:=GE
  simp [List.getD,hl,hi]
 .have e:(CF W).shape 4=some cs3.size:=by simp [CF,hh3]
  rw [e,hs3,dh]
noncomputable def Iq : List (String × DataW Unit) := listed ++ [("errors.errorType", .iface "internal/reflectlite.rtype" (.agg [.ptr (.lit (.string [101, 114, 114, 111, 114]))]))]
theorem zK : Tryz.prog.globalNamed "errors.errorType" = some 0 := by kernel_rfl
theorem zL : (Tryz.prog.cutTypes.find? (·.1 == "internal/reflectlite.rtype")).map (·.2) = some 191 := by kernel_rfl
theorem zM:Tryz.prog.types.size=386:=EQ
theorem yE:((List.range 386).filter λt=>Tryz.prog.rowNamed t [101,114,114,111,114])=[86]:=EQ
theorem VX {l:List (String×DataW Unit)} (e:l=Iq) (h:laidMetH Tryz.prog l W):laidMet Tryz.prog listed W/\W.cell? ⟨0,0,none⟩=some wI:=by
 subst e
 have U : laidMet Tryz.prog (Iq.filter λx => x.2.handleName?.isNone) W /\ handlesMet Tryz.prog [("errors.errorType", .iface "internal/reflectlite.rtype" (.agg [.ptr (.lit (.string [101, 114, 114, 111, 114]))]))] W := by
  unfold laidMetH at h
  rw [show (Iq.filter λx => x.2.handleName?.isSome) = [("errors.errorType", .iface "internal/reflectlite.rtype" (.agg [.ptr (.lit (.string [101, 114, 114, 111, 114]))]))] from by kernel_rfl] at h
  exact h
 rw [show (Iq.filter λx=>x.2.handleName?.isNone)=listed from by kernel_rfl] at U
 refine ⟨U.1,?_⟩
 obtain ⟨name,u,ty,e1,e2,e3,e4,e5⟩:=U.2 _ (List.mem_singleton.2 rfl)
 have en:name=[101,114,114,111,114]:=(Option.some.inj e1).symm
 subst en
 obtain rfl:=Option.some.inj (zL.symm.trans e2)
 have hm:ty ∈ (List.range 386).filter λt=>Tryz.prog.rowNamed t [101,114,114,111,114]:=List.mem_filter.2 ⟨List.mem_range.2 (by rw [<-zM];exact e3),e4⟩
 rw [yE] at hm
 obtain rfl:=List.mem_singleton.1 hm
 have hh:typeHandle Tryz.prog 86=.pointer (some ⟨7,86,none⟩):=EQ
 rw [hh] at e5
 simpa using World.var?_cell zK e5 0
theorem VY {l:List (String×DataW Unit)} (e:l=Iq) (h:laidMet Tryz.prog listed W/\(Iq.filter λx=>x.2.handleName?.isSome).all (handleAtB Tryz.prog W)=true):laidMetH Tryz.prog l W:=by
 subst e
 refine laidMetH_of_parts ?_ h.2
 rw [show (Iq.filter λx=>x.2.handleName?.isNone)=listed from by kernel_rfl]
 exact h.1
noncomputable def Df (os:Os):World:=
 let N:=(World.settled Tryz.prog os).heap.size
 let w0:=World.holding Tryz.prog os ⟨#[.cells (Lib.whiteT.map λ(z:Nat)=>Value.int .u16 (z:Int)).toArray 333,.cells #[.slice (some ⟨N,0,none⟩) 7 7,.slice none 0 0,.int .i64 2] 330],#[],[]⟩
 let put (h:Array Obj) (g:Nat) (cs:Array Value):Array Obj:=h.modify g fun
  | .cells _ t frozen=>.cells cs t frozen
  |o=>o
 let U:=put w0.heap 1 (Lib.firstTab.map λz=>Value.int .u8 z).toArray
 let h2:=put U 2 ((List.range 16).flatMap λi=>[Value.int .u8 (Lib.accLo i),Value.int .u8 (Lib.accHi i)]).toArray
 let h3:=put h2 4 (Lib.asciiSpaceTab.map λz=>Value.int .u8 z).toArray
 let h4:=put h3 5 #[.pointer (some ⟨N+1,0,none⟩)]
 let h5:=put h4 0 #[wI]
 {w0 with heap:=h5}
noncomputable abbrev vC:Nat:=(World.settled Tryz.prog default).heap.size
theorem mZ (os:Os) (args:Array Value):laidMet Tryz.prog listed ((Df os).forCall (λ_ _=>0) ⟨#[],args,[]⟩).memory:=
 (LaidIn.of_run (l:=listed) [1,2,4,5,vC,vC+1] 10 EQ EQ EQ EQ).met
theorem VW (os:Os) (args:Array Value):laidMet Tryz.prog listed ((Df os).forCall (λ_ _=>0) ⟨#[],args,[]⟩).memory/\(Iq.filter λx=>x.2.handleName?.isSome).all (handleAtB Tryz.prog ((Df os).forCall (λ_ _=>0) ⟨#[],args,[]⟩).memory)=true:=
 ⟨mZ os args,EQ⟩
end Go.Proofs.Z
namespace Go.Proofs.Z
open Go Go.Aw
section
variable {H:Type} {P:Program}
theorem QE {k:IntKind} {d:DataW H} (U:P.underlying t=some (.int k)) (h:dec P n t d=some vs):∃m,vs=[.int k m]:=by
 cases n with
 |zero=>cases h
 |succ n=>
  unfold dec at h
  rw [U] at h
  split at h<;>simp_all
  exact ⟨_,h.symm⟩
theorem rv {d:DataW H} (U:P.underlying t=some .string) (h:dec P n t d=some vs):∃s,vs=[.str s]/\s.length+1=Rows.uptoBulk d:=by
 cases n with
 |zero=>cases h
 |succ n=>
  unfold dec at h
  rw [U] at h
  split at h<;>simp_all
  exact ⟨_,h.symm,by simp [Rows.uptoBulk]⟩
theorem gB {e:TypeId} {d:DataW H} (hu:P.underlying t=some (.slice e)) (h:dec P n t d=some vs):
 ∃(m:Nat) (es:List (List V)) (ds:List (DataW H)),n=m+1/\vs=[.slice (P.cellsOf e) es .any]/\ds.mapM (dec P m e)=some es/\Rows.uptoBulkAll ds+1<=Rows.uptoBulk d:=by
 cases n with
 |zero=>cases h
 |succ n=>
  unfold dec at h
  rw [hu] at h
  split at h<;>try (simp_all;done)
  .rename_i heq
   cases heq
   cases h
   exact ⟨n,[],[],rfl,rfl,rfl,by simp [Rows.uptoBulk,Rows.uptoBulkAll]⟩
  .rename_i heq
   cases heq
   obtain ⟨es,U,h2⟩:=Option.map_eq_some_iff.1 h
   exact ⟨n,es,_,rfl,h2.symm,U,by simp only [Rows.uptoBulk];omega⟩
theorem aR {fs:Array Field} {d:DataW H} (hu:P.underlying t=some (.struct fs)) (h:dec P n t d=some vs):
 ∃(m:Nat) (ds:List (DataW H)) (us:List (List V)),n=m+1/\ds.length=fs.size/\((fs.toList.zip ds).mapM λp=>dec P m p.1.type p.2)=some us/\vs=us.flatten/\Rows.uptoBulkAll ds+1=Rows.uptoBulk d:=by
 cases n with
 |zero=>cases h
 |succ n=>
  unfold dec at h
  rw [hu] at h
  split at h<;>try (simp_all;done)
  rename_i heq
  cases heq
  split at h
  .obtain ⟨us,U,h2⟩:=Option.map_eq_some_iff.1 h
   exact ⟨n,_,us,rfl,‹_›,U,h2.symm,by simp only [Rows.uptoBulk]⟩
  .cases h
theorem C4 {β:Type} {f:α->Option β} {x:α} {l:List α} {r:List β} (h:(x::l).mapM f=some r):∃y U,f x=some y/\l.mapM f=some U/\r=y::U:=by
 simp only [List.mapM_cons] at h
 cases hx:f x with
 |none=>rw [hx] at h;cases h
 |some y=>
  cases hl:l.mapM f with
  |none=>rw [hx,hl] at h;cases h
  |some U=>
   rw [hx,hl] at h
   cases h
   exact ⟨y,U,rfl,rfl,rfl⟩
theorem Yb {α:Type} {f:α->List V} {w:α->Nat} {m:Nat} {e:TypeId} (one:∀(d:DataW H) (vs:List V),dec P m e d=some vs->∃a,vs=f a/\w a<=Rows.uptoBulk d):∀{ds:List (DataW H)} {es:List (List V)},
 ds.mapM (dec P m e)=some es->∃U:List α,es=U.map f/\(U.map w).sum<=Rows.uptoBulkAll ds
 |[],es,h=>by cases h;exact ⟨[],rfl,GT⟩
 |d::r,es,h=>by
  obtain ⟨y,ys,h1,h2,rfl⟩:=C4 h
  obtain ⟨a,rfl,k1⟩:=one d y h1
  obtain ⟨U,rfl,k2⟩:=Yb one h2
  exact ⟨a::U,rfl,by simp only [List.map_cons,List.sum_cons,Rows.uptoBulkAll];omega⟩
end
end Go.Proofs.Z
namespace Go.Aw
open Go
inductive Nd where
 |mk (kind form:Int) (text:List UInt8) (line Cg:Int) (kids:List Nd)
namespace Nd
def kind:Nd->Int| .mk k _ _ _ _ _=>k
def form:Nd->Int| .mk _ f _ _ _ _=>f
def text:Nd->List UInt8| .mk _ _ t _ _ _=>t
def line:Nd->Int| .mk _ _ _ l _ _=>l
def Cg:Nd->Int| .mk _ _ _ _ c _=>c
def kids:Nd->List Nd| .mk _ _ _ _ _ ks=>ks
end Nd
mutual
def encR:Nd->List V
 | .mk k f t l c ks=>[.int .i64 k,.int .i64 f,.str t,.int .i64 l,.int .i64 c,.slice 6 (BL ks) .any]
def BL:List Nd->List (List V)
 |[]=>[]
 |n::r=>encR n::BL r
end
def Ax (n:Nd):List V:=[.int .i64 n.kind,.int .i64 n.form,.str n.text,.int .i64 n.line,.int .i64 n.Cg,.slice 6 (BL n.kids) .any]
def enc (n:Nd):V:=.agg (Ax n)
theorem rN (n:Nd):encR n=Ax n:=by cases n;rfl
theorem BK (ks:List Nd):BL ks=ks.map Ax:=by
 induction ks with
 |nil=>rfl
 |cons n r U=>simp only [BL,rN,U,List.map_cons]
theorem CR (ks:List Nd):(BL ks).length=ks.length:=by rw [BK,List.length_map]
theorem Ym (ks:List Nd) (i:Nat):(BL ks)[i]? =ks[i]?.map Ax:=by rw [BK,List.getElem?_map]
theorem Uk (ks:List Nd) (i:Nat):(BL ks).drop i=BL (ks.drop i):=by rw [BK,BK,List.map_drop]
theorem gN (ks:List Nd) (i:Nat):(BL ks).take i=BL (ks.take i):=by rw [BK,BK,List.map_take]
theorem Yk (a b:List Nd):BL (a++b)=BL a++BL b:=by rw [BK,BK,BK,List.map_append]
mutual
def Nd.size:Nd->Nat
 | .mk _ _ _ _ _ ks=>1+AD ks
def AD:List Nd->Nat
 |[]=>0
 |n::r=>n.size+AD r
end
theorem KZ:∀{l:List Nd} {x:Nd},x ∈ l->x.size<=AD l
 |y::r,x,h=>by
  rw [AD]
  rcases List.mem_cons.1 h with rfl|h
  .omega
  .have:=KZ h;omega
theorem Cp {n x:Nd} (h:x ∈ n.kids):x.size<n.size:=by
 cases n with
 |mk a b c d e ks=>
  have:=KZ (show x ∈ ks from h)
  rw [Nd.size];omega
theorem Wn {ks:List Nd} {i:Int} (h0:0<=i) (h1:i<ks.length) (k:∀x,ks[i.toNat]? =some x->x ∈ ks->K (Ax x)):0<=i/\∃e,(BL ks)[i.toNat]? =some e/\K e:=by
 have U:i.toNat<ks.length:=AC
 refine ⟨h0,Ax ks[i.toNat],?_,k _ (List.getElem?_eq_getElem U) (List.getElem_mem U)⟩
 rw [Ym,List.getElem?_eq_getElem U];rfl
theorem Wl {ks:List Nd} {K:Nat->Prop} (k:ks.length<4611686018427387904->K ks.length):∀m,m=(BL ks).length->m<DG->K m:=λm U h=>by
 rw [CR] at U;subst U;exact k h
theorem Wp {ks:List Nd} {l h:Int} {K:List (List V)->Prop} (h0:0<=l) (h1:l<=h) (h2:h<=ks.length) (k:K (BL ((ks.take h.toNat).drop l.toNat))):
 (0<=l/\l<=h/\h<=(BL ks).length)/\∀U,U=(((BL ks).take h.toNat).drop l.toNat)->K U:=by
 refine ⟨⟨h0,h1,by rw [CR];exact h2⟩,λU e=>?_⟩
 rw [gN,Uk] at e;simp_all
theorem Wo {ks:List Nd} {l:Int} {K:List (List V)->Prop} (h0:0<=l) (h1:l<=ks.length) (k:K (BL (ks.drop l.toNat))):
 (0<=l/\l<=((BL ks).length:Int)/\((BL ks).length:Int)<=(BL ks).length)/\∀U,U=(((BL ks).take (((BL ks).length:Int)).toNat).drop l.toNat)->K U:=by
 refine ⟨⟨h0,by rw [CR];exact h1,Int.le_refl _⟩,λU e=>?_⟩
 rw [Int.toNat_natCast,List.take_length,Uk] at e;simp_all
theorem LM {a:Int} (U: -9223372036854775808<=a) (h2:a<=9223372036854775807):IntKind.i64.wrap a=a:=IntWalk.i64_in _ ⟨U,h2⟩
theorem Wq {a:Int} {K:Int->Prop} (U: -9223372036854775808<=a) (h2:a<=9223372036854775807) (k:K a):∃r,r=IntKind.i64.wrap a/\K r:=⟨a,(LM U h2).symm,k⟩
theorem Wf {a:Int} {q:Prop} (U:0<=a) (h:m=a.toNat->p) (k:¬m=a.toNat->q):Bn ((m:Int)==a) p q:=
 Wk (λe=>h (by grind)) (λe=>k (λx=>by grind))
theorem Wr {a b:Int} {K:Int->Prop} (hb:0<b) (U:0<=a) (h1:a<=4611686018427387904) (k:K (a / b)):b≠0/\∃r,r=IntKind.i64.wrap (a.tdiv b)/\K r:=by
 have e:a.tdiv b=a / b:=Int.tdiv_eq_ediv_of_nonneg U
 have h2:a / b<=a:=Int.ediv_le_self b U
 have h3:0<=a / b:=Int.ediv_nonneg U AC
 exact ⟨AC,_,(by rw [e,LM AC AC]),k⟩
theorem Ws {b:Int} (h:b≠0) (k:p):b≠0/\p:=⟨h,k⟩
theorem Wm {ks:List Nd} {i:Int} {x:Nd} (h:ks[i.toNat]? =some x) (U:0<=i) (k:K (Ax x)):0<=i/\∃e,(BL ks)[i.toNat]? =some e/\K e:=
 ⟨U,Ax x,by rw [Ym,h];rfl,k⟩
theorem Yj {i:Int} {x:List V} (h:es[i.toNat]? =some x) (U:0<=i) (k:K x):0<=i/\∃e,es[i.toNat]? =some e/\K e:=⟨U,x,h,k⟩
theorem Wd {l:List Oper} (h:(KC k l&&IK L)=true) (q:p):(KC k l&&IK L)=true/\p:=⟨h,q⟩
theorem WF {q:Prop} (h:p):p\/q:=.inl h
theorem Ad {st:St} (sched:List (Nat×Bool)) (L:List Nat) (h:Kk sched all=true) (k:F9 T C all sched L (Bl (L.map some) env.boxes) Q sched env st):
 p\/∃(sched:List (Nat×Bool)) (L:List Nat),Kk sched all=true/\F9 T C all sched L (Bl (L.map some) env.boxes) Q sched env st:=.inr ⟨sched,L,h,k⟩
theorem We {st:St} {K:V->Prop} (v:V) (h:Br T C all o U env st v) (k:v.part K):
 ∃v,Br T C all o U env st v/\v.part K:=⟨v,h,k⟩
theorem W9 {st:St} {K:V->Prop} {q:Prop} (v:V) (h:Br T C all o U env st v) (k:v.part K):
 ∃v,(Br T C all o U env st v\/(p/\Br T C all o b1 env st' v)\/(q/\Br T C all o b1 env st v))/\v.part K:=⟨v,.inl h,k⟩
theorem W8 {st:St} {K:V->Prop} {q:Prop} (h0:p) (v:V) (h:Br T C all o b1 env st' v) (k:v.part K):
 ∃v,(Br T C all o U env st v\/(p/\Br T C all o b1 env st' v)\/(q/\Br T C all o b1 env st v))/\v.part K:=⟨v,.inr (.inl ⟨h0,h⟩),k⟩
theorem W0 {st:St} {K:V->Prop} {q:Prop} (h0:q) (v:V) (h:Br T C all o b1 env st v) (k:v.part K):
 ∃v,(Br T C all o U env st v\/(p/\Br T C all o b1 env st' v)\/(q/\Br T C all o b1 env st v))/\v.part K:=⟨v,.inr (.inr ⟨h0,h⟩),k⟩
theorem Wa {e:Env}:v=v/\e=e/\s=s:=⟨rfl,rfl,rfl⟩
theorem Wb {b:Bool} {e:Env}:Bn b (V.bool true=.bool b/\e=e/\s=s) (V.bool false=.bool b/\e=e/\s=s):=by
 cases b
 .exact Wj Wa
 .exact Wi Wa
theorem Wc {b:Bool} {e:Env}:Bn b (V.bool false=.bool (!b)/\e=e/\s=s) (V.bool true=.bool (!b)/\e=e/\s=s):=by
 cases b
 .exact Wj Wa
 .exact Wi Wa
noncomputable def Env.ts (env:Env) (ch:List (Nat×V)) (keep:List Nat):List (Nat×V):=
 List.rec (motive:=λ_=>List (Nat×V)) (List.rec (motive:=λ_=>List (Nat×V)) [] (λt _ U=>(t,env.get t)::U) keep) (λp _ U=>p::U) ch
noncomputable def Env.at (env:Env) (U:List (Nat×V)) (keep:List Nat):Env:=match env with
 |⟨ts,bs,n,sz,gl⟩=>⟨Env.ts ⟨ts,bs,n,sz,gl⟩ U keep,[],n,sz,gl⟩
theorem KO {U:(AG->Env->St->Prop)->Env->St->Prop} {st:St} (i:Nat) (keep:List Nat) (m:Nat) (J:Nat->Prop) (h0:J 0)
 (he:(env.at [(i,.int .i64 ((0:Nat):Int))] keep).E4 env)
 (hb:∀k:Nat,J k->U (BW (λenv' st'=>∃y,J y/\m - y<m - k/\(env.at [(i,.int .i64 (y:Int))] keep).E4 env'/\St.le st st') Q) (env.at [(i,.int .i64 (k:Int))] keep) st):
 ∃(α:Type) (E:α->Env) (S:α->St) (J:α->Prop) (μ:α->Nat) (x0:α),J x0/\(E x0).E4 env/\St.le (S x0) st/\
  ∀x,J x->U (BW (λenv' st'=>∃y,J y/\μ y<μ x/\(E y).E4 env'/\St.le (S y) st') Q) (E x) (S x):=
 ⟨Nat,λk=>env.at [(i,.int .i64 (k:Int))] keep,λ_=>st,J,λk=>m - k,0,h0,he,St.le_refl _,hb⟩
theorem Pq:(k:Int).tmod 2=1↔k % 2=1:=by grind
theorem Kb:(k:Int).tmod 2=0↔k % 2=0:=by grind
theorem drop_at {l:List α} {x:α} (h:l[k]? =some x):l.drop k=x::l.drop (k+1):=by
 obtain ⟨U,rfl⟩:=List.getElem?_eq_some_iff.1 h
 simp_all
noncomputable def Env.bx (env:Env) (kb:List Nat):List (Nat×List V):=
 List.rec (motive:=λ_=>List (Nat×List V)) [] (λid _ U=>match assoc env.boxes id with|some cs=>(id,cs)::U|none=>U) kb
noncomputable def Env.uT (env:Env) (U:List (Nat×V)) (keep kb:List Nat):Env:=match env with
 |⟨ts,bs,n,sz,gl⟩=>⟨Env.ts ⟨ts,bs,n,sz,gl⟩ U keep,Env.bx ⟨ts,bs,n,sz,gl⟩ kb,n,sz,gl⟩
theorem QM {st:St} (i:Nat) (keep U:List Nat) (m:Nat) (J:Nat->Prop) (h0:J 0)
 (he:(env.uT [(i,.int .i64 ((0:Nat):Int))] keep U).E4 env)
 (hb:∀k:Nat,J k->ih (BW (λenv' st'=>∃y,J y/\m - y<m - k/\(env.uT [(i,.int .i64 (y:Int))] keep U).E4 env'/\St.le st st') Q) (env.uT [(i,.int .i64 (k:Int))] keep U) st):
 ∃(α:Type) (E:α->Env) (S:α->St) (J:α->Prop) (μ:α->Nat) (x0:α),J x0/\(E x0).E4 env/\St.le (S x0) st/\
  ∀x,J x->ih (BW (λenv' st'=>∃y,J y/\μ y<μ x/\(E y).E4 env'/\St.le (S y) st') Q) (E x) (S x):=
 ⟨Nat,λk=>env.uT [(i,.int .i64 (k:Int))] keep U,λ_=>st,J,λk=>m - k,0,h0,he,St.le_refl _,hb⟩
theorem V4 {st:St} (f:α->List (Nat×V)) (keep kb:List Nat) (S:α->St) (J:α->Prop) (U:α->Nat) (x0:α) (h0:J x0)
 (he:(env.uT (f x0) keep kb).E4 env) (hs:St.le (S x0) st)
 (hb:∀x,J x->ih (BW (λenv' st'=>∃y,J y/\U y<U x/\(env.uT (f y) keep kb).E4 env'/\St.le (S y) st') Q) (env.uT (f x) keep kb) (S x)):
 ∃(α:Type) (E:α->Env) (S:α->St) (J:α->Prop) (U:α->Nat) (x0:α),J x0/\(E x0).E4 env/\St.le (S x0) st/\
  ∀x,J x->ih (BW (λenv' st'=>∃y,J y/\U y<U x/\(E y).E4 env'/\St.le (S y) st') Q) (E x) (S x):=
 ⟨α,λk=>env.uT (f k) keep kb,S,J,U,x0,h0,he,hs,hb⟩
def strs (l:List (List UInt8)):List (List V):=l.map λs=>[V.str s]
theorem P9 {l new:List (List UInt8)} {own:AE} {st:St} {K:V->St->Prop} (h:own.BD st) (hb:l.length+new.length<=1000000000)
 (k:∀U:AE,U.BD st->K (.slice 1 (strs (l++new)) U) (U.st st (l++new).length)):Am 1 16 (strs l) own (strs new) (own.st st l.length) K:=by
 have h0:∀l,(strs l).length=l.length:=λl=>by simp [strs]
 have h1:∀l,(strs l).map (·.map V.JB)=strs l:=λl=>by simp only [strs,List.map_map];rfl
 have:=EI (sz:=1) (bytes:=16) (es:=strs l) (new:=strs new) (K:=K) h (by grind) (by rw [h0,h0];simp only [DG];omega)
  (by simp [strs,V.sc]) (λU ho=>by
    have:=k U ho
    rw [h0,h0,h1]
    rw [List.length_append] at this
    rw [Nat.mul_one,show strs l++strs new=strs (l++new) by simp [strs]]
    omega)
 simp_all
def ints (l:List Int):List (List V):=l.map λn=>[V.int .i64 n]
theorem Wg [BEq α] [LawfulBEq α] {a b:α} {q:Prop} (h:a=b->p) (k:¬a=b->q):Bn (a==b) p q:=
 Wk (λe=>h (eq_of_beq e)) (λe=>k (λx=>by simp_all))
theorem Wh [Decidable c] {q:Prop} (h:c->p) (k:¬c->q):Bn (decide c) p q:=
 Wk (λe=>h (of_decide_eq_true e)) (λe=>k (of_decide_eq_false e))
section
variable {R:Au->St->Prop} {st:St}
theorem fin (h:R r st) (e:r=r'):∃r2 U,(r2=r'\/r2=r'.wk)/\St.le U st/\R r2 U:=by subst e;exact ⟨r,st,.inl rfl,St.le_refl _,h⟩
theorem Av {b b':Bool} (h:R (.ret (.bool b)) st) (e:b=b'):∃r2 U,(r2=(.ret (.bool b'))\/r2=(Au.ret (.bool b')).wk)/\St.le U st/\R r2 U:=by subst e;exact fin h rfl
theorem VF (h:R r st) (e:r=r'.wk):∃r2 U,(r2=r'\/r2=r'.wk)/\St.le U st/\R r2 U:=by subst e;exact ⟨_,st,.inr rfl,St.le_refl _,h⟩
theorem AY (e:r=r'.wk) (h:R r st):∃r2 U,(r2=r'\/r2=r'.wk)/\St.le U st/\R r2 U:=VF h e
end
theorem LY {P A:Prop} (k:A) (h:A->P:=by intro k;with_reducible first|(show _/\_;first|exact Wd EQ k|exact Wm ‹_› AC k|exact Wn AC AC k|exact Wo AC AC k|exact Wp AC AC AC k|exact Wr Do AC AC k|exact Ws Do k)|(show Bn _ _ _;first|exact Wi k|exact Wj k)|(intro x y z;exact Wl k x y z)|(show Exists _;first|exact Wq AC AC k)|fail):P:=h k
theorem LZ {P A B:Prop} (k:A) (l:B) (h:A->B->P:=by intro k l;with_reducible first|(show Bn _ _ _;first|exact Wf Do k l|exact Wg k l|exact Wh k l|exact Wk k l)|fail):P:=h k l
theorem Yl {P:Prop} (h:P:=by refine ⟨rfl,?_,?_,rfl⟩<;>repeat' (first|exact trivial|exact rfl|refine And.intro ?_ ?_)):P:=h
section
variable {D:List Deferred} {P:Program} {T:List (Nat×Ty)} {C:FuncId->List V->St->(Au->St->Prop)->Prop} {I0 I:Mem} {st0 st:St} {w0 w:World} {β:Nat->Option Nat} {env:Env} {a:Act}
def H6 (all:List Oper) (U:List (List Bool×Nat)):Bool:=
 ((List.range all.length).all λj=> !(BG all (List.replicate all.length false) j)||U.contains (List.replicate all.length false,j))&&
 ((List.replicate all.length false==List.replicate all.length true)||(List.range all.length).any λj=>BG all (List.replicate all.length false) j)&&
 U.all λp=>(p.1.length==all.length)&&((List.range all.length).all λj=> !(BG all (p.1.set p.2 true) j)||U.contains (p.1.set p.2 true,j))&&
  ((p.1.set p.2 true==List.replicate all.length true)||(List.range all.length).any λj=>BG all (p.1.set p.2 true) j)
def pO (T:List (Nat×Ty)) (C:FuncId->List V->St->(Au->St->Prop)->Prop) (all:List Oper) (Q:AG->Env->St->Prop) (E:List Bool->Env) (S:List Bool->St) (p:List Bool×Nat):Prop:=
 match all[p.2]? with
 |some o=>Bi all o (E p.1) (Gj T C o (E p.1) (S p.1) (λv env st=>env.go o.dst v λenv=>(E (p.1.set p.2 true)).E4 env/\St.le (S (p.1.set p.2 true)) st) Q)
   ((E p.1).go o.dst (.Bp []) λenv=>(E (p.1.set p.2 true)).E4 env/\St.le (S (p.1.set p.2 true)) (S p.1))
 |none=>True
theorem fS (hT:G4 P T) (hC:∀f args st R,C f args st R->CE P f args st R/\Plain P f) {E:List Bool->Env} {S:List Bool->St} {PL:List (List Bool×Nat)}
 (hc:H6 all PL=true) (step:∀p ∈ PL,pO T C all Q E S p) (fin:Q .normal (E (List.replicate all.length true)) (S (List.replicate all.length true))):
 ∀(fuel:Nat) (bs:List Bool) (listed:Array Bool) (I:Mem) (β:Nat->Option Nat) (a:Act) (w:World),bs.length=all.length->listed.toList=bs->bs.count false<=fuel->
  (∀j,j<all.length->BG all bs j=true->(bs,j) ∈ PL)->(bs=List.replicate all.length true\/∃j,j<all.length/\BG all bs j=true)->
  Rel D I0 st0 w0 I β (E bs) (S bs) a w->wpAny P .any all.toArray (Ca D I0 st0 w0 Q) fuel listed a w:=by
 have full:∀{bs:List Bool},bs.length=all.length->bs.count false=0->bs=List.replicate all.length true:=λ{bs} hb h0=>by
  rw [List.eq_replicate_iff]
  grind
 have noready:∀{j:Nat},BG all (List.replicate all.length true) j=true->j<all.length->False:=λ{j} h hj=>by
  unfold BG at h
  simp_all
 simp only [H6,Bool.and_eq_true,List.all_eq_true] at hc
 intro fuel
 induction fuel with
 |zero=>
  intro bs listed I β a w hb hl hf hp hr h
  have:=full hb AC
  subst this
  refine ⟨?_,⟨I,β,_,_,.normal,h,trivial,fin⟩⟩
  rw [List.eq_nil_iff_forall_not_mem]
  intro j hj
  obtain ⟨U,h2⟩:=(EN hl hb).1 hj
  grind
 |succ fuel ih=>
  intro bs listed I β a w hb hl hf hp hr h
  refine ⟨λh0=>?_,λi hi=>?_⟩
  .rcases hr with rfl|⟨j,U,h2⟩
   .exact ⟨I,β,_,_,.normal,h,trivial,fin⟩
   .have:=(EN hl hb).2 ⟨U,h2⟩
    simp_all
  .obtain ⟨U,h2⟩:=(EN hl hb).1 hi
   have hm:=hp i U h2
   have hs:=step _ hm
   unfold pO at hs
   have ho:all[i]? =some all[i]:=List.getElem?_eq_getElem U
   simp only [ho] at hs
   obtain ⟨⟨c1,c2⟩,c3⟩:=hc.2 _ hm
   refine MQ hT hC (Q:=Q) ho (λ{I β env st a w} h k=>?_) h hs (K:=λenv st=>(E (bs.set i true)).E4 env/\St.le (S (bs.set i true)) st)
   .have hbi:i<bs.length:=AC
    refine ih (bs.set i true) _ I _ a w i7 (by simp [hl]) ?_ (λj hj hr=>?_) ?_ ((h.Hs k.2).Ig (Env.Ip k.1))
    .have:=List.count_set (a:=true) (i:=i) (l:=bs) (b:=false) hbi
     unfold BG at h2
     grind
    .grind
    grind
theorem Ou (hP:T4 P T) (hC:∀f args st R,C f args st R->CE P f args st R/\Plain P f) {ops:Array Oper} (E:List Bool->Env) (S:List Bool->St) (PL:List (List Bool×Nat))
 (hc:H6 ops.toList PL=true) (h0:(E (List.replicate ops.toList.length false)).E4 env) (s0:St.le (S (List.replicate ops.toList.length false)) st) (step:∀p ∈ PL,pO T C ops.toList Q E S p)
 (fin:Q .normal (E (List.replicate ops.toList.length true)) (S (List.replicate ops.toList.length true))):AW P (.region id ops true) Q env st:=λD I0 st0 w0 I β a w h=>
 wp_region_any hP.m (by
  have U:=hc
  simp only [H6,Bool.and_eq_true,List.all_eq_true] at U
  have:=fS (D:=D) hP.t hC hc step fin ops.size (List.replicate ops.toList.length false) (Array.replicate ops.size false) I _ a _ GT GT GT (λj hj hr=>?_) ?_ (((h.HO (Et.drew w)).Hs s0).Ig (Env.Ip h0))
  .simp_all
  .grind
  simp_all)
end
def V.ek:V->Bool
 | .ptr _ _=>true
 |_=>false
theorem Ao.xt {I J:Mem}:∀{vs:List V} {cs:List Value},Ao I vs cs->vs.all V.ek=true->Ao J vs cs
 |[],cs,h,_=>by simpa only [Ao] using h
 |v::vs,cs,h,k=>by
  simp only [Ao] at h |-
  obtain ⟨c,r,rfl,U,h2⟩:=h
  simp only [List.all_cons,Bool.and_eq_true] at k
  refine ⟨c,r,rfl,?_,Ao.xt h2 k.2⟩
  cases v<;>first|(simp only [AM] at U |-;exact U)|exact absurd k.1 (by simp [V.ek])
def HC (P:Program) (g:FuncId) (args:List V) (x:Option V) (st:St) (R:St->Prop):Prop:=
 ∀(I:Mem) (w:World) (U:List Value) (u:FrameMode),Cv I st w->Ao I args U->
  (match x with|none=>u=.returning|some v=>∃c,u=.panicking [{v:=c,recovered:=false}]/\AM I v c)->
  CallsD P g U.toArray u w λe u' w'=>(∃v,e=.returned v)/\settle u'=.returning/\∃I' st',Fr I st w I' st' w'/\Cv I' st' w'/\R st'
section
variable {D:List Deferred} {P:Program} {T:List (Nat×Ty)} {I0 I:Mem} {st0 st:St} {w0 w:World} {β:Nat->Option Nat} {env:Env} {a:Act}
theorem Rel.defer (h:Rel D I0 st0 w0 I β env st a w) (d:Deferred):Rel (d::D) I0 st0 w0 I β env st {a with defers:=d::a.defers} w:=
 ⟨h.fr,h.s,⟨h.f.size,h.f.tmps,h.f.box,h.f.Bs,h.f.inj,h.f.sep,by rw [<-h.f.defers]⟩⟩
def Xg (T:List (Nat×Ty)) (fn:Func) (R:Au->St->Prop) (env:Env) (st:St):Prop:=
 Fh T env st fn.results.toList λvs=>match vs with|[v]=>R (.ret v) st|vs=>R (.ret (.Bp vs)) st
def bS (P:Program) (T:List (Nat×Ty)) (g:FuncId) (U:List V) (fn:Func) (R:Au->St->Prop):AG->Env->St->Prop
 | .normal,env,st| .ret,env,st=>HC P g U none st λst'=>Xg T fn R env st'
 | .B1 v,env,st=>HC P g U (some v) st λst'=>Xg T fn R env st'
 |_,_,_=>False
def qz:AG->Env->St->Prop:=λ_ _ _=>False
theorem GA {U:List Value} (gl:List Nat) (hs:Cv I st w) (hargs:Ao I args U) (hle:Nat.ble args.length fn.ntmps=true):
 Rel [] I st w I (λ_=>none) {tmps:=IP 0 args,boxes:=[],Bs:=0,sz:=fn.ntmps,gl} st
  {tmps:=U.toArray++Array.replicate (fn.ntmps - U.toArray.size) undef,defers:=[]} w:=by
 have hle:=Nat.le_of_ble_eq_true hle
 have hlen:=Ao.length hargs
 refine NU hs (by grind) (λt v e=>?_) rfl rfl
 obtain ⟨_,e⟩:=Rf e
 rw [Nat.sub_zero] at e
 obtain ⟨c',e1,e2⟩:=Ao.get hargs e
 have hlt:t<U.length:=by
  rcases Nat.lt_or_ge t U.length with h|h
  .exact h
  .simp_all
 have:(U.toArray++Array.replicate (fn.ntmps - U.toArray.size) undef).getD t undef=c':=by
  rw [List.getElem?_eq_getElem hlt] at e1
  injection e1 with e1
  subst e1
  simp [Array.getD,Array.getElem_append,hlt]
  omega
 simp_all
theorem JX (hP:T4 P T) (gl:List Nat) (hf:P.funcs[f]? =some fn) {c0 c1:Code} {mk df:Oper}
 (hb : fn.body = some (.seq c0 (.seq c1 (.seq (.region rid #[mk, df] false) rest)))) (hn : (fn.name == "runtime.NumGoroutine") = false) {cap : Array Operand} {tf : Nat}
 (h1:mk.op=.makeFunc (.func g) #[] cap) (h2:mk.dst=some tf) (h3:mk.guard=none) (h4:df.op=.defer {callee:=.value (.tmp tf),args:=#[],argTypes:=#[]}) (h5:df.guard=none) (h6:df.dst=none)
 (hg:Plain P g) (hle:Nat.ble args.length fn.ntmps=true)
 (h:Qw T (Ba P) c0 (BW (Qw T (Ba P) c1 (BW (λenv st=>XO env cap.toList λvs=>vs.all V.ek=true/\env.go (some tf) (.func g [] vs) λenv=>
   AW P rest (bS P T g vs fn R) env st) qz)) qz) {tmps:=IP 0 args,boxes:=[],Bs:=0,sz:=fn.ntmps,gl} st):Ba P f args st R:=by
 refine ⟨?_,fn,hf,i7,hn⟩
 intro I w cargs hs U
 refine calls_of_wp_defers hf hb ?_
 have hsd:=λc {Q env st} k=>Ov (Q:=Q) (env:=env) (st:=st) hP (BF P) (λ_ _ _ _ _ h k=>k.mono h) c k
 refine wp_seq (wp_mono (hsd c0 h [] I st w I _ _ w (GA gl hs U hle)) ?_)
 rintro e a w1 ⟨I1,β1,env1,st1,ae,r1,x1,k1⟩
 cases ae with
 |exit _|goto _|ret|B1 _=>exact k1.elim
 |normal=>
 cases e with
 |exit _|goto _|ret|panic _|outgrown=>exact x1.elim
 |normal=>
 refine wp_seq (wp_mono (hsd c1 k1 [] I st w I1 _ _ w1 r1) ?_)
 rintro e a w2 ⟨I2,β2,env2,st2,ae,r2,x2,k2⟩
 cases ae with
 |exit _|goto _|ret|B1 _=>exact k2.elim
 |normal=>
 cases e with
 |exit _|goto _|ret|panic _|outgrown=>exact x2.elim
 |normal=>
 refine wp_seq (wp_region_list ?_)
 show wpList P #[mk,df] _ [mk,df] a w2
 unfold wpList
 rw [if_pos (by simp [Region.wanted,h3])]
 left
 obtain ⟨vs,hv,kp,kg⟩:=Gr r2.f (show XO env2 cap.toList _ from k2)
 have hcv:AM I2 (.func g [] vs) (.func (.func g) #[] (cap.map a.eval)):=by
  simp only [AM]
  exact ⟨[],cap.toList.map a.eval,by congr 1;grind,H1,hv⟩
 obtain ⟨env3,r3,k3⟩:=Cj r2 (A2.of hcv) kg
 have htf:tf<a.tmps.size:=by
  rw [r2.f.size]
  exact (HN kg).1 tf rfl
 unfold Oper.wp
 rw [show (execOp a.eval mk).run P w2=.ok (.value (.func (.func g) #[] (cap.map a.eval))) w2 by simp only [execOp,h1,Array.map_empty];rfl]
 show wpList P #[mk,df] _ [df] (a.put mk.dst _) w2
 rw [h2]
 unfold wpList
 rw [if_pos (by simp [Region.wanted,h5])]
 left
 have hev:(a.put (some tf) (.func (.func g) #[] (cap.map a.eval))).eval (.tmp tf)=.func (.func g) #[] (cap.map a.eval):=by
  simp [Act.put,Act.eval,htf]
 unfold Oper.wp
 rw [show (execOp (a.put (some tf) (.func (.func g) #[] (cap.map a.eval))).eval df).run P w2=.ok (.defer {target:=.fn (.func g) (cap.map a.eval),args:=#[]}) w2 by
  simp only [execOp,h4,resolve,hev,Deferred.ofValue,Array.map_empty,Array.empty_append];rfl]
 rw [Oper.upon_defer]
 rw [h6]
 unfold wpList
 show rest.wp P _ _ _
 have r4:=r3.defer {target:=.fn (.func g) (cap.map a.eval),args:=#[]}
 refine wp_mono (k3 _ I st w I2 _ _ w2 r4) ?_
 rintro e a5 w5 ⟨I5,β5,env5,st5,ae,r5,x5,k5⟩
 have hd:=r5.f.defers
 obtain ⟨fn2,p1,p2,p3⟩:=hg
 have hinv:(invoke (.fn (.func g) (cap.map a.eval)) #[]).run P w5=.ok (.enter g (cap.toList.map a.eval).toArray) w5:=by
  have hb:fn2.body.isNone=false:=by cases hb:fn2.body<;>simp_all
  simp only [invoke,callFunc,Sem.run_bind,Sem.run_pure,Result.andThen_ok,run_program,p1]
  rw [p3]
  simp [hb]
  apply Array.ext';simp
 have last:∀{u:FrameMode} {x:Option V},u≠.run->(match x with|none=>u=.returning|some v=>∃c,u=.panicking [{v:=c,recovered:=false}]/\AM I5 v c)->HC P g vs x st5 (λst'=>Xg T fn R env5 st')->
  Leaves P fn a5.tmps (λe w'=>∃I' st' r,Fr I st w I' st' w'/\Cv I' st' w'/\Zo I' e r/\R r st') a5.defers u w5:=by
  intro u x hu hx k
  rw [hd]
  refine leaves_cons hu hinv ((k I5 w5 _ u r5.s (Ao.xt hv kp) hx).mono ?_)
  rintro e u' w6 ⟨⟨v,rfl⟩,hset,I6,st6,q1,q2,q3⟩
  show Leaves P fn a5.tmps _ [] (settle u') w6
  rw [hset]
  have r6:=r5.called q1 q2
  obtain ⟨v,c,g1,g2,g3⟩:=Cu (P:=P) hP.t r6 q3
  exact ⟨c,g1,I6,st6,.ret v,r6.fr,r6.s,g2,g3⟩
 cases ae with
 |normal=>
  cases e with
  |normal=>exact last (x:=none) GT rfl k5
  |_=>exact x5.elim
 |ret=>
  cases e with
  |ret=>exact last (x:=none) GT rfl k5
  |_=>exact x5.elim
 |B1 v=>
  cases e with
  |panic chain=>
   obtain ⟨c,rfl,hc⟩:=x5
   exact last (x:=some v) GT ⟨c,rfl,hc⟩ k5
  |_=>exact x5.elim
 |exit _=>exact k5.elim
 |goto _=>exact k5.elim
def xz:Option V->V
 |none=>.Dt
 |some v=>v
def yy (T:List (Nat×Ty)) (fn:Func) (R:St->Prop):AG->Env->St->Prop
 | .normal,env,st| .ret,env,st=>Xg T fn (λ_ st=>R st) env st
 |_,_,_=>False
theorem FX (hP:T4 P T) (gl:List Nat) {x:Option V} {st:St} {R:St->Prop} (hf:P.funcs[g]? =some fn) {ro ao:Oper}
 (hb:fn.body=some (.seq (.region rid #[ro,ao] false) rest)) {t1 t2:Nat} {yb:Array TypeId} (h1:ro.op=.call {callee:=.builtin .recover,args:=#[],argTypes:=yb}) (h2:ro.dst=some t1) (h3:ro.guard=none)
 (h4:ao.op=.assign (.tmp t1)) (h5:ao.dst=some t2) (h6:ao.guard=none) (hle:Nat.ble args.length fn.ntmps=true)
 (h:∀env0:Env,env0={tmps:=IP 0 args,boxes:=[],Bs:=0,sz:=fn.ntmps,gl}->env0.go (some t1) (xz x) λenv=>env.go (some t2) (xz x) λenv=>AW P rest (yy T fn R) env st):HC P g args x st R:=by
 intro I w U u hs hargs hx
 refine callsD_of_wpS hf hb (λc0 cs hu=>?_)
 refine wpS_seq (wpS_region ?_)
 obtain ⟨c,cs',u',hrec,hrep,hcs,hset⟩:∃(c:Value) (cs':List Frame) (u':FrameMode),(match recoverD (c0::cs) with|some (v,cs1)=>c=v/\cs'=cs1|none=>c=.nilIface/\cs'=c0::cs)/\AM I (xz x) c/\cs'={c0 with mode:=u'}::cs/\settle u'=.returning:=by
  cases x with
  |none=>
   have hx:u=.returning:=hx
   rw [hx] at hu
   refine ⟨.nilIface,c0::cs,.returning,?_,H1,?_,rfl⟩
   .simp only [recoverD,hu,and_self]
   .rw [<-hu]
  |some v=>
   obtain ⟨c,hx,hc⟩:=hx
   rw [hx] at hu
   refine ⟨c,{c0 with mode:=.panicking [{v:=c,recovered:=true}]}::cs,.panicking [{v:=c,recovered:=true}],?_,hc,rfl,rfl⟩
   simp only [recoverD,hu,and_self]
 have r0:=GA (fn:=fn) gl hs hargs hle
 obtain ⟨env1,r1,k1⟩:=Cj r0 (A2.of hrep) (h _ rfl)
 obtain ⟨env2,r2,k2⟩:=Cj r1 (A2.of hrep) k1
 have hlt:t1<(U.toArray++Array.replicate (fn.ntmps - U.toArray.size) undef).size:=by
  have:=(HN (h _ rfl)).1 t1 rfl
  rw [r0.f.size]
  exact this
 show wpOpsS P #[ro,ao] _ [0,1] _ _ _
 unfold wpOpsS
 simp only [List.getElem?_toArray,List.getElem?_cons_zero]
 rw [if_pos (by simp [Region.wanted,h3])]
 rw [show ∀ρ,(execOp ρ ro).run P w=.ok .recover w from λρ=>by simp only [execOp,h1];rfl]
 dsimp only
 have next:∀(b:Act) (tail:Act->List Frame->World->Prop),tail (b.put (some t1) c) cs' w->(match recoverD (c0::cs) with|some (v,cs1)=>tail (b.put ro.dst v) cs1 w|none=>tail (b.put ro.dst .nilIface) (c0::cs) w):=λb tail ht=>by grind
 refine next _ (λa cs w=>wpOpsS P #[ro,ao] _ [1] a cs w) ?_
 unfold wpOpsS
 simp only [List.getElem?_toArray,List.getElem?_cons_succ,List.getElem?_cons_zero]
 rw [if_pos (by simp [Region.wanted,h6])]
 have hev:∀tm:Act,t1<tm.tmps.size->(tm.put (some t1) c).eval (.tmp t1)=c:=λtm ht=>by simp [Act.put,Act.eval,ht]
 rw [show ∀ρ,(execOp ρ ao).run P w=.ok (.value (ρ (.tmp t1))) w from λρ=>by simp only [execOp,h4];rfl]
 dsimp only
 rw [Oper.upon_value,hev _ hlt,h5]
 unfold wpOpsS
 show rest.wpS P _ _ cs' w
 refine wpS_of_wp (wp_mono (k2 [] I st w I _ _ w r2) ?_)
 rintro e a5 w5 ⟨I5,β5,env5,st5,ae,r5,x5,k5⟩
 have last:Xg T fn (λ_ st=>R st) env5 st5->a5.defers=[]/\∃u',cs'={c0 with mode:=u'}::cs/\∃v,(results fn a5.tmps).run P w5=.ok v w5/\((∃v',Ending.returned v=.returned v')/\settle u'=.returning/\∃I' st',Fr I st w I' st' w5/\Cv I' st' w5/\R st'):=λq=>by
  obtain ⟨v,c,g1,g2,g3⟩:=Cu (P:=P) (R:=λ_ st=>R st) hP.t r5 (show Fh T env5 st5 fn.results.toList _ from q)
  exact ⟨r5.f.defers,u',hcs,c,g1,⟨_,rfl⟩,hset,I5,st5,r5.fr,r5.s,g3⟩
 cases ae with
 |normal=>
  cases e with
  |normal=>exact last k5
  |_=>exact x5.elim
 |ret=>
  cases e with
  |ret=>exact last k5
  |_=>exact x5.elim
 |B1 v=>exact k5.elim
 |exit _=>exact k5.elim
 |goto _=>exact k5.elim
end
end Go.Aw
namespace Go.Aw
theorem Wt [BEq α] [LawfulBEq α] {a b:α} {q:Prop} (e:a=b) (h:p):Bn (a==b) p q:=Wg (λ_=>h) (λn=>absurd e n)
theorem Wu [BEq α] [LawfulBEq α] {a b:α} {q:Prop} (e:¬a=b) (h:q):Bn (a==b) p q:=Wg (λn=>absurd n e) (λ_=>h)
theorem Wv [Decidable c] {q:Prop} (e:c) (h:p):Bn (decide c) p q:=Wh (λ_=>h) (λn=>absurd e n)
theorem Ww [Decidable c] {q:Prop} (e:¬c) (h:q):Bn (decide c) p q:=Wh (λn=>absurd n e) (λ_=>h)
end Go.Aw
namespace Go.Proofs.Z
open Go Go.Aw
abbrev PC (f:FuncId) (args:List V) (st:St) (R:Au->St->Prop):Prop:=Ba Tryz.prog f args st R
structure Tk where
 kind:Int
 text:List UInt8
 line:Int
 Cg:Int
structure Aj where
 Ay:List Tk
 pos:Int
 DN:List Int
 wait:Int
def Tk.cells (t:Tk):List V:=[.int .i64 t.kind,.str t.text,.int .i64 t.line,.int .i64 t.Cg]
def F0 (t:Tk):V:=.agg t.cells
def AV (l:List Tk):List (List V):=l.map Tk.cells
def Aj.cells (s:Aj):List V:=[.slice 4 (AV s.Ay) .any,.int .i64 s.pos,.slice 1 (ints s.DN) .any,.int .i64 s.wait]
def DD (s:Aj):V:=.agg s.cells
def fB:Tk:=⟨0,[],0,0⟩
def Fs:Aj:=⟨[],0,[],0⟩
theorem Iu (l:List Tk):(AV l).length=l.length:=by simp [AV]
theorem CN (l:List Int):(ints l).length=l.length:=by simp [ints]
theorem Wz {l:List Tk} {K:Nat->Prop} (k:l.length<4611686018427387904->K l.length):∀m,m=(AV l).length->m<DG->K m:=λm U h=>by
 rw [Iu] at U;subst U;exact k h
theorem WA {K:Nat->Prop} (k:l.length<4611686018427387904->K l.length):∀m,m=(ints l).length->m<DG->K m:=λm U h=>by
 rw [CN] at U;subst U;exact k h
theorem WC {l:List Tk} {i:Int} (h0:0<=i) (h1:i<l.length) (k:∀x,l[i.toNat]? =some x->K x.cells):0<=i/\∃e,(AV l)[i.toNat]? =some e/\K e:=by
 have U:i.toNat<l.length:=AC
 exact ⟨h0,l[i.toNat].cells,by simp [AV,U],k _ (List.getElem?_eq_getElem U)⟩
theorem WB {l:List Tk} {i:Int} {x:Tk} (h:l[i.toNat]? =some x) (U:0<=i) (k:K x.cells):0<=i/\∃e,(AV l)[i.toNat]? =some e/\K e:=
 ⟨U,x.cells,by simp [AV,h],k⟩
theorem WD {i:Int} (h0:0<=i) (h1:i<l.length) (k:∀x,l[i.toNat]? =some x->K [.int .i64 x]):0<=i/\∃e,(ints l)[i.toNat]? =some e/\K e:=by
 have U:i.toNat<l.length:=AC
 exact ⟨h0,[.int .i64 l[i.toNat]],by simp [ints,U],k _ (List.getElem?_eq_getElem U)⟩
theorem WE {a b:Int} {K:List (List V)->Prop} (h0:0<=a) (h1:a<=b) (h2:b<=l.length) (k:K (ints ((l.take b.toNat).drop a.toNat))):
 (0<=a/\a<=b/\b<=(ints l).length)/\∀U,U=(((ints l).take b.toNat).drop a.toNat)->K U:=by
 refine ⟨⟨h0,h1,by rw [CN];exact h2⟩,λU e=>?_⟩
 have:((ints l).take b.toNat).drop a.toNat=ints ((l.take b.toNat).drop a.toNat):=by simp [ints,List.map_drop,List.map_take]
 rw [this] at e;subst e;exact k
theorem Wx {K:Bool->Prop} (h:es=[]->K true) (k:K false):∀b,(b=true->es=[])->K b
 |true,e=>h (e rfl)
 |false,_=>k
theorem Wy {K:Bool->Prop} (h:es=[]->K false) (k:K true):∀b,(b=false->es=[])->K b
 |false,e=>h (e rfl)
 |true,_=>k
theorem Rc {new:List Int} {own:AE} {st:St} {K:V->St->Prop} (h:own.BD st) (hb:l.length+new.length<=1000000000)
 (k:∀U:AE,U.BD st->K (.slice 1 (ints (l++new)) U) (U.st st (l++new).length)):Am 1 8 (ints l) own (ints new) (own.st st l.length) K:=by
 have hw:(ints new).map (·.map V.JB)=ints new:=by
  simp only [ints,List.map_map]
  exact List.map_congr_left λx _=>rfl
 have hsc:((ints new).all λv=>v.all V.sc)=true:=by
  simp only [ints,List.all_map,List.all_eq_true]
  exact λx _=>rfl
 have:=EI (sz:=1) (bytes:=8) (es:=ints l) (new:=ints new) (K:=K) h (by rw [CN,CN];omega) (by rw [CN,CN];simp only [DG];omega) hsc (λU ho=>by
  have:=k U ho
  rw [CN,CN,hw,<-show ints (l++new)=ints l++ints new from by simp [ints],<-List.length_append,Nat.mul_one]
  exact this)
 rw [CN,Nat.mul_one] at this
 exact this
section
variable {st:St} {R:Au->St->Prop}
theorem EJ (hs:st.le st') (e:r=r'.wk) (h:R r st):∃r2 U,(r2=r'\/r2=r'.wk)/\St.le U st'/\R r2 U:=⟨r,st,.inr e,hs,h⟩
end
theorem BH {P:Prop} (h:P:=by with_reducible first|(show _/\_;first|exact Wa)|(show Bn _ _ _;first|exact Wb|exact Wc)|fail):P:=h
theorem AA {P A:Prop} (k:A) (h:A->P:=by intro k;with_reducible first|(show _/\_;first|exact Wd EQ k|exact Wm ‹_› AC k|exact Wn AC AC k|exact Wo AC AC k|exact Wp AC AC AC k|exact Wr Do AC AC k|exact Ws Do k|exact WB ‹_› AC k|exact WC AC AC k|exact WD AC AC k|exact WE AC AC AC k)|(show Bn _ _ _;first|exact Wt H9 k|exact Wu H9 k|exact Wv AC k|exact Ww AC k|exact Wi k|exact Wj k)|(intro x y z;exact Wl k x y z)|(intro x y z;exact Wz k x y z)|(intro x y z;exact WA k x y z)|(show Exists _;first|exact Wq AC AC k)|fail):P:=h k
theorem BI {P:Prop} {B C:V->Prop} (k:V) (l:B k) (m:C k) (h:∀k,B k->C k->P:=by intro k l m;with_reducible first|(show Exists _;first|exact We k l m|exact W8 GE k l m|exact W0 GE k l m|exact W9 k l m)|fail):P:=h k l m
theorem AB {P A B:Prop} (k:A) (l:B) (h:A->B->P:=by intro k l;with_reducible first|(show Bn _ _ _;first|exact Wf Do k l|exact Wg k l|exact Wh k l|exact Wk k l)|fail):P:=h k l
theorem B2 {P A B:Prop} (k:A) (l:B) (h:A->B->P:=by intro k l;with_reducible first|(intro x y;exact Wx k l x y)|(intro x y;exact Wy k l x y)|fail):P:=h k l
end Go.Proofs.Z
namespace Go.Aw
open Go Go.ChangeShapes
theorem RV {s:ChangeSpec} {c:OpenClaim}
 (a1:(c.wf (OpenSpec.ofChange s)&&laidOutB P&&mapsRowed P&&fn.params.all (P.readableRec ·)&&namedTie P c.named s.vars&&(c.stops==[])&&(P.stops==[])&&(c.knobs==[])&&(P.stopKnobs==[]))=true)
 (a2:(c.inPlace==P.inPlace f)=true) (a3:(c.unfollowed==P.unfollowed f)=true) (a4:(c.recurses==P.recurses f)=true) (a5:(c.named==P.varsNamed f)=true)
 (a6:((c.maps==(fn.params.toList++s.plain.varTypes P).any (P.mapsRec ·))&&(c.ifaces==(fn.params.toList++s.plain.varTypes P).any (P.ifacesRec ·))&&(c.mapsOut==P.mapsAmong fn.resultTypes.toList)&&(c.loops==(fn.params.toList++s.plain.varTypes P).any (P.loopsFrom ·))&&(c.wideKeys==(fn.params.toList++s.plain.varTypes P++fn.resultTypes.toList).any (P.wideKeysFrom ·))&&s.vars.all (P.varReadable ·)&&fn.resultTypes.all (λt=>P.readableRec t&&decide (t<P.types.size))&&(c.ifacesOut==fn.resultTypes.toList.any (P.ifacesRec ·))&&(c.loopsOut==fn.resultTypes.toList.any (P.loopsFrom ·))&&(c.plainKeys==P.plainKeys)&&c.shortTexts.isNone)=true)
 (a7:P.stopsHeard=true) (a8:P.mayEnter=true) (a9:(c.lifted==P.liftsFinal)=true) (a10:(P.make==some c.make)=true)
 (U:((c.kinds==(if c.domain.isEmpty then [] else fn.params.toList.map λt=>match P.underlying t with|some (.int k)=>some k|_=>none))&&(c.pinned==c.pinnedBy)&&(c.veiled==(fn.params.toList++s.plain.varTypes P++fn.resultTypes.toList).any (P.veiledRec ·))&&c.veiledFits P fn.params.toList (fn.params.toList++s.plain.varTypes P++fn.resultTypes.toList))=true):
 joinedFacts P f fn s c=true:=by
 unfold joinedFacts
 simp only [Bool.and_eq_true] at a1 a6 U |-
 obtain ⟨⟨⟨⟨⟨⟨⟨⟨b1,b2⟩,b3⟩,b4⟩,b5⟩,b6⟩,b7⟩,b8⟩,b9⟩:=a1
 obtain ⟨⟨⟨⟨⟨⟨⟨⟨⟨⟨d1,d2⟩,d3⟩,d4⟩,d5⟩,d6⟩,d7⟩,d8⟩,d9⟩,d10⟩,d11⟩:=a6
 obtain ⟨⟨⟨g1,g2⟩,g3⟩,g4⟩:=U
 exact ⟨⟨⟨⟨⟨⟨⟨⟨⟨⟨⟨⟨⟨⟨⟨⟨⟨⟨⟨⟨⟨⟨⟨⟨⟨⟨⟨⟨⟨⟨⟨b1,b2⟩,b3⟩,b4⟩,b5⟩,b6⟩,b7⟩,b8⟩,b9⟩,a2⟩,a3⟩,a4⟩,a5⟩,d1⟩,d2⟩,d3⟩,d4⟩,d5⟩,d6⟩,d7⟩,d8⟩,d9⟩,d10⟩,d11⟩,a7⟩,a8⟩,a9⟩,a10⟩,g1⟩,g2⟩,g3⟩,g4⟩
theorem OP {c:OpenClaim} (h:P.funcs.toList.all (λf=> !f.goes)=true) (hs:c.start=.entering):false=c.goesBy P:=by
 have hall:∀f ∈ P.funcs,Func.goes f=false:=by
  intro f hf
  have:=List.all_eq_true.1 h f (by simpa using hf)
  simpa using this
 have hp:∀g,P.goes g=false:=by
  intro g
  unfold Program.goes
  have h1:((P.closure g).any λg=>(P.funcs[g]?).any Func.goes)=false:=by
   rw [Bool.eq_false_iff]
   intro hc
   obtain ⟨x, -,U⟩:=List.any_eq_true.1 hc
   cases hq:P.funcs[x]? with
   |none=>rw [hq] at U;simp at U
   |some f=>rw [hq] at U;simp only [Option.any_some] at U;rw [hall f (Array.mem_of_getElem? hq)] at U;cases U
  have h2:P.funcs.any Func.goes=false:=by
   rw [Bool.eq_false_iff]
   intro hc
   obtain ⟨i,hi,U⟩:=Array.any_eq_true.1 hc
   rw [hall _ (Array.getElem_mem hi)] at U;cases U
  rw [h1,h2];simp
 unfold OpenClaim.goesBy Program.goesAt Program.goesFrom
 rw [hs]
 cases hq:P.funcNamed c.func<;>simp [hp]
end Go.Aw
namespace Go.Proofs.Z
open Go Go.Aw Go.ChangeShapes Go.WideShapes Go.ChangeAt Go.RowKit
set_option maxRecDepth 100000
theorem OK:Tryz.prog.stopsHeard=true:=EQ
theorem OJ:Tryz.prog.mayEnter=true:=EQ
theorem OL:(false==Tryz.prog.liftsFinal)=true:=EQ
theorem R2:(Tryz.prog.make==some .cut)=true:=EQ
theorem R0:Tryz.prog.funcs.toList.all (λf=> !f.goes)=true:=EQ
theorem HK:laidOutB Tryz.prog=true:=EQ
theorem HL:mapsRowed Tryz.prog=true:=EQ
theorem RZ:((List.range Tryz.prog.types.size).all λt=>match Tryz.prog.underlying t with|some (.slice e)=>decide (0<Tryz.prog.cellsOf e)|_=>true)=true:=EQ
end Go.Proofs.Z
namespace Go.Proofs.Z
open Go Go.Aw
def G2 (s:Aj):Int:=(s.DN.getLast?).getD 0
theorem qc {s:Aj} (h:¬(s.DN.length:Int)>0):G2 s=0:=by
 have:s.DN=[]:=List.length_eq_zero_iff.1 AC
 simp [G2,this]
theorem jM {s:Aj} {x:Int} (h:s.DN[((s.DN.length:Int) - 1).toNat]? =some x):G2 s=x:=by
 have e:((s.DN.length:Int) - 1).toNat=s.DN.length - 1:=AC
 rw [e] at h
 simp [G2,List.getLast?_eq_getElem?,h]
section
variable {st:St} {R:Au->St->Prop}
theorem Qb {s:Aj} (h:R (.ret (.int .i64 (G2 s))) st):PC 291 [DD s] st R:=by
 refine pB Tryz.func291 ?_
 repeat' ((conv=>whnf);first|(refine AA ?_;intros)|(refine AB ?_ ?_<;>intro _)|fail)
 .exact fin h (by rw [jM ‹_›])
 .exact fin h (by rw [qc AC])
def XG (k:Int) (t:Tk):Tk:=⟨k,[],t.line,t.Cg⟩
theorem Qe {k:Int} {t:Tk} (h:R (.ret (F0 (XG k t))) st):PC 290 [.int .i64 k,F0 t] st R:=by
 refine pB Tryz.func290 ?_
 repeat' ((conv=>whnf);first|(refine AA ?_;intros)|(refine AB ?_ ?_<;>intro _)|fail)
 all_goals exact fin h rfl
attribute [local irreducible] Go.Aw.Am
theorem dE {own:AE} (hb:l.length<=1000000000) (h:∀U:AE,U.BD st->R (.ret (.slice 1 (ints l) U)) (U.st st l.length)):PC 331 [.slice 1 (ints l) own] st R:=by
 refine pB Tryz.func331 ?_
 repeat' ((conv=>whnf);first|(refine AA ?_;intros)|(refine AB ?_ ?_<;>intro _)|refine B2 (λ_=>?_) ?_|fail)
 .have:l=[]:=by simpa [ints] using ‹ints l=[]›
  subst this
  exact fin (h .full trivial) rfl
 .exact Rc (l:=[]) (own:=.full) trivial i7 λU ho=>fin (h U ho) rfl
theorem rm {l':List Int} {own:AE} (e:l'=l) (hb:l.length<=1000000000) (h:∀U:AE,U.BD st->R (.ret (.slice 1 (ints l) U)) (U.st st l.length)):PC 331 [.slice 1 (ints l') own] st R:=e ▸ dE hb h
def NZ (s:Aj) (c:Int):Aj:={s with DN:=s.DN++[c]}
theorem Zb {s:Aj} {c:Int} (hb:s.DN.length<=500000000) (h:R (.ret (DD (NZ s c))) st):PC 292 [DD s,.int .i64 c] st R:=by
 refine pB Tryz.func292 ?_
 have U:s.DN.length+[c].length<=1000000000:=by simp only [List.length_singleton];omega
 repeat' ((conv=>whnf);first|(refine AA ?_;intros)|(refine AB ?_ ?_<;>intro _)|refine dE AC (λown ho=>?_)|refine Rc (new:=[c]) ho U (λown' ho'=>?_))
 all_goals exact EJ (AE.Bz ho') rfl h
def FW (s:Aj):Aj:={s with DN:=s.DN.dropLast}
theorem Nc {s:Aj} (h0:s.DN≠[]) (hb:s.DN.length<=500000000) (h:R (.ret (DD (FW s))) st):PC 293 [DD s] st R:=by
 refine pB Tryz.func293 ?_
 have hl:0<s.DN.length:=List.length_pos_iff.2 h0
 have hd:(s.DN.take (((s.DN.length:Int) - 1).toNat)).drop (0:Int).toNat=s.DN.dropLast:=by
  rw [show (0:Int).toNat=0 from rfl,List.drop_zero,List.dropLast_eq_take]
  congr 1
  omega
 have U:s.DN.dropLast.length<=1000000000:=by rw [List.length_dropLast];omega
 repeat' ((conv=>whnf);first|(refine AA ?_;intros)|(refine AB ?_ ?_<;>intro _)|refine rm hd U (λown ho=>?_))
 all_goals exact EJ (AE.Bz ho) rfl h
end
theorem lH {l:List α} {x:α} (h:l[k]? =some x):l.drop k=x::l.drop (k+1):=by
 obtain ⟨U,h2⟩:=List.getElem?_eq_some_iff.1 h
 rw [<-h2,List.drop_eq_getElem_cons U]
section
variable {st:St} {R:Au->St->Prop}
attribute [local irreducible] Go.Aw.Am
def PO (p:Int->Bool):List Int->Int->Int
 |[],_=> -1
 |y::r,i=>if p y then i else PO p r (i+1)
theorem YF {p:Int->Bool}:∀{l:List Int} {i:Int},0<=i->(0<=PO p l i↔l.any p=true)
 |[],i,h=>by simp [PO]
 |y::r,i,h=>by
  simp only [PO,List.any_cons]
  split
  .simp_all
  .rename_i e
   rw [YF AC]
   simp [e]
theorem YG {p:Int->Bool} {own:AE} (U:∀x (st:St) (R:Au->St->Prop),R (.ret (.bool (p x))) st->PC f [.int .i64 x] st R) (h:R (.ret (.int .i64 (PO p l 0))) st):
 PC 330 [.slice 1 (ints l) own,.func f [] []] st R:=by
 refine pB Tryz.func330 ?_
 repeat' ((conv=>whnf);first|(refine AA ?_;intros)|(refine AB ?_ ?_<;>intro _)|fail)
 refine KO 8 [7,0,1] l.length (λk=>k<=l.length/\(PO p l 0=PO p (l.drop k) k)) ⟨Nat.zero_le _,rfl⟩ Yl ?_
 rintro k ⟨hk,hi⟩
 repeat' ((conv=>whnf);first|(refine AA ?_;intros)|(refine AB ?_ ?_<;>intro _)|refine U _ _ _ ?_)
 all_goals conv=>whnf
 all_goals try (have e:=lH ‹l[Int.toNat k]? =some _›;rw [Int.toNat_natCast] at e;rw [e,PO] at hi;clear e)
 all_goals first
  |(refine ⟨k+1,⟨AC,?_⟩,AC,Yl,St.le_refl _⟩;clear h;simp_all)
  |(refine fin h ?_;clear h;simp_all;done)
  |(refine fin h ?_;rw [hi,List.drop_eq_nil_of_le AC];rfl)
theorem Rz {p:Int->Bool} {own:AE} (hf:∀x (st:St) (R:Au->St->Prop),R (.ret (.bool (p x))) st->PC f [.int .i64 x] st R) (h:R (.ret (.bool (l.any p))) st):
 PC 288 [.slice 1 (ints l) own,.func f [] []] st R:=by
 refine pB Tryz.func288 ?_
 refine YG hf ?_
 have key:=YF (p:=p) (l:=l) (i:=0) AC
 refine Wh (λU=>?_) (λU=>?_)
 .exact Av h (key.1 U)
 .refine Av h ?_
  simp_all
theorem xb (x:Int) (st:St) (R:Au->St->Prop) (h:R (.ret (.bool (decide (x<0)))) st):PC 289 [.int .i64 x] st R:=by
 refine pB Tryz.func289 ?_
 repeat' ((conv=>whnf);first|(refine AA ?_;intros)|(refine AB ?_ ?_<;>intro _)|fail)
 all_goals exact Av h i7
def LR (s:Aj):Bool:=
 decide (0<=s.pos)&&decide (s.pos<=s.Ay.length)&&decide (0<=s.wait)&&decide (s.wait<=2)&&
 (decide (s.wait<=0)||(match s.Ay[s.pos.toNat]? with|some t=>t.kind==16|none=>false))&& !(s.DN.any λx=>decide (x<0))
theorem YY {s:Aj} (h:R (.ret (.bool (LR s))) st):PC 235 [DD s] st R:=by
 refine pB Tryz.func235 ?_
 repeat' ((conv=>whnf);first|(refine AA ?_;intros)|(refine AB ?_ ?_<;>intro _)|refine Rz (λx st R h=>xb x st R h) ?_)
 all_goals conv=>whnf
 all_goals refine Av h ?_
 all_goals clear h
 all_goals unfold LR
 all_goals first
  |(rw [show decide (0<=s.pos)=false from decide_eq_false AC];simp only [Bool.false_and];done)
  |(rw [show decide (s.pos<=s.Ay.length)=false from decide_eq_false AC];simp only [Bool.false_and,Bool.and_false];done)
  |(rw [show decide (0<=s.wait)=false from decide_eq_false AC];simp only [Bool.false_and,Bool.and_false];done)
  |(rw [show decide (s.wait<=2)=false from decide_eq_false AC];simp only [Bool.false_and,Bool.and_false];done)
  |(have hn:s.Ay[s.pos.toNat]? =none:=List.getElem?_eq_none AC
    rw [hn,show decide (s.wait<=0)=false from decide_eq_false AC];simp only [Bool.false_and,Bool.and_false,Bool.or_false];done)
  |(rw [show decide (0<=s.pos)=true from decide_eq_true AC,show decide (s.pos<=s.Ay.length)=true from decide_eq_true AC,show decide (0<=s.wait)=true from decide_eq_true AC,show decide (s.wait<=2)=true from decide_eq_true AC]
    first
     |(rw [show decide (s.wait<=0)=true from decide_eq_true AC];simp_all;done)
     |(rw [show decide (s.wait<=0)=false from decide_eq_false AC];simp_all;done))
 all_goals trace_state
def Gq (t:Tk) (s:Aj):Tk×Aj:=
 if s.wait=1 then (XG 20 t,{s with wait:=2})
 else if G2 s<t.Cg then (XG 18 t,{NZ s t.Cg with pos:=s.pos+1})
 else (XG 18 t,{s with wait:=1})
def uY (p:Tk×Aj):V:=.Bp [F0 p.1,DD p.2]
theorem qW {t:Tk} {s:Aj} (U:0<=s.pos/\s.pos<=4611686018427387904) (hb:s.DN.length<=500000000) (h:R (.ret (uY (Gq t s))) st):PC 236 [F0 t,DD s] st R:=by
 refine pB Tryz.func236 ?_
 repeat' ((conv=>whnf);first|exact BH|(refine AA ?_;intros)|(refine BI ?_ ?_ ?_;rotate_left)|(refine AB ?_ ?_<;>intro _)|refine Qe (t:=t) ?_|refine Qb (s:=s) ?_|refine Zb (s:=s) hb ?_|refine Wq (a:=s.pos+1) AC AC ?_|refine Ad [(0,true),(2,true),(1,false),(3,false),(4,false)] [2,3] GE ?_|refine Ad [(0,true),(1,true),(2,true),(3,false),(4,true),(5,true)] [] GE ?_|refine Ad [(0,true),(2,true),(1,false),(3,false),(4,false)] [2,3] GE ?_|with_reducible refine WF ?_)
 all_goals unfold Gq at h
 .rw [if_pos AC] at h;exact AY rfl h
 .rw [if_neg AC,if_pos AC] at h;exact AY rfl h
 .rw [if_neg AC,if_neg AC] at h;exact AY rfl h
def D7 (t:Tk) (s:Aj):Tk×Aj:=
 if 0<G2 s/\t.Cg<G2 s then (XG 20 t,FW s)
 else if 0<G2 s/\t.Cg=G2 s then (XG 19 t,{s with pos:=s.pos+1,wait:=0})
 else (fB,{s with pos:=s.pos+1,wait:=0})
theorem UW {s:Aj} (h:0<G2 s):s.DN≠[]:=λe=>by simp [G2,e] at h
theorem wX {t:Tk} {s:Aj} (U:0<=s.pos/\s.pos<=4611686018427387904) (hb:s.DN.length<=500000000) (h:R (.ret (uY (D7 t s))) st):PC 237 [F0 t,DD s] st R:=by
 refine pB Tryz.func237 ?_
 repeat' ((conv=>whnf);first|exact BH|(refine AA ?_;intros)|(refine BI ?_ ?_ ?_;rotate_left)|(refine AB ?_ ?_<;>intro _)|refine Qe (t:=t) ?_|refine Qb (s:=s) ?_|refine Nc (s:=s) (UW AC) hb ?_|refine Wq (a:=s.pos+1) AC AC ?_|refine Ad [(0,true),(2,true),(1,false),(3,false),(4,false),(5,false)] [2,3] GE ?_|refine Ad [(0,true),(2,true),(1,false),(3,false),(4,false)] [2,3] GE ?_|refine Ad [(0,true),(1,true),(2,false),(3,false)] [2,3] GE ?_|with_reducible refine WF ?_)
 all_goals unfold D7 at h
 all_goals first
  |(rw [if_pos ⟨AC,AC⟩] at h;exact AY rfl h)
  |(rw [if_neg AC,if_pos ⟨AC,AC⟩] at h;exact AY rfl h)
  |(rw [if_neg AC,if_neg AC] at h;exact AY rfl h)
 all_goals trace_state
def CL (t:Tk) (s:Aj):Tk×Aj×Int:=
 if t.kind=15/\t.text=[123] then (t,{NZ s 0 with pos:=s.pos+1},0)
 else if t.kind=15/\t.text=[125] then
  if s.DN=[]\/G2 s≠0 then (fB,s,90) else (t,{FW s with pos:=s.pos+1},0)
 else (t,{s with pos:=s.pos+1},0)
def aV (p:Tk×Aj×Int):V:=.Bp [F0 p.1,DD p.2.1,.int .i64 p.2.2]
theorem Jf (h:¬l.length=Int.toNat 0):l≠[]:=λe=>h (by grind)
theorem oB (h:l.length=Int.toNat 0):l=[]:=List.length_eq_zero_iff.1 AC
theorem rh {t:Tk} {s:Aj} (U:0<=s.pos/\s.pos<=4611686018427387904) (hb:s.DN.length<=500000000) (h:R (.ret (aV (CL t s))) st):PC 238 [F0 t,DD s] st R:=by
 refine pB Tryz.func238 ?_
 repeat' ((conv=>whnf);first|exact BH|(refine AA ?_;intros)|(refine BI ?_ ?_ ?_;rotate_left)|(refine AB ?_ ?_<;>intro _)|refine Qb (s:=s) ?_|refine Zb (s:=s) hb ?_|refine Nc (s:=s) (Jf ‹_›) hb ?_|refine Wq (a:=s.pos+1) AC AC ?_|refine Ad [(0,true),(1,true),(2,false),(3,false),(4,true)] [2,3] GE ?_|refine Ad [(0,true),(1,true),(2,false),(3,false),(4,true)] [2,3] GE ?_|with_reducible refine WF ?_)
 all_goals unfold CL at h
 all_goals first
  |(rw [if_pos ⟨FS,FS⟩] at h;exact AY rfl h)
  |(rw [if_neg (λe=>absurd e.2 ‹_›),if_pos ⟨FS,FS⟩,if_pos (.inl (oB ‹_›))] at h;exact AY rfl h)
  |(rw [if_neg (λe=>absurd e.2 ‹_›),if_pos ⟨FS,FS⟩,if_pos (.inr ‹_›)] at h;exact AY rfl h)
  |(rw [if_neg (λe=>absurd e.2 ‹_›),if_pos ⟨FS,FS⟩,if_neg (λe=>e.elim (Jf ‹_›) (λe=>e ‹_›))] at h;exact AY rfl h)
  |(rw [if_neg (λe=>absurd e.1 ‹_›),if_neg (λe=>absurd e.1 ‹_›)] at h;exact AY rfl h)
  |(rw [if_neg (λe=>absurd e.2 ‹_›),if_neg (λe=>absurd e.2 ‹_›)] at h;exact AY rfl h)
 all_goals trace_state
def EY (s:Aj):Tk×Aj×Int:=
 if s.DN=[] then (⟨21,[],0,0⟩,s,0) else if 0<G2 s then (⟨20,[],0,0⟩,FW s,0) else (fB,s,90)
theorem wv {s:Aj} (hb:s.DN.length<=500000000) (h:R (.ret (aV (EY s))) st):PC 239 [DD s] st R:=by
 refine pB Tryz.func239 ?_
 repeat' ((conv=>whnf);first|exact BH|(refine AA ?_;intros)|(refine BI ?_ ?_ ?_;rotate_left)|(refine AB ?_ ?_<;>intro _)|refine Qb (s:=s) ?_|refine Nc (s:=s) (Jf ‹_›) hb ?_|refine Ad [(0,true),(1,true),(2,false),(3,false),(4,true)] [1,2] GE ?_|refine Ad [(0,true),(1,true),(2,false),(3,false),(4,true)] [1,2] GE ?_|with_reducible refine WF ?_)
 all_goals unfold EY at h
 all_goals first
  |(rw [if_pos (oB ‹_›)] at h;exact AY rfl h)
  |(rw [if_neg (Jf ‹_›),if_pos ‹_›] at h;exact AY rfl h)
  |(rw [if_neg (Jf ‹_›),if_neg ‹_›] at h;exact AY rfl h)
 all_goals trace_state
end
end Go.Proofs.Z
namespace Go.Aw
noncomputable def Env.zu (env:Env) (ch:List (Nat×V)) (keep:List Nat) (U:List (Nat×List V)) (kb:List Nat):Env:=match env with
 |⟨ts,bs,n,sz,gl⟩=>⟨Env.ts ⟨ts,bs,n,sz,gl⟩ ch keep,U++Env.bx ⟨ts,bs,n,sz,gl⟩ kb,n,sz,gl⟩
theorem Dc {st:St} (f:α->List (Nat×V)) (keep:List Nat) (g:α->List (Nat×List V)) (kb:List Nat) (S:α->St) (J:α->Prop) (U:α->Nat) (x0:α) (h0:J x0)
 (he:(env.zu (f x0) keep (g x0) kb).E4 env) (hs:St.le (S x0) st)
 (hb:∀x,J x->ih (BW (λenv' st'=>∃y,J y/\U y<U x/\(env.zu (f y) keep (g y) kb).E4 env'/\St.le (S y) st') Q) (env.zu (f x) keep (g x) kb) (S x)):
 ∃(α:Type) (E:α->Env) (S:α->St) (J:α->Prop) (U:α->Nat) (x0:α),J x0/\(E x0).E4 env/\St.le (S x0) st/\
  ∀x,J x->ih (BW (λenv' st'=>∃y,J y/\U y<U x/\(E y).E4 env'/\St.le (S y) st') Q) (E x) (S x):=
 ⟨α,λk=>env.zu (f k) keep (g k) kb,S,J,U,x0,h0,he,hs,hb⟩
theorem ZB {T:List (Nat×Ty)} {C:FuncId->List V->St->(Au->St->Prop)->Prop} {w:CW} {U:Nat->Option CW} {st:St}
 (h:w (ei (λl env' st'=>∃y:Nat,y=l/\False/\env.E4 env'/\St.le st st') Q) env st):QY w U Q env st:=
 ⟨Nat,λy=>y,λ_=>env,λ_=>st,λ_=>False,λ_=>0,h,λx e=>e.elim⟩
end Go.Aw
namespace Go.Proofs.Z
open Go Go.Aw
def DQ:Nat->Aj->Tk×Aj×Int
 |0,s=>EY s
 |n+1,s=>match s.Ay[s.pos.toNat]? with
  |none=>EY s
  |some t=>if t.kind=16/\s.wait<2 then ((Gq t s).1,(Gq t s).2,0)
   else if t.kind=16\/t.kind=17 then
    if (D7 t s).1.kind=0 then DQ n (D7 t s).2 else ((D7 t s).1,(D7 t s).2,0)
   else CL t s
def JP (s:Aj):Tk×Aj×Int:=DQ (s.Ay.length - s.pos.toNat) s
def Ac (s:Aj):Tk×Aj×Int:=if LR s then JP s else (fB,Fs,1)
theorem FB {t:Tk} {s:Aj} (h:(D7 t s).1.kind=0):(D7 t s).2={s with pos:=s.pos+1,wait:=0}:=by
 unfold D7 at h |-
 split
 .rename_i e;rw [if_pos e] at h;exact absurd h (by simp [XG])
 grind
theorem OZ {s:Aj} (h:¬s.pos<s.Ay.length) (U:0<=s.pos):JP s=EY s:=by
 have:s.Ay.length - s.pos.toNat=0:=AC
 rw [JP,this,DQ]
theorem Jg {s:Aj} {t:Tk} (h:s.Ay[s.pos.toNat]? =some t) (h0:0<=s.pos):JP s=if t.kind=16/\s.wait<2 then ((Gq t s).1,(Gq t s).2,0)
 else if t.kind=16\/t.kind=17 then
  if (D7 t s).1.kind=0 then JP (D7 t s).2 else ((D7 t s).1,(D7 t s).2,0)
 else CL t s:=by
 obtain ⟨U,_⟩:=List.getElem?_eq_some_iff.1 h
 obtain ⟨n,hn⟩:∃n,s.Ay.length - s.pos.toNat=n+1:=⟨s.Ay.length - s.pos.toNat - 1,AC⟩
 rw [JP,hn,DQ,h]
 dsimp only
 split
 .rfl
 .split
  .split
   .rename_i e
    rw [JP,FB e]
    grind
   .rfl
  .rfl
section
variable {st:St} {R:Au->St->Prop}
attribute [local irreducible] Go.Aw.Am
theorem tj {s:Aj} (hb:s.DN.length<=500000000) (h:R (.ret (aV (Ac s))) st):PC 193 [DD s] st R:=by
 refine pB Tryz.func193 ?_
 conv=>whnf
 refine ZB (T:=yb) (C:=Ba Tryz.prog) ?_
 unfold Ac at h
 repeat' ((conv=>whnf);first|exact BH|(refine AA ?_;intros)|(refine BI ?_ ?_ ?_;rotate_left)|(refine AB ?_ ?_<;>intro _)|refine YY (s:=s) ?_|refine Ad [(0,true),(1,true),(2,false),(3,false),(4,true)] [1,2] GE ?_|refine Ad [(0,true),(1,true),(2,false),(3,false),(4,true)] [1,2] GE ?_|with_reducible refine WF ?_)
 .rename_i e
  rw [e] at h
  have hm:=e
  unfold LR at hm
  simp only [Bool.and_eq_true,decide_eq_true_eq] at hm
  refine Dc (α:=Aj) (λx=>[]) [1,2,3,4] (λx=>[(0,x.cells)]) [1,2] (λ_=>st) (λx=>x.Ay=s.Ay/\x.DN=s.DN/\0<=x.pos/\x.pos<=x.Ay.length/\JP x=JP s) (λx=>x.Ay.length - x.pos.toNat) s ⟨rfl,rfl,AC,AC,rfl⟩ Yl (St.le_refl _) ?_
  rintro x ⟨x1,x2,x3,x4,x5⟩
  rw [<-x5] at h
  have U:x.DN.length<=500000000:=by rw [x2];exact hb
  repeat' ((conv=>whnf);first|exact BH|(refine AA ?_;intros)|(refine BI ?_ ?_ ?_;rotate_left)|(refine AB ?_ ?_<;>intro _)|refine qW (s:=x) ⟨AC,AC⟩ U ?_|refine wX (s:=x) ⟨AC,AC⟩ U ?_|refine rh (s:=x) ⟨AC,AC⟩ U ?_|refine wv (s:=x) U ?_|refine Ad [(0,true),(1,true),(2,false),(3,false),(4,true)] [1,2] GE ?_|refine Ad [(0,true),(1,true),(2,false),(3,false),(4,true)] [1,2] GE ?_|with_reducible refine WF ?_)
  all_goals rw [if_pos rfl] at h
  all_goals first
   |(rw [Jg ‹_› x3,if_pos AC] at h;exact AY rfl h)
   |(rw [Jg ‹_› x3,if_neg AC,if_pos AC,if_neg AC] at h;exact AY rfl h)
   |(rw [Jg ‹_› x3,if_neg AC,if_neg AC] at h;exact AY rfl h)
   |(rw [OZ AC x3] at h;exact AY rfl h)
   |(have hz:(D7 ‹Tk› x).1.kind=0:=by assumption
     refine ⟨(D7 ‹Tk› x).2,?_,?_,Yl,St.le_refl _⟩
     .rw [FB hz]
      refine ⟨x1,x2,by show 0<=x.pos+1;omega,by show x.pos+1<=x.Ay.length;omega,?_⟩
      rw [<-x5,Jg (s:=x) ‹_› x3,if_neg AC,if_pos AC,if_pos hz,FB hz]
     .rw [FB hz]
      show x.Ay.length - (x.pos+1).toNat<_
      omega)
  all_goals trace_state
 .rename_i e
  rw [e] at h
  exact AY rfl h
end
end Go.Proofs.Z
namespace Go.Aw
theorem St.Ah (st:St) (b:Nat) (cs:List V):(st.Aa b cs).box b=some cs:=by simp [St.Aa]
theorem St.set_set (st:St) (b:Nat) (cs cs':List V):(st.Aa b cs).Aa b cs'=st.Aa b cs':=by
 simp only [St.Aa,St.mk.injEq,and_true]
 simp_all
theorem St.KX {st:St} (h:st.box b=some cs):st.Aa b cs=st:=by
 cases st with
 |mk box hw=>
  simp only [St.Aa,St.mk.injEq,and_true]
  grind
theorem An {st:St} (h:st.box b=some cs) (k:K cs):∃cs,st.box b=some cs/\K cs:=⟨cs,h,k⟩
end Go.Aw
namespace Go.Proofs.Z
open Go Go.Aw
def CS (s:Aj):List V:=[.slice 4 (AV s.Ay) .any,.int .i64 s.pos,.slice 1 (ints s.DN) .any,.int .i64 s.wait,
 .int .i64 (Ac s).1.kind,.str (Ac s).1.text,.int .i64 (Ac s).1.line,.int .i64 (Ac s).1.Cg,
 .slice 4 (AV (Ac s).2.1.Ay) .any,.int .i64 (Ac s).2.1.pos,.slice 1 (ints (Ac s).2.1.DN) .any,.int .i64 (Ac s).2.1.wait,.int .i64 (Ac s).2.2,.bool true]
def YD (s:Aj) (t:Tk) (u:Aj) (o1 o2:AE) (e:Int):List V:=[.slice 4 (AV s.Ay) .any,.int .i64 s.pos,.slice 1 (ints s.DN) .any,.int .i64 s.wait,
 .int .i64 t.kind,.str t.text,.int .i64 t.line,.int .i64 t.Cg,.slice 4 (AV u.Ay) o1,.int .i64 u.pos,.slice 1 (ints u.DN) o2,.int .i64 u.wait,.int .i64 e,.bool false]
def Has (st:St) (b:Nat) (s:Aj):Prop:=st.box b=some (CS s)\/∃t u o1 o2 e,st.box b=some (YD s t u o1 o2 e)
def H5 (st st':St) (b:Nat) (s:Aj):Prop:=Has st' b s/\∃cs,st'=st.Aa b cs
theorem H5.trans {st U st2:St} {s1 s2:Aj} (h:H5 st U b s1) (k:H5 U st2 b s2):H5 st st2 b s2:=by
 obtain ⟨_,c1,e1⟩:=h
 obtain ⟨h2,c2,e2⟩:=k
 subst e1
 rw [St.set_set] at e2
 exact ⟨h2,c2,e2⟩
theorem A5 {st:St} {s:Aj}:H5 st (st.Aa b (CS s)) b s:=⟨.inl (St.Ah ..),_,rfl⟩
def fault (e:Int):V:=.iface 156 (.agg [.int .i64 e])
section
variable {st:St} {R:Au->St->Prop}
attribute [local irreducible] Go.Aw.Am
theorem bz (e:r=r'.wk) (es:st'=st) (h:R r st):∃r2 U,(r2=r'\/r2=r'.wk)/\St.le U st'/\R r2 U:=by subst es;exact ⟨r,st',.inr e,St.le_refl _,h⟩
theorem nJ {s:Aj} (U:Has st b s) (hb:s.DN.length<=500000000) (h:R (.ret (.Bp [])) (st.Aa b (CS s))):PC 157 [.ptr b 0] st R:=by
 refine pB Tryz.func157 ?_
 rcases U with U|⟨t,u,o1,o2,e,U⟩
 .rw [St.KX U] at h
  repeat' ((conv=>whnf);first|(refine AA ?_;intros)|(refine AB ?_ ?_<;>intro _)|refine An U ?_)
  all_goals exact fin h rfl
 .skip
  repeat' ((conv=>whnf);first|(refine AA ?_;intros)|(refine AB ?_ ?_<;>intro _)|refine An U ?_|refine An (St.Ah ..) ?_|refine tj (s:=s) hb ?_)
  all_goals exact bz rfl (by simp only [St.set_set];rfl) h
theorem G8 {s:Aj} (U:Has st b s) (hb:s.DN.length<=500000000) (h:R (.ret (F0 (Ac s).1)) (st.Aa b (CS s))):PC 112 [.ptr b 0] st R:=by
 refine pB Tryz.func112 ?_
 repeat' ((conv=>whnf);first|(refine AA ?_;intros)|(refine AB ?_ ?_<;>intro _)|refine An (St.Ah ..) ?_|refine nJ U hb ?_)
 all_goals exact AY rfl h
theorem Cm {e:Int} (h:R (.B1 (fault e)) st):PC 108 [v,.int .i64 e] st R:=by
 refine pB Tryz.func108 ?_
 repeat' ((conv=>whnf);first|(refine AA ?_;intros)|(refine AB ?_ ?_<;>intro _)|fail)
 all_goals exact fin h rfl
def Ve (s:Aj):Int:=if (Ac s).2.2=0 then 110 else (Ac s).2.2
theorem kO {s:Aj} (U:Has st b s) (hb:s.DN.length<=500000000) (h:R (.B1 (fault (Ve s))) (st.Aa b (CS s))):PC 113 [.ptr b 0] st R:=by
 refine pB Tryz.func113 ?_
 unfold Ve at h
 repeat' ((conv=>whnf);first|(refine AA ?_;intros)|(refine AB ?_ ?_<;>intro _)|refine An (St.Ah ..) ?_|refine nJ U hb ?_|refine Cm ?_)
 all_goals first
  |(rw [if_pos ‹_›] at h;exact fin h rfl)
  |(rw [if_neg ‹_›] at h;exact fin h rfl)
theorem si {s s':Aj} (U:st.box b=some (CS s)) (h:∀st',H5 st st' b s'->R (.ret (.Bp [])) st'):PC 154 [.ptr b 0,DD s'] st R:=by
 refine pB Tryz.func154 ?_
 have h:=h (st.Aa b (YD s' (Ac s).1 (Ac s).2.1 .any .any (Ac s).2.2)) ⟨.inr ⟨_,_,_,_,_,St.Ah ..⟩,_,rfl⟩
 repeat' ((conv=>whnf);first|(refine AA ?_;intros)|(refine AB ?_ ?_<;>intro _)|refine An U ?_|refine An (St.Ah ..) ?_)
 all_goals exact bz rfl (by simp only [St.set_set];rfl) h
theorem sg {s s':Aj} {t:Tk} {u:Aj} {o1 o2:AE} {e:Int} (U:st.box b=some (YD s t u o1 o2 e)) (h:∀st',H5 st st' b s'->R (.ret (.Bp [])) st'):PC 154 [.ptr b 0,DD s'] st R:=by
 refine pB Tryz.func154 ?_
 have h:=h (st.Aa b (YD s' t u o1 o2 e)) ⟨.inr ⟨_,_,_,_,_,St.Ah ..⟩,_,rfl⟩
 repeat' ((conv=>whnf);first|(refine AA ?_;intros)|(refine AB ?_ ?_<;>intro _)|refine An U ?_|refine An (St.Ah ..) ?_)
 all_goals exact bz rfl (by simp only [St.set_set];rfl) h
theorem sf {s s':Aj} (U:Has st b s) (h:∀st',H5 st st' b s'->R (.ret (.Bp [])) st'):PC 154 [.ptr b 0,DD s'] st R:=by
 rcases U with U|⟨t,u,o1,o2,e,U⟩
 .exact si U h
 .exact sg U h
theorem Xq {s:Aj} (U:Has st b s) (hb:s.DN.length<=500000000) (h:(Ac s).2.2=0->∀st',H5 st st' b (Ac s).2.1->R (.ret (F0 (Ac s).1)) st')
 (k:¬(Ac s).2.2=0->R (.B1 (fault (Ac s).2.2)) (st.Aa b (CS s))):PC 186 [.ptr b 0] st R:=by
 refine pB Tryz.func186 ?_
 repeat' ((conv=>whnf);first|(refine AA ?_;intros)|(refine AB ?_ ?_<;>intro _)|refine An (St.Ah ..) ?_|refine G8 U hb ?_|refine Cm ?_|refine sf (s':=(Ac s).2.1) (.inl (St.Ah st b (CS s))) (λst' hu=>?_))
 .exact AY rfl (h AC st' (A5.trans hu))
 .exact fin (k AC) rfl
def BA (t:Tk):Nd:=.mk 1 t.kind t.text t.line t.Cg []
theorem wU {t:Tk} (h:R (.ret (enc (BA t))) st):PC 185 [F0 t] st R:=by
 refine pB Tryz.func185 ?_
 repeat' ((conv=>whnf);first|(refine AA ?_;intros)|(refine AB ?_ ?_<;>intro _)|fail)
 all_goals exact AY rfl h
def Bq (s:Aj) (k:Int) (x:List UInt8):Bool:=(Ac s).1.kind==k&&(Ac s).1.text==x
theorem bJ {s:Aj} {k:Int} {x:List UInt8} (U:Has st b s) (hb:s.DN.length<=500000000) (h:R (.ret (.bool (Bq s k x))) (st.Aa b (CS s))):PC 149 [.ptr b 0,.int .i64 k,.str x] st R:=by
 refine pB Tryz.func149 ?_
 repeat' ((conv=>whnf);first|(refine AA ?_;intros)|(refine AB ?_ ?_<;>intro _)|refine G8 U hb ?_)
 all_goals (refine Av h ?_;clear h;simp_all [Bq])
theorem ML {s:Aj} (U:Has st b s) (hb:s.DN.length<=500000000) (h:(Ac s).2.2=0->∀st',H5 st st' b (Ac s).2.1->R (.ret (enc (BA (Ac s).1))) st')
 (k:¬(Ac s).2.2=0->R (.B1 (fault (Ac s).2.2)) (st.Aa b (CS s))):PC 150 [.ptr b 0] st R:=by
 refine pB Tryz.func150 ?_
 repeat' ((conv=>whnf);first|(refine AA ?_;intros)|(refine AB ?_ ?_<;>intro _)|refine Xq U hb (λe st' hu=>?_) (λe=>?_)|refine wU (t:=(Ac s).1) ?_)
 .exact AY rfl (h e st' hu)
 .exact fin (k e) rfl
theorem qn {s:Aj} {k:Int} {x:List UInt8} (hs:Has st b s) (hb:s.DN.length<=500000000) (h:Bq s k x=true->(Ac s).2.2=0->∀st',H5 st st' b (Ac s).2.1->R (.ret (enc (BA (Ac s).1))) st')
 (k1:Bq s k x=true->¬(Ac s).2.2=0->R (.B1 (fault (Ac s).2.2)) (st.Aa b (CS s))) (k2:Bq s k x=false->R (.B1 (fault (Ve s))) (st.Aa b (CS s))):PC 153 [.ptr b 0,.int .i64 k,.str x] st R:=by
 refine pB Tryz.func153 ?_
 have U:Has (st.Aa b (CS s)) b s:=.inl (St.Ah ..)
 repeat' ((conv=>whnf);first|(refine AA ?_;intros)|(refine AB ?_ ?_<;>intro _)|refine bJ hs hb ?_|refine ML U hb (λe st' hu=>?_) (λe=>?_)|refine kO U hb ?_)
 .exact AY rfl (h AC e st' (A5.trans hu))
 .exact bz rfl (by rw [St.set_set]) (k1 AC e)
 .exact bz rfl (by rw [St.set_set]) (k2 AC)
def RN (n:Nd) (s:Aj) (e:Int):V:=.Bp [enc n,DD s,.int .i64 e]
theorem Sk {s s':Aj} {n:Nd} {e d:Int} (hf:∀(st:St) (R:Au->St->Prop),R (.ret (RN n s' e)) st->PC f [DD s,.int .i64 d] st R) (U:Has st b s)
 (h:e=0->∀st',H5 st st' b s'->R (.ret (enc n)) st') (k:¬e=0->∀st',H5 st st' b s'->R (.B1 (fault e)) st'):PC 110 [.ptr b 0,.func f [] [],.int .i64 d] st R:=by
 refine pB Tryz.func110 ?_
 rcases U with U|⟨t,u,o1,o2,e',U⟩
 .skip
  repeat' ((conv=>whnf);first|(refine AA ?_;intros)|(refine AB ?_ ?_<;>intro _)|refine An U ?_|refine hf _ _ ?_|refine Cm ?_|refine sf (s':=s') (.inl U) (λst' hu=>?_))
  .exact AY rfl (h AC st' hu)
  .exact fin (k AC st' hu) rfl
 .skip
  repeat' ((conv=>whnf);first|(refine AA ?_;intros)|(refine AB ?_ ?_<;>intro _)|refine An U ?_|refine hf _ _ ?_|refine Cm ?_|refine sf (s':=s') (.inr ⟨t,u,o1,o2,e',U⟩) (λst' hu=>?_))
  .exact AY rfl (h AC st' hu)
  .exact fin (k AC st' hu) rfl
end
end Go.Proofs.Z
namespace Go.Aw
open Go
section
variable {P:Program}
theorem Ag {x y:Code} {st:St} (h:AW P x (BW (λenv st=>AW P y Q env st) Q) env st):AW P (.seq x y) Q env st:=λD I0 st0 w0 I β a w hr=>by
 refine wp_seq (wp_mono (h D I0 st0 w0 I β a w hr) ?_)
 rintro e a w ⟨I,β,env,st,ae,h1,U,h3⟩
 cases ae with
 |normal=>cases e<;>first|exact h3 D I0 st0 w0 I β a w h1|exact U.elim
 |exit i=>cases e<;>first|exact ⟨I,β,env,st,.exit i,h1,U,h3⟩|exact U.elim
 |goto i=>cases e<;>first|exact ⟨I,β,env,st,.goto i,h1,U,h3⟩|exact U.elim
 |ret=>cases e<;>first|exact ⟨I,β,env,st,.ret,h1,U,h3⟩|exact U.elim
 |B1 v=>cases e<;>first|exact ⟨I,β,env,st,.B1 v,h1,U,h3⟩|exact U.elim
theorem Ai (U:T4 P T) {c:Code} {st:St} (h:Qw T (Ba P) c Q env st):AW P c Q env st:=
 Ov U (BF P) (λ_ _ _ _ _ h k=>k.mono h) c h
def Ends (R:Au->St->Prop) (r:Au) (st:St):Prop:=∃r2 U,(r2=r\/r2=r.wk)/\St.le U st/\R r2 U
theorem Ba.ends {st:St} (h:Ba P f args st (Ends R)):Ba P f args st R:=by
 refine ⟨λI w U hs ha=>(h.a I w U hs ha).mono ?_,h.b⟩
 rintro e w' ⟨I',st',r,k1,k2,k3,r2,st2,k4,k5,k6⟩
 have hr:Rel [] I st w I' (λ_=>none) {tmps:=[],boxes:=[],Bs:=0,sz:=0,gl:=[]} st' {tmps:=#[],defers:=[]} w':=
  ⟨k1,k2,⟨rfl,λt v e=>(by cases e),λid cs e=>(by cases e),λid b e=>(by cases e),λi j b e=>(by cases e),λid b e=>(by cases e),rfl⟩⟩
 have hr':=hr.Hs k5
 refine ⟨I',st2,r2,hr'.fr,hr'.s,?_,k6⟩
 rcases k4 with rfl|rfl
 .exact k3
 .cases e with
  |returned c=>
   cases r with
   |ret v=>exact AM.wk k3
   |B1 v=>exact k3.elim
  |panicked chain=>
   cases r with
   |ret v=>exact k3.elim
   |B1 v=>
    obtain ⟨c,h1,h2⟩:=k3
    exact ⟨c,h1,AM.wk h2⟩
  |outgrown=>cases r<;>exact k3.elim
end
end Go.Aw
namespace Go.Proofs.Z
open Go Go.Aw
def Qz:List (List Bool×Nat):=[([false,false,false,false,false,false,false,false],0),([false,false,false,false,false,false,false,false],1),([true,false,false,false,false,false,false,false],1),([true,false,false,false,false,false,false,false],5),([false,true,false,false,false,false,false,false],0),([false,true,false,false,false,false,false,false],2),([true,true,false,false,false,false,false,false],2),([true,true,false,false,false,false,false,false],5),([true,false,false,false,false,true,false,false],1),([false,true,true,false,false,false,false,false],0),([false,true,true,false,false,false,false,false],3),([true,true,true,false,false,false,false,false],3),([true,true,true,false,false,false,false,false],5),([true,true,false,false,false,true,false,false],2),([false,true,true,true,false,false,false,false],0),([false,true,true,true,false,false,false,false],4),([true,true,true,true,false,false,false,false],4),([true,true,true,true,false,false,false,false],5),([true,true,true,false,false,true,false,false],3),([false,true,true,true,true,false,false,false],0),([true,true,true,true,true,false,false,false],5),([true,true,true,true,false,true,false,false],4),([true,true,true,true,true,true,false,false],6),([true,true,true,true,true,true,true,false],7)]
def dF:List (List Bool×Nat):=[([false,false,false,false,false,false,false,false,false,false],0),([false,false,false,false,false,false,false,false,false,false],1),([false,false,false,false,false,false,false,false,false,false],5),([true,false,false,false,false,false,false,false,false,false],1),([true,false,false,false,false,false,false,false,false,false],5),([false,true,false,false,false,false,false,false,false,false],0),([false,true,false,false,false,false,false,false,false,false],2),([false,true,false,false,false,false,false,false,false,false],5),([false,false,false,false,false,true,false,false,false,false],0),([false,false,false,false,false,true,false,false,false,false],1),([false,false,false,false,false,true,false,false,false,false],6),([true,true,false,false,false,false,false,false,false,false],2),([true,true,false,false,false,false,false,false,false,false],5),([true,false,false,false,false,true,false,false,false,false],1),([true,false,false,false,false,true,false,false,false,false],6),([false,true,true,false,false,false,false,false,false,false],0),([false,true,true,false,false,false,false,false,false,false],3),([false,true,true,false,false,false,false,false,false,false],5),([false,true,false,false,false,true,false,false,false,false],0),([false,true,false,false,false,true,false,false,false,false],2),([false,true,false,false,false,true,false,false,false,false],6),([false,false,false,false,false,true,true,false,false,false],0),([false,false,false,false,false,true,true,false,false,false],1),([true,true,true,false,false,false,false,false,false,false],3),([true,true,true,false,false,false,false,false,false,false],5),([true,true,false,false,false,true,false,false,false,false],2),([true,true,false,false,false,true,false,false,false,false],6),([true,false,false,false,false,true,true,false,false,false],1),([false,true,true,true,false,false,false,false,false,false],0),([false,true,true,true,false,false,false,false,false,false],4),([false,true,true,true,false,false,false,false,false,false],5),([false,true,true,false,false,true,false,false,false,false],0),([false,true,true,false,false,true,false,false,false,false],3),([false,true,true,false,false,true,false,false,false,false],6),([false,true,false,false,false,true,true,false,false,false],0),([false,true,false,false,false,true,true,false,false,false],2),([true,true,true,true,false,false,false,false,false,false],4),([true,true,true,true,false,false,false,false,false,false],5),([true,true,true,false,false,true,false,false,false,false],3),([true,true,true,false,false,true,false,false,false,false],6),([true,true,false,false,false,true,true,false,false,false],2),([false,true,true,true,true,false,false,false,false,false],0),([false,true,true,true,true,false,false,false,false,false],5),([false,true,true,true,false,true,false,false,false,false],0),([false,true,true,true,false,true,false,false,false,false],4),([false,true,true,true,false,true,false,false,false,false],6),([false,true,true,false,false,true,true,false,false,false],0),([false,true,true,false,false,true,true,false,false,false],3),([true,true,true,true,true,false,false,false,false,false],5),([true,true,true,true,true,false,false,false,false,false],7),([true,true,true,true,false,true,false,false,false,false],4),([true,true,true,true,false,true,false,false,false,false],6),([true,true,true,false,false,true,true,false,false,false],3),([false,true,true,true,true,true,false,false,false,false],0),([false,true,true,true,true,true,false,false,false,false],6),([false,true,true,true,false,true,true,false,false,false],0),([false,true,true,true,false,true,true,false,false,false],4),([true,true,true,true,true,true,false,false,false,false],6),([true,true,true,true,true,true,false,false,false,false],7),([true,true,true,true,true,false,false,true,false,false],5),([true,true,true,true,true,false,false,true,false,false],8),([true,true,true,true,false,true,true,false,false,false],4),([false,true,true,true,true,true,true,false,false,false],0),([true,true,true,true,true,true,true,false,false,false],7),([true,true,true,true,true,true,false,true,false,false],6),([true,true,true,true,true,true,false,true,false,false],8),([true,true,true,true,true,false,false,true,true,false],5),([true,true,true,true,true,true,true,true,false,false],8),([true,true,true,true,true,true,false,true,true,false],6),([true,true,true,true,true,true,true,true,true,false],9)]
section
variable {st:St} {R:Au->St->Prop}
attribute [local irreducible] Go.Aw.Am
def Gg:Nd:=.mk 0 0 [] 0 0 []
def CD:List V:=[.int .i64 0,.int .i64 0,.str [],.int .i64 0,.int .i64 0,.slice 6 [] .full]
theorem Ry {bp bn ba be:Nat} {U:St->Prop} (h:U st):HC Tryz.prog 107 [.ptr bp 0,.ptr bn 0,.ptr ba 0,.ptr be 0] none st U:=by
 refine FX Ab [] Tryz.func107 rfl rfl rfl rfl rfl rfl rfl rfl (λenv0 he=>?_)
 subst he
 conv=>whnf
 refine Ag (Ai Ab ?_)
 repeat' ((conv=>whnf);first|exact BH|(refine AA ?_;intros)|(refine BI ?_ ?_ ?_;rotate_left)|(refine AB ?_ ?_<;>intro _)|with_reducible refine WF ?_)
 all_goals exact h
theorem St.Ak {st:St} {c:Nat} (h:b≠c):(st.Aa b cs).box c=st.box c:=by simp [St.Aa,Ne.symm h]
noncomputable def lA:List Oper:=match Tryz.f107.body with|some (.seq _ (.seq _ (.seq _ (.seq _ (.region _ ops _)))))=>ops.toList|_=>[]
noncomputable def wi (bs:List Bool) (bp bn ba be U:Nat) (sc:List V) (e:Int):Env:=
 {tmps:=GZ [(6,.bool true),(14,.bool true),(13,.agg [.int .i64 e]),(5,.BO 0 0),(4,fault e),(0,.ptr bp 0),(1,.ptr bn 0),(2,.ptr ba 0),(3,.ptr be 0)]
   lA
   [.agg CD,.ptr U 0,.ptr U 0,.ptr U 0,.agg sc,.BO 0 0,.int .i64 e,.BE,.BE,.BE] bs,boxes:=[(0,[.int .i64 e])],Bs:=1,sz:=25,gl:=[]}
def wj (st:St) (U ba be:Nat) (sc:List V) (e:Int) (bs:List Bool):St:=
 match bs[7]?,bs[8]?,bs[9]? with
 |_,_,some true=>((st.Aa U CD).Aa ba sc).Aa be [.int .i64 e]
 |_,some true,_=>(st.Aa U CD).Aa ba sc
 |some true,_,_=>st.Aa U CD
 |_,_,_=>st
theorem JE {bp bn U be br:Nat} {s:Aj} {e:Int} {RS:St->Prop} (hp:st.box bp=some [.ptr br 0]) (hr:Has st br s) {n0:Nd} {s0:Aj} {o1 o2 o3:AE} {e0:Int}
 (hn:st.box bn=some [.int .i64 n0.kind,.int .i64 n0.form,.str n0.text,.int .i64 n0.line,.int .i64 n0.Cg,.slice 6 (BL n0.kids) o1])
 (ha:st.box U=some [.slice 4 (AV s0.Ay) o2,.int .i64 s0.pos,.slice 1 (ints s0.DN) o3,.int .i64 s0.wait]) (he:st.box be=some [.int .i64 e0])
 (d1:bn≠bp) (d2:bn≠br) (d3:bn≠U) (d4:bn≠be) (d5:U≠bp) (d6:U≠br) (d7:U≠be)
 (h:RS (((st.Aa bn CD).Aa U s.cells).Aa be [.int .i64 e])):HC Tryz.prog 107 [.ptr bp 0,.ptr bn 0,.ptr U 0,.ptr be 0] (some (fault e)) st RS:=by
 refine FX Ab [] Tryz.func107 rfl rfl rfl rfl rfl rfl rfl rfl (λenv0 he=>?_)
 subst he
 conv=>whnf
 refine Ag (Ai Ab ?_)
 repeat' ((conv=>whnf);first|exact BH|(refine AA ?_;intros)|(refine BI ?_ ?_ ?_;rotate_left)|(refine AB ?_ ?_<;>intro _)|with_reducible refine WF ?_)
 refine Ag (Ai Ab ?_)
 repeat' ((conv=>whnf);first|exact BH|(refine AA ?_;intros)|(refine BI ?_ ?_ ?_;rotate_left)|(refine AB ?_ ?_<;>intro _)|with_reducible refine WF ?_)
 refine Ag (Ai Ab ?_)
 repeat' ((conv=>whnf);first|exact BH|(refine AA ?_;intros)|(refine BI ?_ ?_ ?_;rotate_left)|(refine AB ?_ ?_<;>intro _)|with_reducible refine WF ?_)
 have ha':(st.Aa bn CD).box U=some [.slice 4 (AV s0.Ay) o2,.int .i64 s0.pos,.slice 1 (ints s0.DN) o3,.int .i64 s0.wait]:=by rw [St.Ak d3];exact ha
 have he':((st.Aa bn CD).Aa U s.cells).box be=some [.int .i64 e0]:=by rw [St.Ak d7,St.Ak d4];exact he
 refine Ou Ab (BF _) (λbs=>wi bs bp bn U be br s.cells e) (wj st bn U be s.cells e) dF GE Yl (St.le_refl _) ?_ h
 unfold dF
 rcases hr with hr|⟨t,u,q1,q2,q3,hr⟩
 all_goals repeat' (first|refine List.forall_mem_cons.2 ⟨?_,?_⟩|exact λ_ h=>nomatch h)
 repeat' ((conv=>whnf);first|exact BH|(refine AA ?_;intros)|(refine BI ?_ ?_ ?_;rotate_left)|(refine AB ?_ ?_<;>intro _)|refine An hp ?_|refine An hr ?_|refine An hn ?_|refine An ha' ?_|refine An he' ?_|with_reducible refine WF ?_)
 all_goals conv=>whnf
 all_goals (refine ⟨Yl,?_⟩)
 all_goals exact St.le_refl _
end
abbrev Rs:=Sum (Int×Aj) (Nd×Aj)
def Fb (st:St) (b:Nat) (R:Au->St->Prop):Rs->Prop
 | .inr (n,s')=>∀st',H5 st st' b s'->R (.ret (enc n)) st'
 | .inl (e,s')=>∀st',H5 st st' b s'->R (.B1 (fault e)) st'
def Reads (f:FuncId) (s:Aj) (d:Int) (q:Rs):Prop:=∀(b:Nat) (st:St) (R:Au->St->Prop),Has st b s->Fb st b R q->PC f [.ptr b 0,.int .i64 d] st R
def Ck (s:Aj) (deep:Int) (q:Rs):Nd×Aj×Int:=
 if deep<1 then (Gg,s,2) else match q with
  | .inr (n,s')=>(n,s',0)
  | .inl (e,s')=>(Gg,s',e)
def Ki (p:Nd×Aj×Int):V:=RN p.1 p.2.1 p.2.2
section
variable {st:St} {R:Au->St->Prop}
attribute [local irreducible] Go.Aw.Am
theorem AX {st:St} {c:Nat} (h:(st.Aa b cs).fresh c):b≠c/\st.fresh c:=by
 by_cases e:b=c
 .subst e
  have:=h.1
  rw [St.Ah] at this
  cases this
 .refine ⟨e,?_,h.2⟩
  have:=h.1
  rw [St.Ak e] at this
  exact this
theorem DZ {st:St} {K:Nat->Prop} (h:∀b,st.fresh b->K b):∀b,st.fresh b->K b:=h
theorem EM {st:St} (h:st.box b=some cs):St.le st (st.Aa b cs):=by rw [St.KX h];exact St.le_refl _
noncomputable def lj:List Oper:=match Tryz.f64.body with|some (.seq _ (.seq _ (.seq _ (.seq _ (.seq _ (.seq (.region _ ops _) _))))))=>ops.toList|_=>[]
noncomputable def lh (bs:List Bool) (b1 b2 b3 b4 b5:Nat) (U sc:List V):Env:=
 {tmps:=GZ [(6,.ptr b1 0),(7,.ptr b2 0),(8,.ptr b3 0),(9,.ptr b5 0)] lj [.agg U,.ptr b4 0,.ptr b4 0,.ptr b4 0,.agg sc,.BE,.BE,.BE] bs,boxes:=[],Bs:=1,sz:=28,gl:=[6,7,8,9,12]}
def lk (st:St) (b2 b3:Nat) (sc:List V) (bs:List Bool):St:=
 match bs[6]?,bs[7]? with
 |_,some true=>(st.Aa b2 sc).Aa b3 [.int .i64 0]
 |some true,_=>st.Aa b2 sc
 |_,_=>st
theorem Na {s:Aj} {deep:Int} {q:Rs} (hq:¬deep<1->Reads f s (if 100<deep then 100 else deep) q) (h:R (.ret (Ki (Ck s deep q))) st):PC 64 [DD s,.int .i64 deep,.func f [] []] st R:=by
 refine Ba.ends (JX Ab [6,7,8,9,12] Tryz.func64 rfl Do rfl rfl rfl rfl rfl rfl ⟨_,Tryz.func107,rfl,Do⟩ rfl ?_)
 repeat' ((conv=>whnf);first|exact BH|(refine AA ?_;intros)|(refine BI ?_ ?_ ?_;rotate_left)|(refine AB ?_ ?_<;>intro _)|refine DZ (λb5 f5=>?_)|refine An (St.Ah ..) ?_|with_reducible refine WF ?_)
 rename_i b1 f1 b2 f2 b3 f3 b4 f4
 obtain ⟨n12,f2a⟩:=AX f2
 obtain ⟨n23,f3a⟩:=AX f3
 obtain ⟨n13,f3b⟩:=AX f3a
 obtain ⟨n34,f4a⟩:=AX f4
 obtain ⟨n24,f4b⟩:=AX f4a
 obtain ⟨n14,f4c⟩:=AX f4b
 obtain ⟨n45,f5a⟩:=AX f5
 obtain ⟨n35,f5b⟩:=AX f5a
 obtain ⟨n25,f5c⟩:=AX f5b
 obtain ⟨n15,f5d⟩:=AX f5c
 conv=>whnf
 refine ⟨rfl,AH rfl ?_⟩
 generalize hst5:St.Aa _ b5 [V.ptr b4 0]=st5
 have k1:st5.box b1=some CD:=by subst hst5;rw [St.Ak n15.symm,St.Ak n15.symm,St.Ak n14.symm,St.Ak n13.symm,St.Ak n12.symm,St.Ah];rfl
 have k2:st5.box b2=some [.slice 4 (AV Fs.Ay) .full,.int .i64 Fs.pos,.slice 1 (ints Fs.DN) .full,.int .i64 Fs.wait]:=by subst hst5;rw [St.Ak n25.symm,St.Ak n25.symm,St.Ak n24.symm,St.Ak n23.symm,St.Ah];rfl
 have k3:st5.box b3=some [.int .i64 0]:=by subst hst5;rw [St.Ak n35.symm,St.Ak n35.symm,St.Ak n34.symm,St.Ah]
 have k4:Has st5 b4 s:=by subst hst5;refine .inr ⟨fB,Fs,.full,.full,0,?_⟩;rw [St.Ak n45.symm,St.Ak n45.symm,St.Ah];rfl
 have k5:st5.box b5=some [.ptr b4 0]:=by subst hst5;rw [St.Ah]
 have kle:st.le st5:=by
  subst hst5
  exact St.Af (St.Af (St.Af (St.Af (St.Af (St.Af (St.le_refl _) f1.1 _) f2a.1 _) f3b.1 _) f4c.1 _) f5d.1 _) f5d.1 _
 have kpan:∀(U:St) (e:Int) (s':Aj),H5 st5 U b4 s'->U.box b5=some [.ptr b4 0]/\U.box b1=some CD/\U.box b2=some [.slice 4 (AV Fs.Ay) .full,.int .i64 Fs.pos,.slice 1 (ints Fs.DN) .full,.int .i64 Fs.wait]/\U.box b3=some [.int .i64 0]/\st.le U:=by
  rintro U e s' ⟨_,cs,rfl⟩
  exact ⟨by rw [St.Ak n45];exact k5,by rw [St.Ak n14.symm];exact k1,by rw [St.Ak n24.symm];exact k2,by rw [St.Ak n34.symm];exact k3,St.Af kle f4c.1 _⟩
 clear hst5 f2 f3 f4 f5 f3a f4a f4b f5a f5b f5c
 refine Ag (Ai Ab ?_)
 repeat' ((conv=>whnf);first|exact BH|(refine AA ?_;intros)|(refine BI ?_ ?_ ?_;rotate_left)|(refine AB ?_ ?_<;>intro _)|refine An k5 ?_|refine Cm ?_|with_reducible refine WF ?_)
 .refine JE (n0:=Gg) (s0:=Fs) k5 k4 k1 k2 k3 n15 n14 n12 n13 n25 n24 n23 ?_
  have g1:(((st5.Aa b1 CD).Aa b2 s.cells).Aa b3 [.int .i64 2]).box b1=some CD:=by rw [St.Ak n13.symm,St.Ak n12.symm,St.Ah]
  have g2:(((st5.Aa b1 CD).Aa b2 s.cells).Aa b3 [.int .i64 2]).box b2=some s.cells:=by rw [St.Ak n23.symm,St.Ah]
  have gl:st.le (((st5.Aa b1 CD).Aa b2 s.cells).Aa b3 [.int .i64 2]):=St.Af (St.Af (St.Af kle f1.1 _) f2a.1 _) f3b.1 _
  unfold Ck at h
  rw [if_pos ‹_›] at h
  repeat' ((conv=>whnf);first|exact BH|(refine AA ?_;intros)|(refine BI ?_ ?_ ?_;rotate_left)|(refine AB ?_ ?_<;>intro _)|refine An g1 ?_|refine An g2 ?_|refine An (St.Ah ..) ?_|with_reducible refine WF ?_)
  all_goals exact EJ gl rfl h
 .rename_i hd
  unfold Ck at h
  rw [if_neg hd] at h
  have hq:=hq hd b4
  refine Ag (Ai Ab ?_)
  cases q with
  |inl q=>
   obtain ⟨e,s'⟩:=q
   repeat' ((conv=>whnf);first|exact BH|(refine AA ?_;intros)|(refine BI ?_ ?_ ?_;rotate_left)|(refine AB ?_ ?_<;>intro _)|refine An k5 ?_|refine ⟨_,rfl,?_⟩|refine hq _ _ k4 (λU hu=>?_)|with_reducible refine WF ?_)
   obtain ⟨j5,j1,j2,j3,jle⟩:=kpan U e s' hu
   refine JE (n0:=Gg) (s0:=Fs) j5 hu.1 j1 j2 j3 n15 n14 n12 n13 n25 n24 n23 ?_
   have g1:(((U.Aa b1 CD).Aa b2 s'.cells).Aa b3 [.int .i64 e]).box b1=some CD:=by rw [St.Ak n13.symm,St.Ak n12.symm,St.Ah]
   have g2:(((U.Aa b1 CD).Aa b2 s'.cells).Aa b3 [.int .i64 e]).box b2=some s'.cells:=by rw [St.Ak n23.symm,St.Ah]
   have gl:st.le (((U.Aa b1 CD).Aa b2 s'.cells).Aa b3 [.int .i64 e]):=St.Af (St.Af (St.Af jle f1.1 _) f2a.1 _) f3b.1 _
   repeat' ((conv=>whnf);first|exact BH|(refine AA ?_;intros)|(refine BI ?_ ?_ ?_;rotate_left)|(refine AB ?_ ?_<;>intro _)|refine An g1 ?_|refine An g2 ?_|refine An (St.Ah ..) ?_|with_reducible refine WF ?_)
   all_goals exact EJ gl rfl h
  |inr q=>
   obtain ⟨n,s'⟩:=q
   have kret:=λU hu=>kpan U 0 s' hu
   repeat' ((conv=>whnf);first|exact BH|(refine AA ?_;intros)|(refine BI ?_ ?_ ?_;rotate_left)|(refine AB ?_ ?_<;>intro _)|refine An k5 ?_|refine ⟨_,rfl,?_⟩|refine hq _ _ k4 (λU hu=>?_)|refine An (kret U hu).2.1 ?_|with_reducible refine WF ?_)
   obtain ⟨j5,j1,j2,j3,jle⟩:=kret U hu
   generalize hst7:U.Aa b1 (Ax n)=st7
   have i1:st7.box b1=some (Ax n):=by subst hst7;rw [St.Ah]
   have i5:st7.box b5=some [.ptr b4 0]:=by subst hst7;rw [St.Ak n15];exact j5
   have i2:st7.box b2=some [.slice 4 (AV Fs.Ay) .full,.int .i64 Fs.pos,.slice 1 (ints Fs.DN) .full,.int .i64 Fs.wait]:=by subst hst7;rw [St.Ak n12];exact j2
   have i3:(st7.Aa b2 s'.cells).box b3=some [.int .i64 0]:=by subst hst7;rw [St.Ak n23,St.Ak n13];exact j3
   have i4:Has st7 b4 s':=by
    subst hst7
    rcases hu.1 with e|⟨t,u,o1,o2,e',e⟩
    .exact .inl (by rw [St.Ak n14];exact e)
    .exact .inr ⟨t,u,o1,o2,e',by rw [St.Ak n14];exact e⟩
   have ile:st.le st7:=by subst hst7;exact St.Af jle f1.1 _
   refine Ag (Ou Ab (BF _) (λbs=>lh bs b1 b2 b3 b4 b5 (Ax n) s'.cells) (lk st7 b2 b3 s'.cells) Qz GE Yl (by rw [<-hst7];exact St.le_refl _) ?_ ?_)
   .skip
    unfold Qz
    rcases i4 with i4|⟨t,u,q1,q2,q3,i4⟩
    all_goals repeat' (first|refine List.forall_mem_cons.2 ⟨?_,?_⟩|exact λ_ h=>nomatch h)
    repeat' ((conv=>whnf);first|exact BH|(refine AA ?_;intros)|(refine BI ?_ ?_ ?_;rotate_left)|(refine AB ?_ ?_<;>intro _)|refine An i5 ?_|refine An i1 ?_|refine An i4 ?_|refine An i2 ?_|refine An i3 ?_|with_reducible refine WF ?_)
    all_goals conv=>whnf
    all_goals (refine ⟨Yl,?_⟩)
    all_goals first|exact St.le_refl _|exact EM i1
   .refine Ai Ab (Ry (bp:=b5) ?_)
    have g1:((st7.Aa b2 s'.cells).Aa b3 [.int .i64 0]).box b1=some (Ax n):=by rw [St.Ak n13.symm,St.Ak n12.symm];exact i1
    have g2:((st7.Aa b2 s'.cells).Aa b3 [.int .i64 0]).box b2=some s'.cells:=by rw [St.Ak n23.symm,St.Ah]
    have gl:st.le ((st7.Aa b2 s'.cells).Aa b3 [.int .i64 0]):=St.Af (St.Af ile f2a.1 _) f3b.1 _
    repeat' ((conv=>whnf);first|exact BH|(refine AA ?_;intros)|(refine BI ?_ ?_ ?_;rotate_left)|(refine AB ?_ ?_<;>intro _)|refine An g1 ?_|refine An g2 ?_|refine An (St.Ah ..) ?_|with_reducible refine WF ?_)
    all_goals exact EJ gl rfl h
end
end Go.Proofs.Z
