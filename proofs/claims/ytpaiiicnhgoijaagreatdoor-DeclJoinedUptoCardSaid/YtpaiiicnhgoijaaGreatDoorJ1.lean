/-
  Parts of a proof: lemmas that the last text uses.
-/
import Derived.Test.YtpaiiicnhgoijaaGreatDoorJ0
import Derived.KernelRfl
import Derived.Test.YtpaiiicnhgoijaaGreatDoorProg
import Derived.Test.YtpaiiicnhgoijaaGreatDoorRows
import Derived.WalkKit
import Derived.ProofKit
import Derived.OpenShut
import Derived.JoinedCond
import Derived.ReadAgain
import Derived.Test.YtpaiiicnhgoijaaGreatDoorCards
import Derived.Test.YtpaiiicnhgoijaaGreatDoorTie
import Derived.Lib.LaidIn
import Derived.Lib.LaidU8T
import Derived.Lib.LaidTab
import Derived.Shelf.Vars
import Derived.Deep.DeepHandedRow
import Derived.Deep.DeepWitnessRowRef
import Derived.IntWalk
import Derived.Recover
open Go.Proofs.YtpaiiicnhgoijaaGreatDoor
set_option linter.unusedVariables false
set_option linter.unusedSimpArgs false
set_option maxHeartbeats 16000000
variable {env e0 e':Go.Aw.Env} {d:Option Nat} {v:Go.Aw.V} {K:List Go.Aw.V->Prop} {all:List Go.Oper} {o:Go.Oper} {cs vs args:List Go.Aw.V} {off j i n b base rid:Nat} {b1 b0 U:List (Nat×List Go.Aw.V)} {Q:Go.Aw.AH->Go.Aw.Env->Go.Aw.St->Prop} {k:Int} {l:List Int} {bs:List Bool} {t:Go.TypeId} {p c:Prop} {x:List UInt8} {L:List (Option Nat)} {S sched:List (Nat×Bool)} {α:Type} {P:Go.Program} {f g:Go.FuncId} {R:Go.Aw.AA->Go.Aw.St->Prop} {I0 I:Go.Aw.Mem} {st0 st' s:Go.Aw.St} {w0 W:Go.World} {β:Nat->Option Nat} {fn:Go.Func} {es:List (List Go.Aw.V)} {T:List (Nat×Go.Aw.Ty)} {C:Go.FuncId->List Go.Aw.V->Go.Aw.St->(Go.Aw.AA->Go.Aw.St->Prop)->Prop} {ih:(Go.Aw.AH->Go.Aw.Env->Go.Aw.St->Prop)->Go.Aw.Env->Go.Aw.St->Prop} {r r':Go.Aw.AA} {rest:Go.Code}
namespace Go.Aw
open Go
section
variable {D:List Deferred} {P:Program} {T:List (Nat×Ty)} {C:FuncId->List V->St->(AA->St->Prop)->Prop} {I0 I:Mem} {st0 st:St} {w0 w:World} {β:Nat->Option Nat} {env:Env} {a:Act}
theorem G5 {K:Env->Prop} (h:env.go d v K):(∀t,d=some t->t<env.sz)/\K {env with tmps:=OG env.tmps d v}:=by
 cases d with
 |none=>exact ⟨λt e=>(by cases e),h⟩
 |some t=>
  obtain ⟨h1,U⟩:=Ao.1 h
  exact ⟨λs e=>by simp_all,U⟩
theorem Hw {yes no:Prop} (h:Bf all o env yes no):
 (yes/\∀p q:Prop,p->Bf all o env p q)\/(no/\∀p q:Prop,q->Bf all o env p q):=by
 unfold Bf at h
 cases U:o.guard with
 |none=>
  rw [U] at h
  exact .inl ⟨h,λp q hp=>by unfold Bf;simp_all⟩
 |some g=>
  obtain ⟨j,want⟩:=g
  rw [U] at h
  simp only at h
  split at h
  .rename_i b hb
   cases want<;>cases b<;>simp only [cond_true,cond_false,lit] at h
   .exact .inl ⟨h,λp q hp=>by unfold Bf;rw [U];simp only [hb,lit,cond_false];exact hp⟩
   .exact .inr ⟨h,λp q hp=>by unfold Bf;rw [U];simp only [hb,lit,cond_false];exact hp⟩
   .exact .inr ⟨h,λp q hp=>by unfold Bf;rw [U];simp only [hb,lit,cond_true];exact hp⟩
   .exact .inl ⟨h,λp q hp=>by unfold Bf;rw [U];simp only [hb,lit,cond_true];exact hp⟩
  .rename_i hb
   exact .inr ⟨h,λp q hp=>by unfold Bf;simp_all⟩
  simp_all
def HY (T:List (Nat×Ty)) (C:FuncId->List V->St->(AA->St->Prop)->Prop) (all:List Oper) (b1 U:List (Nat×List V)) (st:St) (o:Oper) (E:Env) (n:Nat) (v:V) (x:Option (Nat×List V)):Prop:=
 match o.op with
 | .alloc t=>∃ty,assoc T t=some ty/\v=.BO n 0/\x=some (n,ty.zero.cells)
 | .box t y=>(E.Bq T t y).known=true/\v=.BO n 0/\x=some (n,(E.Bq T t y).cells)
 | .store t p y=>∃id off cs ty cs',E.eval p=.BO id off/\assoc b1 id=some cs/\assoc T t=some ty/\(E.Bq T t y).known=true/\(E.Bq T t y).cells.length=ty.zero.cells.length/\
    (off+(E.Bq T t y).cells.length<=cs.length/\Nr cs=true/\(E.Bq T t y).cells.all V.sc=true/\cs'=cs.take off++(E.Bq T t y).cells++cs.drop (off+(E.Bq T t y).cells.length))/\v=.BT/\x=some (id,cs')
 |_=>Bi T C all o U E st v/\x=none
def HF (T:List (Nat×Ty)) (C:FuncId->List V->St->(AA->St->Prop)->Prop) (all:List Oper) (b1 U:List (Nat×List V)) (st:St) (o:Oper) (E:Env) (n:Nat) (v:V) (x:Option (Nat×List V)):Prop:=
 Bf all o E (HY T C all b1 U st o E n v x) (v=.Bz []/\x=none)
theorem N6 {K:V->Env->Prop}:env.OX cs K↔K (.BO env.Bm 0) {env with boxes:=(env.Bm,cs)::env.boxes}:=by
 unfold Env.OX
 rw [Bh]
theorem Ki {new:List V} (h:Ez cs off new K):off+new.length<=cs.length/\Nr cs=true/\new.all V.sc=true/\K (cs.take off++new++cs.drop (off+new.length)):=by
 unfold Ez at h
 obtain ⟨U,h⟩:=Ao.1 h
 obtain ⟨h1,h⟩:=Ao.1 h
 obtain ⟨h2,h⟩:=Ao.1 h
 exact ⟨Nat.le_of_ble_eq_true h1,U,h2,Bh.1 h⟩
theorem Vh {K:V->Env->Prop} (h:OQ T C all o b1 b0 env st K):
 ∃v x,HY T C all b1 b0 st o env env.Bm v x/\K v {env with boxes:=p8 env.boxes x}:=by
 have quiet:(∃v,Bi T C all o b0 env st v/\v.part λv=>K v env)->∃v,∃x:Option (Nat×List V),(Bi T C all o b0 env st v/\x=none)/\K v {env with boxes:=p8 env.boxes x}:=by
  rintro ⟨v,h1,h2⟩
  exact ⟨v,none,⟨h1,rfl⟩,V.MB.1 h2⟩
 cases ho:o.op<;>simp only [OQ,HY,ho] at h |-<;>try exact quiet h
 case alloc t=>
  split at h
  .rename_i ty ht
   obtain ⟨_,h⟩:=Ao.1 h
   exact ⟨_,some (env.Bm,ty.zero.cells),⟨ty,ht,rfl,rfl⟩,N6.1 h⟩
  simp_all
 case box t y=>
  obtain ⟨_,h⟩:=Ao.1 h
  obtain ⟨U,h⟩:=Ao.1 (V.AB.1 h)
  exact ⟨_,some _,⟨U,rfl,rfl⟩,N6.1 h⟩
 case store t p y=>
  split at h
  .rename_i id off he
   split at h
   .rename_i cs ty hcs ht
    obtain ⟨U,h⟩:=Ao.1 (V.AB.1 h)
    simp only [Bool.and_eq_true] at U
    obtain ⟨g1,g0,g2,g3⟩:=Ki h
    exact ⟨.BT,some (id,_),⟨id,off,cs,ty,_,he,hcs,ht,U.1,Nat.eq_of_beq_eq_true U.2,⟨g1,g0,g2,rfl⟩,rfl,rfl⟩,g3⟩
   simp_all
  simp_all
theorem Vj {all:List Oper} {Q:AH->Env->St->Prop} {e0:Env} {b1 b0:List (Nat×List V)}:∀{l:List Oper} {env:Env},HO T C all Q e0 b1 b0 l env st->∃(vs:List V) (U:List (Option (Nat×List V))),vs.length=Bp e0 all l/\U.length=Bp e0 all l/\
 (∀(i:Nat) (o:Oper) (v:V) (x:Option (Nat×List V)),i<Bp e0 all l->l[i]? =some o->vs[i]? =some v->U[i]? =some x->HF T C all b1 b0 st o (Ry env (env.Bm+i) l vs U (List.replicate i true)) (env.Bm+i) v x)/\
 (∀(i:Nat) (o:Oper) (t:Nat),i<Bp e0 all l->l[i]? =some o->o.dst=some t->t<env.sz)/\
 Eg T C all Q (l.drop (Bp e0 all l)) (Ry env (env.Bm+Bp e0 all l) l vs U (List.replicate (Bp e0 all l) true)) st
 |[],env,h=>⟨[],[],rfl,rfl,λi o v x e=>by simp_all,λi o t e=>by simp_all,h⟩
 |o::r,env,h=>by
  rw [Vi] at h
  cases hk:Gd e0 all o with
  |false=>
   rw [hk] at h
   have hl:Bp e0 all (o::r)=0:=by simp [Bp,hk]
   refine ⟨[],[],kw,kw,λi o v x e=>by omega,λi o t e=>by omega,?_⟩
   rw [hl]
   exact h
  |true=>
   rw [hk] at h
   have h:Bf all o env _ _:=h
   have hl:Bp e0 all (o::r)=Bp e0 all r+1:=by simp [Bp,hk]
   have step:∀(v:V) (x:Option (Nat×List V)),HF T C all b1 b0 st o env env.Bm v x->
    (Env.go {env with boxes:=p8 env.boxes x} o.dst v λenv=>env.up λenv=>HO T C all Q e0 b1 b0 r env st)->∃(vs:List V) (U:List (Option (Nat×List V))),vs.length=Bp e0 all (o::r)/\U.length=Bp e0 all (o::r)/\
    (∀(i:Nat) (o':Oper) (v:V) (x:Option (Nat×List V)),i<Bp e0 all (o::r)->(o::r)[i]? =some o'->vs[i]? =some v->U[i]? =some x->HF T C all b1 b0 st o' (Ry env (env.Bm+i) (o::r) vs U (List.replicate i true)) (env.Bm+i) v x)/\
    (∀(i:Nat) (o':Oper) (t:Nat),i<Bp e0 all (o::r)->(o::r)[i]? =some o'->o'.dst=some t->t<env.sz)/\
    Eg T C all Q ((o::r).drop (Bp e0 all (o::r))) (Ry env (env.Bm+Bp e0 all (o::r)) (o::r) vs U (List.replicate (Bp e0 all (o::r)) true)) st:=by
    intro v x hv hg
    obtain ⟨h1,h2⟩:=G5 hg
    have h2:HO T C all Q e0 b1 b0 r _ st:=h2
    obtain ⟨vs,U,k1,k2,k3,k4,k5⟩:=Vj h2
    rw [hl]
    refine ⟨v::vs,x::U,by simp [k1],by simp [k2],?_,?_,?_⟩
    .intro i o' v' x' hi e1 e2 e3
     cases i with
     |zero=>
      simp only [List.getElem?_cons_zero,Option.some.injEq] at e1 e2 e3
      subst e1;subst e2;subst e3
      exact hv
     |succ i=>
      have:=k3 i o' v' x' AC kw kw kw
      have e:env.Bm+1+i=env.Bm+(i+1):=AC
      rw [<-e]
      exact this
    .grind
    .have e:env.Bm+1+Bp e0 all r=env.Bm+(Bp e0 all r+1):=AC
     rw [<-e]
     exact k5
   rcases Hw h with ⟨h1,h3⟩|⟨h1,h3⟩
   .obtain ⟨v,x,h4,h5⟩:=Vh h1
    exact step v x (h3 _ _ h4) h5
   .exact step (.Bz []) none (h3 _ _ ⟨rfl,rfl⟩) h1
structure Pk (k:Nat) (all:List Oper):Prop where
 le:k<=all.length
 back:∀(i:Nat) (o:Oper),all[i]? =some o->∀e ∈ o.after,Region.binds .any e=true->e.on<i
 dst:M0 (all.take (k))
 lo:∀(i j:Nat) (o p:Oper) (t:Nat),i<k->j<k->all[i]? =some o->all[j]? =some p->p.dst=some t->t ∈ Oper.B7 all o->j<i->reaches all all.length i j=true
 hi:∀(i j:Nat) (o p:Oper) (t:Nat),i<k->j<k->all[i]? =some o->all[j]? =some p->p.dst=some t->t ∈ Oper.B7 all o->i<j->reaches all all.length j i=true
 tail:∀(i j:Nat),k<=i->i<all.length->j<i->reaches all all.length i j=true
theorem Pk.of {k:Nat} (h:JW k all=true):Pk k all:=by
 simp only [JW,Bool.and_eq_true,List.all_eq_true,List.mem_range] at h
 obtain ⟨hk,h⟩:=h
 have lt:∀{i:Nat} {o:Oper},all[i]? =some o->i<all.length:=λe=>(List.getElem?_eq_some_iff.1 e).1
 have one:∀(i:Nat) (o:Oper),all[i]? =some o->(∀e ∈ o.after.toList,(!(Region.binds .any e)||Nat.blt e.on i)=true)/\
  (bif Nat.blt i (k) then (List.range (k)).all λj=>Nat.beq i j||match all[j]? with|none=>true|some p=>LD all i j o p
    else (List.range i).all λj=>reaches all all.length i j)=true:=by
  intro i o e
  have:=h i (lt e)
  simp only [e,Bool.and_eq_true] at this
  exact ⟨List.all_eq_true.1 this.1,this.2⟩
 have pair:∀(i j:Nat) (o p:Oper),i<k->j<k->all[i]? =some o->all[j]? =some p->i≠j->LD all i j o p=true:=by
  intro i j o p hi hj U e2 hij
  have:=(one i o U).2
  have hb:Nat.blt i (k)=true:=by rw [Nat.blt_eq];exact hi
  rw [hb] at this
  simp only [cond_true,List.all_eq_true,List.mem_range] at this
  have:=this j hj
  rw [e2] at this
  simp only [Bool.or_eq_true] at this
  rcases this with g|g
  .simp_all
  .exact g
 have edge:∀(i j:Nat) (o p:Oper) (t:Nat),i<k->j<k->all[i]? =some o->all[j]? =some p->i≠j->p.dst=some t->(o.dst≠some t)/\(t ∈ Oper.B7 all o->(if Nat.blt j i then reaches all all.length i j else reaches all all.length j i)=true):=by
  intro i j o p t hi hj U e2 hij ht
  have:=pair i j o p hi hj U e2 hij
  simp only [LD,ht,Bool.and_eq_true,Bool.or_eq_true,Bool.not_eq_true',beq_eq_false_iff_ne] at this
  refine ⟨this.1,λhm=>?_⟩
  rcases this.2 with g|g
  .simp_all
  .exact g
 refine ⟨Nat.le_of_ble_eq_true hk,λi o e x hx hb=>?_,λi j o p t U e2 hij ht=>?_,λi j o p t hi hj U e2 ht hm hlt=>?_,λi j o p t hi hj U e2 ht hm hlt=>?_,λi j hi hl hlt=>?_⟩
 .have:=(one i o e).1 x kw
  simp_all
 .grind
 .have:=(edge i j o p t hi hj U e2 AC ht).2 hm
  simp_all
 .have:=(edge i j o p t hi hj U e2 AC ht).2 hm
  rw [if_neg (by rw [Nat.blt_eq];omega)] at this
  omega
 .have:=(one i all[i] (List.getElem?_eq_getElem hl)).2
  have hb:Nat.blt i (k)=false:=by
   cases hb:Nat.blt i (k) with
   |false=>rfl
   |true=>rw [Nat.blt_eq] at hb;omega
  simp_all
def XO (all:List Oper) (listed:Array Bool):Prop:=
 ∀(i:Nat) (o:Oper),all[i]? =some o->listed.getD i false=true->∀e ∈ o.after,Region.binds .any e=true->listed.getD e.on false=true
theorem Eh {all:List Oper} {listed:Array Bool} (hc:XO all listed):∀{n i j:Nat} {o:Oper},reaches all n i j=true->all[i]? =some o->(∀e ∈ o.after,Region.binds .any e=true->listed.getD e.on false=true)->listed.getD j false=true
 |0,i,j,o,h,ho,he=>by cases h
 |n+1,i,j,o,h,ho,he=>by
  rw [reaches,ho] at h
  simp only [Bool.or_eq_true,List.any_eq_true,Bool.and_eq_true] at h
  rcases h with ⟨e,h1,h2,h3⟩|⟨e,h1,⟨h2,h3⟩,U⟩
  .have:=Nat.eq_of_beq_eq_true h3
   grind
  .have hl:=he e kw h2
   cases hp:all[e.on]? with
   |none=>
    cases n with
    |zero=>cases U
    |succ n=>rw [reaches,hp] at U;cases U
   |some p=>exact Eh hc U hp (hc e.on p hp hl)
structure Env.eqv (e e':Env):Prop where
 tmps:∀t,assoc e.tmps t=assoc e'.tmps t
 boxes:∀t,assoc e.boxes t=assoc e'.boxes t
 Bm:e.Bm=e'.Bm
 sz:e.sz=e'.sz
theorem Rel.same {e:Env} (h:Rel D I0 st0 w0 I β e st a w) (k:e.eqv e'):Rel D I0 st0 w0 I β e' st a w:=
 ⟨h.fr,h.s,⟨h.f.size.trans k.sz,λt v x=>h.f.tmps t v ((k.tmps t).trans x),λid cs x=>h.f.box id cs ((k.boxes id).trans x),
   λid b x=>by rw [<-k.Bm];exact h.f.Bm id b x,h.f.inj,h.f.sep,h.f.defers⟩⟩
theorem Nj {l:Array Bool} {d:Bool}:l.getD j d=(l.toList[j]?).getD d:=kw
theorem aT {e:Env} {bs:List (Nat×List V)} {l:List Nat} (U:∀t ∈ l,assoc e.tmps t=assoc e'.tmps t) (hn:e.Bm=e'.Bm) (hs:e.sz=e'.sz) (hg:e.gl=e'.gl):e.only bs l=e'.only bs l:=by
 unfold Env.only
 have:l.map (λt=>(t,e.get t))=l.map (λt=>(t,e'.get t)):=List.map_congr_left λt ht=>by unfold Env.get;simp_all
 simp_all
theorem Pu {e:Env}:∀{l:List Nat} {t:Nat},t ∈ l->assoc (l.map λt=>(t,e.get t)) t=some (e.get t)
 |x::r,t,h=>by
  rw [List.map_cons,Bj]
  cases U:Nat.beq x t with
  |true=>simp_all
  |false=>
   rcases List.mem_cons.1 h with rfl|h
   .simp_all
   .exact Pu h
theorem WV {t:Nat} (h:.tmp t ∈ o.op.operands.toList):t ∈ Oper.B7 all o:=List.mem_append_left _ (List.mem_filterMap.2 ⟨.tmp t,h,rfl⟩)
theorem FW {e:Env} {bs:List (Nat×List V)} (h:∀t ∈ Oper.B7 all o,assoc e.tmps t=assoc e'.tmps t):∀x ∈ o.op.operands.toList,(e.only bs (Oper.B7 all o)).eval x=e'.eval x:=by
 intro x hx
 cases x with
 |tmp t=>
  have U:t ∈ Oper.B7 all o:=WV hx
  show Env.get _ t=e'.get t
  unfold Env.get Env.only
  simp only
  rw [Pu U]
  unfold Env.get
  grind
 |_=>rfl
theorem G3 {e:Env} (h:∀t ∈ Oper.B7 all o,assoc e.tmps t=assoc e'.tmps t):∀x ∈ o.op.operands.toList,e.eval x=e'.eval x:=by
 intro x U
 cases x with
 |tmp t=>show Env.get _ t=Env.get _ t;unfold Env.get;rw [h t (WV U)]
 |_=>rfl
theorem F6 {e:Env} {q:Prop} (h:∀t ∈ Oper.B7 all o,assoc e.tmps t=assoc e'.tmps t) (k:Bf all o e p q):Bf all o e' p q:=by
 unfold Bf at *
 cases U:o.guard with
 |none=>simp_all
 |some g=>
  obtain ⟨j,want⟩:=g
  rw [U] at k
  simp only at k |-
  have:((all[j]?).bind (·.dst)).map e.get=((all[j]?).bind (·.dst)).map e'.get:=by
   cases hd:(all[j]?).bind (·.dst) with
   |none=>rfl
   |some t=>
    have:=h t (List.mem_append_right _ kw)
    simp only [Option.map_some,Env.get,this]
  simp_all
theorem Fs {e:Env} {q U q':Prop} (h:p->U) (h':q->q') (k:Bf all o e p q):Bf all o e U q':=by
 rcases Hw k with ⟨k1,k2⟩|⟨k1,k2⟩
 .grind
 grind
theorem Vg (h:Gd e0 all o=true):BL o.op=true\/(∃t,o.op=.alloc t)\/(∃t x,o.op=.box t x)\/∃t x y,o.op=.store t x y:=by
 unfold Gd at h
 cases U:o.op<;>rw [U] at h<;>first
  |(cases h;done)
  |exact .inl rfl
  |exact .inr (.inl ⟨_,rfl⟩)
  |exact .inr (.inr (.inl ⟨_,_,rfl⟩))
  |exact .inr (.inr (.inr ⟨_,_,_,rfl⟩))
theorem cW (hT:Gj P T) (hC:∀f args st R,C f args st R->CB P f args st R/\Plain P f) (hM:∀f args st (R R':AA->St->Prop),(∀r s,R r s->R' r s)->C f args st R->C f args st R')
 {eh:Env} {x:Option (Nat×List V)} (hi:all[i]? =some o) (hq:Gd eh all o=true) (h:Rel D I0 st0 w0 I β env st a w)
 (hag:∀t ∈ Oper.B7 all o,assoc e0.tmps t=assoc env.tmps t) (hb:∀id cs,assoc b0 id=some cs->assoc env.boxes id=some cs)
 (hb1:∀id cs',x=some (id,cs')->id≠n->∀cs,assoc b1 id=some cs->assoc env.boxes id=some cs) (R6:∀id cs,assoc b1 id=some cs->id≠n)
 (hf:HF T C all b1 b0 st o e0 n v x) (hid:β n=none) (hn:n<env.Bm) {next:Act->World->Prop} (Q:AH->Env->St->Prop)
 (k:∀I β' c a' w',a'=a.put o.dst c->Rel D I0 st0 w0 I β' {env with boxes:=p8 env.boxes x} st a w'->AZ I β' v c->(∀j,j<env.Bm->j≠n->β' j=β j)->next a' w'):wpOp P all.toArray (B6 D I0 st0 w0 Q) i next a w:=by
 unfold wpOp
 have hi':all.toArray[i]? =some o:=by simpa using hi
 simp only [hi']
 have yes:HY T C all b1 b0 st o e0 n v x->o.wp P a w next (B6 D I0 st0 w0 Q):=by
  intro hy
  have quiet:BL o.op=true->Bi T C all o b0 e0 st v/\x=none->o.wp P a w next (B6 D I0 st0 w0 Q):=by
   rintro U ⟨hy2,rfl⟩
   have:=CT (T:=T) (C:=C) (env:=e0.only b0 (Oper.B7 all o)) (env':=env) hM (K':=λv' e s=>v'=v/\e=env/\s=st) (Q':=Q) U (.inl rfl) (FW hag) hb
    (λv' s s' g x=>⟨x.1,rfl,kw⟩) (λ_ _ x=>x.elim) hy2
   refine MA hT hC (λI β env' st' v' c w' hr hv hβ x=>?_) h this
   obtain ⟨rfl,rfl,rfl⟩:=x
   exact k _ _ _ _ _ rfl hr hv λj hj _=>hβ j hj
  have fresh:∀{cs:List V} {vs:List Value} {t:TypeId},v=.BO n 0->x=some (n,cs)->Aj I cs vs->(execOp a.eval o).run P w=.ok (.value (.pointer (some ⟨w.heap.size,0,none⟩))) (w.alloc (.cells vs.toArray t))->o.wp P a w next (B6 D I0 st0 w0 Q):=by
   rintro cs vs t rfl rfl hr hrun
   unfold Oper.wp
   rw [hrun]
   refine k I _ _ _ _ rfl (h.Qj hr t hid hn (Nat.le_refl _)) (show ∃b,_/\_ from ⟨w.heap.size,if_pos rfl,rfl⟩) λj hj hne=>if_neg hne
  rcases Vg hq with U|⟨t,ho⟩|⟨t,y,ho⟩|⟨t,p,y,ho⟩
  .refine quiet U ?_
   unfold HY at hy
   split at hy
   .rename_i ho;rw [ho] at U;cases U
   .rename_i ho;rw [ho] at U;cases U
   .rename_i ho;rw [ho] at U;cases U
   omega
  .unfold HY at hy
   rw [ho] at hy
   obtain ⟨ty,h1,h2,h3⟩:=hy
   obtain ⟨vs,h4,h5⟩:=RJ (P:=P) hT I w a h1 ho
   grind
  .unfold HY at hy
   rw [ho] at hy
   obtain ⟨h1,h2,h3⟩:=hy
   have he:e0.Bq T t y=env.Bq T t y:=Co (G3 hag y (by rw [ho];simp [Op.operands]))
   rw [he] at h1 h3
   exact fresh h2 h3 (Ew ((h.f.Bq hT t y).rep (E9 h1)) h1) (ZT w a ho)
  .unfold HY at hy
   rw [ho] at hy
   obtain ⟨id,off,cs,ty,cs',h1,h2,h3,h4,h5,⟨h6,h60,h7,rfl⟩,rfl,rfl⟩:=hy
   have he:e0.Bq T t y=env.Bq T t y:=Co (G3 hag y (by rw [ho];simp [Op.operands]))
   have hp:e0.eval p=env.eval p:=G3 hag p (by rw [ho];simp [Op.operands])
   rw [he] at h4 h5 h6 h7 hb1 k
   have hcs:=hb1 id _ rfl (R6 id cs h2) cs h2
   have:=Og (o:=o) (t:=t) (x:=p) (y:=y) (next:=next) (Qc:=B6 D I0 st0 w0 Q) (K:=λv' e s=>v'=.BT/\e={env with boxes:=(id,cs.take off++(env.Bq T t y).cells++cs.drop (off+(env.Bq T t y).cells.length))::env.boxes}/\s=st) hT (λI β' env' st' v' c w' hr hv hβ x=>by
    obtain ⟨rfl,rfl,rfl⟩:=x
    exact k _ _ _ _ _ rfl hr hv λj hj _=>hβ j hj) h ho (by
    rw [<-hp,h1]
    simp only [hcs,h3]
    refine V.AB.2 (AQ ?_ ?_)
    .simp_all
    .unfold Ez
     exact AQ h60 (AQ kw (AQ h7 (Bh.2 GT)))  )
   omega
 have no:v=.Bz []/\x=none->next (a.put o.dst undef) w:=λ⟨e,e'⟩=>by
  subst e;subst e'
  exact k _ _ _ _ _ rfl h (AZ.of (v:=.Bz []) (by simp only [AK];exact ⟨[],rfl,H1⟩)) λ_ _ _=>rfl
 have hf:=F6 hag hf
 unfold Bf at hf
 cases hg:o.guard with
 |none=>
  rw [hg] at hf
  rw [if_pos (by simp [Region.wanted,hg])]
  simp_all
 |some g=>
  obtain ⟨j,want⟩:=g
  rw [hg] at hf
  simp only at hf
  split at hf
  .rename_i b hb
   have hy:=Jw h hb
   have hw:Region.wanted o (yielded all.toArray a.tmps)=(b==want):=by
    simp only [Region.wanted,hg,hy]
    cases b<;>cases want<;>rfl
   cases want<;>cases b<;>simp only [cond_true,cond_false,lit] at hf
   .simp_all
   .simp_all
   .simp_all
   simp_all
  .rename_i hb
   have hy:=HE h hb
   rw [if_neg (by simp only [Region.wanted,hg,hy];simp_all)]
   grind
  simp_all
end
section
variable {D:List Deferred} {P:Program} {T:List (Nat×Ty)} {C:FuncId->List V->St->(AA->St->Prop)->Prop} {I0 I:Mem} {st0 st:St} {w0 w:World} {β:Nat->Option Nat} {env:Env} {a:Act}
theorem Fo {m:Nat} {d:Bool} {listed:Array Bool} (h:listed.toList=bs++List.replicate n false) (U:bs.length=m):listed.getD j d=(if j<m then bs[j]?.getD d else if j<m+n then false else d):=by
 rw [Nj,h]
 grind
theorem KI:∀{l:List Oper} {vs:List V} {bs:List Bool} {ts:List (Nat×V)},Gp ts l vs bs=Gp ts (l.take vs.length) vs bs
 |[],vs,bs,ts=>by simp_all
 |o::r,[],bs,ts=>rfl
 |o::r,v::vs,[],ts=>rfl
 |o::r,v::vs,b::bs,ts=>by
  simp only [List.length_cons,List.take_succ_cons,Gp]
  exact KI
theorem LL (hT:Gj P T) (hC:∀f args st R,C f args st R->CB P f args st R/\Plain P f) {k0:Nat} {all:List Oper} (DO:Pk k0 all) {Q:AH->Env->St->Prop}:
 ∀(r:List Oper) (m:Nat) (listed:Array Bool) (I:Mem) (β:Nat->Option Nat) (env:Env) (st:St) (a:Act) (w:World),r=all.drop m->k0<=m->m<=all.length->
  listed.toList=List.replicate m true++List.replicate (all.length - m) false->Rel D I0 st0 w0 I β env st a w->Eg T C all Q r env st->
  ∀fuel,all.length - m<=fuel->wpAny P .any all.toArray (B6 D I0 st0 w0 Q) fuel listed a w
 |[],m,listed,I,β,env,st,a,w,hr,hk,hm,hl,h,k,fuel,hf=>by
  have hm':all.length<=m:=by
   have:=congrArg List.length hr
   simp at this
   omega
  have:Region.ready .any all.toArray listed=[]:=by
   rw [List.eq_nil_iff_forall_not_mem]
   intro j hj
   obtain ⟨h1,o,U,_⟩:=mem_ready.1 hj
   have hjl:j<all.length:=by
    have:=(Array.getElem?_eq_some_iff.1 U).1
    simpa using this
   rw [Fo hl (List.length_replicate ..),if_pos AC,List.getElem?_replicate,if_pos AC] at h1
   cases h1
  exact wpAny_done this ⟨I,β,env,st,.normal,h,trivial,k⟩ fuel
 |o::r,m,listed,I,β,env,st,a,w,hr,hk,hm,hl,h,k,fuel,hf=>by
  have hmo:all[m]? =some o:=by
   have:=congrArg (·[0]?) hr
   simp at this
   exact this.symm
  have hml:m<all.length:=(List.getElem?_eq_some_iff.1 hmo).1
  have hr':r=all.drop (m+1):=by
   have:=congrArg (List.drop 1) hr
   simpa [Nat.add_comm] using this
  obtain ⟨fuel,rfl⟩:∃n,fuel=n+1:=⟨fuel - 1,AC⟩
  have hin:∀j,j<m->listed.getD j false=true:=λj hj=>by
   rw [Fo hl (List.length_replicate ..),if_pos hj,List.getElem?_replicate,if_pos hj];rfl
  have hout:∀j,m<=j->listed.getD j false=false:=λj hj=>by
   rw [Fo hl (List.length_replicate ..),if_neg AC]
   simp_all
  have hmr:m ∈ Region.ready .any all.toArray listed:=mem_ready.2 ⟨by rw [Fo hl (List.length_replicate ..),if_neg AC,if_pos AC],o,kw,λe he hb=>hin _ (DO.back m o hmo e he hb)⟩
  have hcl:XO all listed:=λi p hp hi e he hb=>by
   have hlt:i<m:=by
    rcases Nat.lt_or_ge i m with h'|h'
    .exact h'
    .simp_all
   have:=DO.back i p hp e he hb
   grind
  refine ⟨λh0=>(by simp_all),λi hi=>?_⟩
  have him:i=m:=by
   obtain ⟨h1,p,U,h3⟩:=mem_ready.1 hi
   have U:all[i]? =some p:=by simpa using U
   have hil:=(List.getElem?_eq_some_iff.1 U).1
   rcases Nat.lt_trichotomy i m with h'|h'|h'
   .grind
   .exact h'
   .have:=Eh hcl (DO.tail i m AC hil h') U h3
    simp_all
  subst him
  have hl':(listed.setIfInBounds i true).toList=List.replicate (i+1) true++List.replicate (all.length - (i+1)) false:=by
   simp only [Array.toList_setIfInBounds,hl]
   rw [List.set_append_right _ _ GT]
   have:all.length - i=(all.length - (i+1))+1:=AC
   rw [this,List.replicate_succ,List.length_replicate,Nat.sub_self,List.set_cons_zero,List.replicate_succ',List.append_assoc]
   rfl
  have next:∀{I β env st a w},Rel D I0 st0 w0 I β env st a w->Eg T C all Q r env st->wpAny P .any all.toArray (B6 D I0 st0 w0 Q) fuel (listed.setIfInBounds i true) a w:=λh k=>
   LL hT hC DO r (i+1) _ _ _ _ _ _ _ hr' AC hml hl' h k fuel AC
  rw [Qz] at k
  have yes:FI T C o env st (λv env st=>env.go o.dst v λenv=>Eg T C all Q r env st) Q->o.wp P a w (wpAny P .any all.toArray (B6 D I0 st0 w0 Q) fuel (listed.setIfInBounds i true)) (B6 D I0 st0 w0 Q):=by
   intro k
   refine MA hT hC (λI β env st v c w h hv _ k=>?_) h k
   obtain ⟨env',h1,U⟩:=B9 h hv k
   exact next h1 U
  have no:(env.go o.dst (.Bz []) λenv=>Eg T C all Q r env st)->wpAny P .any all.toArray (B6 D I0 st0 w0 Q) fuel (listed.setIfInBounds i true) (a.put o.dst undef) w:=by
   intro k
   obtain ⟨env',h1,U⟩:=B9 h (c:=undef) (AZ.of (v:=.Bz []) (by simp only [AK];exact ⟨[],rfl,H1⟩)) k
   exact next h1 U
  unfold wpOp
  have hi':all.toArray[i]? =some o:=by simpa using hmo
  simp only [hi']
  unfold Bf at k
  cases hg:o.guard with
  |none=>
   rw [hg] at k
   rw [if_pos (by simp [Region.wanted,hg])]
   simp_all
  |some g=>
   obtain ⟨j,want⟩:=g
   rw [hg] at k
   simp only at k
   split at k
   .rename_i b hb
    have hy:=Jw h hb
    have hw:Region.wanted o (yielded all.toArray a.tmps)=(b==want):=by
     simp only [Region.wanted,hg,hy]
     cases b<;>cases want<;>rfl
    cases want<;>cases b<;>simp only [cond_true,cond_false,lit] at k
    .simp_all
    .simp_all
    .simp_all
    simp_all
   .rename_i hb
    have hy:=HE h hb
    rw [if_neg (by simp only [Region.wanted,hg,hy];simp_all)]
    grind
   simp_all
theorem Yt (hT:Gj P T) (hC:∀f args st R,C f args st R->CB P f args st R/\Plain P f) (hM:∀f args st (R R':AA->St->Prop),(∀r s,R r s->R' r s)->C f args st R->C f args st R')
 {U:Nat} (DO:Pk U all) {eh:Env} {xs:List (Option (Nat×List V))} (hv:vs.length=U) (hx:xs.length=U) (hkl:U<=all.length)
 (hid:∀(i:Nat) (p:Nat×List V),xs[i]? =some (some p)->p.1=env.Bm+i\/(L[i]? =some (some p.1)/\p.1<env.Bm)) (hU:XN xs) (hbn:∀id cs,assoc env.boxes id=some cs->id<env.Bm) (hhk:∀(i:Nat) (o:Oper),i<U->all[i]? =some o->Gd eh all o=true)
 (hf:∀(i:Nat) (o:Oper) (v:V) (x:Option (Nat×List V)),i<U->all[i]? =some o->vs[i]? =some v->xs[i]? =some x->HF T C all env.boxes (Bg L env.boxes) st o (Ry env (env.Bm+i) all vs xs (List.replicate i true)) (env.Bm+i) v x)
 (ht:∀(i:Nat) (o:Oper) (t:Nat),i<U->all[i]? =some o->o.dst=some t->t<env.sz)
 (hQ:Eg T C all Q (all.drop (U)) (Ry env (env.Bm+U) all vs xs (List.replicate (U) true)) st):
 ∀(fuel:Nat) (bs:List Bool) (listed:Array Bool) (I:Mem) (β:Nat->Option Nat) (a:Act) (w:World),bs.length=U->listed.toList=bs++List.replicate (all.length - U) false->
  bs.count false+(all.length - U)<=fuel->XO all listed->(∀j:Nat,bs[j]? =some false->β (env.Bm+j)=none)->
  Rel D I0 st0 w0 I β (Ry env (env.Bm+U) all vs xs bs) st a w->wpAny P .any all.toArray (B6 D I0 st0 w0 Q) fuel listed a w:=by
 have hv':vs.length=(all.take (U)).length:=by rw [List.length_take,hv];omega
 have agreeT:∀{ts:List (Nat×V)} {bs bs':List Bool} {t:Nat},(∀(j:Nat) (o:Oper),j<U->all[j]? =some o->o.dst=some t->(bs[j]? =some true↔bs'[j]? =some true))->
  assoc (Gp ts all vs bs) t=assoc (Gp ts all vs bs') t:=by
  intro ts bs bs' t hh
  rw [KI (l:=all) (bs:=bs),KI (l:=all) (bs:=bs'),hv]
  exact Y7 DO.dst hv' λj o hj=>by grind
 intro fuel
 induction fuel with
 |zero=>
  intro bs listed I β a w hbl hl hfu hcl hβ hr
  have hbs:bs=List.replicate (U) true:=by
   rw [List.eq_replicate_iff]
   refine ⟨hbl,λb hb=>?_⟩
   cases b with
   |true=>rfl
   |false=>grind
  subst hbs
  exact LL hT hC DO _ _ _ _ _ _ _ _ _ rfl (Nat.le_refl _) hkl hl hr hQ 0 AC
 |succ fuel ih=>
  intro bs listed I β a w hbl hl hfu hcl hβ hr
  by_cases hc:bs.count false=0
  .have hbs:bs=List.replicate (U) true:=by
    rw [List.eq_replicate_iff]
    refine ⟨hbl,λb hb=>?_⟩
    cases b with
    |true=>rfl
    |false=>grind
   subst hbs
   exact LL hT hC DO _ _ _ _ _ _ _ _ _ rfl (Nat.le_refl _) hkl hl hr hQ _ AC
  .have hin:∀j:Nat,listed.getD j false=true->j<U/\bs[j]? =some true:=by
    intro j hj
    rw [Fo hl hbl] at hj
    split at hj
    .simp_all
    .simp_all
   have hex:∃j:Nat,bs[j]? =some false:=by
    have:false ∈ bs:=List.count_pos_iff.1 AC
    obtain ⟨j,hj,e⟩:=List.mem_iff_getElem.1 this
    exact ⟨j,by grind⟩
   have hmin:∃j:Nat,bs[j]? =some false/\∀i:Nat,i<j->bs[i]? =some true:=by
    obtain ⟨j,hj⟩:=hex
    induction j using Nat.strongRecOn with
    |_ j ih=>
     grind
   obtain ⟨m,hm,hmb⟩:=hmin
   have hmk:m<U:=by rw [<-hbl];exact (List.getElem?_eq_some_iff.1 hm).1
   have hready:Region.ready .any all.toArray listed≠[]:=by
    intro h0
    have:m ∈ Region.ready .any all.toArray listed:=mem_ready.2 ⟨by rw [Fo hl hbl,if_pos hmk,hm];rfl,all[m],GT,λe he hb=>by
     have hlt:=DO.back m all[m] GT e he hb
     rw [Fo hl hbl,if_pos AC,hmb _ hlt];rfl⟩
    rw [h0] at this;cases this
   refine ⟨λh0=>absurd h0 hready,λi hi=>?_⟩
   obtain ⟨h1,o,h2,h3⟩:=mem_ready.1 hi
   have h2':all[i]? =some o:=by simpa using h2
   have hil:i<all.length:=(List.getElem?_eq_some_iff.1 h2').1
   have hik:i<U:=by
    rcases Nat.lt_or_ge i (U) with h'|h'
    .exact h'
    .have:=Eh hcl (DO.tail i m h' hil AC) h2' h3
     grind
   have hbi:bs[i]? =some false:=by
    rw [Fo hl hbl,if_pos hik] at h1
    rw [List.getElem?_eq_getElem AC] at h1 |-
    exact congrArg some h1
   obtain ⟨v,hvi⟩:∃v,vs[i]? =some v:=⟨_,List.getElem?_eq_getElem (hv ▸ hik)⟩
   obtain ⟨x,hxi⟩:∃x,xs[i]? =some x:=⟨_,List.getElem?_eq_getElem (hx ▸ hik)⟩
   have agree:∀t ∈ Oper.B7 all o,assoc (Gp env.tmps all vs (List.replicate i true)) t=assoc (Gp env.tmps all vs bs) t:=by
    intro t ht
    refine agreeT λj p hjk hp hd=>?_
    rw [jS]
    rcases Nat.lt_trichotomy j i with hji|rfl|hij
    .have:=Eh hcl (DO.lo i j o p t hik hjk h2' hp hd ht hji) h2' h3
     grind
    .simp_all
    .refine ⟨λx=>by omega,λx=>?_⟩
     have hjl:listed.getD j false=true:=by rw [Fo hl hbl,if_pos hjk,x];rfl
     have:=Eh hcl (DO.hi i j o p t hik hjk h2' hp hd ht hij) hp (hcl j p hp hjl)
     grind
   refine cW hT hC hM h2' (hhk i o hik h2') hr agree (λid cs hd=>?_) (λid cs' hxe hne cs hcs=>?_) (λid cs hcs=>?_) (hf i o _ _ hik h2' hvi hxi) (hβ i hbi) (by show env.Bm+i<env.Bm+U;omega) Q λI' β' c a' w' ha hr' hrep hβ'=>?_
   .obtain ⟨d1,d2⟩:=G0 hd
    have hlt:=hbn id cs d1
    show assoc (Kb xs bs env.boxes) id=some cs
    rw [Hc λj p hj _ e=>?_]
    .exact d1
    .rcases hid j p hj with g|⟨g,_⟩
     .omega
     grind
   .show assoc (Kb xs bs env.boxes) id=some cs
    subst hxe
    rw [Hc λj p hj hbj e=>?_]
    .exact hcs
    .by_cases hji:j=i
     .simp_all
     .exact hU j i p (id,cs') hj hxi hji e
   .grind
   .subst ha
    have hbil:i<bs.length:=AC
    have hput:Rel D I0 st0 w0 I' β' {Ry env (env.Bm+U) all vs xs bs with boxes:=p8 (Kb xs bs env.boxes) x,tmps:=OG (Gp env.tmps all vs bs) o.dst v} st (a.put o.dst c) w':=by
     cases hd:o.dst with
     |none=>exact hr'
     |some t=>exact hr'.put hrep (ht i o t hik h2' hd)
    refine ih (bs.set i true) _ I' β' _ w' kw ?_ ?_ ?_ ?_ (hput.same ⟨λt=>?_,λid=>?_,rfl,rfl⟩)
    .simp_all
    .grind
    .intro j p hp hj e he hb
     by_cases hij:i=j
     .subst hij
      rw [h2'] at hp
      cases hp
      exact getD_set_true (h3 e he hb)
     .refine getD_set_true (hcl j p hp ?_ e he hb)
      simp_all
    .intro j hj
     by_cases hij:i=j
     .grind
     .rw [List.getElem?_set_ne hij] at hj
      have hjl:j<bs.length:=(List.getElem?_eq_some_iff.1 hj).1
      rw [hβ' (env.Bm+j) (by show env.Bm+j<env.Bm+U;omega) AC]
      grind
    .show assoc (OG (Gp env.tmps all vs bs) o.dst v) t=assoc (Gp env.tmps all vs (bs.set i true)) t
     rw [DY]
     split
     .rename_i hd
      rw [KI (l:=all) (bs:=bs.set i true),hv]
      refine (O3 (j:=i) (o:=o) ?_ hvi kw hd λk p hk hp=>DO.dst k i p o t hp ?_ hk hd).symm
      .simp_all
      simp_all
     .rename_i hd
      refine agreeT λj p hjk hp hdp=>?_
      by_cases hij:i=j
      .grind
      simp_all
    .show assoc (p8 (Kb xs bs env.boxes) x) id=assoc (Kb xs (bs.set i true) env.boxes) id
     rw [M4]
     have ag:∀id',(∀p,x=some p->p.1≠id')->assoc (Kb xs bs env.boxes) id'=assoc (Kb xs (bs.set i true) env.boxes) id':=λid' hne=>by
      refine Y6 hU λj p hj hp=>?_
      by_cases hij:i=j
      .grind
      simp_all
     cases x with
     |none=>simp_all
     |some p=>
      obtain ⟨i',cs⟩:=p
      show (if i'=id then some cs else assoc (Kb xs bs env.boxes) id)=_
      by_cases he:i'=id
      .subst he
       rw [if_pos rfl,O2 hxi kw λk p hk hp=>hU k i p (i',cs) hp hxi hk]
      simp_all
theorem G7 {e:Env} {all:List Oper}:∀{l:List Oper},Bp e all l<=l.length
 |[]=>Nat.le_refl _
 |o::r=>by
  rw [Bp]
  cases Gd e all o with
  |true=>simp only [cond_true,List.length_cons];exact Nat.succ_le_succ G7
  |false=>simp
theorem IW {e:Env} {all:List Oper}:∀{l:List Oper} {i:Nat} {o:Oper},i<Bp e all l->l[i]? =some o->Gd e all o=true
 |[],i,o,h,q=>by cases q
 |p::r,i,o,h,q=>by
  rw [Bp] at h
  cases U:Gd e all p with
  |false=>simp_all
  |true=>
   rw [U] at h
   cases i with
   |zero=>simp_all
   |succ i=>exact IW (by simpa using h) kw
theorem tA {E:Env} {p:Nat×List V} (h:HF T C all b1 U st o E n v (some p)):
 p.1=n\/∃t q y off cs,o.op=.store t q y/\E.eval q=.BO p.1 off/\assoc b1 p.1=some cs:=by
 rcases Hw h with ⟨h,_⟩|⟨⟨_,h⟩,_⟩
 .unfold HY at h
  grind
 grind
theorem PN (hT:Gj P T) (hC:∀f args st R,C f args st R->CB P f args st R/\Plain P f) (hM:∀f args st (R R':AA->St->Prop),(∀r s,R r s->R' r s)->C f args st R->C f args st R')
 (hd:(JW (Bp env all all) all&&HT (GA env all all))=true)
 (h:HO T C all Q env env.boxes (Bg (GA env all all) env.boxes) all env st) (hr:Rel D I0 st0 w0 I β env st a w):
 wpAny P .any all.toArray (B6 D I0 st0 w0 Q) all.toArray.size (Array.replicate all.toArray.size false) a {w with drawn:=w.drawn+1}:=by
 simp only [Bool.and_eq_true] at hd
 have DO:=Pk.of hd.1
 obtain ⟨vs,xs,h1,h2,h3,h4,h5⟩:=Vj h
 have hr:=hr.IV (FL.drew w)
 have hfl:∀j,(Array.replicate all.toArray.size false).getD j false=false:=λj=>by
  rw [Nj];grind
 have hbn:∀id cs,assoc env.boxes id=some cs->id<env.Bm:=λid cs e=>by
  obtain ⟨b,hb,_⟩:=hr.f.box id cs e
  exact hr.f.Bm id b hb
 have hid:∀(i:Nat) (p:Nat×List V),xs[i]? =some (some p)->p.1=env.Bm+i\/((GA env all all)[i]? =some (some p.1)/\p.1<env.Bm):=by
  intro i p hp
  have hi:i<Bp env all all:=by rw [<-h2];exact (List.getElem?_eq_some_iff.1 hp).1
  have hia:i<all.length:=Nat.lt_of_lt_of_le hi G7
  have ho:all[i]? =some all[i]:=List.getElem?_eq_getElem hia
  have hvi:vs[i]? =some (vs[i]'(by omega)):=List.getElem?_eq_getElem AC
  rcases tA (h3 i _ _ _ hi ho hvi hp) with e|⟨t,q,y,off,cs,e1,e2,e3⟩
  .omega
  .right
   refine ⟨?_,hbn _ _ e3⟩
   rw [Qb hi ho]
   have hk:=IW hi ho
   unfold Gd at hk
   rw [e1] at hk
   cases q with
   |tmp x=>
    simp only [Bool.and_eq_true,Bool.not_eq_true',List.any_eq_false,beq_iff_eq] at hk
    have hx:assoc (Gp env.tmps all vs (List.replicate i true)) x=assoc env.tmps x:=Iq λj o' hj _ e=>hk.1 o' (List.mem_of_getElem? hj) e
    have e2:env.eval (.tmp x)=.BO p.1 off:=by
     have U:Env.get (Ry env (env.Bm+i) all vs xs (List.replicate i true)) x=.BO p.1 off:=e2
     unfold Env.get Ry at U
     simp only [hx] at U
     exact U
    unfold sD
    simp_all
   |_=>cases hk
 have hU:XN xs:=by
  intro i j p q hp hq hij e
  rcases hid i p hp with g1|⟨g1,l1⟩<;>rcases hid j q hq with g2|⟨g2,l2⟩
  .omega
  .omega
  .omega
  .rw [<-e] at g2;exact hij (J9 hd.2 g1 g2)
 refine Yt (env:=env) (eh:=env) (L:=GA env all all) (bs:=List.replicate (Bp env all all) false) hT hC hM DO h1 h2 G7 hid hU hbn (λi o hi ho=>IW hi ho) h3 h4 h5 _ _ _ β _ _ GT ?_ (by have:=G7 (e:=env) (all:=all) (l:=all);grind) (λi o ho hi=>?_) (λj hj=>?_)
  ((hr.tN (n:=env.Bm+Bp env all all) (Nat.le_add_right _ _)).same ⟨λt=>?_,λid=>?_,rfl,rfl⟩)
 .have:=G7 (e:=env) (all:=all) (l:=all)
  simp_all
 .simp_all
 .cases hb:β (env.Bm+j) with
  |none=>rfl
  |some b=>have:=hr.f.Bm _ b hb;omega
 .refine (Iq λj o ho hb=>?_).symm
  grind
 .refine (Hc λj p hp hb=>?_).symm
  grind
end
section
variable {D:List Deferred} {P:Program} {T:List (Nat×Ty)} {C:FuncId->List V->St->(AA->St->Prop)->Prop} {I0 I:Mem} {st0 st:St} {w0 w:World} {β:Nat->Option Nat} {env:Env} {a:Act}
theorem LQ (hT:Gj P T) (hC:∀f args st R,C f args st R->CB P f args st R/\Plain P f) (hi:all[i]? =some o) {K:Env->St->Prop} {next:Act->World->Prop}
 (hn:∀{I β env st a w},Rel D I0 st0 w0 I β env st a w->K env st->next a w) (h:Rel D I0 st0 w0 I β env st a w)
 (k:Bf all o env (FI T C o env st (λv env st=>env.go o.dst v λenv=>K env st) Q) (env.go o.dst (.Bz []) λenv=>K env st)):
 wpOp P all.toArray (B6 D I0 st0 w0 Q) i next a w:=by
 have yes:FI T C o env st (λv env st=>env.go o.dst v λenv=>K env st) Q->o.wp P a w next (B6 D I0 st0 w0 Q):=by
  intro k
  refine MA hT hC (λI β env st v c w h hv _ k=>?_) h k
  obtain ⟨env',h1,h2⟩:=B9 h hv k
  exact hn h1 h2
 have no:(env.go o.dst (.Bz []) λenv=>K env st)->next (a.put o.dst undef) w:=by
  intro k
  obtain ⟨env',h1,h2⟩:=B9 h (c:=undef) (AZ.of (v:=.Bz []) (by simp only [AK];exact ⟨[],rfl,H1⟩)) k
  exact hn h1 h2
 unfold wpOp
 have hi':all.toArray[i]? =some o:=by simpa using hi
 simp only [hi']
 unfold Bf at k
 cases U:o.guard with
 |none=>
  rw [U] at k
  rw [if_pos (by simp [Region.wanted,U])]
  simp_all
 |some g=>
  obtain ⟨j,want⟩:=g
  rw [U] at k
  simp only at k
  split at k
  .rename_i b hb
   have hy:=Jw h hb
   have hw:Region.wanted o (yielded all.toArray a.tmps)=(b==want):=by
    simp only [Region.wanted,U,hy]
    cases b<;>cases want<;>rfl
   cases want<;>cases b<;>simp only [cond_true,cond_false,lit] at k
   .simp_all
   .simp_all
   .simp_all
   simp_all
  .rename_i hb
   have hy:=HE h hb
   rw [if_neg (by simp only [Region.wanted,U,hy];simp_all)]
   grind
  simp_all
def Bx (all:List Oper) (bs:List Bool) (i:Nat):Bool:=
 !(bs.getD i true)&&(match all[i]? with|some o=>o.after.toList.all (λe=> !(Region.binds .any e)||bs.getD e.on false)|none=>false)
theorem Es {listed:Array Bool} (hl:listed.toList=bs) (hb:bs.length=all.length):i ∈ Region.ready .any all.toArray listed↔i<all.length/\Bx all bs i=true:=by
 have U:∀j d,listed.getD j d=bs.getD j d:=λj d=>by rw [Nj,hl,List.getD_eq_getElem?_getD]
 rw [mem_ready]
 unfold Bx
 grind
theorem ZL (hT:Gj P T) (hC:∀f args st R,C f args st R->CB P f args st R/\Plain P f) {Inv:List Bool->Env->St->Prop}
 (step:∀(bs:List Bool) (env:Env) (st:St) (i:Nat) (o:Oper),bs.length=all.length->Inv bs env st->all[i]? =some o->Bx all bs i=true->
   Bf all o env (FI T C o env st (λv env' st'=>env'.go o.dst v λU=>Inv (bs.set i true) U st') Q) (env.go o.dst (.Bz []) λenv'=>Inv (bs.set i true) env' st))
 (live:∀(bs:List Bool) (env:Env) (st:St),bs.length=all.length->Inv bs env st->bs=List.replicate all.length true\/∃j,j<all.length/\Bx all bs j=true)
 (fin:∀(env:Env) (st:St),Inv (List.replicate all.length true) env st->∃env',env.eqv env'/\Q .normal env' st):
 ∀(fuel:Nat) (bs:List Bool) (listed:Array Bool) (I:Mem) (β:Nat->Option Nat) (env:Env) (st:St) (a:Act) (w:World),bs.length=all.length->listed.toList=bs->bs.count false<=fuel->
  Inv bs env st->Rel D I0 st0 w0 I β env st a w->wpAny P .any all.toArray (B6 D I0 st0 w0 Q) fuel listed a w:=by
 have full:∀{bs:List Bool},bs.length=all.length->bs.count false=0->bs=List.replicate all.length true:=λ{bs} hb h0=>by
  rw [List.eq_replicate_iff]
  grind
 have noready:∀{j:Nat},Bx all (List.replicate all.length true) j=true->j<all.length->False:=λ{j} h hj=>by
  unfold Bx at h
  simp_all
 have done:∀{I β env st a w},Inv (List.replicate all.length true) env st->Rel D I0 st0 w0 I β env st a w->B6 D I0 st0 w0 Q .normal a w:=λhi h=>by
  obtain ⟨env',h1,h2⟩:=fin _ _ hi
  exact ⟨_,_,env',_,.normal,h.same h1,trivial,h2⟩
 intro fuel
 induction fuel with
 |zero=>
  intro bs listed I β env st a w hb hl hf hi h
  have:=full hb AC
  subst this
  refine ⟨?_,done hi h⟩
  rw [List.eq_nil_iff_forall_not_mem]
  intro j hj
  obtain ⟨h1,h2⟩:=(Es hl hb).1 hj
  grind
 |succ fuel ih=>
  intro bs listed I β env st a w hb hl hf hinv h
  refine ⟨λh0=>?_,λi hi=>?_⟩
  .rcases live bs env st hb hinv with rfl|⟨j,h1,h2⟩
   .grind
   .have:=(Es hl hb).2 ⟨h1,h2⟩
    simp_all
  .obtain ⟨h1,h2⟩:=(Es hl hb).1 hi
   have ho:all[i]? =some all[i]:=List.getElem?_eq_getElem h1
   refine LQ hT hC (Q:=Q) ho (λ{I β env st a w} h k=>?_) h (step bs env st i _ hb hinv ho h2) (K:=λenv st=>Inv (bs.set i true) env st)
   have hbi:i<bs.length:=AC
   refine ih (bs.set i true) _ I β env st a w kw (by simp [hl]) ?_ k h
   have:=List.count_set (a:=true) (i:=i) (l:=bs) (b:=false) hbi
   unfold Bx at h2
   simp_all
def writer (all:List Oper) (t:Nat):Option Nat:=(List.range all.length).find? λj=>match all[j]? with|some o=>o.dst==some t|none=>false
theorem Ov {t:Nat} (h:writer all t=some j):∃o,all[j]? =some o/\o.dst=some t:=by
 have:=List.find?_some h
 grind
theorem XL {t:Nat} (h:writer all t=none) (j:Nat) (o:Oper) (U:all[j]? =some o):o.dst≠some t:=by
 have:=List.find?_eq_none.1 h j (List.mem_range.2 (List.getElem?_eq_some_iff.1 U).1)
 simp_all
theorem eY (U:M0 all) {t:Nat} (ho:all[j]? =some o) (hd:o.dst=some t):writer all t=some j:=by
 cases h:writer all t with
 |none=>exact absurd hd (XL h j o ho)
 |some k=>
  obtain ⟨p,h1,h2⟩:=Ov h
  by_cases e:j=k
  .rw [e]
  .exact absurd hd (U j k o p t ho h1 e h2)
noncomputable def Gi (all:List Oper) (ts:List (Nat×V)) (vs:Nat->V) (S:Nat->Bool) (t:Nat):Option V:=match writer all t with
 |some j=>if S j=true then some (vs j) else assoc ts t
 |none=>assoc ts t
theorem CN {ts:List (Nat×V)} {vs U:Nat->V} {S S':Nat->Bool} {t:Nat} (h:∀j o,all[j]? =some o->o.dst=some t->S j=S' j/\(S j=true->vs j=U j)):Gi all ts vs S t=Gi all ts U S' t:=by
 unfold Gi
 cases hw:writer all t with
 |none=>rfl
 |some j=>
  obtain ⟨o,h1,h2⟩:=Ov hw
  simp_all
def NK (vs:Nat->V) (i:Nat) (v:V):Nat->V:=λj=>if j=i then v else vs j
theorem FY (U:M0 all) {ts:List (Nat×V)} {vs:Nat->V} {S S':Nat->Bool} {l:List (Nat×V)} (ho:all[i]? =some o) (hl:∀t,assoc l t=Gi all ts vs S t) (hS:∀j,j≠i->S' j=S j) (hi:S' i=true) (t:Nat):
 assoc (OG l o.dst v) t=Gi all ts (NK vs i v) S' t:=by
 rw [DY]
 split
 .rename_i hd
  unfold Gi
  rw [eY U ho hd]
  simp [hi,NK]
 .rename_i hd
  rw [hl]
  refine CN λj p hp hpd=>?_
  have hne:j≠i:=λe=>by simp_all
  exact ⟨(hS j hne).symm,λ_=>by simp [NK,hne]⟩
structure Pm (all:List Oper) (sched:List (Nat×Bool)):Prop where
 back:∀pre i q r o,sched=pre++(i,q)::r->all[i]? =some o->∀e ∈ o.after,Region.binds .any e=true->e.on ∈ pre.map (·.1)
 kind:∀pre i q r,sched=pre++(i,q)::r->∃o,all[i]? =some o/\(bif q then ET o.op else (BL o.op||CZ o.op))=true
 nodup:∀pre i q r,sched=pre++(i,q)::r->i ∉ pre.map (·.1)
 chain:∀pre i r,sched=pre++(i,false)::r->∀x ∈ r,reaches all all.length x.1 i=true
 cover:∀i,i<all.length->i ∈ sched.map (·.1)
 dst:M0 all
 lo:∀(i j:Nat) (o p:Oper) (t:Nat),all[i]? =some o->all[j]? =some p->p.dst=some t->t ∈ Oper.B7 all o->j<i->reaches all all.length i j=true
 hi:∀(i j:Nat) (o p:Oper) (t:Nat),all[i]? =some o->all[j]? =some p->p.dst=some t->t ∈ Oper.B7 all o->i<j->reaches all all.length j i=true
theorem YP (all:List Oper) (p:Nat×Bool) (r:List (Nat×Bool)) (done:List Nat):aJ all (p::r) done=((match all[p.1]? with
 |some o=>(o.after.toList.all λe=> !(Region.binds .any e)||done.contains e.on)&&(bif p.2 then ET o.op else (BL o.op||CZ o.op))
 |none=>false)&&(!(done.contains p.1)&&((p.2||r.all λx=>reaches all all.length x.1 p.1)&&aJ all r (p.1::done)))):=rfl
theorem VG {all:List Oper}:∀{l:List (Nat×Bool)} {done:List Nat},aJ all l done=true->∀pre i q r,l=pre++(i,q)::r->
 ∃o,all[i]? =some o/\(∀e ∈ o.after,Region.binds .any e=true->e.on ∈ done\/e.on ∈ pre.map (·.1))/\(bif q then ET o.op else (BL o.op||CZ o.op))=true/\(i ∉ done/\i ∉ pre.map (·.1))/\(q=true\/∀x ∈ r,reaches all all.length x.1 i=true)
 |[],_,_,pre,i,q,r,e=>by simp_all
 |(k,b)::l,done,h,pre,i,q,r,e=>by
  rw [YP] at h
  simp only [Bool.and_eq_true] at h
  obtain ⟨h1,h2,h3,U⟩:=h
  cases pre with
  |nil=>
   grind
  |cons p pre=>
   simp only [List.cons_append,List.cons.injEq] at e
   obtain ⟨rfl,rfl⟩:=e
   obtain ⟨o,k1,k2,k3,⟨k4,k5⟩,k6⟩:=VG U pre i q r rfl
   grind
theorem Pm.of (h:JE sched all=true):Pm all sched:=by
 unfold JE at h
 simp only [Bool.and_eq_true,List.all_eq_true,List.mem_range,List.any_eq_true] at h
 obtain ⟨h1,h2,h3⟩:=h
 have hat:=VG h2
 have lt:∀{i:Nat} {o:Oper},all[i]? =some o->i<all.length:=λe=>(List.getElem?_eq_some_iff.1 e).1
 have pair:∀(i j:Nat) (o p:Oper),all[i]? =some o->all[j]? =some p->i≠j->LD all i j o p=true:=by
  intro i j o p e1 e2 hij
  have:=h3 i (lt e1) j (lt e2)
  rw [e1,e2] at this
  simp only [Bool.or_eq_true] at this
  rcases this with g|g
  .simp_all
  .exact g
 have U:∀(i j:Nat) (o p:Oper) (t:Nat),all[i]? =some o->all[j]? =some p->i≠j->p.dst=some t->(o.dst≠some t)/\(t ∈ Oper.B7 all o->(if Nat.blt j i then reaches all all.length i j else reaches all all.length j i)=true):=by
  intro i j o p t e1 e2 hij ht
  have:=pair i j o p e1 e2 hij
  simp only [LD,ht,Bool.and_eq_true,Bool.or_eq_true,Bool.not_eq_true',beq_eq_false_iff_ne] at this
  refine ⟨this.1,λhm=>?_⟩
  rcases this.2 with g|g
  .simp_all
  .exact g
 have nod:∀pre i q r,sched=pre++(i,q)::r->i ∉ pre.map (·.1):=λpre i q r e=>by grind
 refine ⟨λpre i q r o e ho x hx hb=>?_,λpre i q r e=>?_,nod,λpre i r e x hx=>?_,λi hi=>?_,λi j o p t e1 e2 hij ht=>(U i j o p t e1 e2 hij ht).1,λi j o p t e1 e2 ht hm hlt=>?_,λi j o p t e1 e2 ht hm hlt=>?_⟩
 .grind
 .grind
 .grind
 .simp_all
 .have:=(U i j o p t e1 e2 AC ht).2 hm
  simp_all
 .have:=(U i j o p t e1 e2 AC ht).2 hm
  rw [if_neg (by rw [Nat.blt_eq];omega)] at this
  omega
theorem Pm.ahead {all:List Oper} {sched:List (Nat×Bool)} (M:Pm all sched):∀(n:Nat) {i j:Nat},reaches all n i j=true->∀pre q r,sched=pre++(i,q)::r->j ∈ pre.map (·.1)
 |0,i,j,h,pre,q,r,e=>by cases h
 |n+1,i,j,h,pre,q,r,e=>by
  obtain ⟨o,ho,_⟩:=M.kind pre i q r e
  rw [reaches,ho] at h
  simp only [Bool.or_eq_true,List.any_eq_true,Bool.and_eq_true] at h
  rcases h with ⟨x,h1,U,h3⟩|⟨x,h1,⟨U,h3⟩,h4⟩
  .have:=Nat.eq_of_beq_eq_true h3
   subst this
   exact M.back pre i q r o e ho x kw U
  .have hm:=M.back pre i q r o e ho x kw U
   obtain ⟨p,hp,hpe⟩:=List.mem_map.1 hm
   obtain ⟨C1,r1,e1⟩:=List.append_of_mem hp
   have:=M.ahead n h4 C1 p.2 (r1++(i,q)::r) (by grind)
   simp_all
end
section
variable {D:List Deferred} {P:Program} {T:List (Nat×Ty)} {C:FuncId->List V->St->(AA->St->Prop)->Prop} {I0 I:Mem} {st0 st:St} {w0 w:World} {β:Nat->Option Nat} {env:Env} {a:Act}
theorem N2 {K:Env->Prop} (h:∀t,d=some t->t<env.sz) (k:K {env with tmps:=OG env.tmps d v}):env.go d v K:=by
 cases d with
 |none=>exact k
 |some t=>exact AQ kw k
theorem JY (h:G2 S all i=true):FZ S all i=true:=by
 unfold G2 at h
 unfold FZ
 simp_all
def uj (T:List (Nat×Ty)) (C:FuncId->List V->St->(AA->St->Prop)->Prop) (all:List Oper) (S:List (Nat×Bool)) (sti:St) (b0:List (Nat×List V)) (U:Env) (vs:Nat->V) (pre:List (Nat×Bool)) (j:Nat) (o:Oper):Prop:=
 (∀t,o.dst=some t->t<U.sz)/\∀e:Env,(∀t ∈ Oper.B7 all o,assoc e.tmps t=Gi all U.tmps vs (λk=>decide (k ∈ pre.map (·.1))) t)->e.Bm=U.Bm->e.sz=U.sz->e.gl=U.gl->
   Bf all o e (Bi T C all o b0 e JF (vs j)\/(G2 S all j=true/\Bi T C all o U.boxes e sti (vs j))\/(FZ S all j=true/\Bi T C all o U.boxes e JF (vs j))) (vs j=.Bz [])
structure MF (T:List (Nat×Ty)) (C:FuncId->List V->St->(AA->St->Prop)->Prop) (all:List Oper) (sched:List (Nat×Bool)) (sti:St) (L:List Nat) (b0:List (Nat×List V)) (Q:AH->Env->St->Prop) (E0:Env)
 (vs:Nat->V) (pre post:List (Nat×Bool)) (Ef:Env) (bs:List Bool) (e:Env) (st:St):Prop where
 split:sched=pre++post
 sub:∀j,bs.getD j false=true->j ∈ pre.map (·.1)
 gK:∀j,(j,false) ∈ pre->bs.getD j false=true
 boxes:Ef.boxes=e.boxes
 n1:Ef.Bm=E0.Bm
 n2:e.Bm=E0.Bm
 s1:Ef.sz=E0.sz
 s2:e.sz=E0.sz
 g1:Ef.gl=E0.gl
 g2:e.gl=E0.gl
 tm:∀t,assoc e.tmps t=Gi all E0.tmps vs (λj=>bs.getD j false) t
 tf:∀t,assoc Ef.tmps t=Gi all E0.tmps vs (λk=>decide (k ∈ pre.map (·.1))) t
 bx:∀id cs,assoc b0 id=some cs->assoc e.boxes id=some cs
 go:Fv T C all sched L b0 Q post Ef st
 sU:(∀k,(k,false) ∉ pre)->st=sti
 nJ:(∀k o,(k,false) ∈ pre->all[k]? =some o->CZ o.op=false)->e.boxes=E0.boxes
 hy:∀C1 j r o,pre=C1++(j,true)::r->all[j]? =some o->uj T C all sched sti b0 E0 vs C1 j o
 cl:∀i o,all[i]? =some o->bs.getD i false=true->∀x ∈ o.after,Region.binds .any x=true->bs.getD x.on false=true
def KY (T:List (Nat×Ty)) (C:FuncId->List V->St->(AA->St->Prop)->Prop) (all:List Oper) (sched:List (Nat×Bool)) (U:St) (L:List Nat) (b0:List (Nat×List V)) (Q:AH->Env->St->Prop) (E0:Env) (bs:List Bool) (e:Env) (st:St):Prop:=
 ∃vs pre post Ef,MF T C all sched U L b0 Q E0 vs pre post Ef bs e st/\∀p r,post=p::r->p.2=false
theorem uj.NK {all:List Oper} {S:List (Nat×Bool)} {U:St} {b0:List (Nat×List V)} {E0:Env} {vs:Nat->V} {pre:List (Nat×Bool)} {j:Nat} {o:Oper} {i:Nat} {v:V} (h:uj T C all S U b0 E0 vs pre j o) (h1:i≠j) (h2:i ∉ pre.map (·.1)):uj T C all S U b0 E0 (NK vs i v) pre j o:=by
 refine ⟨h.1,λe he k1 k2 k3=>?_⟩
 have hj:Go.Aw.NK vs i v j=vs j:=if_neg (λe=>h1 e.symm)
 rw [hj]
 refine h.2 e (λt ht=>(he t ht).trans (CN λk p _ _=>⟨rfl,λhk=>?_⟩)) k1 k2 k3
 have hk:k ∈ pre.map (·.1):=of_decide_eq_true hk
 exact if_neg λ(e:k=i)=>h2 (e ▸ hk)
theorem LI {pre C1 r:List α} {x y:α} (h:pre++[x]=C1++y::r):(pre=C1/\x=y)\/∃U,pre=C1++y::U:=by
 rcases List.eq_nil_or_concat r with rfl|⟨U,z,rfl⟩
 .simp_all
 .rw [List.concat_eq_append,show C1++y::(U++[z])=(C1++y::U)++[z] by simp] at h
  have:=List.append_inj' h rfl
  simp_all
theorem J6 {all:List Oper} {sched:List (Nat×Bool)} (M:Pm all sched) {sti:St} {L:List Nat} {b0:List (Nat×List V)} {Q:AH->Env->St->Prop} {E0:Env} {bs:List Bool} {e:Env} {st:St}:
 ∀(post:List (Nat×Bool)) (vs:Nat->V) (pre:List (Nat×Bool)) (U:Env),MF T C all sched sti L b0 Q E0 vs pre post U bs e st->KY T C all sched sti L b0 Q E0 bs e st
 |[],vs,pre,U,h=>⟨vs,pre,[],U,h,λp r e=>by cases e⟩
 |(i,false)::r,vs,pre,U,h=>⟨vs,pre,_,U,h,λp r e=>by grind⟩
 |(i,true)::r,vs,pre,U,h=>by
  obtain ⟨o,ho,_⟩:=M.kind pre i true r h.split
  have hni:=M.nodup pre i true r h.split
  have hbi:bs.getD i false=false:=by
   cases hb:bs.getD i false with
   |false=>rfl
   |true=>exact absurd (h.sub i hb) hni
  have hgo:=h.go
  rw [LA] at hgo
  simp only [ho] at hgo
  have hst:G2 sched all i=true->st=sti:=λhe=>h.sU λk hk=>by
   unfold G2 at he
   have h1:=List.all_eq_true.1 he (k,false) (by rw [h.split];simp_all)
   simp only [Bool.false_or] at h1
   obtain ⟨pa,ra,ea⟩:=List.append_of_mem hk
   have h2:=M.ahead _ h1 pa false (ra++(i,true)::r) (by rw [h.split,ea];simp)
   simp_all
  have hbx:FZ sched all i=true->U.boxes=E0.boxes:=λhe=>h.boxes.trans (h.nJ λk ok hk hok=>by
   unfold FZ at he
   have h1:=List.all_eq_true.1 he (k,false) (by rw [h.split];simp_all)
   simp only [Bool.false_or,hok] at h1
   cases hst:CZ ok.op with
   |false=>rfl
   |true=>
    rw [hst] at h1
    simp only [Bool.not_true,Bool.false_or] at h1
    obtain ⟨pa,ra,ea⟩:=List.append_of_mem hk
    have h2:=M.ahead _ h1 pa false (ra++(i,true)::r) (by rw [h.split,ea];simp)
    simp_all)
  have hes:G2 sched all i=true->FZ sched all i=true:=JY
  have key:∃v,U.go o.dst v (λenv=>Fv T C all sched L b0 Q r env st)/\Bf all o U (Bi T C all o b0 U JF v\/(G2 sched all i=true/\Bi T C all o E0.boxes U sti v)\/(FZ sched all i=true/\Bi T C all o E0.boxes U JF v)) (v=.Bz []):=by
   rcases Hw hgo with ⟨⟨v,k1,k2⟩,k3⟩|⟨k1,k3⟩
   .exact ⟨v,V.MB.1 k2,k3 _ _ (k1.imp id λy=>y.imp (λy=>⟨y.1,kw⟩) λy=>⟨y.1,kw⟩)⟩
   .grind
  obtain ⟨v,k1,k2⟩:=key
  obtain ⟨hd,k1⟩:=G5 k1
  have hmem:∀k,k≠i->(k ∈ (pre++[(i,true)]).map (·.1)↔k ∈ pre.map (·.1)):=λk hk=>by
   simp [hk]
  refine J6 M r (NK vs i v) (pre++[(i,true)]) {U with tmps:=OG U.tmps o.dst v} ⟨by rw [h.split];simp,λj hj=>?_,λj hj=>?_,h.boxes,h.n1,h.n2,h.s1,h.s2,h.g1,h.g2,λt=>?_,λt=>?_,h.bx,k1,λhk=>h.sU λk hm=>hk k (List.mem_append_left _ hm),λhk=>h.nJ λk o hm ho=>hk k o (List.mem_append_left _ hm) ho,λC1 j r' o' hs ho'=>?_,h.cl⟩
  .rw [List.map_append];exact List.mem_append_left _ (h.sub j hj)
  .rcases List.mem_append.1 hj with g|g
   .exact h.gK j g
   .simp at g
  .rw [h.tm]
   refine CN λk p hk _=>⟨rfl,λhb=>?_⟩
   have:k≠i:=λe=>by simp_all
   exact (if_neg this).symm
  .exact FY (S':=λk=>decide (k ∈ (pre++[(i,true)]).map (·.1))) M.dst ho h.tf (λj hj=>by simp_all) GT t
  .rcases LI hs with ⟨rfl,e2⟩|⟨r2,e2⟩
   .cases e2
    rw [ho] at ho'
    cases ho'
    refine ⟨λt ht=>by rw [<-h.s1];simp_all,λe' he q1 q2 q3=>?_⟩
    have hv:NK vs i v i=v:=if_pos rfl
    rw [hv]
    have ag:∀t ∈ Oper.B7 all o,assoc U.tmps t=assoc e'.tmps t:=λt ht=>by
     rw [he t ht,h.tf t]
     refine CN λk p _ _=>⟨rfl,λhk=>?_⟩
     have hk:k ∈ pre.map (·.1):=of_decide_eq_true hk
     exact (if_neg λ(e:k=i)=>hni (e ▸ hk)).symm
    have:=F6 ag k2
    refine Fs (λx=>?_) (λx=>x) this
    unfold Bi at x |-
    rw [<-aT (bs:=b0) (e:=U) (e':=e') ag (by rw [h.n1,q1]) (by rw [h.s1,q2]) (by rw [h.g1,q3]),<-aT (bs:=E0.boxes) (e:=U) (e':=e') ag (by rw [h.n1,q1]) (by rw [h.s1,q2]) (by rw [h.g1,q3])]
    exact x
   .have hj:=h.hy C1 j r2 o' e2 ho'
    refine hj.NK (λe=>?_) (λhm=>hni ?_)
    .simp_all
    simp_all
theorem Kj {x y:Operand} (ho:o.op=.store t x y) {st:St} {e:Env} {L:List Nat} {K K':V->Env->St->Prop} {Q':AH->Env->St->Prop} (hL:Iv L e o=true)
 (he:∀x ∈ o.op.operands.toList,e.eval x=e'.eval x) (hb:e.boxes=e'.boxes) (hn:e.Bm=e'.Bm) (hs:e.sz=e'.sz) (hg:e.gl=e'.gl)
 (hK:∀s B,(∀id cs,id ∉ L->assoc e.boxes id=some cs->assoc B id=some cs)->K .BT {e with boxes:=B} s->K' .BT {e' with boxes:=B} s):FI T C o e st K Q->FI T C o e' st K' Q':=by
 have hx:e.eval x=e'.eval x:=he x (by rw [ho];simp [Op.operands])
 have hy:e.Bq T t y=e'.Bq T t y:=Co (he y (by rw [ho];simp [Op.operands]))
 unfold Iv at hL
 rw [ho] at hL
 simp only at hL
 simp only [FI,ho]
 rw [<-hx]
 obtain ⟨ts,bs,n,sz,gl⟩:=e
 obtain ⟨ts',bs',n',sz',gl'⟩:=e'
 simp only at hb hn hs hg hL
 subst hb;subst hn;subst hs;subst hg
 split
 .rename_i id off hev
  rw [hev] at hL
  split
  .rename_i cs ty h1 h2
   have h1:assoc bs id=some cs:=h1
   simp only [h1,h2]
   rw [<-hy]
   intro k
   have k:=V.AB.1 k
   obtain ⟨k1,k⟩:=Ao.1 k
   obtain ⟨k2,U,k3,k⟩:=Ki k
   refine V.AB.2 ?_
   refine AQ k1 ?_
   unfold Ez
   refine AQ U (AQ kw (AQ k3 (Bh.2 ?_)))
   refine hK st _ (λid' cs' h3 h4=>?_) k
   rw [Bj]
   have:Nat.beq id id'=false:=fL λe=>by simp_all
   simp_all
  simp_all
 .split
  .rename_i ty h2
   rw [<-hy]
   rintro ⟨cs,h1,k⟩
   refine ⟨cs,h1,?_⟩
   have k:=V.AB.1 k
   obtain ⟨k1,k⟩:=Ao.1 k
   obtain ⟨k2,U,k3,k⟩:=Ki k
   refine V.AB.2 ?_
   refine AQ k1 ?_
   unfold Ez
   refine AQ U (AQ kw (AQ k3 (Bh.2 ?_)))
   simp_all
  simp_all
 grind
theorem EN (hi:i<bs.length):(bs.set i true).getD j false=if j=i then true else bs.getD j false:=by grind
theorem Sd (hT:Gj P T) (hC:∀f args st R,C f args st R->CB P f args st R/\Plain P f) (hM:∀f args st (R R':AA->St->Prop),(∀r s,R r s->R' r s)->C f args st R->C f args st R')
 {L:List Nat} (hm:JE sched all=true)
 (h:Fv T C all sched L (Bg (L.map some) env.boxes) Q sched env st) (hr:Rel D I0 st0 w0 I β env st a w):
 wpAny P .any all.toArray (B6 D I0 st0 w0 Q) all.toArray.size (Array.replicate all.toArray.size false) a {w with drawn:=w.drawn+1}:=by
 have M:=Pm.of hm
 have hr:=hr.IV (FL.drew w)
 have hb0:∀id cs,assoc (Bg (L.map some) env.boxes) id=some cs->assoc env.boxes id=some cs/\id ∉ L:=λid cs e=>by
  obtain ⟨h1,h2⟩:=G0 e
  simp_all
 have hget:∀bs:List Bool,∀j,j<bs.length->bs.getD j true=bs.getD j false:=λbs j hj=>by simp_all
 have ready:∀{bs:List Bool} {i:Nat} {o:Oper},all[i]? =some o->bs.length=all.length->Bx all bs i=true->bs.getD i false=false/\∀x ∈ o.after,Region.binds .any x=true->bs.getD x.on false=true:=by
  intro bs i o ho hb hrd
  have hi:i<bs.length:=by rw [hb];exact (List.getElem?_eq_some_iff.1 ho).1
  unfold Bx at hrd
  rw [ho,hget bs i hi] at hrd
  simp only [Bool.and_eq_true,Bool.not_eq_true',List.all_eq_true] at hrd
  refine ⟨hrd.1,λx hx hb=>?_⟩
  have:=hrd.2 x kw
  rw [hb] at this
  simpa using this
 have listed:∀{bs:List Bool},(∀i o,all[i]? =some o->bs.getD i false=true->∀x ∈ o.after,Region.binds .any x=true->bs.getD x.on false=true)->
  ∀(n:Nat) {i j:Nat} {o:Oper},reaches all n i j=true->all[i]? =some o->(∀x ∈ o.after,Region.binds .any x=true->bs.getD x.on false=true)->bs.getD j false=true:=by
  intro bs cl n
  induction n with
  |zero=>intro i j o h;cases h
  |succ n ih=>
   intro i j o h ho ha
   rw [reaches,ho] at h
   simp only [Bool.or_eq_true,List.any_eq_true,Bool.and_eq_true] at h
   rcases h with ⟨x,h1,h2,h3⟩|⟨x,h1,⟨h2,h3⟩,h4⟩
   .have:=Nat.eq_of_beq_eq_true h3
    grind
   .have hx:=ha x kw h2
    cases hp:all[x.on]? with
    |none=>
     cases n with
     |zero=>cases h4
     |succ n=>rw [reaches,hp] at h4;cases h4
    |some p=>grind
 refine ZL hT hC (Inv:=KY T C all sched st L (Bg (L.map some) env.boxes) Q env) ?_ ?_ ?_ _ (List.replicate all.length false) _ _ β env st _ _ GT GT GT ?_ hr
 .intro bs e st1 i o hbl hinv ho hrd
  obtain ⟨vs,pre,post,Ef,F,hh⟩:=hinv
  obtain ⟨hbi,haft⟩:=ready ho hbl hrd
  have hil:i<bs.length:=by rw [hbl];exact (List.getElem?_eq_some_iff.1 ho).1
  have B7:∀{C1:List (Nat×Bool)} {q:Bool} {r:List (Nat×Bool)},sched=C1++(i,q)::r->∀t ∈ Oper.B7 all o,assoc e.tmps t=Gi all env.tmps vs (λk=>decide (k ∈ C1.map (·.1))) t:=by
   intro C1 q r hs t ht
   rw [F.tm]
   refine CN λk p hk hd=>⟨?_,λ_=>rfl⟩
   rcases Nat.lt_trichotomy k i with hki|rfl|hki
   .have h1:=M.lo i k o p t ho hk hd ht hki
    have h2:=listed F.cl _ h1 ho haft
    have h3:=M.ahead _ h1 _ _ _ hs
    grind
   .show bs.getD k false=decide (k ∈ C1.map (·.1))
    rw [hbi,decide_eq_false (M.nodup _ _ _ _ hs)]
   .have h1:=M.hi i k o p t ho hk hd ht hki
    show bs.getD k false=decide (k ∈ C1.map (·.1))
    have h2:bs.getD k false=false:=by
     cases hb:bs.getD k false with
     |false=>rfl
     |true=>have:=listed F.cl _ h1 hk (F.cl k p hk hb);grind
    have h3:k ∉ C1.map (·.1):=λhm=>by
     obtain ⟨x,hx,hxe⟩:=List.mem_map.1 hm
     obtain ⟨pa,ra,ea⟩:=List.append_of_mem hx
     have h4:=M.ahead _ h1 pa x.2 (ra++(i,q)::r) (by grind)
     exact M.nodup _ _ _ _ hs (by grind)
    grind
  have cl':∀k p,all[k]? =some p->(bs.set i true).getD k false=true->∀x ∈ p.after,Region.binds .any x=true->(bs.set i true).getD x.on false=true:=by
   intro k p hp hk x hx hb
   rw [EN hil] at hk |-
   split
   .rfl
   .split at hk
    .grind
    .exact F.cl k p hp hk x hx hb
  by_cases hmem:i ∈ pre.map (·.1)
  . 
   obtain ⟨⟨i',q⟩,hx,rfl⟩:=List.mem_map.1 hmem
   obtain ⟨C1,r,epre⟩:=List.append_of_mem hx
   cases q with
   |false=>have:=F.gK _ hx;grind
   |true=>
    have hs:sched=C1++(i',true)::(r++post):=by rw [F.split,epre];simp
    obtain ⟨hd,hy⟩:=F.hy C1 i' r o epre ho
    have hy:=hy e (B7 hs) F.n2 F.s2 F.g2
    obtain ⟨o',ho',U⟩:=M.kind _ _ _ _ hs
    have ho2:all[i']? =some o:=ho
    rw [ho2] at ho'
    cases ho'
    have U:ET o.op=true:=U
    have hqk:BL o.op=true:=by
     revert U
     cases o.op<;>simp [ET,BL]
    have step:e.go o.dst (vs i') (λe'=>KY T C all sched st L (Bg (L.map some) env.boxes) Q env (bs.set i' true) e' st1):=by
     refine N2 (λt ht=>by rw [F.s2];grind) ⟨vs,pre,post,Ef,⟨F.split,λj hj=>?_,λj hj=>?_,F.boxes,F.n1,F.n2,F.s1,F.s2,F.g1,F.g2,λt=>?_,F.tf,F.bx,F.go,F.sU,F.nJ,F.hy,cl'⟩,hh⟩
     .rw [EN hil] at hj
      split at hj
      .grind
      .exact F.sub j hj
     .rw [EN hil]
      split
      .rfl
      .exact F.gK j hj
     .have:=FY (S:=λj=>bs.getD j false) (S':=λj=>(bs.set i' true).getD j false) (v:=vs i') M.dst ho F.tm (λj hj=>by grind) (by grind) t
      refine this.trans (CN λk p _ _=>⟨rfl,λ_=>?_⟩)
      unfold NK
      grind
    refine Fs (λx=>?_) (λx=>?_) hy
    .have hbx:FZ sched all i'=true->e.boxes=env.boxes:=λhe=>F.nJ λk ok hk hok=>by
      unfold FZ at he
      have h1:=List.all_eq_true.1 he (k,false) (by grind)
      simp only [Bool.false_or,hok] at h1
      cases hst:CZ ok.op with
      |false=>rfl
      |true=>
       rw [hst] at h1
       simp only [Bool.not_true,Bool.false_or] at h1
       have:=listed F.cl _ h1 hok (F.cl k ok hok (F.gK k hk))
       grind
     rcases x with x|⟨he,x⟩|⟨he,x⟩
     .unfold Bi at x
      refine CT (T:=T) (C:=C) (env:=e.only (Bg (L.map some) env.boxes) (Oper.B7 all o)) (env':=e) (st:=JF) (st':=st1) hM hqk (.inr ⟨U,λ_=>rfl⟩) (FW λt _=>rfl) F.bx (λv s s' g k=>?_) (λ_ _ k=>k.elim) x
      grind
     .have hini:st1=st:=F.sU λk hk=>by
       unfold G2 at he
       have h1:=List.all_eq_true.1 he (k,false) (by grind)
       simp only [Bool.false_or] at h1
       have h2:=F.gK k hk
       cases hp:all[k]? with
       |none=>
        grind
       |some p=>
        have:=listed F.cl _ h1 hp (F.cl k p hp h2)
        grind
      subst hini
      unfold Bi at x
      have hb:=hbx (JY he)
      refine CT (T:=T) (C:=C) (env:=e.only env.boxes (Oper.B7 all o)) (env':=e) (st:=st1) (st':=st1) hM hqk (.inl rfl) (FW λt _=>rfl) (λid cs h=>by rw [hb];exact h) (λv s s' g k=>?_) (λ_ _ k=>k.elim) x
      grind
     .unfold Bi at x
      have hb:=hbx he
      refine CT (T:=T) (C:=C) (env:=e.only env.boxes (Oper.B7 all o)) (env':=e) (st:=JF) (st':=st1) hM hqk (.inr ⟨U,λ_=>rfl⟩) (FW λt _=>rfl) (λid cs h=>by rw [hb];exact h) (λv s s' g k=>?_) (λ_ _ k=>k.elim) x
      grind
    grind
  . 
   obtain ⟨x,hx,rfl⟩:=List.mem_map.1 (M.cover i (List.getElem?_eq_some_iff.1 ho).1)
   rw [F.split] at hx
   have hxp:x ∈ post:=by
    rcases List.mem_append.1 hx with g|g
    .grind
    .exact g
   cases post with
   |nil=>cases hxp
   |cons p r=>
    obtain ⟨k,q⟩:=p
    have hq:q=false:=hh _ _ rfl
    subst hq
    have hxe:x=(k,false):=by
     rcases List.mem_cons.1 hxp with g|g
     .exact g
     .have h1:=M.chain pre k r F.split x g
      have h2:=listed F.cl _ h1 ho haft
      exact absurd (F.sub k h2) (M.nodup _ _ _ _ F.split)
    subst hxe
    have ho:all[k]? =some o:=ho
    have hbi:bs.getD k false=false:=hbi
    have hil:k<bs.length:=hil
    have hmem:k ∉ pre.map (·.1):=hmem
    have hgo:=F.go
    rw [LA] at hgo
    simp only [ho] at hgo
    have ag:∀t ∈ Oper.B7 all o,assoc Ef.tmps t=assoc e.tmps t:=λt ht=>by rw [F.tf,B7 F.split t ht]
    have hag:=G3 (all:=all) (o:=o) ag
    have next:∀(v:V) (s:St) (B:List (Nat×List V)),(∀id cs,assoc (Bg (L.map some) env.boxes) id=some cs->assoc B id=some cs)->(CZ o.op=false->B=e.boxes)->
     Env.go {Ef with boxes:=B} o.dst v (λenv'=>Fv T C all sched L (Bg (L.map some) env.boxes) Q r env' s)->
     Env.go {e with boxes:=B} o.dst v (λe'=>KY T C all sched st L (Bg (L.map some) env.boxes) Q env (bs.set k true) e' s):=by
     intro v s B hB hBe hk
     obtain ⟨hd,hk⟩:=G5 hk
     have hd:∀t,o.dst=some t->t<Ef.sz:=hd
     have hmp:∀j,j≠k->(j ∈ (pre++[(k,false)]).map (·.1)↔j ∈ pre.map (·.1)):=λj hj=>by simp [hj]
     refine N2 (λt ht=>by show t<e.sz;rw [F.s2,<-F.s1];grind) (J6 M r (NK vs k v) (pre++[(k,false)]) {Ef with boxes:=B,tmps:=OG Ef.tmps o.dst v} ⟨by rw [F.split];simp,λj hj=>?_,λj hj=>?_,rfl,F.n1,F.n2,F.s1,F.s2,F.g1,F.g2,λt=>?_,λt=>?_,hB,hk,λhk=>absurd (List.mem_append_right _ List.mem_cons_self) (hk k),λhk=>(hBe (hk k o (List.mem_append_right _ List.mem_cons_self) ho)).trans (F.nJ λk o hm ho=>hk k o (List.mem_append_left _ hm) ho),λC1 j r' o' hs ho'=>?_,cl'⟩)
     .rw [EN hil] at hj
      rw [List.map_append]
      split at hj
      .grind
      .exact List.mem_append_left _ (F.sub j hj)
     .rw [EN hil]
      split
      .rfl
      .rename_i hne
       rcases List.mem_append.1 hj with g|g
       .exact F.gK j g
       grind
     .exact FY (S:=λj=>bs.getD j false) (S':=λj=>(bs.set k true).getD j false) M.dst ho F.tm (λj hj=>by grind) (by grind) t
     .exact FY (S':=λj=>decide (j ∈ (pre++[(k,false)]).map (·.1))) M.dst ho F.tf (λj hj=>by grind) GT t
     .rcases LI hs with ⟨rfl,e2⟩|⟨r2,e2⟩
      .cases e2
      .have hj:=F.hy C1 j r2 o' e2 ho'
       refine hj.NK (λe=>?_) (λhm=>hmem ?_)
       .grind
       grind
    have heE:∀(E:Env),{E with boxes:=E.boxes}=E:=λE=>rfl
    refine F6 ag (Fs (λx=>?_) (λx=>?_) hgo)
    .obtain ⟨x1,x⟩:=Ao.1 x
     obtain ⟨o',ho',U⟩:=M.kind _ _ _ _ F.split
     rw [ho] at ho'
     cases ho'
     have U:(BL o.op||CZ o.op)=true:=U
     cases hqk:BL o.op with
     |true=>
      refine CT (T:=T) (C:=C) (env:=Ef) (env':=e) (st:=st1) (st':=st1) hM hqk (.inl rfl) hag (λid cs hb=>by rw [<-F.boxes];exact hb) (λv s s' g hk=>?_) (λv s hk=>hk _) x
      have:s'=s:=by rcases g with ⟨_,g⟩|⟨g1,g2⟩;exact g;rw [g1,g2]
      subst this
      have:=next v s' e.boxes F.bx (λ_=>rfl) (by rw [<-F.boxes];exact hk)
      omega
     |false=>
      rw [hqk] at U
      have hst:CZ o.op=true:=by simpa using U
      cases hop:o.op with
      |store t p y=>
       refine Kj (T:=T) (C:=C) hop x1 hag F.boxes (by rw [F.n1,F.n2]) (by rw [F.s1,F.s2]) (by rw [F.g1,F.g2]) (λs B hB hk=>?_) x
       refine next .BT s B (λid cs hb=>?_) (λh=>by grind) hk
       obtain ⟨_,h2⟩:=hb0 id cs hb
       exact hB id cs h2 (by rw [F.boxes];exact F.bx id cs hb)
      |_=>rw [hop] at hst;cases hst
    .have:=next (.Bz []) st1 e.boxes F.bx (λ_=>rfl) (by rw [<-F.boxes];exact x)
     omega
 .intro bs e st hbl hinv
  obtain ⟨vs,pre,post,Ef,F,hh⟩:=hinv
  by_cases hall:∀p ∈ sched,bs.getD p.1 false=true
  .left
   rw [List.eq_replicate_iff]
   refine ⟨hbl,λb hb=>?_⟩
   obtain ⟨j,hj,rfl⟩:=List.mem_iff_getElem.1 hb
   obtain ⟨p,hp,e⟩:=List.mem_map.1 (M.cover j AC)
   grind
  .right
   have hex:∃pr p po,sched=pr++p::po/\bs.getD p.1 false=false/\∀x ∈ pr,bs.getD x.1 false=true:=by
    clear F hh
    revert hall
    generalize sched=l
    intro hall
    induction l with
    |nil=>grind
    |cons x l ih=>
     cases hb:bs.getD x.1 false with
     |false=>exact ⟨[],x,l,rfl,hb,λy hy=>by cases hy⟩
     |true=>
      obtain ⟨pr,p,po,h1,h2,h3⟩:=ih λh=>hall λp hp=>by grind
      grind
   obtain ⟨pr,⟨k,q⟩,po,h1,h2,h3⟩:=hex
   obtain ⟨o,ho,_⟩:=M.kind _ _ _ _ h1
   have hk:k<all.length:=(List.getElem?_eq_some_iff.1 ho).1
   refine ⟨k,hk,?_⟩
   unfold Bx
   rw [ho,hget bs k AC,h2]
   simp only [Bool.not_false,Bool.true_and,List.all_eq_true]
   intro x hx
   cases hb:Region.binds .any x with
   |false=>rfl
   |true=>
    obtain ⟨y,hy,e⟩:=List.mem_map.1 (M.back _ _ _ _ o h1 ho x (by grind) hb)
    grind
 .intro e st hinv
  obtain ⟨vs,pre,post,Ef,F,hh⟩:=hinv
  have hp:post=[]:=by
   cases post with
   |nil=>rfl
   |cons p r=>
    obtain ⟨o,ho,_⟩:=M.kind _ _ _ _ F.split
    have:=F.sub p.1 (by grind)
    exact absurd this (M.nodup _ _ _ _ F.split)
  subst hp
  refine ⟨Ef,⟨λt=>?_,λt=>by rw [F.boxes],by rw [F.n1,F.n2],by rw [F.s1,F.s2]⟩,F.go⟩
  rw [F.tm,F.tf]
  refine CN λk p hk _=>⟨?_,λ_=>rfl⟩
  have hlt:=(List.getElem?_eq_some_iff.1 hk).1
  have h1:(List.replicate all.length true).getD k false=true:=by rw [List.getD_eq_getElem?_getD,List.getElem?_replicate,if_pos hlt];rfl
  show (List.replicate all.length true).getD k false=decide (k ∈ pre.map (·.1))
  rw [h1,decide_eq_true (F.sub k h1)]
 .have hf:∀j,(List.replicate all.length false).getD j false=false:=λj=>by grind
  have h0:∀(vs:Nat->V) t,Gi all env.tmps vs (λj=>(List.replicate all.length false).getD j false) t=assoc env.tmps t:=λvs t=>by
   unfold Gi;grind
  refine J6 M sched (λ_=>.BT) [] env ⟨rfl,λj hj=>(by grind),λj hj=>(by cases hj),rfl,rfl,rfl,rfl,rfl,rfl,rfl,λt=>(h0 _ t).symm,λt=>?_,λid cs hb=>(hb0 id cs hb).1,h,λ_=>rfl,λ_=>rfl,λC1 j r o e=>(by cases C1<;>cases e),λi o ho hi=>(by grind)⟩
  unfold Gi
  grind
end
section
variable {D:List Deferred} {P:Program} {T:List (Nat×Ty)} {C:FuncId->List V->St->(AA->St->Prop)->Prop} {I0 I:Mem} {st0 st:St} {w0 w:World} {β:Nat->Option Nat} {env:Env} {a:Act}
variable {o:Oper} {K:V->Env->St->Prop} {Q:AH->Env->St->Prop} {next:Act->World->Prop} {Qc:Exit->Act->World->Prop}
theorem fk {x y:Code} {st:St} (h:AW P x (B4 (OJ T C y Q) Q) env st) (k:∀env st,OJ T C y Q env st->AW P y Q env st):AW P (.seq x y) Q env st:=λD I0 st0 w0 I β a w hr=>by
 refine wp_seq (wp_mono (h D I0 st0 w0 I β a w hr) ?_)
 rintro e a w ⟨I,β,env,st,ae,h1,U,h3⟩
 cases ae with
 |normal=>cases e<;>first|exact k env st h3 D I0 st0 w0 I β a w h1|exact U.elim
 |exit i=>cases e<;>first|exact ⟨I,β,env,st,.exit i,h1,U,h3⟩|exact U.elim
 |goto i=>cases e<;>first|exact ⟨I,β,env,st,.goto i,h1,U,h3⟩|exact U.elim
 |ret=>cases e<;>first|exact ⟨I,β,env,st,.ret,h1,U,h3⟩|exact U.elim
 |B0 v=>cases e<;>first|exact ⟨I,β,env,st,.B0 v,h1,U,h3⟩|exact U.elim
def BG (P:Program) (T:List (Nat×Ty)) (C:FuncId->List V->St->(AA->St->Prop)->Prop) (c:Code):Prop:=
 ∀l f,(LY T C c).2 l=some f->∃rest,findLabel c l=some rest/\∀Q env st,f Q env st->AW P rest Q env st
theorem BG.none {c:Code} (h:∀l,(LY T C c).2 l=none):BG P T C c:=λl f e=>by simp_all
theorem P7 (c:Code) (l:Nat) (h:(LY T C c).2 l=none):findLabel c l=none:=by
 induction c with
 |seq x y ihx ihy=>
  have e:sB ((LY T C x).2 l) (LY T C y).1 ((LY T C y).2 l)=none:=h
  cases U:(LY T C x).2 l with
  |some g=>rw [U] at e;cases e
  |none=>
   rw [U] at e
   simp [findLabel,ihx U,ihy e]
 |label l0=>
  have e:(bif Nat.beq l0 l then some λ(Q:AH->Env->St->Prop) env st=>Q .normal env st else none)=none:=h
  cases hb:Nat.beq l0 l with
  |true=>simp_all
  |false=>
   have:¬l0=l:=λx=>by simp_all
   simp [findLabel,this]
 |_=>simp [findLabel]
theorem DR (hT:Gj P T) (hm:P.follows .mixedOrders=true) (hC:∀f args st R,C f args st R->CB P f args st R/\Plain P f) (hM:∀f args st (R R':AA->St->Prop),(∀r s,R r s->R' r s)->C f args st R->C f args st R'):∀(c:Code),(∀{Q:AH->Env->St->Prop} {env:Env} {st:St},OJ T C c Q env st->AW P c Q env st)/\BG P T C c
 | .skip=>⟨λ{Q env st} k=>λD I0 st0 w0 I β a w h=>wp_skip ⟨I,β,env,st,.normal,h,trivial,k⟩,BG.none λ_=>rfl⟩
 | .region id ops true=>⟨λ{Q env st} k=>λD I0 st0 w0 I β a w h=>wp_region_any hm (by
    have k:(G8 env ops.toList ops.toList λk L=>(JW k ops.toList&&HT L)=true/\HO T C ops.toList Q env env.boxes (Bg L env.boxes) ops.toList env st)\/∃(sched:List (Nat×Bool)) (L:List Nat),JE sched ops.toList=true/\Fv T C ops.toList sched L (Bg (L.map some) env.boxes) Q sched env st:=k
    rcases k with k|⟨sched,L,k1,k2⟩
    .obtain ⟨h1,U⟩:=IX.1 k
     have:=PN hT hC hM h1 U h
     omega
    .have:=Sd hT hC hM k1 k2 h
     omega),BG.none λ_=>rfl⟩
 | .region id ops false=>⟨λ{Q env st} k=>λD I0 st0 w0 I β a w h=>wp_region_list (by
    have:=Fc hT hC h (show Eg T C ops.toList Q ops.toList env st from k)
    omega),BG.none λ_=>rfl⟩
 | .seq x y=>⟨λ{Q env st} k=>fk ((DR hT hm hC hM x).1 (show OJ T C x _ env st from k)) λenv st=>(DR hT hm hC hM y).1,λl f e=>by
    have e:sB ((LY T C x).2 l) (LY T C y).1 ((LY T C y).2 l)=some f:=e
    have hx:=(DR hT hm hC hM x).2 l
    have hy:=(DR hT hm hC hM y).2 l
    cases hl:(LY T C x).2 l with
    |none=>
     rw [hl] at e
     obtain ⟨rest,h1,U⟩:=hy f e
     have hn:=P7 x l hl
     exact ⟨rest,by simp [findLabel,hn,h1],U⟩
    |some g=>
     rw [hl] at e
     cases e
     obtain ⟨rest,h1,U⟩:=hx g hl
     exact ⟨.seq rest y,by simp [findLabel,h1],λQ env st k=>fk (U _ env st k) λenv st=>(DR hT hm hC hM y).1⟩⟩
 | .cond c x y=>⟨λ{Q env st} k=>λD I0 st0 w0 I β a w h=>by
   have hc:=h.f.eval c
   have k:(match env.eval c with
    | .bool t=>lit t (OJ T C x Q env st) (OJ T C y Q env st)
    |_=>False):=k
   split at k
   .rename_i t he
    rw [he] at hc
    have hc:=Kd hc
    cases t with
    |true=>exact wp_cond_true hc ((DR hT hm hC hM x).1 (show OJ T C x Q env st from k) D I0 st0 w0 I β a w h)
    |false=>exact wp_cond_false hc ((DR hT hm hC hM y).1 (show OJ T C y Q env st from k) D I0 st0 w0 I β a w h)
   simp_all,BG.none λ_=>rfl⟩
 | .block id c=>⟨λ{Q env st} k=>λD I0 st0 w0 I β a w h=>by
   refine wp_block (wp_mono ((DR hT hm hC hM c).1 (show OJ T C c _ env st from k) D I0 st0 w0 I β a w h) ?_)
   rintro e a w ⟨I,β,env,st,ae,h1,U,h3⟩
   cases ae with
   |normal=>cases e<;>first|exact ⟨I,β,env,st,.normal,h1,trivial,h3⟩|exact U.elim
   |exit i=>
    cases e<;>try exact U.elim
    rename_i i'
    have U:i'=i:=U
    subst U
    simp only [PB] at h3
    show (if i'=id then B6 D I0 st0 w0 Q .normal a w else B6 D I0 st0 w0 Q (.exit i') a w)
    by_cases hi:i'=id
    .subst hi
     rw [if_pos rfl]
     simp only [Nat.beq_refl,cond_true] at h3
     exact ⟨I,β,env,st,.normal,h1,trivial,h3⟩
    .rw [if_neg hi]
     have:Nat.beq i' id=false:=by
      cases hb:Nat.beq i' id with
      |false=>rfl
      |true=>simp_all
     rw [this] at h3
     exact ⟨I,β,env,st,.exit i',h1,rfl,h3⟩
   |goto i=>cases e<;>first|exact ⟨I,β,env,st,.goto i,h1,U,h3⟩|exact U.elim
   |ret=>cases e<;>first|exact ⟨I,β,env,st,.ret,h1,U,h3⟩|exact U.elim
   |B0 v=>cases e<;>first|exact ⟨I,β,env,st,.B0 v,h1,U,h3⟩|exact U.elim,BG.none λ_=>rfl⟩
 | .loop c=>⟨λ{Q env st} k=>λD I0 st0 w0 I β a w h=>by
   obtain ⟨α,E,S,J,μ,x0,h0,he,hs,round⟩:=(show ∃(α:Type) (E:α->Env) (S:α->St) (J:α->Prop) (μ:α->Nat) (x0:α),J x0/\(E x0).Ff env/\St.le (S x0) st/\
    ∀x,J x->OJ T C c (B4 (λenv' st'=>∃y,J y/\μ y<μ x/\(E y).Ff env'/\St.le (S y) st') Q) (E x) (S x) from k)
   refine Ou (λn a w=>∃I β x,Rel D I0 st0 w0 I β (E x) (S x) a w/\J x/\n=μ x) (n0:=μ x0) ⟨I,_,x0,(h.Hn hs).JA (Env.JC he),h0,rfl⟩ ?_
   rintro n a w ⟨I,β,x,h,hi,rfl⟩
   refine wp_mono ((DR hT hm hC hM c).1 (round x hi) D I0 st0 w0 I β a w h) ?_
   rintro e a w ⟨I,β,env,st,ae,h1,U,h3⟩
   cases ae with
   |normal=>
    cases e<;>try exact U.elim
    obtain ⟨y,g1,g2,g3,g4⟩:=h3
    exact ⟨μ y,g2,I,_,y,(h1.Hn g4).JA (Env.JC g3),g1,rfl⟩
   |exit i=>cases e<;>first|exact ⟨I,β,env,st,.exit i,h1,U,h3⟩|exact U.elim
   |goto i=>cases e<;>first|exact ⟨I,β,env,st,.goto i,h1,U,h3⟩|exact U.elim
   |ret=>cases e<;>first|exact ⟨I,β,env,st,.ret,h1,U,h3⟩|exact U.elim
   |B0 v=>cases e<;>first|exact ⟨I,β,env,st,.B0 v,h1,U,h3⟩|exact U.elim,BG.none λ_=>rfl⟩
 | .exit id=>⟨λ{Q env st} k=>λD I0 st0 w0 I β a w h=>wp_exit ⟨I,β,env,st,.exit id,h,rfl,k⟩,BG.none λ_=>rfl⟩
 | .goto l=>⟨λ{Q env st} k=>λD I0 st0 w0 I β a w h=>wp_goto ⟨I,β,env,st,.goto l,h,rfl,k⟩,BG.none λ_=>rfl⟩
 | .label l0=>⟨λ{Q env st} k=>λD I0 st0 w0 I β a w h=>wp_label ⟨I,β,env,st,.normal,h,trivial,k⟩,λl f e=>by
    have e:(bif Nat.beq l0 l then some λ(Q:AH->Env->St->Prop) env st=>Q .normal env st else none)=some f:=e
    cases hb:Nat.beq l0 l with
    |false=>simp_all
    |true=>
     rw [hb] at e
     cases e
     have:=Nat.eq_of_beq_eq_true hb
     subst this
     exact ⟨.skip,by simp [findLabel],λQ env st k=>λD I0 st0 w0 I β a w h=>wp_skip ⟨I,β,env,st,.normal,h,trivial,k⟩⟩⟩
 | .ret=>⟨λ{Q env st} k=>λD I0 st0 w0 I β a w h=>wp_ret ⟨I,β,env,st,.ret,h,trivial,k⟩,BG.none λ_=>rfl⟩
 | .rangeFunc .. =>⟨λ{Q env st} k=>False.elim k,BG.none λ_=>rfl⟩
 | .scope c=>⟨λ{Q env st} k=>λD I0 st0 w0 I β a w h=>by
    obtain ⟨α,lab,E,S,J,μ,first,pass⟩:=(show O7 (LY T C c).1 (LY T C c).2 Q env st from k)
    refine UC (λl n a w=>∃I β x,Rel D I0 st0 w0 I β (E x) (S x) a w/\J x/\lab x=l/\n=μ x) ?_ ?_
    .refine wp_mono ((DR hT hm hC hM c).1 first D I0 st0 w0 I β a w h) ?_
     rintro e a w ⟨I,β,env,st,ae,h1,U,h3⟩
     cases ae with
     |goto i=>
      cases e<;>try exact U.elim
      have U:_=i:=U
      subst U
      obtain ⟨y,g1,g2,g3,g4⟩:=h3
      exact ⟨μ y,I,_,y,(h1.Hn g4).JA (Env.JC g3),g2,g1,rfl⟩
     |normal=>cases e<;>first|exact ⟨I,β,env,st,.normal,h1,U,h3⟩|exact U.elim
     |exit i=>cases e<;>first|exact ⟨I,β,env,st,.exit i,h1,U,h3⟩|exact U.elim
     |ret=>cases e<;>first|exact ⟨I,β,env,st,.ret,h1,U,h3⟩|exact U.elim
     |B0 v=>cases e<;>first|exact ⟨I,β,env,st,.B0 v,h1,U,h3⟩|exact U.elim
    .rintro l n a w ⟨I,β,x,h,hi,rfl,rfl⟩
     obtain ⟨f,hf,hp⟩:=pass x hi
     obtain ⟨rest,hr,hs⟩:=(DR hT hm hC hM c).2 _ f hf
     refine ⟨rest,hr,wp_mono (hs _ _ _ hp D I0 st0 w0 I β a w h) ?_⟩
     rintro e a w ⟨I,β,env,st,ae,h1,U,h3⟩
     cases ae with
     |goto i=>
      cases e<;>try exact U.elim
      have U:_=i:=U
      subst U
      obtain ⟨y,g1,g2,gm,g3,g4⟩:=h3
      exact ⟨μ y,gm,I,_,y,(h1.Hn g4).JA (Env.JC g3),g2,g1,rfl⟩
     |normal=>cases e<;>first|exact ⟨I,β,env,st,.normal,h1,U,h3⟩|exact U.elim
     |exit i=>cases e<;>first|exact ⟨I,β,env,st,.exit i,h1,U,h3⟩|exact U.elim
     |ret=>cases e<;>first|exact ⟨I,β,env,st,.ret,h1,U,h3⟩|exact U.elim
     |B0 v=>cases e<;>first|exact ⟨I,β,env,st,.B0 v,h1,U,h3⟩|exact U.elim,BG.none λ_=>rfl⟩
 | .refuse _=>⟨λ{Q env st} k=>False.elim k,BG.none λ_=>rfl⟩
structure SS (P:Program) (T:List (Nat×Ty)):Prop where
 t:Gj P T
 m:P.follows .mixedOrders=true
theorem M6 (hP:SS P T) (hC:∀f args st R,C f args st R->CB P f args st R/\Plain P f) (hM:∀f args st (R U:AA->St->Prop),(∀r s,R r s->U r s)->C f args st R->C f args st U) (c:Code) {st:St} (h:OJ T C c Q env st):AW P c Q env st:=(DR hP.t hP.m hC hM c).1 h
end
structure A9 (P:Program) (f:FuncId) (args:List V) (st:St) (R:AA->St->Prop):Prop where
 a:CB P f args st R
 b:Plain P f
theorem A9.mono {P:Program} {f:FuncId} {args:List V} {st:St} {R U:AA->St->Prop} (h:A9 P f args st R) (k:∀r s,R r s->U r s):A9 P f args st U:=⟨h.a.mono k,h.b⟩
theorem Cb (P:Program):∀f args st R,A9 P f args st R->CB P f args st R/\Plain P f:=λ_ _ _ _ h=>⟨h.a,h.b⟩
section
variable {D:List Deferred} {P:Program} {T:List (Nat×Ty)} {I:Mem} {st:St} {w:World}
theorem Pt:∀{l:List V} {k t:Nat} {v:V},assoc (Jy k l) t=some v->k<=t/\l[t - k]? =some v
 |[],k,t,v,h=>by cases h
 |u::r,k,t,v,h=>by
  rw [XX,Bj] at h
  cases hb:Nat.beq k t with
  |true=>
   simp_all
  |false=>
   rw [hb] at h
   obtain ⟨U,h2⟩:=Pt h
   grind
def V4 (tmps:Array Value):ResultVar->Sem Value
 | .tmp t=>pure (tmps.getD t undef)
 | .cell x t=>do loadVar t (<-asAddr (tmps.getD x undef))
theorem TX (hT:Gj P T) {a:Act} (h:Rel D I0 st0 w0 I β env st a w) {x:ResultVar} {K:V->Prop} (k:TW T env st x K):
 ∃v c,(V4 a.tmps x).run P w=.ok c w/\AK I v c/\K v:=by
 cases x with
 |tmp t=>
  have k:(env.get t).force λv=>DE v.plain (K v):=k
  obtain ⟨hp,k⟩:=Ao.1 (V.AB.1 k)
  exact ⟨_,_,rfl,(h.f.get t).rep hp,k⟩
 |cell x t=>
  have hx:=h.f.get x
  have fin:∀{ad:Addr} {c:Value} {v:V},a.tmps.getD x undef=.pointer (some ad)->(loadVar t ad).run P w=.ok c w->AK I v c->K v->
   ∃v c,(V4 a.tmps (.cell x t)).run P w=.ok c w/\AK I v c/\K v:=by
   intro ad c v e1 e2 e3 k
   refine ⟨v,c,?_,e3,k⟩
   simp only [V4,e1,asAddr,Sem.run_bind,Sem.run_pure,Result.andThen_ok,e2]
  simp only [TW] at k
  split at k
  .rename_i id off he
   rw [he] at hx
   obtain ⟨b,hb,hx⟩:=Ir hx
   split at k
   .rename_i cs U
    obtain ⟨b',h1,h2⟩:=h.f.box id cs U
    rw [hb] at h1
    injection h1 with h1
    subst h1
    obtain ⟨vs,ty,h2,h3⟩:=h2.cells (Lb k)
    obtain ⟨v,c,g1,g2,g3⟩:=Ee (b:=b) (o:=0) hT h3 (λj v e=>by simpa using Ib h2 e) k
    grind
   simp_all
  .rename_i b off he
   rw [he] at hx
   have hx:=MJ hx
   obtain ⟨cs,U,k⟩:=k
   obtain ⟨vs,ty,h2,h3⟩:=h.s.box b cs U
   obtain ⟨v,c,g1,g2,g3⟩:=Ee (b:=b) (o:=0) hT h3 (λj v e=>by simpa using Ib h2 e) k
   grind
  simp_all
theorem JZ (U:Gj P T) {I0:Mem} {st0:St} {w0:World} {β:Nat->Option Nat} {env:Env} {a:Act} (h:Rel D I0 st0 w0 I β env st a w):∀{rs:List ResultVar} {K:List V->Prop},Fq T env st rs K->
 ∃vs cs,Aj I vs cs/\K vs/\(rs.mapM (V4 a.tmps)).run P w=.ok cs w
 |[],K,k=>⟨[],[],H1,k,rfl⟩
 |x::r,K,k=>by
  rw [Ru] at k
  obtain ⟨v,c,e1,e2,k⟩:=TX (P:=P) U h k
  obtain ⟨vs,cs,h1,h2,h3⟩:=JZ U h k
  refine ⟨v::vs,c::cs,by simp only [Aj];grind,h2,?_⟩
  simp_all
theorem CM (hT:Gj P T) {a:Act} (h:Rel D I0 st0 w0 I β env st a w)
 (k:Fq T env st fn.results.toList λvs=>match vs with|[v]=>R (.ret v) st|vs=>R (.ret (.Bz vs)) st):
 ∃v c,(results fn a.tmps).run P w=.ok c w/\AK I v c/\R (.ret v) st:=by
 obtain ⟨vs,cs,U,h2,h3⟩:=JZ (P:=P) hT h k
 have hr:(results fn a.tmps).run P w=.ok (if hh:cs.toArray.size=1 then cs.toArray[0] else .tuple cs.toArray) w:=by
  have e:results fn a.tmps=(do let vs <-fn.results.mapM (V4 a.tmps);pure (if h:vs.size=1 then vs[0] else .tuple vs)):=by
   unfold results
   congr 1
  rw [e,Array.mapM_eq_mapM_toList]
  simp only [Sem.run_bind,Sem.run_map,h3,Result.andThen_ok,Sem.run_pure]
 have hl:=Aj.length U
 match vs,U,h2,hl with
 |[v],U,h2,hl=>
  simp only [Aj] at U
  grind
 |[],U,h2,hl=>
  have hs:¬(cs.toArray.size=1):=by simp at hl |-;omega
  rw [dif_neg hs] at hr
  exact ⟨_,_,hr,by simp only [AK];simp_all,h2⟩
 |x::y::z,U,h2,hl=>
  have hs:¬(cs.toArray.size=1):=by simp at hl |-;omega
  rw [dif_neg hs] at hr
  exact ⟨_,_,hr,by simp only [AK];simp_all,h2⟩
theorem Qy {a:Act} (hs:Ct I st w) (U:a.tmps.size=env.sz) (h2:∀t v,assoc env.tmps t=some v->AK I v (a.tmps.getD t undef)) (h3:env.boxes=[]) (h4:a.defers=D):
 Rel D I st w I (λ_=>none) env st a w:=
 ⟨Fr.refl,hs,⟨U,λt v e=>AZ.of (h2 t v e),λid cs e=>(by rw [h3] at e;cases e),λid b e=>(by cases e),λi j b e=>(by cases e),λid b e=>(by cases e),h4⟩⟩
theorem Po (hP:SS P T) (gl:List Nat) (hf:P.funcs[f]? =some fn)
 (h:S4 T (A9 P) fn gl args st λr st'=>∃r2 U,(r2=r\/r2=r.wk)/\St.le U st'/\R r2 U):CB P f args st R:=by
 intro I w cargs hs hargs
 unfold S4 at h
 cases hb:fn.body with
 |none=>simp_all
 |some c=>
  rw [hb] at h
  obtain ⟨hle,h⟩:=Ao.1 h
  have hle:=Nat.le_of_ble_eq_true hle
  have hlen:=Aj.length hargs
  refine calls_of_wp hf hb ?_
  have hrel:Rel [] I st w I (λ_=>none) {tmps:=Jy 0 args,boxes:=[],Bm:=0,sz:=fn.ntmps,gl} st
   {tmps:=cargs.toArray++Array.replicate (fn.ntmps - cargs.toArray.size) undef,defers:=[]} w:=by
   refine Qy hs (by grind) (λt v e=>?_) rfl rfl
   obtain ⟨_,e⟩:=Pt e
   rw [Nat.sub_zero] at e
   obtain ⟨c',e1,e2⟩:=Aj.get hargs e
   have hlt:t<cargs.length:=by
    rcases Nat.lt_or_ge t cargs.length with h|h
    .exact h
    .simp_all
   have:(cargs.toArray++Array.replicate (fn.ntmps - cargs.toArray.size) undef).getD t undef=c':=by
    rw [List.getElem?_eq_getElem hlt] at e1
    injection e1 with e1
    subst e1
    simp [Array.getD,Array.getElem_append,hlt]
    omega
   rw [this]
   exact e2
  refine wp_mono (M6 hP (Cb P) (λ_ _ _ _ _ h k=>k.mono h) c h [] I st w I _ _ w hrel) ?_
  rintro e a w' ⟨I1,β1,env1,st1,ae,h1,h2,h3⟩
  have hret:(Fq T env1 st1 fn.results.toList λvs=>match vs with
   |[v]=>∃r2 U,(r2=.ret v\/r2=(AA.ret v).wk)/\St.le U st1/\R r2 U
   |vs=>∃r2 U,(r2=.ret (.Bz vs)\/r2=(AA.ret (.Bz vs)).wk)/\St.le U st1/\R r2 U)->
   a.defers=[]/\∃v,(results fn a.tmps).run P w'=.ok v w'/\∃I' st' r,Fr I st w I' st' w'/\Ct I' st' w'/\V3 I' (.returned v) r/\R r st':=by
   intro h3
   obtain ⟨v,c,g1,g2,r2,U,g3,g4,g5⟩:=CM (P:=P) (R:=λr s=>∃r2 U,(r2=r\/r2=r.wk)/\St.le U s/\R r2 U) hP.t h1 h3
   have h1':=h1.Hn g4
   refine ⟨h1.f.defers,c,g1,I1,U,r2,h1'.fr,h1'.s,?_,g5⟩
   rcases g3 with rfl|rfl
   .exact g2
   .exact g2.wk
  cases ae with
  |normal=>cases e<;>first|exact hret h3|exact h2.elim
  |exit i=>exact h3.elim
  |goto i=>exact h3.elim
  |ret=>cases e<;>first|exact hret h3|exact h2.elim
  |B0 v=>
   cases e<;>try exact h2.elim
   obtain ⟨r2,U,g3,g4,g5⟩:=h3
   obtain ⟨c',rfl,h2⟩:=h2
   have h1':=h1.Hn g4
   refine ⟨h1.f.defers,I1,U,r2,h1'.fr,h1'.s,?_,g5⟩
   rcases g3 with rfl|rfl
   .exact ⟨c',rfl,h2⟩
   .exact ⟨c',rfl,h2.wk⟩
theorem QA (hP : SS P T) (gl : List Nat) (hf : P.funcs[f]? = some fn) (hb : fn.body.isSome = true) (hn : (fn.name == "runtime.NumGoroutine") = false)
 (h:S4 T (A9 P) fn gl args st λr st'=>∃r2 U,(r2=r\/r2=r.wk)/\St.le U st'/\R r2 U):A9 P f args st R:=⟨Po hP gl hf h,fn,hf,hb,hn⟩
end
section
variable {P:Program} {T:List (Nat×Ty)}
theorem qP (h:∀p ∈ T,Ox P p.1 p.2):Gj P T:=λt ty e=>h (t,ty) (FN e)
theorem all_cons {p:Nat×Ty->Prop} {x:Nat×Ty} {l:List (Nat×Ty)} (h:p x) (k:∀q ∈ l,p q):∀q ∈ x::l,p q:=λq U=>by grind
def NQ:V->Value
 | .int k n=>.int k n
 | .bool b=>.bool b
 | .str s=>.string ⟨s.toArray⟩
 | .slice _ _ _=>.slice none 0 0
 | .FH=>.pointer none
 | .Av=>.nilFunc
 | .Ge=>.nilIface
 |_=>undef
def isZero:V->Bool
 | .int _ _| .bool _| .FH| .Av| .Ge=>true
 | .str []=>true
 | .slice (_+1) [] .full=>true
 |_=>false
theorem V2 {z:V} (h:isZero z=true):AK I z (NQ z):=by
 unfold isZero at h
 split at h
 .rfl
 .rfl
 .rfl
 .rfl
 .rfl
 .simp [AK,NQ,C9]
 .exact Jn (Nat.succ_pos _) _ (.inl rfl)
 grind
theorem Nv {I:Mem}:∀{z:List V},z.all isZero=true->Aj I z (z.map NQ)
 |[],_=>by rfl
 |v::r,h=>by
  simp only [List.all_cons,Bool.and_eq_true] at h
  simp only [Aj,List.map_cons]
  exact ⟨_,_,rfl,V2 h.1,Nv h.2⟩
theorem l4 {z:V} (h:isZero z=true):(NQ z).cells=#[NQ z]/\z.known=true/\z.cells=[z]:=by
 unfold isZero at h
 split at h
 all_goals first|(cases h;done)|exact ⟨rfl,rfl,rfl⟩
theorem ua {z:V} {d:TypeDesc} (hu:P.underlying t=some d) (ha:SY d=false) (hz:isZero z=true)
 (hi:(P.info? t).map (λi=>(i.zero,i.size))=some (some (NQ z),1)) (hs:match z with| .str _=>d=.string| .Ge=>∃U,d=.interface U| .int k _=>d=.int k| .bool _=>d=.bool|_=>∀U,d≠.interface U):Ox P t (.sc z):=by
 cases hp:P.info? t with
 |none=>simp_all
 |some i=>
  rw [hp] at hi
  simp only [Option.map_some,Option.some.injEq,Prod.mk.injEq] at hi
  obtain ⟨h1,h2,h3⟩:=l4 hz
  exact ⟨i,d,NQ z,hp,hu,ha,hi.2,hi.1,V2 hz,h1,h2,h3,hs⟩
theorem lO {e:TypeId} {sz bytes:Nat} {c:Value} (hu:P.underlying t=some (.slice e)) (hi:(P.info? t).map (λi=>(i.zero,i.size))=some (some (.slice none 0 0),1))
 (U:(P.info? e).map (λi=>(i.zero,i.size,i.bytes))=some (some c,sz,bytes)) (h0:0<sz) (hc:c.cells.size=sz):Ox P t (.slice e sz bytes):=by
 cases hp:P.info? t with
 |none=>simp_all
 |some i=>
  cases hq:P.info? e with
  |none=>simp_all
  |some j=>
   rw [hp] at hi
   rw [hq] at U
   simp only [Option.map_some,Option.some.injEq,Prod.mk.injEq] at hi U
   exact ⟨i,j,c,hp,hu,hi.2,hi.1,hq,U.2.1,U.2.2,h0,U.1,hc⟩
theorem eS {U:List (Nat×Nat)} {z:List V} {fields:Array Field} (hu:P.underlying t=some (.struct fields)) (hz:z.all isZero=true)
 (hi:(P.info? t).map (λi=>(i.zero,i.size))=some (some (.agg (z.map NQ).toArray),z.length))
 (hf:fields.toList.map (λf=>(f.offset,(P.info? f.type).map (·.size)))=U.map (λp=>(p.1,some p.2))) (he:(!aj z||ab P t z)=true) (h1:(fields.toList.all λf=>match P.info? f.type,P.underlying f.type with|some j,some d=>j.size !=1|| !SY d|_,_=>false)=true):Ox P t (.struct U z):=by
 cases hp:P.info? t with
 |none=>simp_all
 |some i=>
  rw [hp] at hi
  simp only [Option.map_some,Option.some.injEq,Prod.mk.injEq] at hi
  refine ⟨i,fields,z.map NQ,hp,hu,hi.2,hi.1,Nv hz,?_,λn o s e=>?_,(λhfl=>by simp_all),λn o e=>?_⟩
  .have:=congrArg List.length hf
   grind
  .have h1:(U.map λp=>(p.1,some p.2))[n]? =some (o,some s):=by rw [List.getElem?_map,e];rfl
   grind
  .have h2:(U.map λp=>(p.1,some p.2))[n]? =some (o,some 1):=by rw [List.getElem?_map,e];rfl
   grind
theorem sR {e:TypeId} {sz:Nat} {U:List (Nat×Nat)} {z:List V} (hu:P.underlying t=some (.array n e)) (hz:z.all isZero=true)
 (hi:(P.info? t).map (λi=>(i.zero,i.size))=some (some (.agg (z.map NQ).toArray),z.length)) (hj:(P.info? e).map (·.size)=some sz) (hf:U=(List.range U.length).map λi=>(i*sz,sz)):Ox P t (.arr U z):=by
 cases hp:P.info? t with
 |none=>simp_all
 |some i=>
  cases hq:P.info? e with
  |none=>simp_all
  |some j=>
   rw [hp] at hi
   rw [hq] at hj
   simp only [Option.map_some,Option.some.injEq,Prod.mk.injEq] at hi hj
   refine ⟨i,n,e,j,z.map NQ,hp,hu,hi.2,hi.1,Nv hz,hq,λk o s e=>?_⟩
   grind
def Ty.zv:Ty->Value×Nat
 | .sc z=>(NQ z,1)
 | .slice _ _ _=>(.slice none 0 0,1)
 | .struct _ z| .arr _ z=>(.agg (z.map NQ).toArray,z.length)
def qE:V->TypeDesc->Bool
 | .str _,.string=>true
 | .Ge,.interface _=>true
 | .int k _,.int U=>decide (k=U)
 | .bool _,.bool=>true
 | .str _,_| .Ge,_| .int _ _,_| .bool _,_|_,.interface _=>false
 |_,_=>true
def vf (P:Program) (t:TypeId) (ty:Ty):Bool:=match ty,P.underlying t with
 | .sc z,some d=> !SY d&&(isZero z&&qE z d)
 | .slice e sz bytes,some (.slice e')=>e==e'&&(match P.info? e with|some j=>(match j.zero with|some c=>c.cells.size==sz|none=>false)&&(j.size==sz&&(j.bytes==bytes&&decide (0<sz)))|none=>false)
 | .struct U z,some (.struct fields)=>z.all isZero&&(decide (fields.toList.map (λf=>(f.offset,(P.info? f.type).map (·.size)))=U.map (λp=>(p.1,some p.2)))&&((!aj z||ab P t z)&&
    fields.toList.all λf=>match P.info? f.type,P.underlying f.type with|some j,some d=>j.size !=1|| !SY d|_,_=>false))
 | .arr U z,some (.array _ e)=>z.all isZero&&(match P.info? e with|some j=>decide (U=(List.range U.length).map λi=>(i*j.size,j.size))|none=>false)
 |_,_=>false
theorem qO (h1:T.map (λp=>(P.info? p.1).map λi=>(i.zero,i.size))=T.map λp=>some (some p.2.zv.1,p.2.zv.2)) (h2:(T.all λp=>vf P p.1 p.2)=true):Gj P T:=qP λp hp=>by
 have e1:=List.map_inj_left.1 h1 p hp
 have U:=List.all_eq_true.1 h2 p hp
 obtain ⟨t,ty⟩:=p
 dsimp only at e1 U |-
 unfold vf at U
 split at U
 .rename_i z d hu
  simp only [Bool.and_eq_true,Bool.not_eq_true'] at U
  refine ua hu U.1 U.2.1 e1 ?_
  have e3:=U.2.2
  unfold qE at e3
  split at e3<;>simp_all
 .rename_i e sz b e' hu
  simp only [Bool.and_eq_true,beq_iff_eq] at U
  obtain ⟨rfl,U⟩:=U
  cases hj:P.info? e with
  |none=>rw [hj] at U;cases U
  |some j=>
   rw [hj] at U
   cases hz:j.zero with
   |none=>simp [hz] at U
   |some c=>
    simp only [hz,Bool.and_eq_true,beq_iff_eq,decide_eq_true_eq] at U
    exact lO (c:=c) hu e1 (by rw [hj];simp [hz,U]) U.2.2.2 U.1
 .rename_i offs z fields hu
  simp only [Bool.and_eq_true,decide_eq_true_eq] at U
  exact eS hu U.1 e1 U.2.1 U.2.2.1 U.2.2.2
 .rename_i offs z n e hu
  simp only [Bool.and_eq_true] at U
  cases hj:P.info? e with
  |none=>rw [hj] at U;cases U.2
  |some j=>
   rw [hj] at U
   exact sR hu U.1 e1 (by rw [hj];rfl) (of_decide_eq_true U.2)
 .cases U
end
theorem Il {args':List V} {st:St} (e:args'=args.map V.wk) (h:A9 P f args' st R):A9 P f args st R:=by
 subst e
 exact ⟨λI w U hs ha=>h.a I w U hs (Aj.map (λ_ _ k=>k.wk) ha),h.b⟩
end Go.Aw
namespace Go.Proofs.Z
open Go Go.Aw
def sW:List (Nat×Ty):=[
 (1,.sc (.Av)),
 (2,.sc (.int .i64 0)),
 (3,.sc (.int .i64 0)),
 (4,.sc (.bool false)),
 (5,.sc (.int .u8 0)),
 (9,.sc (.str [])),
 (12,.sc (.int .u64 0)),
 (15,.sc (.FH)),
 (16,.sc (.FH)),
 (20,.sc (.Ge)),
 (21,.sc (.int .i32 0)),
 (22,.slice 51 4 40),
 (23,.slice 3 1 8),
 (24,.struct [(0,1),(1,1),(2,1),(3,1)] [.slice 4 [] .full,.int .i64 0,.slice 1 [] .full,.int .i64 0]),
 (25,.struct [(0,1),(1,1),(2,1),(3,1)] [.slice 4 [] .full,.int .i64 0,.slice 1 [] .full,.int .i64 0]),
 (26,.sc (.Av)),
 (27,.sc (.Av)),
 (28,.slice 30 6 72),
 (29,.struct [(0,1),(1,1),(2,1),(3,1),(4,1),(5,1)] [.int .i64 0,.int .i64 0,.str [],.int .i64 0,.int .i64 0,.slice 6 [] .full]),
 (30,.struct [(0,1),(1,1),(2,1),(3,1),(4,1),(5,1)] [.int .i64 0,.int .i64 0,.str [],.int .i64 0,.int .i64 0,.slice 6 [] .full]),
 (31,.sc (.int .i64 0)),
 (33,.sc (.Av)),
 (34,.sc (.Av)),
 (35,.struct [(0,6),(6,4),(10,1)] [.int .i64 0,.int .i64 0,.str [],.int .i64 0,.int .i64 0,.slice 6 [] .full,.slice 4 [] .full,.int .i64 0,.slice 1 [] .full,.int .i64 0,.int .i64 0]),
 (36,.struct [(0,6),(6,4),(10,1)] [.int .i64 0,.int .i64 0,.str [],.int .i64 0,.int .i64 0,.slice 6 [] .full,.slice 4 [] .full,.int .i64 0,.slice 1 [] .full,.int .i64 0,.int .i64 0]),
 (37,.sc (.Av)),
 (38,.sc (.Av)),
 (39,.sc (.Av)),
 (40,.sc (.Av)),
 (41,.sc (.Av)),
 (42,.sc (.Av)),
 (43,.sc (.Av)),
 (44,.sc (.Av)),
 (45,.sc (.Av)),
 (46,.sc (.Av)),
 (47,.slice 138 5 48),
 (49,.sc (.Av)),
 (50,.struct [(0,1),(1,1),(2,1),(3,1)] [.int .i64 0,.str [],.int .i64 0,.int .i64 0]),
 (51,.struct [(0,1),(1,1),(2,1),(3,1)] [.int .i64 0,.str [],.int .i64 0,.int .i64 0]),
 (52,.sc (.Av)),
 (53,.sc (.Av)),
 (54,.sc (.Av)),
 (55,.sc (.Av)),
 (56,.sc (.Av)),
 (57,.sc (.Av)),
 (58,.sc (.Av)),
 (59,.sc (.FH)),
 (60,.struct [(0,1),(1,1)] [.FH,.int .i64 0]),
 (61,.struct [(0,1),(1,1)] [.FH,.int .i64 0]),
 (62,.sc (.Av)),
 (63,.sc (.Av)),
 (65,.sc (.Av)),
 (66,.sc (.Av)),
 (68,.sc (.Av)),
 (69,.sc (.Av)),
 (70,.sc (.Av)),
 (71,.sc (.Av)),
 (72,.sc (.Av)),
 (73,.sc (.Av)),
 (75,.sc (.Av)),
 (76,.sc (.Av)),
 (78,.sc (.Av)),
 (79,.sc (.Av)),
 (81,.sc (.Av)),
 (82,.sc (.Av)),
 (83,.sc (.Av)),
 (84,.sc (.Av)),
 (85,.sc (.FH)),
 (86,.struct [(0,1),(1,1),(2,1)] [.int .i64 0,.int .i64 0,.int .i64 0]),
 (87,.struct [(0,1),(1,1),(2,1)] [.int .i64 0,.int .i64 0,.int .i64 0]),
 (88,.struct [(0,1),(1,1)] [.int .i64 0,.bool false]),
 (89,.struct [(0,1),(1,1)] [.int .i64 0,.bool false]),
 (90,.struct [(0,1),(1,1),(2,3),(5,1),(6,1),(7,1),(8,2)] [.str [],.int .i64 0,.int .i64 0,.int .i64 0,.int .i64 0,.slice 4 [] .full,.slice 5 [] .full,.int .i64 0,.int .i64 0,.bool false]),
 (91,.struct [(0,1),(1,1),(2,3),(5,1),(6,1),(7,1),(8,2)] [.str [],.int .i64 0,.int .i64 0,.int .i64 0,.int .i64 0,.slice 4 [] .full,.slice 5 [] .full,.int .i64 0,.int .i64 0,.bool false]),
 (92,.sc (.Av)),
 (93,.sc (.Av)),
 (94,.struct [(0,1),(1,1),(2,1)] [.int .i64 0,.int .i64 0,.int .i64 0]),
 (95,.struct [(0,1),(1,1),(2,1)] [.int .i64 0,.int .i64 0,.int .i64 0]),
 (96,.sc (.Av)),
 (97,.sc (.Av)),
 (98,.sc (.Av)),
 (99,.sc (.Av)),
 (100,.sc (.Av)),
 (101,.sc (.Av)),
 (102,.sc (.Av)),
 (103,.struct [(0,4),(4,4),(8,4),(12,1),(13,1)] [.slice 4 [] .full,.int .i64 0,.slice 1 [] .full,.int .i64 0,.int .i64 0,.str [],.int .i64 0,.int .i64 0,.slice 4 [] .full,.int .i64 0,.slice 1 [] .full,.int .i64 0,.int .i64 0,.bool false]),
 (104,.struct [(0,4),(4,4),(8,4),(12,1),(13,1)] [.slice 4 [] .full,.int .i64 0,.slice 1 [] .full,.int .i64 0,.int .i64 0,.str [],.int .i64 0,.int .i64 0,.slice 4 [] .full,.int .i64 0,.slice 1 [] .full,.int .i64 0,.int .i64 0,.bool false]),
 (105,.sc (.Av)),
 (106,.sc (.Av)),
 (107,.sc (.Av)),
 (109,.sc (.Av)),
 (111,.sc (.Av)),
 (112,.sc (.Av)),
 (113,.sc (.Av)),
 (114,.sc (.Av)),
 (115,.sc (.Av)),
 (116,.sc (.Av)),
 (117,.sc (.Av)),
 (118,.sc (.Av)),
 (119,.sc (.Av)),
 (120,.sc (.Av)),
 (121,.sc (.Av)),
 (122,.sc (.Av)),
 (124,.sc (.Av)),
 (125,.sc (.Av)),
 (126,.sc (.Av)),
 (127,.sc (.Av)),
 (128,.sc (.Av)),
 (129,.sc (.Av)),
 (131,.sc (.Av)),
 (132,.sc (.Av)),
 (133,.sc (.Av)),
 (134,.sc (.Av)),
 (136,.sc (.Av)),
 (137,.struct [(0,1),(1,1),(2,1),(3,1),(4,1)] [.str [],.int .i64 0,.int .i64 0,.int .i64 0,.int .i64 0]),
 (138,.struct [(0,1),(1,1),(2,1),(3,1),(4,1)] [.str [],.int .i64 0,.int .i64 0,.int .i64 0,.int .i64 0]),
 (139,.struct [(0,1)] [.int .i64 0]),
 (140,.struct [(0,1)] [.int .i64 0]),
 (142,.sc (.Av)),
 (143,.sc (.Av)),
 (144,.sc (.Av)),
 (145,.sc (.Av)),
 (146,.sc (.Av)),
 (147,.sc (.Av)),
 (148,.sc (.Av)),
 (149,.sc (.Av)),
 (150,.sc (.Av)),
 (151,.struct [(0,1),(1,1)] [.FH,.int .i64 0]),
 (152,.struct [(0,1),(1,1)] [.FH,.int .i64 0]),
 (153,.sc (.Av)),
 (154,.sc (.Av)),
 (155,.sc (.Av)),
 (156,.sc (.Av)),
 (157,.sc (.Av)),
 (158,.sc (.Av)),
 (159,.sc (.Av)),
 (160,.sc (.Av)),
 (161,.sc (.Av)),
 (163,.sc (.Av)),
 (165,.sc (.Av)),
 (167,.sc (.Av)),
 (168,.sc (.Av)),
 (169,.sc (.Av)),
 (170,.sc (.Av)),
 (171,.sc (.Av)),
 (172,.slice 9 1 16),
 (173,.sc (.Av)),
 (175,.sc (.Av)),
 (176,.sc (.Av)),
 (177,.sc (.Av)),
 (178,.sc (.Av)),
 (179,.sc (.Av)),
 (180,.sc (.Av)),
 (181,.sc (.Av)),
 (182,.sc (.Av)),
 (183,.sc (.Av)),
 (184,.sc (.Av)),
 (185,.sc (.Av)),
 (186,.sc (.Av)),
 (188,.sc (.Av)),
 (189,.sc (.Av)),
 (191,.sc (.int .u64 0)),
 (192,.struct [(0,1),(1,1)] [.int .u8 0,.int .u8 0]),
 (193,.struct [(0,1),(1,1)] [.int .u8 0,.int .u8 0]),
 (195,.sc (.Av)),
 (199,.sc (.Av)),
 (200,.sc (.Av)),
 (201,.sc (.FH)),
 (202,.sc (.Av)),
 (203,.struct [(0,1),(1,1),(2,1)] [.int .i64 0,.int .i64 0,.int .i64 0]),
 (204,.struct [(0,1),(1,1),(2,1)] [.int .i64 0,.int .i64 0,.int .i64 0]),
 (205,.sc (.Av)),
 (206,.sc (.Av)),
 (207,.sc (.FH)),
 (209,.sc (.Av)),
 (210,.slice 260 2 16),
 (211,.struct [(0,1),(1,1),(2,1),(3,1),(4,1)] [.str [],.int .i64 0,.bool false,.slice 1 [] .full,.slice 2 [] .full]),
 (212,.struct [(0,1),(1,1),(2,1),(3,1),(4,1)] [.str [],.int .i64 0,.bool false,.slice 1 [] .full,.slice 2 [] .full]),
 (214,.sc (.Av)),
 (215,.sc (.Av)),
 (217,.sc (.Av)),
 (218,.sc (.Av)),
 (219,.sc (.Av)),
 (221,.sc (.Av)),
 (222,.sc (.Av)),
 (223,.sc (.Av)),
 (224,.sc (.Av)),
 (225,.sc (.Av)),
 (226,.sc (.Av)),
 (227,.sc (.Av)),
 (228,.sc (.Av)),
 (229,.sc (.Av)),
 (230,.sc (.Av)),
 (231,.struct [(0,1),(1,1)] [.int .i64 0,.int .i64 0]),
 (232,.struct [(0,1),(1,1)] [.int .i64 0,.int .i64 0]),
 (234,.sc (.Av)),
 (235,.sc (.Av)),
 (236,.sc (.Av)),
 (237,.sc (.Av)),
 (239,.sc (.Av)),
 (240,.sc (.Av)),
 (241,.sc (.Av)),
 (242,.sc (.Av)),
 (243,.sc (.Av)),
 (244,.sc (.Av)),
 (245,.sc (.Av)),
 (246,.sc (.Av)),
 (247,.sc (.Av)),
 (248,.sc (.Av)),
 (249,.sc (.Av)),
 (250,.sc (.Av)),
 (251,.sc (.Av)),
 (252,.sc (.Av)),
 (253,.sc (.Av)),
 (254,.sc (.Av)),
 (255,.sc (.int .u32 0)),
 (257,.sc (.Av)),
 (258,.sc (.Av)),
 (259,.sc (.Av)),
 (260,.arr [(0,1),(1,1)] [.int .i64 0,.int .i64 0]),
 (262,.sc (.Av)),
 (263,.sc (.Av)),
 (265,.sc (.Av)),
 (266,.sc (.Av)),
 (267,.slice 269 2 16),
 (268,.struct [(0,1),(1,1)] [.int .i64 0,.int .i64 0]),
 (269,.struct [(0,1),(1,1)] [.int .i64 0,.int .i64 0]),
 (270,.sc (.Av)),
 (271,.sc (.FH)),
 (272,.slice 278 3 6),
 (273,.slice 281 3 12),
 (274,.struct [(0,1),(1,1),(2,1)] [.slice 3 [] .full,.slice 3 [] .full,.int .i64 0]),
 (275,.struct [(0,1),(1,1),(2,1)] [.slice 3 [] .full,.slice 3 [] .full,.int .i64 0]),
 (276,.sc (.int .u16 0)),
 (277,.struct [(0,1),(1,1),(2,1)] [.int .u16 0,.int .u16 0,.int .u16 0]),
 (278,.struct [(0,1),(1,1),(2,1)] [.int .u16 0,.int .u16 0,.int .u16 0]),
 (279,.sc (.Av)),
 (280,.struct [(0,1),(1,1),(2,1)] [.int .u32 0,.int .u32 0,.int .u32 0]),
 (281,.struct [(0,1),(1,1),(2,1)] [.int .u32 0,.int .u32 0,.int .u32 0]),
 (282,.sc (.Av)),
 (283,.sc (.FH)),
 (284,.sc (.FH)),
 (285,.sc (.Av)),
 (294,.sc (.FH))]
theorem Ae:SS Tryz.prog sW:=⟨qO EQ EQ,EQ⟩
theorem pB {st : St} (hf : Tryz.prog.funcs[f]? = some fn) (h : S4 sW (A9 Tryz.prog) fn [] args st λr st2 => ∃ r2 U, (r2 = r \/ r2 = r.wk) /\ St.le U st2 /\ R r2 U) (hb : fn.body.isSome = true := by rfl) (hn : (fn.name == "runtime.NumGoroutine") = false := by decide) : A9 Tryz.prog f args st R := QA Ae [] hf hb hn h
end Go.Proofs.Z
namespace Go.Proofs.Z
open Go Go.Aw Go.ChangeShapes Go.WideShapes Go.ChangeAt Go.RowKit
def Df (W:World):Mem:={cell:=λb o=>W.cell? ⟨b,o,none⟩,shape:=λb=>match W.heap[b]? with|some (.cells c _ (0,0))=>some c.size|_=>none}
def lH:St:=⟨λ_=>none,λ_=>none⟩
theorem jQ (W:World) (g:cV (Df W).cell (Df W).shape):Ct (Df W) lH W:=
 ⟨λb o v h=>h,λb n h=>(by
   simp only [Df] at h
   grind),λb cs h=>(by cases h),λb h=>absurd rfl h,λb n h=>(by cases h),g⟩
structure Kept (W W':World):Prop where
 os:W'.os=W.os
 output:W'.output=W.output
 size:W.heap.size<=W'.heap.size
 Ld:∀b,b<W.heap.size->W'.heap[b]? =W.heap[b]?
theorem iJ {args:Array Value} (g:cV (Df W).cell (Df W).shape) (h:A9 P f vs lH λr _=>r=.ret (.bool true)) (ha:Aj (Df W) vs args.toList):
 Calls P f args W λe W'=>e=.returned (.bool true)/\Kept W W':=by
 have:=h.a (Df W) W args.toList (jQ W g) ha
 rw [Array.toArray_toList] at this
 refine this.mono λe W' ⟨I',st',r,k1,k2,U,k4⟩=>?_
 subst k4
 refine ⟨?_,k1.os,k1.output,k1.size,λb hb=>k1.Ld b hb rfl rfl⟩
 cases e with
 |returned v=>
  have U:AK I' (.bool true) v:=U
  simp only [AK] at U
  rw [U]
 |panicked c=>exact U.elim
 |outgrown=>exact U.elim
section
variable {H:Type} {enc:TypeId×Value->H} {P:Program} {W W':World} {B:Nat}
theorem Kept.sameAt (h:Kept W W') {p:MemPlace} (hp:p.block<W.heap.size):W.sameAt W' p:=by
 cases p with
 |cell b off=>
  have:=h.Ld b hp
  show W'.cell? _=W.cell? _
  simp only [World.cell?,this]
 |map b=>exact h.Ld b hp
theorem Kept.frozen (h:Kept W W') {b off:Nat} (hb:b<W.heap.size):W'.frozen? ⟨b,off,none⟩=W.frozen? ⟨b,off,none⟩:=by
 simp only [World.frozen?,h.Ld b hb]
theorem Kept.keptBut (h:Kept W W') (may:MemPlace->Prop):W.keptBut W' may:=by
 refine ⟨h.os,h.output,λi hi=>?_⟩
 rw [h.Ld i hi]
 grind
theorem Li (h:Kept W W') {base:Nat} {spare:Nat->Bool} {held:Bool}:∀{ts:List TypeId} {vs:List Value} {ds:List (DataW H)} {ps:List MemPlace},
 DataW.TrodAll enc P W base spare held ts vs ds ps->(∀p ∈ ps,p.block<W.heap.size)->DataW.TrodAll enc P W' base spare held ts vs ds ps
 |[],[],[],_,U,_=>U
 |_::_,_::_,_::_,_,⟨p,q,⟨n,h1⟩,h2,e⟩,hp=>⟨p,q,⟨n,DataW.trod_carry n _ _ _ h1 λx hx=>h.sameAt (hp x kw)⟩,
   Li h h2 (λx hx=>hp x kw),e⟩
theorem iK (hl:laidOutB P=true) (hm:mapsRowed P=true) (hz:((List.range P.types.size).all λt=>match P.underlying t with|some (.slice e)=>decide (0<P.cellsOf e)|_=>true)=true)
 {f:Func} {s:ChangeSpec} {apart fresh handsOn again:Bool} {args:Array Value} {ds gs:List (DataW H)} {before:List MemPlace} {tb:TypeId} (hr:f.resultTypes=#[tb]) (htb:P.underlying tb=some .bool)
 (hts:∀t ∈ f.params.toList,t<P.types.size) (hv:s.vars=[]) (hW:DataW.Whole enc P f.params.toList s.vars apart W args.toList ds gs before) (hfn:s.fn H ds={results:=[.lit (.bool true)],args:=ds}) (hk:Kept W W'):
 s.post enc P f apart fresh handsOn again W args (.bool true) W':=by
 have hlt:∀p ∈ before,p.block<W.heap.size:=λp hp=>hW.lt p hp
 have hW':=hW
 obtain ⟨p,q,hA,hV,rfl,hfz,hnd⟩:=hW
 rw [hv] at hV
 obtain ⟨rfl,rfl⟩:=ChangeShapes.trodVars_none hV
 simp only [List.append_nil] at *
 have hres:∀(b:Nat) (sp:Nat->Bool) (hd:Bool),DataW.TrodAll enc P W' b sp hd f.resultTypes.toList ((Value.bool true).resultList f.resultTypes.size) [.lit (.bool true)] []:=by
  intro b sp hd
  rw [hr]
  refine ⟨[],[],⟨1,?_⟩,rfl,rfl⟩
  rw [DataW.trod_step]
  simp [DataW.trodStep,htb]
  rfl
 have U:∀sp:Nat->Bool,(∀x ∈ p,sp x.block=true)->DataW.TrodAll enc P W' 0 sp true f.params.toList args.toList ds p:=λsp hsp=>
  Li hk (DataW.TrodAll.respare (kids_rows hl hm) (λt e ht hu=>slices_full_of P hz t e ht hu) hts hA hsp) hlt
 have hvars:∀sp:Nat->Bool,DataW.TrodVars enc P W' sp s.vars [] []:=λsp=>by rw [hv];rfl
 have hold:∀x ∈ p,(λb=>decide (b<W.heap.size)) x.block=true:=λx hx=>by simp_all
 refine ⟨ds,[],p,[],p,[],hW',?_,?_,?_,World.keptBut_mono (λx hx=>⟨hx,.inr (.inl hx)⟩) (hk.keptBut (· ∈ p)),λ_=>⟨?_,_,[],p,⟨[]++p,[],trodAll_append (U _ λ_ _=>rfl) (hres _ _ _),hvars _,GT,?_,λha=>hnd ha⟩,λx hx _=>hx⟩⟩
 .grind
 .simp_all
 .simp_all
 .exact RowKit.ok_one hr rfl (RowKit.okWide_bool_mk htb _)
 .intro b off hb
  rw [hk.frozen (b:=b) (hlt _ hb)]
  exact hfz b off hb
def dec (P:Program):Nat->TypeId->DataW H->Option (List V)
 |0,_,_=>none
 |n+1,t,d=>match P.underlying t,d with
  |some .bool,.lit (.bool b)=>some [.bool b]
  |some (.int k),.lit (.int _ m)=>some [.int k m]
  |some .string,.lit (.string s)=>some [.str s]
  |some (.slice e),.nil=>some [.slice (P.cellsOf e) [] .any]
  |some (.slice e),.slice elems _=>(elems.mapM (dec P n e)).map λes=>[.slice (P.cellsOf e) es .any]
  |some (.struct fs),.agg parts=>if parts.length=fs.size then ((fs.toList.zip parts).mapM λp=>dec P n p.1.type p.2).map List.flatten else none
  |_,_=>none
def ZY (P:Program) (S:List TypeId):Bool:=S.all λt=>decide (t<P.types.size)&&match P.underlying t with
 |some .bool|some (.int _)|some .string=>P.cellsOf t==1
 |some (.slice e)=>S.contains e&&decide (0<P.cellsOf e)&&P.cellsOf t==1
 |some (.struct fs)=>fs.toList.all λf=>S.contains f.type
 |_=>false
theorem one_le (d:DataW H):1<=Rows.uptoBulk d:=by
 cases d with
 |lit l=>cases l<;>simp [Rows.uptoBulk]
 |_=>simp [Rows.uptoBulk]
theorem T0 {d:DataW H}:∀{l:List (DataW H)},d ∈ l->Rows.uptoBulk d<=Rows.uptoBulkAll l
 |x::r,h=>by
  simp only [Rows.uptoBulkAll]
  rcases List.mem_cons.1 h with rfl|h
  .omega
  .have:=T0 h;omega
theorem length_le:∀(l:List (DataW H)),l.length<=Rows.uptoBulkAll l
 |[]=>by simp_all
 |x::r=>by have:=one_le x;have:=length_le r;simp only [Rows.uptoBulkAll,List.length_cons];omega
theorem bo {I:Mem} {b:Nat}:∀{vs:List V} {cs:List Value} {o:Nat},Aj I vs cs->(∀j c,cs[j]? =some c->I.cell b (o+j)=some c)->CQ I b o vs
 |[],_,_,_,_=>by simp only [CQ]
 |v::r,cs,o,h,k=>by
  simp only [Aj] at h
  obtain ⟨c,s,rfl,hv,hr⟩:=h
  simp only [CQ]
  refine ⟨⟨c,by simpa using k 0 c rfl,hv⟩,bo hr λj U hj=>?_⟩
  have:=k (j+1) U kw
  grind
theorem ga {w:World} {a:Addr} {cs:List Value} (h:w.cells? 0 a n=some cs) (hs:a.spot=none):cs.length=n/\∀j c,cs[j]? =some c->w.cell? ⟨a.block,a.off+j,none⟩=some c:=by
 unfold World.cells? at h
 rw [if_pos (Nat.zero_le _)] at h
 have hl:=mapM_some_length h
 simp only [List.length_range] at hl
 refine ⟨hl,λj c U=>?_⟩
 have hjl:j<cs.length:=(List.getElem?_eq_some_iff.1 U).1
 have:=mapM_some_get h j j (List.getElem?_range AC)
 rw [U] at this
 obtain ⟨b,o,sp⟩:=a
 simp only at hs
 subst hs
 rw [C4] at this
 omega
theorem PF {w:World} {a:Addr} {cs:List Value} (h:w.cells? 0 a n=some cs) (hn:0<n):a.spot=none:=by
 unfold World.cells? at h
 rw [if_pos (Nat.zero_le _)] at h
 have hl:=mapM_some_length h
 simp only [List.length_range] at hl
 have:=mapM_some_get h 0 0 (List.getElem?_range AC)
 have U:cs[0]? =some cs[0]:=List.getElem?_eq_getElem AC
 rw [U] at this
 obtain ⟨b,o,sp⟩:=a
 cases sp with
 |none=>rfl
 |some s=>
  simp only [Addr.add,if_true,World.cell?] at this
  grind
theorem bq {I:Mem} {b sz:Nat}:∀{es:List (List V)} {o:Nat},(∀(i:Nat) (e:List V),es[i]? =some e->e.length=sz/\CQ I b (o+i*sz) e)->Cg I sz b o es
 |[],_,_=>by simp only [Cg]
 |e::r,o,h=>by
  simp only [Cg]
  refine ⟨by simpa using h 0 e rfl,bq λi e' he=>?_⟩
  have:=h (i+1) e' kw
  grind
theorem RU {S:List TypeId} (K:Kids P (·<P.types.size)) (hS:ZY P S=true) (hB:B<C9):∀(n:Nat) (t:TypeId) (cs:List Value) (x:DataW H×List MemPlace),t ∈ S->Rows.uptoBulk x.1<=B->
 DataW.trod enc P W 0 (λ_=>true) true n t cs=some x->∃vs,dec P n t x.1=some vs/\vs.length=P.cellsOf t/\Aj (Df W) vs cs:=by
 intro n
 induction n with
 |zero=>intro t cs x _ _ h;simp [DataW.trod] at h
 |succ n ih=>
  intro t cs x ht hb h
  rw [DataW.trod_step] at h
  have hc:=List.all_eq_true.1 hS t ht
  simp only [Bool.and_eq_true,decide_eq_true_eq] at hc
  obtain ⟨hts,hc⟩:=hc
  unfold DataW.trodStep at h
  unfold dec
  cases hu:P.underlying t with
  |none=>simp_all
  |some u=>
   rw [hu] at hc h
   cases u<;>simp only at hc h |-<;>try (cases hc;done)
   case bool=>
    split at h<;>simp_all
    subst h
    exact ⟨_,rfl,rfl,by simp only [Aj,AK];simp_all⟩
   case int k=>
    split at h<;>simp_all
    obtain ⟨⟨rfl,hw⟩,rfl⟩:=h
    exact ⟨_,rfl,rfl,by simp only [Aj,AK];simp_all⟩
   case string=>
    split at h<;>simp_all
    obtain ⟨h1,rfl⟩:=h
    refine ⟨_,rfl,rfl,?_⟩
    simp only [Aj,AK]
    refine ⟨_,_,rfl,⟨GT,?_⟩,rfl⟩
    simp only [Rows.uptoBulk] at hb
    omega
   case slice e=>
    simp only [Bool.and_eq_true,decide_eq_true_eq,beq_iff_eq] at hc
    obtain ⟨⟨he,U⟩,hone⟩:=hc
    have he:e ∈ S:=by simpa using he
    split at h<;>try (simp_all;done)
    .simp only [Option.some.injEq] at h
     subst h
     refine ⟨_,rfl,hone.symm,?_⟩
     simp only [Aj]
     exact ⟨_,_,rfl,Jn U _ (.inr rfl),rfl⟩
    .rename_i _ _ e' a len cap heq
     cases heq
     split at h
     .rename_i hcond
      simp only [Option.map_eq_some_iff,Option.bind_eq_some_iff] at h
      obtain ⟨elems,h1,rest,h2,rfl⟩:=h
      have hlen:elems.length=len:=by simpa using mapM_some_length h1
      simp only [Rows.uptoBulk] at hb
      have hl:=length_le (elems.map (·.1))
      simp only [List.length_map] at hl
      have one:∀(i:Nat) (y:DataW H×List MemPlace),elems[i]? =some y->∃cs,W.cells? 0 (a.add (i*P.cellsOf e)) (P.cellsOf e)=some cs/\∃vs,dec P n e y.1=some vs/\vs.length=P.cellsOf e/\Aj (Df W) vs cs:=by
       intro i y hy
       have hi:i<len:=by rw [<-hlen];exact (List.getElem?_eq_some_iff.1 hy).1
       have:=mapM_some_get h1 i i (List.getElem?_range hi)
       rw [hy] at this
       obtain ⟨cs',hcs,hy'⟩:=Option.bind_eq_some_iff.1 this
       have hmem:y.1 ∈ elems.map (·.1):=List.mem_map_of_mem (List.mem_of_getElem? hy)
       have:=T0 hmem
       exact ⟨cs',hcs,ih e cs' y he AC hy'⟩
      have hes:∃es:List (List V),(elems.map (·.1)).mapM (dec P n e)=some es/\es.length=len/\∀(i:Nat) (vs:List V),es[i]? =some vs->∃cs,W.cells? 0 (a.add (i*P.cellsOf e)) (P.cellsOf e)=some cs/\vs.length=P.cellsOf e/\Aj (Df W) vs cs:=by
       have gen:∀(l:List (DataW H×List MemPlace)) (k:Nat),(∀(i:Nat) (y:DataW H×List MemPlace),l[i]? =some y->∃cs,W.cells? 0 (a.add ((k+i)*P.cellsOf e)) (P.cellsOf e)=some cs/\∃vs,dec P n e y.1=some vs/\vs.length=P.cellsOf e/\Aj (Df W) vs cs)->
        ∃es:List (List V),(l.map (·.1)).mapM (dec P n e)=some es/\es.length=l.length/\∀(i:Nat) (vs:List V),es[i]? =some vs->∃cs,W.cells? 0 (a.add ((k+i)*P.cellsOf e)) (P.cellsOf e)=some cs/\vs.length=P.cellsOf e/\Aj (Df W) vs cs:=by
        intro l
        induction l with
        |nil=>simp_all
        |cons y r ihl=>
         intro k hl
         obtain ⟨cs,g1,vs,g2,g3,g4⟩:=hl 0 y rfl
         obtain ⟨es,k1,k2,k3⟩:=ihl (k+1) (λi y hy=>by
          have:=hl (i+1) y (by grind)
          grind)
         refine ⟨vs::es,by grind,by simp [k2],λi us hi=>?_⟩
         grind
       obtain ⟨es,k1,k2,k3⟩:=gen elems 0 (λi y hy=>by grind)
       exact ⟨es,k1,k2.trans hlen,λi vs hi=>by simp_all⟩
      obtain ⟨es,k1,k2,k3⟩:=hes
      refine ⟨[.slice (P.cellsOf e) es .any],by
       simp_all,hone.symm,?_⟩
      simp only [Aj,AK]
      refine ⟨_,[],rfl,⟨some a,cap,by rw [k2],AC,AC,U,trivial,?_⟩,rfl⟩
      have hspot:cap=0\/a.spot=none:=by
       by_cases h0:cap=0
       .omega
       .right
        by_cases hl0:len=0
        .simp only [if_true] at h2
         have hrl:rest.length=cap - len:=by simpa using mapM_some_length h2
         have:=mapM_some_get h2 0 0 (List.getElem?_range AC)
         rw [List.getElem?_eq_getElem AC] at this
         obtain ⟨cs',hcs,_⟩:=Option.bind_eq_some_iff.1 this
         have hsp:=PF hcs U
         rw [hl0] at hsp
         simpa [Addr.add] using hsp
        .obtain ⟨cs,hcs,_⟩:=one 0 elems[0] (List.getElem?_eq_getElem AC)
         have hsp:=PF hcs U
         simpa [Addr.add] using hsp
      refine ⟨hspot,bq λi vs hi=>?_⟩
      obtain ⟨cs,g1,g2,g3⟩:=k3 i vs hi
      refine ⟨g2,bo g3 λj c hj=>?_⟩
      have hi':i<es.length:=(List.getElem?_eq_some_iff.1 hi).1
      obtain rfl|hne:=Nat.eq_zero_or_pos cap
      .omega
      .obtain ⟨b,o,sp⟩:=a
       have hsp:sp=none:=hspot.resolve_left AC
       subst hsp
       rw [C4] at g1
       exact (ga g1 rfl).2 j c hj
     grind
   case struct fs=>
    split at h
    .rename_i hlen
     simp only [Option.map_eq_some_iff] at h
     obtain ⟨xs,h1,rfl⟩:=h
     simp only [Rows.uptoBulk] at hb
     have hxl:xs.length=fs.size:=by have:=mapM_some_length h1;simpa using this
     obtain ⟨hT,hsum,hoff⟩:=K.struct hts hu
     have hct:∀f ∈ fs.toList,f.type ∈ S:=λf hf=>by grind
     have gen:∀(l:List Field) (ys:List (DataW H×List MemPlace)) (rs:List Value),l.length=ys.length->(∀f ∈ l,f.type ∈ S)->(∀y ∈ ys,Rows.uptoBulk y.1<=B)->
      rs.length=(l.map λf=>P.cellsOf f.type).sum->
      (∀(j:Nat) (f:Field) (y:DataW H×List MemPlace),l[j]? =some f->ys[j]? =some y->DataW.trod enc P W 0 (λ_=>true) true n f.type ((rs.drop ((l.take j).map λf=>P.cellsOf f.type).sum).take (P.cellsOf f.type))=some y)->
      ∃vs,(l.zip (ys.map (·.1))).mapM (λp=>dec P n p.1.type p.2)=some vs/\vs.flatten.length=(l.map λf=>P.cellsOf f.type).sum/\Aj (Df W) vs.flatten rs:=by
      intro l
      induction l with
      |nil=>
       intro ys rs h0 _ _ hr _
       refine ⟨[],GT,rfl,?_⟩
       simp at hr
       subst hr
       rfl
      |cons f r ihl=>
       intro ys rs h0 hS' hB' hr hj
       cases ys with
       |nil=>grind
       |cons y ys=>
        simp only [List.map_cons,List.sum_cons] at hr
        obtain ⟨v,g1,g2,g3⟩:=ih f.type _ y (hS' f List.mem_cons_self) (hB' y List.mem_cons_self) (hj 0 f y rfl rfl)
        simp only [List.take_zero,List.map_nil,List.sum_nil,List.drop_zero] at g3
        obtain ⟨vs,k1,k2,k3⟩:=ihl ys (rs.drop (P.cellsOf f.type)) kw (λf' hf=>hS' f' (List.mem_cons_of_mem _ hf)) (λy' hy=>hB' y' (List.mem_cons_of_mem _ hy)) kw (λj f' y' hf hy=>by
         have:=hj (j+1) f' y' kw kw
         simp_all)
        refine ⟨v::vs,kw,kw,?_⟩
        have:=Aj.append g3 k3
        simp_all
     obtain ⟨vs,g1,g2,g3⟩:=gen fs.toList xs cs kw hct (λy hy=>by have:=T0 (List.mem_map_of_mem (f:=(·.1)) hy);omega) AC (λj f y hf hy=>by
      have:=mapM_some_get h1 j f hf
      grind)
     simp_all
    grind
theorem oE {u:V} {v:Value} (U:v.cells=#[v]) (h:Aj I [u] v.cells.toList):AK I u v:=by
 rw [U] at h
 simp only [Aj] at h
 simp_all
theorem X4 {v:Value} (U:P.underlying t=some .string\/(∃e,P.underlying t=some (.slice e))\/(∃k,P.underlying t=some (.int k))\/P.underlying t=some .bool) (h:Value.okWide P W .any base t v):v.cells=#[v]:=by
 cases v with
 |agg cs=>
  unfold Value.okWide at h
  rcases U with U|⟨e,U⟩|⟨k,U⟩|U<;>rw [U] at h<;>simp [Cell.okWide,Cell.ok,U] at h
 |_=>rfl
theorem N9 {u:V} {v:Value} (U:P.underlying t=some .string) (hv:Value.okWide P W .any base t v) (h:Aj I [u] v.cells.toList):AK I u v:=oE (X4 (.inl U) hv) h
end
end Go.Proofs.Z
namespace Go.Proofs.Z
open Go Go.Aw Go.ChangeShapes Go.WideShapes Go.ChangeAt Go.RowKit Go.Lib
theorem own:ownKnob Tryz.prog.godebug=none:=EQ
noncomputable def listed : List (String × DataW Unit) := [("unicode/utf8.acceptRanges", Lib.acceptData), ("unicode.White_Space", Lib.whiteData), ("strings.asciiSpace", Lib.tabData .u8 Lib.asciiSpaceTab), ("unicode/utf8.first", Lib.firstData)]
def u7:Go.Shelf.Ren:=⟨λn=>n,λ|5=>5|119=>190|138=>193|139=>194|n=>n,λ|3=>0|4=>1|n=>n⟩
theorem sS:U8Types Tryz.prog u7:=⟨EQ,EQ,EQ,EQ⟩
theorem rv:U8Extra Tryz.prog u7:=⟨EQ,EQ,EQ,EQ,EQ,EQ,EQ⟩
def qK:Array Value:=(List.replicate 256 (Value.int .u8 0)).toArray
theorem ZF:qK.size=256:=EQ
theorem z3:((begin Tryz.prog (λ_ _=>0) default).world.heap[3]?).bind Obj.row? =some (qK,190):=EQ
theorem z2:((begin Tryz.prog (λ_ _=>0) default).world.heap[2]?).bind Obj.row? =some (#[Value.int .i64 0],3):=EQ
theorem nF (hL:laidMet Tryz.prog listed W) (U:W.ShapedOpen Tryz.prog):cV (Df W).cell (Df W).shape:=by
 have h8:=utf8Tabs_of_readsT sS rv (Lib.laidMet.reads hL (.tail _ (.tail _ (.tail _ (.head _))))) (Lib.laidMet.reads hL (.head _))
 obtain ⟨g,t,cs,fuel,p,hg,hty,hvar,hd⟩:=Lib.laidMet.reads hL (.tail _ (.tail _ (.head _)))
 obtain rfl := Option.some.inj ((show Tryz.prog.globalNamed "strings.asciiSpace" = some 3 by kernel_rfl).symm.trans hg)
 obtain rfl:=Option.some.inj ((show (Tryz.prog.globals[3]?).map (·.type)=some 190 by kernel_rfl).symm.trans hty)
 have hcs:=cells_of_tab (n:=256) (e:=5) EQ EQ EQ EQ hd
 obtain ⟨cs3,hh3,hs3,_⟩:=U.1 3 _ _ (of_decide_eq_true EQ) z3
 refine ⟨h8.1,h8.2,?_,?_,?_⟩
 .exact cell_of_shapedOpen_int U (of_decide_eq_true EQ) z2 EQ EQ EQ EQ
 .intro i hi
  show W.cell? ⟨3,i,none⟩=_
  rw [World.var?_cell hg hvar i,<-Array.getElem?_toList,hcs]
  have hl:Lib.asciiSpaceTab.length=256:=GE
  simp [List.getD,hl,hi]
 .have e:(Df W).shape 3=some cs3.size:=by simp [Df,hh3]
  rw [e,hs3,ZF]
theorem nQ {l:List (String×DataW Unit)} (e:l=listed) (h:laidMetH Tryz.prog l W):laidMet Tryz.prog listed W:=by
 subst e
 unfold laidMetH at h
 rw [show listed.filter (λx=>x.2.handleName?.isSome)=[] from by kernel_rfl] at h
 exact h
theorem nR {l:List (String×DataW Unit)} (e:l=listed) (h:laidMet Tryz.prog listed W):laidMetH Tryz.prog l W:=by
 subst e
 unfold laidMetH
 rw [show listed.filter (λx=>x.2.handleName?.isSome)=[] from by kernel_rfl]
 exact h
noncomputable def KD (os:Os):World:=
 let N:=(World.settled Tryz.prog os).heap.size
 let w0:=World.holding Tryz.prog os ⟨#[.cells (Lib.whiteT.map λ(z:Nat)=>Value.int .u16 (z:Int)).toArray 278,.cells #[.slice (some ⟨N,0,none⟩) 7 7,.slice none 0 0,.int .i64 2] 275],#[],[]⟩
 let put (h:Array Obj) (g:Nat) (cs:Array Value):Array Obj:=h.modify g fun
  | .cells _ t frozen=>.cells cs t frozen
  |o=>o
 let U:=put w0.heap 0 (Lib.firstTab.map λz=>Value.int .u8 z).toArray
 let h2:=put U 1 ((List.range 16).flatMap λi=>[Value.int .u8 (Lib.accLo i),Value.int .u8 (Lib.accHi i)]).toArray
 let h3:=put h2 3 (Lib.asciiSpaceTab.map λz=>Value.int .u8 z).toArray
 let h4:=put h3 4 #[.pointer (some ⟨N+1,0,none⟩)]
 {w0 with heap:=h4}
noncomputable abbrev qF:Nat:=(World.settled Tryz.prog default).heap.size
theorem nP (os:Os) (args:Array Value):laidMet Tryz.prog listed ((KD os).forCall (λ_ _=>0) ⟨#[],args,[]⟩).memory:=
 (LaidIn.of_run (l:=listed) [1,4,qF,qF+1,3,0] 10 EQ EQ EQ EQ).met
end Go.Proofs.Z
namespace Go.Proofs.Z
open Go Go.Aw
section
variable {H:Type} {P:Program}
theorem Z0 {d:DataW H} (U:P.underlying t=some .string) (h:dec P n t d=some vs):∃s,vs=[.str s]/\s.length+1=Rows.uptoBulk d:=by
 cases n with
 |zero=>cases h
 |succ n=>
  unfold dec at h
  rw [U] at h
  split at h<;>simp_all
  exact ⟨_,h.symm,by simp [Rows.uptoBulk]⟩
end
end Go.Proofs.Z
namespace Go.Aw
open Go
inductive Nd where
 |mk (kind form:Int) (text:List UInt8) (line Cu:Int) (kids:List Nd)
namespace Nd
def kind:Nd->Int| .mk k _ _ _ _ _=>k
def form:Nd->Int| .mk _ f _ _ _ _=>f
def text:Nd->List UInt8| .mk _ _ t _ _ _=>t
def line:Nd->Int| .mk _ _ _ l _ _=>l
def Cu:Nd->Int| .mk _ _ _ _ c _=>c
def kids:Nd->List Nd| .mk _ _ _ _ _ ks=>ks
end Nd
mutual
def encR:Nd->List V
 | .mk k f t l c ks=>[.int .i64 k,.int .i64 f,.str t,.int .i64 l,.int .i64 c,.slice 6 (Ck ks) .any]
def Ck:List Nd->List (List V)
 |[]=>[]
 |n::r=>encR n::Ck r
end
def AP (n:Nd):List V:=[.int .i64 n.kind,.int .i64 n.form,.str n.text,.int .i64 n.line,.int .i64 n.Cu,.slice 6 (Ck n.kids) .any]
def enc (n:Nd):V:=.agg (AP n)
theorem mZ (n:Nd):encR n=AP n:=by cases n;rfl
theorem BR (ks:List Nd):Ck ks=ks.map AP:=by
 induction ks with
 |nil=>rfl
 |cons n r U=>simp only [Ck,mZ,U,List.map_cons]
theorem CK (ks:List Nd):(Ck ks).length=ks.length:=by rw [BR,List.length_map]
theorem U5 (ks:List Nd) (i:Nat):(Ck ks)[i]? =ks[i]?.map AP:=by rw [BR,List.getElem?_map]
theorem R4 (ks:List Nd) (i:Nat):(Ck ks).drop i=Ck (ks.drop i):=by rw [BR,BR,List.map_drop]
theorem cK (ks:List Nd) (i:Nat):(Ck ks).take i=Ck (ks.take i):=by rw [BR,BR,List.map_take]
theorem U4 (a b:List Nd):Ck (a++b)=Ck a++Ck b:=by rw [BR,BR,BR,List.map_append]
mutual
def Nd.size:Nd->Nat
 | .mk _ _ _ _ _ ks=>1+Dj ks
def Dj:List Nd->Nat
 |[]=>0
 |n::r=>n.size+Dj r
end
theorem WT:∀{l:List Nd} {x:Nd},x ∈ l->x.size<=Dj l
 |y::r,x,h=>by
  rw [Dj]
  rcases List.mem_cons.1 h with rfl|h
  .omega
  .have:=WT h;omega
theorem Gh {n x:Nd} (h:x ∈ n.kids):x.size<n.size:=by
 cases n with
 |mk a b c d e ks=>
  have:=WT (show x ∈ ks from h)
  rw [Nd.size];omega
theorem Wn {ks:List Nd} {i:Int} (h0:0<=i) (h1:i<ks.length) (k:∀x,ks[i.toNat]? =some x->x ∈ ks->K (AP x)):0<=i/\∃e,(Ck ks)[i.toNat]? =some e/\K e:=by
 have U:i.toNat<ks.length:=AC
 refine ⟨h0,AP ks[i.toNat],?_,k _ (List.getElem?_eq_getElem U) (List.getElem_mem U)⟩
 rw [U5,List.getElem?_eq_getElem U];rfl
theorem Wl {ks:List Nd} {K:Nat->Prop} (k:ks.length<4611686018427387904->K ks.length):∀m,m=(Ck ks).length->m<C9->K m:=λm U h=>by
 rw [CK] at U;subst U;exact k h
theorem Wp {ks:List Nd} {l h:Int} {K:List (List V)->Prop} (h0:0<=l) (h1:l<=h) (h2:h<=ks.length) (k:K (Ck ((ks.take h.toNat).drop l.toNat))):
 (0<=l/\l<=h/\h<=(Ck ks).length)/\∀U,U=(((Ck ks).take h.toNat).drop l.toNat)->K U:=by
 refine ⟨⟨h0,h1,by rw [CK];exact h2⟩,λU e=>?_⟩
 rw [cK,R4] at e;simp_all
theorem Wo {ks:List Nd} {l:Int} {K:List (List V)->Prop} (h0:0<=l) (h1:l<=ks.length) (k:K (Ck (ks.drop l.toNat))):
 (0<=l/\l<=((Ck ks).length:Int)/\((Ck ks).length:Int)<=(Ck ks).length)/\∀U,U=(((Ck ks).take (((Ck ks).length:Int)).toNat).drop l.toNat)->K U:=by
 refine ⟨⟨h0,by rw [CK];exact h1,Int.le_refl _⟩,λU e=>?_⟩
 rw [Int.toNat_natCast,List.take_length,R4] at e;simp_all
theorem KX {a:Int} (U: -9223372036854775808<=a) (h2:a<=9223372036854775807):IntKind.i64.wrap a=a:=IntWalk.i64_in _ ⟨U,h2⟩
theorem Wq {a:Int} {K:Int->Prop} (U: -9223372036854775808<=a) (h2:a<=9223372036854775807) (k:K a):∃r,r=IntKind.i64.wrap a/\K r:=⟨a,(KX U h2).symm,k⟩
theorem Wf {m:Nat} {a:Int} {q:Prop} (U:0<=a) (h:m=a.toNat->p) (k:¬m=a.toNat->q):Bn ((m:Int)==a) p q:=
 Wk (λe=>h (by grind)) (λe=>k (λx=>by grind))
theorem Wr {a b:Int} {K:Int->Prop} (hb:0<b) (U:0<=a) (h1:a<=4611686018427387904) (k:K (a / b)):b≠0/\∃r,r=IntKind.i64.wrap (a.tdiv b)/\K r:=by
 have e:a.tdiv b=a / b:=Int.tdiv_eq_ediv_of_nonneg U
 have h2:a / b<=a:=Int.ediv_le_self b U
 have h3:0<=a / b:=Int.ediv_nonneg U AC
 exact ⟨AC,_,(by rw [e,KX AC AC]),k⟩
theorem Ws {b:Int} (h:b≠0) (k:p):b≠0/\p:=⟨h,k⟩
theorem Wm {ks:List Nd} {i:Int} {x:Nd} (h:ks[i.toNat]? =some x) (U:0<=i) (k:K (AP x)):0<=i/\∃e,(Ck ks)[i.toNat]? =some e/\K e:=
 ⟨U,AP x,by rw [U5,h];rfl,k⟩
theorem U3 {i:Int} {x:List V} (h:es[i.toNat]? =some x) (U:0<=i) (k:K x):0<=i/\∃e,es[i.toNat]? =some e/\K e:=⟨U,x,h,k⟩
theorem Wd {k:Nat} {l:List Oper} (h:(JW k l&&HT L)=true) (q:p):(JW k l&&HT L)=true/\p:=⟨h,q⟩
theorem WF {q:Prop} (h:p):p\/q:=.inl h
theorem Af {st:St} (sched:List (Nat×Bool)) (L:List Nat) (h:JE sched all=true) (k:Fv T C all sched L (Bg (L.map some) env.boxes) Q sched env st):
 p\/∃(sched:List (Nat×Bool)) (L:List Nat),JE sched all=true/\Fv T C all sched L (Bg (L.map some) env.boxes) Q sched env st:=.inr ⟨sched,L,h,k⟩
theorem We {st:St} {K:V->Prop} (v:V) (h:Bi T C all o U env st v) (k:v.part K):
 ∃v,Bi T C all o U env st v/\v.part K:=⟨v,h,k⟩
theorem W9 {st:St} {K:V->Prop} {q:Prop} (v:V) (h:Bi T C all o U env st v) (k:v.part K):
 ∃v,(Bi T C all o U env st v\/(p/\Bi T C all o b1 env st' v)\/(q/\Bi T C all o b1 env st v))/\v.part K:=⟨v,.inl h,k⟩
theorem W8 {st:St} {K:V->Prop} {q:Prop} (h0:p) (v:V) (h:Bi T C all o b1 env st' v) (k:v.part K):
 ∃v,(Bi T C all o U env st v\/(p/\Bi T C all o b1 env st' v)\/(q/\Bi T C all o b1 env st v))/\v.part K:=⟨v,.inr (.inl ⟨h0,h⟩),k⟩
theorem W0 {st:St} {K:V->Prop} {q:Prop} (h0:q) (v:V) (h:Bi T C all o b1 env st v) (k:v.part K):
 ∃v,(Bi T C all o U env st v\/(p/\Bi T C all o b1 env st' v)\/(q/\Bi T C all o b1 env st v))/\v.part K:=⟨v,.inr (.inr ⟨h0,h⟩),k⟩
theorem Wa {e:Env}:v=v/\e=e/\s=s:=⟨rfl,rfl,rfl⟩
theorem Wb {b:Bool} {e:Env}:Bn b (V.bool true=.bool b/\e=e/\s=s) (V.bool false=.bool b/\e=e/\s=s):=by
 cases b
 .exact Wj Wa
 .exact Wi Wa
theorem Wc {b:Bool} {e:Env}:Bn b (V.bool false=.bool (!b)/\e=e/\s=s) (V.bool true=.bool (!b)/\e=e/\s=s):=by
 cases b
 .exact Wj Wa
 .exact Wi Wa
noncomputable def Env.ts (env:Env) (ch:List (Nat×V)) (keep:List Nat):List (Nat×V):=
 List.rec (motive:=λ_=>List (Nat×V)) (List.rec (motive:=λ_=>List (Nat×V)) [] (λt _ U=>(t,env.get t)::U) keep) (λp _ U=>p::U) ch
noncomputable def Env.at (env:Env) (U:List (Nat×V)) (keep:List Nat):Env:=match env with
 |⟨ts,bs,n,sz,gl⟩=>⟨Env.ts ⟨ts,bs,n,sz,gl⟩ U keep,[],n,sz,gl⟩
theorem Ly {U:(AH->Env->St->Prop)->Env->St->Prop} {st:St} (i:Nat) (keep:List Nat) (m:Nat) (J:Nat->Prop) (h0:J 0)
 (he:(env.at [(i,.int .i64 ((0:Nat):Int))] keep).Ff env)
 (hb:∀k:Nat,J k->U (B4 (λenv' st'=>∃y,J y/\m - y<m - k/\(env.at [(i,.int .i64 (y:Int))] keep).Ff env'/\St.le st st') Q) (env.at [(i,.int .i64 (k:Int))] keep) st):
 ∃(α:Type) (E:α->Env) (S:α->St) (J:α->Prop) (μ:α->Nat) (x0:α),J x0/\(E x0).Ff env/\St.le (S x0) st/\
  ∀x,J x->U (B4 (λenv' st'=>∃y,J y/\μ y<μ x/\(E y).Ff env'/\St.le (S y) st') Q) (E x) (S x):=
 ⟨Nat,λk=>env.at [(i,.int .i64 (k:Int))] keep,λ_=>st,J,λk=>m - k,0,h0,he,St.le_refl _,hb⟩
theorem eK {k:Nat}:(k:Int).tmod 2=1↔k % 2=1:=by grind
theorem Q7 {k:Nat}:(k:Int).tmod 2=0↔k % 2=0:=by grind
theorem drop_at {l:List α} {k:Nat} {x:α} (h:l[k]? =some x):l.drop k=x::l.drop (k+1):=by
 obtain ⟨U,rfl⟩:=List.getElem?_eq_some_iff.1 h
 simp_all
noncomputable def Env.bx (env:Env) (kb:List Nat):List (Nat×List V):=
 List.rec (motive:=λ_=>List (Nat×List V)) [] (λid _ U=>match assoc env.boxes id with|some cs=>(id,cs)::U|none=>U) kb
noncomputable def Env.p5 (env:Env) (U:List (Nat×V)) (keep kb:List Nat):Env:=match env with
 |⟨ts,bs,n,sz,gl⟩=>⟨Env.ts ⟨ts,bs,n,sz,gl⟩ U keep,Env.bx ⟨ts,bs,n,sz,gl⟩ kb,n,sz,gl⟩
theorem aF {st:St} (i:Nat) (keep U:List Nat) (m:Nat) (J:Nat->Prop) (h0:J 0)
 (he:(env.p5 [(i,.int .i64 ((0:Nat):Int))] keep U).Ff env)
 (hb:∀k:Nat,J k->ih (B4 (λenv' st'=>∃y,J y/\m - y<m - k/\(env.p5 [(i,.int .i64 (y:Int))] keep U).Ff env'/\St.le st st') Q) (env.p5 [(i,.int .i64 (k:Int))] keep U) st):
 ∃(α:Type) (E:α->Env) (S:α->St) (J:α->Prop) (μ:α->Nat) (x0:α),J x0/\(E x0).Ff env/\St.le (S x0) st/\
  ∀x,J x->ih (B4 (λenv' st'=>∃y,J y/\μ y<μ x/\(E y).Ff env'/\St.le (S y) st') Q) (E x) (S x):=
 ⟨Nat,λk=>env.p5 [(i,.int .i64 (k:Int))] keep U,λ_=>st,J,λk=>m - k,0,h0,he,St.le_refl _,hb⟩
theorem TI {st:St} (f:α->List (Nat×V)) (keep kb:List Nat) (S:α->St) (J:α->Prop) (U:α->Nat) (x0:α) (h0:J x0)
 (he:(env.p5 (f x0) keep kb).Ff env) (hs:St.le (S x0) st)
 (hb:∀x,J x->ih (B4 (λenv' st'=>∃y,J y/\U y<U x/\(env.p5 (f y) keep kb).Ff env'/\St.le (S y) st') Q) (env.p5 (f x) keep kb) (S x)):
 ∃(α:Type) (E:α->Env) (S:α->St) (J:α->Prop) (U:α->Nat) (x0:α),J x0/\(E x0).Ff env/\St.le (S x0) st/\
  ∀x,J x->ih (B4 (λenv' st'=>∃y,J y/\U y<U x/\(E y).Ff env'/\St.le (S y) st') Q) (E x) (S x):=
 ⟨α,λk=>env.p5 (f k) keep kb,S,J,U,x0,h0,he,hs,hb⟩
def strs (l:List (List UInt8)):List (List V):=l.map λs=>[V.str s]
theorem Ok {l new:List (List UInt8)} {own:AJ} {st:St} {K:V->St->Prop} (h:own.BM st) (hb:l.length+new.length<=1000000000)
 (k:∀U:AJ,U.BM st->K (.slice 1 (strs (l++new)) U) (U.st st (l++new).length)):Ah 1 16 (strs l) own (strs new) (own.st st l.length) K:=by
 have h0:∀l,(strs l).length=l.length:=λl=>by simp [strs]
 have h1:∀l,(strs l).map (·.map V.JI)=strs l:=λl=>by simp only [strs,List.map_map];rfl
 have:=El (sz:=1) (bytes:=16) (es:=strs l) (new:=strs new) (K:=K) h (by grind) (by rw [h0,h0];simp only [C9];omega)
  (by simp [strs,V.sc]) (λU ho=>by
    have:=k U ho
    rw [h0,h0,h1]
    rw [List.length_append] at this
    rw [Nat.mul_one,show strs l++strs new=strs (l++new) by simp [strs]]
    omega)
 simp_all
def ints (l:List Int):List (List V):=l.map λn=>[V.int .i64 n]
theorem Wg [BEq α] [LawfulBEq α] {a b:α} {q:Prop} (h:a=b->p) (k:¬a=b->q):Bn (a==b) p q:=
 Wk (λe=>h (eq_of_beq e)) (λe=>k (λx=>by simp_all))
theorem Wh [Decidable c] {q:Prop} (h:c->p) (k:¬c->q):Bn (decide c) p q:=
 Wk (λe=>h (of_decide_eq_true e)) (λe=>k (of_decide_eq_false e))
section
variable {R:AA->St->Prop} {st:St}
theorem fin (h:R r st) (e:r=r'):∃r2 U,(r2=r'\/r2=r'.wk)/\St.le U st/\R r2 U:=by subst e;exact ⟨r,st,.inl rfl,St.le_refl _,h⟩
theorem At {b b':Bool} (h:R (.ret (.bool b)) st) (e:b=b'):∃r2 U,(r2=(.ret (.bool b'))\/r2=(AA.ret (.bool b')).wk)/\St.le U st/\R r2 U:=by subst e;exact fin h rfl
theorem Tr (h:R r st) (e:r=r'.wk):∃r2 U,(r2=r'\/r2=r'.wk)/\St.le U st/\R r2 U:=by subst e;exact ⟨_,st,.inr rfl,St.le_refl _,h⟩
theorem BJ (e:r=r'.wk) (h:R r st):∃r2 U,(r2=r'\/r2=r'.wk)/\St.le U st/\R r2 U:=Tr h e
end
theorem K4 {P A:Prop} (k:A) (h:A->P:=by intro k;with_reducible first|(show _/\_;first|exact Wd EQ k|exact Wm ‹_› AC k|exact Wn AC AC k|exact Wo AC AC k|exact Wp AC AC AC k|exact Wr Do AC AC k|exact Ws Do k)|(show Bn _ _ _;first|exact Wi k|exact Wj k)|(intro x y z;exact Wl k x y z)|(show Exists _;first|exact Wq AC AC k)|fail):P:=h k
theorem K5 {P A B:Prop} (k:A) (l:B) (h:A->B->P:=by intro k l;with_reducible first|(show Bn _ _ _;first|exact Wf Do k l|exact Wg k l|exact Wh k l|exact Wk k l)|fail):P:=h k l
theorem Yl {P:Prop} (h:P:=by refine ⟨rfl,?_,?_,rfl⟩<;>repeat' (first|exact trivial|exact rfl|refine And.intro ?_ ?_)):P:=h
section
variable {D:List Deferred} {P:Program} {T:List (Nat×Ty)} {C:FuncId->List V->St->(AA->St->Prop)->Prop} {I0 I:Mem} {st0 st:St} {w0 w:World} {β:Nat->Option Nat} {env:Env} {a:Act}
def Hp (all:List Oper) (U:List (List Bool×Nat)):Bool:=
 ((List.range all.length).all λj=> !(Bx all (List.replicate all.length false) j)||U.contains (List.replicate all.length false,j))&&
 ((List.replicate all.length false==List.replicate all.length true)||(List.range all.length).any λj=>Bx all (List.replicate all.length false) j)&&
 U.all λp=>(p.1.length==all.length)&&((List.range all.length).all λj=> !(Bx all (p.1.set p.2 true) j)||U.contains (p.1.set p.2 true,j))&&
  ((p.1.set p.2 true==List.replicate all.length true)||(List.range all.length).any λj=>Bx all (p.1.set p.2 true) j)
def kY (T:List (Nat×Ty)) (C:FuncId->List V->St->(AA->St->Prop)->Prop) (all:List Oper) (Q:AH->Env->St->Prop) (E:List Bool->Env) (S:List Bool->St) (p:List Bool×Nat):Prop:=
 match all[p.2]? with
 |some o=>Bf all o (E p.1) (FI T C o (E p.1) (S p.1) (λv env st=>env.go o.dst v λenv=>(E (p.1.set p.2 true)).Ff env/\St.le (S (p.1.set p.2 true)) st) Q)
   ((E p.1).go o.dst (.Bz []) λenv=>(E (p.1.set p.2 true)).Ff env/\St.le (S (p.1.set p.2 true)) (S p.1))
 |none=>True
theorem cc (hT:Gj P T) (hC:∀f args st R,C f args st R->CB P f args st R/\Plain P f) {E:List Bool->Env} {S:List Bool->St} {PL:List (List Bool×Nat)}
 (hc:Hp all PL=true) (step:∀p ∈ PL,kY T C all Q E S p) (fin:Q .normal (E (List.replicate all.length true)) (S (List.replicate all.length true))):
 ∀(fuel:Nat) (bs:List Bool) (listed:Array Bool) (I:Mem) (β:Nat->Option Nat) (a:Act) (w:World),bs.length=all.length->listed.toList=bs->bs.count false<=fuel->
  (∀j,j<all.length->Bx all bs j=true->(bs,j) ∈ PL)->(bs=List.replicate all.length true\/∃j,j<all.length/\Bx all bs j=true)->
  Rel D I0 st0 w0 I β (E bs) (S bs) a w->wpAny P .any all.toArray (B6 D I0 st0 w0 Q) fuel listed a w:=by
 have full:∀{bs:List Bool},bs.length=all.length->bs.count false=0->bs=List.replicate all.length true:=λ{bs} hb h0=>by
  rw [List.eq_replicate_iff]
  grind
 have noready:∀{j:Nat},Bx all (List.replicate all.length true) j=true->j<all.length->False:=λ{j} h hj=>by
  unfold Bx at h
  simp_all
 simp only [Hp,Bool.and_eq_true,List.all_eq_true] at hc
 intro fuel
 induction fuel with
 |zero=>
  intro bs listed I β a w hb hl hf hp hr h
  have:=full hb AC
  subst this
  refine ⟨?_,⟨I,β,_,_,.normal,h,trivial,fin⟩⟩
  rw [List.eq_nil_iff_forall_not_mem]
  intro j hj
  obtain ⟨U,h2⟩:=(Es hl hb).1 hj
  grind
 |succ fuel ih=>
  intro bs listed I β a w hb hl hf hp hr h
  refine ⟨λh0=>?_,λi hi=>?_⟩
  .rcases hr with rfl|⟨j,U,h2⟩
   .exact ⟨I,β,_,_,.normal,h,trivial,fin⟩
   .have:=(Es hl hb).2 ⟨U,h2⟩
    simp_all
  .obtain ⟨U,h2⟩:=(Es hl hb).1 hi
   have hm:=hp i U h2
   have hs:=step _ hm
   unfold kY at hs
   have ho:all[i]? =some all[i]:=List.getElem?_eq_getElem U
   simp only [ho] at hs
   obtain ⟨⟨c1,c2⟩,c3⟩:=hc.2 _ hm
   refine LQ hT hC (Q:=Q) ho (λ{I β env st a w} h k=>?_) h hs (K:=λenv st=>(E (bs.set i true)).Ff env/\St.le (S (bs.set i true)) st)
   .have hbi:i<bs.length:=AC
    refine ih (bs.set i true) _ I _ a w kw (by simp [hl]) ?_ (λj hj hr=>?_) ?_ ((h.Hn k.2).JA (Env.JC k.1))
    .have:=List.count_set (a:=true) (i:=i) (l:=bs) (b:=false) hbi
     unfold Bx at h2
     grind
    .grind
    grind
theorem X1 (hP:SS P T) (hC:∀f args st R,C f args st R->CB P f args st R/\Plain P f) {id:Nat} {ops:Array Oper} (E:List Bool->Env) (S:List Bool->St) (PL:List (List Bool×Nat))
 (hc:Hp ops.toList PL=true) (h0:(E (List.replicate ops.toList.length false)).Ff env) (s0:St.le (S (List.replicate ops.toList.length false)) st) (step:∀p ∈ PL,kY T C ops.toList Q E S p)
 (fin:Q .normal (E (List.replicate ops.toList.length true)) (S (List.replicate ops.toList.length true))):AW P (.region id ops true) Q env st:=λD I0 st0 w0 I β a w h=>
 wp_region_any hP.m (by
  have U:=hc
  simp only [Hp,Bool.and_eq_true,List.all_eq_true] at U
  have:=cc (D:=D) hP.t hC hc step fin ops.size (List.replicate ops.toList.length false) (Array.replicate ops.size false) I _ a _ GT GT GT (λj hj hr=>?_) ?_ (((h.IV (FL.drew w)).Hn s0).JA (Env.JC h0))
  .simp_all
  .grind
  simp_all)
end
def V.au:V->Bool
 | .ptr _ _=>true
 |_=>false
theorem Aj.sl {I J:Mem}:∀{vs:List V} {cs:List Value},Aj I vs cs->vs.all V.au=true->Aj J vs cs
 |[],cs,h,_=>by simpa only [Aj] using h
 |v::vs,cs,h,k=>by
  simp only [Aj] at h |-
  obtain ⟨c,r,rfl,U,h2⟩:=h
  simp only [List.all_cons,Bool.and_eq_true] at k
  refine ⟨c,r,rfl,?_,Aj.sl h2 k.2⟩
  cases v<;>first|(simp only [AK] at U |-;exact U)|exact absurd k.1 (by simp [V.au])
def IF (P:Program) (g:FuncId) (args:List V) (x:Option V) (st:St) (R:St->Prop):Prop:=
 ∀(I:Mem) (w:World) (U:List Value) (u:FrameMode),Ct I st w->Aj I args U->
  (match x with|none=>u=.returning|some v=>∃c,u=.panicking [{v:=c,recovered:=false}]/\AK I v c)->
  CallsD P g U.toArray u w λe u' w'=>(∃v,e=.returned v)/\settle u'=.returning/\∃I' st',Fr I st w I' st' w'/\Ct I' st' w'/\R st'
section
variable {D:List Deferred} {P:Program} {T:List (Nat×Ty)} {I0 I:Mem} {st0 st:St} {w0 w:World} {β:Nat->Option Nat} {env:Env} {a:Act}
theorem Rel.defer (h:Rel D I0 st0 w0 I β env st a w) (d:Deferred):Rel (d::D) I0 st0 w0 I β env st {a with defers:=d::a.defers} w:=
 ⟨h.fr,h.s,⟨h.f.size,h.f.tmps,h.f.box,h.f.Bm,h.f.inj,h.f.sep,by rw [<-h.f.defers]⟩⟩
def V5 (T:List (Nat×Ty)) (fn:Func) (R:AA->St->Prop) (env:Env) (st:St):Prop:=
 Fq T env st fn.results.toList λvs=>match vs with|[v]=>R (.ret v) st|vs=>R (.ret (.Bz vs)) st
def YF (P:Program) (T:List (Nat×Ty)) (g:FuncId) (U:List V) (fn:Func) (R:AA->St->Prop):AH->Env->St->Prop
 | .normal,env,st| .ret,env,st=>IF P g U none st λst'=>V5 T fn R env st'
 | .B0 v,env,st=>IF P g U (some v) st λst'=>V5 T fn R env st'
 |_,_,_=>False
def l5:AH->Env->St->Prop:=λ_ _ _=>False
theorem GW {U:List Value} (gl:List Nat) (hs:Ct I st w) (hargs:Aj I args U) (hle:Nat.ble args.length fn.ntmps=true):
 Rel [] I st w I (λ_=>none) {tmps:=Jy 0 args,boxes:=[],Bm:=0,sz:=fn.ntmps,gl} st
  {tmps:=U.toArray++Array.replicate (fn.ntmps - U.toArray.size) undef,defers:=[]} w:=by
 have hle:=Nat.le_of_ble_eq_true hle
 have hlen:=Aj.length hargs
 refine Qy hs (by grind) (λt v e=>?_) rfl rfl
 obtain ⟨_,e⟩:=Pt e
 rw [Nat.sub_zero] at e
 obtain ⟨c',e1,e2⟩:=Aj.get hargs e
 have hlt:t<U.length:=by
  rcases Nat.lt_or_ge t U.length with h|h
  .exact h
  .simp_all
 have:(U.toArray++Array.replicate (fn.ntmps - U.toArray.size) undef).getD t undef=c':=by
  rw [List.getElem?_eq_getElem hlt] at e1
  injection e1 with e1
  subst e1
  simp [Array.getD,Array.getElem_append,hlt]
  omega
 simp_all
theorem MD (hP:SS P T) (gl:List Nat) (hf:P.funcs[f]? =some fn) {c0 c1:Code} {mk df:Oper}
 (hb : fn.body = some (.seq c0 (.seq c1 (.seq (.region rid #[mk, df] false) rest)))) (hn : (fn.name == "runtime.NumGoroutine") = false) {cap : Array Operand} {tf : Nat}
 (h1:mk.op=.makeFunc (.func g) #[] cap) (h2:mk.dst=some tf) (h3:mk.guard=none) (h4:df.op=.defer {callee:=.value (.tmp tf),args:=#[],argTypes:=#[]}) (h5:df.guard=none) (h6:df.dst=none)
 (hg:Plain P g) (hle:Nat.ble args.length fn.ntmps=true)
 (h:OJ T (A9 P) c0 (B4 (OJ T (A9 P) c1 (B4 (λenv st=>UE env cap.toList λvs=>vs.all V.au=true/\env.go (some tf) (.func g [] vs) λenv=>
   AW P rest (YF P T g vs fn R) env st) l5)) l5) {tmps:=Jy 0 args,boxes:=[],Bm:=0,sz:=fn.ntmps,gl} st):A9 P f args st R:=by
 refine ⟨?_,fn,hf,kw,hn⟩
 intro I w cargs hs U
 refine calls_of_wp_defers hf hb ?_
 have hsd:=λc {Q env st} k=>M6 (Q:=Q) (env:=env) (st:=st) hP (Cb P) (λ_ _ _ _ _ h k=>k.mono h) c k
 refine wp_seq (wp_mono (hsd c0 h [] I st w I _ _ w (GW gl hs U hle)) ?_)
 rintro e a w1 ⟨I1,β1,env1,st1,ae,r1,x1,k1⟩
 cases ae with
 |exit _|goto _|ret|B0 _=>exact k1.elim
 |normal=>
 cases e with
 |exit _|goto _|ret|panic _|outgrown=>exact x1.elim
 |normal=>
 refine wp_seq (wp_mono (hsd c1 k1 [] I st w I1 _ _ w1 r1) ?_)
 rintro e a w2 ⟨I2,β2,env2,st2,ae,r2,x2,k2⟩
 cases ae with
 |exit _|goto _|ret|B0 _=>exact k2.elim
 |normal=>
 cases e with
 |exit _|goto _|ret|panic _|outgrown=>exact x2.elim
 |normal=>
 refine wp_seq (wp_region_list ?_)
 show wpList P #[mk,df] _ [mk,df] a w2
 unfold wpList
 rw [if_pos (by simp [Region.wanted,h3])]
 left
 obtain ⟨vs,hv,kp,kg⟩:=FO r2.f (show UE env2 cap.toList _ from k2)
 have hcv:AK I2 (.func g [] vs) (.func (.func g) #[] (cap.map a.eval)):=by
  simp only [AK]
  exact ⟨[],cap.toList.map a.eval,by congr 1;grind,H1,hv⟩
 obtain ⟨env3,r3,k3⟩:=B9 r2 (AZ.of hcv) kg
 have htf:tf<a.tmps.size:=by
  rw [r2.f.size]
  exact (G5 kg).1 tf rfl
 unfold Oper.wp
 rw [show (execOp a.eval mk).run P w2=.ok (.value (.func (.func g) #[] (cap.map a.eval))) w2 by simp only [execOp,h1,Array.map_empty];rfl]
 show wpList P #[mk,df] _ [df] (a.put mk.dst _) w2
 rw [h2]
 unfold wpList
 rw [if_pos (by simp [Region.wanted,h5])]
 left
 have hev:(a.put (some tf) (.func (.func g) #[] (cap.map a.eval))).eval (.tmp tf)=.func (.func g) #[] (cap.map a.eval):=by
  simp [Act.put,Act.eval,htf]
 unfold Oper.wp
 rw [show (execOp (a.put (some tf) (.func (.func g) #[] (cap.map a.eval))).eval df).run P w2=.ok (.defer {target:=.fn (.func g) (cap.map a.eval),args:=#[]}) w2 by
  simp only [execOp,h4,resolve,hev,Deferred.ofValue,Array.map_empty,Array.empty_append];rfl]
 rw [Oper.upon_defer]
 rw [h6]
 unfold wpList
 show rest.wp P _ _ _
 have r4:=r3.defer {target:=.fn (.func g) (cap.map a.eval),args:=#[]}
 refine wp_mono (k3 _ I st w I2 _ _ w2 r4) ?_
 rintro e a5 w5 ⟨I5,β5,env5,st5,ae,r5,x5,k5⟩
 have hd:=r5.f.defers
 obtain ⟨fn2,p1,p2,p3⟩:=hg
 have hinv:(invoke (.fn (.func g) (cap.map a.eval)) #[]).run P w5=.ok (.enter g (cap.toList.map a.eval).toArray) w5:=by
  have hb:fn2.body.isNone=false:=by cases hb:fn2.body<;>simp_all
  simp only [invoke,callFunc,Sem.run_bind,Sem.run_pure,Result.andThen_ok,run_program,p1]
  rw [p3]
  simp [hb]
  apply Array.ext';simp
 have last:∀{u:FrameMode} {x:Option V},u≠.run->(match x with|none=>u=.returning|some v=>∃c,u=.panicking [{v:=c,recovered:=false}]/\AK I5 v c)->IF P g vs x st5 (λst'=>V5 T fn R env5 st')->
  Leaves P fn a5.tmps (λe w'=>∃I' st' r,Fr I st w I' st' w'/\Ct I' st' w'/\V3 I' e r/\R r st') a5.defers u w5:=by
  intro u x hu hx k
  rw [hd]
  refine leaves_cons hu hinv ((k I5 w5 _ u r5.s (Aj.sl hv kp) hx).mono ?_)
  rintro e u' w6 ⟨⟨v,rfl⟩,hset,I6,st6,q1,q2,q3⟩
  show Leaves P fn a5.tmps _ [] (settle u') w6
  rw [hset]
  have r6:=r5.called q1 q2
  obtain ⟨v,c,g1,g2,g3⟩:=CM (P:=P) hP.t r6 q3
  exact ⟨c,g1,I6,st6,.ret v,r6.fr,r6.s,g2,g3⟩
 cases ae with
 |normal=>
  cases e with
  |normal=>exact last (x:=none) GT rfl k5
  |_=>exact x5.elim
 |ret=>
  cases e with
  |ret=>exact last (x:=none) GT rfl k5
  |_=>exact x5.elim
 |B0 v=>
  cases e with
  |panic chain=>
   obtain ⟨c,rfl,hc⟩:=x5
   exact last (x:=some v) GT ⟨c,rfl,hc⟩ k5
  |_=>exact x5.elim
 |exit _=>exact k5.elim
 |goto _=>exact k5.elim
def su:Option V->V
 |none=>.Ge
 |some v=>v
def uz (T:List (Nat×Ty)) (fn:Func) (R:St->Prop):AH->Env->St->Prop
 | .normal,env,st| .ret,env,st=>V5 T fn (λ_ st=>R st) env st
 |_,_,_=>False
theorem Fj (hP:SS P T) (gl:List Nat) {x:Option V} {st:St} {R:St->Prop} (hf:P.funcs[g]? =some fn) {ro ao:Oper}
 (hb:fn.body=some (.seq (.region rid #[ro,ao] false) rest)) {t1 t2:Nat} {sW:Array TypeId} (h1:ro.op=.call {callee:=.builtin .recover,args:=#[],argTypes:=sW}) (h2:ro.dst=some t1) (h3:ro.guard=none)
 (h4:ao.op=.assign (.tmp t1)) (h5:ao.dst=some t2) (h6:ao.guard=none) (hle:Nat.ble args.length fn.ntmps=true)
 (h:∀env0:Env,env0={tmps:=Jy 0 args,boxes:=[],Bm:=0,sz:=fn.ntmps,gl}->env0.go (some t1) (su x) λenv=>env.go (some t2) (su x) λenv=>AW P rest (uz T fn R) env st):IF P g args x st R:=by
 intro I w U u hs hargs hx
 refine callsD_of_wpS hf hb (λc0 cs hu=>?_)
 refine wpS_seq (wpS_region ?_)
 obtain ⟨c,cs',u',hrec,hrep,hcs,hset⟩:∃(c:Value) (cs':List Frame) (u':FrameMode),(match recoverD (c0::cs) with|some (v,cs1)=>c=v/\cs'=cs1|none=>c=.nilIface/\cs'=c0::cs)/\AK I (su x) c/\cs'={c0 with mode:=u'}::cs/\settle u'=.returning:=by
  cases x with
  |none=>
   have hx:u=.returning:=hx
   rw [hx] at hu
   refine ⟨.nilIface,c0::cs,.returning,?_,H1,?_,rfl⟩
   .simp only [recoverD,hu,and_self]
   .rw [<-hu]
  |some v=>
   obtain ⟨c,hx,hc⟩:=hx
   rw [hx] at hu
   refine ⟨c,{c0 with mode:=.panicking [{v:=c,recovered:=true}]}::cs,.panicking [{v:=c,recovered:=true}],?_,hc,rfl,rfl⟩
   simp only [recoverD,hu,and_self]
 have r0:=GW (fn:=fn) gl hs hargs hle
 obtain ⟨env1,r1,k1⟩:=B9 r0 (AZ.of hrep) (h _ rfl)
 obtain ⟨env2,r2,k2⟩:=B9 r1 (AZ.of hrep) k1
 have hlt:t1<(U.toArray++Array.replicate (fn.ntmps - U.toArray.size) undef).size:=by
  have:=(G5 (h _ rfl)).1 t1 rfl
  rw [r0.f.size]
  exact this
 show wpOpsS P #[ro,ao] _ [0,1] _ _ _
 unfold wpOpsS
 simp only [List.getElem?_toArray,List.getElem?_cons_zero]
 rw [if_pos (by simp [Region.wanted,h3])]
 rw [show ∀ρ,(execOp ρ ro).run P w=.ok .recover w from λρ=>by simp only [execOp,h1];rfl]
 dsimp only
 have next:∀(b:Act) (tail:Act->List Frame->World->Prop),tail (b.put (some t1) c) cs' w->(match recoverD (c0::cs) with|some (v,cs1)=>tail (b.put ro.dst v) cs1 w|none=>tail (b.put ro.dst .nilIface) (c0::cs) w):=λb tail ht=>by grind
 refine next _ (λa cs w=>wpOpsS P #[ro,ao] _ [1] a cs w) ?_
 unfold wpOpsS
 simp only [List.getElem?_toArray,List.getElem?_cons_succ,List.getElem?_cons_zero]
 rw [if_pos (by simp [Region.wanted,h6])]
 have hev:∀tm:Act,t1<tm.tmps.size->(tm.put (some t1) c).eval (.tmp t1)=c:=λtm ht=>by simp [Act.put,Act.eval,ht]
 rw [show ∀ρ,(execOp ρ ao).run P w=.ok (.value (ρ (.tmp t1))) w from λρ=>by simp only [execOp,h4];rfl]
 dsimp only
 rw [Oper.upon_value,hev _ hlt,h5]
 unfold wpOpsS
 show rest.wpS P _ _ cs' w
 refine wpS_of_wp (wp_mono (k2 [] I st w I _ _ w r2) ?_)
 rintro e a5 w5 ⟨I5,β5,env5,st5,ae,r5,x5,k5⟩
 have last:V5 T fn (λ_ st=>R st) env5 st5->a5.defers=[]/\∃u',cs'={c0 with mode:=u'}::cs/\∃v,(results fn a5.tmps).run P w5=.ok v w5/\((∃v',Ending.returned v=.returned v')/\settle u'=.returning/\∃I' st',Fr I st w I' st' w5/\Ct I' st' w5/\R st'):=λq=>by
  obtain ⟨v,c,g1,g2,g3⟩:=CM (P:=P) (R:=λ_ st=>R st) hP.t r5 (show Fq T env5 st5 fn.results.toList _ from q)
  exact ⟨r5.f.defers,u',hcs,c,g1,⟨_,rfl⟩,hset,I5,st5,r5.fr,r5.s,g3⟩
 cases ae with
 |normal=>
  cases e with
  |normal=>exact last k5
  |_=>exact x5.elim
 |ret=>
  cases e with
  |ret=>exact last k5
  |_=>exact x5.elim
 |B0 v=>exact k5.elim
 |exit _=>exact k5.elim
 |goto _=>exact k5.elim
end
end Go.Aw
namespace Go.Aw
theorem Wt [BEq α] [LawfulBEq α] {a b:α} {q:Prop} (e:a=b) (h:p):Bn (a==b) p q:=Wg (λ_=>h) (λn=>absurd e n)
theorem Wu [BEq α] [LawfulBEq α] {a b:α} {q:Prop} (e:¬a=b) (h:q):Bn (a==b) p q:=Wg (λn=>absurd n e) (λ_=>h)
theorem Wv [Decidable c] {q:Prop} (e:c) (h:p):Bn (decide c) p q:=Wh (λ_=>h) (λn=>absurd e n)
theorem Ww [Decidable c] {q:Prop} (e:¬c) (h:q):Bn (decide c) p q:=Wh (λn=>absurd n e) (λ_=>h)
end Go.Aw
namespace Go.Proofs.Z
open Go Go.Aw
abbrev PC (f:FuncId) (args:List V) (st:St) (R:AA->St->Prop):Prop:=A9 Tryz.prog f args st R
structure Tk where
 kind:Int
 text:List UInt8
 line:Int
 Cu:Int
structure Ad where
 Ag:List Tk
 pos:Int
 CF:List Int
 wait:Int
def Tk.cells (t:Tk):List V:=[.int .i64 t.kind,.str t.text,.int .i64 t.line,.int .i64 t.Cu]
def Fl (t:Tk):V:=.agg t.cells
def Az (l:List Tk):List (List V):=l.map Tk.cells
def Ad.cells (s:Ad):List V:=[.slice 4 (Az s.Ag) .any,.int .i64 s.pos,.slice 1 (ints s.CF) .any,.int .i64 s.wait]
def DJ (s:Ad):V:=.agg s.cells
def Xu:Tk:=⟨0,[],0,0⟩
def EV:Ad:=⟨[],0,[],0⟩
theorem Ej (l:List Tk):(Az l).length=l.length:=by simp [Az]
theorem CI (l:List Int):(ints l).length=l.length:=by simp [ints]
theorem Wz {l:List Tk} {K:Nat->Prop} (k:l.length<4611686018427387904->K l.length):∀m,m=(Az l).length->m<C9->K m:=λm U h=>by
 rw [Ej] at U;subst U;exact k h
theorem WA {K:Nat->Prop} (k:l.length<4611686018427387904->K l.length):∀m,m=(ints l).length->m<C9->K m:=λm U h=>by
 rw [CI] at U;subst U;exact k h
theorem WC {l:List Tk} {i:Int} (h0:0<=i) (h1:i<l.length) (k:∀x,l[i.toNat]? =some x->K x.cells):0<=i/\∃e,(Az l)[i.toNat]? =some e/\K e:=by
 have U:i.toNat<l.length:=AC
 exact ⟨h0,l[i.toNat].cells,by simp [Az,U],k _ (List.getElem?_eq_getElem U)⟩
theorem WB {l:List Tk} {i:Int} {x:Tk} (h:l[i.toNat]? =some x) (U:0<=i) (k:K x.cells):0<=i/\∃e,(Az l)[i.toNat]? =some e/\K e:=
 ⟨U,x.cells,by simp [Az,h],k⟩
theorem WD {i:Int} (h0:0<=i) (h1:i<l.length) (k:∀x,l[i.toNat]? =some x->K [.int .i64 x]):0<=i/\∃e,(ints l)[i.toNat]? =some e/\K e:=by
 have U:i.toNat<l.length:=AC
 exact ⟨h0,[.int .i64 l[i.toNat]],by simp [ints,U],k _ (List.getElem?_eq_getElem U)⟩
theorem WE {a b:Int} {K:List (List V)->Prop} (h0:0<=a) (h1:a<=b) (h2:b<=l.length) (k:K (ints ((l.take b.toNat).drop a.toNat))):
 (0<=a/\a<=b/\b<=(ints l).length)/\∀U,U=(((ints l).take b.toNat).drop a.toNat)->K U:=by
 refine ⟨⟨h0,h1,by rw [CI];exact h2⟩,λU e=>?_⟩
 have:((ints l).take b.toNat).drop a.toNat=ints ((l.take b.toNat).drop a.toNat):=by simp [ints,List.map_drop,List.map_take]
 rw [this] at e;subst e;exact k
theorem Wx {K:Bool->Prop} (h:es=[]->K true) (k:K false):∀b,(b=true->es=[])->K b
 |true,e=>h (e rfl)
 |false,_=>k
theorem Wy {K:Bool->Prop} (h:es=[]->K false) (k:K true):∀b,(b=false->es=[])->K b
 |false,e=>h (e rfl)
 |true,_=>k
theorem Pq {new:List Int} {own:AJ} {st:St} {K:V->St->Prop} (h:own.BM st) (hb:l.length+new.length<=1000000000)
 (k:∀U:AJ,U.BM st->K (.slice 1 (ints (l++new)) U) (U.st st (l++new).length)):Ah 1 8 (ints l) own (ints new) (own.st st l.length) K:=by
 have hw:(ints new).map (·.map V.JI)=ints new:=by
  simp only [ints,List.map_map]
  exact List.map_congr_left λx _=>rfl
 have hsc:((ints new).all λv=>v.all V.sc)=true:=by
  simp only [ints,List.all_map,List.all_eq_true]
  exact λx _=>rfl
 have:=El (sz:=1) (bytes:=8) (es:=ints l) (new:=ints new) (K:=K) h (by rw [CI,CI];omega) (by rw [CI,CI];simp only [C9];omega) hsc (λU ho=>by
  have:=k U ho
  rw [CI,CI,hw,<-show ints (l++new)=ints l++ints new from by simp [ints],<-List.length_append,Nat.mul_one]
  exact this)
 rw [CI,Nat.mul_one] at this
 exact this
section
variable {st:St} {R:AA->St->Prop}
theorem EH (hs:st.le st') (e:r=r'.wk) (h:R r st):∃r2 U,(r2=r'\/r2=r'.wk)/\St.le U st'/\R r2 U:=⟨r,st,.inr e,hs,h⟩
end
theorem Db {P:Prop} (h:P:=by with_reducible first|(show _/\_;first|exact Wa)|(show Bn _ _ _;first|exact Wb|exact Wc)|fail):P:=h
theorem Bv {P A:Prop} (k:A) (h:A->P:=by intro k;with_reducible first|(show _/\_;first|exact Wd EQ k|exact Wm ‹_› AC k|exact Wn AC AC k|exact Wo AC AC k|exact Wp AC AC AC k|exact Wr Do AC AC k|exact Ws Do k|exact WB ‹_› AC k|exact WC AC AC k|exact WD AC AC k|exact WE AC AC AC k)|(show Bn _ _ _;first|exact Wt IR k|exact Wu IR k|exact Wv AC k|exact Ww AC k|exact Wi k|exact Wj k)|(intro x y z;exact Wl k x y z)|(intro x y z;exact Wz k x y z)|(intro x y z;exact WA k x y z)|(show Exists _;first|exact Wq AC AC k)|fail):P:=h k
theorem Dc {P:Prop} {B C:V->Prop} (k:V) (l:B k) (m:C k) (h:∀k,B k->C k->P:=by intro k l m;with_reducible first|(show Exists _;first|exact We k l m|exact W8 GE k l m|exact W0 GE k l m|exact W9 k l m)|fail):P:=h k l m
theorem Bw {P A B:Prop} (k:A) (l:B) (h:A->B->P:=by intro k l;with_reducible first|(show Bn _ _ _;first|exact Wf Do k l|exact Wg k l|exact Wh k l|exact Wk k l)|fail):P:=h k l
theorem JP {P A B:Prop} (k:A) (l:B) (h:A->B->P:=by intro k l;with_reducible first|(intro x y;exact Wx k l x y)|(intro x y;exact Wy k l x y)|fail):P:=h k l
end Go.Proofs.Z
namespace Go.Aw
open Go Go.ChangeShapes
theorem ib {s:ChangeSpec} {c:OpenClaim}
 (a1:(c.wf (OpenSpec.ofChange s)&&laidOutB P&&mapsRowed P&&fn.params.all (P.readableRec ·)&&namedTie P c.named s.vars&&(c.stops==[])&&(P.stops==[])&&(c.knobs==[])&&(P.stopKnobs==[]))=true)
 (a2:(c.inPlace==P.inPlace f)=true) (a3:(c.unfollowed==P.unfollowed f)=true) (a4:(c.recurses==P.recurses f)=true) (a5:(c.named==P.varsNamed f)=true)
 (a6:((c.maps==(fn.params.toList++s.plain.varTypes P).any (P.mapsRec ·))&&(c.ifaces==(fn.params.toList++s.plain.varTypes P).any (P.ifacesRec ·))&&(c.mapsOut==P.mapsAmong fn.resultTypes.toList)&&(c.loops==(fn.params.toList++s.plain.varTypes P).any (P.loopsFrom ·))&&(c.wideKeys==(fn.params.toList++s.plain.varTypes P++fn.resultTypes.toList).any (P.wideKeysFrom ·))&&s.vars.all (P.varReadable ·)&&fn.resultTypes.all (λt=>P.readableRec t&&decide (t<P.types.size))&&(c.ifacesOut==fn.resultTypes.toList.any (P.ifacesRec ·))&&(c.loopsOut==fn.resultTypes.toList.any (P.loopsFrom ·))&&(c.plainKeys==P.plainKeys)&&c.shortTexts.isNone)=true)
 (a7:P.stopsHeard=true) (a8:P.mayEnter=true) (a9:(c.lifted==P.liftsFinal)=true) (a10:(P.make==some c.make)=true)
 (U:((c.kinds==(if c.domain.isEmpty then [] else fn.params.toList.map λt=>match P.underlying t with|some (.int k)=>some k|_=>none))&&(c.pinned==c.pinnedBy)&&(c.veiled==(fn.params.toList++s.plain.varTypes P++fn.resultTypes.toList).any (P.veiledRec ·))&&c.veiledFits P fn.params.toList (fn.params.toList++s.plain.varTypes P++fn.resultTypes.toList))=true):
 joinedFacts P f fn s c=true:=by
 unfold joinedFacts
 simp only [Bool.and_eq_true] at a1 a6 U |-
 obtain ⟨⟨⟨⟨⟨⟨⟨⟨b1,b2⟩,b3⟩,b4⟩,b5⟩,b6⟩,b7⟩,b8⟩,b9⟩:=a1
 obtain ⟨⟨⟨⟨⟨⟨⟨⟨⟨⟨d1,d2⟩,d3⟩,d4⟩,d5⟩,d6⟩,d7⟩,d8⟩,d9⟩,d10⟩,d11⟩:=a6
 obtain ⟨⟨⟨g1,g2⟩,g3⟩,g4⟩:=U
 exact ⟨⟨⟨⟨⟨⟨⟨⟨⟨⟨⟨⟨⟨⟨⟨⟨⟨⟨⟨⟨⟨⟨⟨⟨⟨⟨⟨⟨⟨⟨⟨b1,b2⟩,b3⟩,b4⟩,b5⟩,b6⟩,b7⟩,b8⟩,b9⟩,a2⟩,a3⟩,a4⟩,a5⟩,d1⟩,d2⟩,d3⟩,d4⟩,d5⟩,d6⟩,d7⟩,d8⟩,d9⟩,d10⟩,d11⟩,a7⟩,a8⟩,a9⟩,a10⟩,g1⟩,g2⟩,g3⟩,g4⟩
theorem cU {c:OpenClaim} (h:P.funcs.toList.all (λf=> !f.goes)=true) (hs:c.start=.entering):false=c.goesBy P:=by
 have hall:∀f ∈ P.funcs,Func.goes f=false:=by
  intro f hf
  have:=List.all_eq_true.1 h f (by simpa using hf)
  simpa using this
 have hp:∀g,P.goes g=false:=by
  intro g
  unfold Program.goes
  have h1:((P.closure g).any λg=>(P.funcs[g]?).any Func.goes)=false:=by
   rw [Bool.eq_false_iff]
   intro hc
   obtain ⟨x, -,U⟩:=List.any_eq_true.1 hc
   cases hq:P.funcs[x]? with
   |none=>rw [hq] at U;simp at U
   |some f=>rw [hq] at U;simp only [Option.any_some] at U;rw [hall f (Array.mem_of_getElem? hq)] at U;cases U
  have h2:P.funcs.any Func.goes=false:=by
   rw [Bool.eq_false_iff]
   intro hc
   obtain ⟨i,hi,U⟩:=Array.any_eq_true.1 hc
   rw [hall _ (Array.getElem_mem hi)] at U;cases U
  rw [h1,h2];simp
 unfold OpenClaim.goesBy Program.goesAt Program.goesFrom
 rw [hs]
 cases hq:P.funcNamed c.func<;>simp [hp]
end Go.Aw
namespace Go.Proofs.Z
open Go Go.Aw Go.ChangeShapes Go.WideShapes Go.ChangeAt Go.RowKit
set_option maxRecDepth 100000
theorem cP:Tryz.prog.stopsHeard=true:=EQ
theorem cO:Tryz.prog.mayEnter=true:=EQ
theorem cQ:(false==Tryz.prog.liftsFinal)=true:=EQ
theorem ik:(Tryz.prog.make==some .cut)=true:=EQ
theorem ig:Tryz.prog.funcs.toList.all (λf=> !f.goes)=true:=EQ
theorem P2:laidOutB Tryz.prog=true:=EQ
theorem P3:mapsRowed Tryz.prog=true:=EQ
theorem ie:((List.range Tryz.prog.types.size).all λt=>match Tryz.prog.underlying t with|some (.slice e)=>decide (0<Tryz.prog.cellsOf e)|_=>true)=true:=EQ
end Go.Proofs.Z
namespace Go.Proofs.Z
open Go Go.Aw
def FJ (s:Ad):Int:=(s.CF.getLast?).getD 0
theorem lG {s:Ad} (h:¬(s.CF.length:Int)>0):FJ s=0:=by
 have:s.CF=[]:=List.length_eq_zero_iff.1 AC
 simp [FJ,this]
theorem eO {s:Ad} {x:Int} (h:s.CF[((s.CF.length:Int) - 1).toNat]? =some x):FJ s=x:=by
 have e:((s.CF.length:Int) - 1).toNat=s.CF.length - 1:=AC
 rw [e] at h
 simp [FJ,List.getLast?_eq_getElem?,h]
section
variable {st:St} {R:AA->St->Prop}
theorem On {s:Ad} (h:R (.ret (.int .i64 (FJ s))) st):PC 274 [DJ s] st R:=by
 refine pB Tryz.func274 ?_
 repeat' ((conv=>whnf);first|(refine Bv ?_;intros)|(refine Bw ?_ ?_<;>intro _)|fail)
 .exact fin h (by rw [eO ‹_›])
 .exact fin h (by rw [lG AC])
def ZC (k:Int) (t:Tk):Tk:=⟨k,[],t.line,t.Cu⟩
theorem Ot {t:Tk} (h:R (.ret (Fl (ZC k t))) st):PC 338 [.int .i64 k,Fl t] st R:=by
 refine pB Tryz.func338 ?_
 repeat' ((conv=>whnf);first|(refine Bv ?_;intros)|(refine Bw ?_ ?_<;>intro _)|fail)
 all_goals exact fin h rfl
attribute [local irreducible] Go.Aw.Ah
theorem ZV {own:AJ} (hb:l.length<=1000000000) (h:∀U:AJ,U.BM st->R (.ret (.slice 1 (ints l) U)) (U.st st l.length)):PC 337 [.slice 1 (ints l) own] st R:=by
 refine pB Tryz.func337 ?_
 repeat' ((conv=>whnf);first|(refine Bv ?_;intros)|(refine Bw ?_ ?_<;>intro _)|refine JP (λ_=>?_) ?_|fail)
 .have:l=[]:=by simpa [ints] using ‹ints l=[]›
  subst this
  exact fin (h .full trivial) rfl
 .exact Pq (l:=[]) (own:=.full) trivial kw λU ho=>fin (h U ho) rfl
theorem mG {l':List Int} {own:AJ} (e:l'=l) (hb:l.length<=1000000000) (h:∀U:AJ,U.BM st->R (.ret (.slice 1 (ints l) U)) (U.st st l.length)):PC 337 [.slice 1 (ints l') own] st R:=e ▸ ZV hb h
def KF (s:Ad) (c:Int):Ad:={s with CF:=s.CF++[c]}
theorem VT {s:Ad} {c:Int} (hb:s.CF.length<=500000000) (h:R (.ret (DJ (KF s c))) st):PC 339 [DJ s,.int .i64 c] st R:=by
 refine pB Tryz.func339 ?_
 have R6:s.CF.length+[c].length<=1000000000:=by simp only [List.length_singleton];omega
 repeat' ((conv=>whnf);first|(refine Bv ?_;intros)|(refine Bw ?_ ?_<;>intro _)|refine ZV AC (λown ho=>?_)|refine Pq (new:=[c]) ho R6 (λown' U=>?_))
 all_goals exact EH (AJ.BK U) rfl h
def EY (s:Ad):Ad:={s with CF:=s.CF.dropLast}
theorem L8 {s:Ad} (U:s.CF≠[]) (hb:s.CF.length<=500000000) (h:R (.ret (DJ (EY s))) st):PC 275 [DJ s] st R:=by
 refine pB Tryz.func275 ?_
 have hl:0<s.CF.length:=List.length_pos_iff.2 U
 have hd:(s.CF.take (((s.CF.length:Int) - 1).toNat)).drop (0:Int).toNat=s.CF.dropLast:=by
  rw [show (0:Int).toNat=0 from rfl,List.drop_zero,List.dropLast_eq_take]
  congr 1
  omega
 have R6:s.CF.dropLast.length<=1000000000:=by rw [List.length_dropLast];omega
 repeat' ((conv=>whnf);first|(refine Bv ?_;intros)|(refine Bw ?_ ?_<;>intro _)|refine mG hd R6 (λown ho=>?_))
 all_goals exact EH (AJ.BK ho) rfl h
end
theorem gy {l:List α} {k:Nat} {x:α} (h:l[k]? =some x):l.drop k=x::l.drop (k+1):=by
 obtain ⟨U,h2⟩:=List.getElem?_eq_some_iff.1 h
 rw [<-h2,List.drop_eq_getElem_cons U]
section
variable {st:St} {R:AA->St->Prop}
attribute [local irreducible] Go.Aw.Ah
def N3 (p:Int->Bool):List Int->Int->Int
 |[],_=> -1
 |y::r,i=>if p y then i else N3 p r (i+1)
theorem Vl {p:Int->Bool}:∀{l:List Int} {i:Int},0<=i->(0<=N3 p l i↔l.any p=true)
 |[],i,h=>by simp [N3]
 |y::r,i,h=>by
  simp only [N3,List.any_cons]
  split
  .simp_all
  .rename_i e
   rw [Vl AC]
   simp [e]
theorem Vm {p:Int->Bool} {own:AJ} (U:∀x (st:St) (R:AA->St->Prop),R (.ret (.bool (p x))) st->PC f [.int .i64 x] st R) (h:R (.ret (.int .i64 (N3 p l 0))) st):
 PC 386 [.slice 1 (ints l) own,.func f [] []] st R:=by
 refine pB Tryz.func386 ?_
 repeat' ((conv=>whnf);first|(refine Bv ?_;intros)|(refine Bw ?_ ?_<;>intro _)|fail)
 refine Ly 8 [7,0,1] l.length (λk=>k<=l.length/\(N3 p l 0=N3 p (l.drop k) k)) ⟨Nat.zero_le _,rfl⟩ Yl ?_
 rintro k ⟨hk,hi⟩
 repeat' ((conv=>whnf);first|(refine Bv ?_;intros)|(refine Bw ?_ ?_<;>intro _)|refine U _ _ _ ?_)
 all_goals conv=>whnf
 all_goals try (have e:=gy ‹l[Int.toNat k]? =some _›;rw [Int.toNat_natCast] at e;rw [e,N3] at hi;clear e)
 all_goals first
  |(refine ⟨k+1,⟨AC,?_⟩,AC,Yl,St.le_refl _⟩;clear h;simp_all)
  |(refine fin h ?_;clear h;simp_all;done)
  |(refine fin h ?_;rw [hi,List.drop_eq_nil_of_le AC];rfl)
theorem PI {p:Int->Bool} {own:AJ} (hf:∀x (st:St) (R:AA->St->Prop),R (.ret (.bool (p x))) st->PC f [.int .i64 x] st R) (h:R (.ret (.bool (l.any p))) st):
 PC 335 [.slice 1 (ints l) own,.func f [] []] st R:=by
 refine pB Tryz.func335 ?_
 refine Vm hf ?_
 have key:=Vl (p:=p) (l:=l) (i:=0) AC
 refine Wh (λU=>?_) (λU=>?_)
 .exact At h (key.1 U)
 .refine At h ?_
  simp_all
theorem rZ (x:Int) (st:St) (R:AA->St->Prop) (h:R (.ret (.bool (decide (x<0)))) st):PC 336 [.int .i64 x] st R:=by
 refine pB Tryz.func336 ?_
 repeat' ((conv=>whnf);first|(refine Bv ?_;intros)|(refine Bw ?_ ?_<;>intro _)|fail)
 all_goals exact At h kw
def K1 (s:Ad):Bool:=
 decide (0<=s.pos)&&decide (s.pos<=s.Ag.length)&&decide (0<=s.wait)&&decide (s.wait<=2)&&
 (decide (s.wait<=0)||(match s.Ag[s.pos.toNat]? with|some t=>t.kind==16|none=>false))&& !(s.CF.any λx=>decide (x<0))
theorem VF {s:Ad} (h:R (.ret (.bool (K1 s))) st):PC 273 [DJ s] st R:=by
 refine pB Tryz.func273 ?_
 repeat' ((conv=>whnf);first|(refine Bv ?_;intros)|(refine Bw ?_ ?_<;>intro _)|refine PI (λx st R h=>rZ x st R h) ?_)
 all_goals conv=>whnf
 all_goals refine At h ?_
 all_goals clear h
 all_goals unfold K1
 all_goals first
  |(rw [show decide (0<=s.pos)=false from decide_eq_false AC];simp only [Bool.false_and];done)
  |(rw [show decide (s.pos<=s.Ag.length)=false from decide_eq_false AC];simp only [Bool.false_and,Bool.and_false];done)
  |(rw [show decide (0<=s.wait)=false from decide_eq_false AC];simp only [Bool.false_and,Bool.and_false];done)
  |(rw [show decide (s.wait<=2)=false from decide_eq_false AC];simp only [Bool.false_and,Bool.and_false];done)
  |(have hn:s.Ag[s.pos.toNat]? =none:=List.getElem?_eq_none AC
    rw [hn,show decide (s.wait<=0)=false from decide_eq_false AC];simp only [Bool.false_and,Bool.and_false,Bool.or_false];done)
  |(rw [show decide (0<=s.pos)=true from decide_eq_true AC,show decide (s.pos<=s.Ag.length)=true from decide_eq_true AC,show decide (0<=s.wait)=true from decide_eq_true AC,show decide (s.wait<=2)=true from decide_eq_true AC]
    first
     |(rw [show decide (s.wait<=0)=true from decide_eq_true AC];simp_all;done)
     |(rw [show decide (s.wait<=0)=false from decide_eq_false AC];simp_all;done))
 all_goals trace_state
def GY (t:Tk) (s:Ad):Tk×Ad:=
 if s.wait=1 then (ZC 20 t,{s with wait:=2})
 else if FJ s<t.Cu then (ZC 18 t,{KF s t.Cu with pos:=s.pos+1})
 else (ZC 18 t,{s with wait:=1})
def qb (p:Tk×Ad):V:=.Bz [Fl p.1,DJ p.2]
theorem mq {t:Tk} {s:Ad} (hp:0<=s.pos/\s.pos<=4611686018427387904) (hb:s.CF.length<=500000000) (h:R (.ret (qb (GY t s))) st):PC 276 [Fl t,DJ s] st R:=by
 refine pB Tryz.func276 ?_
 repeat' ((conv=>whnf);first|exact Db|(refine Bv ?_;intros)|(refine Dc ?_ ?_ ?_;rotate_left)|(refine Bw ?_ ?_<;>intro _)|refine Ot (t:=t) ?_|refine On (s:=s) ?_|refine VT (s:=s) hb ?_|refine Wq (a:=s.pos+1) AC AC ?_|refine Af [(0,true),(2,true),(1,false),(3,false),(4,false)] [2,3] GE ?_|refine Af [(0,true),(1,true),(2,true),(3,false),(4,true),(5,true)] [] GE ?_|refine Af [(0,true),(2,true),(1,false),(3,false),(4,false)] [2,3] GE ?_|with_reducible refine WF ?_)
 all_goals unfold GY at h
 .rw [if_pos AC] at h;exact BJ rfl h
 .rw [if_neg AC,if_pos AC] at h;exact BJ rfl h
 .rw [if_neg AC,if_neg AC] at h;exact BJ rfl h
def Ed (t:Tk) (s:Ad):Tk×Ad:=
 if 0<FJ s/\t.Cu<FJ s then (ZC 20 t,EY s)
 else if 0<FJ s/\t.Cu=FJ s then (ZC 19 t,{s with pos:=s.pos+1,wait:=0})
 else (Xu,{s with pos:=s.pos+1,wait:=0})
theorem SK {s:Ad} (h:0<FJ s):s.CF≠[]:=λe=>by simp [FJ,e] at h
theorem rS {t:Tk} {s:Ad} (hp:0<=s.pos/\s.pos<=4611686018427387904) (hb:s.CF.length<=500000000) (h:R (.ret (qb (Ed t s))) st):PC 277 [Fl t,DJ s] st R:=by
 refine pB Tryz.func277 ?_
 repeat' ((conv=>whnf);first|exact Db|(refine Bv ?_;intros)|(refine Dc ?_ ?_ ?_;rotate_left)|(refine Bw ?_ ?_<;>intro _)|refine Ot (t:=t) ?_|refine On (s:=s) ?_|refine L8 (s:=s) (SK AC) hb ?_|refine Wq (a:=s.pos+1) AC AC ?_|refine Af [(0,true),(2,true),(1,false),(3,false),(4,false),(5,false)] [2,3] GE ?_|refine Af [(0,true),(2,true),(1,false),(3,false),(4,false)] [2,3] GE ?_|refine Af [(0,true),(1,true),(2,false),(3,false)] [2,3] GE ?_|with_reducible refine WF ?_)
 all_goals unfold Ed at h
 all_goals first
  |(rw [if_pos ⟨AC,AC⟩] at h;exact BJ rfl h)
  |(rw [if_neg AC,if_pos ⟨AC,AC⟩] at h;exact BJ rfl h)
  |(rw [if_neg AC,if_neg AC] at h;exact BJ rfl h)
 all_goals trace_state
def BC (t:Tk) (s:Ad):Tk×Ad×Int:=
 if t.kind=15/\t.text=[123] then (t,{KF s 0 with pos:=s.pos+1},0)
 else if t.kind=15/\t.text=[125] then
  if s.CF=[]\/FJ s≠0 then (Xu,s,90) else (t,{EY s with pos:=s.pos+1},0)
 else (t,{s with pos:=s.pos+1},0)
def Yc (p:Tk×Ad×Int):V:=.Bz [Fl p.1,DJ p.2.1,.int .i64 p.2.2]
theorem Ih (h:¬l.length=Int.toNat 0):l≠[]:=λe=>h (by grind)
theorem jy (h:l.length=Int.toNat 0):l=[]:=List.length_eq_zero_iff.1 AC
theorem mC {t:Tk} {s:Ad} (hp:0<=s.pos/\s.pos<=4611686018427387904) (hb:s.CF.length<=500000000) (h:R (.ret (Yc (BC t s))) st):PC 278 [Fl t,DJ s] st R:=by
 refine pB Tryz.func278 ?_
 repeat' ((conv=>whnf);first|exact Db|(refine Bv ?_;intros)|(refine Dc ?_ ?_ ?_;rotate_left)|(refine Bw ?_ ?_<;>intro _)|refine On (s:=s) ?_|refine VT (s:=s) hb ?_|refine L8 (s:=s) (Ih ‹_›) hb ?_|refine Wq (a:=s.pos+1) AC AC ?_|refine Af [(0,true),(1,true),(2,false),(3,false),(4,true)] [2,3] GE ?_|refine Af [(0,true),(1,true),(2,false),(3,false),(4,true)] [2,3] GE ?_|with_reducible refine WF ?_)
 all_goals unfold BC at h
 all_goals first
  |(rw [if_pos ⟨FS,FS⟩] at h;exact BJ rfl h)
  |(rw [if_neg (λe=>absurd e.2 ‹_›),if_pos ⟨FS,FS⟩,if_pos (.inl (jy ‹_›))] at h;exact BJ rfl h)
  |(rw [if_neg (λe=>absurd e.2 ‹_›),if_pos ⟨FS,FS⟩,if_pos (.inr ‹_›)] at h;exact BJ rfl h)
  |(rw [if_neg (λe=>absurd e.2 ‹_›),if_pos ⟨FS,FS⟩,if_neg (λe=>e.elim (Ih ‹_›) (λe=>e ‹_›))] at h;exact BJ rfl h)
  |(rw [if_neg (λe=>absurd e.1 ‹_›),if_neg (λe=>absurd e.1 ‹_›)] at h;exact BJ rfl h)
  |(rw [if_neg (λe=>absurd e.2 ‹_›),if_neg (λe=>absurd e.2 ‹_›)] at h;exact BJ rfl h)
 all_goals trace_state
def Gb (s:Ad):Tk×Ad×Int:=
 if s.CF=[] then (⟨21,[],0,0⟩,s,0) else if 0<FJ s then (⟨20,[],0,0⟩,EY s,0) else (Xu,s,90)
theorem rl {s:Ad} (hb:s.CF.length<=500000000) (h:R (.ret (Yc (Gb s))) st):PC 279 [DJ s] st R:=by
 refine pB Tryz.func279 ?_
 repeat' ((conv=>whnf);first|exact Db|(refine Bv ?_;intros)|(refine Dc ?_ ?_ ?_;rotate_left)|(refine Bw ?_ ?_<;>intro _)|refine On (s:=s) ?_|refine L8 (s:=s) (Ih ‹_›) hb ?_|refine Af [(0,true),(1,true),(2,false),(3,false),(4,true)] [1,2] GE ?_|refine Af [(0,true),(1,true),(2,false),(3,false),(4,true)] [1,2] GE ?_|with_reducible refine WF ?_)
 all_goals unfold Gb at h
 all_goals first
  |(rw [if_pos (jy ‹_›)] at h;exact BJ rfl h)
  |(rw [if_neg (Ih ‹_›),if_pos ‹_›] at h;exact BJ rfl h)
  |(rw [if_neg (Ih ‹_›),if_neg ‹_›] at h;exact BJ rfl h)
 all_goals trace_state
end
end Go.Proofs.Z
namespace Go.Aw
noncomputable def Env.um (env:Env) (ch:List (Nat×V)) (keep:List Nat) (U:List (Nat×List V)) (kb:List Nat):Env:=match env with
 |⟨ts,bs,n,sz,gl⟩=>⟨Env.ts ⟨ts,bs,n,sz,gl⟩ ch keep,U++Env.bx ⟨ts,bs,n,sz,gl⟩ kb,n,sz,gl⟩
theorem Qk {st:St} (f:α->List (Nat×V)) (keep:List Nat) (g:α->List (Nat×List V)) (kb:List Nat) (S:α->St) (J:α->Prop) (U:α->Nat) (x0:α) (h0:J x0)
 (he:(env.um (f x0) keep (g x0) kb).Ff env) (hs:St.le (S x0) st)
 (hb:∀x,J x->ih (B4 (λenv' st'=>∃y,J y/\U y<U x/\(env.um (f y) keep (g y) kb).Ff env'/\St.le (S y) st') Q) (env.um (f x) keep (g x) kb) (S x)):
 ∃(α:Type) (E:α->Env) (S:α->St) (J:α->Prop) (U:α->Nat) (x0:α),J x0/\(E x0).Ff env/\St.le (S x0) st/\
  ∀x,J x->ih (B4 (λenv' st'=>∃y,J y/\U y<U x/\(E y).Ff env'/\St.le (S y) st') Q) (E x) (S x):=
 ⟨α,λk=>env.um (f k) keep (g k) kb,S,J,U,x0,h0,he,hs,hb⟩
theorem WQ {T:List (Nat×Ty)} {C:FuncId->List V->St->(AA->St->Prop)->Prop} {w:CW} {U:Nat->Option CW} {st:St}
 (h:w (aq (λl env' st'=>∃y:Nat,y=l/\False/\env.Ff env'/\St.le st st') Q) env st):O7 w U Q env st:=
 ⟨Nat,λy=>y,λ_=>env,λ_=>st,λ_=>False,λ_=>0,h,λx e=>e.elim⟩
end Go.Aw
namespace Go.Proofs.Z
open Go Go.Aw
def Fw:Nat->Ad->Tk×Ad×Int
 |0,s=>Gb s
 |n+1,s=>match s.Ag[s.pos.toNat]? with
  |none=>Gb s
  |some t=>if t.kind=16/\s.wait<2 then ((GY t s).1,(GY t s).2,0)
   else if t.kind=16\/t.kind=17 then
    if (Ed t s).1.kind=0 then Fw n (Ed t s).2 else ((Ed t s).1,(Ed t s).2,0)
   else BC t s
def Jc (s:Ad):Tk×Ad×Int:=Fw (s.Ag.length - s.pos.toNat) s
def Ab (s:Ad):Tk×Ad×Int:=if K1 s then Jc s else (Xu,EV,1)
theorem FR {t:Tk} {s:Ad} (h:(Ed t s).1.kind=0):(Ed t s).2={s with pos:=s.pos+1,wait:=0}:=by
 unfold Ed at h |-
 split
 .rename_i e;rw [if_pos e] at h;exact absurd h (by simp [ZC])
 grind
theorem Nq {s:Ad} (h:¬s.pos<s.Ag.length) (U:0<=s.pos):Jc s=Gb s:=by
 have:s.Ag.length - s.pos.toNat=0:=AC
 rw [Jc,this,Fw]
theorem Ij {s:Ad} {t:Tk} (h:s.Ag[s.pos.toNat]? =some t) (h0:0<=s.pos):Jc s=if t.kind=16/\s.wait<2 then ((GY t s).1,(GY t s).2,0)
 else if t.kind=16\/t.kind=17 then
  if (Ed t s).1.kind=0 then Jc (Ed t s).2 else ((Ed t s).1,(Ed t s).2,0)
 else BC t s:=by
 obtain ⟨U,_⟩:=List.getElem?_eq_some_iff.1 h
 obtain ⟨n,hn⟩:∃n,s.Ag.length - s.pos.toNat=n+1:=⟨s.Ag.length - s.pos.toNat - 1,AC⟩
 rw [Jc,hn,Fw,h]
 dsimp only
 split
 .rfl
 .split
  .split
   .rename_i e
    rw [Jc,FR e]
    grind
   .rfl
  .rfl
section
variable {st:St} {R:AA->St->Prop}
attribute [local irreducible] Go.Aw.Ah
theorem ot {s:Ad} (hb:s.CF.length<=500000000) (h:R (.ret (Yc (Ab s))) st):PC 209 [DJ s] st R:=by
 refine pB Tryz.func209 ?_
 conv=>whnf
 refine WQ (T:=sW) (C:=A9 Tryz.prog) ?_
 unfold Ab at h
 repeat' ((conv=>whnf);first|exact Db|(refine Bv ?_;intros)|(refine Dc ?_ ?_ ?_;rotate_left)|(refine Bw ?_ ?_<;>intro _)|refine VF (s:=s) ?_|refine Af [(0,true),(1,true),(2,false),(3,false),(4,true)] [1,2] GE ?_|refine Af [(0,true),(1,true),(2,false),(3,false),(4,true)] [1,2] GE ?_|with_reducible refine WF ?_)
 .rename_i e
  rw [e] at h
  have hm:=e
  unfold K1 at hm
  simp only [Bool.and_eq_true,decide_eq_true_eq] at hm
  refine Qk (α:=Ad) (λx=>[]) [1,2,3,4] (λx=>[(0,x.cells)]) [1,2] (λ_=>st) (λx=>x.Ag=s.Ag/\x.CF=s.CF/\0<=x.pos/\x.pos<=x.Ag.length/\Jc x=Jc s) (λx=>x.Ag.length - x.pos.toNat) s ⟨rfl,rfl,AC,AC,rfl⟩ Yl (St.le_refl _) ?_
  rintro x ⟨x1,x2,x3,x4,x5⟩
  rw [<-x5] at h
  have U:x.CF.length<=500000000:=by rw [x2];exact hb
  repeat' ((conv=>whnf);first|exact Db|(refine Bv ?_;intros)|(refine Dc ?_ ?_ ?_;rotate_left)|(refine Bw ?_ ?_<;>intro _)|refine mq (s:=x) ⟨AC,AC⟩ U ?_|refine rS (s:=x) ⟨AC,AC⟩ U ?_|refine mC (s:=x) ⟨AC,AC⟩ U ?_|refine rl (s:=x) U ?_|refine Af [(0,true),(1,true),(2,false),(3,false),(4,true)] [1,2] GE ?_|refine Af [(0,true),(1,true),(2,false),(3,false),(4,true)] [1,2] GE ?_|with_reducible refine WF ?_)
  all_goals rw [if_pos rfl] at h
  all_goals first
   |(rw [Ij ‹_› x3,if_pos AC] at h;exact BJ rfl h)
   |(rw [Ij ‹_› x3,if_neg AC,if_pos AC,if_neg AC] at h;exact BJ rfl h)
   |(rw [Ij ‹_› x3,if_neg AC,if_neg AC] at h;exact BJ rfl h)
   |(rw [Nq AC x3] at h;exact BJ rfl h)
   |(have hz:(Ed ‹Tk› x).1.kind=0:=by assumption
     refine ⟨(Ed ‹Tk› x).2,?_,?_,Yl,St.le_refl _⟩
     .rw [FR hz]
      refine ⟨x1,x2,by show 0<=x.pos+1;omega,by show x.pos+1<=x.Ag.length;omega,?_⟩
      rw [<-x5,Ij (s:=x) ‹_› x3,if_neg AC,if_pos AC,if_pos hz,FR hz]
     .rw [FR hz]
      show x.Ag.length - (x.pos+1).toNat<_
      omega)
  all_goals trace_state
 .rename_i e
  rw [e] at h
  exact BJ rfl h
end
end Go.Proofs.Z
namespace Go.Aw
theorem St.Ai (st:St) (b:Nat) (cs:List V):(st.Aa b cs).box b=some cs:=by simp [St.Aa]
theorem St.set_set (st:St) (b:Nat) (cs cs':List V):(st.Aa b cs).Aa b cs'=st.Aa b cs':=by
 simp only [St.Aa,St.mk.injEq,and_true]
 simp_all
theorem St.QH {st:St} (h:st.box b=some cs):st.Aa b cs=st:=by
 cases st with
 |mk box hw=>
  simp only [St.Aa,St.mk.injEq,and_true]
  grind
theorem Au {st:St} (h:st.box b=some cs) (k:K cs):∃cs,st.box b=some cs/\K cs:=⟨cs,h,k⟩
end Go.Aw
namespace Go.Proofs.Z
open Go Go.Aw
def CL (s:Ad):List V:=[.slice 4 (Az s.Ag) .any,.int .i64 s.pos,.slice 1 (ints s.CF) .any,.int .i64 s.wait,
 .int .i64 (Ab s).1.kind,.str (Ab s).1.text,.int .i64 (Ab s).1.line,.int .i64 (Ab s).1.Cu,
 .slice 4 (Az (Ab s).2.1.Ag) .any,.int .i64 (Ab s).2.1.pos,.slice 1 (ints (Ab s).2.1.CF) .any,.int .i64 (Ab s).2.1.wait,.int .i64 (Ab s).2.2,.bool true]
def Vk (s:Ad) (t:Tk) (u:Ad) (o1 o2:AJ) (e:Int):List V:=[.slice 4 (Az s.Ag) .any,.int .i64 s.pos,.slice 1 (ints s.CF) .any,.int .i64 s.wait,
 .int .i64 t.kind,.str t.text,.int .i64 t.line,.int .i64 t.Cu,.slice 4 (Az u.Ag) o1,.int .i64 u.pos,.slice 1 (ints u.CF) o2,.int .i64 u.wait,.int .i64 e,.bool false]
def Has (st:St) (b:Nat) (s:Ad):Prop:=st.box b=some (CL s)\/∃t u o1 o2 e,st.box b=some (Vk s t u o1 o2 e)
def Ho (st st':St) (b:Nat) (s:Ad):Prop:=Has st' b s/\∃cs,st'=st.Aa b cs
theorem Ho.trans {st U st2:St} {s1 s2:Ad} (h:Ho st U b s1) (k:Ho U st2 b s2):Ho st st2 b s2:=by
 obtain ⟨_,c1,e1⟩:=h
 obtain ⟨h2,c2,e2⟩:=k
 subst e1
 rw [St.set_set] at e2
 exact ⟨h2,c2,e2⟩
theorem A0 {st:St} {s:Ad}:Ho st (st.Aa b (CL s)) b s:=⟨.inl (St.Ai ..),_,rfl⟩
def fault (e:Int):V:=.iface 140 (.agg [.int .i64 e])
section
variable {st:St} {R:AA->St->Prop}
attribute [local irreducible] Go.Aw.Ah
theorem iv (e:r=r'.wk) (es:st'=st) (h:R r st):∃r2 U,(r2=r'\/r2=r'.wk)/\St.le U st'/\R r2 U:=by subst es;exact ⟨r,st',.inr e,St.le_refl _,h⟩
theorem iY {s:Ad} (hs:Has st b s) (hb:s.CF.length<=500000000) (h:R (.ret (.Bz [])) (st.Aa b (CL s))):PC 153 [.ptr b 0] st R:=by
 refine pB Tryz.func153 ?_
 rcases hs with hs|⟨t,u,o1,o2,e,hs⟩
 .rw [St.QH hs] at h
  repeat' ((conv=>whnf);first|(refine Bv ?_;intros)|(refine Bw ?_ ?_<;>intro _)|refine Au hs ?_)
  all_goals exact fin h rfl
 .skip
  repeat' ((conv=>whnf);first|(refine Bv ?_;intros)|(refine Bw ?_ ?_<;>intro _)|refine Au hs ?_|refine Au (St.Ai ..) ?_|refine ot (s:=s) hb ?_)
  all_goals exact iv rfl (by simp only [St.set_set];rfl) h
theorem Gn {s:Ad} (hs:Has st b s) (hb:s.CF.length<=500000000) (h:R (.ret (Fl (Ab s).1)) (st.Aa b (CL s))):PC 83 [.ptr b 0] st R:=by
 refine pB Tryz.func83 ?_
 repeat' ((conv=>whnf);first|(refine Bv ?_;intros)|(refine Bw ?_ ?_<;>intro _)|refine Au (St.Ai ..) ?_|refine iY hs hb ?_)
 all_goals exact BJ rfl h
theorem Cd {e:Int} (h:R (.B0 (fault e)) st):PC 73 [v,.int .i64 e] st R:=by
 refine pB Tryz.func73 ?_
 repeat' ((conv=>whnf);first|(refine Bv ?_;intros)|(refine Bw ?_ ?_<;>intro _)|fail)
 all_goals exact fin h rfl
def S0 (s:Ad):Int:=if (Ab s).2.2=0 then 110 else (Ab s).2.2
theorem fG {s:Ad} (hs:Has st b s) (hb:s.CF.length<=500000000) (h:R (.B0 (fault (S0 s))) (st.Aa b (CL s))):PC 171 [.ptr b 0] st R:=by
 refine pB Tryz.func171 ?_
 unfold S0 at h
 repeat' ((conv=>whnf);first|(refine Bv ?_;intros)|(refine Bw ?_ ?_<;>intro _)|refine Au (St.Ai ..) ?_|refine iY hs hb ?_|refine Cd ?_)
 all_goals first
  |(rw [if_pos ‹_›] at h;exact fin h rfl)
  |(rw [if_neg ‹_›] at h;exact fin h rfl)
theorem nE {s s':Ad} (hs:st.box b=some (CL s)) (h:∀st',Ho st st' b s'->R (.ret (.Bz [])) st'):PC 72 [.ptr b 0,DJ s'] st R:=by
 refine pB Tryz.func72 ?_
 have h:=h (st.Aa b (Vk s' (Ab s).1 (Ab s).2.1 .any .any (Ab s).2.2)) ⟨.inr ⟨_,_,_,_,_,St.Ai ..⟩,_,rfl⟩
 repeat' ((conv=>whnf);first|(refine Bv ?_;intros)|(refine Bw ?_ ?_<;>intro _)|refine Au hs ?_|refine Au (St.Ai ..) ?_)
 all_goals exact iv rfl (by simp only [St.set_set];rfl) h
theorem nD {s s':Ad} {t:Tk} {u:Ad} {o1 o2:AJ} {e:Int} (hs:st.box b=some (Vk s t u o1 o2 e)) (h:∀st',Ho st st' b s'->R (.ret (.Bz [])) st'):PC 72 [.ptr b 0,DJ s'] st R:=by
 refine pB Tryz.func72 ?_
 have h:=h (st.Aa b (Vk s' t u o1 o2 e)) ⟨.inr ⟨_,_,_,_,_,St.Ai ..⟩,_,rfl⟩
 repeat' ((conv=>whnf);first|(refine Bv ?_;intros)|(refine Bw ?_ ?_<;>intro _)|refine Au hs ?_|refine Au (St.Ai ..) ?_)
 all_goals exact iv rfl (by simp only [St.set_set];rfl) h
theorem nC {s s':Ad} (hs:Has st b s) (h:∀st',Ho st st' b s'->R (.ret (.Bz [])) st'):PC 72 [.ptr b 0,DJ s'] st R:=by
 rcases hs with hs|⟨t,u,o1,o2,e,hs⟩
 .exact nE hs h
 .exact nD hs h
theorem Ud {s:Ad} (hs:Has st b s) (hb:s.CF.length<=500000000) (h:(Ab s).2.2=0->∀st',Ho st st' b (Ab s).2.1->R (.ret (Fl (Ab s).1)) st')
 (k:¬(Ab s).2.2=0->R (.B0 (fault (Ab s).2.2)) (st.Aa b (CL s))):PC 139 [.ptr b 0] st R:=by
 refine pB Tryz.func139 ?_
 repeat' ((conv=>whnf);first|(refine Bv ?_;intros)|(refine Bw ?_ ?_<;>intro _)|refine Au (St.Ai ..) ?_|refine Gn hs hb ?_|refine Cd ?_|refine nC (s':=(Ab s).2.1) (.inl (St.Ai st b (CL s))) (λst' U=>?_))
 .exact BJ rfl (h AC st' (A0.trans U))
 .exact fin (k AC) rfl
def Bk (t:Tk):Nd:=.mk 1 t.kind t.text t.line t.Cu []
theorem rP {t:Tk} (h:R (.ret (enc (Bk t))) st):PC 195 [Fl t] st R:=by
 refine pB Tryz.func195 ?_
 repeat' ((conv=>whnf);first|(refine Bv ?_;intros)|(refine Bw ?_ ?_<;>intro _)|fail)
 all_goals exact BJ rfl h
def AU (s:Ad) (k:Int) (x:List UInt8):Bool:=(Ab s).1.kind==k&&(Ab s).1.text==x
theorem Yz {s:Ad} (hs:Has st b s) (hb:s.CF.length<=500000000) (h:R (.ret (.bool (AU s k x))) (st.Aa b (CL s))):PC 156 [.ptr b 0,.int .i64 k,.str x] st R:=by
 refine pB Tryz.func156 ?_
 repeat' ((conv=>whnf);first|(refine Bv ?_;intros)|(refine Bw ?_ ?_<;>intro _)|refine Gn hs hb ?_)
 all_goals (refine At h ?_;clear h;simp_all [AU])
theorem LM {s:Ad} (hs:Has st b s) (hb:s.CF.length<=500000000) (h:(Ab s).2.2=0->∀st',Ho st st' b (Ab s).2.1->R (.ret (enc (Bk (Ab s).1))) st')
 (k:¬(Ab s).2.2=0->R (.B0 (fault (Ab s).2.2)) (st.Aa b (CL s))):PC 121 [.ptr b 0] st R:=by
 refine pB Tryz.func121 ?_
 repeat' ((conv=>whnf);first|(refine Bv ?_;intros)|(refine Bw ?_ ?_<;>intro _)|refine Ud hs hb (λe st' U=>?_) (λe=>?_)|refine rP (t:=(Ab s).1) ?_)
 .exact BJ rfl (h e st' U)
 .exact fin (k e) rfl
theorem lT {s:Ad} (hs:Has st b s) (hb:s.CF.length<=500000000) (h:AU s k x=true->(Ab s).2.2=0->∀st',Ho st st' b (Ab s).2.1->R (.ret (enc (Bk (Ab s).1))) st')
 (k1:AU s k x=true->¬(Ab s).2.2=0->R (.B0 (fault (Ab s).2.2)) (st.Aa b (CL s))) (k2:AU s k x=false->R (.B0 (fault (S0 s))) (st.Aa b (CL s))):PC 118 [.ptr b 0,.int .i64 k,.str x] st R:=by
 refine pB Tryz.func118 ?_
 have U:Has (st.Aa b (CL s)) b s:=.inl (St.Ai ..)
 repeat' ((conv=>whnf);first|(refine Bv ?_;intros)|(refine Bw ?_ ?_<;>intro _)|refine Yz hs hb ?_|refine LM U hb (λe st' hu=>?_) (λe=>?_)|refine fG U hb ?_)
 .exact BJ rfl (h AC e st' (A0.trans hu))
 .exact iv rfl (by rw [St.set_set]) (k1 AC e)
 .exact iv rfl (by rw [St.set_set]) (k2 AC)
def NY (n:Nd) (s:Ad) (e:Int):V:=.Bz [enc n,DJ s,.int .i64 e]
theorem Yw {s s':Ad} {n:Nd} {e d:Int} (hf:∀(st:St) (R:AA->St->Prop),R (.ret (NY n s' e)) st->PC f [DJ s,.int .i64 d] st R) (hs:Has st b s)
 (h:e=0->∀st',Ho st st' b s'->R (.ret (enc n)) st') (k:¬e=0->∀st',Ho st st' b s'->R (.B0 (fault e)) st'):PC 84 [.ptr b 0,.func f [] [],.int .i64 d] st R:=by
 refine pB Tryz.func84 ?_
 rcases hs with hs|⟨t,u,o1,o2,e',hs⟩
 .skip
  repeat' ((conv=>whnf);first|(refine Bv ?_;intros)|(refine Bw ?_ ?_<;>intro _)|refine Au hs ?_|refine hf _ _ ?_|refine Cd ?_|refine nC (s':=s') (.inl hs) (λst' U=>?_))
  .exact BJ rfl (h AC st' U)
  .exact fin (k AC st' U) rfl
 .skip
  repeat' ((conv=>whnf);first|(refine Bv ?_;intros)|(refine Bw ?_ ?_<;>intro _)|refine Au hs ?_|refine hf _ _ ?_|refine Cd ?_|refine nC (s':=s') (.inr ⟨t,u,o1,o2,e',hs⟩) (λst' U=>?_))
  .exact BJ rfl (h AC st' U)
  .exact fin (k AC st' U) rfl
end
end Go.Proofs.Z
namespace Go.Aw
open Go
section
variable {P:Program}
theorem Ak {x y:Code} {st:St} (h:AW P x (B4 (λenv st=>AW P y Q env st) Q) env st):AW P (.seq x y) Q env st:=λD I0 st0 w0 I β a w hr=>by
 refine wp_seq (wp_mono (h D I0 st0 w0 I β a w hr) ?_)
 rintro e a w ⟨I,β,env,st,ae,h1,U,h3⟩
 cases ae with
 |normal=>cases e<;>first|exact h3 D I0 st0 w0 I β a w h1|exact U.elim
 |exit i=>cases e<;>first|exact ⟨I,β,env,st,.exit i,h1,U,h3⟩|exact U.elim
 |goto i=>cases e<;>first|exact ⟨I,β,env,st,.goto i,h1,U,h3⟩|exact U.elim
 |ret=>cases e<;>first|exact ⟨I,β,env,st,.ret,h1,U,h3⟩|exact U.elim
 |B0 v=>cases e<;>first|exact ⟨I,β,env,st,.B0 v,h1,U,h3⟩|exact U.elim
theorem An (U:SS P T) {c:Code} {st:St} (h:OJ T (A9 P) c Q env st):AW P c Q env st:=
 M6 U (Cb P) (λ_ _ _ _ _ h k=>k.mono h) c h
def Ends (R:AA->St->Prop) (r:AA) (st:St):Prop:=∃r2 U,(r2=r\/r2=r.wk)/\St.le U st/\R r2 U
theorem A9.ends {st:St} (h:A9 P f args st (Ends R)):A9 P f args st R:=by
 refine ⟨λI w U hs ha=>(h.a I w U hs ha).mono ?_,h.b⟩
 rintro e w' ⟨I',st',r,k1,k2,k3,r2,st2,k4,k5,k6⟩
 have hr:Rel [] I st w I' (λ_=>none) {tmps:=[],boxes:=[],Bm:=0,sz:=0,gl:=[]} st' {tmps:=#[],defers:=[]} w':=
  ⟨k1,k2,⟨rfl,λt v e=>(by cases e),λid cs e=>(by cases e),λid b e=>(by cases e),λi j b e=>(by cases e),λid b e=>(by cases e),rfl⟩⟩
 have hr':=hr.Hn k5
 refine ⟨I',st2,r2,hr'.fr,hr'.s,?_,k6⟩
 rcases k4 with rfl|rfl
 .exact k3
 .cases e with
  |returned c=>
   cases r with
   |ret v=>exact AK.wk k3
   |B0 v=>exact k3.elim
  |panicked chain=>
   cases r with
   |ret v=>exact k3.elim
   |B0 v=>
    obtain ⟨c,h1,h2⟩:=k3
    exact ⟨c,h1,AK.wk h2⟩
  |outgrown=>cases r<;>exact k3.elim
end
end Go.Aw
namespace Go.Proofs.Z
open Go Go.Aw
def OL:List (List Bool×Nat):=[([false,false,false,false,false,false,false,false],0),([false,false,false,false,false,false,false,false],1),([true,false,false,false,false,false,false,false],1),([true,false,false,false,false,false,false,false],5),([false,true,false,false,false,false,false,false],0),([false,true,false,false,false,false,false,false],2),([true,true,false,false,false,false,false,false],2),([true,true,false,false,false,false,false,false],5),([true,false,false,false,false,true,false,false],1),([false,true,true,false,false,false,false,false],0),([false,true,true,false,false,false,false,false],3),([true,true,true,false,false,false,false,false],3),([true,true,true,false,false,false,false,false],5),([true,true,false,false,false,true,false,false],2),([false,true,true,true,false,false,false,false],0),([false,true,true,true,false,false,false,false],4),([true,true,true,true,false,false,false,false],4),([true,true,true,true,false,false,false,false],5),([true,true,true,false,false,true,false,false],3),([false,true,true,true,true,false,false,false],0),([true,true,true,true,true,false,false,false],5),([true,true,true,true,false,true,false,false],4),([true,true,true,true,true,true,false,false],6),([true,true,true,true,true,true,true,false],7)]
def ZW:List (List Bool×Nat):=[([false,false,false,false,false,false,false,false,false,false],0),([false,false,false,false,false,false,false,false,false,false],1),([false,false,false,false,false,false,false,false,false,false],5),([true,false,false,false,false,false,false,false,false,false],1),([true,false,false,false,false,false,false,false,false,false],5),([false,true,false,false,false,false,false,false,false,false],0),([false,true,false,false,false,false,false,false,false,false],2),([false,true,false,false,false,false,false,false,false,false],5),([false,false,false,false,false,true,false,false,false,false],0),([false,false,false,false,false,true,false,false,false,false],1),([false,false,false,false,false,true,false,false,false,false],6),([true,true,false,false,false,false,false,false,false,false],2),([true,true,false,false,false,false,false,false,false,false],5),([true,false,false,false,false,true,false,false,false,false],1),([true,false,false,false,false,true,false,false,false,false],6),([false,true,true,false,false,false,false,false,false,false],0),([false,true,true,false,false,false,false,false,false,false],3),([false,true,true,false,false,false,false,false,false,false],5),([false,true,false,false,false,true,false,false,false,false],0),([false,true,false,false,false,true,false,false,false,false],2),([false,true,false,false,false,true,false,false,false,false],6),([false,false,false,false,false,true,true,false,false,false],0),([false,false,false,false,false,true,true,false,false,false],1),([true,true,true,false,false,false,false,false,false,false],3),([true,true,true,false,false,false,false,false,false,false],5),([true,true,false,false,false,true,false,false,false,false],2),([true,true,false,false,false,true,false,false,false,false],6),([true,false,false,false,false,true,true,false,false,false],1),([false,true,true,true,false,false,false,false,false,false],0),([false,true,true,true,false,false,false,false,false,false],4),([false,true,true,true,false,false,false,false,false,false],5),([false,true,true,false,false,true,false,false,false,false],0),([false,true,true,false,false,true,false,false,false,false],3),([false,true,true,false,false,true,false,false,false,false],6),([false,true,false,false,false,true,true,false,false,false],0),([false,true,false,false,false,true,true,false,false,false],2),([true,true,true,true,false,false,false,false,false,false],4),([true,true,true,true,false,false,false,false,false,false],5),([true,true,true,false,false,true,false,false,false,false],3),([true,true,true,false,false,true,false,false,false,false],6),([true,true,false,false,false,true,true,false,false,false],2),([false,true,true,true,true,false,false,false,false,false],0),([false,true,true,true,true,false,false,false,false,false],5),([false,true,true,true,false,true,false,false,false,false],0),([false,true,true,true,false,true,false,false,false,false],4),([false,true,true,true,false,true,false,false,false,false],6),([false,true,true,false,false,true,true,false,false,false],0),([false,true,true,false,false,true,true,false,false,false],3),([true,true,true,true,true,false,false,false,false,false],5),([true,true,true,true,true,false,false,false,false,false],7),([true,true,true,true,false,true,false,false,false,false],4),([true,true,true,true,false,true,false,false,false,false],6),([true,true,true,false,false,true,true,false,false,false],3),([false,true,true,true,true,true,false,false,false,false],0),([false,true,true,true,true,true,false,false,false,false],6),([false,true,true,true,false,true,true,false,false,false],0),([false,true,true,true,false,true,true,false,false,false],4),([true,true,true,true,true,true,false,false,false,false],6),([true,true,true,true,true,true,false,false,false,false],7),([true,true,true,true,true,false,false,true,false,false],5),([true,true,true,true,true,false,false,true,false,false],8),([true,true,true,true,false,true,true,false,false,false],4),([false,true,true,true,true,true,true,false,false,false],0),([true,true,true,true,true,true,true,false,false,false],7),([true,true,true,true,true,true,false,true,false,false],6),([true,true,true,true,true,true,false,true,false,false],8),([true,true,true,true,true,false,false,true,true,false],5),([true,true,true,true,true,true,true,true,false,false],8),([true,true,true,true,true,true,false,true,true,false],6),([true,true,true,true,true,true,true,true,true,false],9)]
section
variable {st:St} {R:AA->St->Prop}
attribute [local irreducible] Go.Aw.Ah
def Hz:Nd:=.mk 0 0 [] 0 0 []
def DB:List V:=[.int .i64 0,.int .i64 0,.str [],.int .i64 0,.int .i64 0,.slice 6 [] .full]
theorem PH {bp bn ba be:Nat} {U:St->Prop} (h:U st):IF Tryz.prog 138 [.ptr bp 0,.ptr bn 0,.ptr ba 0,.ptr be 0] none st U:=by
 refine Fj Ae [] Tryz.func138 rfl rfl rfl rfl rfl rfl rfl rfl (λenv0 he=>?_)
 subst he
 conv=>whnf
 refine Ak (An Ae ?_)
 repeat' ((conv=>whnf);first|exact Db|(refine Bv ?_;intros)|(refine Dc ?_ ?_ ?_;rotate_left)|(refine Bw ?_ ?_<;>intro _)|with_reducible refine WF ?_)
 all_goals exact h
theorem St.As {st:St} {c:Nat} (h:b≠c):(st.Aa b cs).box c=st.box c:=by simp [St.Aa,Ne.symm h]
noncomputable def gn:List Oper:=match Tryz.f138.body with|some (.seq _ (.seq _ (.seq _ (.seq _ (.region _ ops _)))))=>ops.toList|_=>[]
noncomputable def rf (bs:List Bool) (bp bn ba be U:Nat) (sc:List V) (e:Int):Env:=
 {tmps:=Gp [(6,.bool true),(14,.bool true),(13,.agg [.int .i64 e]),(5,.BO 0 0),(4,fault e),(0,.ptr bp 0),(1,.ptr bn 0),(2,.ptr ba 0),(3,.ptr be 0)]
   gn
   [.agg DB,.ptr U 0,.ptr U 0,.ptr U 0,.agg sc,.BO 0 0,.int .i64 e,.BT,.BT,.BT] bs,boxes:=[(0,[.int .i64 e])],Bm:=1,sz:=25,gl:=[]}
def rh (st:St) (U ba be:Nat) (sc:List V) (e:Int) (bs:List Bool):St:=
 match bs[7]?,bs[8]?,bs[9]? with
 |_,_,some true=>((st.Aa U DB).Aa ba sc).Aa be [.int .i64 e]
 |_,some true,_=>(st.Aa U DB).Aa ba sc
 |some true,_,_=>st.Aa U DB
 |_,_,_=>st
theorem IJ {bp bn U be br:Nat} {s:Ad} {e:Int} {RS:St->Prop} (hp:st.box bp=some [.ptr br 0]) (hr:Has st br s) {n0:Nd} {s0:Ad} {o1 o2 o3:AJ} {e0:Int}
 (hn:st.box bn=some [.int .i64 n0.kind,.int .i64 n0.form,.str n0.text,.int .i64 n0.line,.int .i64 n0.Cu,.slice 6 (Ck n0.kids) o1])
 (ha:st.box U=some [.slice 4 (Az s0.Ag) o2,.int .i64 s0.pos,.slice 1 (ints s0.CF) o3,.int .i64 s0.wait]) (he:st.box be=some [.int .i64 e0])
 (d1:bn≠bp) (d2:bn≠br) (d3:bn≠U) (d4:bn≠be) (d5:U≠bp) (d6:U≠br) (d7:U≠be)
 (h:RS (((st.Aa bn DB).Aa U s.cells).Aa be [.int .i64 e])):IF Tryz.prog 138 [.ptr bp 0,.ptr bn 0,.ptr U 0,.ptr be 0] (some (fault e)) st RS:=by
 refine Fj Ae [] Tryz.func138 rfl rfl rfl rfl rfl rfl rfl rfl (λenv0 he=>?_)
 subst he
 conv=>whnf
 refine Ak (An Ae ?_)
 repeat' ((conv=>whnf);first|exact Db|(refine Bv ?_;intros)|(refine Dc ?_ ?_ ?_;rotate_left)|(refine Bw ?_ ?_<;>intro _)|with_reducible refine WF ?_)
 refine Ak (An Ae ?_)
 repeat' ((conv=>whnf);first|exact Db|(refine Bv ?_;intros)|(refine Dc ?_ ?_ ?_;rotate_left)|(refine Bw ?_ ?_<;>intro _)|with_reducible refine WF ?_)
 refine Ak (An Ae ?_)
 repeat' ((conv=>whnf);first|exact Db|(refine Bv ?_;intros)|(refine Dc ?_ ?_ ?_;rotate_left)|(refine Bw ?_ ?_<;>intro _)|with_reducible refine WF ?_)
 have ha':(st.Aa bn DB).box U=some [.slice 4 (Az s0.Ag) o2,.int .i64 s0.pos,.slice 1 (ints s0.CF) o3,.int .i64 s0.wait]:=by rw [St.As d3];exact ha
 have he':((st.Aa bn DB).Aa U s.cells).box be=some [.int .i64 e0]:=by rw [St.As d7,St.As d4];exact he
 refine X1 Ae (Cb _) (λbs=>rf bs bp bn U be br s.cells e) (rh st bn U be s.cells e) ZW GE Yl (St.le_refl _) ?_ h
 unfold ZW
 rcases hr with hr|⟨t,u,q1,q2,q3,hr⟩
 all_goals repeat' (first|refine List.forall_mem_cons.2 ⟨?_,?_⟩|exact λ_ h=>nomatch h)
 repeat' ((conv=>whnf);first|exact Db|(refine Bv ?_;intros)|(refine Dc ?_ ?_ ?_;rotate_left)|(refine Bw ?_ ?_<;>intro _)|refine Au hp ?_|refine Au hr ?_|refine Au hn ?_|refine Au ha' ?_|refine Au he' ?_|with_reducible refine WF ?_)
 all_goals conv=>whnf
 all_goals (refine ⟨Yl,?_⟩)
 all_goals exact St.le_refl _
end
abbrev Rs:=Sum (Int×Ad) (Nd×Ad)
def EJ (st:St) (b:Nat) (R:AA->St->Prop):Rs->Prop
 | .inr (n,s')=>∀st',Ho st st' b s'->R (.ret (enc n)) st'
 | .inl (e,s')=>∀st',Ho st st' b s'->R (.B0 (fault e)) st'
def Reads (f:FuncId) (s:Ad) (d:Int) (q:Rs):Prop:=∀(b:Nat) (st:St) (R:AA->St->Prop),Has st b s->EJ st b R q->PC f [.ptr b 0,.int .i64 d] st R
def B8 (s:Ad) (deep:Int) (q:Rs):Nd×Ad×Int:=
 if deep<1 then (Hz,s,2) else match q with
  | .inr (n,s')=>(n,s',0)
  | .inl (e,s')=>(Hz,s',e)
def NZ (p:Nd×Ad×Int):V:=NY p.1 p.2.1 p.2.2
section
variable {st:St} {R:AA->St->Prop}
attribute [local irreducible] Go.Aw.Ah
theorem B2 {st:St} {c:Nat} (h:(st.Aa b cs).fresh c):b≠c/\st.fresh c:=by
 by_cases e:b=c
 .subst e
  have:=h.1
  rw [St.Ai] at this
  cases this
 .refine ⟨e,?_,h.2⟩
  have:=h.1
  rw [St.As e] at this
  exact this
theorem aM {st:St} {K:Nat->Prop} (h:∀b,st.fresh b->K b):∀b,st.fresh b->K b:=h
theorem aB {st:St} (h:st.box b=some cs):St.le st (st.Aa b cs):=by rw [St.QH h];exact St.le_refl _
noncomputable def fW:List Oper:=match Tryz.f67.body with|some (.seq _ (.seq _ (.seq _ (.seq _ (.seq _ (.seq (.region _ ops _) _))))))=>ops.toList|_=>[]
noncomputable def fV (bs:List Bool) (b1 b2 b3 U b5:Nat) (nc sc:List V):Env:=
 {tmps:=Gp [(6,.ptr b1 0),(7,.ptr b2 0),(8,.ptr b3 0),(9,.ptr b5 0)] fW [.agg nc,.ptr U 0,.ptr U 0,.ptr U 0,.agg sc,.BT,.BT,.BT] bs,boxes:=[],Bm:=1,sz:=28,gl:=[6,7,8,9,12]}
def fX (st:St) (b2 U:Nat) (sc:List V) (bs:List Bool):St:=
 match bs[6]?,bs[7]? with
 |_,some true=>(st.Aa b2 sc).Aa U [.int .i64 0]
 |some true,_=>st.Aa b2 sc
 |_,_=>st
theorem OM {s:Ad} {deep:Int} {q:Rs} (hq:¬deep<1->Reads f s (if 100<deep then 100 else deep) q) (h:R (.ret (NZ (B8 s deep q))) st):PC 67 [DJ s,.int .i64 deep,.func f [] []] st R:=by
 refine A9.ends (MD Ae [6,7,8,9,12] Tryz.func67 rfl Do rfl rfl rfl rfl rfl rfl ⟨_,Tryz.func138,rfl,Do⟩ rfl ?_)
 repeat' ((conv=>whnf);first|exact Db|(refine Bv ?_;intros)|(refine Dc ?_ ?_ ?_;rotate_left)|(refine Bw ?_ ?_<;>intro _)|refine aM (λb5 f5=>?_)|refine Au (St.Ai ..) ?_|with_reducible refine WF ?_)
 rename_i b1 f1 b2 f2 b3 f3 b4 f4
 obtain ⟨n12,f2a⟩:=B2 f2
 obtain ⟨n23,f3a⟩:=B2 f3
 obtain ⟨n13,f3b⟩:=B2 f3a
 obtain ⟨n34,f4a⟩:=B2 f4
 obtain ⟨n24,f4b⟩:=B2 f4a
 obtain ⟨n14,f4c⟩:=B2 f4b
 obtain ⟨n45,f5a⟩:=B2 f5
 obtain ⟨n35,f5b⟩:=B2 f5a
 obtain ⟨n25,f5c⟩:=B2 f5b
 obtain ⟨n15,f5d⟩:=B2 f5c
 conv=>whnf
 refine ⟨rfl,AQ rfl ?_⟩
 generalize hst5:St.Aa _ b5 [V.ptr b4 0]=st5
 have k1:st5.box b1=some DB:=by subst hst5;rw [St.As n15.symm,St.As n15.symm,St.As n14.symm,St.As n13.symm,St.As n12.symm,St.Ai];rfl
 have k2:st5.box b2=some [.slice 4 (Az EV.Ag) .full,.int .i64 EV.pos,.slice 1 (ints EV.CF) .full,.int .i64 EV.wait]:=by subst hst5;rw [St.As n25.symm,St.As n25.symm,St.As n24.symm,St.As n23.symm,St.Ai];rfl
 have k3:st5.box b3=some [.int .i64 0]:=by subst hst5;rw [St.As n35.symm,St.As n35.symm,St.As n34.symm,St.Ai]
 have k4:Has st5 b4 s:=by subst hst5;refine .inr ⟨Xu,EV,.full,.full,0,?_⟩;rw [St.As n45.symm,St.As n45.symm,St.Ai];rfl
 have k5:st5.box b5=some [.ptr b4 0]:=by subst hst5;rw [St.Ai]
 have kle:st.le st5:=by
  subst hst5
  exact St.Ar (St.Ar (St.Ar (St.Ar (St.Ar (St.Ar (St.le_refl _) f1.1 _) f2a.1 _) f3b.1 _) f4c.1 _) f5d.1 _) f5d.1 _
 have kpan:∀(U:St) (e:Int) (s':Ad),Ho st5 U b4 s'->U.box b5=some [.ptr b4 0]/\U.box b1=some DB/\U.box b2=some [.slice 4 (Az EV.Ag) .full,.int .i64 EV.pos,.slice 1 (ints EV.CF) .full,.int .i64 EV.wait]/\U.box b3=some [.int .i64 0]/\st.le U:=by
  rintro U e s' ⟨_,cs,rfl⟩
  exact ⟨by rw [St.As n45];exact k5,by rw [St.As n14.symm];exact k1,by rw [St.As n24.symm];exact k2,by rw [St.As n34.symm];exact k3,St.Ar kle f4c.1 _⟩
 clear hst5 f2 f3 f4 f5 f3a f4a f4b f5a f5b f5c
 refine Ak (An Ae ?_)
 repeat' ((conv=>whnf);first|exact Db|(refine Bv ?_;intros)|(refine Dc ?_ ?_ ?_;rotate_left)|(refine Bw ?_ ?_<;>intro _)|refine Au k5 ?_|refine Cd ?_|with_reducible refine WF ?_)
 .refine IJ (n0:=Hz) (s0:=EV) k5 k4 k1 k2 k3 n15 n14 n12 n13 n25 n24 n23 ?_
  have g1:(((st5.Aa b1 DB).Aa b2 s.cells).Aa b3 [.int .i64 2]).box b1=some DB:=by rw [St.As n13.symm,St.As n12.symm,St.Ai]
  have g2:(((st5.Aa b1 DB).Aa b2 s.cells).Aa b3 [.int .i64 2]).box b2=some s.cells:=by rw [St.As n23.symm,St.Ai]
  have gl:st.le (((st5.Aa b1 DB).Aa b2 s.cells).Aa b3 [.int .i64 2]):=St.Ar (St.Ar (St.Ar kle f1.1 _) f2a.1 _) f3b.1 _
  unfold B8 at h
  rw [if_pos ‹_›] at h
  repeat' ((conv=>whnf);first|exact Db|(refine Bv ?_;intros)|(refine Dc ?_ ?_ ?_;rotate_left)|(refine Bw ?_ ?_<;>intro _)|refine Au g1 ?_|refine Au g2 ?_|refine Au (St.Ai ..) ?_|with_reducible refine WF ?_)
  all_goals exact EH gl rfl h
 .rename_i hd
  unfold B8 at h
  rw [if_neg hd] at h
  have hq:=hq hd b4
  refine Ak (An Ae ?_)
  cases q with
  |inl q=>
   obtain ⟨e,s'⟩:=q
   repeat' ((conv=>whnf);first|exact Db|(refine Bv ?_;intros)|(refine Dc ?_ ?_ ?_;rotate_left)|(refine Bw ?_ ?_<;>intro _)|refine Au k5 ?_|refine ⟨_,rfl,?_⟩|refine hq _ _ k4 (λU hu=>?_)|with_reducible refine WF ?_)
   obtain ⟨j5,j1,j2,j3,jle⟩:=kpan U e s' hu
   refine IJ (n0:=Hz) (s0:=EV) j5 hu.1 j1 j2 j3 n15 n14 n12 n13 n25 n24 n23 ?_
   have g1:(((U.Aa b1 DB).Aa b2 s'.cells).Aa b3 [.int .i64 e]).box b1=some DB:=by rw [St.As n13.symm,St.As n12.symm,St.Ai]
   have g2:(((U.Aa b1 DB).Aa b2 s'.cells).Aa b3 [.int .i64 e]).box b2=some s'.cells:=by rw [St.As n23.symm,St.Ai]
   have gl:st.le (((U.Aa b1 DB).Aa b2 s'.cells).Aa b3 [.int .i64 e]):=St.Ar (St.Ar (St.Ar jle f1.1 _) f2a.1 _) f3b.1 _
   repeat' ((conv=>whnf);first|exact Db|(refine Bv ?_;intros)|(refine Dc ?_ ?_ ?_;rotate_left)|(refine Bw ?_ ?_<;>intro _)|refine Au g1 ?_|refine Au g2 ?_|refine Au (St.Ai ..) ?_|with_reducible refine WF ?_)
   all_goals exact EH gl rfl h
  |inr q=>
   obtain ⟨n,s'⟩:=q
   have kret:=λU hu=>kpan U 0 s' hu
   repeat' ((conv=>whnf);first|exact Db|(refine Bv ?_;intros)|(refine Dc ?_ ?_ ?_;rotate_left)|(refine Bw ?_ ?_<;>intro _)|refine Au k5 ?_|refine ⟨_,rfl,?_⟩|refine hq _ _ k4 (λU hu=>?_)|refine Au (kret U hu).2.1 ?_|with_reducible refine WF ?_)
   obtain ⟨j5,j1,j2,j3,jle⟩:=kret U hu
   generalize hst7:U.Aa b1 (AP n)=st7
   have i1:st7.box b1=some (AP n):=by subst hst7;rw [St.Ai]
   have i5:st7.box b5=some [.ptr b4 0]:=by subst hst7;rw [St.As n15];exact j5
   have i2:st7.box b2=some [.slice 4 (Az EV.Ag) .full,.int .i64 EV.pos,.slice 1 (ints EV.CF) .full,.int .i64 EV.wait]:=by subst hst7;rw [St.As n12];exact j2
   have i3:(st7.Aa b2 s'.cells).box b3=some [.int .i64 0]:=by subst hst7;rw [St.As n23,St.As n13];exact j3
   have i4:Has st7 b4 s':=by
    subst hst7
    rcases hu.1 with e|⟨t,u,o1,o2,e',e⟩
    .exact .inl (by rw [St.As n14];exact e)
    .exact .inr ⟨t,u,o1,o2,e',by rw [St.As n14];exact e⟩
   have ile:st.le st7:=by subst hst7;exact St.Ar jle f1.1 _
   refine Ak (X1 Ae (Cb _) (λbs=>fV bs b1 b2 b3 b4 b5 (AP n) s'.cells) (fX st7 b2 b3 s'.cells) OL GE Yl (by rw [<-hst7];exact St.le_refl _) ?_ ?_)
   .skip
    unfold OL
    rcases i4 with i4|⟨t,u,q1,q2,q3,i4⟩
    all_goals repeat' (first|refine List.forall_mem_cons.2 ⟨?_,?_⟩|exact λ_ h=>nomatch h)
    repeat' ((conv=>whnf);first|exact Db|(refine Bv ?_;intros)|(refine Dc ?_ ?_ ?_;rotate_left)|(refine Bw ?_ ?_<;>intro _)|refine Au i5 ?_|refine Au i1 ?_|refine Au i4 ?_|refine Au i2 ?_|refine Au i3 ?_|with_reducible refine WF ?_)
    all_goals conv=>whnf
    all_goals (refine ⟨Yl,?_⟩)
    all_goals first|exact St.le_refl _|exact aB i1
   .refine An Ae (PH (bp:=b5) ?_)
    have g1:((st7.Aa b2 s'.cells).Aa b3 [.int .i64 0]).box b1=some (AP n):=by rw [St.As n13.symm,St.As n12.symm];exact i1
    have g2:((st7.Aa b2 s'.cells).Aa b3 [.int .i64 0]).box b2=some s'.cells:=by rw [St.As n23.symm,St.Ai]
    have gl:st.le ((st7.Aa b2 s'.cells).Aa b3 [.int .i64 0]):=St.Ar (St.Ar ile f2a.1 _) f3b.1 _
    repeat' ((conv=>whnf);first|exact Db|(refine Bv ?_;intros)|(refine Dc ?_ ?_ ?_;rotate_left)|(refine Bw ?_ ?_<;>intro _)|refine Au g1 ?_|refine Au g2 ?_|refine Au (St.Ai ..) ?_|with_reducible refine WF ?_)
    all_goals exact EH gl rfl h
end
def mu (s:Ad):Nat:=4*(s.Ag.length - s.pos.toNat)+s.CF.length+(2 - s.wait.toNat)
theorem sj (s:Ad):s.CF.length<=mu s:=by unfold mu;omega
theorem IK {s:Ad} (h:s.CF≠[]):(EY s).CF.length+1=s.CF.length:=by
 have:0<s.CF.length:=List.length_pos_iff.2 h
 simp only [EY,List.length_dropLast]
 omega
theorem XZ {s:Ad} {t:Tk} (h:s.Ag[s.pos.toNat]? =some t):s.pos.toNat<s.Ag.length:=(List.getElem?_eq_some_iff.1 h).1
theorem gP {s:Ad} (h:(Gb s).2.2=0):mu (Gb s).2.1<=mu s/\((Gb s).1.kind≠21->mu (Gb s).2.1<mu s):=by
 unfold Gb at h |-
 split
 .exact ⟨Nat.le_refl _,λe=>absurd rfl e⟩
 .split
  .rename_i U e2
   have:=IK U
   refine ⟨?_,λ_=>?_⟩<;>simp only [mu,EY] at* <;>omega
  .rename_i U e2
   rw [if_neg U,if_neg e2] at h
   cases h
theorem fK {t:Tk} {s:Ad} (h0:0<=s.pos) (h1:0<=s.wait) (h2:s.wait<2) (U:s.Ag[s.pos.toNat]? =some t):mu (GY t s).2<mu s:=by
 have:=XZ U
 unfold GY
 split
 .rename_i e;simp only [mu];rw [e,show Int.toNat 2=2 from rfl,show Int.toNat 1=1 from rfl];omega
 .split
  .simp only [mu,KF,List.length_append,List.length_singleton];omega
  .simp only [mu];omega
theorem n7 {t:Tk} {s:Ad} (h0:0<=s.pos) (h2:s.wait<=2) (U:s.Ag[s.pos.toNat]? =some t):mu (Ed t s).2<mu s:=by
 have:=XZ U
 unfold Ed
 split
 .rename_i e
  have:=IK (SK e.1)
  simp only [mu,EY] at *;omega
 .split<;>(simp only [mu];omega)
theorem fR {t:Tk} {s:Ad} (h0:0<=s.pos) (ht:s.Ag[s.pos.toNat]? =some t) (h:(BC t s).2.2=0):mu (BC t s).2.1<mu s:=by
 have:=XZ ht
 unfold BC at h |-
 split
 .simp only [mu,KF,List.length_append,List.length_singleton];omega
 .rename_i e1
  rw [if_neg e1] at h
  split
  .rename_i e2
   rw [if_pos e2] at h
   split
   .rename_i U;rw [if_pos U] at h;cases h
   .rename_i U
    have:=IK (s:=s) (λe=>U (.inl e))
    simp only [mu,EY] at *;omega
  .simp only [mu];omega
theorem VK:∀(n:Nat) (s:Ad),0<=s.pos->0<=s.wait->s.wait<=2->(Fw n s).2.2=0->mu (Fw n s).2.1<=mu s/\((Fw n s).1.kind≠21->mu (Fw n s).2.1<mu s)
 |0,s,h0,h1,h2,h=>gP h
 |n+1,s,h0,h1,h2,h=>by
  unfold Fw at h |-
  cases U:s.Ag[s.pos.toNat]? with
  |none=>rw [U] at h;exact gP h
  |some t=>
   rw [U] at h
   dsimp only at h |-
   split
   .rename_i e
    have:=fK h0 h1 e.2 U
    exact ⟨Nat.le_of_lt this,λ_=>this⟩
   .rename_i e1
    rw [if_neg e1] at h
    have hl:=n7 h0 h2 U
    split
    .rename_i e2
     rw [if_pos e2] at h
     split
     .rename_i e3
      rw [if_pos e3] at h
      have hz:=FR e3
      have:=VK n (Ed t s).2 (by rw [hz];show 0<=s.pos+1;omega) (by rw [hz];exact Int.le_refl _) (by rw [hz];show (0:Int)<=2;decide) h
      exact ⟨AC,λe=>by omega⟩
     .exact ⟨Nat.le_of_lt hl,λ_=>hl⟩
    .rename_i e2
     rw [if_neg e2] at h
     have:=fR h0 U h
     exact ⟨Nat.le_of_lt this,λ_=>this⟩
theorem Ep {s:Ad} (h:(Ab s).2.2=0):mu (Ab s).2.1<=mu s/\((Ab s).1.kind≠21->mu (Ab s).2.1<mu s):=by
 unfold Ab at h |-
 cases U:K1 s with
 |false=>rw [U] at h;cases h
 |true=>
  rw [U,if_pos rfl] at h
  rw [if_pos rfl]
  unfold K1 at U
  simp only [Bool.and_eq_true,decide_eq_true_eq] at U
  exact VK _ s AC AC AC h
theorem Z9 {s:Ad} (h:¬(Gb s).2.2=0):(Gb s).1=Xu:=by
 unfold Gb at h |-
 split
 .rename_i e;rw [if_pos e] at h;exact absurd rfl h
 .rename_i e;rw [if_neg e] at h
  split
  .rename_i e;rw [if_pos e] at h;exact absurd rfl h
  .rfl
theorem cr {t:Tk} {s:Ad} (h:¬(BC t s).2.2=0):(BC t s).1=Xu:=by
 unfold BC at h |-
 split
 .rename_i e;rw [if_pos e] at h;exact absurd rfl h
 .rename_i e;rw [if_neg e] at h
  split
  .rename_i e;rw [if_pos e] at h
   split
   .rfl
   .rename_i e;rw [if_neg e] at h;exact absurd rfl h
  .rename_i e;rw [if_neg e] at h;exact absurd rfl h
theorem Si:∀(n:Nat) (s:Ad),¬(Fw n s).2.2=0->(Fw n s).1=Xu
 |0,s,h=>Z9 h
 |n+1,s,h=>by
  unfold Fw at h |-
  cases U:s.Ag[s.pos.toNat]? with
  |none=>rw [U] at h;exact Z9 h
  |some t=>
   rw [U] at h
   dsimp only at h |-
   split
   .rename_i e;rw [if_pos e] at h;exact absurd rfl h
   .rename_i e;rw [if_neg e] at h
    split
    .rename_i e;rw [if_pos e] at h
     split
     .rename_i e;rw [if_pos e] at h;exact Si n _ h
     .rename_i e;rw [if_neg e] at h;exact absurd rfl h
    .rename_i e;rw [if_neg e] at h;exact cr h
theorem VM {s:Ad} (h:¬(Ab s).2.2=0):(Ab s).1=Xu:=by
 unfold Ab at h |-
 cases U:K1 s with
 |false=>rfl
 |true=>rw [U,if_pos rfl] at h;rw [if_pos rfl];exact Si _ _ h
theorem CS {s:Ad} (h:AU s k x=true) (U:k≠0):(Ab s).2.2=0:=by
 apply Classical.byContradiction
 intro e
 unfold AU at h
 rw [VM e] at h
 simp only [Xu,Bool.and_eq_true,beq_iff_eq] at h
 exact U h.1.symm
theorem Cp {s:Ad} (h:AU s k x=true) (hk:k≠0) (U:k≠21):mu (Ab s).2.1<mu s:=by
 refine (Ep (CS h hk)).2 λe=>?_
 unfold AU at h
 simp only [Bool.and_eq_true,beq_iff_eq] at h
 exact U (h.1.symm.trans e)
abbrev Ls:=Sum (Int×Ad) (List Nd×Ad)
def Dk (s:Ad):Rs:=if (Ab s).2.2=0 then .inr (Bk (Ab s).1,(Ab s).2.1) else .inl ((Ab s).2.2,s)
def mj (s:Ad):Rs:=.inl (S0 s,s)
def Kn (s:Ad) (k:Int) (x:List UInt8):Rs:=if AU s k x then Dk s else mj s
def BE (t:Tk):Bool:=t.kind==2||t.kind==4||t.kind==1||(t.kind==15&&(t.text==[40]||t.text==[91]))
def Aq (k:Int) (l:List Nd):Nd:=.mk k 0 [] 0 0 l
def Gf (A:Ad->Rs) (l:List Nd) (s:Ad):Ls:=
 if BE (Ab s).1 then match A s with
  | .inl e=>.inl e
  | .inr p=>if mu p.2<mu s then Gf A (l++[p.1]) p.2 else .inl (2,s)
 else .inr (l,s)
termination_by mu s
def Gq (A:Ad->Rs) (s:Ad):Rs:=
 match A s with
 | .inl e=>.inl e
 | .inr p=>match Gf A [p.1] p.2 with
   | .inl e=>.inl e
   | .inr q=>if q.1.length=1 then .inr (p.1,q.2) else .inr (Aq 39 q.1,q.2)
def Gu (A:Ad->Rs) (l:List Nd) (s:Ad):Ls:=
 if AU s 10 [45,62] then match Gq A (Ab s).2.1 with
  | .inl e=>.inl e
  | .inr p=>if mu p.2<mu s then Gu A (l++[Bk (Ab s).1,p.1]) p.2 else .inl (2,s)
 else .inr (l,s)
termination_by mu s
def Dm (A:Ad->Rs) (n:Nd) (s:Ad):Rs:=
 match Gu A [n] s with
 | .inl e=>.inl e
 | .inr q=>if q.1.length=1 then .inr (n,q.2) else .inr (Aq 37 q.1,q.2)
def DQ (A:Ad->Rs) (s:Ad):Rs:=
 match Gq A s with
 | .inl e=>.inl e
 | .inr p=>Dm A p.1 p.2
def Gc (A:Ad->Rs) (s:Ad):Rs:=
 match Gq A s with
 | .inl e=>.inl e
 | .inr p=>if AU p.2 10 [61,62] then match DQ A (Ab p.2).2.1 with
    | .inl e=>.inl e
    | .inr q=>.inr (Aq 38 [p.1,Bk (Ab p.2).1,q.1],q.2)
   else Dm A p.1 p.2
def CD (Y:Ad->Rs) (l:List Nd) (s:Ad):Ls:=
 if AU s 15 [44] then match Y (Ab s).2.1 with
  | .inl e=>.inl e
  | .inr p=>if mu p.2<mu s then CD Y (l++[Bk (Ab s).1,p.1]) p.2 else .inl (2,s)
 else .inr (l,s)
termination_by mu s
def Cc (l:List Nd) (s:Ad):List Nd×Ad:=
 if AU s 15 [44] then if mu (Ab s).2.1<mu s then Cc (l++[Bk (Ab s).1]) (Ab s).2.1 else (l,s) else (l,s)
termination_by mu s
def Hk (k:Int) (l:List Nd) (s:Ad) (x:List UInt8):Rs:=match Kn s 15 x with
 | .inl e=>.inl e
 | .inr p=>.inr (Aq k (l++[p.1]),p.2)
def Fy (Y:Ad->Rs) (s:Ad):Rs:=
 match Dk s with
 | .inl e=>.inl e
 | .inr p=>
   if AU p.2 10 [45,62] then Hk 3 [p.1,Bk (Ab p.2).1] (Ab p.2).2.1 [41]
   else if AU p.2 15 [41] then Hk 3 [p.1] p.2 [41]
   else if AU p.2 15 [44] then Hk 3 (Cc [p.1] p.2).1 (Cc [p.1] p.2).2 [41]
   else match Y p.2 with
    | .inl e=>.inl e
    | .inr q=>match CD Y [p.1,q.1] q.2 with
      | .inl e=>.inl e
      | .inr r=>Hk (if 2<r.1.length then 5 else 4) r.1 r.2 [41]
def D4 (Y:Ad->Rs) (s:Ad):Rs:=
 match Dk s with
 | .inl e=>.inl e
 | .inr p=>
   if AU p.2 15 [93] then .inr (Aq 3 [p.1,Bk (Ab p.2).1],(Ab p.2).2.1)
   else match Y p.2 with
    | .inl e=>.inl e
    | .inr q=>Hk 6 [p.1,q.1] q.2 [93]
def C5 (Y:Ad->Rs) (s:Ad):Rs:=
 if BE (Ab s).1 then if (Ab s).1.kind=15 then if (Ab s).1.text=[40] then Fy Y s else D4 Y s else Dk s else mj s
def Dz:Nat->Ad->Rs
 |0,s=>.inl (2,s)
 |d+1,s=>DQ (C5 (Dz d)) s
def E1 (A:Ad->Rs):Prop:=∀s e s',A s=.inl (e,s')->e≠0
def AR (A:Ad->Rs):Prop:=∀s n s',A s=.inr (n,s')->mu s'<mu s
theorem S1 (s:Ad):S0 s≠0:=by
 unfold S0
 omega
theorem HX:E1 Dk:=λs e s' h=>by
 unfold Dk at h
 grind
theorem UL:E1 mj:=λs e s' h=>by unfold mj at h;cases h;exact S1 s
theorem cf:E1 (λs=>Kn s k x):=λs e s' h=>by
 unfold Kn at h
 dsimp only at h
 split at h
 .exact HX _ _ _ h
 .exact UL _ _ _ h
theorem JR {l:List Nd}:E1 (λs=>Hk k l s x):=λs e s' h=>by
 unfold Hk at h
 dsimp only at h
 split at h
 .rename_i U hw
  cases h
  exact cf _ _ _ hw
 grind
theorem jY {A:Ad->Rs} (hA:E1 A) (l:List Nd) (s:Ad):∀e s',Gf A l s=.inl (e,s')->e≠0:=by
 fun_induction Gf A l s with
 |case1 l s U e1 h2=>intro e s' h;cases h;exact hA _ _ _ h2
 |case2 l s U p h2 h3 ih=>exact ih
 |case3 l s U p h2 h3=>simp_all
 |case4 l s U=>simp_all
theorem L0 {A:Ad->Rs} (hA:E1 A):E1 (Gq A):=λs e s' h=>by
 unfold Gq at h
 split at h
 .rename_i U;cases h;exact hA _ _ _ U
 .split at h
  .rename_i U;cases h;exact jY hA _ _ _ _ U
  grind
theorem fC {A:Ad->Rs} (hA:E1 A) (l:List Nd) (s:Ad):∀e s',Gu A l s=.inl (e,s')->e≠0:=by
 fun_induction Gu A l s with
 |case1 l s U e1 h2=>intro e s' h;cases h;exact L0 hA _ _ _ h2
 |case2 l s U p h2 h3 ih=>exact ih
 |case3 l s U p h2 h3=>simp_all
 |case4 l s U=>simp_all
theorem NU {A:Ad->Rs} (hA:E1 A) {n:Nd}:E1 (Dm A n):=λs e s' h=>by
 unfold Dm at h
 split at h
 .rename_i U;cases h;exact fC hA _ _ _ _ U
 grind
theorem Lp {A:Ad->Rs} (U:E1 A):E1 (DQ A):=λs e s' h=>by
 unfold DQ at h
 split at h
 .rename_i h1;cases h;exact L0 U _ _ _ h1
 .exact NU U _ _ _ h
theorem RM {A:Ad->Rs} (hA:E1 A):E1 (Gc A):=λs e s' h=>by
 unfold Gc at h
 split at h
 .rename_i U;cases h;exact L0 hA _ _ _ U
 .split at h
  .split at h
   .rename_i U;cases h;exact Lp hA _ _ _ U
   grind
  .exact NU hA _ _ _ h
theorem ZA {Y:Ad->Rs} (hY:E1 Y) (l:List Nd) (s:Ad):∀e s',CD Y l s=.inl (e,s')->e≠0:=by
 fun_induction CD Y l s with
 |case1 l s U e1 h2=>intro e s' h;cases h;exact hY _ _ _ h2
 |case2 l s U p h2 h3 ih=>exact ih
 |case3 l s U p h2 h3=>simp_all
 |case4 l s U=>simp_all
theorem X2 {Y:Ad->Rs} (hY:E1 Y):E1 (Fy Y):=λs e s' h=>by
 unfold Fy at h
 split at h
 .rename_i U;cases h;exact HX _ _ _ U
 .split at h
  .exact JR _ _ _ h
  .split at h
   .exact JR _ _ _ h
   .split at h
    .exact JR _ _ _ h
    .split at h
     .rename_i U;cases h;exact hY _ _ _ U
     .split at h
      .rename_i U;cases h;exact ZA hY _ _ _ _ U
      .exact JR _ _ _ h
theorem UM {Y:Ad->Rs} (hY:E1 Y):E1 (D4 Y):=λs e s' h=>by
 unfold D4 at h
 split at h
 .rename_i U;cases h;exact HX _ _ _ U
 .split at h
  .cases h
  .split at h
   .rename_i U;cases h;exact hY _ _ _ U
   .exact JR _ _ _ h
theorem GP {Y:Ad->Rs} (U:E1 Y):E1 (C5 Y):=λs e s' h=>by
 unfold C5 at h
 split at h
 .split at h
  .split at h
   .exact X2 U _ _ _ h
   .exact UM U _ _ _ h
  .exact HX _ _ _ h
 .exact UL _ _ _ h
theorem E7:∀d,E1 (Dz d)
 |0=>λs e s' h=>by cases h;decide
 |d+1=>Lp (GP (E7 d))
theorem Pf {s:Ad} {n:Nd} {s':Ad} (h:Dk s=.inr (n,s')):mu s'<=mu s/\((Ab s).1.kind≠21->mu s'<mu s):=by
 unfold Dk at h
 split at h
 .rename_i e;cases h;exact Ep e
 grind
theorem pO {s:Ad} {n:Nd} {s':Ad} (hk:k≠0) (U:k≠21) (h:Kn s k x=.inr (n,s')):mu s'<mu s:=by
 unfold Kn at h
 split at h
 .rename_i e
  unfold Dk at h
  rw [if_pos (CS e hk)] at h
  cases h
  exact Cp e hk U
 .cases h
theorem Ea {s:Ad} {l:List Nd} {n:Nd} {s':Ad} (h:Hk k l s x=.inr (n,s')):mu s'<mu s:=by
 unfold Hk at h
 split at h
 .cases h
 .rename_i U;cases h;exact pO Do Do U
theorem KS {s:Ad} {n:Nd} {s':Ad} (hs:BE (Ab s).1=true) (h:Dk s=.inr (n,s')):mu s'<mu s:=by
 refine (Pf h).2 λe=>?_
 unfold BE at hs
 simp_all
theorem T9 {A:Ad->Rs} (l:List Nd) (s:Ad):∀q s',Gf A l s=.inr (q,s')->mu s'<=mu s:=by
 fun_induction Gf A l s with
 |case1 l s U e1 h2=>simp_all
 |case2 l s U p h2 h3 ih=>grind
 |case3 l s U p h2 h3=>simp_all
 |case4 l s U=>simp_all
theorem FP {A:Ad->Rs} (hA:AR A):AR (Gq A):=λs n s' h=>by
 unfold Gq at h
 split at h
 .cases h
 .rename_i U
  have:=hA _ _ _ U
  split at h
  .cases h
  .rename_i h2
   have:=T9 _ _ _ _ h2
   grind
theorem ZP {A:Ad->Rs} (l:List Nd) (s:Ad):∀q s',Gu A l s=.inr (q,s')->mu s'<=mu s:=by
 fun_induction Gu A l s with
 |case1 l s U e1 h2=>simp_all
 |case2 l s U p h2 h3 ih=>grind
 |case3 l s U p h2 h3=>simp_all
 |case4 l s U=>simp_all
theorem Ks {A:Ad->Rs} {n m:Nd} {s s':Ad} (h:Dm A n s=.inr (m,s')):mu s'<=mu s:=by
 unfold Dm at h
 split at h
 .cases h
 .rename_i U
  have:=ZP _ _ _ _ U
  grind
theorem E8 {A:Ad->Rs} (hA:AR A):AR (DQ A):=λs n s' h=>by
 unfold DQ at h
 split at h
 .cases h
 .rename_i U
  have:=FP hA _ _ _ U
  have:=Ks h
  omega
theorem IA {Y:Ad->Rs} (l:List Nd) (s:Ad):∀q s',CD Y l s=.inr (q,s')->mu s'<=mu s:=by
 fun_induction CD Y l s with
 |case1 l s U e1 h2=>simp_all
 |case2 l s U p h2 h3 ih=>grind
 |case3 l s U p h2 h3=>simp_all
 |case4 l s U=>simp_all
theorem Kv (l:List Nd) (s:Ad):mu (Cc l s).2<=mu s:=by
 fun_induction Cc l s with
 |case1 l s U h2 ih=>omega
 |case2 l s U h2=>simp_all
 |case3 l s U=>simp_all
theorem V6 {Y:Ad->Rs} (hY:AR Y) {s:Ad} {n:Nd} {s':Ad} (hs:BE (Ab s).1=true) (h:Fy Y s=.inr (n,s')):mu s'<mu s:=by
 unfold Fy at h
 split at h
 .cases h
 .rename_i h1
  have:=KS hs h1
  split at h
  .rename_i U
   have:=Cp U Do Do
   have:=Ea h
   omega
  .split at h
   .have:=Ea h;omega
   .split at h
    .have:=Ea h
     have:=Kv [‹Nd×Ad›.1] ‹Nd×Ad›.2
     omega
    .split at h
     .cases h
     .rename_i U
      have:=hY _ _ _ U
      split at h
      .cases h
      .rename_i h3
       have:=IA _ _ _ _ h3
       have:=Ea h
       omega
theorem dS {Y:Ad->Rs} (hY:AR Y) {s:Ad} {n:Nd} {s':Ad} (hs:BE (Ab s).1=true) (h:D4 Y s=.inr (n,s')):mu s'<mu s:=by
 unfold D4 at h
 split at h
 .cases h
 .rename_i h1
  have:=KS hs h1
  split at h
  .rename_i U
   have:=Cp U Do Do
   grind
  .split at h
   .cases h
   .rename_i U
    have:=hY _ _ _ U
    have:=Ea h
    omega
theorem BI {Y:Ad->Rs} (U:AR Y):AR (C5 Y):=λs n s' h=>by
 unfold C5 at h
 split at h
 .rename_i hs
  split at h
  .split at h
   .exact V6 U hs h
   .exact dS U hs h
  .exact KS hs h
 .cases h
theorem Bo:∀d,AR (Dz d)
 |0=>λs n s' h=>by cases h
 |d+1=>E8 (BI (Bo d))
end Go.Proofs.Z
