/-
  Parts of a proof: lemmas that the last text uses.
-/
import Derived.Test.YtpaiiicnhgoijaaGreatDoorK0
import Derived.KernelRfl
import Derived.Test.YtpaiiicnhgoijaaGreatDoorProg
import Derived.Test.YtpaiiicnhgoijaaGreatDoorRows
import Derived.WalkKit
import Derived.ProofKit
import Derived.OpenShut
import Derived.JoinedCond
import Derived.ReadAgain
import Derived.Test.YtpaiiicnhgoijaaGreatDoorCards
import Derived.Test.YtpaiiicnhgoijaaGreatDoorTie
import Derived.Lib.LaidIn
import Derived.Lib.LaidU8T
import Derived.Lib.LaidTab
import Derived.Shelf.Vars
import Derived.Deep.DeepHandedRow
import Derived.Deep.DeepWitnessRowRef
import Derived.IntWalk
import Derived.Recover
open Go.Proofs.YtpaiiicnhgoijaaGreatDoor
set_option linter.unusedVariables false
set_option linter.unusedSimpArgs false
set_option maxHeartbeats 16000000
variable {env e0 e':Go.Aw.Env} {d:Option Nat} {v:Go.Aw.V} {K:List Go.Aw.V->Prop} {all:List Go.Oper} {o:Go.Oper} {cs vs args:List Go.Aw.V} {off k j i n m b base rid:Nat} {b1 b0 U:List (Nat×List Go.Aw.V)} {Q:Go.Aw.AE->Go.Aw.Env->Go.Aw.St->Prop} {l:List Int} {bs:List Bool} {t:Go.TypeId} {p c A:Prop} {x:List UInt8} {L:List (Option Nat)} {S sched:List (Nat×Bool)} {α:Type} {P:Go.Program} {f g:Go.FuncId} {R:Go.Aw.Ay->Go.Aw.St->Prop} {I0 I:Go.Aw.Mem} {st0 st' s:Go.Aw.St} {w0 W:Go.World} {β:Nat->Option Nat} {fn:Go.Func} {es:List (List Go.Aw.V)} {T:List (Nat×Go.Aw.Ty)} {C:Go.FuncId->List Go.Aw.V->Go.Aw.St->(Go.Aw.Ay->Go.Aw.St->Prop)->Prop} {ih:(Go.Aw.AE->Go.Aw.Env->Go.Aw.St->Prop)->Go.Aw.Env->Go.Aw.St->Prop} {r r':Go.Aw.Ay} {rest:Go.Code}
namespace Go.Aw
open Go
section
variable {D:List Deferred} {P:Program} {T:List (Nat×Ty)} {C:FuncId->List V->St->(Ay->St->Prop)->Prop} {I0 I:Mem} {st0 st:St} {w0 w:World} {β:Nat->Option Nat} {env:Env} {a:Act}
theorem Gu {K:Env->Prop} (h:env.go d v K):(∀t,d=some t->t<env.sz)/\K {env with tmps:=NA env.tmps d v}:=by
 cases d with
 |none=>exact ⟨λt e=>(by cases e),h⟩
 |some t=>
  obtain ⟨h1,U⟩:=An.1 h
  exact ⟨λs e=>by simp_all,U⟩
theorem G1 {yes no:Prop} (h:A8 all o env yes no):
 (yes/\∀p q:Prop,p->A8 all o env p q)\/(no/\∀p q:Prop,q->A8 all o env p q):=by
 unfold A8 at h
 cases hg:o.guard with
 |none=>
  rw [hg] at h
  exact .inl ⟨h,λp q U=>by unfold A8;simp_all⟩
 |some g=>
  obtain ⟨j,want⟩:=g
  rw [hg] at h
  simp only at h
  split at h
  .rename_i b hb
   cases want<;>cases b<;>simp only [cond_true,cond_false,lit] at h
   .exact .inl ⟨h,λp q U=>by unfold A8;rw [hg];simp only [hb,lit,cond_false];exact U⟩
   .exact .inr ⟨h,λp q U=>by unfold A8;rw [hg];simp only [hb,lit,cond_false];exact U⟩
   .exact .inr ⟨h,λp q U=>by unfold A8;rw [hg];simp only [hb,lit,cond_true];exact U⟩
   .exact .inl ⟨h,λp q U=>by unfold A8;rw [hg];simp only [hb,lit,cond_true];exact U⟩
  .rename_i hb
   exact .inr ⟨h,λp q U=>by unfold A8;simp_all⟩
  simp_all
def HY (T:List (Nat×Ty)) (C:FuncId->List V->St->(Ay->St->Prop)->Prop) (all:List Oper) (b1 U:List (Nat×List V)) (st:St) (o:Oper) (E:Env) (n:Nat) (v:V) (x:Option (Nat×List V)):Prop:=
 match o.op with
 | .alloc t=>∃ty,assoc T t=some ty/\v=.BH n 0/\x=some (n,ty.zero.cells)
 | .box t y=>(E.Bo T t y).known=true/\v=.BH n 0/\x=some (n,(E.Bo T t y).cells)
 | .store t p y=>∃id off cs ty cs',E.eval p=.BH id off/\assoc b1 id=some cs/\assoc T t=some ty/\(E.Bo T t y).known=true/\(E.Bo T t y).cells.length=ty.zero.cells.length/\
    (off+(E.Bo T t y).cells.length<=cs.length/\Mo cs=true/\(E.Bo T t y).cells.all V.sc=true/\cs'=cs.take off++(E.Bo T t y).cells++cs.drop (off+(E.Bo T t y).cells.length))/\v=.BO/\x=some (id,cs')
 |_=>Bf T C all o U E st v/\x=none
def HF (T:List (Nat×Ty)) (C:FuncId->List V->St->(Ay->St->Prop)->Prop) (all:List Oper) (b1 U:List (Nat×List V)) (st:St) (o:Oper) (E:Env) (n:Nat) (v:V) (x:Option (Nat×List V)):Prop:=
 A8 all o E (HY T C all b1 U st o E n v x) (v=.Bq []/\x=none)
theorem MX {K:V->Env->Prop}:env.NU cs K↔K (.BH env.Bj 0) {env with boxes:=(env.Bj,cs)::env.boxes}:=by
 unfold Env.NU
 rw [Bb]
theorem Jm {new:List V} (h:D8 cs off new K):off+new.length<=cs.length/\Mo cs=true/\new.all V.sc=true/\K (cs.take off++new++cs.drop (off+new.length)):=by
 unfold D8 at h
 obtain ⟨U,h⟩:=An.1 h
 obtain ⟨h1,h⟩:=An.1 h
 obtain ⟨h2,h⟩:=An.1 h
 exact ⟨Nat.le_of_ble_eq_true h1,U,h2,Bb.1 h⟩
theorem Tx {K:V->Env->Prop} (h:NN T C all o b1 b0 env st K):
 ∃v x,HY T C all b1 b0 st o env env.Bj v x/\K v {env with boxes:=lM env.boxes x}:=by
 have quiet:(∃v,Bf T C all o b0 env st v/\v.part λv=>K v env)->∃v,∃x:Option (Nat×List V),(Bf T C all o b0 env st v/\x=none)/\K v {env with boxes:=lM env.boxes x}:=by
  rintro ⟨v,h1,h2⟩
  exact ⟨v,none,⟨h1,rfl⟩,V.Ly.1 h2⟩
 cases ho:o.op<;>simp only [NN,HY,ho] at h |-<;>try exact quiet h
 case alloc t=>
  split at h
  .rename_i ty ht
   obtain ⟨_,h⟩:=An.1 h
   exact ⟨_,some (env.Bj,ty.zero.cells),⟨ty,ht,rfl,rfl⟩,MX.1 h⟩
  simp_all
 case box t y=>
  obtain ⟨_,h⟩:=An.1 h
  obtain ⟨U,h⟩:=An.1 (V.AA.1 h)
  exact ⟨_,some _,⟨U,rfl,rfl⟩,MX.1 h⟩
 case store t p y=>
  split at h
  .rename_i id off he
   split at h
   .rename_i cs ty hcs ht
    obtain ⟨U,h⟩:=An.1 (V.AA.1 h)
    simp only [Bool.and_eq_true] at U
    obtain ⟨g1,g0,g2,g3⟩:=Jm h
    exact ⟨.BO,some (id,_),⟨id,off,cs,ty,_,he,hcs,ht,U.1,Nat.eq_of_beq_eq_true U.2,⟨g1,g0,g2,rfl⟩,rfl,rfl⟩,g3⟩
   simp_all
  simp_all
theorem TB {all:List Oper} {Q:AE->Env->St->Prop} {e0:Env} {b1 b0:List (Nat×List V)}:∀{l:List Oper} {env:Env},Hj T C all Q e0 b1 b0 l env st->∃(vs:List V) (U:List (Option (Nat×List V))),vs.length=Bm e0 all l/\U.length=Bm e0 all l/\
 (∀(i:Nat) (o:Oper) (v:V) (x:Option (Nat×List V)),i<Bm e0 all l->l[i]? =some o->vs[i]? =some v->U[i]? =some x->HF T C all b1 b0 st o (P6 env (env.Bj+i) l vs U (List.replicate i true)) (env.Bj+i) v x)/\
 (∀(i:Nat) (o:Oper) (t:Nat),i<Bm e0 all l->l[i]? =some o->o.dst=some t->t<env.sz)/\
 DP T C all Q (l.drop (Bm e0 all l)) (P6 env (env.Bj+Bm e0 all l) l vs U (List.replicate (Bm e0 all l) true)) st
 |[],env,h=>⟨[],[],rfl,rfl,λi o v x e=>by simp_all,λi o t e=>by simp_all,h⟩
 |o::r,env,h=>by
  rw [TA] at h
  cases hk:FL e0 all o with
  |false=>
   rw [hk] at h
   have hl:Bm e0 all (o::r)=0:=by simp [Bm,hk]
   refine ⟨[],[],ke,ke,λi o v x e=>by omega,λi o t e=>by omega,?_⟩
   rw [hl]
   exact h
  |true=>
   rw [hk] at h
   have h:A8 all o env _ _:=h
   have hl:Bm e0 all (o::r)=Bm e0 all r+1:=by simp [Bm,hk]
   have step:∀(v:V) (x:Option (Nat×List V)),HF T C all b1 b0 st o env env.Bj v x->
    (Env.go {env with boxes:=lM env.boxes x} o.dst v λenv=>env.up λenv=>Hj T C all Q e0 b1 b0 r env st)->∃(vs:List V) (U:List (Option (Nat×List V))),vs.length=Bm e0 all (o::r)/\U.length=Bm e0 all (o::r)/\
    (∀(i:Nat) (o':Oper) (v:V) (x:Option (Nat×List V)),i<Bm e0 all (o::r)->(o::r)[i]? =some o'->vs[i]? =some v->U[i]? =some x->HF T C all b1 b0 st o' (P6 env (env.Bj+i) (o::r) vs U (List.replicate i true)) (env.Bj+i) v x)/\
    (∀(i:Nat) (o':Oper) (t:Nat),i<Bm e0 all (o::r)->(o::r)[i]? =some o'->o'.dst=some t->t<env.sz)/\
    DP T C all Q ((o::r).drop (Bm e0 all (o::r))) (P6 env (env.Bj+Bm e0 all (o::r)) (o::r) vs U (List.replicate (Bm e0 all (o::r)) true)) st:=by
    intro v x hv hg
    obtain ⟨h1,h2⟩:=Gu hg
    have h2:Hj T C all Q e0 b1 b0 r _ st:=h2
    obtain ⟨vs,U,k1,k2,k3,k4,k5⟩:=TB h2
    rw [hl]
    refine ⟨v::vs,x::U,by simp [k1],by simp [k2],?_,?_,?_⟩
    .intro i o' v' x' hi e1 e2 e3
     cases i with
     |zero=>
      simp only [List.getElem?_cons_zero,Option.some.injEq] at e1 e2 e3
      subst e1;subst e2;subst e3
      exact hv
     |succ i=>
      have:=k3 i o' v' x' AC ke ke ke
      have e:env.Bj+1+i=env.Bj+(i+1):=AC
      rw [<-e]
      exact this
    .grind
    .have e:env.Bj+1+Bm e0 all r=env.Bj+(Bm e0 all r+1):=AC
     rw [<-e]
     exact k5
   rcases G1 h with ⟨h1,h3⟩|⟨h1,h3⟩
   .obtain ⟨v,x,h4,h5⟩:=Tx h1
    exact step v x (h3 _ _ h4) h5
   .exact step (.Bq []) none (h3 _ _ ⟨rfl,rfl⟩) h1
structure Ob (k:Nat) (all:List Oper):Prop where
 le:k<=all.length
 back:∀(i:Nat) (o:Oper),all[i]? =some o->∀e ∈ o.after,Region.binds .any e=true->e.on<i
 dst:L1 (all.take (k))
 lo:∀(i j:Nat) (o p:Oper) (t:Nat),i<k->j<k->all[i]? =some o->all[j]? =some p->p.dst=some t->t ∈ Oper.B1 all o->j<i->reaches all all.length i j=true
 hi:∀(i j:Nat) (o p:Oper) (t:Nat),i<k->j<k->all[i]? =some o->all[j]? =some p->p.dst=some t->t ∈ Oper.B1 all o->i<j->reaches all all.length j i=true
 tail:∀(i j:Nat),k<=i->i<all.length->j<i->reaches all all.length i j=true
theorem Ob.of (h:IX k all=true):Ob k all:=by
 simp only [IX,Bool.and_eq_true,List.all_eq_true,List.mem_range] at h
 obtain ⟨hk,h⟩:=h
 have lt:∀{i:Nat} {o:Oper},all[i]? =some o->i<all.length:=λe=>(List.getElem?_eq_some_iff.1 e).1
 have one:∀(i:Nat) (o:Oper),all[i]? =some o->(∀e ∈ o.after.toList,(!(Region.binds .any e)||Nat.blt e.on i)=true)/\
  (bif Nat.blt i (k) then (List.range (k)).all λj=>Nat.beq i j||match all[j]? with|none=>true|some p=>Ky all i j o p
    else (List.range i).all λj=>reaches all all.length i j)=true:=by
  intro i o e
  have:=h i (lt e)
  simp only [e,Bool.and_eq_true] at this
  exact ⟨List.all_eq_true.1 this.1,this.2⟩
 have pair:∀(i j:Nat) (o p:Oper),i<k->j<k->all[i]? =some o->all[j]? =some p->i≠j->Ky all i j o p=true:=by
  intro i j o p hi hj U e2 hij
  have:=(one i o U).2
  have hb:Nat.blt i (k)=true:=by rw [Nat.blt_eq];exact hi
  rw [hb] at this
  simp only [cond_true,List.all_eq_true,List.mem_range] at this
  have:=this j hj
  rw [e2] at this
  simp only [Bool.or_eq_true] at this
  rcases this with g|g
  .simp_all
  .exact g
 have edge:∀(i j:Nat) (o p:Oper) (t:Nat),i<k->j<k->all[i]? =some o->all[j]? =some p->i≠j->p.dst=some t->(o.dst≠some t)/\(t ∈ Oper.B1 all o->(if Nat.blt j i then reaches all all.length i j else reaches all all.length j i)=true):=by
  intro i j o p t hi hj U e2 hij ht
  have:=pair i j o p hi hj U e2 hij
  simp only [Ky,ht,Bool.and_eq_true,Bool.or_eq_true,Bool.not_eq_true',beq_eq_false_iff_ne] at this
  refine ⟨this.1,λhm=>?_⟩
  rcases this.2 with g|g
  .simp_all
  .exact g
 refine ⟨Nat.le_of_ble_eq_true hk,λi o e x hx hb=>?_,λi j o p t U e2 hij ht=>?_,λi j o p t hi hj U e2 ht hm hlt=>?_,λi j o p t hi hj U e2 ht hm hlt=>?_,λi j hi hl hlt=>?_⟩
 .have:=(one i o e).1 x ke
  simp_all
 .grind
 .have:=(edge i j o p t hi hj U e2 AC ht).2 hm
  simp_all
 .have:=(edge i j o p t hi hj U e2 AC ht).2 hm
  rw [if_neg (by rw [Nat.blt_eq];omega)] at this
  omega
 .have:=(one i all[i] (List.getElem?_eq_getElem hl)).2
  have hb:Nat.blt i (k)=false:=by
   cases hb:Nat.blt i (k) with
   |false=>rfl
   |true=>rw [Nat.blt_eq] at hb;omega
  simp_all
def U7 (all:List Oper) (listed:Array Bool):Prop:=
 ∀(i:Nat) (o:Oper),all[i]? =some o->listed.getD i false=true->∀e ∈ o.after,Region.binds .any e=true->listed.getD e.on false=true
theorem DQ {all:List Oper} {listed:Array Bool} (hc:U7 all listed):∀{n i j:Nat} {o:Oper},reaches all n i j=true->all[i]? =some o->(∀e ∈ o.after,Region.binds .any e=true->listed.getD e.on false=true)->listed.getD j false=true
 |0,i,j,o,h,ho,he=>by cases h
 |n+1,i,j,o,h,ho,he=>by
  rw [reaches,ho] at h
  simp only [Bool.or_eq_true,List.any_eq_true,Bool.and_eq_true] at h
  rcases h with ⟨e,h1,h2,h3⟩|⟨e,h1,⟨h2,h3⟩,U⟩
  .have:=Nat.eq_of_beq_eq_true h3
   grind
  .have hl:=he e ke h2
   cases hp:all[e.on]? with
   |none=>
    cases n with
    |zero=>cases U
    |succ n=>rw [reaches,hp] at U;cases U
   |some p=>exact DQ hc U hp (hc e.on p hp hl)
structure Env.eqv (e e':Env):Prop where
 tmps:∀t,assoc e.tmps t=assoc e'.tmps t
 boxes:∀t,assoc e.boxes t=assoc e'.boxes t
 Bj:e.Bj=e'.Bj
 sz:e.sz=e'.sz
theorem Rel.same {e:Env} (h:Rel D I0 st0 w0 I β e st a w) (k:e.eqv e'):Rel D I0 st0 w0 I β e' st a w:=
 ⟨h.fr,h.s,⟨h.f.size.trans k.sz,λt v x=>h.f.tmps t v ((k.tmps t).trans x),λid cs x=>h.f.box id cs ((k.boxes id).trans x),
   λid b x=>by rw [<-k.Bj];exact h.f.Bj id b x,h.f.inj,h.f.sep,h.f.defers⟩⟩
theorem Mf {l:Array Bool} {d:Bool}:l.getD j d=(l.toList[j]?).getD d:=ke
theorem Yv {e:Env} {bs:List (Nat×List V)} {l:List Nat} (U:∀t ∈ l,assoc e.tmps t=assoc e'.tmps t) (hn:e.Bj=e'.Bj) (hs:e.sz=e'.sz) (hg:e.gl=e'.gl):e.only bs l=e'.only bs l:=by
 unfold Env.only
 have:l.map (λt=>(t,e.get t))=l.map (λt=>(t,e'.get t)):=List.map_congr_left λt ht=>by unfold Env.get;simp_all
 simp_all
theorem Oi {e:Env}:∀{l:List Nat} {t:Nat},t ∈ l->assoc (l.map λt=>(t,e.get t)) t=some (e.get t)
 |x::r,t,h=>by
  rw [List.map_cons,Bi]
  cases U:Nat.beq x t with
  |true=>simp_all
  |false=>
   rcases List.mem_cons.1 h with rfl|h
   .simp_all
   .exact Oi h
theorem Ur {t:Nat} (h:.tmp t ∈ o.op.operands.toList):t ∈ Oper.B1 all o:=List.mem_append_left _ (List.mem_filterMap.2 ⟨.tmp t,h,rfl⟩)
theorem Fq {e:Env} {bs:List (Nat×List V)} (h:∀t ∈ Oper.B1 all o,assoc e.tmps t=assoc e'.tmps t):∀x ∈ o.op.operands.toList,(e.only bs (Oper.B1 all o)).eval x=e'.eval x:=by
 intro x hx
 cases x with
 |tmp t=>
  have U:t ∈ Oper.B1 all o:=Ur hx
  show Env.get _ t=e'.get t
  unfold Env.get Env.only
  simp only
  rw [Oi U]
  unfold Env.get
  grind
 |_=>rfl
theorem Gs {e:Env} (h:∀t ∈ Oper.B1 all o,assoc e.tmps t=assoc e'.tmps t):∀x ∈ o.op.operands.toList,e.eval x=e'.eval x:=by
 intro x U
 cases x with
 |tmp t=>show Env.get _ t=Env.get _ t;unfold Env.get;rw [h t (Ur U)]
 |_=>rfl
theorem FE {e:Env} {q:Prop} (h:∀t ∈ Oper.B1 all o,assoc e.tmps t=assoc e'.tmps t) (k:A8 all o e p q):A8 all o e' p q:=by
 unfold A8 at *
 cases U:o.guard with
 |none=>simp_all
 |some g=>
  obtain ⟨j,want⟩:=g
  rw [U] at k
  simp only at k |-
  have:((all[j]?).bind (·.dst)).map e.get=((all[j]?).bind (·.dst)).map e'.get:=by
   cases hd:(all[j]?).bind (·.dst) with
   |none=>rfl
   |some t=>
    have:=h t (List.mem_append_right _ ke)
    simp only [Option.map_some,Env.get,this]
  simp_all
theorem E2 {e:Env} {q U q':Prop} (h:p->U) (h':q->q') (k:A8 all o e p q):A8 all o e U q':=by
 rcases G1 k with ⟨k1,k2⟩|⟨k1,k2⟩
 .grind
 grind
theorem Tw (h:FL e0 all o=true):BD o.op=true\/(∃t,o.op=.alloc t)\/(∃t x,o.op=.box t x)\/∃t x y,o.op=.store t x y:=by
 unfold FL at h
 cases U:o.op<;>rw [U] at h<;>first
  |(cases h;done)
  |exact .inl rfl
  |exact .inr (.inl ⟨_,rfl⟩)
  |exact .inr (.inr (.inl ⟨_,_,rfl⟩))
  |exact .inr (.inr (.inr ⟨_,_,_,rfl⟩))
theorem ZR (hT:FV P T) (hC:∀f args st R,C f args st R->Co P f args st R/\Plain P f) (hM:∀f args st (R R':Ay->St->Prop),(∀r s,R r s->R' r s)->C f args st R->C f args st R')
 {eh:Env} {x:Option (Nat×List V)} (hi:all[i]? =some o) (hq:FL eh all o=true) (h:Rel D I0 st0 w0 I β env st a w)
 (hag:∀t ∈ Oper.B1 all o,assoc e0.tmps t=assoc env.tmps t) (hb:∀id cs,assoc b0 id=some cs->assoc env.boxes id=some cs)
 (hb1:∀id cs',x=some (id,cs')->id≠n->∀cs,assoc b1 id=some cs->assoc env.boxes id=some cs) (hb2:∀id cs,assoc b1 id=some cs->id≠n)
 (hf:HF T C all b1 b0 st o e0 n v x) (hid:β n=none) (hn:n<env.Bj) {next:Act->World->Prop} (Q:AE->Env->St->Prop)
 (k:∀I β' c a' w',a'=a.put o.dst c->Rel D I0 st0 w0 I β' {env with boxes:=lM env.boxes x} st a w'->AR I β' v c->(∀j,j<env.Bj->j≠n->β' j=β j)->next a' w'):wpOp P all.toArray (B0 D I0 st0 w0 Q) i next a w:=by
 unfold wpOp
 have hi':all.toArray[i]? =some o:=by simpa using hi
 simp only [hi']
 have yes:HY T C all b1 b0 st o e0 n v x->o.wp P a w next (B0 D I0 st0 w0 Q):=by
  intro hy
  have quiet:BD o.op=true->Bf T C all o b0 e0 st v/\x=none->o.wp P a w next (B0 D I0 st0 w0 Q):=by
   rintro U ⟨hy2,rfl⟩
   have:=CJ (T:=T) (C:=C) (env:=e0.only b0 (Oper.B1 all o)) (env':=env) hM (K':=λv' e s=>v'=v/\e=env/\s=st) (Q':=Q) U (.inl rfl) (Fq hag) hb
    (λv' s s' g x=>⟨x.1,rfl,ke⟩) (λ_ _ x=>x.elim) hy2
   refine Lw hT hC (λI β env' st' v' c w' hr hv hβ x=>?_) h this
   obtain ⟨rfl,rfl,rfl⟩:=x
   exact k _ _ _ _ _ rfl hr hv λj hj _=>hβ j hj
  have fresh:∀{cs:List V} {vs:List Value} {t:TypeId},v=.BH n 0->x=some (n,cs)->Ak I cs vs->(execOp a.eval o).run P w=.ok (.value (.pointer (some ⟨w.heap.size,0,none⟩))) (w.alloc (.cells vs.toArray t))->o.wp P a w next (B0 D I0 st0 w0 Q):=by
   rintro cs vs t rfl rfl hr hrun
   unfold Oper.wp
   rw [hrun]
   refine k I _ _ _ _ rfl (h.O9 hr t hid hn (Nat.le_refl _)) (show ∃b,_/\_ from ⟨w.heap.size,if_pos rfl,rfl⟩) λj hj hne=>if_neg hne
  rcases Tw hq with U|⟨t,ho⟩|⟨t,y,ho⟩|⟨t,p,y,ho⟩
  .refine quiet U ?_
   unfold HY at hy
   split at hy
   .rename_i ho;rw [ho] at U;cases U
   .rename_i ho;rw [ho] at U;cases U
   .rename_i ho;rw [ho] at U;cases U
   omega
  .unfold HY at hy
   rw [ho] at hy
   obtain ⟨ty,h1,h2,h3⟩:=hy
   obtain ⟨vs,h4,h5⟩:=Qk (P:=P) hT I w a h1 ho
   grind
  .unfold HY at hy
   rw [ho] at hy
   obtain ⟨h1,h2,h3⟩:=hy
   have he:e0.Bo T t y=env.Bo T t y:=Cf (Gs hag y (by rw [ho];simp [Op.operands]))
   rw [he] at h1 h3
   exact fresh h2 h3 (D4 ((h.f.Bo hT t y).rep (EK h1)) h1) (XK w a ho)
  .unfold HY at hy
   rw [ho] at hy
   obtain ⟨id,off,cs,ty,cs',h1,h2,h3,h4,h5,⟨h6,h60,h7,rfl⟩,rfl,rfl⟩:=hy
   have he:e0.Bo T t y=env.Bo T t y:=Cf (Gs hag y (by rw [ho];simp [Op.operands]))
   have hp:e0.eval p=env.eval p:=Gs hag p (by rw [ho];simp [Op.operands])
   rw [he] at h4 h5 h6 h7 hb1 k
   have hcs:=hb1 id _ rfl (hb2 id cs h2) cs h2
   have:=M9 (o:=o) (t:=t) (x:=p) (y:=y) (next:=next) (Qc:=B0 D I0 st0 w0 Q) (K:=λv' e s=>v'=.BO/\e={env with boxes:=(id,cs.take off++(env.Bo T t y).cells++cs.drop (off+(env.Bo T t y).cells.length))::env.boxes}/\s=st) hT (λI β' env' st' v' c w' hr hv hβ x=>by
    obtain ⟨rfl,rfl,rfl⟩:=x
    exact k _ _ _ _ _ rfl hr hv λj hj _=>hβ j hj) h ho (by
    rw [<-hp,h1]
    simp only [hcs,h3]
    refine V.AA.2 (AM ?_ ?_)
    .simp_all
    .unfold D8
     exact AM h60 (AM ke (AM h7 (Bb.2 GT)))  )
   omega
 have no:v=.Bq []/\x=none->next (a.put o.dst undef) w:=λ⟨e,e'⟩=>by
  subst e;subst e'
  exact k _ _ _ _ _ rfl h (AR.of (v:=.Bq []) (by simp only [AG];exact ⟨[],rfl,H1⟩)) λ_ _ _=>rfl
 have hf:=FE hag hf
 unfold A8 at hf
 cases hg:o.guard with
 |none=>
  rw [hg] at hf
  rw [if_pos (by simp [Region.wanted,hg])]
  simp_all
 |some g=>
  obtain ⟨j,want⟩:=g
  rw [hg] at hf
  simp only at hf
  split at hf
  .rename_i b hb
   have hy:=It h hb
   have hw:Region.wanted o (yielded all.toArray a.tmps)=(b==want):=by
    simp only [Region.wanted,hg,hy]
    cases b<;>cases want<;>rfl
   cases want<;>cases b<;>simp only [cond_true,cond_false,lit] at hf
   .simp_all
   .simp_all
   .simp_all
   simp_all
  .rename_i hb
   have hy:=G9 h hb
   rw [if_neg (by simp only [Region.wanted,hg,hy];simp_all)]
   grind
  simp_all
end
section
variable {D:List Deferred} {P:Program} {T:List (Nat×Ty)} {C:FuncId->List V->St->(Ay->St->Prop)->Prop} {I0 I:Mem} {st0 st:St} {w0 w:World} {β:Nat->Option Nat} {env:Env} {a:Act}
theorem EY {d:Bool} {listed:Array Bool} (h:listed.toList=bs++List.replicate n false) (U:bs.length=m):listed.getD j d=(if j<m then bs[j]?.getD d else if j<m+n then false else d):=by
 rw [Mf,h]
 grind
theorem JL:∀{l:List Oper} {vs:List V} {bs:List Bool} {ts:List (Nat×V)},F0 ts l vs bs=F0 ts (l.take vs.length) vs bs
 |[],vs,bs,ts=>by simp_all
 |o::r,[],bs,ts=>rfl
 |o::r,v::vs,[],ts=>rfl
 |o::r,v::vs,b::bs,ts=>by
  simp only [List.length_cons,List.take_succ_cons,F0]
  exact JL
theorem KC (hT:FV P T) (hC:∀f args st R,C f args st R->Co P f args st R/\Plain P f) {k0:Nat} {all:List Oper} (DO:Ob k0 all) {Q:AE->Env->St->Prop}:
 ∀(r:List Oper) (m:Nat) (listed:Array Bool) (I:Mem) (β:Nat->Option Nat) (env:Env) (st:St) (a:Act) (w:World),r=all.drop m->k0<=m->m<=all.length->
  listed.toList=List.replicate m true++List.replicate (all.length - m) false->Rel D I0 st0 w0 I β env st a w->DP T C all Q r env st->
  ∀fuel,all.length - m<=fuel->wpAny P .any all.toArray (B0 D I0 st0 w0 Q) fuel listed a w
 |[],m,listed,I,β,env,st,a,w,hr,hk,hm,hl,h,k,fuel,hf=>by
  have hm':all.length<=m:=by
   have:=congrArg List.length hr
   simp at this
   omega
  have:Region.ready .any all.toArray listed=[]:=by
   rw [List.eq_nil_iff_forall_not_mem]
   intro j hj
   obtain ⟨h1,o,U,_⟩:=mem_ready.1 hj
   have hjl:j<all.length:=by
    have:=(Array.getElem?_eq_some_iff.1 U).1
    simpa using this
   rw [EY hl (List.length_replicate ..),if_pos AC,List.getElem?_replicate,if_pos AC] at h1
   cases h1
  exact wpAny_done this ⟨I,β,env,st,.normal,h,trivial,k⟩ fuel
 |o::r,m,listed,I,β,env,st,a,w,hr,hk,hm,hl,h,k,fuel,hf=>by
  have hmo:all[m]? =some o:=by
   have:=congrArg (·[0]?) hr
   simp at this
   exact this.symm
  have hml:m<all.length:=(List.getElem?_eq_some_iff.1 hmo).1
  have hr':r=all.drop (m+1):=by
   have:=congrArg (List.drop 1) hr
   simpa [Nat.add_comm] using this
  obtain ⟨fuel,rfl⟩:∃n,fuel=n+1:=⟨fuel - 1,AC⟩
  have hin:∀j,j<m->listed.getD j false=true:=λj hj=>by
   rw [EY hl (List.length_replicate ..),if_pos hj,List.getElem?_replicate,if_pos hj];rfl
  have hout:∀j,m<=j->listed.getD j false=false:=λj hj=>by
   rw [EY hl (List.length_replicate ..),if_neg AC]
   simp_all
  have hmr:m ∈ Region.ready .any all.toArray listed:=mem_ready.2 ⟨by rw [EY hl (List.length_replicate ..),if_neg AC,if_pos AC],o,ke,λe he hb=>hin _ (DO.back m o hmo e he hb)⟩
  have hcl:U7 all listed:=λi p hp hi e he hb=>by
   have hlt:i<m:=by
    rcases Nat.lt_or_ge i m with h'|h'
    .exact h'
    .simp_all
   have:=DO.back i p hp e he hb
   grind
  refine ⟨λh0=>(by simp_all),λi hi=>?_⟩
  have him:i=m:=by
   obtain ⟨h1,p,U,h3⟩:=mem_ready.1 hi
   have U:all[i]? =some p:=by simpa using U
   have hil:=(List.getElem?_eq_some_iff.1 U).1
   rcases Nat.lt_trichotomy i m with h'|h'|h'
   .grind
   .exact h'
   .have:=DQ hcl (DO.tail i m AC hil h') U h3
    simp_all
  subst him
  have hl':(listed.setIfInBounds i true).toList=List.replicate (i+1) true++List.replicate (all.length - (i+1)) false:=by
   simp only [Array.toList_setIfInBounds,hl]
   rw [List.set_append_right _ _ GT]
   have:all.length - i=(all.length - (i+1))+1:=AC
   rw [this,List.replicate_succ,List.length_replicate,Nat.sub_self,List.set_cons_zero,List.replicate_succ',List.append_assoc]
   rfl
  have next:∀{I β env st a w},Rel D I0 st0 w0 I β env st a w->DP T C all Q r env st->wpAny P .any all.toArray (B0 D I0 st0 w0 Q) fuel (listed.setIfInBounds i true) a w:=λh k=>
   KC hT hC DO r (i+1) _ _ _ _ _ _ _ hr' AC hml hl' h k fuel AC
  rw [Pq] at k
  have yes:Fg T C o env st (λv env st=>env.go o.dst v λenv=>DP T C all Q r env st) Q->o.wp P a w (wpAny P .any all.toArray (B0 D I0 st0 w0 Q) fuel (listed.setIfInBounds i true)) (B0 D I0 st0 w0 Q):=by
   intro k
   refine Lw hT hC (λI β env st v c w h hv _ k=>?_) h k
   obtain ⟨env',h1,U⟩:=B2 h hv k
   exact next h1 U
  have no:(env.go o.dst (.Bq []) λenv=>DP T C all Q r env st)->wpAny P .any all.toArray (B0 D I0 st0 w0 Q) fuel (listed.setIfInBounds i true) (a.put o.dst undef) w:=by
   intro k
   obtain ⟨env',h1,U⟩:=B2 h (c:=undef) (AR.of (v:=.Bq []) (by simp only [AG];exact ⟨[],rfl,H1⟩)) k
   exact next h1 U
  unfold wpOp
  have hi':all.toArray[i]? =some o:=by simpa using hmo
  simp only [hi']
  unfold A8 at k
  cases hg:o.guard with
  |none=>
   rw [hg] at k
   rw [if_pos (by simp [Region.wanted,hg])]
   simp_all
  |some g=>
   obtain ⟨j,want⟩:=g
   rw [hg] at k
   simp only at k
   split at k
   .rename_i b hb
    have hy:=It h hb
    have hw:Region.wanted o (yielded all.toArray a.tmps)=(b==want):=by
     simp only [Region.wanted,hg,hy]
     cases b<;>cases want<;>rfl
    cases want<;>cases b<;>simp only [cond_true,cond_false,lit] at k
    .simp_all
    .simp_all
    .simp_all
    simp_all
   .rename_i hb
    have hy:=G9 h hb
    rw [if_neg (by simp only [Region.wanted,hg,hy];simp_all)]
    grind
   simp_all
theorem VN (hT:FV P T) (hC:∀f args st R,C f args st R->Co P f args st R/\Plain P f) (hM:∀f args st (R R':Ay->St->Prop),(∀r s,R r s->R' r s)->C f args st R->C f args st R')
 {U:Nat} (DO:Ob U all) {eh:Env} {xs:List (Option (Nat×List V))} (hv:vs.length=U) (hx:xs.length=U) (hkl:U<=all.length)
 (hid:∀(i:Nat) (p:Nat×List V),xs[i]? =some (some p)->p.1=env.Bj+i\/(L[i]? =some (some p.1)/\p.1<env.Bj)) (hU:U6 xs) (hbn:∀id cs,assoc env.boxes id=some cs->id<env.Bj) (hhk:∀(i:Nat) (o:Oper),i<U->all[i]? =some o->FL eh all o=true)
 (hf:∀(i:Nat) (o:Oper) (v:V) (x:Option (Nat×List V)),i<U->all[i]? =some o->vs[i]? =some v->xs[i]? =some x->HF T C all env.boxes (A9 L env.boxes) st o (P6 env (env.Bj+i) all vs xs (List.replicate i true)) (env.Bj+i) v x)
 (ht:∀(i:Nat) (o:Oper) (t:Nat),i<U->all[i]? =some o->o.dst=some t->t<env.sz)
 (hQ:DP T C all Q (all.drop (U)) (P6 env (env.Bj+U) all vs xs (List.replicate (U) true)) st):
 ∀(fuel:Nat) (bs:List Bool) (listed:Array Bool) (I:Mem) (β:Nat->Option Nat) (a:Act) (w:World),bs.length=U->listed.toList=bs++List.replicate (all.length - U) false->
  bs.count false+(all.length - U)<=fuel->U7 all listed->(∀j:Nat,bs[j]? =some false->β (env.Bj+j)=none)->
  Rel D I0 st0 w0 I β (P6 env (env.Bj+U) all vs xs bs) st a w->wpAny P .any all.toArray (B0 D I0 st0 w0 Q) fuel listed a w:=by
 have hv':vs.length=(all.take (U)).length:=by rw [List.length_take,hv];omega
 have agreeT:∀{ts:List (Nat×V)} {bs bs':List Bool} {t:Nat},(∀(j:Nat) (o:Oper),j<U->all[j]? =some o->o.dst=some t->(bs[j]? =some true↔bs'[j]? =some true))->
  assoc (F0 ts all vs bs) t=assoc (F0 ts all vs bs') t:=by
  intro ts bs bs' t hh
  rw [JL (l:=all) (bs:=bs),JL (l:=all) (bs:=bs'),hv]
  exact W5 DO.dst hv' λj o hj=>by grind
 intro fuel
 induction fuel with
 |zero=>
  intro bs listed I β a w hbl hl hfu hcl hβ hr
  have hbs:bs=List.replicate (U) true:=by
   rw [List.eq_replicate_iff]
   refine ⟨hbl,λb hb=>?_⟩
   cases b with
   |true=>rfl
   |false=>grind
  subst hbs
  exact KC hT hC DO _ _ _ _ _ _ _ _ _ rfl (Nat.le_refl _) hkl hl hr hQ 0 AC
 |succ fuel ih=>
  intro bs listed I β a w hbl hl hfu hcl hβ hr
  by_cases hc:bs.count false=0
  .have hbs:bs=List.replicate (U) true:=by
    rw [List.eq_replicate_iff]
    refine ⟨hbl,λb hb=>?_⟩
    cases b with
    |true=>rfl
    |false=>grind
   subst hbs
   exact KC hT hC DO _ _ _ _ _ _ _ _ _ rfl (Nat.le_refl _) hkl hl hr hQ _ AC
  .have hin:∀j:Nat,listed.getD j false=true->j<U/\bs[j]? =some true:=by
    intro j hj
    rw [EY hl hbl] at hj
    split at hj
    .simp_all
    .simp_all
   have hex:∃j:Nat,bs[j]? =some false:=by
    have:false ∈ bs:=List.count_pos_iff.1 AC
    obtain ⟨j,hj,e⟩:=List.mem_iff_getElem.1 this
    exact ⟨j,by grind⟩
   have hmin:∃j:Nat,bs[j]? =some false/\∀i:Nat,i<j->bs[i]? =some true:=by
    obtain ⟨j,hj⟩:=hex
    induction j using Nat.strongRecOn with
    |_ j ih=>
     grind
   obtain ⟨m,hm,hmb⟩:=hmin
   have hmk:m<U:=by rw [<-hbl];exact (List.getElem?_eq_some_iff.1 hm).1
   have hready:Region.ready .any all.toArray listed≠[]:=by
    intro h0
    have:m ∈ Region.ready .any all.toArray listed:=mem_ready.2 ⟨by rw [EY hl hbl,if_pos hmk,hm];rfl,all[m],GT,λe he hb=>by
     have hlt:=DO.back m all[m] GT e he hb
     rw [EY hl hbl,if_pos AC,hmb _ hlt];rfl⟩
    rw [h0] at this;cases this
   refine ⟨λh0=>absurd h0 hready,λi hi=>?_⟩
   obtain ⟨h1,o,h2,h3⟩:=mem_ready.1 hi
   have h2':all[i]? =some o:=by simpa using h2
   have hil:i<all.length:=(List.getElem?_eq_some_iff.1 h2').1
   have hik:i<U:=by
    rcases Nat.lt_or_ge i (U) with h'|h'
    .exact h'
    .have:=DQ hcl (DO.tail i m h' hil AC) h2' h3
     grind
   have hbi:bs[i]? =some false:=by
    rw [EY hl hbl,if_pos hik] at h1
    rw [List.getElem?_eq_getElem AC] at h1 |-
    exact congrArg some h1
   obtain ⟨v,hvi⟩:∃v,vs[i]? =some v:=⟨_,List.getElem?_eq_getElem (hv ▸ hik)⟩
   obtain ⟨x,hxi⟩:∃x,xs[i]? =some x:=⟨_,List.getElem?_eq_getElem (hx ▸ hik)⟩
   have agree:∀t ∈ Oper.B1 all o,assoc (F0 env.tmps all vs (List.replicate i true)) t=assoc (F0 env.tmps all vs bs) t:=by
    intro t ht
    refine agreeT λj p hjk hp hd=>?_
    rw [fv]
    rcases Nat.lt_trichotomy j i with hji|rfl|hij
    .have:=DQ hcl (DO.lo i j o p t hik hjk h2' hp hd ht hji) h2' h3
     grind
    .simp_all
    .refine ⟨λx=>by omega,λx=>?_⟩
     have hjl:listed.getD j false=true:=by rw [EY hl hbl,if_pos hjk,x];rfl
     have:=DQ hcl (DO.hi i j o p t hik hjk h2' hp hd ht hij) hp (hcl j p hp hjl)
     grind
   refine ZR hT hC hM h2' (hhk i o hik h2') hr agree (λid cs hd=>?_) (λid cs' hxe hne cs hcs=>?_) (λid cs hcs=>?_) (hf i o _ _ hik h2' hvi hxi) (hβ i hbi) (by show env.Bj+i<env.Bj+U;omega) Q λI' β' c a' w' ha hr' hrep hβ'=>?_
   .obtain ⟨d1,d2⟩:=Gq hd
    have hlt:=hbn id cs d1
    show assoc (Ji xs bs env.boxes) id=some cs
    rw [GF λj p hj _ e=>?_]
    .exact d1
    .rcases hid j p hj with g|⟨g,_⟩
     .omega
     grind
   .show assoc (Ji xs bs env.boxes) id=some cs
    subst hxe
    rw [GF λj p hj hbj e=>?_]
    .exact hcs
    .by_cases hji:j=i
     .simp_all
     .exact hU j i p (id,cs') hj hxi hji e
   .grind
   .subst ha
    have hbil:i<bs.length:=AC
    have hput:Rel D I0 st0 w0 I' β' {P6 env (env.Bj+U) all vs xs bs with boxes:=lM (Ji xs bs env.boxes) x,tmps:=NA (F0 env.tmps all vs bs) o.dst v} st (a.put o.dst c) w':=by
     cases hd:o.dst with
     |none=>exact hr'
     |some t=>exact hr'.put hrep (ht i o t hik h2' hd)
    refine ih (bs.set i true) _ I' β' _ w' ke ?_ ?_ ?_ ?_ (hput.same ⟨λt=>?_,λid=>?_,rfl,rfl⟩)
    .simp_all
    .grind
    .intro j p hp hj e he hb
     by_cases hij:i=j
     .subst hij
      rw [h2'] at hp
      cases hp
      exact getD_set_true (h3 e he hb)
     .refine getD_set_true (hcl j p hp ?_ e he hb)
      simp_all
    .intro j hj
     by_cases hij:i=j
     .grind
     .rw [List.getElem?_set_ne hij] at hj
      have hjl:j<bs.length:=(List.getElem?_eq_some_iff.1 hj).1
      rw [hβ' (env.Bj+j) (by show env.Bj+j<env.Bj+U;omega) AC]
      grind
    .show assoc (NA (F0 env.tmps all vs bs) o.dst v) t=assoc (F0 env.tmps all vs (bs.set i true)) t
     rw [DA]
     split
     .rename_i hd
      rw [JL (l:=all) (bs:=bs.set i true),hv]
      refine (N0 (j:=i) (o:=o) ?_ hvi ke hd λk p hk hp=>DO.dst k i p o t hp ?_ hk hd).symm
      .simp_all
      simp_all
     .rename_i hd
      refine agreeT λj p hjk hp hdp=>?_
      by_cases hij:i=j
      .grind
      simp_all
    .show assoc (lM (Ji xs bs env.boxes) x) id=assoc (Ji xs (bs.set i true) env.boxes) id
     rw [L4]
     have ag:∀id',(∀p,x=some p->p.1≠id')->assoc (Ji xs bs env.boxes) id'=assoc (Ji xs (bs.set i true) env.boxes) id':=λid' hne=>by
      refine W4 hU λj p hj hp=>?_
      by_cases hij:i=j
      .grind
      simp_all
     cases x with
     |none=>simp_all
     |some p=>
      obtain ⟨i',cs⟩:=p
      show (if i'=id then some cs else assoc (Ji xs bs env.boxes) id)=_
      by_cases he:i'=id
      .subst he
       rw [if_pos rfl,NZ hxi ke λk p hk hp=>hU k i p (i',cs) hp hxi hk]
      simp_all
theorem Gw {e:Env} {all:List Oper}:∀{l:List Oper},Bm e all l<=l.length
 |[]=>Nat.le_refl _
 |o::r=>by
  rw [Bm]
  cases FL e all o with
  |true=>simp only [cond_true,List.length_cons];exact Nat.succ_le_succ Gw
  |false=>simp
theorem H5 {e:Env} {all:List Oper}:∀{l:List Oper} {i:Nat} {o:Oper},i<Bm e all l->l[i]? =some o->FL e all o=true
 |[],i,o,h,q=>by cases q
 |p::r,i,o,h,q=>by
  rw [Bm] at h
  cases U:FL e all p with
  |false=>simp_all
  |true=>
   rw [U] at h
   cases i with
   |zero=>simp_all
   |succ i=>exact H5 (by simpa using h) ke
theorem o7 {E:Env} {p:Nat×List V} (h:HF T C all U b0 st o E n v (some p)):
 p.1=n\/∃t q y off cs,o.op=.store t q y/\E.eval q=.BH p.1 off/\assoc U p.1=some cs:=by
 rcases G1 h with ⟨h,_⟩|⟨⟨_,h⟩,_⟩
 .unfold HY at h
  grind
 grind
theorem OC (hT:FV P T) (hC:∀f args st R,C f args st R->Co P f args st R/\Plain P f) (hM:∀f args st (R R':Ay->St->Prop),(∀r s,R r s->R' r s)->C f args st R->C f args st R')
 (hd:(IX (Bm env all all) all&&Hq (F7 env all all))=true)
 (h:Hj T C all Q env env.boxes (A9 (F7 env all all) env.boxes) all env st) (hr:Rel D I0 st0 w0 I β env st a w):
 wpAny P .any all.toArray (B0 D I0 st0 w0 Q) all.toArray.size (Array.replicate all.toArray.size false) a {w with drawn:=w.drawn+1}:=by
 simp only [Bool.and_eq_true] at hd
 have DO:=Ob.of hd.1
 obtain ⟨vs,xs,h1,h2,h3,h4,h5⟩:=TB h
 have hr:=hr.H4 (Fh.drew w)
 have hfl:∀j,(Array.replicate all.toArray.size false).getD j false=false:=λj=>by
  rw [Mf];grind
 have hbn:∀id cs,assoc env.boxes id=some cs->id<env.Bj:=λid cs e=>by
  obtain ⟨b,hb,_⟩:=hr.f.box id cs e
  exact hr.f.Bj id b hb
 have hid:∀(i:Nat) (p:Nat×List V),xs[i]? =some (some p)->p.1=env.Bj+i\/((F7 env all all)[i]? =some (some p.1)/\p.1<env.Bj):=by
  intro i p hp
  have hi:i<Bm env all all:=by rw [<-h2];exact (List.getElem?_eq_some_iff.1 hp).1
  have hia:i<all.length:=Nat.lt_of_lt_of_le hi Gw
  have ho:all[i]? =some all[i]:=List.getElem?_eq_getElem hia
  have hvi:vs[i]? =some (vs[i]'(by omega)):=List.getElem?_eq_getElem AC
  rcases o7 (h3 i _ _ _ hi ho hvi hp) with e|⟨t,q,y,off,cs,e1,e2,e3⟩
  .omega
  .right
   refine ⟨?_,hbn _ _ e3⟩
   rw [O2 hi ho]
   have hk:=H5 hi ho
   unfold FL at hk
   rw [e1] at hk
   cases q with
   |tmp x=>
    simp only [Bool.and_eq_true,Bool.not_eq_true',List.any_eq_false,beq_iff_eq] at hk
    have hx:assoc (F0 env.tmps all vs (List.replicate i true)) x=assoc env.tmps x:=HL λj o' hj _ e=>hk.1 o' (List.mem_of_getElem? hj) e
    have e2:env.eval (.tmp x)=.BH p.1 off:=by
     have U:Env.get (P6 env (env.Bj+i) all vs xs (List.replicate i true)) x=.BH p.1 off:=e2
     unfold Env.get P6 at U
     simp only [hx] at U
     exact U
    unfold oj
    simp_all
   |_=>cases hk
 have hU:U6 xs:=by
  intro i j p q hp hq hij e
  rcases hid i p hp with g1|⟨g1,l1⟩<;>rcases hid j q hq with g2|⟨g2,l2⟩
  .omega
  .omega
  .omega
  .rw [<-e] at g2;exact hij (Jf hd.2 g1 g2)
 refine VN (env:=env) (eh:=env) (L:=F7 env all all) (bs:=List.replicate (Bm env all all) false) hT hC hM DO h1 h2 Gw hid hU hbn (λi o hi ho=>H5 hi ho) h3 h4 h5 _ _ _ β _ _ GT ?_ (by have:=Gw (e:=env) (all:=all) (l:=all);grind) (λi o ho hi=>?_) (λj hj=>?_)
  ((hr.pw (n:=env.Bj+Bm env all all) (Nat.le_add_right _ _)).same ⟨λt=>?_,λid=>?_,rfl,rfl⟩)
 .have:=Gw (e:=env) (all:=all) (l:=all)
  simp_all
 .simp_all
 .cases hb:β (env.Bj+j) with
  |none=>rfl
  |some b=>have:=hr.f.Bj _ b hb;omega
 .refine (HL λj o ho hb=>?_).symm
  grind
 .refine (GF λj p hp hb=>?_).symm
  grind
end
section
variable {D:List Deferred} {P:Program} {T:List (Nat×Ty)} {C:FuncId->List V->St->(Ay->St->Prop)->Prop} {I0 I:Mem} {st0 st:St} {w0 w:World} {β:Nat->Option Nat} {env:Env} {a:Act}
theorem KG (hT:FV P T) (hC:∀f args st R,C f args st R->Co P f args st R/\Plain P f) (hi:all[i]? =some o) {K:Env->St->Prop} {next:Act->World->Prop}
 (hn:∀{I β env st a w},Rel D I0 st0 w0 I β env st a w->K env st->next a w) (h:Rel D I0 st0 w0 I β env st a w)
 (k:A8 all o env (Fg T C o env st (λv env st=>env.go o.dst v λenv=>K env st) Q) (env.go o.dst (.Bq []) λenv=>K env st)):
 wpOp P all.toArray (B0 D I0 st0 w0 Q) i next a w:=by
 have yes:Fg T C o env st (λv env st=>env.go o.dst v λenv=>K env st) Q->o.wp P a w next (B0 D I0 st0 w0 Q):=by
  intro k
  refine Lw hT hC (λI β env st v c w h hv _ k=>?_) h k
  obtain ⟨env',h1,h2⟩:=B2 h hv k
  exact hn h1 h2
 have no:(env.go o.dst (.Bq []) λenv=>K env st)->next (a.put o.dst undef) w:=by
  intro k
  obtain ⟨env',h1,h2⟩:=B2 h (c:=undef) (AR.of (v:=.Bq []) (by simp only [AG];exact ⟨[],rfl,H1⟩)) k
  exact hn h1 h2
 unfold wpOp
 have hi':all.toArray[i]? =some o:=by simpa using hi
 simp only [hi']
 unfold A8 at k
 cases U:o.guard with
 |none=>
  rw [U] at k
  rw [if_pos (by simp [Region.wanted,U])]
  simp_all
 |some g=>
  obtain ⟨j,want⟩:=g
  rw [U] at k
  simp only at k
  split at k
  .rename_i b hb
   have hy:=It h hb
   have hw:Region.wanted o (yielded all.toArray a.tmps)=(b==want):=by
    simp only [Region.wanted,U,hy]
    cases b<;>cases want<;>rfl
   cases want<;>cases b<;>simp only [cond_true,cond_false,lit] at k
   .simp_all
   .simp_all
   .simp_all
   simp_all
  .rename_i hb
   have hy:=G9 h hb
   rw [if_neg (by simp only [Region.wanted,U,hy];simp_all)]
   grind
  simp_all
def Bt (all:List Oper) (bs:List Bool) (i:Nat):Bool:=
 !(bs.getD i true)&&(match all[i]? with|some o=>o.after.toList.all (λe=> !(Region.binds .any e)||bs.getD e.on false)|none=>false)
theorem D0 {listed:Array Bool} (hl:listed.toList=bs) (hb:bs.length=all.length):i ∈ Region.ready .any all.toArray listed↔i<all.length/\Bt all bs i=true:=by
 have U:∀j d,listed.getD j d=bs.getD j d:=λj d=>by rw [Mf,hl,List.getD_eq_getElem?_getD]
 rw [mem_ready]
 unfold Bt
 grind
theorem XE (hT:FV P T) (hC:∀f args st R,C f args st R->Co P f args st R/\Plain P f) {Inv:List Bool->Env->St->Prop}
 (step:∀(bs:List Bool) (env:Env) (st:St) (i:Nat) (o:Oper),bs.length=all.length->Inv bs env st->all[i]? =some o->Bt all bs i=true->
   A8 all o env (Fg T C o env st (λv env' st'=>env'.go o.dst v λU=>Inv (bs.set i true) U st') Q) (env.go o.dst (.Bq []) λenv'=>Inv (bs.set i true) env' st))
 (live:∀(bs:List Bool) (env:Env) (st:St),bs.length=all.length->Inv bs env st->bs=List.replicate all.length true\/∃j,j<all.length/\Bt all bs j=true)
 (fin:∀(env:Env) (st:St),Inv (List.replicate all.length true) env st->∃env',env.eqv env'/\Q .normal env' st):
 ∀(fuel:Nat) (bs:List Bool) (listed:Array Bool) (I:Mem) (β:Nat->Option Nat) (env:Env) (st:St) (a:Act) (w:World),bs.length=all.length->listed.toList=bs->bs.count false<=fuel->
  Inv bs env st->Rel D I0 st0 w0 I β env st a w->wpAny P .any all.toArray (B0 D I0 st0 w0 Q) fuel listed a w:=by
 have full:∀{bs:List Bool},bs.length=all.length->bs.count false=0->bs=List.replicate all.length true:=λ{bs} hb h0=>by
  rw [List.eq_replicate_iff]
  grind
 have noready:∀{j:Nat},Bt all (List.replicate all.length true) j=true->j<all.length->False:=λ{j} h hj=>by
  unfold Bt at h
  simp_all
 have done:∀{I β env st a w},Inv (List.replicate all.length true) env st->Rel D I0 st0 w0 I β env st a w->B0 D I0 st0 w0 Q .normal a w:=λhi h=>by
  obtain ⟨env',h1,h2⟩:=fin _ _ hi
  exact ⟨_,_,env',_,.normal,h.same h1,trivial,h2⟩
 intro fuel
 induction fuel with
 |zero=>
  intro bs listed I β env st a w hb hl hf hi h
  have:=full hb AC
  subst this
  refine ⟨?_,done hi h⟩
  rw [List.eq_nil_iff_forall_not_mem]
  intro j hj
  obtain ⟨h1,h2⟩:=(D0 hl hb).1 hj
  grind
 |succ fuel ih=>
  intro bs listed I β env st a w hb hl hf hinv h
  refine ⟨λh0=>?_,λi hi=>?_⟩
  .rcases live bs env st hb hinv with rfl|⟨j,h1,h2⟩
   .grind
   .have:=(D0 hl hb).2 ⟨h1,h2⟩
    simp_all
  .obtain ⟨h1,h2⟩:=(D0 hl hb).1 hi
   have ho:all[i]? =some all[i]:=List.getElem?_eq_getElem h1
   refine KG hT hC (Q:=Q) ho (λ{I β env st a w} h k=>?_) h (step bs env st i _ hb hinv ho h2) (K:=λenv st=>Inv (bs.set i true) env st)
   have hbi:i<bs.length:=AC
   refine ih (bs.set i true) _ I β env st a w ke (by simp [hl]) ?_ k h
   have:=List.count_set (a:=true) (i:=i) (l:=bs) (b:=false) hbi
   unfold Bt at h2
   simp_all
def writer (all:List Oper) (t:Nat):Option Nat:=(List.range all.length).find? λj=>match all[j]? with|some o=>o.dst==some t|none=>false
theorem Nk {t:Nat} (h:writer all t=some j):∃o,all[j]? =some o/\o.dst=some t:=by
 have:=List.find?_some h
 grind
theorem U1 {t:Nat} (h:writer all t=none) (j:Nat) (o:Oper) (U:all[j]? =some o):o.dst≠some t:=by
 have:=List.find?_eq_none.1 h j (List.mem_range.2 (List.getElem?_eq_some_iff.1 U).1)
 simp_all
theorem bJ (U:L1 all) {t:Nat} (ho:all[j]? =some o) (hd:o.dst=some t):writer all t=some j:=by
 cases h:writer all t with
 |none=>exact absurd hd (U1 h j o ho)
 |some k=>
  obtain ⟨p,h1,h2⟩:=Nk h
  by_cases e:j=k
  .rw [e]
  .exact absurd hd (U j k o p t ho h1 e h2)
noncomputable def FR (all:List Oper) (ts:List (Nat×V)) (vs:Nat->V) (S:Nat->Bool) (t:Nat):Option V:=match writer all t with
 |some j=>if S j=true then some (vs j) else assoc ts t
 |none=>assoc ts t
theorem CE {ts:List (Nat×V)} {vs U:Nat->V} {S S':Nat->Bool} {t:Nat} (h:∀j o,all[j]? =some o->o.dst=some t->S j=S' j/\(S j=true->vs j=U j)):FR all ts vs S t=FR all ts U S' t:=by
 unfold FR
 cases hw:writer all t with
 |none=>rfl
 |some j=>
  obtain ⟨o,h1,h2⟩:=Nk hw
  simp_all
def MG (vs:Nat->V) (i:Nat) (v:V):Nat->V:=λj=>if j=i then v else vs j
theorem Fu (U:L1 all) {ts:List (Nat×V)} {vs:Nat->V} {S S':Nat->Bool} {l:List (Nat×V)} (ho:all[i]? =some o) (hl:∀t,assoc l t=FR all ts vs S t) (hS:∀j,j≠i->S' j=S j) (hi:S' i=true) (t:Nat):
 assoc (NA l o.dst v) t=FR all ts (MG vs i v) S' t:=by
 rw [DA]
 split
 .rename_i hd
  unfold FR
  rw [bJ U ho hd]
  simp [hi,MG]
 .rename_i hd
  rw [hl]
  refine CE λj p hp hpd=>?_
  have hne:j≠i:=λe=>by simp_all
  exact ⟨(hS j hne).symm,λ_=>by simp [MG,hne]⟩
structure Oc (all:List Oper) (sched:List (Nat×Bool)):Prop where
 back:∀pre i q r o,sched=pre++(i,q)::r->all[i]? =some o->∀e ∈ o.after,Region.binds .any e=true->e.on ∈ pre.map (·.1)
 kind:∀pre i q r,sched=pre++(i,q)::r->∃o,all[i]? =some o/\(bif q then Eu o.op else (BD o.op||CN o.op))=true
 nodup:∀pre i q r,sched=pre++(i,q)::r->i ∉ pre.map (·.1)
 chain:∀pre i r,sched=pre++(i,false)::r->∀x ∈ r,reaches all all.length x.1 i=true
 cover:∀i,i<all.length->i ∈ sched.map (·.1)
 dst:L1 all
 lo:∀(i j:Nat) (o p:Oper) (t:Nat),all[i]? =some o->all[j]? =some p->p.dst=some t->t ∈ Oper.B1 all o->j<i->reaches all all.length i j=true
 hi:∀(i j:Nat) (o p:Oper) (t:Nat),all[i]? =some o->all[j]? =some p->p.dst=some t->t ∈ Oper.B1 all o->i<j->reaches all all.length j i=true
theorem V6 (all:List Oper) (p:Nat×Bool) (r:List (Nat×Bool)) (done:List Nat):Yn all (p::r) done=((match all[p.1]? with
 |some o=>(o.after.toList.all λe=> !(Region.binds .any e)||done.contains e.on)&&(bif p.2 then Eu o.op else (BD o.op||CN o.op))
 |none=>false)&&(!(done.contains p.1)&&((p.2||r.all λx=>reaches all all.length x.1 p.1)&&Yn all r (p.1::done)))):=rfl
theorem TS {all:List Oper}:∀{l:List (Nat×Bool)} {done:List Nat},Yn all l done=true->∀pre i q r,l=pre++(i,q)::r->
 ∃o,all[i]? =some o/\(∀e ∈ o.after,Region.binds .any e=true->e.on ∈ done\/e.on ∈ pre.map (·.1))/\(bif q then Eu o.op else (BD o.op||CN o.op))=true/\(i ∉ done/\i ∉ pre.map (·.1))/\(q=true\/∀x ∈ r,reaches all all.length x.1 i=true)
 |[],_,_,pre,i,q,r,e=>by simp_all
 |(k,b)::l,done,h,pre,i,q,r,e=>by
  rw [V6] at h
  simp only [Bool.and_eq_true] at h
  obtain ⟨h1,h2,h3,U⟩:=h
  cases pre with
  |nil=>
   grind
  |cons p pre=>
   simp only [List.cons_append,List.cons.injEq] at e
   obtain ⟨rfl,rfl⟩:=e
   obtain ⟨o,k1,k2,k3,⟨k4,k5⟩,k6⟩:=TS U pre i q r rfl
   grind
theorem Oc.of (h:IA sched all=true):Oc all sched:=by
 unfold IA at h
 simp only [Bool.and_eq_true,List.all_eq_true,List.mem_range,List.any_eq_true] at h
 obtain ⟨h1,h2,h3⟩:=h
 have hat:=TS h2
 have lt:∀{i:Nat} {o:Oper},all[i]? =some o->i<all.length:=λe=>(List.getElem?_eq_some_iff.1 e).1
 have pair:∀(i j:Nat) (o p:Oper),all[i]? =some o->all[j]? =some p->i≠j->Ky all i j o p=true:=by
  intro i j o p e1 e2 hij
  have:=h3 i (lt e1) j (lt e2)
  rw [e1,e2] at this
  simp only [Bool.or_eq_true] at this
  rcases this with g|g
  .simp_all
  .exact g
 have U:∀(i j:Nat) (o p:Oper) (t:Nat),all[i]? =some o->all[j]? =some p->i≠j->p.dst=some t->(o.dst≠some t)/\(t ∈ Oper.B1 all o->(if Nat.blt j i then reaches all all.length i j else reaches all all.length j i)=true):=by
  intro i j o p t e1 e2 hij ht
  have:=pair i j o p e1 e2 hij
  simp only [Ky,ht,Bool.and_eq_true,Bool.or_eq_true,Bool.not_eq_true',beq_eq_false_iff_ne] at this
  refine ⟨this.1,λhm=>?_⟩
  rcases this.2 with g|g
  .simp_all
  .exact g
 have nod:∀pre i q r,sched=pre++(i,q)::r->i ∉ pre.map (·.1):=λpre i q r e=>by grind
 refine ⟨λpre i q r o e ho x hx hb=>?_,λpre i q r e=>?_,nod,λpre i r e x hx=>?_,λi hi=>?_,λi j o p t e1 e2 hij ht=>(U i j o p t e1 e2 hij ht).1,λi j o p t e1 e2 ht hm hlt=>?_,λi j o p t e1 e2 ht hm hlt=>?_⟩
 .grind
 .grind
 .grind
 .simp_all
 .have:=(U i j o p t e1 e2 AC ht).2 hm
  simp_all
 .have:=(U i j o p t e1 e2 AC ht).2 hm
  rw [if_neg (by rw [Nat.blt_eq];omega)] at this
  omega
theorem Oc.ahead {all:List Oper} {sched:List (Nat×Bool)} (M:Oc all sched):∀(n:Nat) {i j:Nat},reaches all n i j=true->∀pre q r,sched=pre++(i,q)::r->j ∈ pre.map (·.1)
 |0,i,j,h,pre,q,r,e=>by cases h
 |n+1,i,j,h,pre,q,r,e=>by
  obtain ⟨o,ho,_⟩:=M.kind pre i q r e
  rw [reaches,ho] at h
  simp only [Bool.or_eq_true,List.any_eq_true,Bool.and_eq_true] at h
  rcases h with ⟨x,h1,U,h3⟩|⟨x,h1,⟨U,h3⟩,h4⟩
  .have:=Nat.eq_of_beq_eq_true h3
   subst this
   exact M.back pre i q r o e ho x ke U
  .have hm:=M.back pre i q r o e ho x ke U
   obtain ⟨p,hp,hpe⟩:=List.mem_map.1 hm
   obtain ⟨CP,r1,e1⟩:=List.append_of_mem hp
   have:=M.ahead n h4 CP p.2 (r1++(i,q)::r) (by grind)
   simp_all
end
section
variable {D:List Deferred} {P:Program} {T:List (Nat×Ty)} {C:FuncId->List V->St->(Ay->St->Prop)->Prop} {I0 I:Mem} {st0 st:St} {w0 w:World} {β:Nat->Option Nat} {env:Env} {a:Act}
theorem MT {K:Env->Prop} (h:∀t,d=some t->t<env.sz) (k:K {env with tmps:=NA env.tmps d v}):env.go d v K:=by
 cases d with
 |none=>exact k
 |some t=>exact AM ke k
theorem IZ (h:Gr S all i=true):Fv S all i=true:=by
 unfold Gr at h
 unfold Fv
 simp_all
def pW (T:List (Nat×Ty)) (C:FuncId->List V->St->(Ay->St->Prop)->Prop) (all:List Oper) (S:List (Nat×Bool)) (sti:St) (b0:List (Nat×List V)) (U:Env) (vs:Nat->V) (pre:List (Nat×Bool)) (j:Nat) (o:Oper):Prop:=
 (∀t,o.dst=some t->t<U.sz)/\∀e:Env,(∀t ∈ Oper.B1 all o,assoc e.tmps t=FR all U.tmps vs (λk=>decide (k ∈ pre.map (·.1))) t)->e.Bj=U.Bj->e.sz=U.sz->e.gl=U.gl->
   A8 all o e (Bf T C all o b0 e IB (vs j)\/(Gr S all j=true/\Bf T C all o U.boxes e sti (vs j))\/(Fv S all j=true/\Bf T C all o U.boxes e IB (vs j))) (vs j=.Bq [])
structure MF (T:List (Nat×Ty)) (C:FuncId->List V->St->(Ay->St->Prop)->Prop) (all:List Oper) (sched:List (Nat×Bool)) (sti:St) (L:List Nat) (b0:List (Nat×List V)) (Q:AE->Env->St->Prop) (E0:Env)
 (vs:Nat->V) (pre post:List (Nat×Bool)) (Ef:Env) (bs:List Bool) (e:Env) (st:St):Prop where
 split:sched=pre++post
 sub:∀j,bs.getD j false=true->j ∈ pre.map (·.1)
 dd:∀j,(j,false) ∈ pre->bs.getD j false=true
 boxes:Ef.boxes=e.boxes
 n1:Ef.Bj=E0.Bj
 n2:e.Bj=E0.Bj
 s1:Ef.sz=E0.sz
 s2:e.sz=E0.sz
 g1:Ef.gl=E0.gl
 g2:e.gl=E0.gl
 tm:∀t,assoc e.tmps t=FR all E0.tmps vs (λj=>bs.getD j false) t
 tf:∀t,assoc Ef.tmps t=FR all E0.tmps vs (λk=>decide (k ∈ pre.map (·.1))) t
 bx:∀id cs,assoc b0 id=some cs->assoc e.boxes id=some cs
 go:E4 T C all sched L b0 Q post Ef st
 oG:(∀k,(k,false) ∉ pre)->st=sti
 jy:(∀k o,(k,false) ∈ pre->all[k]? =some o->CN o.op=false)->e.boxes=E0.boxes
 hy:∀CP j r o,pre=CP++(j,true)::r->all[j]? =some o->pW T C all sched sti b0 E0 vs CP j o
 cl:∀i o,all[i]? =some o->bs.getD i false=true->∀x ∈ o.after,Region.binds .any x=true->bs.getD x.on false=true
def JW (T:List (Nat×Ty)) (C:FuncId->List V->St->(Ay->St->Prop)->Prop) (all:List Oper) (sched:List (Nat×Bool)) (U:St) (L:List Nat) (b0:List (Nat×List V)) (Q:AE->Env->St->Prop) (E0:Env) (bs:List Bool) (e:Env) (st:St):Prop:=
 ∃vs pre post Ef,MF T C all sched U L b0 Q E0 vs pre post Ef bs e st/\∀p r,post=p::r->p.2=false
theorem pW.MG {all:List Oper} {S:List (Nat×Bool)} {U:St} {b0:List (Nat×List V)} {E0:Env} {vs:Nat->V} {pre:List (Nat×Bool)} {j:Nat} {o:Oper} {i:Nat} {v:V} (h:pW T C all S U b0 E0 vs pre j o) (h1:i≠j) (h2:i ∉ pre.map (·.1)):pW T C all S U b0 E0 (MG vs i v) pre j o:=by
 refine ⟨h.1,λe he k1 k2 k3=>?_⟩
 have hj:Go.Aw.MG vs i v j=vs j:=if_neg (λe=>h1 e.symm)
 rw [hj]
 refine h.2 e (λt ht=>(he t ht).trans (CE λk p _ _=>⟨rfl,λhk=>?_⟩)) k1 k2 k3
 have hk:k ∈ pre.map (·.1):=of_decide_eq_true hk
 exact if_neg λ(e:k=i)=>h2 (e ▸ hk)
theorem KB {pre CP r:List α} {x y:α} (h:pre++[x]=CP++y::r):(pre=CP/\x=y)\/∃U,pre=CP++y::U:=by
 rcases List.eq_nil_or_concat r with rfl|⟨U,z,rfl⟩
 .simp_all
 .rw [List.concat_eq_append,show CP++y::(U++[z])=(CP++y::U)++[z] by simp] at h
  have:=List.append_inj' h rfl
  simp_all
theorem Jc {all:List Oper} {sched:List (Nat×Bool)} (M:Oc all sched) {sti:St} {L:List Nat} {b0:List (Nat×List V)} {Q:AE->Env->St->Prop} {E0:Env} {bs:List Bool} {e:Env} {st:St}:
 ∀(post:List (Nat×Bool)) (vs:Nat->V) (pre:List (Nat×Bool)) (U:Env),MF T C all sched sti L b0 Q E0 vs pre post U bs e st->JW T C all sched sti L b0 Q E0 bs e st
 |[],vs,pre,U,h=>⟨vs,pre,[],U,h,λp r e=>by cases e⟩
 |(i,false)::r,vs,pre,U,h=>⟨vs,pre,_,U,h,λp r e=>by grind⟩
 |(i,true)::r,vs,pre,U,h=>by
  obtain ⟨o,ho,_⟩:=M.kind pre i true r h.split
  have hni:=M.nodup pre i true r h.split
  have hbi:bs.getD i false=false:=by
   cases hb:bs.getD i false with
   |false=>rfl
   |true=>exact absurd (h.sub i hb) hni
  have hgo:=h.go
  rw [Kv] at hgo
  simp only [ho] at hgo
  have hst:Gr sched all i=true->st=sti:=λhe=>h.oG λk hk=>by
   unfold Gr at he
   have h1:=List.all_eq_true.1 he (k,false) (by rw [h.split];simp_all)
   simp only [Bool.false_or] at h1
   obtain ⟨pa,ra,ea⟩:=List.append_of_mem hk
   have h2:=M.ahead _ h1 pa false (ra++(i,true)::r) (by rw [h.split,ea];simp)
   simp_all
  have hbx:Fv sched all i=true->U.boxes=E0.boxes:=λhe=>h.boxes.trans (h.jy λk ok hk hok=>by
   unfold Fv at he
   have h1:=List.all_eq_true.1 he (k,false) (by rw [h.split];simp_all)
   simp only [Bool.false_or,hok] at h1
   cases hst:CN ok.op with
   |false=>rfl
   |true=>
    rw [hst] at h1
    simp only [Bool.not_true,Bool.false_or] at h1
    obtain ⟨pa,ra,ea⟩:=List.append_of_mem hk
    have h2:=M.ahead _ h1 pa false (ra++(i,true)::r) (by rw [h.split,ea];simp)
    simp_all)
  have hes:Gr sched all i=true->Fv sched all i=true:=IZ
  have key:∃v,U.go o.dst v (λenv=>E4 T C all sched L b0 Q r env st)/\A8 all o U (Bf T C all o b0 U IB v\/(Gr sched all i=true/\Bf T C all o E0.boxes U sti v)\/(Fv sched all i=true/\Bf T C all o E0.boxes U IB v)) (v=.Bq []):=by
   rcases G1 hgo with ⟨⟨v,k1,k2⟩,k3⟩|⟨k1,k3⟩
   .exact ⟨v,V.Ly.1 k2,k3 _ _ (k1.imp id λy=>y.imp (λy=>⟨y.1,ke⟩) λy=>⟨y.1,ke⟩)⟩
   .grind
  obtain ⟨v,k1,k2⟩:=key
  obtain ⟨hd,k1⟩:=Gu k1
  have hmem:∀k,k≠i->(k ∈ (pre++[(i,true)]).map (·.1)↔k ∈ pre.map (·.1)):=λk hk=>by
   simp [hk]
  refine Jc M r (MG vs i v) (pre++[(i,true)]) {U with tmps:=NA U.tmps o.dst v} ⟨by rw [h.split];simp,λj hj=>?_,λj hj=>?_,h.boxes,h.n1,h.n2,h.s1,h.s2,h.g1,h.g2,λt=>?_,λt=>?_,h.bx,k1,λhk=>h.oG λk hm=>hk k (List.mem_append_left _ hm),λhk=>h.jy λk o hm ho=>hk k o (List.mem_append_left _ hm) ho,λCP j r' o' hs ho'=>?_,h.cl⟩
  .rw [List.map_append];exact List.mem_append_left _ (h.sub j hj)
  .rcases List.mem_append.1 hj with g|g
   .exact h.dd j g
   .simp at g
  .rw [h.tm]
   refine CE λk p hk _=>⟨rfl,λhb=>?_⟩
   have:k≠i:=λe=>by simp_all
   exact (if_neg this).symm
  .exact Fu (S':=λk=>decide (k ∈ (pre++[(i,true)]).map (·.1))) M.dst ho h.tf (λj hj=>by simp_all) GT t
  .rcases KB hs with ⟨rfl,e2⟩|⟨r2,e2⟩
   .cases e2
    rw [ho] at ho'
    cases ho'
    refine ⟨λt ht=>by rw [<-h.s1];simp_all,λe' he q1 q2 q3=>?_⟩
    have hv:MG vs i v i=v:=if_pos rfl
    rw [hv]
    have ag:∀t ∈ Oper.B1 all o,assoc U.tmps t=assoc e'.tmps t:=λt ht=>by
     rw [he t ht,h.tf t]
     refine CE λk p _ _=>⟨rfl,λhk=>?_⟩
     have hk:k ∈ pre.map (·.1):=of_decide_eq_true hk
     exact (if_neg λ(e:k=i)=>hni (e ▸ hk)).symm
    have:=FE ag k2
    refine E2 (λx=>?_) (λx=>x) this
    unfold Bf at x |-
    rw [<-Yv (bs:=b0) (e:=U) (e':=e') ag (by rw [h.n1,q1]) (by rw [h.s1,q2]) (by rw [h.g1,q3]),<-Yv (bs:=E0.boxes) (e:=U) (e':=e') ag (by rw [h.n1,q1]) (by rw [h.s1,q2]) (by rw [h.g1,q3])]
    exact x
   .have hj:=h.hy CP j r2 o' e2 ho'
    refine hj.MG (λe=>?_) (λhm=>hni ?_)
    .simp_all
    simp_all
theorem Jn {x y:Operand} (ho:o.op=.store t x y) {st:St} {e:Env} {L:List Nat} {K K':V->Env->St->Prop} {Q':AE->Env->St->Prop} (hL:HQ L e o=true)
 (he:∀x ∈ o.op.operands.toList,e.eval x=e'.eval x) (hb:e.boxes=e'.boxes) (hn:e.Bj=e'.Bj) (hs:e.sz=e'.sz) (hg:e.gl=e'.gl)
 (hK:∀s B,(∀id cs,id ∉ L->assoc e.boxes id=some cs->assoc B id=some cs)->K .BO {e with boxes:=B} s->K' .BO {e' with boxes:=B} s):Fg T C o e st K Q->Fg T C o e' st K' Q':=by
 have hx:e.eval x=e'.eval x:=he x (by rw [ho];simp [Op.operands])
 have hy:e.Bo T t y=e'.Bo T t y:=Cf (he y (by rw [ho];simp [Op.operands]))
 unfold HQ at hL
 rw [ho] at hL
 simp only at hL
 simp only [Fg,ho]
 rw [<-hx]
 obtain ⟨ts,bs,n,sz,gl⟩:=e
 obtain ⟨ts',bs',n',sz',gl'⟩:=e'
 simp only at hb hn hs hg hL
 subst hb;subst hn;subst hs;subst hg
 split
 .rename_i id off hev
  rw [hev] at hL
  split
  .rename_i cs ty h1 h2
   have h1:assoc bs id=some cs:=h1
   simp only [h1,h2]
   rw [<-hy]
   intro k
   have k:=V.AA.1 k
   obtain ⟨k1,k⟩:=An.1 k
   obtain ⟨k2,U,k3,k⟩:=Jm k
   refine V.AA.2 ?_
   refine AM k1 ?_
   unfold D8
   refine AM U (AM ke (AM k3 (Bb.2 ?_)))
   refine hK st _ (λid' cs' h3 h4=>?_) k
   rw [Bi]
   have:Nat.beq id id'=false:=cq λe=>by simp_all
   simp_all
  simp_all
 .split
  .rename_i ty h2
   rw [<-hy]
   rintro ⟨cs,h1,k⟩
   refine ⟨cs,h1,?_⟩
   have k:=V.AA.1 k
   obtain ⟨k1,k⟩:=An.1 k
   obtain ⟨k2,U,k3,k⟩:=Jm k
   refine V.AA.2 ?_
   refine AM k1 ?_
   unfold D8
   refine AM U (AM ke (AM k3 (Bb.2 ?_)))
   simp_all
  simp_all
 grind
theorem Eo (hi:i<bs.length):(bs.set i true).getD j false=if j=i then true else bs.getD j false:=by grind
theorem QE (hT:FV P T) (hC:∀f args st R,C f args st R->Co P f args st R/\Plain P f) (hM:∀f args st (R R':Ay->St->Prop),(∀r s,R r s->R' r s)->C f args st R->C f args st R')
 {L:List Nat} (hm:IA sched all=true)
 (h:E4 T C all sched L (A9 (L.map some) env.boxes) Q sched env st) (hr:Rel D I0 st0 w0 I β env st a w):
 wpAny P .any all.toArray (B0 D I0 st0 w0 Q) all.toArray.size (Array.replicate all.toArray.size false) a {w with drawn:=w.drawn+1}:=by
 have M:=Oc.of hm
 have hr:=hr.H4 (Fh.drew w)
 have hb0:∀id cs,assoc (A9 (L.map some) env.boxes) id=some cs->assoc env.boxes id=some cs/\id ∉ L:=λid cs e=>by
  obtain ⟨h1,h2⟩:=Gq e
  simp_all
 have hget:∀bs:List Bool,∀j,j<bs.length->bs.getD j true=bs.getD j false:=λbs j hj=>by simp_all
 have ready:∀{bs:List Bool} {i:Nat} {o:Oper},all[i]? =some o->bs.length=all.length->Bt all bs i=true->bs.getD i false=false/\∀x ∈ o.after,Region.binds .any x=true->bs.getD x.on false=true:=by
  intro bs i o ho hb hrd
  have hi:i<bs.length:=by rw [hb];exact (List.getElem?_eq_some_iff.1 ho).1
  unfold Bt at hrd
  rw [ho,hget bs i hi] at hrd
  simp only [Bool.and_eq_true,Bool.not_eq_true',List.all_eq_true] at hrd
  refine ⟨hrd.1,λx hx hb=>?_⟩
  have:=hrd.2 x ke
  rw [hb] at this
  simpa using this
 have listed:∀{bs:List Bool},(∀i o,all[i]? =some o->bs.getD i false=true->∀x ∈ o.after,Region.binds .any x=true->bs.getD x.on false=true)->
  ∀(n:Nat) {i j:Nat} {o:Oper},reaches all n i j=true->all[i]? =some o->(∀x ∈ o.after,Region.binds .any x=true->bs.getD x.on false=true)->bs.getD j false=true:=by
  intro bs cl n
  induction n with
  |zero=>intro i j o h;cases h
  |succ n ih=>
   intro i j o h ho ha
   rw [reaches,ho] at h
   simp only [Bool.or_eq_true,List.any_eq_true,Bool.and_eq_true] at h
   rcases h with ⟨x,h1,h2,h3⟩|⟨x,h1,⟨h2,h3⟩,h4⟩
   .have:=Nat.eq_of_beq_eq_true h3
    grind
   .have hx:=ha x ke h2
    cases hp:all[x.on]? with
    |none=>
     cases n with
     |zero=>cases h4
     |succ n=>rw [reaches,hp] at h4;cases h4
    |some p=>grind
 refine XE hT hC (Inv:=JW T C all sched st L (A9 (L.map some) env.boxes) Q env) ?_ ?_ ?_ _ (List.replicate all.length false) _ _ β env st _ _ GT GT GT ?_ hr
 .intro bs e st1 i o hbl hinv ho hrd
  obtain ⟨vs,pre,post,Ef,F,hh⟩:=hinv
  obtain ⟨hbi,haft⟩:=ready ho hbl hrd
  have hil:i<bs.length:=by rw [hbl];exact (List.getElem?_eq_some_iff.1 ho).1
  have B1:∀{CP:List (Nat×Bool)} {q:Bool} {r:List (Nat×Bool)},sched=CP++(i,q)::r->∀t ∈ Oper.B1 all o,assoc e.tmps t=FR all env.tmps vs (λk=>decide (k ∈ CP.map (·.1))) t:=by
   intro CP q r hs t ht
   rw [F.tm]
   refine CE λk p hk hd=>⟨?_,λ_=>rfl⟩
   rcases Nat.lt_trichotomy k i with hki|rfl|hki
   .have h1:=M.lo i k o p t ho hk hd ht hki
    have h2:=listed F.cl _ h1 ho haft
    have h3:=M.ahead _ h1 _ _ _ hs
    grind
   .show bs.getD k false=decide (k ∈ CP.map (·.1))
    rw [hbi,decide_eq_false (M.nodup _ _ _ _ hs)]
   .have h1:=M.hi i k o p t ho hk hd ht hki
    show bs.getD k false=decide (k ∈ CP.map (·.1))
    have h2:bs.getD k false=false:=by
     cases hb:bs.getD k false with
     |false=>rfl
     |true=>have:=listed F.cl _ h1 hk (F.cl k p hk hb);grind
    have h3:k ∉ CP.map (·.1):=λhm=>by
     obtain ⟨x,hx,hxe⟩:=List.mem_map.1 hm
     obtain ⟨pa,ra,ea⟩:=List.append_of_mem hx
     have h4:=M.ahead _ h1 pa x.2 (ra++(i,q)::r) (by grind)
     exact M.nodup _ _ _ _ hs (by grind)
    grind
  have cl':∀k p,all[k]? =some p->(bs.set i true).getD k false=true->∀x ∈ p.after,Region.binds .any x=true->(bs.set i true).getD x.on false=true:=by
   intro k p hp hk x hx hb
   rw [Eo hil] at hk |-
   split
   .rfl
   .split at hk
    .grind
    .exact F.cl k p hp hk x hx hb
  by_cases hmem:i ∈ pre.map (·.1)
  . 
   obtain ⟨⟨i',q⟩,hx,rfl⟩:=List.mem_map.1 hmem
   obtain ⟨CP,r,epre⟩:=List.append_of_mem hx
   cases q with
   |false=>have:=F.dd _ hx;grind
   |true=>
    have hs:sched=CP++(i',true)::(r++post):=by rw [F.split,epre];simp
    obtain ⟨hd,hy⟩:=F.hy CP i' r o epre ho
    have hy:=hy e (B1 hs) F.n2 F.s2 F.g2
    obtain ⟨o',ho',U⟩:=M.kind _ _ _ _ hs
    have ho2:all[i']? =some o:=ho
    rw [ho2] at ho'
    cases ho'
    have U:Eu o.op=true:=U
    have hqk:BD o.op=true:=by
     revert U
     cases o.op<;>simp [Eu,BD]
    have step:e.go o.dst (vs i') (λe'=>JW T C all sched st L (A9 (L.map some) env.boxes) Q env (bs.set i' true) e' st1):=by
     refine MT (λt ht=>by rw [F.s2];grind) ⟨vs,pre,post,Ef,⟨F.split,λj hj=>?_,λj hj=>?_,F.boxes,F.n1,F.n2,F.s1,F.s2,F.g1,F.g2,λt=>?_,F.tf,F.bx,F.go,F.oG,F.jy,F.hy,cl'⟩,hh⟩
     .rw [Eo hil] at hj
      split at hj
      .grind
      .exact F.sub j hj
     .rw [Eo hil]
      split
      .rfl
      .exact F.dd j hj
     .have:=Fu (S:=λj=>bs.getD j false) (S':=λj=>(bs.set i' true).getD j false) (v:=vs i') M.dst ho F.tm (λj hj=>by grind) (by grind) t
      refine this.trans (CE λk p _ _=>⟨rfl,λ_=>?_⟩)
      unfold MG
      grind
    refine E2 (λx=>?_) (λx=>?_) hy
    .have hbx:Fv sched all i'=true->e.boxes=env.boxes:=λhe=>F.jy λk ok hk hok=>by
      unfold Fv at he
      have h1:=List.all_eq_true.1 he (k,false) (by grind)
      simp only [Bool.false_or,hok] at h1
      cases hst:CN ok.op with
      |false=>rfl
      |true=>
       rw [hst] at h1
       simp only [Bool.not_true,Bool.false_or] at h1
       have:=listed F.cl _ h1 hok (F.cl k ok hok (F.dd k hk))
       grind
     rcases x with x|⟨he,x⟩|⟨he,x⟩
     .unfold Bf at x
      refine CJ (T:=T) (C:=C) (env:=e.only (A9 (L.map some) env.boxes) (Oper.B1 all o)) (env':=e) (st:=IB) (st':=st1) hM hqk (.inr ⟨U,λ_=>rfl⟩) (Fq λt _=>rfl) F.bx (λv s s' g k=>?_) (λ_ _ k=>k.elim) x
      grind
     .have hini:st1=st:=F.oG λk hk=>by
       unfold Gr at he
       have h1:=List.all_eq_true.1 he (k,false) (by grind)
       simp only [Bool.false_or] at h1
       have h2:=F.dd k hk
       cases hp:all[k]? with
       |none=>
        grind
       |some p=>
        have:=listed F.cl _ h1 hp (F.cl k p hp h2)
        grind
      subst hini
      unfold Bf at x
      have hb:=hbx (IZ he)
      refine CJ (T:=T) (C:=C) (env:=e.only env.boxes (Oper.B1 all o)) (env':=e) (st:=st1) (st':=st1) hM hqk (.inl rfl) (Fq λt _=>rfl) (λid cs h=>by rw [hb];exact h) (λv s s' g k=>?_) (λ_ _ k=>k.elim) x
      grind
     .unfold Bf at x
      have hb:=hbx he
      refine CJ (T:=T) (C:=C) (env:=e.only env.boxes (Oper.B1 all o)) (env':=e) (st:=IB) (st':=st1) hM hqk (.inr ⟨U,λ_=>rfl⟩) (Fq λt _=>rfl) (λid cs h=>by rw [hb];exact h) (λv s s' g k=>?_) (λ_ _ k=>k.elim) x
      grind
    grind
  . 
   obtain ⟨x,hx,rfl⟩:=List.mem_map.1 (M.cover i (List.getElem?_eq_some_iff.1 ho).1)
   rw [F.split] at hx
   have hxp:x ∈ post:=by
    rcases List.mem_append.1 hx with g|g
    .grind
    .exact g
   cases post with
   |nil=>cases hxp
   |cons p r=>
    obtain ⟨k,q⟩:=p
    have hq:q=false:=hh _ _ rfl
    subst hq
    have hxe:x=(k,false):=by
     rcases List.mem_cons.1 hxp with g|g
     .exact g
     .have h1:=M.chain pre k r F.split x g
      have h2:=listed F.cl _ h1 ho haft
      exact absurd (F.sub k h2) (M.nodup _ _ _ _ F.split)
    subst hxe
    have ho:all[k]? =some o:=ho
    have hbi:bs.getD k false=false:=hbi
    have hil:k<bs.length:=hil
    have hmem:k ∉ pre.map (·.1):=hmem
    have hgo:=F.go
    rw [Kv] at hgo
    simp only [ho] at hgo
    have ag:∀t ∈ Oper.B1 all o,assoc Ef.tmps t=assoc e.tmps t:=λt ht=>by rw [F.tf,B1 F.split t ht]
    have hag:=Gs (all:=all) (o:=o) ag
    have next:∀(v:V) (s:St) (B:List (Nat×List V)),(∀id cs,assoc (A9 (L.map some) env.boxes) id=some cs->assoc B id=some cs)->(CN o.op=false->B=e.boxes)->
     Env.go {Ef with boxes:=B} o.dst v (λenv'=>E4 T C all sched L (A9 (L.map some) env.boxes) Q r env' s)->
     Env.go {e with boxes:=B} o.dst v (λe'=>JW T C all sched st L (A9 (L.map some) env.boxes) Q env (bs.set k true) e' s):=by
     intro v s B hB hBe hk
     obtain ⟨hd,hk⟩:=Gu hk
     have hd:∀t,o.dst=some t->t<Ef.sz:=hd
     have hmp:∀j,j≠k->(j ∈ (pre++[(k,false)]).map (·.1)↔j ∈ pre.map (·.1)):=λj hj=>by simp [hj]
     refine MT (λt ht=>by show t<e.sz;rw [F.s2,<-F.s1];grind) (Jc M r (MG vs k v) (pre++[(k,false)]) {Ef with boxes:=B,tmps:=NA Ef.tmps o.dst v} ⟨by rw [F.split];simp,λj hj=>?_,λj hj=>?_,rfl,F.n1,F.n2,F.s1,F.s2,F.g1,F.g2,λt=>?_,λt=>?_,hB,hk,λhk=>absurd (List.mem_append_right _ List.mem_cons_self) (hk k),λhk=>(hBe (hk k o (List.mem_append_right _ List.mem_cons_self) ho)).trans (F.jy λk o hm ho=>hk k o (List.mem_append_left _ hm) ho),λCP j r' o' hs ho'=>?_,cl'⟩)
     .rw [Eo hil] at hj
      rw [List.map_append]
      split at hj
      .grind
      .exact List.mem_append_left _ (F.sub j hj)
     .rw [Eo hil]
      split
      .rfl
      .rename_i hne
       rcases List.mem_append.1 hj with g|g
       .exact F.dd j g
       grind
     .exact Fu (S:=λj=>bs.getD j false) (S':=λj=>(bs.set k true).getD j false) M.dst ho F.tm (λj hj=>by grind) (by grind) t
     .exact Fu (S':=λj=>decide (j ∈ (pre++[(k,false)]).map (·.1))) M.dst ho F.tf (λj hj=>by grind) GT t
     .rcases KB hs with ⟨rfl,e2⟩|⟨r2,e2⟩
      .cases e2
      .have hj:=F.hy CP j r2 o' e2 ho'
       refine hj.MG (λe=>?_) (λhm=>hmem ?_)
       .grind
       grind
    have heE:∀(E:Env),{E with boxes:=E.boxes}=E:=λE=>rfl
    refine FE ag (E2 (λx=>?_) (λx=>?_) hgo)
    .obtain ⟨x1,x⟩:=An.1 x
     obtain ⟨o',ho',U⟩:=M.kind _ _ _ _ F.split
     rw [ho] at ho'
     cases ho'
     have U:(BD o.op||CN o.op)=true:=U
     cases hqk:BD o.op with
     |true=>
      refine CJ (T:=T) (C:=C) (env:=Ef) (env':=e) (st:=st1) (st':=st1) hM hqk (.inl rfl) hag (λid cs hb=>by rw [<-F.boxes];exact hb) (λv s s' g hk=>?_) (λv s hk=>hk _) x
      have:s'=s:=by rcases g with ⟨_,g⟩|⟨g1,g2⟩;exact g;rw [g1,g2]
      subst this
      have:=next v s' e.boxes F.bx (λ_=>rfl) (by rw [<-F.boxes];exact hk)
      omega
     |false=>
      rw [hqk] at U
      have hst:CN o.op=true:=by simpa using U
      cases hop:o.op with
      |store t p y=>
       refine Jn (T:=T) (C:=C) hop x1 hag F.boxes (by rw [F.n1,F.n2]) (by rw [F.s1,F.s2]) (by rw [F.g1,F.g2]) (λs B hB hk=>?_) x
       refine next .BO s B (λid cs hb=>?_) (λh=>by grind) hk
       obtain ⟨_,h2⟩:=hb0 id cs hb
       exact hB id cs h2 (by rw [F.boxes];exact F.bx id cs hb)
      |_=>rw [hop] at hst;cases hst
    .have:=next (.Bq []) st1 e.boxes F.bx (λ_=>rfl) (by rw [<-F.boxes];exact x)
     omega
 .intro bs e st hbl hinv
  obtain ⟨vs,pre,post,Ef,F,hh⟩:=hinv
  by_cases hall:∀p ∈ sched,bs.getD p.1 false=true
  .left
   rw [List.eq_replicate_iff]
   refine ⟨hbl,λb hb=>?_⟩
   obtain ⟨j,hj,rfl⟩:=List.mem_iff_getElem.1 hb
   obtain ⟨p,hp,e⟩:=List.mem_map.1 (M.cover j AC)
   grind
  .right
   have hex:∃pr p po,sched=pr++p::po/\bs.getD p.1 false=false/\∀x ∈ pr,bs.getD x.1 false=true:=by
    clear F hh
    revert hall
    generalize sched=l
    intro hall
    induction l with
    |nil=>grind
    |cons x l ih=>
     cases hb:bs.getD x.1 false with
     |false=>exact ⟨[],x,l,rfl,hb,λy hy=>by cases hy⟩
     |true=>
      obtain ⟨pr,p,po,h1,h2,h3⟩:=ih λh=>hall λp hp=>by grind
      grind
   obtain ⟨pr,⟨k,q⟩,po,h1,h2,h3⟩:=hex
   obtain ⟨o,ho,_⟩:=M.kind _ _ _ _ h1
   have hk:k<all.length:=(List.getElem?_eq_some_iff.1 ho).1
   refine ⟨k,hk,?_⟩
   unfold Bt
   rw [ho,hget bs k AC,h2]
   simp only [Bool.not_false,Bool.true_and,List.all_eq_true]
   intro x hx
   cases hb:Region.binds .any x with
   |false=>rfl
   |true=>
    obtain ⟨y,hy,e⟩:=List.mem_map.1 (M.back _ _ _ _ o h1 ho x (by grind) hb)
    grind
 .intro e st hinv
  obtain ⟨vs,pre,post,Ef,F,hh⟩:=hinv
  have hp:post=[]:=by
   cases post with
   |nil=>rfl
   |cons p r=>
    obtain ⟨o,ho,_⟩:=M.kind _ _ _ _ F.split
    have:=F.sub p.1 (by grind)
    exact absurd this (M.nodup _ _ _ _ F.split)
  subst hp
  refine ⟨Ef,⟨λt=>?_,λt=>by rw [F.boxes],by rw [F.n1,F.n2],by rw [F.s1,F.s2]⟩,F.go⟩
  rw [F.tm,F.tf]
  refine CE λk p hk _=>⟨?_,λ_=>rfl⟩
  have hlt:=(List.getElem?_eq_some_iff.1 hk).1
  have h1:(List.replicate all.length true).getD k false=true:=by rw [List.getD_eq_getElem?_getD,List.getElem?_replicate,if_pos hlt];rfl
  show (List.replicate all.length true).getD k false=decide (k ∈ pre.map (·.1))
  rw [h1,decide_eq_true (F.sub k h1)]
 .have hf:∀j,(List.replicate all.length false).getD j false=false:=λj=>by grind
  have h0:∀(vs:Nat->V) t,FR all env.tmps vs (λj=>(List.replicate all.length false).getD j false) t=assoc env.tmps t:=λvs t=>by
   unfold FR;grind
  refine Jc M sched (λ_=>.BO) [] env ⟨rfl,λj hj=>(by grind),λj hj=>(by cases hj),rfl,rfl,rfl,rfl,rfl,rfl,rfl,λt=>(h0 _ t).symm,λt=>?_,λid cs hb=>(hb0 id cs hb).1,h,λ_=>rfl,λ_=>rfl,λCP j r o e=>(by cases CP<;>cases e),λi o ho hi=>(by grind)⟩
  unfold FR
  grind
end
section
variable {D:List Deferred} {P:Program} {T:List (Nat×Ty)} {C:FuncId->List V->St->(Ay->St->Prop)->Prop} {I0 I:Mem} {st0 st:St} {w0 w:World} {β:Nat->Option Nat} {env:Env} {a:Act}
variable {o:Oper} {K:V->Env->St->Prop} {Q:AE->Env->St->Prop} {next:Act->World->Prop} {Qc:Exit->Act->World->Prop}
theorem bO {x y:Code} {st:St} (h:AW P x (BL (ND T C y Q) Q) env st) (k:∀env st,ND T C y Q env st->AW P y Q env st):AW P (.seq x y) Q env st:=λD I0 st0 w0 I β a w hr=>by
 refine wp_seq (wp_mono (h D I0 st0 w0 I β a w hr) ?_)
 rintro e a w ⟨I,β,env,st,ae,h1,U,h3⟩
 cases ae with
 |normal=>cases e<;>first|exact k env st h3 D I0 st0 w0 I β a w h1|exact U.elim
 |exit i=>cases e<;>first|exact ⟨I,β,env,st,.exit i,h1,U,h3⟩|exact U.elim
 |goto i=>cases e<;>first|exact ⟨I,β,env,st,.goto i,h1,U,h3⟩|exact U.elim
 |ret=>cases e<;>first|exact ⟨I,β,env,st,.ret,h1,U,h3⟩|exact U.elim
 |BU v=>cases e<;>first|exact ⟨I,β,env,st,.BU v,h1,U,h3⟩|exact U.elim
def Bz (P:Program) (T:List (Nat×Ty)) (C:FuncId->List V->St->(Ay->St->Prop)->Prop) (c:Code):Prop:=
 ∀l f,(KL T C c).2 l=some f->∃rest,findLabel c l=some rest/\∀Q env st,f Q env st->AW P rest Q env st
theorem Bz.none {c:Code} (h:∀l,(KL T C c).2 l=none):Bz P T C c:=λl f e=>by simp_all
theorem OW (c:Code) (l:Nat) (h:(KL T C c).2 l=none):findLabel c l=none:=by
 induction c with
 |seq x y ihx ihy=>
  have e:oh ((KL T C x).2 l) (KL T C y).1 ((KL T C y).2 l)=none:=h
  cases U:(KL T C x).2 l with
  |some g=>rw [U] at e;cases e
  |none=>
   rw [U] at e
   simp [findLabel,ihx U,ihy e]
 |label l0=>
  have e:(bif Nat.beq l0 l then some λ(Q:AE->Env->St->Prop) env st=>Q .normal env st else none)=none:=h
  cases hb:Nat.beq l0 l with
  |true=>simp_all
  |false=>
   have:¬l0=l:=λx=>by simp_all
   simp [findLabel,this]
 |_=>simp [findLabel]
theorem Dr (hT:FV P T) (hm:P.follows .mixedOrders=true) (hC:∀f args st R,C f args st R->Co P f args st R/\Plain P f) (hM:∀f args st (R R':Ay->St->Prop),(∀r s,R r s->R' r s)->C f args st R->C f args st R'):∀(c:Code),(∀{Q:AE->Env->St->Prop} {env:Env} {st:St},ND T C c Q env st->AW P c Q env st)/\Bz P T C c
 | .skip=>⟨λ{Q env st} k=>λD I0 st0 w0 I β a w h=>wp_skip ⟨I,β,env,st,.normal,h,trivial,k⟩,Bz.none λ_=>rfl⟩
 | .region id ops true=>⟨λ{Q env st} k=>λD I0 st0 w0 I β a w h=>wp_region_any hm (by
    have k:(Gx env ops.toList ops.toList λk L=>(IX k ops.toList&&Hq L)=true/\Hj T C ops.toList Q env env.boxes (A9 L env.boxes) ops.toList env st)\/∃(sched:List (Nat×Bool)) (L:List Nat),IA sched ops.toList=true/\E4 T C ops.toList sched L (A9 (L.map some) env.boxes) Q sched env st:=k
    rcases k with k|⟨sched,L,k1,k2⟩
    .obtain ⟨h1,U⟩:=H6.1 k
     have:=OC hT hC hM h1 U h
     omega
    .have:=QE hT hC hM k1 k2 h
     omega),Bz.none λ_=>rfl⟩
 | .region id ops false=>⟨λ{Q env st} k=>λD I0 st0 w0 I β a w h=>wp_region_list (by
    have:=EM hT hC h (show DP T C ops.toList Q ops.toList env st from k)
    omega),Bz.none λ_=>rfl⟩
 | .seq x y=>⟨λ{Q env st} k=>bO ((Dr hT hm hC hM x).1 (show ND T C x _ env st from k)) λenv st=>(Dr hT hm hC hM y).1,λl f e=>by
    have e:oh ((KL T C x).2 l) (KL T C y).1 ((KL T C y).2 l)=some f:=e
    have hx:=(Dr hT hm hC hM x).2 l
    have hy:=(Dr hT hm hC hM y).2 l
    cases hl:(KL T C x).2 l with
    |none=>
     rw [hl] at e
     obtain ⟨rest,h1,U⟩:=hy f e
     have hn:=OW x l hl
     exact ⟨rest,by simp [findLabel,hn,h1],U⟩
    |some g=>
     rw [hl] at e
     cases e
     obtain ⟨rest,h1,U⟩:=hx g hl
     exact ⟨.seq rest y,by simp [findLabel,h1],λQ env st k=>bO (U _ env st k) λenv st=>(Dr hT hm hC hM y).1⟩⟩
 | .cond c x y=>⟨λ{Q env st} k=>λD I0 st0 w0 I β a w h=>by
   have hc:=h.f.eval c
   have k:(match env.eval c with
    | .bool t=>lit t (ND T C x Q env st) (ND T C y Q env st)
    |_=>False):=k
   split at k
   .rename_i t he
    rw [he] at hc
    have hc:=Jj hc
    cases t with
    |true=>exact wp_cond_true hc ((Dr hT hm hC hM x).1 (show ND T C x Q env st from k) D I0 st0 w0 I β a w h)
    |false=>exact wp_cond_false hc ((Dr hT hm hC hM y).1 (show ND T C y Q env st from k) D I0 st0 w0 I β a w h)
   simp_all,Bz.none λ_=>rfl⟩
 | .block id c=>⟨λ{Q env st} k=>λD I0 st0 w0 I β a w h=>by
   refine wp_block (wp_mono ((Dr hT hm hC hM c).1 (show ND T C c _ env st from k) D I0 st0 w0 I β a w h) ?_)
   rintro e a w ⟨I,β,env,st,ae,h1,U,h3⟩
   cases ae with
   |normal=>cases e<;>first|exact ⟨I,β,env,st,.normal,h1,trivial,h3⟩|exact U.elim
   |exit i=>
    cases e<;>try exact U.elim
    rename_i i'
    have U:i'=i:=U
    subst U
    simp only [Oo] at h3
    show (if i'=id then B0 D I0 st0 w0 Q .normal a w else B0 D I0 st0 w0 Q (.exit i') a w)
    by_cases hi:i'=id
    .subst hi
     rw [if_pos rfl]
     simp only [Nat.beq_refl,cond_true] at h3
     exact ⟨I,β,env,st,.normal,h1,trivial,h3⟩
    .rw [if_neg hi]
     have:Nat.beq i' id=false:=by
      cases hb:Nat.beq i' id with
      |false=>rfl
      |true=>simp_all
     rw [this] at h3
     exact ⟨I,β,env,st,.exit i',h1,rfl,h3⟩
   |goto i=>cases e<;>first|exact ⟨I,β,env,st,.goto i,h1,U,h3⟩|exact U.elim
   |ret=>cases e<;>first|exact ⟨I,β,env,st,.ret,h1,U,h3⟩|exact U.elim
   |BU v=>cases e<;>first|exact ⟨I,β,env,st,.BU v,h1,U,h3⟩|exact U.elim,Bz.none λ_=>rfl⟩
 | .loop c=>⟨λ{Q env st} k=>λD I0 st0 w0 I β a w h=>by
   obtain ⟨α,E,S,J,μ,x0,h0,he,hs,round⟩:=(show ∃(α:Type) (E:α->Env) (S:α->St) (J:α->Prop) (μ:α->Nat) (x0:α),J x0/\(E x0).Ep env/\St.le (S x0) st/\
    ∀x,J x->ND T C c (BL (λenv' st'=>∃y,J y/\μ y<μ x/\(E y).Ep env'/\St.le (S y) st') Q) (E x) (S x) from k)
   refine Nj (λn a w=>∃I β x,Rel D I0 st0 w0 I β (E x) (S x) a w/\J x/\n=μ x) (n0:=μ x0) ⟨I,_,x0,(h.GQ hs).Iy (Env.Iz he),h0,rfl⟩ ?_
   rintro n a w ⟨I,β,x,h,hi,rfl⟩
   refine wp_mono ((Dr hT hm hC hM c).1 (round x hi) D I0 st0 w0 I β a w h) ?_
   rintro e a w ⟨I,β,env,st,ae,h1,U,h3⟩
   cases ae with
   |normal=>
    cases e<;>try exact U.elim
    obtain ⟨y,g1,g2,g3,g4⟩:=h3
    exact ⟨μ y,g2,I,_,y,(h1.GQ g4).Iy (Env.Iz g3),g1,rfl⟩
   |exit i=>cases e<;>first|exact ⟨I,β,env,st,.exit i,h1,U,h3⟩|exact U.elim
   |goto i=>cases e<;>first|exact ⟨I,β,env,st,.goto i,h1,U,h3⟩|exact U.elim
   |ret=>cases e<;>first|exact ⟨I,β,env,st,.ret,h1,U,h3⟩|exact U.elim
   |BU v=>cases e<;>first|exact ⟨I,β,env,st,.BU v,h1,U,h3⟩|exact U.elim,Bz.none λ_=>rfl⟩
 | .exit id=>⟨λ{Q env st} k=>λD I0 st0 w0 I β a w h=>wp_exit ⟨I,β,env,st,.exit id,h,rfl,k⟩,Bz.none λ_=>rfl⟩
 | .goto l=>⟨λ{Q env st} k=>λD I0 st0 w0 I β a w h=>wp_goto ⟨I,β,env,st,.goto l,h,rfl,k⟩,Bz.none λ_=>rfl⟩
 | .label l0=>⟨λ{Q env st} k=>λD I0 st0 w0 I β a w h=>wp_label ⟨I,β,env,st,.normal,h,trivial,k⟩,λl f e=>by
    have e:(bif Nat.beq l0 l then some λ(Q:AE->Env->St->Prop) env st=>Q .normal env st else none)=some f:=e
    cases hb:Nat.beq l0 l with
    |false=>simp_all
    |true=>
     rw [hb] at e
     cases e
     have:=Nat.eq_of_beq_eq_true hb
     subst this
     exact ⟨.skip,by simp [findLabel],λQ env st k=>λD I0 st0 w0 I β a w h=>wp_skip ⟨I,β,env,st,.normal,h,trivial,k⟩⟩⟩
 | .ret=>⟨λ{Q env st} k=>λD I0 st0 w0 I β a w h=>wp_ret ⟨I,β,env,st,.ret,h,trivial,k⟩,Bz.none λ_=>rfl⟩
 | .rangeFunc .. =>⟨λ{Q env st} k=>False.elim k,Bz.none λ_=>rfl⟩
 | .scope c=>⟨λ{Q env st} k=>λD I0 st0 w0 I β a w h=>by
    obtain ⟨α,lab,E,S,J,μ,first,pass⟩:=(show N3 (KL T C c).1 (KL T C c).2 Q env st from k)
    refine SQ (λl n a w=>∃I β x,Rel D I0 st0 w0 I β (E x) (S x) a w/\J x/\lab x=l/\n=μ x) ?_ ?_
    .refine wp_mono ((Dr hT hm hC hM c).1 first D I0 st0 w0 I β a w h) ?_
     rintro e a w ⟨I,β,env,st,ae,h1,U,h3⟩
     cases ae with
     |goto i=>
      cases e<;>try exact U.elim
      have U:_=i:=U
      subst U
      obtain ⟨y,g1,g2,g3,g4⟩:=h3
      exact ⟨μ y,I,_,y,(h1.GQ g4).Iy (Env.Iz g3),g2,g1,rfl⟩
     |normal=>cases e<;>first|exact ⟨I,β,env,st,.normal,h1,U,h3⟩|exact U.elim
     |exit i=>cases e<;>first|exact ⟨I,β,env,st,.exit i,h1,U,h3⟩|exact U.elim
     |ret=>cases e<;>first|exact ⟨I,β,env,st,.ret,h1,U,h3⟩|exact U.elim
     |BU v=>cases e<;>first|exact ⟨I,β,env,st,.BU v,h1,U,h3⟩|exact U.elim
    .rintro l n a w ⟨I,β,x,h,hi,rfl,rfl⟩
     obtain ⟨f,hf,hp⟩:=pass x hi
     obtain ⟨rest,hr,hs⟩:=(Dr hT hm hC hM c).2 _ f hf
     refine ⟨rest,hr,wp_mono (hs _ _ _ hp D I0 st0 w0 I β a w h) ?_⟩
     rintro e a w ⟨I,β,env,st,ae,h1,U,h3⟩
     cases ae with
     |goto i=>
      cases e<;>try exact U.elim
      have U:_=i:=U
      subst U
      obtain ⟨y,g1,g2,gm,g3,g4⟩:=h3
      exact ⟨μ y,gm,I,_,y,(h1.GQ g4).Iy (Env.Iz g3),g2,g1,rfl⟩
     |normal=>cases e<;>first|exact ⟨I,β,env,st,.normal,h1,U,h3⟩|exact U.elim
     |exit i=>cases e<;>first|exact ⟨I,β,env,st,.exit i,h1,U,h3⟩|exact U.elim
     |ret=>cases e<;>first|exact ⟨I,β,env,st,.ret,h1,U,h3⟩|exact U.elim
     |BU v=>cases e<;>first|exact ⟨I,β,env,st,.BU v,h1,U,h3⟩|exact U.elim,Bz.none λ_=>rfl⟩
 | .refuse _=>⟨λ{Q env st} k=>False.elim k,Bz.none λ_=>rfl⟩
structure Q6 (P:Program) (T:List (Nat×Ty)):Prop where
 t:FV P T
 m:P.follows .mixedOrders=true
theorem L7 (hP:Q6 P T) (hC:∀f args st R,C f args st R->Co P f args st R/\Plain P f) (hM:∀f args st (R U:Ay->St->Prop),(∀r s,R r s->U r s)->C f args st R->C f args st U) (c:Code) {st:St} (h:ND T C c Q env st):AW P c Q env st:=(Dr hP.t hP.m hC hM c).1 h
end
structure A3 (P:Program) (f:FuncId) (args:List V) (st:St) (R:Ay->St->Prop):Prop where
 a:Co P f args st R
 b:Plain P f
theorem A3.mono {P:Program} {f:FuncId} {args:List V} {st:St} {R U:Ay->St->Prop} (h:A3 P f args st R) (k:∀r s,R r s->U r s):A3 P f args st U:=⟨h.a.mono k,h.b⟩
theorem B5 (P:Program):∀f args st R,A3 P f args st R->Co P f args st R/\Plain P f:=λ_ _ _ _ h=>⟨h.a,h.b⟩
section
variable {D:List Deferred} {P:Program} {T:List (Nat×Ty)} {I:Mem} {st:St} {w:World}
theorem Oh:∀{l:List V} {k t:Nat} {v:V},assoc (Iw k l) t=some v->k<=t/\l[t - k]? =some v
 |[],k,t,v,h=>by cases h
 |u::r,k,t,v,h=>by
  rw [Vh,Bi] at h
  cases hb:Nat.beq k t with
  |true=>
   simp_all
  |false=>
   rw [hb] at h
   obtain ⟨U,h2⟩:=Oh h
   grind
def Uf (tmps:Array Value):ResultVar->Sem Value
 | .tmp t=>pure (tmps.getD t undef)
 | .cell x t=>do loadVar t (<-asAddr (tmps.getD x undef))
theorem Sh (hT:FV P T) {a:Act} (h:Rel D I0 st0 w0 I β env st a w) {x:ResultVar} {K:V->Prop} (k:Sg T env st x K):
 ∃v c,(Uf a.tmps x).run P w=.ok c w/\AG I v c/\K v:=by
 cases x with
 |tmp t=>
  have k:(env.get t).force λv=>Dh v.plain (K v):=k
  obtain ⟨hp,k⟩:=An.1 (V.AA.1 k)
  exact ⟨_,_,rfl,(h.f.get t).rep hp,k⟩
 |cell x t=>
  have hx:=h.f.get x
  have fin:∀{ad:Addr} {c:Value} {v:V},a.tmps.getD x undef=.pointer (some ad)->(loadVar t ad).run P w=.ok c w->AG I v c->K v->
   ∃v c,(Uf a.tmps (.cell x t)).run P w=.ok c w/\AG I v c/\K v:=by
   intro ad c v e1 e2 e3 k
   refine ⟨v,c,?_,e3,k⟩
   simp only [Uf,e1,asAddr,Sem.run_bind,Sem.run_pure,Result.andThen_ok,e2]
  simp only [Sg] at k
  split at k
  .rename_i id off he
   rw [he] at hx
   obtain ⟨b,hb,hx⟩:=HM hx
   split at k
   .rename_i cs U
    obtain ⟨b',h1,h2⟩:=h.f.box id cs U
    rw [hb] at h1
    injection h1 with h1
    subst h1
    obtain ⟨vs,ty,h2,h3⟩:=h2.cells (J9 k)
    obtain ⟨v,c,g1,g2,g3⟩:=DN (b:=b) (o:=0) hT h3 (λj v e=>by simpa using HG h2 e) k
    grind
   simp_all
  .rename_i b off he
   rw [he] at hx
   have hx:=LG hx
   obtain ⟨cs,U,k⟩:=k
   obtain ⟨vs,ty,h2,h3⟩:=h.s.box b cs U
   obtain ⟨v,c,g1,g2,g3⟩:=DN (b:=b) (o:=0) hT h3 (λj v e=>by simpa using HG h2 e) k
   grind
  simp_all
theorem I7 (U:FV P T) {I0:Mem} {st0:St} {w0:World} {β:Nat->Option Nat} {env:Env} {a:Act} (h:Rel D I0 st0 w0 I β env st a w):∀{rs:List ResultVar} {K:List V->Prop},E1 T env st rs K->
 ∃vs cs,Ak I vs cs/\K vs/\(rs.mapM (Uf a.tmps)).run P w=.ok cs w
 |[],K,k=>⟨[],[],H1,k,rfl⟩
 |x::r,K,k=>by
  rw [P4] at k
  obtain ⟨v,c,e1,e2,k⟩:=Sh (P:=P) U h k
  obtain ⟨vs,cs,h1,h2,h3⟩:=I7 U h k
  refine ⟨v::vs,c::cs,by simp only [Ak];grind,h2,?_⟩
  simp_all
theorem CD (hT:FV P T) {a:Act} (h:Rel D I0 st0 w0 I β env st a w)
 (k:E1 T env st fn.results.toList λvs=>match vs with|[v]=>R (.ret v) st|vs=>R (.ret (.Bq vs)) st):
 ∃v c,(results fn a.tmps).run P w=.ok c w/\AG I v c/\R (.ret v) st:=by
 obtain ⟨vs,cs,U,h2,h3⟩:=I7 (P:=P) hT h k
 have hr:(results fn a.tmps).run P w=.ok (if hh:cs.toArray.size=1 then cs.toArray[0] else .tuple cs.toArray) w:=by
  have e:results fn a.tmps=(do let vs <-fn.results.mapM (Uf a.tmps);pure (if h:vs.size=1 then vs[0] else .tuple vs)):=by
   unfold results
   congr 1
  rw [e,Array.mapM_eq_mapM_toList]
  simp only [Sem.run_bind,Sem.run_map,h3,Result.andThen_ok,Sem.run_pure]
 have hl:=Ak.length U
 match vs,U,h2,hl with
 |[v],U,h2,hl=>
  simp only [Ak] at U
  grind
 |[],U,h2,hl=>
  have hs:¬(cs.toArray.size=1):=by simp at hl |-;omega
  rw [dif_neg hs] at hr
  exact ⟨_,_,hr,by simp only [AG];simp_all,h2⟩
 |x::y::z,U,h2,hl=>
  have hs:¬(cs.toArray.size=1):=by simp at hl |-;omega
  rw [dif_neg hs] at hr
  exact ⟨_,_,hr,by simp only [AG];simp_all,h2⟩
theorem Po {a:Act} (hs:Ci I st w) (U:a.tmps.size=env.sz) (h2:∀t v,assoc env.tmps t=some v->AG I v (a.tmps.getD t undef)) (h3:env.boxes=[]) (h4:a.defers=D):
 Rel D I st w I (λ_=>none) env st a w:=
 ⟨Fr.refl,hs,⟨U,λt v e=>AR.of (h2 t v e),λid cs e=>(by rw [h3] at e;cases e),λid b e=>(by cases e),λi j b e=>(by cases e),λid b e=>(by cases e),h4⟩⟩
theorem Oe (hP:Q6 P T) (gl:List Nat) (hf:P.funcs[f]? =some fn)
 (h:Rf T (A3 P) fn gl args st λr st'=>∃r2 U,(r2=r\/r2=r.wk)/\St.le U st'/\R r2 U):Co P f args st R:=by
 intro I w cargs hs hargs
 unfold Rf at h
 cases hb:fn.body with
 |none=>simp_all
 |some c=>
  rw [hb] at h
  obtain ⟨hle,h⟩:=An.1 h
  have hle:=Nat.le_of_ble_eq_true hle
  have hlen:=Ak.length hargs
  refine calls_of_wp hf hb ?_
  have hrel:Rel [] I st w I (λ_=>none) {tmps:=Iw 0 args,boxes:=[],Bj:=0,sz:=fn.ntmps,gl} st
   {tmps:=cargs.toArray++Array.replicate (fn.ntmps - cargs.toArray.size) undef,defers:=[]} w:=by
   refine Po hs (by grind) (λt v e=>?_) rfl rfl
   obtain ⟨_,e⟩:=Oh e
   rw [Nat.sub_zero] at e
   obtain ⟨c',e1,e2⟩:=Ak.get hargs e
   have hlt:t<cargs.length:=by
    rcases Nat.lt_or_ge t cargs.length with h|h
    .exact h
    .simp_all
   have:(cargs.toArray++Array.replicate (fn.ntmps - cargs.toArray.size) undef).getD t undef=c':=by
    rw [List.getElem?_eq_getElem hlt] at e1
    injection e1 with e1
    subst e1
    simp [Array.getD,Array.getElem_append,hlt]
    omega
   rw [this]
   exact e2
  refine wp_mono (L7 hP (B5 P) (λ_ _ _ _ _ h k=>k.mono h) c h [] I st w I _ _ w hrel) ?_
  rintro e a w' ⟨I1,β1,env1,st1,ae,h1,h2,h3⟩
  have hret:(E1 T env1 st1 fn.results.toList λvs=>match vs with
   |[v]=>∃r2 U,(r2=.ret v\/r2=(Ay.ret v).wk)/\St.le U st1/\R r2 U
   |vs=>∃r2 U,(r2=.ret (.Bq vs)\/r2=(Ay.ret (.Bq vs)).wk)/\St.le U st1/\R r2 U)->
   a.defers=[]/\∃v,(results fn a.tmps).run P w'=.ok v w'/\∃I' st' r,Fr I st w I' st' w'/\Ci I' st' w'/\Ue I' (.returned v) r/\R r st':=by
   intro h3
   obtain ⟨v,c,g1,g2,r2,U,g3,g4,g5⟩:=CD (P:=P) (R:=λr s=>∃r2 U,(r2=r\/r2=r.wk)/\St.le U s/\R r2 U) hP.t h1 h3
   have h1':=h1.GQ g4
   refine ⟨h1.f.defers,c,g1,I1,U,r2,h1'.fr,h1'.s,?_,g5⟩
   rcases g3 with rfl|rfl
   .exact g2
   .exact g2.wk
  cases ae with
  |normal=>cases e<;>first|exact hret h3|exact h2.elim
  |exit i=>exact h3.elim
  |goto i=>exact h3.elim
  |ret=>cases e<;>first|exact hret h3|exact h2.elim
  |BU v=>
   cases e<;>try exact h2.elim
   obtain ⟨r2,U,g3,g4,g5⟩:=h3
   obtain ⟨c',rfl,h2⟩:=h2
   have h1':=h1.GQ g4
   refine ⟨h1.f.defers,I1,U,r2,h1'.fr,h1'.s,?_,g5⟩
   rcases g3 with rfl|rfl
   .exact ⟨c',rfl,h2⟩
   .exact ⟨c',rfl,h2.wk⟩
theorem Pr (hP : Q6 P T) (gl : List Nat) (hf : P.funcs[f]? = some fn) (hb : fn.body.isSome = true) (hn : (fn.name == "runtime.NumGoroutine") = false)
 (h:Rf T (A3 P) fn gl args st λr st'=>∃r2 U,(r2=r\/r2=r.wk)/\St.le U st'/\R r2 U):A3 P f args st R:=⟨Oe hP gl hf h,fn,hf,hb,hn⟩
end
section
variable {P:Program} {T:List (Nat×Ty)}
theorem mC (h:∀p ∈ T,Nq P p.1 p.2):FV P T:=λt ty e=>h (t,ty) (Fi e)
theorem all_cons {p:Nat×Ty->Prop} {x:Nat×Ty} {l:List (Nat×Ty)} (h:p x) (k:∀q ∈ l,p q):∀q ∈ x::l,p q:=λq U=>by grind
def ML:V->Value
 | .int k n=>.int k n
 | .bool b=>.bool b
 | .str s=>.string ⟨s.toArray⟩
 | .slice _ _ _=>.slice none 0 0
 | .Ff=>.pointer none
 | .Au=>.nilFunc
 | .FP=>.nilIface
 |_=>undef
def isZero:V->Bool
 | .int _ _| .bool _| .Ff| .Au| .FP=>true
 | .str []=>true
 | .slice (_+1) [] .full=>true
 |_=>false
theorem Ud {z:V} (h:isZero z=true):AG I z (ML z):=by
 unfold isZero at h
 split at h
 .rfl
 .rfl
 .rfl
 .rfl
 .rfl
 .simp [AG,ML,EF]
 .exact Io (Nat.succ_pos _) _ (.inl rfl)
 grind
theorem Ms {I:Mem}:∀{z:List V},z.all isZero=true->Ak I z (z.map ML)
 |[],_=>by rfl
 |v::r,h=>by
  simp only [List.all_cons,Bool.and_eq_true] at h
  simp only [Ak,List.map_cons]
  exact ⟨_,_,rfl,Ud h.1,Ms h.2⟩
theorem gY {z:V} (h:isZero z=true):(ML z).cells=#[ML z]/\z.known=true/\z.cells=[z]:=by
 unfold isZero at h
 split at h
 all_goals first|(cases h;done)|exact ⟨rfl,rfl,rfl⟩
theorem pK {z:V} {d:TypeDesc} (hu:P.underlying t=some d) (ha:Ra d=false) (hz:isZero z=true)
 (hi:(P.info? t).map (λi=>(i.zero,i.size))=some (some (ML z),1)) (hs:match z with| .str _=>d=.string| .FP=>∃U,d=.interface U| .int k _=>d=.int k| .bool _=>d=.bool|_=>∀U,d≠.interface U):Nq P t (.sc z):=by
 cases hp:P.info? t with
 |none=>simp_all
 |some i=>
  rw [hp] at hi
  simp only [Option.map_some,Option.some.injEq,Prod.mk.injEq] at hi
  obtain ⟨h1,h2,h3⟩:=gY hz
  exact ⟨i,d,ML z,hp,hu,ha,hi.2,hi.1,Ud hz,h1,h2,h3,hs⟩
theorem gK {e:TypeId} {sz bytes:Nat} {c:Value} (hu:P.underlying t=some (.slice e)) (hi:(P.info? t).map (λi=>(i.zero,i.size))=some (some (.slice none 0 0),1))
 (U:(P.info? e).map (λi=>(i.zero,i.size,i.bytes))=some (some c,sz,bytes)) (h0:0<sz) (hc:c.cells.size=sz):Nq P t (.slice e sz bytes):=by
 cases hp:P.info? t with
 |none=>simp_all
 |some i=>
  cases hq:P.info? e with
  |none=>simp_all
  |some j=>
   rw [hp] at hi
   rw [hq] at U
   simp only [Option.map_some,Option.some.injEq,Prod.mk.injEq] at hi U
   exact ⟨i,j,c,hp,hu,hi.2,hi.1,hq,U.2.1,U.2.2,h0,U.1,hc⟩
theorem bz {U:List (Nat×Nat)} {z:List V} {fields:Array Field} (hu:P.underlying t=some (.struct fields)) (hz:z.all isZero=true)
 (hi:(P.info? t).map (λi=>(i.zero,i.size))=some (some (.agg (z.map ML).toArray),z.length))
 (hf:fields.toList.map (λf=>(f.offset,(P.info? f.type).map (·.size)))=U.map (λp=>(p.1,some p.2))) (he:(!X7 z||X3 P t z)=true) (h1:(fields.toList.all λf=>match P.info? f.type,P.underlying f.type with|some j,some d=>j.size !=1|| !Ra d|_,_=>false)=true):Nq P t (.struct U z):=by
 cases hp:P.info? t with
 |none=>simp_all
 |some i=>
  rw [hp] at hi
  simp only [Option.map_some,Option.some.injEq,Prod.mk.injEq] at hi
  refine ⟨i,fields,z.map ML,hp,hu,hi.2,hi.1,Ms hz,?_,λn o s e=>?_,(λhfl=>by simp_all),λn o e=>?_⟩
  .have:=congrArg List.length hf
   grind
  .have h1:(U.map λp=>(p.1,some p.2))[n]? =some (o,some s):=by rw [List.getElem?_map,e];rfl
   grind
  .have h2:(U.map λp=>(p.1,some p.2))[n]? =some (o,some 1):=by rw [List.getElem?_map,e];rfl
   grind
theorem oC {e:TypeId} {sz:Nat} {U:List (Nat×Nat)} {z:List V} (hu:P.underlying t=some (.array n e)) (hz:z.all isZero=true)
 (hi:(P.info? t).map (λi=>(i.zero,i.size))=some (some (.agg (z.map ML).toArray),z.length)) (hj:(P.info? e).map (·.size)=some sz) (hf:U=(List.range U.length).map λi=>(i*sz,sz)):Nq P t (.arr U z):=by
 cases hp:P.info? t with
 |none=>simp_all
 |some i=>
  cases hq:P.info? e with
  |none=>simp_all
  |some j=>
   rw [hp] at hi
   rw [hq] at hj
   simp only [Option.map_some,Option.some.injEq,Prod.mk.injEq] at hi hj
   refine ⟨i,n,e,j,z.map ML,hp,hu,hi.2,hi.1,Ms hz,hq,λk o s e=>?_⟩
   grind
def Ty.zv:Ty->Value×Nat
 | .sc z=>(ML z,1)
 | .slice _ _ _=>(.slice none 0 0,1)
 | .struct _ z| .arr _ z=>(.agg (z.map ML).toArray,z.length)
def ml:V->TypeDesc->Bool
 | .str _,.string=>true
 | .FP,.interface _=>true
 | .int k _,.int U=>decide (k=U)
 | .bool _,.bool=>true
 | .str _,_| .FP,_| .int _ _,_| .bool _,_|_,.interface _=>false
 |_,_=>true
def qH (P:Program) (t:TypeId) (ty:Ty):Bool:=match ty,P.underlying t with
 | .sc z,some d=> !Ra d&&(isZero z&&ml z d)
 | .slice e sz bytes,some (.slice e')=>e==e'&&(match P.info? e with|some j=>(match j.zero with|some c=>c.cells.size==sz|none=>false)&&(j.size==sz&&(j.bytes==bytes&&decide (0<sz)))|none=>false)
 | .struct U z,some (.struct fields)=>z.all isZero&&(decide (fields.toList.map (λf=>(f.offset,(P.info? f.type).map (·.size)))=U.map (λp=>(p.1,some p.2)))&&((!X7 z||X3 P t z)&&
    fields.toList.all λf=>match P.info? f.type,P.underlying f.type with|some j,some d=>j.size !=1|| !Ra d|_,_=>false))
 | .arr U z,some (.array _ e)=>z.all isZero&&(match P.info? e with|some j=>decide (U=(List.range U.length).map λi=>(i*j.size,j.size))|none=>false)
 |_,_=>false
theorem mB (h1:T.map (λp=>(P.info? p.1).map λi=>(i.zero,i.size))=T.map λp=>some (some p.2.zv.1,p.2.zv.2)) (h2:(T.all λp=>qH P p.1 p.2)=true):FV P T:=mC λp hp=>by
 have e1:=List.map_inj_left.1 h1 p hp
 have U:=List.all_eq_true.1 h2 p hp
 obtain ⟨t,ty⟩:=p
 dsimp only at e1 U |-
 unfold qH at U
 split at U
 .rename_i z d hu
  simp only [Bool.and_eq_true,Bool.not_eq_true'] at U
  refine pK hu U.1 U.2.1 e1 ?_
  have e3:=U.2.2
  unfold ml at e3
  split at e3<;>simp_all
 .rename_i e sz b e' hu
  simp only [Bool.and_eq_true,beq_iff_eq] at U
  obtain ⟨rfl,U⟩:=U
  cases hj:P.info? e with
  |none=>rw [hj] at U;cases U
  |some j=>
   rw [hj] at U
   cases hz:j.zero with
   |none=>simp [hz] at U
   |some c=>
    simp only [hz,Bool.and_eq_true,beq_iff_eq,decide_eq_true_eq] at U
    exact gK (c:=c) hu e1 (by rw [hj];simp [hz,U]) U.2.2.2 U.1
 .rename_i offs z fields hu
  simp only [Bool.and_eq_true,decide_eq_true_eq] at U
  exact bz hu U.1 e1 U.2.1 U.2.2.1 U.2.2.2
 .rename_i offs z n e hu
  simp only [Bool.and_eq_true] at U
  cases hj:P.info? e with
  |none=>rw [hj] at U;cases U.2
  |some j=>
   rw [hj] at U
   exact oC hu U.1 e1 (by rw [hj];rfl) (of_decide_eq_true U.2)
 .cases U
end
theorem au {args':List V} {st:St} (e:args'=args.map V.wk) (h:A3 P f args' st R):A3 P f args st R:=by
 subst e
 exact ⟨λI w U hs ha=>h.a I w U hs (Ak.map (λ_ _ k=>k.wk) ha),h.b⟩
end Go.Aw
namespace Go.Proofs.Z
open Go Go.Aw
def oI:List (Nat×Ty):=[
 (1,.sc (.Au)),
 (2,.sc (.int .i64 0)),
 (3,.sc (.int .i64 0)),
 (4,.sc (.bool false)),
 (5,.sc (.int .u8 0)),
 (9,.sc (.str [])),
 (12,.sc (.int .u64 0)),
 (15,.sc (.Ff)),
 (16,.sc (.Ff)),
 (20,.sc (.FP)),
 (21,.sc (.int .i32 0)),
 (22,.slice 51 4 40),
 (23,.slice 3 1 8),
 (24,.struct [(0,1),(1,1),(2,1),(3,1)] [.slice 4 [] .full,.int .i64 0,.slice 1 [] .full,.int .i64 0]),
 (25,.struct [(0,1),(1,1),(2,1),(3,1)] [.slice 4 [] .full,.int .i64 0,.slice 1 [] .full,.int .i64 0]),
 (26,.sc (.Au)),
 (27,.sc (.Au)),
 (28,.slice 30 6 72),
 (29,.struct [(0,1),(1,1),(2,1),(3,1),(4,1),(5,1)] [.int .i64 0,.int .i64 0,.str [],.int .i64 0,.int .i64 0,.slice 6 [] .full]),
 (30,.struct [(0,1),(1,1),(2,1),(3,1),(4,1),(5,1)] [.int .i64 0,.int .i64 0,.str [],.int .i64 0,.int .i64 0,.slice 6 [] .full]),
 (31,.sc (.int .i64 0)),
 (33,.sc (.Au)),
 (34,.sc (.Au)),
 (35,.struct [(0,6),(6,4),(10,1)] [.int .i64 0,.int .i64 0,.str [],.int .i64 0,.int .i64 0,.slice 6 [] .full,.slice 4 [] .full,.int .i64 0,.slice 1 [] .full,.int .i64 0,.int .i64 0]),
 (36,.struct [(0,6),(6,4),(10,1)] [.int .i64 0,.int .i64 0,.str [],.int .i64 0,.int .i64 0,.slice 6 [] .full,.slice 4 [] .full,.int .i64 0,.slice 1 [] .full,.int .i64 0,.int .i64 0]),
 (37,.sc (.Au)),
 (38,.sc (.Au)),
 (39,.sc (.Au)),
 (40,.sc (.Au)),
 (41,.sc (.Au)),
 (42,.sc (.Au)),
 (43,.sc (.Au)),
 (44,.sc (.Au)),
 (45,.sc (.Au)),
 (46,.sc (.Au)),
 (47,.slice 138 5 48),
 (49,.sc (.Au)),
 (50,.struct [(0,1),(1,1),(2,1),(3,1)] [.int .i64 0,.str [],.int .i64 0,.int .i64 0]),
 (51,.struct [(0,1),(1,1),(2,1),(3,1)] [.int .i64 0,.str [],.int .i64 0,.int .i64 0]),
 (52,.sc (.Au)),
 (53,.sc (.Au)),
 (54,.sc (.Au)),
 (55,.sc (.Au)),
 (56,.sc (.Au)),
 (57,.sc (.Au)),
 (58,.sc (.Au)),
 (59,.sc (.Ff)),
 (60,.struct [(0,1),(1,1)] [.Ff,.int .i64 0]),
 (61,.struct [(0,1),(1,1)] [.Ff,.int .i64 0]),
 (62,.sc (.Au)),
 (63,.sc (.Au)),
 (65,.sc (.Au)),
 (66,.sc (.Au)),
 (68,.sc (.Au)),
 (69,.sc (.Au)),
 (70,.sc (.Au)),
 (71,.sc (.Au)),
 (72,.sc (.Au)),
 (73,.sc (.Au)),
 (75,.sc (.Au)),
 (76,.sc (.Au)),
 (78,.sc (.Au)),
 (79,.sc (.Au)),
 (81,.sc (.Au)),
 (82,.sc (.Au)),
 (83,.sc (.Au)),
 (84,.sc (.Au)),
 (85,.sc (.Ff)),
 (86,.struct [(0,1),(1,1),(2,1)] [.int .i64 0,.int .i64 0,.int .i64 0]),
 (87,.struct [(0,1),(1,1),(2,1)] [.int .i64 0,.int .i64 0,.int .i64 0]),
 (88,.struct [(0,1),(1,1)] [.int .i64 0,.bool false]),
 (89,.struct [(0,1),(1,1)] [.int .i64 0,.bool false]),
 (90,.struct [(0,1),(1,1),(2,3),(5,1),(6,1),(7,1),(8,2)] [.str [],.int .i64 0,.int .i64 0,.int .i64 0,.int .i64 0,.slice 4 [] .full,.slice 5 [] .full,.int .i64 0,.int .i64 0,.bool false]),
 (91,.struct [(0,1),(1,1),(2,3),(5,1),(6,1),(7,1),(8,2)] [.str [],.int .i64 0,.int .i64 0,.int .i64 0,.int .i64 0,.slice 4 [] .full,.slice 5 [] .full,.int .i64 0,.int .i64 0,.bool false]),
 (92,.sc (.Au)),
 (93,.sc (.Au)),
 (94,.struct [(0,1),(1,1),(2,1)] [.int .i64 0,.int .i64 0,.int .i64 0]),
 (95,.struct [(0,1),(1,1),(2,1)] [.int .i64 0,.int .i64 0,.int .i64 0]),
 (96,.sc (.Au)),
 (97,.sc (.Au)),
 (98,.sc (.Au)),
 (99,.sc (.Au)),
 (100,.sc (.Au)),
 (101,.sc (.Au)),
 (102,.sc (.Au)),
 (103,.struct [(0,4),(4,4),(8,4),(12,1),(13,1)] [.slice 4 [] .full,.int .i64 0,.slice 1 [] .full,.int .i64 0,.int .i64 0,.str [],.int .i64 0,.int .i64 0,.slice 4 [] .full,.int .i64 0,.slice 1 [] .full,.int .i64 0,.int .i64 0,.bool false]),
 (104,.struct [(0,4),(4,4),(8,4),(12,1),(13,1)] [.slice 4 [] .full,.int .i64 0,.slice 1 [] .full,.int .i64 0,.int .i64 0,.str [],.int .i64 0,.int .i64 0,.slice 4 [] .full,.int .i64 0,.slice 1 [] .full,.int .i64 0,.int .i64 0,.bool false]),
 (105,.sc (.Au)),
 (106,.sc (.Au)),
 (107,.sc (.Au)),
 (109,.sc (.Au)),
 (111,.sc (.Au)),
 (112,.sc (.Au)),
 (113,.sc (.Au)),
 (114,.sc (.Au)),
 (115,.sc (.Au)),
 (116,.sc (.Au)),
 (117,.sc (.Au)),
 (118,.sc (.Au)),
 (119,.sc (.Au)),
 (120,.sc (.Au)),
 (121,.sc (.Au)),
 (122,.sc (.Au)),
 (124,.sc (.Au)),
 (125,.sc (.Au)),
 (126,.sc (.Au)),
 (127,.sc (.Au)),
 (128,.sc (.Au)),
 (129,.sc (.Au)),
 (131,.sc (.Au)),
 (132,.sc (.Au)),
 (133,.sc (.Au)),
 (134,.sc (.Au)),
 (136,.sc (.Au)),
 (137,.struct [(0,1),(1,1),(2,1),(3,1),(4,1)] [.str [],.int .i64 0,.int .i64 0,.int .i64 0,.int .i64 0]),
 (138,.struct [(0,1),(1,1),(2,1),(3,1),(4,1)] [.str [],.int .i64 0,.int .i64 0,.int .i64 0,.int .i64 0]),
 (139,.struct [(0,1)] [.int .i64 0]),
 (140,.struct [(0,1)] [.int .i64 0]),
 (142,.sc (.Au)),
 (143,.sc (.Au)),
 (144,.sc (.Au)),
 (145,.sc (.Au)),
 (146,.sc (.Au)),
 (147,.sc (.Au)),
 (148,.sc (.Au)),
 (149,.sc (.Au)),
 (150,.sc (.Au)),
 (151,.struct [(0,1),(1,1)] [.Ff,.int .i64 0]),
 (152,.struct [(0,1),(1,1)] [.Ff,.int .i64 0]),
 (153,.sc (.Au)),
 (154,.sc (.Au)),
 (155,.sc (.Au)),
 (156,.sc (.Au)),
 (157,.sc (.Au)),
 (158,.sc (.Au)),
 (159,.sc (.Au)),
 (160,.sc (.Au)),
 (161,.sc (.Au)),
 (163,.sc (.Au)),
 (165,.sc (.Au)),
 (167,.sc (.Au)),
 (168,.sc (.Au)),
 (169,.sc (.Au)),
 (170,.sc (.Au)),
 (171,.sc (.Au)),
 (172,.slice 9 1 16),
 (173,.sc (.Au)),
 (175,.sc (.Au)),
 (176,.sc (.Au)),
 (177,.sc (.Au)),
 (178,.sc (.Au)),
 (179,.sc (.Au)),
 (180,.sc (.Au)),
 (181,.sc (.Au)),
 (182,.sc (.Au)),
 (183,.sc (.Au)),
 (184,.sc (.Au)),
 (185,.sc (.Au)),
 (186,.sc (.Au)),
 (188,.sc (.Au)),
 (189,.sc (.Au)),
 (191,.sc (.int .u64 0)),
 (192,.struct [(0,1),(1,1)] [.int .u8 0,.int .u8 0]),
 (193,.struct [(0,1),(1,1)] [.int .u8 0,.int .u8 0]),
 (195,.sc (.Au)),
 (199,.sc (.Au)),
 (200,.sc (.Au)),
 (201,.sc (.Ff)),
 (202,.sc (.Au)),
 (203,.struct [(0,1),(1,1),(2,1)] [.int .i64 0,.int .i64 0,.int .i64 0]),
 (204,.struct [(0,1),(1,1),(2,1)] [.int .i64 0,.int .i64 0,.int .i64 0]),
 (205,.sc (.Au)),
 (206,.sc (.Au)),
 (207,.sc (.Ff)),
 (209,.sc (.Au)),
 (210,.slice 260 2 16),
 (211,.struct [(0,1),(1,1),(2,1),(3,1),(4,1)] [.str [],.int .i64 0,.bool false,.slice 1 [] .full,.slice 2 [] .full]),
 (212,.struct [(0,1),(1,1),(2,1),(3,1),(4,1)] [.str [],.int .i64 0,.bool false,.slice 1 [] .full,.slice 2 [] .full]),
 (214,.sc (.Au)),
 (215,.sc (.Au)),
 (217,.sc (.Au)),
 (218,.sc (.Au)),
 (219,.sc (.Au)),
 (221,.sc (.Au)),
 (222,.sc (.Au)),
 (223,.sc (.Au)),
 (224,.sc (.Au)),
 (225,.sc (.Au)),
 (226,.sc (.Au)),
 (227,.sc (.Au)),
 (228,.sc (.Au)),
 (229,.sc (.Au)),
 (230,.sc (.Au)),
 (231,.struct [(0,1),(1,1)] [.int .i64 0,.int .i64 0]),
 (232,.struct [(0,1),(1,1)] [.int .i64 0,.int .i64 0]),
 (234,.sc (.Au)),
 (235,.sc (.Au)),
 (236,.sc (.Au)),
 (237,.sc (.Au)),
 (239,.sc (.Au)),
 (240,.sc (.Au)),
 (241,.sc (.Au)),
 (242,.sc (.Au)),
 (243,.sc (.Au)),
 (244,.sc (.Au)),
 (245,.sc (.Au)),
 (246,.sc (.Au)),
 (247,.sc (.Au)),
 (248,.sc (.Au)),
 (249,.sc (.Au)),
 (250,.sc (.Au)),
 (251,.sc (.Au)),
 (252,.sc (.Au)),
 (253,.sc (.Au)),
 (254,.sc (.Au)),
 (255,.sc (.int .u32 0)),
 (257,.sc (.Au)),
 (258,.sc (.Au)),
 (259,.sc (.Au)),
 (260,.arr [(0,1),(1,1)] [.int .i64 0,.int .i64 0]),
 (262,.sc (.Au)),
 (263,.sc (.Au)),
 (265,.sc (.Au)),
 (266,.sc (.Au)),
 (267,.slice 269 2 16),
 (268,.struct [(0,1),(1,1)] [.int .i64 0,.int .i64 0]),
 (269,.struct [(0,1),(1,1)] [.int .i64 0,.int .i64 0]),
 (270,.sc (.Au)),
 (271,.sc (.Ff)),
 (272,.slice 278 3 6),
 (273,.slice 281 3 12),
 (274,.struct [(0,1),(1,1),(2,1)] [.slice 3 [] .full,.slice 3 [] .full,.int .i64 0]),
 (275,.struct [(0,1),(1,1),(2,1)] [.slice 3 [] .full,.slice 3 [] .full,.int .i64 0]),
 (276,.sc (.int .u16 0)),
 (277,.struct [(0,1),(1,1),(2,1)] [.int .u16 0,.int .u16 0,.int .u16 0]),
 (278,.struct [(0,1),(1,1),(2,1)] [.int .u16 0,.int .u16 0,.int .u16 0]),
 (279,.sc (.Au)),
 (280,.struct [(0,1),(1,1),(2,1)] [.int .u32 0,.int .u32 0,.int .u32 0]),
 (281,.struct [(0,1),(1,1),(2,1)] [.int .u32 0,.int .u32 0,.int .u32 0]),
 (282,.sc (.Au)),
 (283,.sc (.Ff)),
 (284,.sc (.Ff)),
 (285,.sc (.Au)),
 (294,.sc (.Ff))]
theorem Ad:Q6 Tryz.prog oI:=⟨mB EQ EQ,EQ⟩
theorem pB {st : St} (hf : Tryz.prog.funcs[f]? = some fn) (h : Rf oI (A3 Tryz.prog) fn [] args st λr st2 => ∃ r2 U, (r2 = r \/ r2 = r.wk) /\ St.le U st2 /\ R r2 U) (hb : fn.body.isSome = true := by rfl) (hn : (fn.name == "runtime.NumGoroutine") = false := by decide) : A3 Tryz.prog f args st R := Pr Ad [] hf hb hn h
end Go.Proofs.Z
namespace Go.Proofs.Z
open Go Go.Aw Go.ChangeShapes Go.WideShapes Go.ChangeAt Go.RowKit
def C1 (W:World):Mem:={cell:=λb o=>W.cell? ⟨b,o,none⟩,shape:=λb=>match W.heap[b]? with|some (.cells c _ (0,0))=>some c.size|_=>none}
def gF:St:=⟨λ_=>none,λ_=>none⟩
theorem ft (W:World) (g:ZQ (C1 W).cell (C1 W).shape):Ci (C1 W) gF W:=
 ⟨λb o v h=>h,λb n h=>(by
   simp only [C1] at h
   grind),λb cs h=>(by cases h),λb h=>absurd rfl h,λb n h=>(by cases h),g⟩
structure Kept (W W':World):Prop where
 os:W'.os=W.os
 output:W'.output=W.output
 size:W.heap.size<=W'.heap.size
 Kc:∀b,b<W.heap.size->W'.heap[b]? =W.heap[b]?
theorem dW {args:Array Value} (g:ZQ (C1 W).cell (C1 W).shape) (h:A3 P f vs gF λr _=>r=.ret (.bool true)) (ha:Ak (C1 W) vs args.toList):
 Calls P f args W λe W'=>e=.returned (.bool true)/\Kept W W':=by
 have:=h.a (C1 W) W args.toList (ft W g) ha
 rw [Array.toArray_toList] at this
 refine this.mono λe W' ⟨I',st',r,k1,k2,U,k4⟩=>?_
 subst k4
 refine ⟨?_,k1.os,k1.output,k1.size,λb hb=>k1.Kc b hb rfl rfl⟩
 cases e with
 |returned v=>
  have U:AG I' (.bool true) v:=U
  simp only [AG] at U
  rw [U]
 |panicked c=>exact U.elim
 |outgrown=>exact U.elim
section
variable {H:Type} {enc:TypeId×Value->H} {P:Program} {W W':World} {B:Nat}
theorem Kept.sameAt (h:Kept W W') {p:MemPlace} (U:p.block<W.heap.size):W.sameAt W' p:=by
 cases p with
 |cell b off=>
  have:=h.Kc b U
  show W'.cell? _=W.cell? _
  simp only [World.cell?,this]
 |map b=>exact h.Kc b U
theorem Kept.frozen (h:Kept W W') {b off:Nat} (hb:b<W.heap.size):W'.frozen? ⟨b,off,none⟩=W.frozen? ⟨b,off,none⟩:=by
 simp only [World.frozen?,h.Kc b hb]
theorem Kept.keptBut (h:Kept W W') (U:MemPlace->Prop):W.keptBut W' U:=by
 refine ⟨h.os,h.output,λi hi=>?_⟩
 rw [h.Kc i hi]
 grind
theorem Kg (h:Kept W W') {base:Nat} {spare:Nat->Bool} {held:Bool}:∀{ts:List TypeId} {vs:List Value} {ds:List (DataW H)} {ps:List MemPlace},
 DataW.TrodAll enc P W base spare held ts vs ds ps->(∀p ∈ ps,p.block<W.heap.size)->DataW.TrodAll enc P W' base spare held ts vs ds ps
 |[],[],[],_,h0,_=>h0
 |_::_,_::_,_::_,_,⟨p,q,⟨n,h1⟩,h2,e⟩,U=>⟨p,q,⟨n,DataW.trod_carry n _ _ _ h1 λx hx=>h.sameAt (U x ke)⟩,
   Kg h h2 (λx hx=>U x ke),e⟩
theorem dX (hl:laidOutB P=true) (hm:mapsRowed P=true) (hz:((List.range P.types.size).all λt=>match P.underlying t with|some (.slice e)=>decide (0<P.cellsOf e)|_=>true)=true)
 {f:Func} {s:ChangeSpec} {apart fresh handsOn again:Bool} {args:Array Value} {ds gs:List (DataW H)} {before:List MemPlace} {tb:TypeId} (hr:f.resultTypes=#[tb]) (htb:P.underlying tb=some .bool)
 (hts:∀t ∈ f.params.toList,t<P.types.size) (hv:s.vars=[]) (hW:DataW.Whole enc P f.params.toList s.vars apart W args.toList ds gs before) (hfn:s.fn H ds={results:=[.lit (.bool true)],args:=ds}) (hk:Kept W W'):
 s.post enc P f apart fresh handsOn again W args (.bool true) W':=by
 have hlt:∀p ∈ before,p.block<W.heap.size:=λp hp=>hW.lt p hp
 have hW':=hW
 obtain ⟨p,q,hA,hV,rfl,hfz,hnd⟩:=hW
 rw [hv] at hV
 obtain ⟨rfl,rfl⟩:=ChangeShapes.trodVars_none hV
 simp only [List.append_nil] at *
 have hres:∀(b:Nat) (sp:Nat->Bool) (hd:Bool),DataW.TrodAll enc P W' b sp hd f.resultTypes.toList ((Value.bool true).resultList f.resultTypes.size) [.lit (.bool true)] []:=by
  intro b sp hd
  rw [hr]
  refine ⟨[],[],⟨1,?_⟩,rfl,rfl⟩
  rw [DataW.trod_step]
  simp [DataW.trodStep,htb]
  rfl
 have U:∀sp:Nat->Bool,(∀x ∈ p,sp x.block=true)->DataW.TrodAll enc P W' 0 sp true f.params.toList args.toList ds p:=λsp hsp=>
  Kg hk (DataW.TrodAll.respare (kids_rows hl hm) (λt e ht hu=>slices_full_of P hz t e ht hu) hts hA hsp) hlt
 have hvars:∀sp:Nat->Bool,DataW.TrodVars enc P W' sp s.vars [] []:=λsp=>by rw [hv];rfl
 have hold:∀x ∈ p,(λb=>decide (b<W.heap.size)) x.block=true:=λx hx=>by simp_all
 refine ⟨ds,[],p,[],p,[],hW',?_,?_,?_,World.keptBut_mono (λx hx=>⟨hx,.inr (.inl hx)⟩) (hk.keptBut (· ∈ p)),λ_=>⟨?_,_,[],p,⟨[]++p,[],trodAll_append (U _ λ_ _=>rfl) (hres _ _ _),hvars _,GT,?_,λha=>hnd ha⟩,λx hx _=>hx⟩⟩
 .grind
 .simp_all
 .simp_all
 .exact RowKit.ok_one hr rfl (RowKit.okWide_bool_mk htb _)
 .intro b off hb
  rw [hk.frozen (b:=b) (hlt _ hb)]
  exact hfz b off hb
def dec (P:Program):Nat->TypeId->DataW H->Option (List V)
 |0,_,_=>none
 |n+1,t,d=>match P.underlying t,d with
  |some .bool,.lit (.bool b)=>some [.bool b]
  |some (.int k),.lit (.int _ m)=>some [.int k m]
  |some .string,.lit (.string s)=>some [.str s]
  |some (.slice e),.nil=>some [.slice (P.cellsOf e) [] .any]
  |some (.slice e),.slice elems _=>(elems.mapM (dec P n e)).map λes=>[.slice (P.cellsOf e) es .any]
  |some (.struct fs),.agg parts=>if parts.length=fs.size then ((fs.toList.zip parts).mapM λp=>dec P n p.1.type p.2).map List.flatten else none
  |_,_=>none
def XQ (P:Program) (S:List TypeId):Bool:=S.all λt=>decide (t<P.types.size)&&match P.underlying t with
 |some .bool|some (.int _)|some .string=>P.cellsOf t==1
 |some (.slice e)=>S.contains e&&decide (0<P.cellsOf e)&&P.cellsOf t==1
 |some (.struct fs)=>fs.toList.all λf=>S.contains f.type
 |_=>false
theorem one_le (d:DataW H):1<=Rows.uptoBulk d:=by
 cases d with
 |lit l=>cases l<;>simp [Rows.uptoBulk]
 |_=>simp [Rows.uptoBulk]
theorem Sk {d:DataW H}:∀{l:List (DataW H)},d ∈ l->Rows.uptoBulk d<=Rows.uptoBulkAll l
 |x::r,h=>by
  simp only [Rows.uptoBulkAll]
  rcases List.mem_cons.1 h with rfl|h
  .omega
  .have:=Sk h;omega
theorem length_le:∀(l:List (DataW H)),l.length<=Rows.uptoBulkAll l
 |[]=>by simp_all
 |x::r=>by have:=one_le x;have:=length_le r;simp only [Rows.uptoBulkAll,List.length_cons];omega
theorem YG {I:Mem} {b:Nat}:∀{vs:List V} {cs:List Value} {o:Nat},Ak I vs cs->(∀j c,cs[j]? =some c->I.cell b (o+j)=some c)->CG I b o vs
 |[],_,_,_,_=>by simp only [CG]
 |v::r,cs,o,h,k=>by
  simp only [Ak] at h
  obtain ⟨c,s,rfl,hv,hr⟩:=h
  simp only [CG]
  refine ⟨⟨c,by simpa using k 0 c rfl,hv⟩,YG hr λj U hj=>?_⟩
  have:=k (j+1) U ke
  grind
theorem cH {w:World} {a:Addr} {cs:List Value} (h:w.cells? 0 a n=some cs) (hs:a.spot=none):cs.length=n/\∀j c,cs[j]? =some c->w.cell? ⟨a.block,a.off+j,none⟩=some c:=by
 unfold World.cells? at h
 rw [if_pos (Nat.zero_le _)] at h
 have hl:=mapM_some_length h
 simp only [List.length_range] at hl
 refine ⟨hl,λj c U=>?_⟩
 have hjl:j<cs.length:=(List.getElem?_eq_some_iff.1 U).1
 have:=mapM_some_get h j j (List.getElem?_range AC)
 rw [U] at this
 obtain ⟨b,o,sp⟩:=a
 simp only at hs
 subst hs
 rw [CS] at this
 omega
theorem Ou {w:World} {a:Addr} {cs:List Value} (h:w.cells? 0 a n=some cs) (hn:0<n):a.spot=none:=by
 unfold World.cells? at h
 rw [if_pos (Nat.zero_le _)] at h
 have hl:=mapM_some_length h
 simp only [List.length_range] at hl
 have:=mapM_some_get h 0 0 (List.getElem?_range AC)
 have U:cs[0]? =some cs[0]:=List.getElem?_eq_getElem AC
 rw [U] at this
 obtain ⟨b,o,sp⟩:=a
 cases sp with
 |none=>rfl
 |some s=>
  simp only [Addr.add,if_true,World.cell?] at this
  grind
theorem YH {I:Mem} {b sz:Nat}:∀{es:List (List V)} {o:Nat},(∀(i:Nat) (e:List V),es[i]? =some e->e.length=sz/\CG I b (o+i*sz) e)->Cb I sz b o es
 |[],_,_=>by simp only [Cb]
 |e::r,o,h=>by
  simp only [Cb]
  refine ⟨by simpa using h 0 e rfl,YH λi e' U=>?_⟩
  have:=h (i+1) e' ke
  grind
theorem Qs {S:List TypeId} (K:Kids P (·<P.types.size)) (hS:XQ P S=true) (hB:B<EF):∀(n:Nat) (t:TypeId) (cs:List Value) (x:DataW H×List MemPlace),t ∈ S->Rows.uptoBulk x.1<=B->
 DataW.trod enc P W 0 (λ_=>true) true n t cs=some x->∃vs,dec P n t x.1=some vs/\vs.length=P.cellsOf t/\Ak (C1 W) vs cs:=by
 intro n
 induction n with
 |zero=>intro t cs x _ _ h;simp [DataW.trod] at h
 |succ n ih=>
  intro t cs x ht hb h
  rw [DataW.trod_step] at h
  have hc:=List.all_eq_true.1 hS t ht
  simp only [Bool.and_eq_true,decide_eq_true_eq] at hc
  obtain ⟨hts,hc⟩:=hc
  unfold DataW.trodStep at h
  unfold dec
  cases hu:P.underlying t with
  |none=>simp_all
  |some u=>
   rw [hu] at hc h
   cases u<;>simp only at hc h |-<;>try (cases hc;done)
   case bool=>
    split at h<;>simp_all
    subst h
    exact ⟨_,rfl,rfl,by simp only [Ak,AG];simp_all⟩
   case int k=>
    split at h<;>simp_all
    obtain ⟨⟨rfl,hw⟩,rfl⟩:=h
    exact ⟨_,rfl,rfl,by simp only [Ak,AG];simp_all⟩
   case string=>
    split at h<;>simp_all
    obtain ⟨h1,rfl⟩:=h
    refine ⟨_,rfl,rfl,?_⟩
    simp only [Ak,AG]
    refine ⟨_,_,rfl,⟨GT,?_⟩,rfl⟩
    simp only [Rows.uptoBulk] at hb
    omega
   case slice e=>
    simp only [Bool.and_eq_true,decide_eq_true_eq,beq_iff_eq] at hc
    obtain ⟨⟨he,U⟩,hone⟩:=hc
    have he:e ∈ S:=by simpa using he
    split at h<;>try (simp_all;done)
    .simp only [Option.some.injEq] at h
     subst h
     refine ⟨_,rfl,hone.symm,?_⟩
     simp only [Ak]
     exact ⟨_,_,rfl,Io U _ (.inr rfl),rfl⟩
    .rename_i _ _ e' a len cap heq
     cases heq
     split at h
     .rename_i hcond
      simp only [Option.map_eq_some_iff,Option.bind_eq_some_iff] at h
      obtain ⟨elems,h1,rest,h2,rfl⟩:=h
      have hlen:elems.length=len:=by simpa using mapM_some_length h1
      simp only [Rows.uptoBulk] at hb
      have hl:=length_le (elems.map (·.1))
      simp only [List.length_map] at hl
      have one:∀(i:Nat) (y:DataW H×List MemPlace),elems[i]? =some y->∃cs,W.cells? 0 (a.add (i*P.cellsOf e)) (P.cellsOf e)=some cs/\∃vs,dec P n e y.1=some vs/\vs.length=P.cellsOf e/\Ak (C1 W) vs cs:=by
       intro i y hy
       have hi:i<len:=by rw [<-hlen];exact (List.getElem?_eq_some_iff.1 hy).1
       have:=mapM_some_get h1 i i (List.getElem?_range hi)
       rw [hy] at this
       obtain ⟨cs',hcs,hy'⟩:=Option.bind_eq_some_iff.1 this
       have hmem:y.1 ∈ elems.map (·.1):=List.mem_map_of_mem (List.mem_of_getElem? hy)
       have:=Sk hmem
       exact ⟨cs',hcs,ih e cs' y he AC hy'⟩
      have hes:∃es:List (List V),(elems.map (·.1)).mapM (dec P n e)=some es/\es.length=len/\∀(i:Nat) (vs:List V),es[i]? =some vs->∃cs,W.cells? 0 (a.add (i*P.cellsOf e)) (P.cellsOf e)=some cs/\vs.length=P.cellsOf e/\Ak (C1 W) vs cs:=by
       have gen:∀(l:List (DataW H×List MemPlace)) (k:Nat),(∀(i:Nat) (y:DataW H×List MemPlace),l[i]? =some y->∃cs,W.cells? 0 (a.add ((k+i)*P.cellsOf e)) (P.cellsOf e)=some cs/\∃vs,dec P n e y.1=some vs/\vs.length=P.cellsOf e/\Ak (C1 W) vs cs)->
        ∃es:List (List V),(l.map (·.1)).mapM (dec P n e)=some es/\es.length=l.length/\∀(i:Nat) (vs:List V),es[i]? =some vs->∃cs,W.cells? 0 (a.add ((k+i)*P.cellsOf e)) (P.cellsOf e)=some cs/\vs.length=P.cellsOf e/\Ak (C1 W) vs cs:=by
        intro l
        induction l with
        |nil=>simp_all
        |cons y r ihl=>
         intro k hl
         obtain ⟨cs,g1,vs,g2,g3,g4⟩:=hl 0 y rfl
         obtain ⟨es,k1,k2,k3⟩:=ihl (k+1) (λi y hy=>by
          have:=hl (i+1) y (by grind)
          grind)
         refine ⟨vs::es,by grind,by simp [k2],λi us hi=>?_⟩
         grind
       obtain ⟨es,k1,k2,k3⟩:=gen elems 0 (λi y hy=>by grind)
       exact ⟨es,k1,k2.trans hlen,λi vs hi=>by simp_all⟩
      obtain ⟨es,k1,k2,k3⟩:=hes
      refine ⟨[.slice (P.cellsOf e) es .any],by
       simp_all,hone.symm,?_⟩
      simp only [Ak,AG]
      refine ⟨_,[],rfl,⟨some a,cap,by rw [k2],AC,AC,U,trivial,?_⟩,rfl⟩
      have hspot:cap=0\/a.spot=none:=by
       by_cases h0:cap=0
       .omega
       .right
        by_cases hl0:len=0
        .simp only [if_true] at h2
         have hrl:rest.length=cap - len:=by simpa using mapM_some_length h2
         have:=mapM_some_get h2 0 0 (List.getElem?_range AC)
         rw [List.getElem?_eq_getElem AC] at this
         obtain ⟨cs',hcs,_⟩:=Option.bind_eq_some_iff.1 this
         have hsp:=Ou hcs U
         rw [hl0] at hsp
         simpa [Addr.add] using hsp
        .obtain ⟨cs,hcs,_⟩:=one 0 elems[0] (List.getElem?_eq_getElem AC)
         have hsp:=Ou hcs U
         simpa [Addr.add] using hsp
      refine ⟨hspot,YH λi vs hi=>?_⟩
      obtain ⟨cs,g1,g2,g3⟩:=k3 i vs hi
      refine ⟨g2,YG g3 λj c hj=>?_⟩
      have hi':i<es.length:=(List.getElem?_eq_some_iff.1 hi).1
      obtain rfl|hne:=Nat.eq_zero_or_pos cap
      .omega
      .obtain ⟨b,o,sp⟩:=a
       have hsp:sp=none:=hspot.resolve_left AC
       subst hsp
       rw [CS] at g1
       exact (cH g1 rfl).2 j c hj
     grind
   case struct fs=>
    split at h
    .rename_i hlen
     simp only [Option.map_eq_some_iff] at h
     obtain ⟨xs,h1,rfl⟩:=h
     simp only [Rows.uptoBulk] at hb
     have hxl:xs.length=fs.size:=by have:=mapM_some_length h1;simpa using this
     obtain ⟨hT,hsum,hoff⟩:=K.struct hts hu
     have hct:∀f ∈ fs.toList,f.type ∈ S:=λf hf=>by grind
     have gen:∀(l:List Field) (ys:List (DataW H×List MemPlace)) (rs:List Value),l.length=ys.length->(∀f ∈ l,f.type ∈ S)->(∀y ∈ ys,Rows.uptoBulk y.1<=B)->
      rs.length=(l.map λf=>P.cellsOf f.type).sum->
      (∀(j:Nat) (f:Field) (y:DataW H×List MemPlace),l[j]? =some f->ys[j]? =some y->DataW.trod enc P W 0 (λ_=>true) true n f.type ((rs.drop ((l.take j).map λf=>P.cellsOf f.type).sum).take (P.cellsOf f.type))=some y)->
      ∃vs,(l.zip (ys.map (·.1))).mapM (λp=>dec P n p.1.type p.2)=some vs/\vs.flatten.length=(l.map λf=>P.cellsOf f.type).sum/\Ak (C1 W) vs.flatten rs:=by
      intro l
      induction l with
      |nil=>
       intro ys rs h0 _ _ hr _
       refine ⟨[],GT,rfl,?_⟩
       simp at hr
       subst hr
       rfl
      |cons f r ihl=>
       intro ys rs h0 hS' hB' hr hj
       cases ys with
       |nil=>grind
       |cons y ys=>
        simp only [List.map_cons,List.sum_cons] at hr
        obtain ⟨v,g1,g2,g3⟩:=ih f.type _ y (hS' f List.mem_cons_self) (hB' y List.mem_cons_self) (hj 0 f y rfl rfl)
        simp only [List.take_zero,List.map_nil,List.sum_nil,List.drop_zero] at g3
        obtain ⟨vs,k1,k2,k3⟩:=ihl ys (rs.drop (P.cellsOf f.type)) ke (λf' hf=>hS' f' (List.mem_cons_of_mem _ hf)) (λy' hy=>hB' y' (List.mem_cons_of_mem _ hy)) ke (λj f' y' hf hy=>by
         have:=hj (j+1) f' y' ke ke
         simp_all)
        refine ⟨v::vs,ke,ke,?_⟩
        have:=Ak.append g3 k3
        simp_all
     obtain ⟨vs,g1,g2,g3⟩:=gen fs.toList xs cs ke hct (λy hy=>by have:=Sk (List.mem_map_of_mem (f:=(·.1)) hy);omega) AC (λj f y hf hy=>by
      have:=mapM_some_get h1 j f hf
      grind)
     simp_all
    grind
theorem Y8 {v:Value} {fs:Array Field} (U:P.underlying t=some (.struct fs)) (h:Value.okWide P W .any base t v):∃cs,v=.agg cs:=by
 unfold Value.okWide at h
 grind
theorem W7 {v:Value} (U:∃cs,v=.agg cs) (h:Ak I vs v.cells.toList):AG I (.agg vs) v:=by
 obtain ⟨cs,rfl⟩:=U
 simp only [AG]
 exact ⟨cs.toList,GT,h⟩
theorem kv {u:V} {v:Value} (U:v.cells=#[v]) (h:Ak I [u] v.cells.toList):AG I u v:=by
 rw [U] at h
 simp only [Ak] at h
 simp_all
theorem Vn {v:Value} (U:P.underlying t=some .string\/(∃e,P.underlying t=some (.slice e))\/(∃k,P.underlying t=some (.int k))\/P.underlying t=some .bool) (h:Value.okWide P W .any base t v):v.cells=#[v]:=by
 cases v with
 |agg cs=>
  unfold Value.okWide at h
  rcases U with U|⟨e,U⟩|⟨k,U⟩|U<;>rw [U] at h<;>simp [Cell.okWide,Cell.ok,U] at h
 |_=>rfl
end
end Go.Proofs.Z
namespace Go.Proofs.Z
open Go Go.Aw Go.ChangeShapes Go.WideShapes Go.ChangeAt Go.RowKit Go.Lib
theorem own:ownKnob Tryz.prog.godebug=none:=EQ
noncomputable def listed : List (String × DataW Unit) := [("unicode/utf8.acceptRanges", Lib.acceptData), ("unicode.White_Space", Lib.whiteData), ("strings.asciiSpace", Lib.tabData .u8 Lib.asciiSpaceTab), ("unicode/utf8.first", Lib.firstData)]
def qA:Go.Shelf.Ren:=⟨λn=>n,λ|5=>5|119=>190|138=>193|139=>194|n=>n,λ|3=>0|4=>1|n=>n⟩
theorem oD:U8Types Tryz.prog qA:=⟨EQ,EQ,EQ,EQ⟩
theorem nf:U8Extra Tryz.prog qA:=⟨EQ,EQ,EQ,EQ,EQ,EQ,EQ⟩
def mw:Array Value:=(List.replicate 256 (Value.int .u8 0)).toArray
theorem Xy:mw.size=256:=EQ
theorem z3:((begin Tryz.prog (λ_ _=>0) default).world.heap[3]?).bind Obj.row? =some (mw,190):=EQ
theorem z2:((begin Tryz.prog (λ_ _=>0) default).world.heap[2]?).bind Obj.row? =some (#[Value.int .i64 0],3):=EQ
theorem ju (hL:laidMet Tryz.prog listed W) (U:W.ShapedOpen Tryz.prog):ZQ (C1 W).cell (C1 W).shape:=by
 have h8:=utf8Tabs_of_readsT oD nf (Lib.laidMet.reads hL (.tail _ (.tail _ (.tail _ (.head _))))) (Lib.laidMet.reads hL (.head _))
 obtain ⟨g,t,cs,fuel,p,hg,hty,hvar,hd⟩:=Lib.laidMet.reads hL (.tail _ (.tail _ (.head _)))
 obtain rfl := Option.some.inj ((show Tryz.prog.globalNamed "strings.asciiSpace" = some 3 by kernel_rfl).symm.trans hg)
 obtain rfl:=Option.some.inj ((show (Tryz.prog.globals[3]?).map (·.type)=some 190 by kernel_rfl).symm.trans hty)
 have hcs:=cells_of_tab (n:=256) (e:=5) EQ EQ EQ EQ hd
 obtain ⟨cs3,hh3,hs3,_⟩:=U.1 3 _ _ (of_decide_eq_true EQ) z3
 refine ⟨h8.1,h8.2,?_,?_,?_⟩
 .exact cell_of_shapedOpen_int U (of_decide_eq_true EQ) z2 EQ EQ EQ EQ
 .intro i hi
  show W.cell? ⟨3,i,none⟩=_
  rw [World.var?_cell hg hvar i,<-Array.getElem?_toList,hcs]
  have hl:Lib.asciiSpaceTab.length=256:=GE
  simp [List.getD,hl,hi]
 .have e:(C1 W).shape 3=some cs3.size:=by simp [C1,hh3]
  rw [e,hs3,Xy]
theorem jF {l:List (String×DataW Unit)} (e:l=listed) (h:laidMetH Tryz.prog l W):laidMet Tryz.prog listed W:=by
 subst e
 unfold laidMetH at h
 rw [show listed.filter (λx=>x.2.handleName?.isSome)=[] from by kernel_rfl] at h
 exact h
theorem jG {l:List (String×DataW Unit)} (e:l=listed) (h:laidMet Tryz.prog listed W):laidMetH Tryz.prog l W:=by
 subst e
 unfold laidMetH
 rw [show listed.filter (λx=>x.2.handleName?.isSome)=[] from by kernel_rfl]
 exact h
noncomputable def JG (os:Os):World:=
 let N:=(World.settled Tryz.prog os).heap.size
 let w0:=World.holding Tryz.prog os ⟨#[.cells (Lib.whiteT.map λ(z:Nat)=>Value.int .u16 (z:Int)).toArray 278,.cells #[.slice (some ⟨N,0,none⟩) 7 7,.slice none 0 0,.int .i64 2] 275],#[],[]⟩
 let put (h:Array Obj) (g:Nat) (cs:Array Value):Array Obj:=h.modify g fun
  | .cells _ t frozen=>.cells cs t frozen
  |o=>o
 let U:=put w0.heap 0 (Lib.firstTab.map λz=>Value.int .u8 z).toArray
 let h2:=put U 1 ((List.range 16).flatMap λi=>[Value.int .u8 (Lib.accLo i),Value.int .u8 (Lib.accHi i)]).toArray
 let h3:=put h2 3 (Lib.asciiSpaceTab.map λz=>Value.int .u8 z).toArray
 let h4:=put h3 4 #[.pointer (some ⟨N+1,0,none⟩)]
 {w0 with heap:=h4}
noncomputable abbrev mn:Nat:=(World.settled Tryz.prog default).heap.size
theorem jE (os:Os) (args:Array Value):laidMet Tryz.prog listed ((JG os).forCall (λ_ _=>0) ⟨#[],args,[]⟩).memory:=
 (LaidIn.of_run (l:=listed) [1,4,mn,mn+1,3,0] 10 EQ EQ EQ EQ).met
end Go.Proofs.Z
namespace Go.Proofs.Z
open Go Go.Aw
section
variable {H:Type} {P:Program}
theorem Jw {k:IntKind} {d:DataW H} (U:P.underlying t=some (.int k)) (h:dec P n t d=some vs):∃m,vs=[.int k m]:=by
 cases n with
 |zero=>cases h
 |succ n=>
  unfold dec at h
  rw [U] at h
  split at h<;>simp_all
  exact ⟨_,h.symm⟩
theorem iL {d:DataW H} (U:P.underlying t=some .string) (h:dec P n t d=some vs):∃s,vs=[.str s]/\s.length+1=Rows.uptoBulk d:=by
 cases n with
 |zero=>cases h
 |succ n=>
  unfold dec at h
  rw [U] at h
  split at h<;>simp_all
  exact ⟨_,h.symm,by simp [Rows.uptoBulk]⟩
theorem Qr {e:TypeId} {d:DataW H} (hu:P.underlying t=some (.slice e)) (h:dec P n t d=some vs):
 ∃(m:Nat) (es:List (List V)) (ds:List (DataW H)),n=m+1/\vs=[.slice (P.cellsOf e) es .any]/\ds.mapM (dec P m e)=some es/\Rows.uptoBulkAll ds+1<=Rows.uptoBulk d:=by
 cases n with
 |zero=>cases h
 |succ n=>
  unfold dec at h
  rw [hu] at h
  split at h<;>try (simp_all;done)
  .rename_i heq
   cases heq
   cases h
   exact ⟨n,[],[],rfl,rfl,rfl,by simp [Rows.uptoBulk,Rows.uptoBulkAll]⟩
  .rename_i heq
   cases heq
   obtain ⟨es,U,h2⟩:=Option.map_eq_some_iff.1 h
   exact ⟨n,es,_,rfl,h2.symm,U,by simp only [Rows.uptoBulk];omega⟩
theorem OA {fs:Array Field} {d:DataW H} (hu:P.underlying t=some (.struct fs)) (h:dec P n t d=some vs):
 ∃(m:Nat) (ds:List (DataW H)) (us:List (List V)),n=m+1/\ds.length=fs.size/\((fs.toList.zip ds).mapM λp=>dec P m p.1.type p.2)=some us/\vs=us.flatten/\Rows.uptoBulkAll ds+1=Rows.uptoBulk d:=by
 cases n with
 |zero=>cases h
 |succ n=>
  unfold dec at h
  rw [hu] at h
  split at h<;>try (simp_all;done)
  rename_i heq
  cases heq
  split at h
  .obtain ⟨us,U,h2⟩:=Option.map_eq_some_iff.1 h
   exact ⟨n,_,us,rfl,‹_›,U,h2.symm,by simp only [Rows.uptoBulk]⟩
  .cases h
theorem B4 {β:Type} {f:α->Option β} {x:α} {l:List α} {r:List β} (h:(x::l).mapM f=some r):∃y U,f x=some y/\l.mapM f=some U/\r=y::U:=by
 simp only [List.mapM_cons] at h
 cases hx:f x with
 |none=>rw [hx] at h;cases h
 |some y=>
  cases hl:l.mapM f with
  |none=>rw [hx,hl] at h;cases h
  |some U=>
   rw [hx,hl] at h
   cases h
   exact ⟨y,U,rfl,rfl,rfl⟩
theorem Oz {α:Type} {f:α->List V} {w:α->Nat} {m:Nat} {e:TypeId} (one:∀(d:DataW H) (vs:List V),dec P m e d=some vs->∃a,vs=f a/\w a<=Rows.uptoBulk d):∀{ds:List (DataW H)} {es:List (List V)},
 ds.mapM (dec P m e)=some es->∃U:List α,es=U.map f/\(U.map w).sum<=Rows.uptoBulkAll ds
 |[],es,h=>by cases h;exact ⟨[],rfl,GT⟩
 |d::r,es,h=>by
  obtain ⟨y,ys,h1,h2,rfl⟩:=B4 h
  obtain ⟨a,rfl,k1⟩:=one d y h1
  obtain ⟨U,rfl,k2⟩:=Oz one h2
  exact ⟨a::U,rfl,by simp only [List.map_cons,List.sum_cons,Rows.uptoBulkAll];omega⟩
end
end Go.Proofs.Z
namespace Go.Aw
open Go
inductive Nd where
 |mk (kind form:Int) (text:List UInt8) (line Cj:Int) (kids:List Nd)
namespace Nd
def kind:Nd->Int| .mk k _ _ _ _ _=>k
def form:Nd->Int| .mk _ f _ _ _ _=>f
def text:Nd->List UInt8| .mk _ _ t _ _ _=>t
def line:Nd->Int| .mk _ _ _ l _ _=>l
def Cj:Nd->Int| .mk _ _ _ _ c _=>c
def kids:Nd->List Nd| .mk _ _ _ _ _ ks=>ks
end Nd
mutual
def encR:Nd->List V
 | .mk k f t l c ks=>[.int .i64 k,.int .i64 f,.str t,.int .i64 l,.int .i64 c,.slice 6 (Cp ks) .any]
def Cp:List Nd->List (List V)
 |[]=>[]
 |n::r=>encR n::Cp r
end
def Az (n:Nd):List V:=[.int .i64 n.kind,.int .i64 n.form,.str n.text,.int .i64 n.line,.int .i64 n.Cj,.slice 6 (Cp n.kids) .any]
def enc (n:Nd):V:=.agg (Az n)
theorem iZ (n:Nd):encR n=Az n:=by cases n;rfl
theorem BJ (ks:List Nd):Cp ks=ks.map Az:=by
 induction ks with
 |nil=>rfl
 |cons n r U=>simp only [Cp,iZ,U,List.map_cons]
theorem Cz (ks:List Nd):(Cp ks).length=ks.length:=by rw [BJ,List.length_map]
theorem Tl (ks:List Nd) (i:Nat):(Cp ks)[i]? =ks[i]?.map Az:=by rw [BJ,List.getElem?_map]
theorem Qw (ks:List Nd) (i:Nat):(Cp ks).drop i=Cp (ks.drop i):=by rw [BJ,BJ,List.map_drop]
theorem ZG (ks:List Nd) (i:Nat):(Cp ks).take i=Cp (ks.take i):=by rw [BJ,BJ,List.map_take]
theorem Tj (a b:List Nd):Cp (a++b)=Cp a++Cp b:=by rw [BJ,BJ,BJ,List.map_append]
mutual
def Nd.size:Nd->Nat
 | .mk _ _ _ _ _ ks=>1+C6 ks
def C6:List Nd->Nat
 |[]=>0
 |n::r=>n.size+C6 r
end
theorem Uq:∀{l:List Nd} {x:Nd},x ∈ l->x.size<=C6 l
 |y::r,x,h=>by
  rw [C6]
  rcases List.mem_cons.1 h with rfl|h
  .omega
  .have:=Uq h;omega
theorem FQ {n x:Nd} (h:x ∈ n.kids):x.size<n.size:=by
 cases n with
 |mk a b c d e ks=>
  have:=Uq (show x ∈ ks from h)
  rw [Nd.size];omega
theorem Wn {ks:List Nd} {i:Int} (h0:0<=i) (h1:i<ks.length) (k:∀x,ks[i.toNat]? =some x->x ∈ ks->K (Az x)):0<=i/\∃e,(Cp ks)[i.toNat]? =some e/\K e:=by
 have U:i.toNat<ks.length:=AC
 refine ⟨h0,Az ks[i.toNat],?_,k _ (List.getElem?_eq_getElem U) (List.getElem_mem U)⟩
 rw [Tl,List.getElem?_eq_getElem U];rfl
theorem Wl {ks:List Nd} {K:Nat->Prop} (k:ks.length<4611686018427387904->K ks.length):∀m,m=(Cp ks).length->m<EF->K m:=λm U h=>by
 rw [Cz] at U;subst U;exact k h
theorem Wp {ks:List Nd} {l h:Int} {K:List (List V)->Prop} (h0:0<=l) (h1:l<=h) (h2:h<=ks.length) (k:K (Cp ((ks.take h.toNat).drop l.toNat))):
 (0<=l/\l<=h/\h<=(Cp ks).length)/\∀U,U=(((Cp ks).take h.toNat).drop l.toNat)->K U:=by
 refine ⟨⟨h0,h1,by rw [Cz];exact h2⟩,λU e=>?_⟩
 rw [ZG,Qw] at e;simp_all
theorem Wo {ks:List Nd} {l:Int} {K:List (List V)->Prop} (h0:0<=l) (h1:l<=ks.length) (k:K (Cp (ks.drop l.toNat))):
 (0<=l/\l<=((Cp ks).length:Int)/\((Cp ks).length:Int)<=(Cp ks).length)/\∀U,U=(((Cp ks).take (((Cp ks).length:Int)).toNat).drop l.toNat)->K U:=by
 refine ⟨⟨h0,by rw [Cz];exact h1,Int.le_refl _⟩,λU e=>?_⟩
 rw [Int.toNat_natCast,List.take_length,Qw] at e;simp_all
theorem JV {a:Int} (U: -9223372036854775808<=a) (h2:a<=9223372036854775807):IntKind.i64.wrap a=a:=IntWalk.i64_in _ ⟨U,h2⟩
theorem Wq {a:Int} {K:Int->Prop} (U: -9223372036854775808<=a) (h2:a<=9223372036854775807) (k:K a):∃r,r=IntKind.i64.wrap a/\K r:=⟨a,(JV U h2).symm,k⟩
theorem Wf {a:Int} {q:Prop} (U:0<=a) (h:m=a.toNat->p) (k:¬m=a.toNat->q):Bc ((m:Int)==a) p q:=
 Wk (λe=>h (by grind)) (λe=>k (λx=>by grind))
theorem Wr {a b:Int} {K:Int->Prop} (hb:0<b) (U:0<=a) (h1:a<=4611686018427387904) (k:K (a / b)):b≠0/\∃r,r=IntKind.i64.wrap (a.tdiv b)/\K r:=by
 have e:a.tdiv b=a / b:=Int.tdiv_eq_ediv_of_nonneg U
 have h2:a / b<=a:=Int.ediv_le_self b U
 have h3:0<=a / b:=Int.ediv_nonneg U AC
 exact ⟨AC,_,(by rw [e,JV AC AC]),k⟩
theorem Ws {b:Int} (h:b≠0) (k:p):b≠0/\p:=⟨h,k⟩
theorem Wm {ks:List Nd} {i:Int} {x:Nd} (h:ks[i.toNat]? =some x) (U:0<=i) (k:K (Az x)):0<=i/\∃e,(Cp ks)[i.toNat]? =some e/\K e:=
 ⟨U,Az x,by rw [Tl,h];rfl,k⟩
theorem Ti {i:Int} {x:List V} (h:es[i.toNat]? =some x) (U:0<=i) (k:K x):0<=i/\∃e,es[i.toNat]? =some e/\K e:=⟨U,x,h,k⟩
theorem Wd {l:List Oper} (h:(IX k l&&Hq L)=true) (q:p):(IX k l&&Hq L)=true/\p:=⟨h,q⟩
theorem WF {q:Prop} (h:p):p\/q:=.inl h
theorem Ac {st:St} (sched:List (Nat×Bool)) (L:List Nat) (h:IA sched all=true) (k:E4 T C all sched L (A9 (L.map some) env.boxes) Q sched env st):
 p\/∃(sched:List (Nat×Bool)) (L:List Nat),IA sched all=true/\E4 T C all sched L (A9 (L.map some) env.boxes) Q sched env st:=.inr ⟨sched,L,h,k⟩
theorem We {st:St} {K:V->Prop} (v:V) (h:Bf T C all o U env st v) (k:v.part K):
 ∃v,Bf T C all o U env st v/\v.part K:=⟨v,h,k⟩
theorem W9 {st:St} {K:V->Prop} {q:Prop} (v:V) (h:Bf T C all o U env st v) (k:v.part K):
 ∃v,(Bf T C all o U env st v\/(p/\Bf T C all o b1 env st' v)\/(q/\Bf T C all o b1 env st v))/\v.part K:=⟨v,.inl h,k⟩
theorem W8 {st:St} {K:V->Prop} {q:Prop} (h0:p) (v:V) (h:Bf T C all o U env st' v) (k:v.part K):
 ∃v,(Bf T C all o b0 env st v\/(p/\Bf T C all o U env st' v)\/(q/\Bf T C all o U env st v))/\v.part K:=⟨v,.inr (.inl ⟨h0,h⟩),k⟩
theorem W0 {st:St} {K:V->Prop} {q:Prop} (h0:q) (v:V) (h:Bf T C all o U env st v) (k:v.part K):
 ∃v,(Bf T C all o b0 env st v\/(p/\Bf T C all o U env st' v)\/(q/\Bf T C all o U env st v))/\v.part K:=⟨v,.inr (.inr ⟨h0,h⟩),k⟩
theorem Wa {e:Env}:v=v/\e=e/\s=s:=⟨rfl,rfl,rfl⟩
theorem Wb {b:Bool} {e:Env}:Bc b (V.bool true=.bool b/\e=e/\s=s) (V.bool false=.bool b/\e=e/\s=s):=by
 cases b
 .exact Wj Wa
 .exact Wi Wa
theorem Wc {b:Bool} {e:Env}:Bc b (V.bool false=.bool (!b)/\e=e/\s=s) (V.bool true=.bool (!b)/\e=e/\s=s):=by
 cases b
 .exact Wj Wa
 .exact Wi Wa
noncomputable def Env.ts (env:Env) (ch:List (Nat×V)) (keep:List Nat):List (Nat×V):=
 List.rec (motive:=λ_=>List (Nat×V)) (List.rec (motive:=λ_=>List (Nat×V)) [] (λt _ U=>(t,env.get t)::U) keep) (λp _ U=>p::U) ch
noncomputable def Env.at (env:Env) (U:List (Nat×V)) (keep:List Nat):Env:=match env with
 |⟨ts,bs,n,sz,gl⟩=>⟨Env.ts ⟨ts,bs,n,sz,gl⟩ U keep,[],n,sz,gl⟩
theorem Mj {U:(AE->Env->St->Prop)->Env->St->Prop} {st:St} (i:Nat) (keep:List Nat) (m:Nat) (J:Nat->Prop) (h0:J 0)
 (he:(env.at [(i,.int .i64 ((0:Nat):Int))] keep).Ep env)
 (hb:∀k:Nat,J k->U (BL (λenv' st'=>∃y,J y/\m - y<m - k/\(env.at [(i,.int .i64 (y:Int))] keep).Ep env'/\St.le st st') Q) (env.at [(i,.int .i64 (k:Int))] keep) st):
 ∃(α:Type) (E:α->Env) (S:α->St) (J:α->Prop) (μ:α->Nat) (x0:α),J x0/\(E x0).Ep env/\St.le (S x0) st/\
  ∀x,J x->U (BL (λenv' st'=>∃y,J y/\μ y<μ x/\(E y).Ep env'/\St.le (S y) st') Q) (E x) (S x):=
 ⟨Nat,λk=>env.at [(i,.int .i64 (k:Int))] keep,λ_=>st,J,λk=>m - k,0,h0,he,St.le_refl _,hb⟩
theorem bo:(k:Int).tmod 2=1↔k % 2=1:=by grind
theorem PU:(k:Int).tmod 2=0↔k % 2=0:=by grind
theorem drop_at {l:List α} {x:α} (h:l[k]? =some x):l.drop k=x::l.drop (k+1):=by
 obtain ⟨U,rfl⟩:=List.getElem?_eq_some_iff.1 h
 simp_all
noncomputable def Env.bx (env:Env) (kb:List Nat):List (Nat×List V):=
 List.rec (motive:=λ_=>List (Nat×List V)) [] (λid _ U=>match assoc env.boxes id with|some cs=>(id,cs)::U|none=>U) kb
noncomputable def Env.lK (env:Env) (U:List (Nat×V)) (keep kb:List Nat):Env:=match env with
 |⟨ts,bs,n,sz,gl⟩=>⟨Env.ts ⟨ts,bs,n,sz,gl⟩ U keep,Env.bx ⟨ts,bs,n,sz,gl⟩ kb,n,sz,gl⟩
theorem Lm {st:St} (i:Nat) (keep U:List Nat) (m:Nat) (J:Nat->Prop) (h0:J 0)
 (he:(env.lK [(i,.int .i64 ((0:Nat):Int))] keep U).Ep env)
 (hb:∀k:Nat,J k->ih (BL (λenv' st'=>∃y,J y/\m - y<m - k/\(env.lK [(i,.int .i64 (y:Int))] keep U).Ep env'/\St.le st st') Q) (env.lK [(i,.int .i64 (k:Int))] keep U) st):
 ∃(α:Type) (E:α->Env) (S:α->St) (J:α->Prop) (μ:α->Nat) (x0:α),J x0/\(E x0).Ep env/\St.le (S x0) st/\
  ∀x,J x->ih (BL (λenv' st'=>∃y,J y/\μ y<μ x/\(E y).Ep env'/\St.le (S y) st') Q) (E x) (S x):=
 ⟨Nat,λk=>env.lK [(i,.int .i64 (k:Int))] keep U,λ_=>st,J,λk=>m - k,0,h0,he,St.le_refl _,hb⟩
theorem R2 {st:St} (f:α->List (Nat×V)) (keep kb:List Nat) (S:α->St) (J:α->Prop) (U:α->Nat) (x0:α) (h0:J x0)
 (he:(env.lK (f x0) keep kb).Ep env) (hs:St.le (S x0) st)
 (hb:∀x,J x->ih (BL (λenv' st'=>∃y,J y/\U y<U x/\(env.lK (f y) keep kb).Ep env'/\St.le (S y) st') Q) (env.lK (f x) keep kb) (S x)):
 ∃(α:Type) (E:α->Env) (S:α->St) (J:α->Prop) (U:α->Nat) (x0:α),J x0/\(E x0).Ep env/\St.le (S x0) st/\
  ∀x,J x->ih (BL (λenv' st'=>∃y,J y/\U y<U x/\(E y).Ep env'/\St.le (S y) st') Q) (E x) (S x):=
 ⟨α,λk=>env.lK (f k) keep kb,S,J,U,x0,h0,he,hs,hb⟩
def strs (l:List (List UInt8)):List (List V):=l.map λs=>[V.str s]
theorem Nc {l new:List (List UInt8)} {own:AB} {st:St} {K:V->St->Prop} (h:own.BG st) (hb:l.length+new.length<=1000000000)
 (k:∀U:AB,U.BG st->K (.slice 1 (strs (l++new)) U) (U.st st (l++new).length)):Ag 1 16 (strs l) own (strs new) (own.st st l.length) K:=by
 have h0:∀l,(strs l).length=l.length:=λl=>by simp [strs]
 have h1:∀l,(strs l).map (·.map V.IM)=strs l:=λl=>by simp only [strs,List.map_map];rfl
 have:=F3 (sz:=1) (bytes:=16) (es:=strs l) (new:=strs new) (K:=K) h (by grind) (by rw [h0,h0];simp only [EF];omega)
  (by simp [strs,V.sc]) (λU ho=>by
    have:=k U ho
    rw [h0,h0,h1]
    rw [List.length_append] at this
    rw [Nat.mul_one,show strs l++strs new=strs (l++new) by simp [strs]]
    omega)
 simp_all
def ints (l:List Int):List (List V):=l.map λn=>[V.int .i64 n]
theorem Wg [BEq α] [LawfulBEq α] {a b:α} {q:Prop} (h:a=b->p) (k:¬a=b->q):Bc (a==b) p q:=
 Wk (λe=>h (eq_of_beq e)) (λe=>k (λx=>by simp_all))
theorem Wh [Decidable c] {q:Prop} (h:c->p) (k:¬c->q):Bc (decide c) p q:=
 Wk (λe=>h (of_decide_eq_true e)) (λe=>k (of_decide_eq_false e))
section
variable {R:Ay->St->Prop} {st:St}
theorem fin (h:R r st) (e:r=r'):∃r2 U,(r2=r'\/r2=r'.wk)/\St.le U st/\R r2 U:=by subst e;exact ⟨r,st,.inl rfl,St.le_refl _,h⟩
theorem Ao {b b':Bool} (h:R (.ret (.bool b)) st) (e:b=b'):∃r2 U,(r2=(.ret (.bool b'))\/r2=(Ay.ret (.bool b')).wk)/\St.le U st/\R r2 U:=by subst e;exact fin h rfl
theorem RI (h:R r st) (e:r=r'.wk):∃r2 U,(r2=r'\/r2=r'.wk)/\St.le U st/\R r2 U:=by subst e;exact ⟨_,st,.inr rfl,St.le_refl _,h⟩
theorem Be (e:r=r'.wk) (h:R r st):∃r2 U,(r2=r'\/r2=r'.wk)/\St.le U st/\R r2 U:=RI h e
end
theorem J1 {P:Prop} (k:A) (h:A->P:=by intro k;with_reducible first|(show _/\_;first|exact Wd EQ k|exact Wm ‹_› AC k|exact Wn AC AC k|exact Wo AC AC k|exact Wp AC AC AC k|exact Wr Do AC AC k|exact Ws Do k)|(show Bc _ _ _;first|exact Wi k|exact Wj k)|(intro x y z;exact Wl k x y z)|(show Exists _;first|exact Wq AC AC k)|fail):P:=h k
theorem J2 {P B:Prop} (k:A) (l:B) (h:A->B->P:=by intro k l;with_reducible first|(show Bc _ _ _;first|exact Wf Do k l|exact Wg k l|exact Wh k l|exact Wk k l)|fail):P:=h k l
theorem Yl {P:Prop} (h:P:=by refine ⟨rfl,?_,?_,rfl⟩<;>repeat' (first|exact trivial|exact rfl|refine And.intro ?_ ?_)):P:=h
section
variable {D:List Deferred} {P:Program} {T:List (Nat×Ty)} {C:FuncId->List V->St->(Ay->St->Prop)->Prop} {I0 I:Mem} {st0 st:St} {w0 w:World} {β:Nat->Option Nat} {env:Env} {a:Act}
def GS (all:List Oper) (U:List (List Bool×Nat)):Bool:=
 ((List.range all.length).all λj=> !(Bt all (List.replicate all.length false) j)||U.contains (List.replicate all.length false,j))&&
 ((List.replicate all.length false==List.replicate all.length true)||(List.range all.length).any λj=>Bt all (List.replicate all.length false) j)&&
 U.all λp=>(p.1.length==all.length)&&((List.range all.length).all λj=> !(Bt all (p.1.set p.2 true) j)||U.contains (p.1.set p.2 true,j))&&
  ((p.1.set p.2 true==List.replicate all.length true)||(List.range all.length).any λj=>Bt all (p.1.set p.2 true) j)
def gh (T:List (Nat×Ty)) (C:FuncId->List V->St->(Ay->St->Prop)->Prop) (all:List Oper) (Q:AE->Env->St->Prop) (E:List Bool->Env) (S:List Bool->St) (p:List Bool×Nat):Prop:=
 match all[p.2]? with
 |some o=>A8 all o (E p.1) (Fg T C o (E p.1) (S p.1) (λv env st=>env.go o.dst v λenv=>(E (p.1.set p.2 true)).Ep env/\St.le (S (p.1.set p.2 true)) st) Q)
   ((E p.1).go o.dst (.Bq []) λenv=>(E (p.1.set p.2 true)).Ep env/\St.le (S (p.1.set p.2 true)) (S p.1))
 |none=>True
theorem Za (hT:FV P T) (hC:∀f args st R,C f args st R->Co P f args st R/\Plain P f) {E:List Bool->Env} {S:List Bool->St} {PL:List (List Bool×Nat)}
 (hc:GS all PL=true) (step:∀p ∈ PL,gh T C all Q E S p) (fin:Q .normal (E (List.replicate all.length true)) (S (List.replicate all.length true))):
 ∀(fuel:Nat) (bs:List Bool) (listed:Array Bool) (I:Mem) (β:Nat->Option Nat) (a:Act) (w:World),bs.length=all.length->listed.toList=bs->bs.count false<=fuel->
  (∀j,j<all.length->Bt all bs j=true->(bs,j) ∈ PL)->(bs=List.replicate all.length true\/∃j,j<all.length/\Bt all bs j=true)->
  Rel D I0 st0 w0 I β (E bs) (S bs) a w->wpAny P .any all.toArray (B0 D I0 st0 w0 Q) fuel listed a w:=by
 have full:∀{bs:List Bool},bs.length=all.length->bs.count false=0->bs=List.replicate all.length true:=λ{bs} hb h0=>by
  rw [List.eq_replicate_iff]
  grind
 have noready:∀{j:Nat},Bt all (List.replicate all.length true) j=true->j<all.length->False:=λ{j} h hj=>by
  unfold Bt at h
  simp_all
 simp only [GS,Bool.and_eq_true,List.all_eq_true] at hc
 intro fuel
 induction fuel with
 |zero=>
  intro bs listed I β a w hb hl hf hp hr h
  have:=full hb AC
  subst this
  refine ⟨?_,⟨I,β,_,_,.normal,h,trivial,fin⟩⟩
  rw [List.eq_nil_iff_forall_not_mem]
  intro j hj
  obtain ⟨U,h2⟩:=(D0 hl hb).1 hj
  grind
 |succ fuel ih=>
  intro bs listed I β a w hb hl hf hp hr h
  refine ⟨λh0=>?_,λi hi=>?_⟩
  .rcases hr with rfl|⟨j,U,h2⟩
   .exact ⟨I,β,_,_,.normal,h,trivial,fin⟩
   .have:=(D0 hl hb).2 ⟨U,h2⟩
    simp_all
  .obtain ⟨U,h2⟩:=(D0 hl hb).1 hi
   have hm:=hp i U h2
   have hs:=step _ hm
   unfold gh at hs
   have ho:all[i]? =some all[i]:=List.getElem?_eq_getElem U
   simp only [ho] at hs
   obtain ⟨⟨c1,c2⟩,c3⟩:=hc.2 _ hm
   refine KG hT hC (Q:=Q) ho (λ{I β env st a w} h k=>?_) h hs (K:=λenv st=>(E (bs.set i true)).Ep env/\St.le (S (bs.set i true)) st)
   .have hbi:i<bs.length:=AC
    refine ih (bs.set i true) _ I _ a w ke (by simp [hl]) ?_ (λj hj hr=>?_) ?_ ((h.GQ k.2).Iy (Env.Iz k.1))
    .have:=List.count_set (a:=true) (i:=i) (l:=bs) (b:=false) hbi
     unfold Bt at h2
     grind
    .grind
    grind
theorem Vl (hP:Q6 P T) (hC:∀f args st R,C f args st R->Co P f args st R/\Plain P f) {id:Nat} {ops:Array Oper} (E:List Bool->Env) (S:List Bool->St) (PL:List (List Bool×Nat))
 (hc:GS ops.toList PL=true) (h0:(E (List.replicate ops.toList.length false)).Ep env) (s0:St.le (S (List.replicate ops.toList.length false)) st) (step:∀p ∈ PL,gh T C ops.toList Q E S p)
 (fin:Q .normal (E (List.replicate ops.toList.length true)) (S (List.replicate ops.toList.length true))):AW P (.region id ops true) Q env st:=λD I0 st0 w0 I β a w h=>
 wp_region_any hP.m (by
  have U:=hc
  simp only [GS,Bool.and_eq_true,List.all_eq_true] at U
  have:=Za (D:=D) hP.t hC hc step fin ops.size (List.replicate ops.toList.length false) (Array.replicate ops.size false) I _ a _ GT GT GT (λj hj hr=>?_) ?_ (((h.H4 (Fh.drew w)).GQ s0).Iy (Env.Iz h0))
  .simp_all
  .grind
  simp_all)
end
def V.Yc:V->Bool
 | .ptr _ _=>true
 |_=>false
theorem Ak.nS {I J:Mem}:∀{vs:List V} {cs:List Value},Ak I vs cs->vs.all V.Yc=true->Ak J vs cs
 |[],cs,h,_=>by simpa only [Ak] using h
 |v::vs,cs,h,k=>by
  simp only [Ak] at h |-
  obtain ⟨c,r,rfl,U,h2⟩:=h
  simp only [List.all_cons,Bool.and_eq_true] at k
  refine ⟨c,r,rfl,?_,Ak.nS h2 k.2⟩
  cases v<;>first|(simp only [AG] at U |-;exact U)|exact absurd k.1 (by simp [V.Yc])
def HV (P:Program) (g:FuncId) (args:List V) (x:Option V) (st:St) (R:St->Prop):Prop:=
 ∀(I:Mem) (w:World) (U:List Value) (u:FrameMode),Ci I st w->Ak I args U->
  (match x with|none=>u=.returning|some v=>∃c,u=.panicking [{v:=c,recovered:=false}]/\AG I v c)->
  CallsD P g U.toArray u w λe u' w'=>(∃v,e=.returned v)/\settle u'=.returning/\∃I' st',Fr I st w I' st' w'/\Ci I' st' w'/\R st'
section
variable {D:List Deferred} {P:Program} {T:List (Nat×Ty)} {I0 I:Mem} {st0 st:St} {w0 w:World} {β:Nat->Option Nat} {env:Env} {a:Act}
theorem Rel.defer (h:Rel D I0 st0 w0 I β env st a w) (d:Deferred):Rel (d::D) I0 st0 w0 I β env st {a with defers:=d::a.defers} w:=
 ⟨h.fr,h.s,⟨h.f.size,h.f.tmps,h.f.box,h.f.Bj,h.f.inj,h.f.sep,by rw [<-h.f.defers]⟩⟩
def Ug (T:List (Nat×Ty)) (fn:Func) (R:Ay->St->Prop) (env:Env) (st:St):Prop:=
 E1 T env st fn.results.toList λvs=>match vs with|[v]=>R (.ret v) st|vs=>R (.ret (.Bq vs)) st
def VX (P:Program) (T:List (Nat×Ty)) (g:FuncId) (U:List V) (fn:Func) (R:Ay->St->Prop):AE->Env->St->Prop
 | .normal,env,st| .ret,env,st=>HV P g U none st λst'=>Ug T fn R env st'
 | .BU v,env,st=>HV P g U (some v) st λst'=>Ug T fn R env st'
 |_,_,_=>False
def hH:AE->Env->St->Prop:=λ_ _ _=>False
theorem Gl {U:List Value} (gl:List Nat) (hs:Ci I st w) (hargs:Ak I args U) (hle:Nat.ble args.length fn.ntmps=true):
 Rel [] I st w I (λ_=>none) {tmps:=Iw 0 args,boxes:=[],Bj:=0,sz:=fn.ntmps,gl} st
  {tmps:=U.toArray++Array.replicate (fn.ntmps - U.toArray.size) undef,defers:=[]} w:=by
 have hle:=Nat.le_of_ble_eq_true hle
 have hlen:=Ak.length hargs
 refine Po hs (by grind) (λt v e=>?_) rfl rfl
 obtain ⟨_,e⟩:=Oh e
 rw [Nat.sub_zero] at e
 obtain ⟨c',e1,e2⟩:=Ak.get hargs e
 have hlt:t<U.length:=by
  rcases Nat.lt_or_ge t U.length with h|h
  .exact h
  .simp_all
 have:(U.toArray++Array.replicate (fn.ntmps - U.toArray.size) undef).getD t undef=c':=by
  rw [List.getElem?_eq_getElem hlt] at e1
  injection e1 with e1
  subst e1
  simp [Array.getD,Array.getElem_append,hlt]
  omega
 simp_all
theorem LA (hP:Q6 P T) (gl:List Nat) (hf:P.funcs[f]? =some fn) {c0 c1:Code} {mk U:Oper}
 (hb : fn.body = some (.seq c0 (.seq c1 (.seq (.region rid #[mk, U] false) rest)))) (hn : (fn.name == "runtime.NumGoroutine") = false) {cap : Array Operand} {tf : Nat}
 (h1:mk.op=.makeFunc (.func g) #[] cap) (h2:mk.dst=some tf) (h3:mk.guard=none) (h4:U.op=.defer {callee:=.value (.tmp tf),args:=#[],argTypes:=#[]}) (h5:U.guard=none) (h6:U.dst=none)
 (hg:Plain P g) (hle:Nat.ble args.length fn.ntmps=true)
 (h:ND T (A3 P) c0 (BL (ND T (A3 P) c1 (BL (λenv st=>SS env cap.toList λvs=>vs.all V.Yc=true/\env.go (some tf) (.func g [] vs) λenv=>
   AW P rest (VX P T g vs fn R) env st) hH)) hH) {tmps:=Iw 0 args,boxes:=[],Bj:=0,sz:=fn.ntmps,gl} st):A3 P f args st R:=by
 refine ⟨?_,fn,hf,ke,hn⟩
 intro I w cargs hs hargs
 refine calls_of_wp_defers hf hb ?_
 have hsd:=λc {Q env st} k=>L7 (Q:=Q) (env:=env) (st:=st) hP (B5 P) (λ_ _ _ _ _ h k=>k.mono h) c k
 refine wp_seq (wp_mono (hsd c0 h [] I st w I _ _ w (Gl gl hs hargs hle)) ?_)
 rintro e a w1 ⟨I1,β1,env1,st1,ae,r1,x1,k1⟩
 cases ae with
 |exit _|goto _|ret|BU _=>exact k1.elim
 |normal=>
 cases e with
 |exit _|goto _|ret|panic _|outgrown=>exact x1.elim
 |normal=>
 refine wp_seq (wp_mono (hsd c1 k1 [] I st w I1 _ _ w1 r1) ?_)
 rintro e a w2 ⟨I2,β2,env2,st2,ae,r2,x2,k2⟩
 cases ae with
 |exit _|goto _|ret|BU _=>exact k2.elim
 |normal=>
 cases e with
 |exit _|goto _|ret|panic _|outgrown=>exact x2.elim
 |normal=>
 refine wp_seq (wp_region_list ?_)
 show wpList P #[mk,U] _ [mk,U] a w2
 unfold wpList
 rw [if_pos (by simp [Region.wanted,h3])]
 left
 obtain ⟨vs,hv,kp,kg⟩:=Fl r2.f (show SS env2 cap.toList _ from k2)
 have hcv:AG I2 (.func g [] vs) (.func (.func g) #[] (cap.map a.eval)):=by
  simp only [AG]
  exact ⟨[],cap.toList.map a.eval,by congr 1;grind,H1,hv⟩
 obtain ⟨env3,r3,k3⟩:=B2 r2 (AR.of hcv) kg
 have htf:tf<a.tmps.size:=by
  rw [r2.f.size]
  exact (Gu kg).1 tf rfl
 unfold Oper.wp
 rw [show (execOp a.eval mk).run P w2=.ok (.value (.func (.func g) #[] (cap.map a.eval))) w2 by simp only [execOp,h1,Array.map_empty];rfl]
 show wpList P #[mk,U] _ [U] (a.put mk.dst _) w2
 rw [h2]
 unfold wpList
 rw [if_pos (by simp [Region.wanted,h5])]
 left
 have hev:(a.put (some tf) (.func (.func g) #[] (cap.map a.eval))).eval (.tmp tf)=.func (.func g) #[] (cap.map a.eval):=by
  simp [Act.put,Act.eval,htf]
 unfold Oper.wp
 rw [show (execOp (a.put (some tf) (.func (.func g) #[] (cap.map a.eval))).eval U).run P w2=.ok (.defer {target:=.fn (.func g) (cap.map a.eval),args:=#[]}) w2 by
  simp only [execOp,h4,resolve,hev,Deferred.ofValue,Array.map_empty,Array.empty_append];rfl]
 rw [Oper.upon_defer]
 rw [h6]
 unfold wpList
 show rest.wp P _ _ _
 have r4:=r3.defer {target:=.fn (.func g) (cap.map a.eval),args:=#[]}
 refine wp_mono (k3 _ I st w I2 _ _ w2 r4) ?_
 rintro e a5 w5 ⟨I5,β5,env5,st5,ae,r5,x5,k5⟩
 have hd:=r5.f.defers
 obtain ⟨fn2,p1,p2,p3⟩:=hg
 have hinv:(invoke (.fn (.func g) (cap.map a.eval)) #[]).run P w5=.ok (.enter g (cap.toList.map a.eval).toArray) w5:=by
  have hb:fn2.body.isNone=false:=by cases hb:fn2.body<;>simp_all
  simp only [invoke,callFunc,Sem.run_bind,Sem.run_pure,Result.andThen_ok,run_program,p1]
  rw [p3]
  simp [hb]
  apply Array.ext';simp
 have last:∀{u:FrameMode} {x:Option V},u≠.run->(match x with|none=>u=.returning|some v=>∃c,u=.panicking [{v:=c,recovered:=false}]/\AG I5 v c)->HV P g vs x st5 (λst'=>Ug T fn R env5 st')->
  Leaves P fn a5.tmps (λe w'=>∃I' st' r,Fr I st w I' st' w'/\Ci I' st' w'/\Ue I' e r/\R r st') a5.defers u w5:=by
  intro u x hu hx k
  rw [hd]
  refine leaves_cons hu hinv ((k I5 w5 _ u r5.s (Ak.nS hv kp) hx).mono ?_)
  rintro e u' w6 ⟨⟨v,rfl⟩,hset,I6,st6,q1,q2,q3⟩
  show Leaves P fn a5.tmps _ [] (settle u') w6
  rw [hset]
  have r6:=r5.called q1 q2
  obtain ⟨v,c,g1,g2,g3⟩:=CD (P:=P) hP.t r6 q3
  exact ⟨c,g1,I6,st6,.ret v,r6.fr,r6.s,g2,g3⟩
 cases ae with
 |normal=>
  cases e with
  |normal=>exact last (x:=none) GT rfl k5
  |_=>exact x5.elim
 |ret=>
  cases e with
  |ret=>exact last (x:=none) GT rfl k5
  |_=>exact x5.elim
 |BU v=>
  cases e with
  |panic chain=>
   obtain ⟨c,rfl,hc⟩:=x5
   exact last (x:=some v) GT ⟨c,rfl,hc⟩ k5
  |_=>exact x5.elim
 |exit _=>exact k5.elim
 |goto _=>exact k5.elim
def nZ:Option V->V
 |none=>.FP
 |some v=>v
def p9 (T:List (Nat×Ty)) (fn:Func) (R:St->Prop):AE->Env->St->Prop
 | .normal,env,st| .ret,env,st=>Ug T fn (λ_ st=>R st) env st
 |_,_,_=>False
theorem EU (hP:Q6 P T) (gl:List Nat) {x:Option V} {st:St} {R:St->Prop} (hf:P.funcs[g]? =some fn) {ro ao:Oper}
 (hb:fn.body=some (.seq (.region rid #[ro,ao] false) rest)) {t1 t2:Nat} {oI:Array TypeId} (h1:ro.op=.call {callee:=.builtin .recover,args:=#[],argTypes:=oI}) (h2:ro.dst=some t1) (h3:ro.guard=none)
 (h4:ao.op=.assign (.tmp t1)) (h5:ao.dst=some t2) (h6:ao.guard=none) (hle:Nat.ble args.length fn.ntmps=true)
 (h:∀env0:Env,env0={tmps:=Iw 0 args,boxes:=[],Bj:=0,sz:=fn.ntmps,gl}->env0.go (some t1) (nZ x) λenv=>env.go (some t2) (nZ x) λenv=>AW P rest (p9 T fn R) env st):HV P g args x st R:=by
 intro I w U u hs hargs hx
 refine callsD_of_wpS hf hb (λc0 cs hu=>?_)
 refine wpS_seq (wpS_region ?_)
 obtain ⟨c,cs',u',hrec,hrep,hcs,hset⟩:∃(c:Value) (cs':List Frame) (u':FrameMode),(match recoverD (c0::cs) with|some (v,cs1)=>c=v/\cs'=cs1|none=>c=.nilIface/\cs'=c0::cs)/\AG I (nZ x) c/\cs'={c0 with mode:=u'}::cs/\settle u'=.returning:=by
  cases x with
  |none=>
   have hx:u=.returning:=hx
   rw [hx] at hu
   refine ⟨.nilIface,c0::cs,.returning,?_,H1,?_,rfl⟩
   .simp only [recoverD,hu,and_self]
   .rw [<-hu]
  |some v=>
   obtain ⟨c,hx,hc⟩:=hx
   rw [hx] at hu
   refine ⟨c,{c0 with mode:=.panicking [{v:=c,recovered:=true}]}::cs,.panicking [{v:=c,recovered:=true}],?_,hc,rfl,rfl⟩
   simp only [recoverD,hu,and_self]
 have r0:=Gl (fn:=fn) gl hs hargs hle
 obtain ⟨env1,r1,k1⟩:=B2 r0 (AR.of hrep) (h _ rfl)
 obtain ⟨env2,r2,k2⟩:=B2 r1 (AR.of hrep) k1
 have hlt:t1<(U.toArray++Array.replicate (fn.ntmps - U.toArray.size) undef).size:=by
  have:=(Gu (h _ rfl)).1 t1 rfl
  rw [r0.f.size]
  exact this
 show wpOpsS P #[ro,ao] _ [0,1] _ _ _
 unfold wpOpsS
 simp only [List.getElem?_toArray,List.getElem?_cons_zero]
 rw [if_pos (by simp [Region.wanted,h3])]
 rw [show ∀ρ,(execOp ρ ro).run P w=.ok .recover w from λρ=>by simp only [execOp,h1];rfl]
 dsimp only
 have next:∀(b:Act) (tail:Act->List Frame->World->Prop),tail (b.put (some t1) c) cs' w->(match recoverD (c0::cs) with|some (v,cs1)=>tail (b.put ro.dst v) cs1 w|none=>tail (b.put ro.dst .nilIface) (c0::cs) w):=λb tail ht=>by grind
 refine next _ (λa cs w=>wpOpsS P #[ro,ao] _ [1] a cs w) ?_
 unfold wpOpsS
 simp only [List.getElem?_toArray,List.getElem?_cons_succ,List.getElem?_cons_zero]
 rw [if_pos (by simp [Region.wanted,h6])]
 have hev:∀tm:Act,t1<tm.tmps.size->(tm.put (some t1) c).eval (.tmp t1)=c:=λtm ht=>by simp [Act.put,Act.eval,ht]
 rw [show ∀ρ,(execOp ρ ao).run P w=.ok (.value (ρ (.tmp t1))) w from λρ=>by simp only [execOp,h4];rfl]
 dsimp only
 rw [Oper.upon_value,hev _ hlt,h5]
 unfold wpOpsS
 show rest.wpS P _ _ cs' w
 refine wpS_of_wp (wp_mono (k2 [] I st w I _ _ w r2) ?_)
 rintro e a5 w5 ⟨I5,β5,env5,st5,ae,r5,x5,k5⟩
 have last:Ug T fn (λ_ st=>R st) env5 st5->a5.defers=[]/\∃u',cs'={c0 with mode:=u'}::cs/\∃v,(results fn a5.tmps).run P w5=.ok v w5/\((∃v',Ending.returned v=.returned v')/\settle u'=.returning/\∃I' st',Fr I st w I' st' w5/\Ci I' st' w5/\R st'):=λq=>by
  obtain ⟨v,c,g1,g2,g3⟩:=CD (P:=P) (R:=λ_ st=>R st) hP.t r5 (show E1 T env5 st5 fn.results.toList _ from q)
  exact ⟨r5.f.defers,u',hcs,c,g1,⟨_,rfl⟩,hset,I5,st5,r5.fr,r5.s,g3⟩
 cases ae with
 |normal=>
  cases e with
  |normal=>exact last k5
  |_=>exact x5.elim
 |ret=>
  cases e with
  |ret=>exact last k5
  |_=>exact x5.elim
 |BU v=>exact k5.elim
 |exit _=>exact k5.elim
 |goto _=>exact k5.elim
end
end Go.Aw
namespace Go.Aw
theorem Wt [BEq α] [LawfulBEq α] {a b:α} {q:Prop} (e:a=b) (h:p):Bc (a==b) p q:=Wg (λ_=>h) (λn=>absurd e n)
theorem Wu [BEq α] [LawfulBEq α] {a b:α} {q:Prop} (e:¬a=b) (h:q):Bc (a==b) p q:=Wg (λn=>absurd n e) (λ_=>h)
theorem Wv [Decidable c] {q:Prop} (e:c) (h:p):Bc (decide c) p q:=Wh (λ_=>h) (λn=>absurd e n)
theorem Ww [Decidable c] {q:Prop} (e:¬c) (h:q):Bc (decide c) p q:=Wh (λn=>absurd n e) (λ_=>h)
end Go.Aw
namespace Go.Proofs.Z
open Go Go.Aw
abbrev PC (f:FuncId) (args:List V) (st:St) (R:Ay->St->Prop):Prop:=A3 Tryz.prog f args st R
structure Tk where
 kind:Int
 text:List UInt8
 line:Int
 Cj:Int
structure Af where
 AD:List Tk
 pos:Int
 Ca:List Int
 wait:Int
def Tk.cells (t:Tk):List V:=[.int .i64 t.kind,.str t.text,.int .i64 t.line,.int .i64 t.Cj]
def Ei (t:Tk):V:=.agg t.cells
def A5 (l:List Tk):List (List V):=l.map Tk.cells
def Af.cells (s:Af):List V:=[.slice 4 (A5 s.AD) .any,.int .i64 s.pos,.slice 1 (ints s.Ca) .any,.int .i64 s.wait]
def Bn (s:Af):V:=.agg s.cells
def gx:Tk:=⟨0,[],0,0⟩
def Ew:Af:=⟨[],0,[],0⟩
theorem G8 (l:List Tk):(A5 l).length=l.length:=by simp [A5]
theorem Cw (l:List Int):(ints l).length=l.length:=by simp [ints]
theorem Wz {l:List Tk} {K:Nat->Prop} (k:l.length<4611686018427387904->K l.length):∀m,m=(A5 l).length->m<EF->K m:=λm U h=>by
 rw [G8] at U;subst U;exact k h
theorem WA {K:Nat->Prop} (k:l.length<4611686018427387904->K l.length):∀m,m=(ints l).length->m<EF->K m:=λm U h=>by
 rw [Cw] at U;subst U;exact k h
theorem WC {l:List Tk} {i:Int} (h0:0<=i) (h1:i<l.length) (k:∀x,l[i.toNat]? =some x->K x.cells):0<=i/\∃e,(A5 l)[i.toNat]? =some e/\K e:=by
 have U:i.toNat<l.length:=AC
 exact ⟨h0,l[i.toNat].cells,by simp [A5,U],k _ (List.getElem?_eq_getElem U)⟩
theorem WB {l:List Tk} {i:Int} {x:Tk} (h:l[i.toNat]? =some x) (U:0<=i) (k:K x.cells):0<=i/\∃e,(A5 l)[i.toNat]? =some e/\K e:=
 ⟨U,x.cells,by simp [A5,h],k⟩
theorem WD {i:Int} (h0:0<=i) (h1:i<l.length) (k:∀x,l[i.toNat]? =some x->K [.int .i64 x]):0<=i/\∃e,(ints l)[i.toNat]? =some e/\K e:=by
 have U:i.toNat<l.length:=AC
 exact ⟨h0,[.int .i64 l[i.toNat]],by simp [ints,U],k _ (List.getElem?_eq_getElem U)⟩
theorem WE {a b:Int} {K:List (List V)->Prop} (h0:0<=a) (h1:a<=b) (h2:b<=l.length) (k:K (ints ((l.take b.toNat).drop a.toNat))):
 (0<=a/\a<=b/\b<=(ints l).length)/\∀U,U=(((ints l).take b.toNat).drop a.toNat)->K U:=by
 refine ⟨⟨h0,h1,by rw [Cw];exact h2⟩,λU e=>?_⟩
 have:((ints l).take b.toNat).drop a.toNat=ints ((l.take b.toNat).drop a.toNat):=by simp [ints,List.map_drop,List.map_take]
 rw [this] at e;subst e;exact k
theorem Wx {K:Bool->Prop} (h:es=[]->K true) (k:K false):∀b,(b=true->es=[])->K b
 |true,e=>h (e rfl)
 |false,_=>k
theorem Wy {K:Bool->Prop} (h:es=[]->K false) (k:K true):∀b,(b=false->es=[])->K b
 |false,e=>h (e rfl)
 |true,_=>k
theorem Hv {new:List Int} {own:AB} {st:St} {K:V->St->Prop} (h:own.BG st) (hb:l.length+new.length<=1000000000)
 (k:∀U:AB,U.BG st->K (.slice 1 (ints (l++new)) U) (U.st st (l++new).length)):Ag 1 8 (ints l) own (ints new) (own.st st l.length) K:=by
 have hw:(ints new).map (·.map V.IM)=ints new:=by
  simp only [ints,List.map_map]
  exact List.map_congr_left λx _=>rfl
 have hsc:((ints new).all λv=>v.all V.sc)=true:=by
  simp only [ints,List.all_map,List.all_eq_true]
  exact λx _=>rfl
 have:=F3 (sz:=1) (bytes:=8) (es:=ints l) (new:=ints new) (K:=K) h (by rw [Cw,Cw];omega) (by rw [Cw,Cw];simp only [EF];omega) hsc (λU ho=>by
  have:=k U ho
  rw [Cw,Cw,hw,<-show ints (l++new)=ints l++ints new from by simp [ints],<-List.length_append,Nat.mul_one]
  exact this)
 rw [Cw,Nat.mul_one] at this
 exact this
theorem Vg {new new':List Int} {own:AB} {st:St} {K:V->St->Prop} (e:new'=new) (h:own.BG st) (hb:l.length+new.length<=1000000000)
 (k:∀U:AB,U.BG st->K (.slice 1 (ints (l++new)) U) (U.st st (l++new).length)):Ag 1 8 (ints l) own (ints new') (own.st st l.length) K:=e ▸ Hv h hb k
section
variable {st:St} {R:Ay->St->Prop}
theorem DH (hs:st.le st') (e:r=r'.wk) (h:R r st):∃r2 U,(r2=r'\/r2=r'.wk)/\St.le U st'/\R r2 U:=⟨r,st,.inr e,hs,h⟩
end
theorem Cr {P:Prop} (h:P:=by with_reducible first|(show _/\_;first|exact Wa)|(show Bc _ _ _;first|exact Wb|exact Wc)|fail):P:=h
theorem Bg {P:Prop} (k:A) (h:A->P:=by intro k;with_reducible first|(show _/\_;first|exact Wd EQ k|exact Wm ‹_› AC k|exact Wn AC AC k|exact Wo AC AC k|exact Wp AC AC AC k|exact Wr Do AC AC k|exact Ws Do k|exact WB ‹_› AC k|exact WC AC AC k|exact WD AC AC k|exact WE AC AC AC k)|(show Bc _ _ _;first|exact Wt IR k|exact Wu IR k|exact Wv AC k|exact Ww AC k|exact Wi k|exact Wj k)|(intro x y z;exact Wl k x y z)|(intro x y z;exact Wz k x y z)|(intro x y z;exact WA k x y z)|(show Exists _;first|exact Wq AC AC k)|fail):P:=h k
theorem Cs {P:Prop} {B C:V->Prop} (k:V) (l:B k) (m:C k) (h:∀k,B k->C k->P:=by intro k l m;with_reducible first|(show Exists _;first|exact We k l m|exact W8 GE k l m|exact W0 GE k l m|exact W9 k l m)|fail):P:=h k l m
theorem Bh {P B:Prop} (k:A) (l:B) (h:A->B->P:=by intro k l;with_reducible first|(show Bc _ _ _;first|exact Wf Do k l|exact Wg k l|exact Wh k l|exact Wk k l)|fail):P:=h k l
theorem GM {P B:Prop} (k:A) (l:B) (h:A->B->P:=by intro k l;with_reducible first|(intro x y;exact Wx k l x y)|(intro x y;exact Wy k l x y)|fail):P:=h k l
section
variable {H:Type}
theorem cP (d:DataW H) (vs:List V) (h:dec Tryz.prog n 51 d=some vs):∃t:Tk,vs=t.cells/\t.text.length+1<=Rows.uptoBulk d:=by
 obtain ⟨m,ds,us,rfl,hl,hm,rfl,hb⟩:=OA Tryz.underlying51 h
 match ds,hl with
 |[d0,d1,d2,d3],_=>
  simp only [List.zip_cons_cons,List.zip_nil_right] at hm
  obtain ⟨u0,r0,h0,U,rfl⟩:=B4 hm
  obtain ⟨u1,r1,h1,hm1,rfl⟩:=B4 U
  obtain ⟨u2,r2,h2,hm2,rfl⟩:=B4 hm1
  obtain ⟨u3,r3,h3,hm3,rfl⟩:=B4 hm2
  cases hm3
  obtain ⟨k,rfl⟩:=Jw Tryz.underlying3 h0
  obtain ⟨t,rfl,ht⟩:=iL Tryz.underlying9 h1
  obtain ⟨l,rfl⟩:=Jw Tryz.underlying3 h2
  obtain ⟨c,rfl⟩:=Jw Tryz.underlying3 h3
  have ht:t.length+1=Rows.uptoBulk d1:=ht
  simp only [Rows.uptoBulkAll] at hb
  exact ⟨⟨k,t,l,c⟩,rfl,by show t.length+1<=_;omega⟩
theorem Vp:Tryz.prog.cellsOf 51=4:=EQ
theorem Zu {d:DataW H} (h:dec Tryz.prog n 22 d=some vs):∃l:List Tk,vs=[.slice 4 (A5 l) .any]/\(l.map λt=>t.text.length+1).sum+1<=Rows.uptoBulk d:=by
 obtain ⟨m,es,ds,rfl,rfl,U,hb⟩:=Qr Tryz.underlying22 h
 obtain ⟨l,rfl,hs⟩:=Oz (f:=Tk.cells) (w:=λt=>t.text.length+1) (λd vs h=>cP d vs h) U
 exact ⟨l,by rw [Vp];rfl,AC⟩
end
end Go.Proofs.Z
namespace Go.Aw
open Go Go.ChangeShapes
theorem dz {s:ChangeSpec} {c:OpenClaim}
 (a1:(c.wf (OpenSpec.ofChange s)&&laidOutB P&&mapsRowed P&&fn.params.all (P.readableRec ·)&&namedTie P c.named s.vars&&(c.stops==[])&&(P.stops==[])&&(c.knobs==[])&&(P.stopKnobs==[]))=true)
 (a2:(c.inPlace==P.inPlace f)=true) (a3:(c.unfollowed==P.unfollowed f)=true) (a4:(c.recurses==P.recurses f)=true) (a5:(c.named==P.varsNamed f)=true)
 (a6:((c.maps==(fn.params.toList++s.plain.varTypes P).any (P.mapsRec ·))&&(c.ifaces==(fn.params.toList++s.plain.varTypes P).any (P.ifacesRec ·))&&(c.mapsOut==P.mapsAmong fn.resultTypes.toList)&&(c.loops==(fn.params.toList++s.plain.varTypes P).any (P.loopsFrom ·))&&(c.wideKeys==(fn.params.toList++s.plain.varTypes P++fn.resultTypes.toList).any (P.wideKeysFrom ·))&&s.vars.all (P.varReadable ·)&&fn.resultTypes.all (λt=>P.readableRec t&&decide (t<P.types.size))&&(c.ifacesOut==fn.resultTypes.toList.any (P.ifacesRec ·))&&(c.loopsOut==fn.resultTypes.toList.any (P.loopsFrom ·))&&(c.plainKeys==P.plainKeys)&&c.shortTexts.isNone)=true)
 (a7:P.stopsHeard=true) (a8:P.mayEnter=true) (a9:(c.lifted==P.liftsFinal)=true) (a10:(P.make==some c.make)=true)
 (U:((c.kinds==(if c.domain.isEmpty then [] else fn.params.toList.map λt=>match P.underlying t with|some (.int k)=>some k|_=>none))&&(c.pinned==c.pinnedBy)&&(c.veiled==(fn.params.toList++s.plain.varTypes P++fn.resultTypes.toList).any (P.veiledRec ·))&&c.veiledFits P fn.params.toList (fn.params.toList++s.plain.varTypes P++fn.resultTypes.toList))=true):
 joinedFacts P f fn s c=true:=by
 unfold joinedFacts
 simp only [Bool.and_eq_true] at a1 a6 U |-
 obtain ⟨⟨⟨⟨⟨⟨⟨⟨b1,b2⟩,b3⟩,b4⟩,b5⟩,b6⟩,b7⟩,b8⟩,b9⟩:=a1
 obtain ⟨⟨⟨⟨⟨⟨⟨⟨⟨⟨d1,d2⟩,d3⟩,d4⟩,d5⟩,d6⟩,d7⟩,d8⟩,d9⟩,d10⟩,d11⟩:=a6
 obtain ⟨⟨⟨g1,g2⟩,g3⟩,g4⟩:=U
 exact ⟨⟨⟨⟨⟨⟨⟨⟨⟨⟨⟨⟨⟨⟨⟨⟨⟨⟨⟨⟨⟨⟨⟨⟨⟨⟨⟨⟨⟨⟨⟨b1,b2⟩,b3⟩,b4⟩,b5⟩,b6⟩,b7⟩,b8⟩,b9⟩,a2⟩,a3⟩,a4⟩,a5⟩,d1⟩,d2⟩,d3⟩,d4⟩,d5⟩,d6⟩,d7⟩,d8⟩,d9⟩,d10⟩,d11⟩,a7⟩,a8⟩,a9⟩,a10⟩,g1⟩,g2⟩,g3⟩,g4⟩
theorem ZP {c:OpenClaim} (h:P.funcs.toList.all (λf=> !f.goes)=true) (hs:c.start=.entering):false=c.goesBy P:=by
 have hall:∀f ∈ P.funcs,Func.goes f=false:=by
  intro f hf
  have:=List.all_eq_true.1 h f (by simpa using hf)
  simpa using this
 have hp:∀g,P.goes g=false:=by
  intro g
  unfold Program.goes
  have h1:((P.closure g).any λg=>(P.funcs[g]?).any Func.goes)=false:=by
   rw [Bool.eq_false_iff]
   intro hc
   obtain ⟨x, -,U⟩:=List.any_eq_true.1 hc
   cases hq:P.funcs[x]? with
   |none=>rw [hq] at U;simp at U
   |some f=>rw [hq] at U;simp only [Option.any_some] at U;rw [hall f (Array.mem_of_getElem? hq)] at U;cases U
  have h2:P.funcs.any Func.goes=false:=by
   rw [Bool.eq_false_iff]
   intro hc
   obtain ⟨i,hi,U⟩:=Array.any_eq_true.1 hc
   rw [hall _ (Array.getElem_mem hi)] at U;cases U
  rw [h1,h2];simp
 unfold OpenClaim.goesBy Program.goesAt Program.goesFrom
 rw [hs]
 cases hq:P.funcNamed c.func<;>simp [hp]
end Go.Aw
namespace Go.Proofs.Z
open Go Go.Aw Go.ChangeShapes Go.WideShapes Go.ChangeAt Go.RowKit
set_option maxRecDepth 100000
theorem ZK:Tryz.prog.stopsHeard=true:=EQ
theorem ZJ:Tryz.prog.mayEnter=true:=EQ
theorem ZL:(false==Tryz.prog.liftsFinal)=true:=EQ
theorem dE:(Tryz.prog.make==some .cut)=true:=EQ
theorem dC:Tryz.prog.funcs.toList.all (λf=> !f.goes)=true:=EQ
theorem OQ:laidOutB Tryz.prog=true:=EQ
theorem OR:mapsRowed Tryz.prog=true:=EQ
theorem dB:((List.range Tryz.prog.types.size).all λt=>match Tryz.prog.underlying t with|some (.slice e)=>decide (0<Tryz.prog.cellsOf e)|_=>true)=true:=EQ
end Go.Proofs.Z
namespace Go.Proofs.Z
open Go Go.Aw
def GI (s:Af):Int:=(s.Ca.getLast?).getD 0
theorem UL {s:Af} (h:¬(s.Ca.length:Int)>0):GI s=0:=by
 have:s.Ca=[]:=List.length_eq_zero_iff.1 AC
 simp [GI,this]
theorem QX {s:Af} {x:Int} (h:s.Ca[((s.Ca.length:Int) - 1).toNat]? =some x):GI s=x:=by
 have e:((s.Ca.length:Int) - 1).toNat=s.Ca.length - 1:=AC
 rw [e] at h
 simp [GI,List.getLast?_eq_getElem?,h]
section
variable {st:St} {R:Ay->St->Prop}
theorem Ng {s:Af} (h:R (.ret (.int .i64 (GI s))) st):PC 274 [Bn s] st R:=by
 refine pB Tryz.func274 ?_
 repeat' ((conv=>whnf);first|(refine Bg ?_;intros)|(refine Bh ?_ ?_<;>intro _)|fail)
 .exact fin h (by rw [QX ‹_›])
 .exact fin h (by rw [UL AC])
def LZ (k:Int) (t:Tk):Tk:=⟨k,[],t.line,t.Cj⟩
theorem Ni {k:Int} {t:Tk} (h:R (.ret (Ei (LZ k t))) st):PC 338 [.int .i64 k,Ei t] st R:=by
 refine pB Tryz.func338 ?_
 repeat' ((conv=>whnf);first|(refine Bg ?_;intros)|(refine Bh ?_ ?_<;>intro _)|fail)
 all_goals exact fin h rfl
attribute [local irreducible] Go.Aw.Ag
theorem XN {own:AB} (hb:l.length<=1000000000) (h:∀U:AB,U.BG st->R (.ret (.slice 1 (ints l) U)) (U.st st l.length)):PC 337 [.slice 1 (ints l) own] st R:=by
 refine pB Tryz.func337 ?_
 repeat' ((conv=>whnf);first|(refine Bg ?_;intros)|(refine Bh ?_ ?_<;>intro _)|refine GM (λ_=>?_) ?_|fail)
 .have:l=[]:=by simpa [ints] using ‹ints l=[]›
  subst this
  exact fin (h .full trivial) rfl
 .exact Hv (l:=[]) (own:=.full) trivial ke λU ho=>fin (h U ho) rfl
theorem iH {l':List Int} {own:AB} (e:l'=l) (hb:l.length<=1000000000) (h:∀U:AB,U.BG st->R (.ret (.slice 1 (ints l) U)) (U.st st l.length)):PC 337 [.slice 1 (ints l') own] st R:=e ▸ XN hb h
def JH (s:Af) (c:Int):Af:={s with Ca:=s.Ca++[c]}
theorem T6 {s:Af} {c:Int} (hb:s.Ca.length<=500000000) (h:R (.ret (Bn (JH s c))) st):PC 339 [Bn s,.int .i64 c] st R:=by
 refine pB Tryz.func339 ?_
 have U:s.Ca.length+[c].length<=1000000000:=by simp only [List.length_singleton];omega
 repeat' ((conv=>whnf);first|(refine Bg ?_;intros)|(refine Bh ?_ ?_<;>intro _)|refine XN AC (λown ho=>?_)|refine Hv (new:=[c]) ho U (λown' ho'=>?_))
 all_goals exact DH (AB.Bu ho') rfl h
def DV (s:Af):Af:={s with Ca:=s.Ca.dropLast}
theorem KW {s:Af} (h0:s.Ca≠[]) (hb:s.Ca.length<=500000000) (h:R (.ret (Bn (DV s))) st):PC 275 [Bn s] st R:=by
 refine pB Tryz.func275 ?_
 have hl:0<s.Ca.length:=List.length_pos_iff.2 h0
 have hd:(s.Ca.take (((s.Ca.length:Int) - 1).toNat)).drop (0:Int).toNat=s.Ca.dropLast:=by
  rw [show (0:Int).toNat=0 from rfl,List.drop_zero,List.dropLast_eq_take]
  congr 1
  omega
 have U:s.Ca.dropLast.length<=1000000000:=by rw [List.length_dropLast];omega
 repeat' ((conv=>whnf);first|(refine Bg ?_;intros)|(refine Bh ?_ ?_<;>intro _)|refine iH hd U (λown ho=>?_))
 all_goals exact DH (AB.Bu ho) rfl h
end
theorem Tb {l:List α} {x:α} (h:l[k]? =some x):l.drop k=x::l.drop (k+1):=by
 obtain ⟨U,h2⟩:=List.getElem?_eq_some_iff.1 h
 rw [<-h2,List.drop_eq_getElem_cons U]
section
variable {st:St} {R:Ay->St->Prop}
attribute [local irreducible] Go.Aw.Ag
def MU (p:Int->Bool):List Int->Int->Int
 |[],_=> -1
 |y::r,i=>if p y then i else MU p r (i+1)
theorem TD {p:Int->Bool}:∀{l:List Int} {i:Int},0<=i->(0<=MU p l i↔l.any p=true)
 |[],i,h=>by simp [MU]
 |y::r,i,h=>by
  simp only [MU,List.any_cons]
  split
  .simp_all
  .rename_i e
   rw [TD AC]
   simp [e]
theorem TE {p:Int->Bool} {own:AB} (U:∀x (st:St) (R:Ay->St->Prop),R (.ret (.bool (p x))) st->PC f [.int .i64 x] st R) (h:R (.ret (.int .i64 (MU p l 0))) st):
 PC 386 [.slice 1 (ints l) own,.func f [] []] st R:=by
 refine pB Tryz.func386 ?_
 repeat' ((conv=>whnf);first|(refine Bg ?_;intros)|(refine Bh ?_ ?_<;>intro _)|fail)
 refine Mj 8 [7,0,1] l.length (λk=>k<=l.length/\(MU p l 0=MU p (l.drop k) k)) ⟨Nat.zero_le _,rfl⟩ Yl ?_
 rintro k ⟨hk,hi⟩
 repeat' ((conv=>whnf);first|(refine Bg ?_;intros)|(refine Bh ?_ ?_<;>intro _)|refine U _ _ _ ?_)
 all_goals conv=>whnf
 all_goals try (have e:=Tb ‹l[Int.toNat k]? =some _›;rw [Int.toNat_natCast] at e;rw [e,MU] at hi;clear e)
 all_goals first
  |(refine ⟨k+1,⟨AC,?_⟩,AC,Yl,St.le_refl _⟩;clear h;simp_all)
  |(refine fin h ?_;clear h;simp_all;done)
  |(refine fin h ?_;rw [hi,List.drop_eq_nil_of_le AC];rfl)
theorem Ow {p:Int->Bool} {own:AB} (hf:∀x (st:St) (R:Ay->St->Prop),R (.ret (.bool (p x))) st->PC f [.int .i64 x] st R) (h:R (.ret (.bool (l.any p))) st):
 PC 335 [.slice 1 (ints l) own,.func f [] []] st R:=by
 refine pB Tryz.func335 ?_
 refine TE hf ?_
 have key:=TD (p:=p) (l:=l) (i:=0) AC
 refine Wh (λU=>?_) (λU=>?_)
 .exact Ao h (key.1 U)
 .refine Ao h ?_
  simp_all
theorem nK (x:Int) (st:St) (R:Ay->St->Prop) (h:R (.ret (.bool (decide (x<0)))) st):PC 336 [.int .i64 x] st R:=by
 refine pB Tryz.func336 ?_
 repeat' ((conv=>whnf);first|(refine Bg ?_;intros)|(refine Bh ?_ ?_<;>intro _)|fail)
 all_goals exact Ao h ke
def IJ (s:Af):Bool:=
 decide (0<=s.pos)&&decide (s.pos<=s.AD.length)&&decide (0<=s.wait)&&decide (s.wait<=2)&&
 (decide (s.wait<=0)||(match s.AD[s.pos.toNat]? with|some t=>t.kind==16|none=>false))&& !(s.Ca.any λx=>decide (x<0))
theorem TR {s:Af} (h:R (.ret (.bool (IJ s))) st):PC 273 [Bn s] st R:=by
 refine pB Tryz.func273 ?_
 repeat' ((conv=>whnf);first|(refine Bg ?_;intros)|(refine Bh ?_ ?_<;>intro _)|refine Ow (λx st R h=>nK x st R h) ?_)
 all_goals conv=>whnf
 all_goals refine Ao h ?_
 all_goals clear h
 all_goals unfold IJ
 all_goals first
  |(rw [show decide (0<=s.pos)=false from decide_eq_false AC];simp only [Bool.false_and];done)
  |(rw [show decide (s.pos<=s.AD.length)=false from decide_eq_false AC];simp only [Bool.false_and,Bool.and_false];done)
  |(rw [show decide (0<=s.wait)=false from decide_eq_false AC];simp only [Bool.false_and,Bool.and_false];done)
  |(rw [show decide (s.wait<=2)=false from decide_eq_false AC];simp only [Bool.false_and,Bool.and_false];done)
  |(have hn:s.AD[s.pos.toNat]? =none:=List.getElem?_eq_none AC
    rw [hn,show decide (s.wait<=0)=false from decide_eq_false AC];simp only [Bool.false_and,Bool.and_false,Bool.or_false];done)
  |(rw [show decide (0<=s.pos)=true from decide_eq_true AC,show decide (s.pos<=s.AD.length)=true from decide_eq_true AC,show decide (0<=s.wait)=true from decide_eq_true AC,show decide (s.wait<=2)=true from decide_eq_true AC]
    first
     |(rw [show decide (s.wait<=0)=true from decide_eq_true AC];simp_all;done)
     |(rw [show decide (s.wait<=0)=false from decide_eq_false AC];simp_all;done))
 all_goals trace_state
def Fj (t:Tk) (s:Af):Tk×Af:=
 if s.wait=1 then (LZ 20 t,{s with wait:=2})
 else if GI s<t.Cj then (LZ 18 t,{JH s t.Cj with pos:=s.pos+1})
 else (LZ 18 t,{s with wait:=1})
def lP (p:Tk×Af):V:=.Bq [Ei p.1,Bn p.2]
theorem iy {t:Tk} {s:Af} (U:0<=s.pos/\s.pos<=4611686018427387904) (hb:s.Ca.length<=500000000) (h:R (.ret (lP (Fj t s))) st):PC 276 [Ei t,Bn s] st R:=by
 refine pB Tryz.func276 ?_
 repeat' ((conv=>whnf);first|exact Cr|(refine Bg ?_;intros)|(refine Cs ?_ ?_ ?_;rotate_left)|(refine Bh ?_ ?_<;>intro _)|refine Ni (t:=t) ?_|refine Ng (s:=s) ?_|refine T6 (s:=s) hb ?_|refine Wq (a:=s.pos+1) AC AC ?_|refine Ac [(0,true),(2,true),(1,false),(3,false),(4,false)] [2,3] GE ?_|refine Ac [(0,true),(1,true),(2,true),(3,false),(4,true),(5,true)] [] GE ?_|refine Ac [(0,true),(2,true),(1,false),(3,false),(4,false)] [2,3] GE ?_|with_reducible refine WF ?_)
 all_goals unfold Fj at h
 .rw [if_pos AC] at h;exact Be rfl h
 .rw [if_neg AC,if_pos AC] at h;exact Be rfl h
 .rw [if_neg AC,if_neg AC] at h;exact Be rfl h
def CO (t:Tk) (s:Af):Tk×Af:=
 if 0<GI s/\t.Cj<GI s then (LZ 20 t,DV s)
 else if 0<GI s/\t.Cj=GI s then (LZ 19 t,{s with pos:=s.pos+1,wait:=0})
 else (gx,{s with pos:=s.pos+1,wait:=0})
theorem MB {s:Af} (h:0<GI s):s.Ca≠[]:=λe=>by simp [GI,e] at h
theorem nD {t:Tk} {s:Af} (U:0<=s.pos/\s.pos<=4611686018427387904) (hb:s.Ca.length<=500000000) (h:R (.ret (lP (CO t s))) st):PC 277 [Ei t,Bn s] st R:=by
 refine pB Tryz.func277 ?_
 repeat' ((conv=>whnf);first|exact Cr|(refine Bg ?_;intros)|(refine Cs ?_ ?_ ?_;rotate_left)|(refine Bh ?_ ?_<;>intro _)|refine Ni (t:=t) ?_|refine Ng (s:=s) ?_|refine KW (s:=s) (MB AC) hb ?_|refine Wq (a:=s.pos+1) AC AC ?_|refine Ac [(0,true),(2,true),(1,false),(3,false),(4,false),(5,false)] [2,3] GE ?_|refine Ac [(0,true),(2,true),(1,false),(3,false),(4,false)] [2,3] GE ?_|refine Ac [(0,true),(1,true),(2,false),(3,false)] [2,3] GE ?_|with_reducible refine WF ?_)
 all_goals unfold CO at h
 all_goals first
  |(rw [if_pos ⟨AC,AC⟩] at h;exact Be rfl h)
  |(rw [if_neg AC,if_pos ⟨AC,AC⟩] at h;exact Be rfl h)
  |(rw [if_neg AC,if_neg AC] at h;exact Be rfl h)
 all_goals trace_state
def ET (t:Tk) (s:Af):Tk×Af×Int:=
 if t.kind=15/\t.text=[123] then (t,{JH s 0 with pos:=s.pos+1},0)
 else if t.kind=15/\t.text=[125] then
  if s.Ca=[]\/GI s≠0 then (gx,s,90) else (t,{DV s with pos:=s.pos+1},0)
 else (t,{s with pos:=s.pos+1},0)
def RD (p:Tk×Af×Int):V:=.Bq [Ei p.1,Bn p.2.1,.int .i64 p.2.2]
theorem DY (h:¬l.length=Int.toNat 0):l≠[]:=λe=>h (by grind)
theorem Sf (h:l.length=Int.toNat 0):l=[]:=List.length_eq_zero_iff.1 AC
theorem iD {t:Tk} {s:Af} (U:0<=s.pos/\s.pos<=4611686018427387904) (hb:s.Ca.length<=500000000) (h:R (.ret (RD (ET t s))) st):PC 278 [Ei t,Bn s] st R:=by
 refine pB Tryz.func278 ?_
 repeat' ((conv=>whnf);first|exact Cr|(refine Bg ?_;intros)|(refine Cs ?_ ?_ ?_;rotate_left)|(refine Bh ?_ ?_<;>intro _)|refine Ng (s:=s) ?_|refine T6 (s:=s) hb ?_|refine KW (s:=s) (DY ‹_›) hb ?_|refine Wq (a:=s.pos+1) AC AC ?_|refine Ac [(0,true),(1,true),(2,false),(3,false),(4,true)] [2,3] GE ?_|refine Ac [(0,true),(1,true),(2,false),(3,false),(4,true)] [2,3] GE ?_|with_reducible refine WF ?_)
 all_goals unfold ET at h
 all_goals first
  |(rw [if_pos ⟨FS,FS⟩] at h;exact Be rfl h)
  |(rw [if_neg (λe=>absurd e.2 ‹_›),if_pos ⟨FS,FS⟩,if_pos (.inl (Sf ‹_›))] at h;exact Be rfl h)
  |(rw [if_neg (λe=>absurd e.2 ‹_›),if_pos ⟨FS,FS⟩,if_pos (.inr ‹_›)] at h;exact Be rfl h)
  |(rw [if_neg (λe=>absurd e.2 ‹_›),if_pos ⟨FS,FS⟩,if_neg (λe=>e.elim (DY ‹_›) (λe=>e ‹_›))] at h;exact Be rfl h)
  |(rw [if_neg (λe=>absurd e.1 ‹_›),if_neg (λe=>absurd e.1 ‹_›)] at h;exact Be rfl h)
  |(rw [if_neg (λe=>absurd e.2 ‹_›),if_neg (λe=>absurd e.2 ‹_›)] at h;exact Be rfl h)
 all_goals trace_state
def EW (s:Af):Tk×Af×Int:=
 if s.Ca=[] then (⟨21,[],0,0⟩,s,0) else if 0<GI s then (⟨20,[],0,0⟩,DV s,0) else (gx,s,90)
theorem mV {s:Af} (hb:s.Ca.length<=500000000) (h:R (.ret (RD (EW s))) st):PC 279 [Bn s] st R:=by
 refine pB Tryz.func279 ?_
 repeat' ((conv=>whnf);first|exact Cr|(refine Bg ?_;intros)|(refine Cs ?_ ?_ ?_;rotate_left)|(refine Bh ?_ ?_<;>intro _)|refine Ng (s:=s) ?_|refine KW (s:=s) (DY ‹_›) hb ?_|refine Ac [(0,true),(1,true),(2,false),(3,false),(4,true)] [1,2] GE ?_|refine Ac [(0,true),(1,true),(2,false),(3,false),(4,true)] [1,2] GE ?_|with_reducible refine WF ?_)
 all_goals unfold EW at h
 all_goals first
  |(rw [if_pos (Sf ‹_›)] at h;exact Be rfl h)
  |(rw [if_neg (DY ‹_›),if_pos ‹_›] at h;exact Be rfl h)
  |(rw [if_neg (DY ‹_›),if_neg ‹_›] at h;exact Be rfl h)
 all_goals trace_state
end
end Go.Proofs.Z
namespace Go.Aw
noncomputable def Env.pY (env:Env) (ch:List (Nat×V)) (keep:List Nat) (U:List (Nat×List V)) (kb:List Nat):Env:=match env with
 |⟨ts,bs,n,sz,gl⟩=>⟨Env.ts ⟨ts,bs,n,sz,gl⟩ ch keep,U++Env.bx ⟨ts,bs,n,sz,gl⟩ kb,n,sz,gl⟩
theorem Mi {st:St} (f:α->List (Nat×V)) (keep:List Nat) (g:α->List (Nat×List V)) (kb:List Nat) (S:α->St) (J:α->Prop) (U:α->Nat) (x0:α) (h0:J x0)
 (he:(env.pY (f x0) keep (g x0) kb).Ep env) (hs:St.le (S x0) st)
 (hb:∀x,J x->ih (BL (λenv' st'=>∃y,J y/\U y<U x/\(env.pY (f y) keep (g y) kb).Ep env'/\St.le (S y) st') Q) (env.pY (f x) keep (g x) kb) (S x)):
 ∃(α:Type) (E:α->Env) (S:α->St) (J:α->Prop) (U:α->Nat) (x0:α),J x0/\(E x0).Ep env/\St.le (S x0) st/\
  ∀x,J x->ih (BL (λenv' st'=>∃y,J y/\U y<U x/\(E y).Ep env'/\St.le (S y) st') Q) (E x) (S x):=
 ⟨α,λk=>env.pY (f k) keep (g k) kb,S,J,U,x0,h0,he,hs,hb⟩
theorem Uo {T:List (Nat×Ty)} {C:FuncId->List V->St->(Ay->St->Prop)->Prop} {w:CW} {U:Nat->Option CW} {st:St}
 (h:w (Ya (λl env' st'=>∃y:Nat,y=l/\False/\env.Ep env'/\St.le st st') Q) env st):N3 w U Q env st:=
 ⟨Nat,λy=>y,λ_=>env,λ_=>st,λ_=>False,λ_=>0,h,λx e=>e.elim⟩
end Go.Aw
namespace Go.Proofs.Z
open Go Go.Aw
def Ec:Nat->Af->Tk×Af×Int
 |0,s=>EW s
 |n+1,s=>match s.AD[s.pos.toNat]? with
  |none=>EW s
  |some t=>if t.kind=16/\s.wait<2 then ((Fj t s).1,(Fj t s).2,0)
   else if t.kind=16\/t.kind=17 then
    if (CO t s).1.kind=0 then Ec n (CO t s).2 else ((CO t s).1,(CO t s).2,0)
   else ET t s
def GD (s:Af):Tk×Af×Int:=Ec (s.AD.length - s.pos.toNat) s
def Ab (s:Af):Tk×Af×Int:=if IJ s then GD s else (gx,Ew,1)
theorem EG {t:Tk} {s:Af} (h:(CO t s).1.kind=0):(CO t s).2={s with pos:=s.pos+1,wait:=0}:=by
 unfold CO at h |-
 split
 .rename_i e;rw [if_pos e] at h;exact absurd h (by simp [LZ])
 grind
theorem QH {s:Af} (h:¬s.pos<s.AD.length) (U:0<=s.pos):GD s=EW s:=by
 have:s.AD.length - s.pos.toNat=0:=AC
 rw [GD,this,Ec]
theorem FO {s:Af} {t:Tk} (h:s.AD[s.pos.toNat]? =some t) (h0:0<=s.pos):GD s=if t.kind=16/\s.wait<2 then ((Fj t s).1,(Fj t s).2,0)
 else if t.kind=16\/t.kind=17 then
  if (CO t s).1.kind=0 then GD (CO t s).2 else ((CO t s).1,(CO t s).2,0)
 else ET t s:=by
 obtain ⟨U,_⟩:=List.getElem?_eq_some_iff.1 h
 obtain ⟨n,hn⟩:∃n,s.AD.length - s.pos.toNat=n+1:=⟨s.AD.length - s.pos.toNat - 1,AC⟩
 rw [GD,hn,Ec,h]
 dsimp only
 split
 .rfl
 .split
  .split
   .rename_i e
    rw [GD,EG e]
    grind
   .rfl
  .rfl
section
variable {st:St} {R:Ay->St->Prop}
attribute [local irreducible] Go.Aw.Ag
theorem kf {s:Af} (hb:s.Ca.length<=500000000) (h:R (.ret (RD (Ab s))) st):PC 209 [Bn s] st R:=by
 refine pB Tryz.func209 ?_
 conv=>whnf
 refine Uo (T:=oI) (C:=A3 Tryz.prog) ?_
 unfold Ab at h
 repeat' ((conv=>whnf);first|exact Cr|(refine Bg ?_;intros)|(refine Cs ?_ ?_ ?_;rotate_left)|(refine Bh ?_ ?_<;>intro _)|refine TR (s:=s) ?_|refine Ac [(0,true),(1,true),(2,false),(3,false),(4,true)] [1,2] GE ?_|refine Ac [(0,true),(1,true),(2,false),(3,false),(4,true)] [1,2] GE ?_|with_reducible refine WF ?_)
 .rename_i e
  rw [e] at h
  have hm:=e
  unfold IJ at hm
  simp only [Bool.and_eq_true,decide_eq_true_eq] at hm
  refine Mi (α:=Af) (λx=>[]) [1,2,3,4] (λx=>[(0,x.cells)]) [1,2] (λ_=>st) (λx=>x.AD=s.AD/\x.Ca=s.Ca/\0<=x.pos/\x.pos<=x.AD.length/\GD x=GD s) (λx=>x.AD.length - x.pos.toNat) s ⟨rfl,rfl,AC,AC,rfl⟩ Yl (St.le_refl _) ?_
  rintro x ⟨x1,x2,x3,x4,x5⟩
  rw [<-x5] at h
  have U:x.Ca.length<=500000000:=by rw [x2];exact hb
  repeat' ((conv=>whnf);first|exact Cr|(refine Bg ?_;intros)|(refine Cs ?_ ?_ ?_;rotate_left)|(refine Bh ?_ ?_<;>intro _)|refine iy (s:=x) ⟨AC,AC⟩ U ?_|refine nD (s:=x) ⟨AC,AC⟩ U ?_|refine iD (s:=x) ⟨AC,AC⟩ U ?_|refine mV (s:=x) U ?_|refine Ac [(0,true),(1,true),(2,false),(3,false),(4,true)] [1,2] GE ?_|refine Ac [(0,true),(1,true),(2,false),(3,false),(4,true)] [1,2] GE ?_|with_reducible refine WF ?_)
  all_goals rw [if_pos rfl] at h
  all_goals first
   |(rw [FO ‹_› x3,if_pos AC] at h;exact Be rfl h)
   |(rw [FO ‹_› x3,if_neg AC,if_pos AC,if_neg AC] at h;exact Be rfl h)
   |(rw [FO ‹_› x3,if_neg AC,if_neg AC] at h;exact Be rfl h)
   |(rw [QH AC x3] at h;exact Be rfl h)
   |(have hz:(CO ‹Tk› x).1.kind=0:=by assumption
     refine ⟨(CO ‹Tk› x).2,?_,?_,Yl,St.le_refl _⟩
     .rw [EG hz]
      refine ⟨x1,x2,by show 0<=x.pos+1;omega,by show x.pos+1<=x.AD.length;omega,?_⟩
      rw [<-x5,FO (s:=x) ‹_› x3,if_neg AC,if_pos AC,if_pos hz,EG hz]
     .rw [EG hz]
      show x.AD.length - (x.pos+1).toNat<_
      omega)
  all_goals trace_state
 .rename_i e
  rw [e] at h
  exact Be rfl h
end
section
variable {st:St} {R:Ay->St->Prop}
attribute [local irreducible] Go.Aw.Ag
theorem od {s:Af} (h:R (.ret (.int .i64 (GI s))) st):PC 145 [Bn s] st R:=by
 refine pB Tryz.func145 ?_
 repeat' ((conv=>whnf);first|(refine Bg ?_;intros)|(refine Bh ?_ ?_<;>intro _)|fail)
 .rename_i e
  exact fin h (by rw [UL AC])
 .exact fin h (by rw [QX ‹_›])
theorem p6 {k:Int} {t:Tk} (h:R (.ret (Ei (LZ k t))) st):PC 147 [.int .i64 k,Ei t] st R:=by
 refine pB Tryz.func147 ?_
 repeat' ((conv=>whnf);first|(refine Bg ?_;intros)|(refine Bh ?_ ?_<;>intro _)|fail)
 all_goals exact fin h rfl
theorem nU {s:Af} {c:Int} (hb:s.Ca.length<=500000000) (h:R (.ret (Bn (JH s c))) st):PC 146 [Bn s,.int .i64 c] st R:=by
 refine pB Tryz.func146 ?_
 have U:([]:List Int).length+s.Ca.length<=1000000000:=by simp only [List.length_nil];omega
 have hb2:s.Ca.length+[c].length<=1000000000:=by simp only [List.length_singleton];omega
 repeat' ((conv=>whnf);first|(refine Bg ?_;intros)|(refine Bh ?_ ?_<;>intro _)|refine GM (λ_=>?_) ?_|refine Hv (l:=[]) (own:=.full) trivial U (λown ho=>?_)|refine Hv (l:=[]++s.Ca) (new:=[c]) ho hb2 (λown' ho'=>?_))
 all_goals exact DH (AB.Bu ho') rfl h
theorem l7 {s:Af} (h0:s.Ca≠[]) (hb:s.Ca.length<=500000000) (h:R (.ret (Bn (DV s))) st):PC 148 [Bn s] st R:=by
 refine pB Tryz.func148 ?_
 have hl:0<s.Ca.length:=List.length_pos_iff.2 h0
 have hd:(s.Ca.take (((s.Ca.length:Int) - 1).toNat)).drop (0:Int).toNat=s.Ca.dropLast:=by
  rw [show (0:Int).toNat=0 from rfl,List.drop_zero,List.dropLast_eq_take]
  congr 1
  omega
 have U:([]:List Int).length+s.Ca.dropLast.length<=1000000000:=by rw [List.length_dropLast,List.length_nil];omega
 repeat' ((conv=>whnf);first|(refine Bg ?_;intros)|(refine Bh ?_ ?_<;>intro _)|refine GM (λ_=>?_) ?_|refine Vg hd (l:=[]) (own:=.full) trivial U (λown ho=>?_))
 all_goals exact DH (AB.Bu ho) rfl h
def aa (l:List Int):Bool:=l.any λx=>decide (x<0)
theorem ab {x:Int} {r:List Int}:aa (x::r)=(decide (x<0)||aa r):=rfl
theorem kx {s:Af} (h:R (.ret (.bool (IJ s))) st):PC 144 [Bn s] st R:=by
 refine pB Tryz.func144 ?_
 have U:(s.pos<0\/(s.AD.length:Int)<s.pos\/s.wait<0\/2<s.wait\/0<s.wait/\(s.pos=s.AD.length\/∃t,s.AD[s.pos.toNat]? =some t/\¬t.kind=16))->IJ s=false:=by
  intro e
  unfold IJ
  rcases e with e|e|e|e|⟨e1,e|⟨t,e2,e3⟩⟩
  .rw [show decide (0<=s.pos)=false from decide_eq_false AC];simp only [Bool.false_and]
  .rw [show decide (s.pos<=s.AD.length)=false from decide_eq_false AC];simp only [Bool.false_and,Bool.and_false]
  .rw [show decide (0<=s.wait)=false from decide_eq_false AC];simp only [Bool.false_and,Bool.and_false]
  .rw [show decide (s.wait<=2)=false from decide_eq_false AC];simp only [Bool.false_and,Bool.and_false]
  .have hn:s.AD[s.pos.toNat]? =none:=List.getElem?_eq_none AC
   rw [hn,show decide (s.wait<=0)=false from decide_eq_false AC];simp only [Bool.false_and,Bool.and_false,Bool.or_false]
  .rw [e2,show decide (s.wait<=0)=false from decide_eq_false AC];simp [e3]
 have BG:¬s.pos<0->¬(s.AD.length:Int)<s.pos->¬s.wait<0->¬2<s.wait->(¬0<s.wait\/∃t,s.AD[s.pos.toNat]? =some t/\t.kind=16)->IJ s= !aa s.Ca:=by
  intro a b c d e
  unfold IJ aa
  rw [show decide (0<=s.pos)=true from decide_eq_true AC,show decide (s.pos<=s.AD.length)=true from decide_eq_true AC,show decide (0<=s.wait)=true from decide_eq_true AC,show decide (s.wait<=2)=true from decide_eq_true AC]
  rcases e with e|⟨t,e1,e2⟩
  .rw [show decide (s.wait<=0)=true from decide_eq_true AC];simp only [Bool.true_and,Bool.true_or]
  .rw [e1];simp [e2]
 repeat' ((conv=>whnf);first|(refine Bg ?_;intros)|(refine Bh ?_ ?_<;>intro _)|fail)
 all_goals conv=>whnf
 all_goals try (refine Ao h (U ?_))
 all_goals try omega
 all_goals try (exact .inr (.inr (.inr (.inr ⟨FS,.inr ⟨_,FS,FS⟩⟩))))
 all_goals try (refine Lm 3 [1] [0] s.Ca.length (λk=>k<=s.Ca.length/\aa s.Ca=aa (s.Ca.drop k)) ⟨Nat.zero_le _,rfl⟩ Yl ?_;rintro k ⟨hk,hi⟩)
 all_goals have hm:=BG ‹_› ‹_› ‹_› ‹_› (by first|exact .inl ‹_›|exact .inr ⟨_,FS,FS⟩)
 all_goals rw [hm] at h
 repeat' ((conv=>whnf);first|(refine Bg ?_;intros)|(refine Bh ?_ ?_<;>intro _)|fail)
 all_goals conv=>whnf
 all_goals try (have e:=Tb ‹s.Ca[Int.toNat k]? =some _›;rw [Int.toNat_natCast] at e;rw [e,ab] at hi;clear e)
 all_goals first
  |(refine ⟨k+1,⟨AC,?_⟩,AC,Yl,St.le_refl _⟩;clear h;simp_all;done)
  |(refine Ao h ?_;rw [hi];clear h;simp_all;done)
  |(refine Ao h ?_;rw [hi,show decide (_<0)=true from decide_eq_true ‹_›];rfl)
  |(refine Ao h ?_;rw [hi,List.drop_eq_nil_of_le AC];rfl)
 all_goals trace_state
end
theorem UM {s:Af} (h:(s.Ca.any λx=>decide (x<0))=false):0<=GI s:=by
 unfold GI
 cases U:s.Ca.getLast? with
 |none=>exact Int.le_refl _
 |some x=>
  have hx:=List.mem_of_getLast? U
  simp only [List.any_eq_false,decide_eq_true_eq] at h
  have:=h x hx
  show 0<=x
  omega
section
variable {st:St} {R:Ay->St->Prop}
attribute [local irreducible] Go.Aw.Ag
theorem LH {s:Af} (hb:s.Ca.length<=500000000) (h:R (.ret (RD (Ab s))) st):PC 76 [Bn s] st R:=by
 refine pB Tryz.func76 ?_
 unfold Ab at h
 repeat' ((conv=>whnf);first|exact Cr|(refine Bg ?_;intros)|(refine Cs ?_ ?_ ?_;rotate_left)|(refine Bh ?_ ?_<;>intro _)|refine kx (s:=s) ?_|refine Ac [(0,true),(1,true),(2,true),(3,false),(4,true)] [] GE ?_|refine Ac [(0,true),(2,true),(1,false),(3,false),(4,false),(5,true)] [1,2] GE ?_|refine Ac [(0,true),(2,true),(1,false),(3,false),(4,false),(5,true)] [1,2] GE ?_|refine Ac [(0,true),(2,true),(1,false),(3,false),(4,false),(5,false),(6,true)] [1,2] GE ?_|refine Ac [(0,true),(2,true),(1,false),(3,false),(4,false),(5,true)] [1,2] GE ?_|refine Ac [(0,true),(1,true),(2,false),(3,false),(4,true)] [1,2] GE ?_|refine Ac [(0,true),(1,true),(2,false),(3,false),(4,true)] [1,2] GE ?_|refine Ac [(0,true),(1,true),(2,false),(3,false),(4,true)] [1,2] GE ?_|refine Ac [(0,true),(1,true),(2,false),(3,false),(4,true)] [1,2] GE ?_|with_reducible refine WF ?_)
 .rename_i e
  rw [e,if_pos rfl] at h
  have hm:=e
  unfold IJ at hm
  simp only [Bool.and_eq_true,decide_eq_true_eq] at hm
  refine Mi (α:=Af) (λx=>[]) [1,2,3,4] (λx=>[(0,x.cells)]) [1,2] (λ_=>st) (λx=>x.AD=s.AD/\x.Ca=s.Ca/\0<=x.pos/\x.pos<=x.AD.length/\0<=x.wait/\x.wait<=2/\GD x=GD s) (λx=>x.AD.length - x.pos.toNat) s ⟨rfl,rfl,AC,AC,AC,AC,rfl⟩ Yl (St.le_refl _) ?_
  rintro x ⟨x1,x2,x3,x4,x6,x7,x5⟩
  rw [<-x5] at h
  have U:x.Ca.length<=500000000:=by rw [x2];exact hb
  have ht:0<=GI x:=UM (by rw [x2];simpa using hm.2)
  repeat' ((conv=>whnf);first|exact Cr|(refine Bg ?_;intros)|(refine Cs ?_ ?_ ?_;rotate_left)|(refine Bh ?_ ?_<;>intro _)|refine p6 ?_|refine od (s:=x) ?_|refine nU (s:=x) U ?_|refine l7 (s:=x) (DY ‹_›) U ?_|refine l7 (s:=x) (MB AC) U ?_|refine Wq (a:=x.pos+1) AC AC ?_|refine Ac [(0,true),(1,true),(2,true),(3,false),(4,true)] [] GE ?_|refine Ac [(0,true),(2,true),(1,false),(3,false),(4,false),(5,true)] [1,2] GE ?_|refine Ac [(0,true),(2,true),(1,false),(3,false),(4,false),(5,true)] [1,2] GE ?_|refine Ac [(0,true),(2,true),(1,false),(3,false),(4,false),(5,false),(6,true)] [1,2] GE ?_|refine Ac [(0,true),(2,true),(1,false),(3,false),(4,false),(5,true)] [1,2] GE ?_|refine Ac [(0,true),(1,true),(2,false),(3,false),(4,true)] [1,2] GE ?_|refine Ac [(0,true),(1,true),(2,false),(3,false),(4,true)] [1,2] GE ?_|refine Ac [(0,true),(1,true),(2,false),(3,false),(4,true)] [1,2] GE ?_|refine Ac [(0,true),(1,true),(2,false),(3,false),(4,true)] [1,2] GE ?_|with_reducible refine WF ?_)
  all_goals first
   |(rw [FO ‹_› x3,if_pos AC] at h
     unfold Fj at h
     first
      |(rw [if_pos AC] at h;exact Be rfl h)
      |(rw [if_neg AC,if_pos AC] at h;exact Be rfl h)
      |(rw [if_neg AC,if_neg AC] at h;exact Be rfl h))
   |(have hz:(CO ‹Tk› x).1.kind=0:=by
      unfold CO
      rw [if_neg AC,if_neg AC];rfl
     refine ⟨{x with pos:=x.pos+1,wait:=0},?_,?_,Yl,St.le_refl _⟩
     .refine ⟨x1,x2,by show 0<=x.pos+1;omega,by show x.pos+1<=x.AD.length;omega,Int.le_refl _,by show (0:Int)<=2;decide,?_⟩
      rw [<-x5,FO (s:=x) ‹_› x3,if_neg AC,if_pos AC,if_pos hz,EG hz]
     .show x.AD.length - (x.pos+1).toNat<_
      omega)
   |(rw [FO ‹_› x3,if_neg AC,if_pos AC] at h
     first
      |(have key:CO ‹Tk› x=(LZ 20 ‹Tk›,DV x):=by unfold CO;rw [if_pos AC]
        rw [key,if_neg (by simp [LZ])] at h;exact Be rfl h)
      |(have key:CO ‹Tk› x=(LZ 19 ‹Tk›,{x with pos:=x.pos+1,wait:=0}):=by unfold CO;rw [if_neg AC,if_pos AC]
        rw [key,if_neg (by simp [LZ])] at h;exact Be rfl h))
   |(rw [FO ‹_› x3,if_neg AC,if_neg AC] at h
     unfold ET at h
     first
      |(rw [if_pos ⟨FS,FS⟩] at h;exact Be rfl h)
      |(rw [if_neg (λe=>absurd e.2 (by rw [‹Tk.text _=[125]›];decide)),if_pos ⟨FS,FS⟩,if_pos (.inl (Sf ‹_›))] at h;exact Be rfl h)
      |(rw [if_neg (λe=>absurd e.2 (by rw [‹Tk.text _=[125]›];decide)),if_pos ⟨FS,FS⟩,if_pos (.inr AC)] at h;exact Be rfl h)
      |(rw [if_neg (λe=>absurd e.2 (by rw [‹Tk.text _=[125]›];decide)),if_pos ⟨FS,FS⟩,if_neg (λe=>e.elim (DY ‹_›) (λe=>e AC))] at h;exact Be rfl h)
      |(rw [if_neg (λe=>absurd e.1 ‹_›),if_neg (λe=>absurd e.1 ‹_›)] at h;exact Be rfl h)
      |(rw [if_neg (λe=>absurd e.2 ‹_›),if_neg (λe=>absurd e.2 ‹_›)] at h;exact Be rfl h))
   |(rw [QH AC x3] at h
     unfold EW at h
     first
      |(rw [if_pos (Sf ‹_›)] at h;exact Be rfl h)
      |(rw [if_neg (DY ‹_›),if_pos ‹_›] at h;exact Be rfl h)
      |(rw [if_neg (DY ‹_›),if_neg ‹_›] at h;exact Be rfl h))
  all_goals trace_state
 .rename_i e
  rw [e] at h
  exact Be rfl h
end
end Go.Proofs.Z
namespace Go.Aw
theorem St.Al (st:St) (b:Nat) (cs:List V):(st.Aa b cs).box b=some cs:=by simp [St.Aa]
theorem St.set_set (st:St) (b:Nat) (cs cs':List V):(st.Aa b cs).Aa b cs'=st.Aa b cs':=by
 simp only [St.Aa,St.mk.injEq,and_true]
 simp_all
theorem St.PA {st:St} (h:st.box b=some cs):st.Aa b cs=st:=by
 cases st with
 |mk box hw=>
  simp only [St.Aa,St.mk.injEq,and_true]
  grind
theorem At {st:St} (h:st.box b=some cs) (k:K cs):∃cs,st.box b=some cs/\K cs:=⟨cs,h,k⟩
end Go.Aw
namespace Go.Proofs.Z
open Go Go.Aw
def CB (s:Af):List V:=[.slice 4 (A5 s.AD) .any,.int .i64 s.pos,.slice 1 (ints s.Ca) .any,.int .i64 s.wait,
 .int .i64 (Ab s).1.kind,.str (Ab s).1.text,.int .i64 (Ab s).1.line,.int .i64 (Ab s).1.Cj,
 .slice 4 (A5 (Ab s).2.1.AD) .any,.int .i64 (Ab s).2.1.pos,.slice 1 (ints (Ab s).2.1.Ca) .any,.int .i64 (Ab s).2.1.wait,.int .i64 (Ab s).2.2,.bool true]
def TC (s:Af) (t:Tk) (u:Af) (o1 o2:AB) (e:Int):List V:=[.slice 4 (A5 s.AD) .any,.int .i64 s.pos,.slice 1 (ints s.Ca) .any,.int .i64 s.wait,
 .int .i64 t.kind,.str t.text,.int .i64 t.line,.int .i64 t.Cj,.slice 4 (A5 u.AD) o1,.int .i64 u.pos,.slice 1 (ints u.Ca) o2,.int .i64 u.wait,.int .i64 e,.bool false]
def Has (st:St) (b:Nat) (s:Af):Prop:=st.box b=some (CB s)\/∃t u o1 o2 e,st.box b=some (TC s t u o1 o2 e)
def GR (st st':St) (b:Nat) (s:Af):Prop:=Has st' b s/\∃cs,st'=st.Aa b cs
theorem GR.trans {st U st2:St} {s1 s2:Af} (h:GR st U b s1) (k:GR U st2 b s2):GR st st2 b s2:=by
 obtain ⟨_,c1,e1⟩:=h
 obtain ⟨h2,c2,e2⟩:=k
 subst e1
 rw [St.set_set] at e2
 exact ⟨h2,c2,e2⟩
theorem AU {st:St} {s:Af}:GR st (st.Aa b (CB s)) b s:=⟨.inl (St.Al ..),_,rfl⟩
def fault (e:Int):V:=.iface 140 (.agg [.int .i64 e])
section
variable {st:St} {R:Ay->St->Prop}
attribute [local irreducible] Go.Aw.Ag
theorem dK (e:r=r'.wk) (es:st'=st) (h:R r st):∃r2 U,(r2=r'\/r2=r'.wk)/\St.le U st'/\R r2 U:=by subst es;exact ⟨r,st',.inr e,St.le_refl _,h⟩
theorem ew {s:Af} (U:Has st b s) (hb:s.Ca.length<=500000000) (h:R (.ret (.Bq [])) (st.Aa b (CB s))):PC 153 [.ptr b 0] st R:=by
 refine pB Tryz.func153 ?_
 rcases U with U|⟨t,u,o1,o2,e,U⟩
 .rw [St.PA U] at h
  repeat' ((conv=>whnf);first|(refine Bg ?_;intros)|(refine Bh ?_ ?_<;>intro _)|refine At U ?_)
  all_goals exact fin h rfl
 .skip
  repeat' ((conv=>whnf);first|(refine Bg ?_;intros)|(refine Bh ?_ ?_<;>intro _)|refine At U ?_|refine At (St.Al ..) ?_|refine kf (s:=s) hb ?_)
  all_goals exact dK rfl (by simp only [St.set_set];rfl) h
theorem FZ {s:Af} (U:Has st b s) (hb:s.Ca.length<=500000000) (h:R (.ret (Ei (Ab s).1)) (st.Aa b (CB s))):PC 83 [.ptr b 0] st R:=by
 refine pB Tryz.func83 ?_
 repeat' ((conv=>whnf);first|(refine Bg ?_;intros)|(refine Bh ?_ ?_<;>intro _)|refine At (St.Al ..) ?_|refine ew U hb ?_)
 all_goals exact Be rfl h
theorem B6 {e:Int} (h:R (.BU (fault e)) st):PC 73 [v,.int .i64 e] st R:=by
 refine pB Tryz.func73 ?_
 repeat' ((conv=>whnf);first|(refine Bg ?_;intros)|(refine Bh ?_ ?_<;>intro _)|fail)
 all_goals exact fin h rfl
def Om (s:Af):Int:=if (Ab s).2.2=0 then 110 else (Ab s).2.2
theorem cg {s:Af} (U:Has st b s) (hb:s.Ca.length<=500000000) (h:R (.BU (fault (Om s))) (st.Aa b (CB s))):PC 171 [.ptr b 0] st R:=by
 refine pB Tryz.func171 ?_
 unfold Om at h
 repeat' ((conv=>whnf);first|(refine Bg ?_;intros)|(refine Bh ?_ ?_<;>intro _)|refine At (St.Al ..) ?_|refine ew U hb ?_|refine B6 ?_)
 all_goals first
  |(rw [if_pos ‹_›] at h;exact fin h rfl)
  |(rw [if_neg ‹_›] at h;exact fin h rfl)
theorem js {s s':Af} (U:st.box b=some (CB s)) (h:∀st',GR st st' b s'->R (.ret (.Bq [])) st'):PC 72 [.ptr b 0,Bn s'] st R:=by
 refine pB Tryz.func72 ?_
 have h:=h (st.Aa b (TC s' (Ab s).1 (Ab s).2.1 .any .any (Ab s).2.2)) ⟨.inr ⟨_,_,_,_,_,St.Al ..⟩,_,rfl⟩
 repeat' ((conv=>whnf);first|(refine Bg ?_;intros)|(refine Bh ?_ ?_<;>intro _)|refine At U ?_|refine At (St.Al ..) ?_)
 all_goals exact dK rfl (by simp only [St.set_set];rfl) h
theorem jr {s s':Af} {t:Tk} {u:Af} {o1 o2:AB} {e:Int} (U:st.box b=some (TC s t u o1 o2 e)) (h:∀st',GR st st' b s'->R (.ret (.Bq [])) st'):PC 72 [.ptr b 0,Bn s'] st R:=by
 refine pB Tryz.func72 ?_
 have h:=h (st.Aa b (TC s' t u o1 o2 e)) ⟨.inr ⟨_,_,_,_,_,St.Al ..⟩,_,rfl⟩
 repeat' ((conv=>whnf);first|(refine Bg ?_;intros)|(refine Bh ?_ ?_<;>intro _)|refine At U ?_|refine At (St.Al ..) ?_)
 all_goals exact dK rfl (by simp only [St.set_set];rfl) h
theorem jq {s s':Af} (U:Has st b s) (h:∀st',GR st st' b s'->R (.ret (.Bq [])) st'):PC 72 [.ptr b 0,Bn s'] st R:=by
 rcases U with U|⟨t,u,o1,o2,e,U⟩
 .exact js U h
 .exact jr U h
theorem SA {s:Af} (U:Has st b s) (hb:s.Ca.length<=500000000) (h:(Ab s).2.2=0->∀st',GR st st' b (Ab s).2.1->R (.ret (Ei (Ab s).1)) st')
 (k:¬(Ab s).2.2=0->R (.BU (fault (Ab s).2.2)) (st.Aa b (CB s))):PC 139 [.ptr b 0] st R:=by
 refine pB Tryz.func139 ?_
 repeat' ((conv=>whnf);first|(refine Bg ?_;intros)|(refine Bh ?_ ?_<;>intro _)|refine At (St.Al ..) ?_|refine FZ U hb ?_|refine B6 ?_|refine jq (s':=(Ab s).2.1) (.inl (St.Al st b (CB s))) (λst' hu=>?_))
 .exact Be rfl (h AC st' (AU.trans hu))
 .exact fin (k AC) rfl
def Bp (t:Tk):Nd:=.mk 1 t.kind t.text t.line t.Cj []
theorem nA {t:Tk} (h:R (.ret (enc (Bp t))) st):PC 195 [Ei t] st R:=by
 refine pB Tryz.func195 ?_
 repeat' ((conv=>whnf);first|(refine Bg ?_;intros)|(refine Bh ?_ ?_<;>intro _)|fail)
 all_goals exact Be rfl h
def Ba (s:Af) (k:Int) (x:List UInt8):Bool:=(Ab s).1.kind==k&&(Ab s).1.text==x
theorem VS {s:Af} {k:Int} (U:Has st b s) (hb:s.Ca.length<=500000000) (h:R (.ret (.bool (Ba s k x))) (st.Aa b (CB s))):PC 156 [.ptr b 0,.int .i64 k,.str x] st R:=by
 refine pB Tryz.func156 ?_
 repeat' ((conv=>whnf);first|(refine Bg ?_;intros)|(refine Bh ?_ ?_<;>intro _)|refine FZ U hb ?_)
 all_goals (refine Ao h ?_;clear h;simp_all [Ba])
theorem KD {s:Af} (U:Has st b s) (hb:s.Ca.length<=500000000) (h:(Ab s).2.2=0->∀st',GR st st' b (Ab s).2.1->R (.ret (enc (Bp (Ab s).1))) st')
 (k:¬(Ab s).2.2=0->R (.BU (fault (Ab s).2.2)) (st.Aa b (CB s))):PC 121 [.ptr b 0] st R:=by
 refine pB Tryz.func121 ?_
 repeat' ((conv=>whnf);first|(refine Bg ?_;intros)|(refine Bh ?_ ?_<;>intro _)|refine SA U hb (λe st' hu=>?_) (λe=>?_)|refine nA (t:=(Ab s).1) ?_)
 .exact Be rfl (h e st' hu)
 .exact fin (k e) rfl
theorem gN {s:Af} {k:Int} (hs:Has st b s) (hb:s.Ca.length<=500000000) (h:Ba s k x=true->(Ab s).2.2=0->∀st',GR st st' b (Ab s).2.1->R (.ret (enc (Bp (Ab s).1))) st')
 (k1:Ba s k x=true->¬(Ab s).2.2=0->R (.BU (fault (Ab s).2.2)) (st.Aa b (CB s))) (k2:Ba s k x=false->R (.BU (fault (Om s))) (st.Aa b (CB s))):PC 118 [.ptr b 0,.int .i64 k,.str x] st R:=by
 refine pB Tryz.func118 ?_
 have U:Has (st.Aa b (CB s)) b s:=.inl (St.Al ..)
 repeat' ((conv=>whnf);first|(refine Bg ?_;intros)|(refine Bh ?_ ?_<;>intro _)|refine VS hs hb ?_|refine KD U hb (λe st' hu=>?_) (λe=>?_)|refine cg U hb ?_)
 .exact Be rfl (h AC e st' (AU.trans hu))
 .exact dK rfl (by rw [St.set_set]) (k1 AC e)
 .exact dK rfl (by rw [St.set_set]) (k2 AC)
def Qv (n:Nd) (s:Af) (e:Int):V:=.Bq [enc n,Bn s,.int .i64 e]
theorem VP {s s':Af} {n:Nd} {e d:Int} (hf:∀(st:St) (R:Ay->St->Prop),R (.ret (Qv n s' e)) st->PC f [Bn s,.int .i64 d] st R) (U:Has st b s)
 (h:e=0->∀st',GR st st' b s'->R (.ret (enc n)) st') (k:¬e=0->∀st',GR st st' b s'->R (.BU (fault e)) st'):PC 84 [.ptr b 0,.func f [] [],.int .i64 d] st R:=by
 refine pB Tryz.func84 ?_
 rcases U with U|⟨t,u,o1,o2,e',U⟩
 .skip
  repeat' ((conv=>whnf);first|(refine Bg ?_;intros)|(refine Bh ?_ ?_<;>intro _)|refine At U ?_|refine hf _ _ ?_|refine B6 ?_|refine jq (s':=s') (.inl U) (λst' hu=>?_))
  .exact Be rfl (h AC st' hu)
  .exact fin (k AC st' hu) rfl
 .skip
  repeat' ((conv=>whnf);first|(refine Bg ?_;intros)|(refine Bh ?_ ?_<;>intro _)|refine At U ?_|refine hf _ _ ?_|refine B6 ?_|refine jq (s':=s') (.inr ⟨t,u,o1,o2,e',U⟩) (λst' hu=>?_))
  .exact Be rfl (h AC st' hu)
  .exact fin (k AC st' hu) rfl
end
end Go.Proofs.Z
namespace Go.Aw
open Go
section
variable {P:Program}
theorem Aj {x y:Code} {st:St} (h:AW P x (BL (λenv st=>AW P y Q env st) Q) env st):AW P (.seq x y) Q env st:=λD I0 st0 w0 I β a w hr=>by
 refine wp_seq (wp_mono (h D I0 st0 w0 I β a w hr) ?_)
 rintro e a w ⟨I,β,env,st,ae,h1,U,h3⟩
 cases ae with
 |normal=>cases e<;>first|exact h3 D I0 st0 w0 I β a w h1|exact U.elim
 |exit i=>cases e<;>first|exact ⟨I,β,env,st,.exit i,h1,U,h3⟩|exact U.elim
 |goto i=>cases e<;>first|exact ⟨I,β,env,st,.goto i,h1,U,h3⟩|exact U.elim
 |ret=>cases e<;>first|exact ⟨I,β,env,st,.ret,h1,U,h3⟩|exact U.elim
 |BU v=>cases e<;>first|exact ⟨I,β,env,st,.BU v,h1,U,h3⟩|exact U.elim
theorem Ai (U:Q6 P T) {c:Code} {st:St} (h:ND T (A3 P) c Q env st):AW P c Q env st:=
 L7 U (B5 P) (λ_ _ _ _ _ h k=>k.mono h) c h
def Ends (R:Ay->St->Prop) (r:Ay) (st:St):Prop:=∃r2 U,(r2=r\/r2=r.wk)/\St.le U st/\R r2 U
theorem A3.ends {st:St} (h:A3 P f args st (Ends R)):A3 P f args st R:=by
 refine ⟨λI w U hs ha=>(h.a I w U hs ha).mono ?_,h.b⟩
 rintro e w' ⟨I',st',r,k1,k2,k3,r2,st2,k4,k5,k6⟩
 have hr:Rel [] I st w I' (λ_=>none) {tmps:=[],boxes:=[],Bj:=0,sz:=0,gl:=[]} st' {tmps:=#[],defers:=[]} w':=
  ⟨k1,k2,⟨rfl,λt v e=>(by cases e),λid cs e=>(by cases e),λid b e=>(by cases e),λi j b e=>(by cases e),λid b e=>(by cases e),rfl⟩⟩
 have hr':=hr.GQ k5
 refine ⟨I',st2,r2,hr'.fr,hr'.s,?_,k6⟩
 rcases k4 with rfl|rfl
 .exact k3
 .cases e with
  |returned c=>
   cases r with
   |ret v=>exact AG.wk k3
   |BU v=>exact k3.elim
  |panicked chain=>
   cases r with
   |ret v=>exact k3.elim
   |BU v=>
    obtain ⟨c,h1,h2⟩:=k3
    exact ⟨c,h1,AG.wk h2⟩
  |outgrown=>cases r<;>exact k3.elim
end
end Go.Aw
namespace Go.Proofs.Z
open Go Go.Aw
def NI:List (List Bool×Nat):=[([false,false,false,false,false,false,false,false],0),([false,false,false,false,false,false,false,false],1),([true,false,false,false,false,false,false,false],1),([true,false,false,false,false,false,false,false],5),([false,true,false,false,false,false,false,false],0),([false,true,false,false,false,false,false,false],2),([true,true,false,false,false,false,false,false],2),([true,true,false,false,false,false,false,false],5),([true,false,false,false,false,true,false,false],1),([false,true,true,false,false,false,false,false],0),([false,true,true,false,false,false,false,false],3),([true,true,true,false,false,false,false,false],3),([true,true,true,false,false,false,false,false],5),([true,true,false,false,false,true,false,false],2),([false,true,true,true,false,false,false,false],0),([false,true,true,true,false,false,false,false],4),([true,true,true,true,false,false,false,false],4),([true,true,true,true,false,false,false,false],5),([true,true,true,false,false,true,false,false],3),([false,true,true,true,true,false,false,false],0),([true,true,true,true,true,false,false,false],5),([true,true,true,true,false,true,false,false],4),([true,true,true,true,true,true,false,false],6),([true,true,true,true,true,true,true,false],7)]
def XO:List (List Bool×Nat):=[([false,false,false,false,false,false,false,false,false,false],0),([false,false,false,false,false,false,false,false,false,false],1),([false,false,false,false,false,false,false,false,false,false],5),([true,false,false,false,false,false,false,false,false,false],1),([true,false,false,false,false,false,false,false,false,false],5),([false,true,false,false,false,false,false,false,false,false],0),([false,true,false,false,false,false,false,false,false,false],2),([false,true,false,false,false,false,false,false,false,false],5),([false,false,false,false,false,true,false,false,false,false],0),([false,false,false,false,false,true,false,false,false,false],1),([false,false,false,false,false,true,false,false,false,false],6),([true,true,false,false,false,false,false,false,false,false],2),([true,true,false,false,false,false,false,false,false,false],5),([true,false,false,false,false,true,false,false,false,false],1),([true,false,false,false,false,true,false,false,false,false],6),([false,true,true,false,false,false,false,false,false,false],0),([false,true,true,false,false,false,false,false,false,false],3),([false,true,true,false,false,false,false,false,false,false],5),([false,true,false,false,false,true,false,false,false,false],0),([false,true,false,false,false,true,false,false,false,false],2),([false,true,false,false,false,true,false,false,false,false],6),([false,false,false,false,false,true,true,false,false,false],0),([false,false,false,false,false,true,true,false,false,false],1),([true,true,true,false,false,false,false,false,false,false],3),([true,true,true,false,false,false,false,false,false,false],5),([true,true,false,false,false,true,false,false,false,false],2),([true,true,false,false,false,true,false,false,false,false],6),([true,false,false,false,false,true,true,false,false,false],1),([false,true,true,true,false,false,false,false,false,false],0),([false,true,true,true,false,false,false,false,false,false],4),([false,true,true,true,false,false,false,false,false,false],5),([false,true,true,false,false,true,false,false,false,false],0),([false,true,true,false,false,true,false,false,false,false],3),([false,true,true,false,false,true,false,false,false,false],6),([false,true,false,false,false,true,true,false,false,false],0),([false,true,false,false,false,true,true,false,false,false],2),([true,true,true,true,false,false,false,false,false,false],4),([true,true,true,true,false,false,false,false,false,false],5),([true,true,true,false,false,true,false,false,false,false],3),([true,true,true,false,false,true,false,false,false,false],6),([true,true,false,false,false,true,true,false,false,false],2),([false,true,true,true,true,false,false,false,false,false],0),([false,true,true,true,true,false,false,false,false,false],5),([false,true,true,true,false,true,false,false,false,false],0),([false,true,true,true,false,true,false,false,false,false],4),([false,true,true,true,false,true,false,false,false,false],6),([false,true,true,false,false,true,true,false,false,false],0),([false,true,true,false,false,true,true,false,false,false],3),([true,true,true,true,true,false,false,false,false,false],5),([true,true,true,true,true,false,false,false,false,false],7),([true,true,true,true,false,true,false,false,false,false],4),([true,true,true,true,false,true,false,false,false,false],6),([true,true,true,false,false,true,true,false,false,false],3),([false,true,true,true,true,true,false,false,false,false],0),([false,true,true,true,true,true,false,false,false,false],6),([false,true,true,true,false,true,true,false,false,false],0),([false,true,true,true,false,true,true,false,false,false],4),([true,true,true,true,true,true,false,false,false,false],6),([true,true,true,true,true,true,false,false,false,false],7),([true,true,true,true,true,false,false,true,false,false],5),([true,true,true,true,true,false,false,true,false,false],8),([true,true,true,true,false,true,true,false,false,false],4),([false,true,true,true,true,true,true,false,false,false],0),([true,true,true,true,true,true,true,false,false,false],7),([true,true,true,true,true,true,false,true,false,false],6),([true,true,true,true,true,true,false,true,false,false],8),([true,true,true,true,true,false,false,true,true,false],5),([true,true,true,true,true,true,true,true,false,false],8),([true,true,true,true,true,true,false,true,true,false],6),([true,true,true,true,true,true,true,true,true,false],9)]
section
variable {st:St} {R:Ay->St->Prop}
attribute [local irreducible] Go.Aw.Ag
def FN:Nd:=.mk 0 0 [] 0 0 []
def De:List V:=[.int .i64 0,.int .i64 0,.str [],.int .i64 0,.int .i64 0,.slice 6 [] .full]
theorem Ov {bp bn ba be:Nat} {U:St->Prop} (h:U st):HV Tryz.prog 138 [.ptr bp 0,.ptr bn 0,.ptr ba 0,.ptr be 0] none st U:=by
 refine EU Ad [] Tryz.func138 rfl rfl rfl rfl rfl rfl rfl rfl (λenv0 he=>?_)
 subst he
 conv=>whnf
 refine Aj (Ai Ad ?_)
 repeat' ((conv=>whnf);first|exact Cr|(refine Bg ?_;intros)|(refine Cs ?_ ?_ ?_;rotate_left)|(refine Bh ?_ ?_<;>intro _)|with_reducible refine WF ?_)
 all_goals exact h
theorem St.As {st:St} {c:Nat} (h:b≠c):(st.Aa b cs).box c=st.box c:=by simp [St.Aa,Ne.symm h]
noncomputable def cM:List Oper:=match Tryz.f138.body with|some (.seq _ (.seq _ (.seq _ (.seq _ (.region _ ops _)))))=>ops.toList|_=>[]
noncomputable def mQ (bs:List Bool) (bp bn ba be U:Nat) (sc:List V) (e:Int):Env:=
 {tmps:=F0 [(6,.bool true),(14,.bool true),(13,.agg [.int .i64 e]),(5,.BH 0 0),(4,fault e),(0,.ptr bp 0),(1,.ptr bn 0),(2,.ptr ba 0),(3,.ptr be 0)]
   cM
   [.agg De,.ptr U 0,.ptr U 0,.ptr U 0,.agg sc,.BH 0 0,.int .i64 e,.BO,.BO,.BO] bs,boxes:=[(0,[.int .i64 e])],Bj:=1,sz:=25,gl:=[]}
def mR (st:St) (U ba be:Nat) (sc:List V) (e:Int) (bs:List Bool):St:=
 match bs[7]?,bs[8]?,bs[9]? with
 |_,_,some true=>((st.Aa U De).Aa ba sc).Aa be [.int .i64 e]
 |_,some true,_=>(st.Aa U De).Aa ba sc
 |some true,_,_=>st.Aa U De
 |_,_,_=>st
theorem HW {bp bn U be br:Nat} {s:Af} {e:Int} {RS:St->Prop} (hp:st.box bp=some [.ptr br 0]) (hr:Has st br s) {n0:Nd} {s0:Af} {o1 o2 o3:AB} {e0:Int}
 (hn:st.box bn=some [.int .i64 n0.kind,.int .i64 n0.form,.str n0.text,.int .i64 n0.line,.int .i64 n0.Cj,.slice 6 (Cp n0.kids) o1])
 (ha:st.box U=some [.slice 4 (A5 s0.AD) o2,.int .i64 s0.pos,.slice 1 (ints s0.Ca) o3,.int .i64 s0.wait]) (he:st.box be=some [.int .i64 e0])
 (d1:bn≠bp) (d2:bn≠br) (d3:bn≠U) (d4:bn≠be) (d5:U≠bp) (d6:U≠br) (d7:U≠be)
 (h:RS (((st.Aa bn De).Aa U s.cells).Aa be [.int .i64 e])):HV Tryz.prog 138 [.ptr bp 0,.ptr bn 0,.ptr U 0,.ptr be 0] (some (fault e)) st RS:=by
 refine EU Ad [] Tryz.func138 rfl rfl rfl rfl rfl rfl rfl rfl (λenv0 he=>?_)
 subst he
 conv=>whnf
 refine Aj (Ai Ad ?_)
 repeat' ((conv=>whnf);first|exact Cr|(refine Bg ?_;intros)|(refine Cs ?_ ?_ ?_;rotate_left)|(refine Bh ?_ ?_<;>intro _)|with_reducible refine WF ?_)
 refine Aj (Ai Ad ?_)
 repeat' ((conv=>whnf);first|exact Cr|(refine Bg ?_;intros)|(refine Cs ?_ ?_ ?_;rotate_left)|(refine Bh ?_ ?_<;>intro _)|with_reducible refine WF ?_)
 refine Aj (Ai Ad ?_)
 repeat' ((conv=>whnf);first|exact Cr|(refine Bg ?_;intros)|(refine Cs ?_ ?_ ?_;rotate_left)|(refine Bh ?_ ?_<;>intro _)|with_reducible refine WF ?_)
 have ha':(st.Aa bn De).box U=some [.slice 4 (A5 s0.AD) o2,.int .i64 s0.pos,.slice 1 (ints s0.Ca) o3,.int .i64 s0.wait]:=by rw [St.As d3];exact ha
 have he':((st.Aa bn De).Aa U s.cells).box be=some [.int .i64 e0]:=by rw [St.As d7,St.As d4];exact he
 refine Vl Ad (B5 _) (λbs=>mQ bs bp bn U be br s.cells e) (mR st bn U be s.cells e) XO GE Yl (St.le_refl _) ?_ h
 unfold XO
 rcases hr with hr|⟨t,u,q1,q2,q3,hr⟩
 all_goals repeat' (first|refine List.forall_mem_cons.2 ⟨?_,?_⟩|exact λ_ h=>nomatch h)
 repeat' ((conv=>whnf);first|exact Cr|(refine Bg ?_;intros)|(refine Cs ?_ ?_ ?_;rotate_left)|(refine Bh ?_ ?_<;>intro _)|refine At hp ?_|refine At hr ?_|refine At hn ?_|refine At ha' ?_|refine At he' ?_|with_reducible refine WF ?_)
 all_goals conv=>whnf
 all_goals (refine ⟨Yl,?_⟩)
 all_goals exact St.le_refl _
end
abbrev Rs:=Sum (Int×Af) (Nd×Af)
def El (st:St) (b:Nat) (R:Ay->St->Prop):Rs->Prop
 | .inr (n,s')=>∀st',GR st st' b s'->R (.ret (enc n)) st'
 | .inl (e,s')=>∀st',GR st st' b s'->R (.BU (fault e)) st'
def Reads (f:FuncId) (s:Af) (d:Int) (q:Rs):Prop:=∀(b:Nat) (st:St) (R:Ay->St->Prop),Has st b s->El st b R q->PC f [.ptr b 0,.int .i64 d] st R
def Ce (s:Af) (deep:Int) (q:Rs):Nd×Af×Int:=
 if deep<1 then (FN,s,2) else match q with
  | .inr (n,s')=>(n,s',0)
  | .inl (e,s')=>(FN,s',e)
def K4 (p:Nd×Af×Int):V:=Qv p.1 p.2.1 p.2.2
section
variable {st:St} {R:Ay->St->Prop}
attribute [local irreducible] Go.Aw.Ag
theorem BX {st:St} {c:Nat} (h:(st.Aa b cs).fresh c):b≠c/\st.fresh c:=by
 by_cases e:b=c
 .subst e
  have:=h.1
  rw [St.Al] at this
  cases this
 .refine ⟨e,?_,h.2⟩
  have:=h.1
  rw [St.As e] at this
  exact this
theorem Yo {st:St} {K:Nat->Prop} (h:∀b,st.fresh b->K b):∀b,st.fresh b->K b:=h
theorem Yf {st:St} (h:st.box b=some cs):St.le st (st.Aa b cs):=by rw [St.PA h];exact St.le_refl _
noncomputable def cD:List Oper:=match Tryz.f67.body with|some (.seq _ (.seq _ (.seq _ (.seq _ (.seq _ (.seq (.region _ ops _) _))))))=>ops.toList|_=>[]
noncomputable def cC (bs:List Bool) (b1 b2 b3 U b5:Nat) (nc sc:List V):Env:=
 {tmps:=F0 [(6,.ptr b1 0),(7,.ptr b2 0),(8,.ptr b3 0),(9,.ptr b5 0)] cD [.agg nc,.ptr U 0,.ptr U 0,.ptr U 0,.agg sc,.BO,.BO,.BO] bs,boxes:=[],Bj:=1,sz:=28,gl:=[6,7,8,9,12]}
def cE (st:St) (U b3:Nat) (sc:List V) (bs:List Bool):St:=
 match bs[6]?,bs[7]? with
 |_,some true=>(st.Aa U sc).Aa b3 [.int .i64 0]
 |some true,_=>st.Aa U sc
 |_,_=>st
theorem NJ {s:Af} {deep:Int} {q:Rs} (hq:¬deep<1->Reads f s (if 100<deep then 100 else deep) q) (h:R (.ret (K4 (Ce s deep q))) st):PC 67 [Bn s,.int .i64 deep,.func f [] []] st R:=by
 refine A3.ends (LA Ad [6,7,8,9,12] Tryz.func67 rfl Do rfl rfl rfl rfl rfl rfl ⟨_,Tryz.func138,rfl,Do⟩ rfl ?_)
 repeat' ((conv=>whnf);first|exact Cr|(refine Bg ?_;intros)|(refine Cs ?_ ?_ ?_;rotate_left)|(refine Bh ?_ ?_<;>intro _)|refine Yo (λb5 f5=>?_)|refine At (St.Al ..) ?_|with_reducible refine WF ?_)
 rename_i b1 f1 b2 f2 b3 f3 b4 f4
 obtain ⟨n12,f2a⟩:=BX f2
 obtain ⟨n23,f3a⟩:=BX f3
 obtain ⟨n13,f3b⟩:=BX f3a
 obtain ⟨n34,f4a⟩:=BX f4
 obtain ⟨n24,f4b⟩:=BX f4a
 obtain ⟨n14,f4c⟩:=BX f4b
 obtain ⟨n45,f5a⟩:=BX f5
 obtain ⟨n35,f5b⟩:=BX f5a
 obtain ⟨n25,f5c⟩:=BX f5b
 obtain ⟨n15,f5d⟩:=BX f5c
 conv=>whnf
 refine ⟨rfl,AM rfl ?_⟩
 generalize hst5:St.Aa _ b5 [V.ptr b4 0]=st5
 have k1:st5.box b1=some De:=by subst hst5;rw [St.As n15.symm,St.As n15.symm,St.As n14.symm,St.As n13.symm,St.As n12.symm,St.Al];rfl
 have k2:st5.box b2=some [.slice 4 (A5 Ew.AD) .full,.int .i64 Ew.pos,.slice 1 (ints Ew.Ca) .full,.int .i64 Ew.wait]:=by subst hst5;rw [St.As n25.symm,St.As n25.symm,St.As n24.symm,St.As n23.symm,St.Al];rfl
 have k3:st5.box b3=some [.int .i64 0]:=by subst hst5;rw [St.As n35.symm,St.As n35.symm,St.As n34.symm,St.Al]
 have k4:Has st5 b4 s:=by subst hst5;refine .inr ⟨gx,Ew,.full,.full,0,?_⟩;rw [St.As n45.symm,St.As n45.symm,St.Al];rfl
 have k5:st5.box b5=some [.ptr b4 0]:=by subst hst5;rw [St.Al]
 have kle:st.le st5:=by
  subst hst5
  exact St.Aq (St.Aq (St.Aq (St.Aq (St.Aq (St.Aq (St.le_refl _) f1.1 _) f2a.1 _) f3b.1 _) f4c.1 _) f5d.1 _) f5d.1 _
 have kpan:∀(U:St) (e:Int) (s':Af),GR st5 U b4 s'->U.box b5=some [.ptr b4 0]/\U.box b1=some De/\U.box b2=some [.slice 4 (A5 Ew.AD) .full,.int .i64 Ew.pos,.slice 1 (ints Ew.Ca) .full,.int .i64 Ew.wait]/\U.box b3=some [.int .i64 0]/\st.le U:=by
  rintro U e s' ⟨_,cs,rfl⟩
  exact ⟨by rw [St.As n45];exact k5,by rw [St.As n14.symm];exact k1,by rw [St.As n24.symm];exact k2,by rw [St.As n34.symm];exact k3,St.Aq kle f4c.1 _⟩
 clear hst5 f2 f3 f4 f5 f3a f4a f4b f5a f5b f5c
 refine Aj (Ai Ad ?_)
 repeat' ((conv=>whnf);first|exact Cr|(refine Bg ?_;intros)|(refine Cs ?_ ?_ ?_;rotate_left)|(refine Bh ?_ ?_<;>intro _)|refine At k5 ?_|refine B6 ?_|with_reducible refine WF ?_)
 .refine HW (n0:=FN) (s0:=Ew) k5 k4 k1 k2 k3 n15 n14 n12 n13 n25 n24 n23 ?_
  have g1:(((st5.Aa b1 De).Aa b2 s.cells).Aa b3 [.int .i64 2]).box b1=some De:=by rw [St.As n13.symm,St.As n12.symm,St.Al]
  have g2:(((st5.Aa b1 De).Aa b2 s.cells).Aa b3 [.int .i64 2]).box b2=some s.cells:=by rw [St.As n23.symm,St.Al]
  have gl:st.le (((st5.Aa b1 De).Aa b2 s.cells).Aa b3 [.int .i64 2]):=St.Aq (St.Aq (St.Aq kle f1.1 _) f2a.1 _) f3b.1 _
  unfold Ce at h
  rw [if_pos ‹_›] at h
  repeat' ((conv=>whnf);first|exact Cr|(refine Bg ?_;intros)|(refine Cs ?_ ?_ ?_;rotate_left)|(refine Bh ?_ ?_<;>intro _)|refine At g1 ?_|refine At g2 ?_|refine At (St.Al ..) ?_|with_reducible refine WF ?_)
  all_goals exact DH gl rfl h
 .rename_i hd
  unfold Ce at h
  rw [if_neg hd] at h
  have hq:=hq hd b4
  refine Aj (Ai Ad ?_)
  cases q with
  |inl q=>
   obtain ⟨e,s'⟩:=q
   repeat' ((conv=>whnf);first|exact Cr|(refine Bg ?_;intros)|(refine Cs ?_ ?_ ?_;rotate_left)|(refine Bh ?_ ?_<;>intro _)|refine At k5 ?_|refine ⟨_,rfl,?_⟩|refine hq _ _ k4 (λU hu=>?_)|with_reducible refine WF ?_)
   obtain ⟨j5,j1,j2,j3,jle⟩:=kpan U e s' hu
   refine HW (n0:=FN) (s0:=Ew) j5 hu.1 j1 j2 j3 n15 n14 n12 n13 n25 n24 n23 ?_
   have g1:(((U.Aa b1 De).Aa b2 s'.cells).Aa b3 [.int .i64 e]).box b1=some De:=by rw [St.As n13.symm,St.As n12.symm,St.Al]
   have g2:(((U.Aa b1 De).Aa b2 s'.cells).Aa b3 [.int .i64 e]).box b2=some s'.cells:=by rw [St.As n23.symm,St.Al]
   have gl:st.le (((U.Aa b1 De).Aa b2 s'.cells).Aa b3 [.int .i64 e]):=St.Aq (St.Aq (St.Aq jle f1.1 _) f2a.1 _) f3b.1 _
   repeat' ((conv=>whnf);first|exact Cr|(refine Bg ?_;intros)|(refine Cs ?_ ?_ ?_;rotate_left)|(refine Bh ?_ ?_<;>intro _)|refine At g1 ?_|refine At g2 ?_|refine At (St.Al ..) ?_|with_reducible refine WF ?_)
   all_goals exact DH gl rfl h
  |inr q=>
   obtain ⟨n,s'⟩:=q
   have kret:=λU hu=>kpan U 0 s' hu
   repeat' ((conv=>whnf);first|exact Cr|(refine Bg ?_;intros)|(refine Cs ?_ ?_ ?_;rotate_left)|(refine Bh ?_ ?_<;>intro _)|refine At k5 ?_|refine ⟨_,rfl,?_⟩|refine hq _ _ k4 (λU hu=>?_)|refine At (kret U hu).2.1 ?_|with_reducible refine WF ?_)
   obtain ⟨j5,j1,j2,j3,jle⟩:=kret U hu
   generalize hst7:U.Aa b1 (Az n)=st7
   have i1:st7.box b1=some (Az n):=by subst hst7;rw [St.Al]
   have i5:st7.box b5=some [.ptr b4 0]:=by subst hst7;rw [St.As n15];exact j5
   have i2:st7.box b2=some [.slice 4 (A5 Ew.AD) .full,.int .i64 Ew.pos,.slice 1 (ints Ew.Ca) .full,.int .i64 Ew.wait]:=by subst hst7;rw [St.As n12];exact j2
   have i3:(st7.Aa b2 s'.cells).box b3=some [.int .i64 0]:=by subst hst7;rw [St.As n23,St.As n13];exact j3
   have i4:Has st7 b4 s':=by
    subst hst7
    rcases hu.1 with e|⟨t,u,o1,o2,e',e⟩
    .exact .inl (by rw [St.As n14];exact e)
    .exact .inr ⟨t,u,o1,o2,e',by rw [St.As n14];exact e⟩
   have ile:st.le st7:=by subst hst7;exact St.Aq jle f1.1 _
   refine Aj (Vl Ad (B5 _) (λbs=>cC bs b1 b2 b3 b4 b5 (Az n) s'.cells) (cE st7 b2 b3 s'.cells) NI GE Yl (by rw [<-hst7];exact St.le_refl _) ?_ ?_)
   .skip
    unfold NI
    rcases i4 with i4|⟨t,u,q1,q2,q3,i4⟩
    all_goals repeat' (first|refine List.forall_mem_cons.2 ⟨?_,?_⟩|exact λ_ h=>nomatch h)
    repeat' ((conv=>whnf);first|exact Cr|(refine Bg ?_;intros)|(refine Cs ?_ ?_ ?_;rotate_left)|(refine Bh ?_ ?_<;>intro _)|refine At i5 ?_|refine At i1 ?_|refine At i4 ?_|refine At i2 ?_|refine At i3 ?_|with_reducible refine WF ?_)
    all_goals conv=>whnf
    all_goals (refine ⟨Yl,?_⟩)
    all_goals first|exact St.le_refl _|exact Yf i1
   .refine Ai Ad (Ov (bp:=b5) ?_)
    have g1:((st7.Aa b2 s'.cells).Aa b3 [.int .i64 0]).box b1=some (Az n):=by rw [St.As n13.symm,St.As n12.symm];exact i1
    have g2:((st7.Aa b2 s'.cells).Aa b3 [.int .i64 0]).box b2=some s'.cells:=by rw [St.As n23.symm,St.Al]
    have gl:st.le ((st7.Aa b2 s'.cells).Aa b3 [.int .i64 0]):=St.Aq (St.Aq ile f2a.1 _) f3b.1 _
    repeat' ((conv=>whnf);first|exact Cr|(refine Bg ?_;intros)|(refine Cs ?_ ?_ ?_;rotate_left)|(refine Bh ?_ ?_<;>intro _)|refine At g1 ?_|refine At g2 ?_|refine At (St.Al ..) ?_|with_reducible refine WF ?_)
    all_goals exact DH gl rfl h
end
end Go.Proofs.Z
