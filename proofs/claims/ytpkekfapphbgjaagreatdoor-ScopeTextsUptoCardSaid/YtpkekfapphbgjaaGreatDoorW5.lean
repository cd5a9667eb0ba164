/-
  Parts of a proof: lemmas that the last text uses.
-/
import Derived.Test.YtpkekfapphbgjaaGreatDoorW4
set_option linter.unusedVariables false
set_option linter.unusedSimpArgs false
set_option maxHeartbeats 16000000
variable {X:Type} {all:List Go.Oper} {Q:Go.Aw.AP->Go.Aw.Env->Go.Aw.St->Prop} {id t d k pos n m n1 n2:Nat} {ops:Array Go.Oper} {i c b v base:Int} {env e:Go.Aw.Env} {cs:List Go.Aw.V} {sched:List (Nat×Bool)} {L:List Nat} {l s x:List UInt8} {K:Go.Aw.V->Go.Aw.St->Prop} {ty:Go.TypeId} {o:List Int} {p:Int×Nat} {st0:Go.Aw.St} {w1 w2:Go.Aw.AH} {g:List (Nat×Nat)} {tx:Bool}
namespace Go.Aw
open Go
section
variable {D:List Deferred} {P:Program} {T:List (Nat×Ty)} {C:FuncId->List V->St->(As->St->Prop)->Prop} {I0 I:Mem} {st0 st:St} {w0 w:World} {β:Nat->Option Nat} {env:Env} {a:Act}
def qy {X:Type} (T:List (Nat×Ty)) (C:FuncId->List V->St->(As->St->Prop)->Prop) (all:List Oper) (Q:AP->Env->St->Prop) (E:X->List Bool->Env) (S:X->List Bool->St) (J:X->List Bool->Prop) (x:X) (p:List Bool×Nat):Prop:=
 match all[p.2]? with
 |some o=>BA all o (E x p.1) (Gt T C o (E x p.1) (S x p.1) (λv env st=>env.go o.dst v λenv=>∃y,J y (p.1.set p.2 true)/\(E y (p.1.set p.2 true)).E3 env/\St.le (S y (p.1.set p.2 true)) st) Q)
   ((E x p.1).go o.dst (.Bc []) λenv=>∃y,J y (p.1.set p.2 true)/\(E y (p.1.set p.2 true)).E3 env/\St.le (S y (p.1.set p.2 true)) (S x p.1))
 |none=>True
theorem aN (hT:HD P T) (hC:∀f args st R,C f args st R->DA P f args st R/\Plain P f) {E:X->List Bool->Env} {S:X->List Bool->St} {J:X->List Bool->Prop} {PL:List (List Bool×Nat)}
 (hc:Ik all PL=true) (step:∀p ∈ PL,∀x,J x p.1->qy T C all Q E S J x p) (fin:∀x,J x (List.replicate all.length true)->Q .normal (E x (List.replicate all.length true)) (S x (List.replicate all.length true))):
 ∀(fuel:Nat) (bs:List Bool) (listed:Array Bool) (I:Mem) (β:Nat->Option Nat) (a:Act) (w:World),bs.length=all.length->listed.toList=bs->bs.count false<=fuel->
  (∀j,j<all.length->BO all bs j=true->(bs,j) ∈ PL)->(bs=List.replicate all.length true\/∃j,j<all.length/\BO all bs j=true)->
  ∀x,J x bs->Rel D I0 st0 w0 I β (E x bs) (S x bs) a w->wpAny P .any all.toArray (Dn D I0 st0 w0 Q) fuel listed a w:=by
 have full:∀{bs:List Bool},bs.length=all.length->bs.count false=0->bs=List.replicate all.length true:=λ{bs} hb h0=>by
  rw [List.eq_replicate_iff]
  grind
 have noready:∀{j:Nat},BO all (List.replicate all.length true) j=true->j<all.length->False:=λ{j} h U=>by
  unfold BO at h
  simp_all
 simp only [Ik,Bool.and_eq_true,List.all_eq_true] at hc
 intro fuel
 induction fuel with
 |zero=>
  intro bs listed I β a w hb hl hf hp hr x U h
  have:=full hb AC
  subst this
  refine ⟨?_,⟨I,β,_,_,.normal,h,trivial,fin x U⟩⟩
  rw [List.eq_nil_iff_forall_not_mem]
  intro j U
  obtain ⟨h1,h2⟩:=(EP hl hb).1 U
  grind
 |succ fuel ih=>
  intro bs listed I β a w hb hl hf hp hr x U h
  refine ⟨λh0=>?_,λi hi=>?_⟩
  .rcases hr with rfl|⟨j,h1,h2⟩
   .exact ⟨I,β,_,_,.normal,h,trivial,fin x U⟩
   .have:=(EP hl hb).2 ⟨h1,h2⟩
    simp_all
  .obtain ⟨h1,h2⟩:=(EP hl hb).1 hi
   have hm:=hp i h1 h2
   have hs:=step _ hm x U
   unfold qy at hs
   have ho:all[i]? =some all[i]:=List.getElem?_eq_getElem h1
   simp only [ho] at hs
   obtain ⟨⟨c1,c2⟩,c3⟩:=hc.2 _ hm
   refine MP hT hC (Q:=Q) ho (λ{I β env st a w} h k=>?_) h hs (K:=λenv st=>∃y,J y (bs.set i true)/\(E y (bs.set i true)).E3 env/\St.le (S y (bs.set i true)) st)
   .obtain ⟨y,kj,k⟩:=k
    have hbi:i<bs.length:=AC
    refine ih (bs.set i true) _ I _ a w f9 (by simp [hl]) ?_ (λj U hr=>?_) ?_ y kj ((h.H5 k.2).Jf (Env.Js k.1))
    .have:=List.count_set (a:=true) (i:=i) (l:=bs) (b:=false) hbi
     unfold BO at h2
     grind
    .grind
    grind
theorem rT (hP:TU P T) (hC:∀f args st R,C f args st R->DA P f args st R/\Plain P f) (E:X->List Bool->Env) (S:X->List Bool->St) (J:X->List Bool->Prop) (x0:X) (PL:List (List Bool×Nat))
 (hc:Ik ops.toList PL=true) (j0:J x0 (List.replicate ops.toList.length false)) (h0:(E x0 (List.replicate ops.toList.length false)).E3 env) (s0:St.le (S x0 (List.replicate ops.toList.length false)) st) (step:∀p ∈ PL,∀x,J x p.1->qy T C ops.toList Q E S J x p)
 (fin:∀x,J x (List.replicate ops.toList.length true)->Q .normal (E x (List.replicate ops.toList.length true)) (S x (List.replicate ops.toList.length true))):AW P (.region id ops true) Q env st:=λD I0 st0 w0 I β a w h=>
 wp_region_any hP.m (by
  have U:=hc
  simp only [Ik,Bool.and_eq_true,List.all_eq_true] at U
  have:=aN (D:=D) hP.t hC hc step fin ops.size (List.replicate ops.toList.length false) (Array.replicate ops.size false) I _ a _ GT GT GT (λj hj hr=>?_) ?_ x0 j0 (((h.Ic (Gb.drew w)).H5 s0).Jf (Env.Js h0))
  .simp_all
  .grind
  simp_all)
end
def V.oU (id:Nat):V->V
 | .Ch i o=>bif Nat.beq i id then .BR else .Ch i o
 |v=>v
noncomputable def JT (id:Nat) (l:List (Nat×V)):List (Nat×V):=List.rec (motive:=λ_=>List (Nat×V)) [] (λp _ ih=>(p.1,p.2.oU id)::ih) l
noncomputable def Il (id:Nat) (l:List (Nat×List V)):List (Nat×List V):=List.rec (motive:=λ_=>List (Nat×List V)) [] (λp _ ih=>bif Nat.beq p.1 id then ih else p::ih) l
theorem Vu (id:Nat) (p:Nat×V) (r:List (Nat×V)):JT id (p::r)=(p.1,p.2.oU id)::JT id r:=rfl
theorem Vt (id:Nat) (p:Nat×List V) (r:List (Nat×List V)):Il id (p::r)=bif Nat.beq p.1 id then Il id r else p::Il id r:=rfl
theorem L6 {id t:Nat}:∀{l:List (Nat×V)} {v:V},assoc (JT id l) t=some v->∃u,assoc l t=some u/\v=u.oU id
 |[],v,h=>by cases h
 |p::r,v,h=>by
  rw [Vu,Bs] at h
  rw [Bs]
  cases hb:Nat.beq p.1 t with
  |true=>simp_all
  |false=>rw [hb] at h;simp only [cond_false] at h |-;exact L6 h
theorem ID {id i:Nat}:∀{l:List (Nat×List V)} {cs:List V},assoc (Il id l) i=some cs->i≠id/\assoc l i=some cs
 |[],cs,h=>by cases h
 |p::r,cs,h=>by
  rw [Vt] at h
  cases hb:Nat.beq p.1 id with
  |true=>
   rw [hb] at h
   simp only [cond_true] at h
   have U:=Nat.eq_of_beq_eq_true hb
   obtain ⟨h1,h2⟩:=ID h
   refine ⟨h1,?_⟩
   rw [Bs]
   have:Nat.beq p.1 i=false:=by
    rw [U]
    cases e:Nat.beq id i with
    |true=>simp_all
    |false=>rfl
   simp_all
  |false=>
   rw [hb] at h
   simp only [cond_false] at h
   rw [Bs] at h |-
   cases e:Nat.beq p.1 i with
   |true=>
    grind
   |false=>rw [e] at h;exact ID h
theorem fS {X:List Deferred->Mem->St->World->Act->World->Prop} {st:St} (t id:Nat) (ht:env.get t=.Ch id 0) (hb:assoc env.boxes id=some cs) (hn:OK cs=true)
 (h:∀b,st.fresh b->∀D I0 st0 w0 I β a w,Rel D I0 st0 w0 I β {env with tmps:=(t,.ptr b 0)::JT id env.tmps,boxes:=Il id env.boxes} (st.Aa b cs) a w->X D I0 st0 w0 a w):
 ∀D I0 st0 w0 I β a w,Rel D I0 st0 w0 I β env st a w->X D I0 st0 w0 a w:=λD I0 st0 w0 I β a w U=>by
 obtain ⟨b,hβ,hl⟩:=U.f.box id cs hb
 obtain ⟨s1,s2,s3,s4,s5,s6⟩:=U.f.sep id b hβ
 have h1:=U.f.get t
 rw [ht] at h1
 obtain ⟨b',hβ',h1⟩:∃b,β id=some b/\_:=h1
 obtain rfl:b'=b:=Option.some.inj (hβ'.symm.trans hβ)
 refine h b' ⟨s5,s6⟩ D I0 st0 w0 I (λi=>if i=id then none else β i) a w ⟨⟨U.fr.os,U.fr.tape,U.fr.output,U.fr.size,U.fr.Ie,U.fr.le,U.fr.new,U.fr.LZ,λx hx=>?_⟩,⟨U.s.cell,U.s.shape,?_,?_,?_,U.s.TQ⟩,⟨U.f.size,?_,?_,?_,?_,?_,U.f.defers⟩⟩
 .by_cases e:x=b'
  .omega
  .refine U.fr.LY x (hx.imp (λhx=>?_) (λhx=>hx))
   simp only [St.Aa] at hx
   simp_all
 .intro x us hx
  by_cases e:x=b'
  .subst e
   simp only [St.Aa,if_true,Option.some.injEq] at hx
   subst hx
   exact hl.cells hn
  .simp only [St.Aa] at hx
   rw [if_neg e] at hx
   exact U.s.box x us hx
 .intro x hx
  by_cases e:x=b'
  .subst e;exact ⟨s3,s6,s4⟩
  .simp only [St.Aa] at hx
   rw [if_neg e] at hx
   exact U.s.IE x hx
 .exact U.s.hw
 .intro t' v e
  rw [Bs] at e
  cases hbq:Nat.beq t t' with
  |true=>
   rw [hbq] at e
   have:=Nat.eq_of_beq_eq_true hbq
   subst this
   simp only [cond_true,Option.some.injEq] at e
   subst e
   refine A6.of ?_
   simp only [A3]
   exact h1
  |false=>
   rw [hbq] at e
   simp only [cond_false] at e
   obtain ⟨u,hu,rfl⟩:=L6 e
   have hk:=U.f.tmps t' u hu
   cases u with
   |Ch i o=>
    show A6 I _ (bif Nat.beq i id then .BR else .Ch i o) _
    cases hi:Nat.beq i id with
    |true=>exact A6.of (I:=I) (β:=_) (v:=.BR) trivial
    |false=>
     obtain ⟨b2,g1,g2⟩:∃b,β i=some b/\_:=hk
     refine ⟨b2,?_,g2⟩
     have:i≠id:=λx=>by simp_all
     simp_all
   |_=>exact hk
 .intro i us e
  obtain ⟨h2,h3⟩:=ID e
  obtain ⟨b2,g1,g2⟩:=U.f.box i us h3
  simp_all
 .intro i x e
  split at e
  .cases e
  .exact U.f.BU i x e
 .intro i j x e1 e2
  split at e1
  .cases e1
  .split at e2
   .cases e2
   .exact U.f.inj i j x e1 e2
 .intro i x e
  split at e
  .cases e
  .rename_i hi
   obtain ⟨g1,g2,g3,g4,g5,g6⟩:=U.f.sep i x e
   have hx:x≠b':=λhx=>by subst hx;exact hi (U.f.inj i id x e hβ)
   exact ⟨g1,g2,g3,g4,by simp only [St.Aa];simp_all,g6⟩
theorem Mg {P:Program} {c:Code} {st:St} (t id:Nat) (U:env.get t=.Ch id 0) (hb:assoc env.boxes id=some cs) (hn:OK cs=true)
 (h:∀b,st.fresh b->AW P c Q {env with tmps:=(t,.ptr b 0)::JT id env.tmps,boxes:=Il id env.boxes} (st.Aa b cs)):AW P c Q env st:=
 fS (X:=λD I0 st0 w0 a w=>c.wp P (Dn D I0 st0 w0 Q) a w) t id U hb hn h
def rI (Q:Env->St->Prop) (env:Env) (st:St):Prop:=∀D I0 st0 w0 I β a w,Rel D I0 st0 w0 I β env st a w->∃I β env' st',Rel D I0 st0 w0 I β env' st' a w/\Q env' st'
theorem rI.here {Q:Env->St->Prop} {st:St} (h:Q env st):rI Q env st:=λD I0 st0 w0 I β a w U=>⟨I,β,env,st,U,h⟩
theorem rI.pub {Q:Env->St->Prop} {st:St} (t id:Nat) (U:env.get t=.Ch id 0) (hb:assoc env.boxes id=some cs) (hn:OK cs=true)
 (h:∀b,st.fresh b->rI Q {env with tmps:=(t,.ptr b 0)::JT id env.tmps,boxes:=Il id env.boxes} (st.Aa b cs)):rI Q env st:=
 fS (X:=λD I0 st0 w0 a w=>∃I β env' st',Rel D I0 st0 w0 I β env' st' a w/\Q env' st') t id U hb hn h
section
variable {D:List Deferred} {P:Program} {T:List (Nat×Ty)} {C:FuncId->List V->St->(As->St->Prop)->Prop} {I0 I:Mem} {st0 st:St} {w0 w:World} {β:Nat->Option Nat} {env:Env} {a:Act}
theorem SH {J:Mem} {b:Nat}:∀{l:List V} {us:List Value} {o:Nat},Ap I l us->I.le J->(∀j c,us[j]? =some c->J.cell b (o+j)=some c)->GW J b o l
 |[],us,o,h,hl,U=>trivial
 |v::r,us,o,h,hl,U=>by
  simp only [Ap] at h
  obtain ⟨c,s,rfl,h1,h2⟩:=h
  exact ⟨⟨c,U 0 c rfl,A3.mono hl _ _ h1⟩,SH h2 hl λj c e=>by rw [show o+1+j=o+(j+1) by omega];exact U (j+1) c (by simpa using e)⟩
theorem P7 {c:Code} {st:St} (t id:Nat) (ht:env.get t=.Ch id 0) (hb:assoc env.boxes id=some cs) (hn:OK cs=true)
 (h:AW P c Q {env with tmps:=(t,.Gd cs 0)::JT id env.tmps,boxes:=Il id env.boxes} st):AW P c Q env st:=
 Mg t id ht hb hn λb hf D I0 st0 w0 I β a w hr=>by
  obtain ⟨vs,hv,hl,hr'⟩:=hr.freeze (b:=b) (cs:=cs) (by simp [St.Aa])
  refine h D I0 st0 w0 _ β a w (Rel.H5 ⟨hr'.fr,hr'.s,{hr'.f with tmps:=?_}⟩ (St.cm hf.1))
  intro t' v e
  have h0:=λv e=>hr'.f.tmps t' v e
  have h1:=hr.f.tmps t (.ptr b 0) (by rw [Bs];simp)
  rw [Bs] at e
  cases U:Nat.beq t t' with
  |true=>
   rw [U] at e
   have:=Nat.eq_of_beq_eq_true U
   subst this
   simp only [cond_true,Option.some.injEq] at e
   subst e
   have h2:A3 I (.ptr b 0) (a.tmps.getD t undef):=h1
   refine A6.of ?_
   simp only [A3] at h2 |-
   exact ⟨b,0,h2,SH hv hl λj c e=>by
    have:=Mem.Mk (I:=I) (b:=b) (h:=0) (n:=vs.length) e
    simp_all⟩
  |false=>
   rw [U] at e
   exact h0 v (by rw [Bs,U];exact e)
theorem oI (hM:∀f args st (R R':As->St->Prop),(∀r s,R r s->R' r s)->C f args st R->C f args st R')
 (hm:Ix sched all=true)
 (h:Fh T C all sched L (Bv (L.map some) env.boxes) Q sched env st):
 (∀(bs:List Bool) (e:Env) (st1:St) (i:Nat) (o:Oper),bs.length=all.length->LU T C all sched st L (Bv (L.map some) env.boxes) Q env bs e st1->all[i]? =some o->BO all bs i=true->
   BA all o e (Gt T C o e st1 (λv env' st'=>env'.go o.dst v λenv''=>LU T C all sched st L (Bv (L.map some) env.boxes) Q env (bs.set i true) env'' st') (λx _ s=>∀e',Q x e' s)) (e.go o.dst (.Bc []) λenv'=>LU T C all sched st L (Bv (L.map some) env.boxes) Q env (bs.set i true) env' st1))/\
 (∀(bs:List Bool) (e:Env) (st1:St),bs.length=all.length->LU T C all sched st L (Bv (L.map some) env.boxes) Q env bs e st1->bs=List.replicate all.length true\/∃j,j<all.length/\BO all bs j=true)/\
 (∀(e:Env) (st1:St),LU T C all sched st L (Bv (L.map some) env.boxes) Q env (List.replicate all.length true) e st1->∃env',(e.eqv env'/\env'.boxes=e.boxes/\env'.gl=e.gl)/\Q .normal env' st1)/\
 LU T C all sched st L (Bv (L.map some) env.boxes) Q env (List.replicate all.length false) env st:=by
 have M:=QN.of hm
 have hb0:∀id cs,assoc (Bv (L.map some) env.boxes) id=some cs->assoc env.boxes id=some cs/\id ∉ L:=λid cs e=>by
  obtain ⟨h1,h2⟩:=JS e
  simp_all
 have hget:∀bs:List Bool,∀j,j<bs.length->bs.getD j true=bs.getD j false:=λbs j hj=>by simp_all
 have ready:∀{bs:List Bool} {i:Nat} {o:Oper},all[i]? =some o->bs.length=all.length->BO all bs i=true->bs.getD i false=false/\∀x ∈ o.after,Region.binds .any x=true->bs.getD x.on false=true:=by
  intro bs i o ho hb hrd
  have hi:i<bs.length:=by rw [hb];exact (List.getElem?_eq_some_iff.1 ho).1
  unfold BO at hrd
  rw [ho,hget bs i hi] at hrd
  simp only [Bool.and_eq_true,Bool.not_eq_true',List.all_eq_true] at hrd
  refine ⟨hrd.1,λx hx hb=>?_⟩
  have:=hrd.2 x f9
  rw [hb] at this
  simpa using this
 have listed:∀{bs:List Bool},(∀i o,all[i]? =some o->bs.getD i false=true->∀x ∈ o.after,Region.binds .any x=true->bs.getD x.on false=true)->
  ∀(n:Nat) {i j:Nat} {o:Oper},reaches all n i j=true->all[i]? =some o->(∀x ∈ o.after,Region.binds .any x=true->bs.getD x.on false=true)->bs.getD j false=true:=by
  intro bs cl n
  induction n with
  |zero=>intro i j o h;cases h
  |succ n ih=>
   intro i j o h ho ha
   rw [reaches,ho] at h
   simp only [Bool.or_eq_true,List.any_eq_true,Bool.and_eq_true] at h
   rcases h with ⟨x,h1,h2,h3⟩|⟨x,h1,⟨h2,h3⟩,h4⟩
   .have:=Nat.eq_of_beq_eq_true h3
    grind
   .have hx:=ha x f9 h2
    cases hp:all[x.on]? with
    |none=>
     cases n with
     |zero=>cases h4
     |succ n=>rw [reaches,hp] at h4;cases h4
    |some p=>grind
 refine ⟨?_,?_,?_,?_⟩
 .intro bs e st1 i o hbl hinv ho hrd
  obtain ⟨vs,pre,post,Ef,F,hh⟩:=hinv
  obtain ⟨hbi,haft⟩:=ready ho hbl hrd
  have hil:i<bs.length:=by rw [hbl];exact (List.getElem?_eq_some_iff.1 ho).1
  have CR:∀{Ds:List (Nat×Bool)} {q:Bool} {r:List (Nat×Bool)},sched=Ds++(i,q)::r->∀t ∈ Oper.CR all o,assoc e.tmps t=G6 all env.tmps vs (λk=>decide (k ∈ Ds.map (·.1))) t:=by
   intro Ds q r hs t ht
   rw [F.tm]
   refine Da λk p hk hd=>⟨?_,λ_=>rfl⟩
   rcases Nat.lt_trichotomy k i with hki|rfl|hki
   .have h1:=M.lo i k o p t ho hk hd ht hki
    have h2:=listed F.cl _ h1 ho haft
    have h3:=M.ahead _ h1 _ _ _ hs
    grind
   .show bs.getD k false=decide (k ∈ Ds.map (·.1))
    rw [hbi,decide_eq_false (M.nodup _ _ _ _ hs)]
   .have h1:=M.hi i k o p t ho hk hd ht hki
    show bs.getD k false=decide (k ∈ Ds.map (·.1))
    have h2:bs.getD k false=false:=by
     cases hb:bs.getD k false with
     |false=>rfl
     |true=>have:=listed F.cl _ h1 hk (F.cl k p hk hb);grind
    have h3:k ∉ Ds.map (·.1):=λhm=>by
     obtain ⟨x,hx,hxe⟩:=List.mem_map.1 hm
     obtain ⟨pa,ra,ea⟩:=List.append_of_mem hx
     have h4:=M.ahead _ h1 pa x.2 (ra++(i,q)::r) (by grind)
     exact M.nodup _ _ _ _ hs (by grind)
    grind
  have cl':∀k p,all[k]? =some p->(bs.set i true).getD k false=true->∀x ∈ p.after,Region.binds .any x=true->(bs.set i true).getD x.on false=true:=by
   intro k p hp hk x hx hb
   rw [Fb hil] at hk |-
   split
   .rfl
   .split at hk
    .grind
    .exact F.cl k p hp hk x hx hb
  by_cases hmem:i ∈ pre.map (·.1)
  . 
   obtain ⟨⟨i',q⟩,hx,rfl⟩:=List.mem_map.1 hmem
   obtain ⟨Ds,r,epre⟩:=List.append_of_mem hx
   cases q with
   |false=>have:=F.mR _ hx;grind
   |true=>
    have hs:sched=Ds++(i',true)::(r++post):=by rw [F.split,epre];simp
    obtain ⟨hd,hy⟩:=F.hy Ds i' r o epre ho
    have hy:=hy e (CR hs) F.n2 F.s2 F.g2
    obtain ⟨o',ho',U⟩:=M.kind _ _ _ _ hs
    have ho2:all[i']? =some o:=ho
    rw [ho2] at ho'
    cases ho'
    have U:Fj o.op=true:=U
    have hqk:Cc o.op=true:=by
     revert U
     cases o.op<;>simp [Fj,Cc]
    have step:e.go o.dst (vs i') (λe'=>LU T C all sched st L (Bv (L.map some) env.boxes) Q env (bs.set i' true) e' st1):=by
     refine Pm (λt ht=>by rw [F.s2];grind) ⟨vs,pre,post,Ef,⟨F.split,λj hj=>?_,λj hj=>?_,F.boxes,F.n1,F.n2,F.s1,F.s2,F.g1,F.g2,λt=>?_,F.tf,F.bx,F.go,F.zg,F.tn,F.hy,cl'⟩,hh⟩
     .rw [Fb hil] at hj
      split at hj
      .grind
      .exact F.sub j hj
     .rw [Fb hil]
      split
      .rfl
      .exact F.mR j hj
     .have:=Gy (S:=λj=>bs.getD j false) (S':=λj=>(bs.set i' true).getD j false) (v:=vs i') M.dst ho F.tm (λj hj=>by grind) (by grind) t
      refine this.trans (Da λk p _ _=>⟨rfl,λ_=>?_⟩)
      unfold O5
      grind
    refine FZ (λx=>?_) (λx=>?_) hy
    .have hbx:GA sched all i'=true->e.boxes=env.boxes:=λhe=>F.tn λk ok hk hok=>by
      unfold GA at he
      have h1:=List.all_eq_true.1 he (k,false) (by grind)
      simp only [Bool.false_or,hok] at h1
      cases hst:Dm ok.op with
      |false=>rfl
      |true=>
       rw [hst] at h1
       simp only [Bool.not_true,Bool.false_or] at h1
       have:=listed F.cl _ h1 hok (F.cl k ok hok (F.mR k hk))
       grind
     rcases x with x|⟨he,x⟩|⟨he,x⟩
     .unfold BN at x
      refine DD (T:=T) (C:=C) (env:=e.only (Bv (L.map some) env.boxes) (Oper.CR all o)) (env':=e) (st:=Kp) (st':=st1) hM hqk (.inr ⟨U,λ_=>rfl⟩) (HJ λt _=>rfl) F.bx (λv s s' g k=>?_) (λ_ _ k=>k.elim) x
      grind
     .have hini:st1=st:=F.zg λk hk=>by
       unfold HT at he
       have h1:=List.all_eq_true.1 he (k,false) (by grind)
       simp only [Bool.false_or] at h1
       have h2:=F.mR k hk
       cases hp:all[k]? with
       |none=>
        grind
       |some p=>
        have:=listed F.cl _ h1 hp (F.cl k p hp h2)
        grind
      subst hini
      unfold BN at x
      have hb:=hbx (KJ he)
      refine DD (T:=T) (C:=C) (env:=e.only env.boxes (Oper.CR all o)) (env':=e) (st:=st1) (st':=st1) hM hqk (.inl rfl) (HJ λt _=>rfl) (λid cs h=>by rw [hb];exact h) (λv s s' g k=>?_) (λ_ _ k=>k.elim) x
      grind
     .unfold BN at x
      have hb:=hbx he
      refine DD (T:=T) (C:=C) (env:=e.only env.boxes (Oper.CR all o)) (env':=e) (st:=Kp) (st':=st1) hM hqk (.inr ⟨U,λ_=>rfl⟩) (HJ λt _=>rfl) (λid cs h=>by rw [hb];exact h) (λv s s' g k=>?_) (λ_ _ k=>k.elim) x
      grind
    grind
  . 
   obtain ⟨x,hx,rfl⟩:=List.mem_map.1 (M.cover i (List.getElem?_eq_some_iff.1 ho).1)
   rw [F.split] at hx
   have hxp:x ∈ post:=by
    rcases List.mem_append.1 hx with g|g
    .grind
    .exact g
   cases post with
   |nil=>cases hxp
   |cons p r=>
    obtain ⟨k,q⟩:=p
    have hq:q=false:=hh _ _ rfl
    subst hq
    have hxe:x=(k,false):=by
     rcases List.mem_cons.1 hxp with g|g
     .exact g
     .have h1:=M.chain pre k r F.split x g
      have h2:=listed F.cl _ h1 ho haft
      exact absurd (F.sub k h2) (M.nodup _ _ _ _ F.split)
    subst hxe
    have ho:all[k]? =some o:=ho
    have hbi:bs.getD k false=false:=hbi
    have hil:k<bs.length:=hil
    have hmem:k ∉ pre.map (·.1):=hmem
    have hgo:=F.go
    rw [MA] at hgo
    simp only [ho] at hgo
    have ag:∀t ∈ Oper.CR all o,assoc Ef.tmps t=assoc e.tmps t:=λt ht=>by rw [F.tf,CR F.split t ht]
    have hag:=Rp (all:=all) (o:=o) ag
    have next:∀(v:V) (s:St) (B:List (Nat×List V)),(∀id cs,assoc (Bv (L.map some) env.boxes) id=some cs->assoc B id=some cs)->(Dm o.op=false->B=e.boxes)->
     Env.go {Ef with boxes:=B} o.dst v (λenv'=>Fh T C all sched L (Bv (L.map some) env.boxes) Q r env' s)->
     Env.go {e with boxes:=B} o.dst v (λe'=>LU T C all sched st L (Bv (L.map some) env.boxes) Q env (bs.set k true) e' s):=by
     intro v s B hB hBe hk
     obtain ⟨hd,hk⟩:=IK hk
     have hd:∀t,o.dst=some t->t<Ef.sz:=hd
     have hmp:∀j,j≠k->(j ∈ (pre++[(k,false)]).map (·.1)↔j ∈ pre.map (·.1)):=λj hj=>by simp [hj]
     refine Pm (λt ht=>by show t<e.sz;rw [F.s2,<-F.s1];grind) (KX M r (O5 vs k v) (pre++[(k,false)]) {Ef with boxes:=B,tmps:=Tq Ef.tmps o.dst v} ⟨by rw [F.split];simp,λj hj=>?_,λj hj=>?_,rfl,F.n1,F.n2,F.s1,F.s2,F.g1,F.g2,λt=>?_,λt=>?_,hB,hk,λhk=>absurd (List.mem_append_right _ List.mem_cons_self) (hk k),λhk=>(hBe (hk k o (List.mem_append_right _ List.mem_cons_self) ho)).trans (F.tn λk o hm ho=>hk k o (List.mem_append_left _ hm) ho),λDs j r' o' hs ho'=>?_,cl'⟩)
     .rw [Fb hil] at hj
      rw [List.map_append]
      split at hj
      .grind
      .exact List.mem_append_left _ (F.sub j hj)
     .rw [Fb hil]
      split
      .rfl
      .rename_i hne
       rcases List.mem_append.1 hj with g|g
       .exact F.mR j g
       grind
     .exact Gy (S:=λj=>bs.getD j false) (S':=λj=>(bs.set k true).getD j false) M.dst ho F.tm (λj hj=>by grind) (by grind) t
     .exact Gy (S':=λj=>decide (j ∈ (pre++[(k,false)]).map (·.1))) M.dst ho F.tf (λj hj=>by grind) GT t
     .rcases MI hs with ⟨rfl,e2⟩|⟨r2,e2⟩
      .cases e2
      .have hj:=F.hy Ds j r2 o' e2 ho'
       refine hj.O5 (λe=>?_) (λhm=>hmem ?_)
       .grind
       grind
    have heE:∀(E:Env),{E with boxes:=E.boxes}=E:=λE=>rfl
    refine IL ag (FZ (λx=>?_) (λx=>?_) hgo)
    .obtain ⟨x1,x⟩:=Ay.1 x
     obtain ⟨o',ho',U⟩:=M.kind _ _ _ _ F.split
     rw [ho] at ho'
     cases ho'
     have U:(Cc o.op||Dm o.op)=true:=U
     cases hqk:Cc o.op with
     |true=>
      refine DD (T:=T) (C:=C) (env:=Ef) (env':=e) (st:=st1) (st':=st1) hM hqk (.inl rfl) hag (λid cs hb=>by rw [<-F.boxes];exact hb) (λv s s' g hk=>?_) (λv s hk=>hk) x
      have:s'=s:=by rcases g with ⟨_,g⟩|⟨g1,g2⟩;exact g;rw [g1,g2]
      subst this
      have:=next v s' e.boxes F.bx (λ_=>rfl) (by rw [<-F.boxes];exact hk)
      omega
     |false=>
      rw [hqk] at U
      have hst:Dm o.op=true:=by simpa using U
      cases hop:o.op with
      |store t p y=>
       refine La (T:=T) (C:=C) hop x1 hag F.boxes (by rw [F.n1,F.n2]) (by rw [F.s1,F.s2]) (by rw [F.g1,F.g2]) (λs B hB hk=>?_) x
       refine next .BR s B (λid cs hb=>?_) (λh=>by grind) hk
       obtain ⟨_,h2⟩:=hb0 id cs hb
       exact hB id cs h2 (by rw [F.boxes];exact F.bx id cs hb)
      |_=>rw [hop] at hst;cases hst
    .have:=next (.Bc []) st1 e.boxes F.bx (λ_=>rfl) (by rw [<-F.boxes];exact x)
     omega
 .intro bs e st hbl hinv
  obtain ⟨vs,pre,post,Ef,F,hh⟩:=hinv
  by_cases hall:∀p ∈ sched,bs.getD p.1 false=true
  .left
   rw [List.eq_replicate_iff]
   refine ⟨hbl,λb hb=>?_⟩
   obtain ⟨j,hj,rfl⟩:=List.mem_iff_getElem.1 hb
   obtain ⟨p,hp,e⟩:=List.mem_map.1 (M.cover j AC)
   grind
  .right
   have hex:∃pr p po,sched=pr++p::po/\bs.getD p.1 false=false/\∀x ∈ pr,bs.getD x.1 false=true:=by
    clear F hh
    revert hall
    generalize sched=l
    intro hall
    induction l with
    |nil=>grind
    |cons x l ih=>
     cases hb:bs.getD x.1 false with
     |false=>exact ⟨[],x,l,rfl,hb,λy hy=>by cases hy⟩
     |true=>
      obtain ⟨pr,p,po,h1,h2,h3⟩:=ih λh=>hall λp hp=>by grind
      grind
   obtain ⟨pr,⟨k,q⟩,po,h1,h2,h3⟩:=hex
   obtain ⟨o,ho,_⟩:=M.kind _ _ _ _ h1
   have hk:k<all.length:=(List.getElem?_eq_some_iff.1 ho).1
   refine ⟨k,hk,?_⟩
   unfold BO
   rw [ho,hget bs k AC,h2]
   simp only [Bool.not_false,Bool.true_and,List.all_eq_true]
   intro x hx
   cases hb:Region.binds .any x with
   |false=>rfl
   |true=>
    obtain ⟨y,hy,e⟩:=List.mem_map.1 (M.back _ _ _ _ o h1 ho x (by grind) hb)
    grind
 .intro e st hinv
  obtain ⟨vs,pre,post,Ef,F,hh⟩:=hinv
  have hp:post=[]:=by
   cases post with
   |nil=>rfl
   |cons p r=>
    obtain ⟨o,ho,_⟩:=M.kind _ _ _ _ F.split
    have:=F.sub p.1 (by grind)
    exact absurd this (M.nodup _ _ _ _ F.split)
  subst hp
  refine ⟨Ef,⟨⟨λt=>?_,λt=>by rw [F.boxes],by rw [F.n1,F.n2],by rw [F.s1,F.s2]⟩,F.boxes,by rw [F.g1,F.g2]⟩,F.go⟩
  rw [F.tm,F.tf]
  refine Da λk p hk _=>⟨?_,λ_=>rfl⟩
  have hlt:=(List.getElem?_eq_some_iff.1 hk).1
  have h1:(List.replicate all.length true).getD k false=true:=by rw [List.getD_eq_getElem?_getD,List.getElem?_replicate,if_pos hlt];rfl
  show (List.replicate all.length true).getD k false=decide (k ∈ pre.map (·.1))
  rw [h1,decide_eq_true (F.sub k h1)]
 .have hf:∀j,(List.replicate all.length false).getD j false=false:=λj=>by grind
  have h0:∀(vs:Nat->V) t,G6 all env.tmps vs (λj=>(List.replicate all.length false).getD j false) t=assoc env.tmps t:=λvs t=>by
   unfold G6;grind
  refine KX M sched (λ_=>.BR) [] env ⟨rfl,λj hj=>(by grind),λj hj=>(by cases hj),rfl,rfl,rfl,rfl,rfl,rfl,rfl,λt=>(h0 _ t).symm,λt=>?_,λid cs hb=>(hb0 id cs hb).1,h,λ_=>rfl,λ_=>rfl,λDs j r o e=>(by cases Ds<;>cases e),λi o ho hi=>(by grind)⟩
  unfold G6
  grind
def P9 (A:List Oper) (U os:Oper) (t:Nat):Bool:=
 U.after.toList.isEmpty&&(U.guard.isNone&&(os.guard.isNone&&(Dm os.op&&(A.all (λo=>o.guard.isNone&&(Cc o.op&&(!(o.dst==some t)&&(!((Oper.CR A o).contains t)&&o.after.toList.all λe=>Nat.blt e.on A.length))))&&
  ((List.range (A.length+1)).all (λi=>os.after.toList.any λe=>Nat.beq e.on i&&Region.binds .any e)&&os.after.toList.all λe=>Nat.ble e.on A.length)))))
def U5 (T:List (Nat×Ty)) (C:FuncId->List V->St->(As->St->Prop)->Prop) (U os:Oper) (Q:AP->Env->St->Prop) (x:AP) (e:Env) (s:St):Prop:=match x with
 | .normal=>Gt T C U e s (λv e s=>e.go U.dst v λe=>Gt T C os e s (λv e s=>e.go os.dst v λe=>Q .normal e s) (λx _ s=>∀e',Q x e' s)) (λ_ _ _=>True)
 |x=>∀e',Q x e' s
structure zd (t:Nat) (z:List V) (e0 e:Env):Prop where
 boxes:e.boxes=(e0.BU,z)::e0.boxes
 BU:e.BU=e0.BU+1
 sz:e.sz=e0.sz
 gl:e.gl=e0.gl
 tm:∀s,assoc e.tmps s=if s=t then some (.Ch e0.BU 0) else assoc e0.tmps s
def Xap (I:List Bool->Env->St->Prop) (n t:Nat) (z:List V) (Q:AP->Env->St->Prop) (bs:List Bool) (e:Env) (s:St):Prop:=∃U x y,bs=U++[x,y]/\U.length=n/\
 ((x=false/\y=false/\I U e s)\/(x=true/\y=false/\∃e0,I U e0 s/\zd t z e0 e)\/(x=true/\y=true/\U=List.replicate n true/\∃env',e.eqv env'/\Q .normal env' s))
theorem Jl {l r:List Bool} {i:Nat} {d:Bool} (h:i<l.length):(l++r).getD i d=l.getD i d:=by
 rw [List.getD_eq_getElem?_getD,List.getD_eq_getElem?_getD,List.getElem?_append_left h]
theorem zd.get {t:Nat} {z:List V} {e0 e:Env} (h:zd t z e0 e) {s:Nat} (U:s≠t):e0.get s=e.get s:=by
 unfold Env.get
 rw [h.tm,if_neg U]
theorem zd.go {z:List V} {e0:Env} (h:zd t z e0 e) {d:Option Nat} (U:d≠some t) (v:V):zd t z {e0 with tmps:=Tq e0.tmps d v} {e with tmps:=Tq e.tmps d v}:=
 ⟨h.boxes,h.BU,h.sz,h.gl,λs=>by
   show assoc (Tq e.tmps d v) s=if s=t then some (.Ch e0.BU 0) else assoc (Tq e0.tmps d v) s
   rw [Gj,Gj,h.tm]
   by_cases h1:d=some s
   .rw [if_pos h1,if_pos h1,if_neg (λe=>U (by rw [h1,e]))]
   .rw [if_neg h1,if_neg h1]⟩
theorem LU.facts {sti:St} {b0:List (Nat×List V)} {U:Env} {bs:List Bool} {st:St} (hq:∀(k:Nat) (o:Oper),all[k]? =some o->Dm o.op=false) (h:LU T C all sched sti L b0 Q U bs e st):
 e.BU=U.BU/\e.sz=U.sz/\e.gl=U.gl/\e.boxes=U.boxes:=by
 obtain ⟨vs,pre,post,Ef,F,_⟩:=h
 exact ⟨F.n2,F.s2,F.g2,F.tn λk o _ ho=>hq k o ho⟩
theorem TL {o:Op} (h:Cc o=true):Dm o=false:=by
 cases o<;>first|rfl|cases h
theorem lK {U:Oper} {s:St} {K:V->Env->St->Prop} {z:Ty} (ho:U.op=.alloc ty) (hz:assoc T ty=some z):Gt T C U e s K Q=J1 e s U.dst z.zero.cells K:=by
 simp only [Gt,ho,hz]
theorem XL (hT:HD P T) (hC:∀f args st R,C f args st R->DA P f args st R/\Plain P f) (hM:∀f args st (R R':As->St->Prop),(∀r s,R r s->R' r s)->C f args st R->C f args st R')
 {A:List Oper} {oa os:Oper} {z:Ty} (hm:Ix sched A=true) (hk:P9 A oa os t=true) (ho:oa.op=.alloc ty) (hd:oa.dst=some t) (hz:assoc T ty=some z) (hts:t<env.sz) (hgl:env.TG (some t)=false)
 (h:Fh T C A sched L (Bv (L.map some) env.boxes) (U5 T C oa os Q) sched env st) (hr:Rel D I0 st0 w0 I β env st a w):
 wpAny P .any (A++[oa,os]).toArray (Dn D I0 st0 w0 Q) (A++[oa,os]).toArray.size (Array.replicate (A++[oa,os]).toArray.size false) a {w with drawn:=w.drawn+1}:=by
 obtain ⟨step,live,fin,start⟩:=oI (T:=T) (C:=C) hM hm h
 have hr:=hr.Ic (Gb.drew w)
 generalize hI:LU T C A sched st L (Bv (L.map some) env.boxes) (U5 T C oa os Q) env=I0' at step live fin start
 unfold P9 at hk
 simp only [Bool.and_eq_true,List.all_eq_true,List.any_eq_true,List.mem_range,Bool.not_eq_true'] at hk
 obtain ⟨k1,k2,k3,k4,k5,k6,k7⟩:=hk
 have hAo:∀(i:Nat) (o:Oper),A[i]? =some o->o.guard=none/\Cc o.op=true/\o.dst≠some t/\t ∉ Oper.CR A o/\∀e ∈ o.after.toList,e.on<A.length:=λi o hi=>by
  obtain ⟨h1,h2,h3,h4,h5⟩:=k5 o (List.mem_of_getElem? hi)
  refine ⟨by simpa using h1,h2,by simpa using h3,by simpa using h4,λe he=>?_⟩
  have:=h5 e he
  rw [Nat.blt_eq] at this;exact this
 have facts:∀{bs e s},I0' bs e s->e.BU=env.BU/\e.sz=env.sz/\e.gl=env.gl/\e.boxes=env.boxes:=λ{bs e s} hi=>by
  rw [<-hI] at hi
  exact LU.facts (λk o ho=>TL (hAo k o ho).2.1) hi
 have fresh:assoc env.boxes env.BU=none:=by
  cases e:assoc env.boxes env.BU with
  |none=>rfl
  |some cs=>
   obtain ⟨b,hb,_⟩:=hr.f.box _ _ e
   exact absurd (hr.f.BU _ _ hb) (Nat.lt_irrefl _)
 have hga:oa.guard=none:=by simpa using k2
 have hgs:os.guard=none:=by simpa using k3
 have hla:(A++[oa,os]).length=A.length+2:=GT
 refine dX hT hC (Inv:=Xap I0' A.length t z.zero.cells Q) ?_ ?_ ?_ _ (List.replicate (A++[oa,os]).length false) _ _ β env st _ _ GT GT GT ?_ hr
 .rintro bs e s i o hbl ⟨bA,x,y,rfl,hlen,U⟩ hio hrd
  have rdA:i<A.length->BO A bA i=true:=λhi=>by
   rw [List.getElem?_append_left hi] at hio
   unfold BO at hrd |-
   rw [List.getElem?_append_left hi,hio] at hrd
   rw [hio]
   rw [Jl AC] at hrd
   simp only [Bool.and_eq_true,List.all_eq_true] at hrd |-
   refine ⟨hrd.1,λe he=>?_⟩
   have:=hrd.2 e he
   rwa [Jl (by rw [hlen];exact (hAo i o hio).2.2.2.2 e he)] at this
  rcases Nat.lt_trichotomy i A.length with hi|rfl|hi
  .have hrA:=rdA hi
   rw [List.getElem?_append_left hi] at hio
   obtain ⟨g1,g2,g3,g4,g5⟩:=hAo i o hio
   have hset:∀x y,(bA++[x,y]).set i true=bA.set i true++[x,y]:=λx y=>List.set_append_left _ _ AC
   have hls:(bA.set i true).length=A.length:=by simpa using hlen
   unfold BA
   rw [g1]
   rcases U with ⟨rfl,rfl,U⟩|⟨rfl,rfl,e0,U,ha⟩|⟨rfl,rfl,U,_⟩
   .have:=step bA e s i o hlen U hio hrA
    unfold BA at this
    rw [g1] at this
    refine DD (env:=e) (env':=e) (st:=s) (st':=s) hM g2 (.inl rfl) (λ_ _=>rfl) (λid cs h=>h) (λv s1 s2 g k=>?_) (λv s1 k=>k e e) this
    have hs:s2=s1:=by rcases g with ⟨_,g⟩|⟨g1,g2⟩;exact g;rw [g1,g2]
    subst hs
    obtain ⟨q1,q2⟩:=IK k
    exact Pm q1 ⟨bA.set i true,false,false,hset _ _,hls,.inl ⟨rfl,rfl,q2⟩⟩
   .have:=step bA e0 s i o hlen U hio hrA
    unfold BA at this
    rw [g1] at this
    have hf:=facts U
    refine DD (env:=e0) (env':=e) (st:=s) (st':=s) hM g2 (.inl rfl) (λx hx=>?_) (λid cs h=>?_) (λv s1 s2 g k=>?_) (λv s1 k=>k e e) this
    .cases x with
     |tmp t'=>
      refine ha.get λe=>g4 ?_
      subst e
      exact List.mem_append.2 (.inl (List.mem_filterMap.2 ⟨.tmp t',hx,rfl⟩))
     |const v=>rfl
     |func f=>rfl
     |global g=>rfl
    .rw [ha.boxes,Bs]
     cases hb:Nat.beq e0.BU id with
     |false=>exact h
     |true=>
      have:=Nat.eq_of_beq_eq_true hb
      subst this
      rw [hf.2.2.2,hf.1,fresh] at h
      cases h
    .have hs:s2=s1:=by rcases g with ⟨_,g⟩|⟨g1,g2⟩;exact g;rw [g1,g2]
     subst hs
     obtain ⟨q1,q2⟩:=IK k
     exact Pm (λt' ht'=>by rw [ha.sz];exact q1 t' ht') ⟨bA.set i true,true,false,hset _ _,hls,.inr (.inl ⟨rfl,rfl,_,q2,ha.go g3 v⟩)⟩
   .unfold BO at hrA
    rw [U,List.getD_eq_getElem?_getD,List.getElem?_replicate,if_pos hi] at hrA
    simp at hrA
  .have hoo:o=oa:=by
    rw [List.getElem?_append_right (Nat.le_refl _),Nat.sub_self] at hio
    simpa using hio.symm
   subst hoo
   have hx:x=false:=by
    unfold BO at hrd
    rw [List.getD_eq_getElem?_getD,List.getElem?_append_right AC,hlen,Nat.sub_self] at hrd
    cases x with
    |false=>rfl
    |true=>simp at hrd
   subst hx
   rcases U with ⟨_,rfl,U⟩|⟨U,_⟩|⟨U,_⟩
   .have hf:=facts U
    unfold BA
    rw [hga]
    have hg2:e.TG o.dst=false:=by
     rw [hd]
     unfold Env.TG at hgl |-
     rw [hf.2.2.1];exact hgl
    simp only [Gt,ho,hz]
    unfold J1
    rw [hg2]
    refine Bl.2 ?_
    refine Pm (λt' ht'=>?_) ⟨bA,true,false,?_,hlen,.inr (.inl ⟨rfl,rfl,e,U,⟨rfl,rfl,rfl,rfl,λs'=>?_⟩⟩)⟩
    .rw [hd] at ht'
     cases ht'
     show t<e.sz
     rw [hf.2.1];exact hts
    .rw [List.set_append_right _ _ AC,hlen,Nat.sub_self];rfl
    .show assoc (Tq e.tmps o.dst (.Ch e.BU 0)) s'=_
     rw [Gj,hd]
     by_cases h1:s'=t
     .rw [if_pos (by rw [h1]),if_pos h1]
     .rw [if_neg (λe=>h1 (Option.some.inj e).symm),if_neg h1]
   .cases U
   .cases U
  .have hi2:i=A.length+1:=by
    have:=(List.getElem?_eq_some_iff.1 hio).1
    omega
   subst hi2
   have hoo:o=os:=by
    rw [List.getElem?_append_right AC,show A.length+1 - A.length=1 by omega] at hio
    simpa using hio.symm
   subst hoo
   unfold BO at hrd
   rw [hio] at hrd
   simp only [Bool.and_eq_true,List.all_eq_true,Bool.not_eq_true'] at hrd
   obtain ⟨r1,r2⟩:=hrd
   have hon:∀j,j<A.length+1->(bA++[x,y]).getD j false=true:=λj hj=>by
    obtain ⟨e',he',hb⟩:=k6 j hj
    have h1:=r2 e' he'
    rw [Nat.eq_of_beq_eq_true hb.1,hb.2] at h1
    simpa using h1
   have hy:y=false:=by
    rw [List.getD_eq_getElem?_getD,List.getElem?_append_right AC,hlen,show A.length+1 - A.length=1 by omega] at r1
    simpa using r1
   have hx:x=true:=by
    have:=hon A.length AC
    rw [List.getD_eq_getElem?_getD,List.getElem?_append_right AC,hlen,Nat.sub_self] at this
    simpa using this
   have hbA:bA=List.replicate A.length true:=by
    rw [List.eq_replicate_iff]
    refine ⟨hlen,λb hb=>?_⟩
    obtain ⟨j,hj,rfl⟩:=List.mem_iff_getElem.1 hb
    have:=hon j AC
    rw [Jl hj,List.getD_eq_getElem?_getD,List.getElem?_eq_getElem hj] at this
    simpa using this
   subst hy;subst hx
   rcases U with ⟨U,_⟩|⟨_,_,e0,U,ha⟩|⟨_,U,_⟩
   .cases U
   .rw [hbA] at U
    obtain ⟨env',⟨q1,q2,q3⟩,q4⟩:=fin e0 s U
    have hf:=facts U
    have q4:Gt T C oa env' s (λv e s=>e.go oa.dst v λe=>Gt T C o e s (λv e s=>e.go o.dst v λe=>Q .normal e s) (λx _ s=>∀e',Q x e' s)) (λ_ _ _=>True):=q4
    have hg2:env'.TG oa.dst=false:=by
     rw [hd]
     unfold Env.TG at hgl |-
     rw [q3,hf.2.2.1];exact hgl
    rw [lK ho hz] at q4
    unfold J1 at q4
    rw [hg2] at q4
    obtain ⟨_,q5⟩:=IK (Bl.1 q4)
    unfold BA
    rw [hgs]
    have tmq:∀s',assoc (Tq env'.tmps oa.dst (.Ch env'.BU 0)) s'=assoc e.tmps s':=λs'=>by
     rw [Gj,hd,<-q1.tmps,<-q1.BU,ha.tm]
     by_cases h1:s'=t
     .rw [if_pos (by rw [h1]),if_pos h1]
     .rw [if_neg (λe=>h1 (Option.some.inj e).symm),if_neg h1]
    have ev:∀x:Operand,Env.eval ⟨Tq env'.tmps oa.dst (.Ch env'.BU 0),(env'.BU,z.zero.cells)::env'.boxes,env'.BU+1,env'.sz,env'.gl⟩ x=e.eval x:=λx=>by
     cases x with
     |tmp t'=>
      have:=tmq t'
      show Env.get _ t'=e.get t'
      unfold Env.get
      dsimp only
      rw [this]
     |const v=>rfl
     |func f=>rfl
     |global g=>rfl
    cases hop:o.op with
    |store ty' px vx=>
     obtain ⟨L',hL'⟩:∃L',JE L' ⟨Tq env'.tmps oa.dst (.Ch env'.BU 0),(env'.BU,z.zero.cells)::env'.boxes,env'.BU+1,env'.sz,env'.gl⟩ o=true:=by
      unfold JE
      rw [hop]
      dsimp only
      cases hv:Env.eval ⟨Tq env'.tmps oa.dst (.Ch env'.BU 0),(env'.BU,z.zero.cells)::env'.boxes,env'.BU+1,env'.sz,env'.gl⟩ px with
      |Ch id off=>exact ⟨[id],GT⟩
      |_=>exact ⟨[],rfl⟩
     refine La (T:=T) (C:=C) hop hL' (λx _=>ev x) (by rw [ha.boxes,q2,<-q1.BU]) (by rw [ha.BU,<-q1.BU]) (by rw [ha.sz,<-q1.sz]) (by rw [ha.gl,q3]) (λs' B hB hk=>?_) q5
     obtain ⟨p1,p2⟩:=IK hk
     refine Pm (λt' ht'=>by have:=p1 t' ht';rw [show ({e with boxes:=B}:Env).sz=e.sz from rfl,ha.sz,q1.sz];exact this) ⟨bA,true,true,?_,hlen,.inr (.inr ⟨rfl,rfl,hbA,⟨Tq (Tq env'.tmps oa.dst (.Ch env'.BU 0)) o.dst .BR,B,env'.BU+1,env'.sz,env'.gl⟩,⟨λs''=>?_,λ_=>rfl,?_,?_⟩,p2⟩)⟩
     .rw [List.set_append_right _ _ AC,hlen,show A.length+1 - A.length=1 by omega];rfl
     .show assoc (Tq e.tmps o.dst .BR) s''=assoc (Tq (Tq env'.tmps oa.dst (.Ch env'.BU 0)) o.dst .BR) s''
      rw [Gj,Gj (ts:=Tq env'.tmps oa.dst (.Ch env'.BU 0)),tmq]
     .show e.BU=env'.BU+1
      rw [ha.BU,q1.BU]
     .show e.sz=env'.sz
      rw [ha.sz,q1.sz]
    |_=>rw [hop] at k4;cases k4
   .cases U
 .rintro bs e s hbl ⟨bA,x,y,rfl,hlen,U⟩
  have lift:∀{j:Nat} {x y:Bool},j<A.length->BO A bA j=true->BO (A++[oa,os]) (bA++[x,y]) j=true:=λ{j x y} hj hq=>by
   unfold BO at hq |-
   rw [Jl AC,List.getElem?_append_left hj]
   have hoj:A[j]? =some A[j]:=List.getElem?_eq_getElem hj
   rw [hoj] at hq |-
   simp only [Bool.and_eq_true,List.all_eq_true] at hq |-
   refine ⟨hq.1,λe he=>?_⟩
   rw [Jl (by rw [hlen];exact (hAo j _ hoj).2.2.2.2 e he)]
   exact hq.2 e he
  rcases U with ⟨rfl,rfl,U⟩|⟨rfl,rfl,e0,U,ha⟩|⟨rfl,rfl,U,_⟩
  .refine .inr ⟨A.length,AC,?_⟩
   unfold BO
   rw [List.getElem?_append_right (Nat.le_refl _),Nat.sub_self,List.getD_eq_getElem?_getD,List.getElem?_append_right AC,hlen,Nat.sub_self]
   have:oa.after.toList=[]:=by simpa using k1
   simp [this]
  .rcases live bA e0 s hlen U with h1|⟨j,h1,h2⟩
   .refine .inr ⟨A.length+1,AC,?_⟩
    unfold BO
    rw [List.getElem?_append_right AC,List.getD_eq_getElem?_getD,List.getElem?_append_right AC,hlen,show A.length+1 - A.length=1 by omega]
    rw [Bool.and_eq_true]
    refine ⟨rfl,?_⟩
    show (os.after.toList.all λe=> !(Region.binds .any e)||(bA++[true,false]).getD e.on false)=true
    rw [List.all_eq_true]
    intro e he
    have hle:e.on<=A.length:=Nat.le_of_ble_eq_true (k7 e he)
    rw [Bool.or_eq_true]
    refine .inr ?_
    rcases Nat.lt_or_eq_of_le hle with h2|h2
    .rw [Jl AC,h1,List.getD_eq_getElem?_getD,List.getElem?_replicate,if_pos h2];rfl
    .rw [List.getD_eq_getElem?_getD,List.getElem?_append_right AC,h2,hlen,Nat.sub_self];rfl
   .exact .inr ⟨j,AC,lift h1 h2⟩
  .refine .inl ?_
   rw [U,hla,List.replicate_succ',List.replicate_succ',List.append_assoc]
   rfl
 .rintro e s ⟨bA,x,y,hbs,hlen,U⟩
  have hlast:(bA++[x,y]).getD A.length false=true/\(bA++[x,y]).getD (A.length+1) false=true:=by
   rw [<-hbs,List.getD_eq_getElem?_getD,List.getD_eq_getElem?_getD,List.getElem?_replicate,List.getElem?_replicate,if_pos AC,if_pos AC]
   exact ⟨rfl,rfl⟩
  have hy:y=true:=by
   have:=hlast.2
   rw [List.getD_eq_getElem?_getD,List.getElem?_append_right AC,hlen,show A.length+1 - A.length=1 by omega] at this
   simpa using this
  rcases U with ⟨_,U,_⟩|⟨_,U,_⟩|⟨_,_,_,h1⟩
  .rw [hy] at U;cases U
  .rw [hy] at U;cases U
  .exact h1
 .refine ⟨List.replicate A.length false,false,false,?_,GT,.inl ⟨rfl,rfl,start⟩⟩
  rw [hla,List.replicate_succ',List.replicate_succ',List.append_assoc]
  rfl
theorem lV (hP:TU P T) (hC:∀f args st R,C f args st R->DA P f args st R/\Plain P f) (hM:∀f args st (R R':As->St->Prop),(∀r s,R r s->R' r s)->C f args st R->C f args st R')
 (A:List Oper) (U os:Oper) (sched:List (Nat×Bool)) (L:List Nat) {z:Ty} (he:ops=(A++[U,os]).toArray) (hm:Ix sched A=true) (hk:P9 A U os t=true) (ho:U.op=.alloc ty) (hd:U.dst=some t) (hz:assoc T ty=some z) (hts:t<env.sz) (hgl:env.TG (some t)=false)
 (h:Fh T C A sched L (Bv (L.map some) env.boxes) (U5 T C U os Q) sched env st):AW P (.region id ops true) Q env st:=λD I0 st0 w0 I β a w hr=>
 wp_region_any hP.m (by
  subst he
  exact XL hP.t hC hM hm hk ho hd hz hts hgl h hr)
theorem HF (hP:TU P T) (hC:∀f args st R,C f args st R->DA P f args st R/\Plain P f) (hM:∀f args st (R R':As->St->Prop),(∀r s,R r s->R' r s)->C f args st R->C f args st R')
 (k t:Nat) (sched:List (Nat×Bool)) (L:List Nat) {U os:Oper} {z:Ty} (h1:ops.toList[k]? =some U) (h2:ops.toList[k+1]? =some os) (h3:ops.toList.length=k+2) (hm:Ix sched (ops.toList.take k)=true) (hk:P9 (ops.toList.take k) U os t=true) (ho:U.op=.alloc ty) (hd:U.dst=some t) (hz:assoc T ty=some z) (hts:t<env.sz) (hgl:env.TG (some t)=false)
 (h:Fh T C (ops.toList.take k) sched L (Bv (L.map some) env.boxes) (U5 T C U os Q) sched env st):AW P (.region id ops true) Q env st:=by
 refine lV hP hC hM _ U os sched L (by
  have e1:ops.toList.drop k=[U,os]:=by
   obtain ⟨g1,g2⟩:=List.getElem?_eq_some_iff.1 h1
   obtain ⟨g3,g4⟩:=List.getElem?_eq_some_iff.1 h2
   rw [List.drop_eq_getElem_cons g1,g2,List.drop_eq_getElem_cons g3,g4,List.drop_eq_nil_of_le AC]
  rw [<-e1,List.take_append_drop]) hm hk ho hd hz hts hgl h
end
theorem my (h:l≠[]) (g:Fc (Ba l)=true) (t:List UInt8):Ba (l.take (Ba l).2++t)=Ba l:=by
 rcases l with _|⟨a,r⟩
 .exact absurd rfl h
 revert g
 generalize U:Ba (a::r)=x
 have hx0:=U
 unfold Ba at U
 dsimp only at U
 intro g
 rcases r with _|⟨b,_|⟨c,_|⟨d,r⟩⟩⟩
 all_goals simp only [List.getElem?_nil,List.getElem?_cons_zero,List.getElem?_cons_succ,List.getD_cons_zero,List.getD_cons_succ,Bool.and_false,Bool.false_eq_true,if_false] at U
 all_goals repeat' split at U
 all_goals subst U
 all_goals first
  |(exfalso;revert g;simp [Fc];done)
  |skip
 all_goals simp only [List.take_succ_cons,List.take_zero,List.cons_append,List.nil_append]
 all_goals unfold Ba
 all_goals dsimp only
 all_goals try simp only [List.getElem?_nil,List.getElem?_cons_zero,List.getElem?_cons_succ,List.getD_cons_zero,List.getD_cons_succ]
 all_goals repeat' (first|rfl|rw [if_pos ‹_›]|rw [if_neg ‹_›])
def Vd (l:List UInt8):Prop:=Cs Fc l=l.length
theorem Vd.rune (h:Vd l) (hne:l≠[]):Fc (Ba l)=true/\Vd (l.drop (Ba l).2):=by
 have U:Fc (Ba l)=true:=by
  cases U:Fc (Ba l) with
  |true=>rfl
  |false=>
   unfold Vd at h
   rw [N3 U] at h
   grind
 refine ⟨U,?_⟩
 unfold Vd at h |-
 rw [LH hne U] at h
 grind
inductive Bd:List UInt8->Nat->Prop
 |zero (l:List UInt8):Bd l 0
 |step {l:List UInt8} {k:Nat}:l≠[]->Bd (l.drop (Ba l).2) k->Bd l ((Ba l).2+k)
theorem Bd.vd {i:Nat} (h:Bd l i) (k:Vd l):Vd (l.drop i):=by
 induction h with
 |zero l=>exact k
 |step U h ih=>
  have:=ih (k.rune U).2
  simp_all
theorem Bd.span (p:Nat×Nat->Bool) (l:List UInt8):Bd l (Cs p l):=by
 fun_induction Cs p l with
 |case1=>exact .zero _
 |case2 a r U ih=>exact .step GT ih
 |case3 a r U=>exact .zero _
theorem Bd.one (h:l≠[]):Bd l (Ba l).2:=by
 have:=Bd.step h (.zero (l.drop (Ba l).2))
 omega
theorem iB (h:l≠[]) (g:Fc (Ba l)=true) (k:Nat) (hk:1<=k) (U:k<(Ba l).2):∃b,l[k]? =some b/\128<=b.toNat:=by
 rcases l with _|⟨a,r⟩
 .simp_all
 revert g U
 generalize hx:Ba (a::r)=x
 unfold Ba at hx
 dsimp only at hx
 intro g U
 have d2:∀b:UInt8,(b.toNat / 64==2)=true->128<=b.toNat:=λb hb=>by grind
 rcases r with _|⟨b,_|⟨c,_|⟨d,r⟩⟩⟩
 all_goals simp only [List.getElem?_nil,List.getElem?_cons_zero,List.getElem?_cons_succ,List.getD_cons_zero,List.getD_cons_succ,Bool.and_false,Bool.false_eq_true,if_false] at hx
 all_goals repeat' split at hx
 all_goals subst hx
 all_goals first
  |(exfalso;revert g;simp [Fc];done)
  |skip
 all_goals first
  |(exfalso;have U:k<1:=U;omega)
  |skip
 all_goals simp only [Bool.and_eq_true] at *
 all_goals have hk':k=1\/k=2\/k=3:=by first|omega|(dsimp only at U;omega)
 all_goals rcases hk' with rfl|rfl|rfl
 all_goals first
  |(exfalso;omega)
  |(exfalso;dsimp only at U;omega)
  |skip
 all_goals refine ⟨_,rfl,d2 _ ?_⟩
 all_goals simp only [beq_iff_eq] at *
 all_goals omega
theorem Bd.vL {b:UInt8} (hv:Vd l) (hb:l[k]? =some b) (h:b.toNat<128):Bd l k/\Bd l (k+1):=by
 induction hn:l.length using Nat.strongRecOn generalizing l k with
 |_ n ih=>
  have U:l≠[]:=λe=>by simp_all
  obtain ⟨g,hv'⟩:=hv.rune U
  have hp:=GX l
  have hle:=JQ U
  by_cases hk:k<(Ba l).2
  .by_cases h0:k=0
   .subst h0
    refine ⟨.zero l,?_⟩
    cases l with
    |nil=>simp_all
    |cons a r=>
     simp only [List.getElem?_cons_zero,Option.some.injEq] at hb
     subst hb
     have e:Ba (a::r)=(a.toNat,1):=by unfold Ba;dsimp only;rw [if_pos AC]
     have:=Bd.one U
     simp_all
   .obtain ⟨b',h1,h2⟩:=iB U g k AC hk
    grind
  .obtain ⟨j,rfl⟩:∃j,k=(Ba l).2+j:=⟨k - (Ba l).2,AC⟩
   have:=ih (l.drop (Ba l).2).length (by grind) hv' (k:=j) f9 rfl
   exact ⟨.step U this.1,by rw [Nat.add_assoc];exact .step U this.2⟩
inductive B8:List UInt8->Nat->Prop
 |zero (l:List UInt8):B8 l 0
 |step {l:List UInt8} {k:Nat}:l≠[]->B8 (l.drop (A7 l)) k->B8 l (A7 l+k)
theorem Gr (l:List UInt8):(I8 l=0/\¬(AV l=13\/AV l=10\/AV l=12))\/(I8 l=1/\(AV l=13\/AV l=10\/AV l=12)/\¬(AV l=13/\AV (l.drop 1)=10))\/(I8 l=2/\AV l=13/\AV (l.drop 1)=10):=by
 unfold I8
 grind
theorem GM (U:0<=AV l) (h:AV l<128):(Ba l).2=1/\(((Ba l).1:Nat):Int)=AV l:=by
 cases l with
 |nil=>exact absurd U Do
 |cons a r=>
  have h:((a.toNat:Nat):Int)<128:=h
  have e:Ba (a::r)=(a.toNat,1):=by unfold Ba;dsimp only;rw [if_pos AC]
  rw [e];exact ⟨rfl,rfl⟩
theorem Bd.cut (h:Bd l k) (hn:¬(0<k/\AV (l.drop (k - 1))=13/\AV (l.drop k)=10)):B8 l k:=by
 induction hm:l.length using Nat.strongRecOn generalizing l k with
 |_ n ih=>
  cases h with
  |zero=>exact .zero l
  |@step _ j U h=>
   have hp:=GX l
   have hle:=JQ U
   rcases Gr l with ⟨e,h1⟩|⟨e,h1,h2⟩|⟨e,h1,h2⟩
   .have es:A7 l=(Ba l).2:=by unfold A7;rw [if_neg AC]
    rw [<-es]
    refine .step U ?_
    rw [es]
    refine ih _ (by grind) h (λhc=>hn ⟨AC,?_,?_⟩) rfl
    .have:=hc.2.1;rw [List.drop_drop] at this;rwa [show (Ba l).2+j - 1=(Ba l).2+(j - 1) by omega]
    simp_all
   .have ed:=GM (l:=l) AC AC
    have es:A7 l=(Ba l).2:=by unfold A7;rw [if_pos AC,e,ed.1]
    rw [<-es]
    refine .step U ?_
    rw [es]
    refine ih _ (by grind) h (λhc=>hn ⟨AC,?_,?_⟩) rfl
    .have:=hc.2.1;rw [List.drop_drop] at this;rwa [show (Ba l).2+j - 1=(Ba l).2+(j - 1) by omega]
    .have:=hc.2.2;rwa [List.drop_drop] at this
   .have ed:=GM (l:=l) AC AC
    rw [ed.1] at h hn |-
    have es:A7 l=2:=by unfold A7;rw [if_pos AC,e]
    cases h with
    |zero=>simp_all
    |@step _ j hne' h=>
     have ed':=GM (l:=l.drop 1) AC AC
     rw [ed'.1] at h hn |-
     rw [show 1+(1+j)=A7 l+j by omega]
     refine .step U ?_
     rw [es]
     rw [List.drop_drop] at h
     have hl2:l.length≠0:=by have:=List.length_pos_iff.2 U;omega
     refine ih _ (by grind) h (λhc=>hn ⟨AC,?_,?_⟩) rfl
     .have:=hc.2.1;rw [List.drop_drop] at this;grind
     .have:=hc.2.2;rw [List.drop_drop] at this;grind
theorem Tm:∀(n:Nat) (l:List UInt8) (k:Nat) (p:Int×Int),l.length<=n->1<=p.2->p.1<=(Cf l k p).1/\(Cf l k p).1<=p.1+l.length/\1<=(Cf l k p).2/\(Cf l k p).2<=p.2+8*l.length
 |n,[],k,p,_,h=>by rw [GG];simp only [List.length_nil];omega
 |0,a::r,k,p,hn,h=>by simp at hn
 |n+1,a::r,k,p,hn,h=>by
  by_cases U:k<A7 (a::r)
  .rw [FB U];omega
  .rw [Fm GT U]
   have h1:=G7 (l:=a::r) GT
   have h2:=Xq (a::r) p.1
   have h3:=Xp (a::r) h
   have hd:((a::r).drop (A7 (a::r))).length=(a::r).length - A7 (a::r):=List.length_drop
   have ih:=Tm n ((a::r).drop (A7 (a::r))) (k - A7 (a::r)) (F6 (a::r) p.1,Hq (a::r) p.2) AC h3.1
   dsimp only at ih
   omega
theorem UY:∀(n:Nat) (l:List UInt8) (k:Nat) (x c U y:Int),l.length<=n->(Cf l k (x,c)).1 - x=(Cf l k (y,U)).1 - y
 |n,[],k,x,c,U,y,_=>by rw [GG,GG];omega
 |0,a::r,k,x,c,U,y,hn=>by simp at hn
 |n+1,a::r,k,x,c,U,y,hn=>by
  by_cases hk:k<A7 (a::r)
  .rw [FB hk,FB hk];omega
  .rw [Fm GT hk,Fm GT hk]
   have h1:=G7 (l:=a::r) GT
   have hd:((a::r).drop (A7 (a::r))).length=(a::r).length - A7 (a::r):=List.length_drop
   have ih:=UY n ((a::r).drop (A7 (a::r))) (k - A7 (a::r)) (F6 (a::r) x) (Hq (a::r) c) (Hq (a::r) U) (F6 (a::r) y) AC
   have e:F6 (a::r) x - x=F6 (a::r) y - y:=by unfold F6;split<;>omega
   dsimp only
   omega
theorem aA:∀(n:Nat) (l:List UInt8) (k:Nat) (x c y:Int),l.length<=n->(Cf l k (x,c)).2=(Cf l k (y,c)).2
 |n,[],k,x,c,y,_=>by rw [GG,GG]
 |0,a::r,k,x,c,y,hn=>by simp at hn
 |n+1,a::r,k,x,c,y,hn=>by
  by_cases U:k<A7 (a::r)
  .rw [FB U,FB U]
  .rw [Fm GT U,Fm GT U]
   have h1:=G7 (l:=a::r) GT
   have hd:((a::r).drop (A7 (a::r))).length=(a::r).length - A7 (a::r):=List.length_drop
   exact aA n _ _ _ _ _ AC
def Ed (d:Nat) (l:List UInt8):Option Nat:=
 match l with
 |[]=>none
 |a::r=>
  if (a.toNat:Int)=123/\AV r=45 then (Ed (d+1) (r.drop 1)).map (·+2)
  else if (a.toNat:Int)=45/\AV r=125 then (if d<=1 then some 2 else (Ed (d - 1) (r.drop 1)).map (·+2))
  else (Ed d r).map (·+1)
termination_by l.length
decreasing_by all_goals simp only [List.length_drop,List.length_cons];omega
def FY (pos:Nat) (o:Option Nat):Int:=match o with
 |none=> -1
 |some n=>(pos+n:Nat)
theorem Ox {o:Option Nat}:FY pos (o.map (·+k))=FY (pos+k) o:=by
 cases o with
 |none=>rfl
 |some n=>simp only [FY,Option.map_some];omega
theorem oQ (h:¬pos<s.length):FY pos (Ed d (s.drop pos))= -1:=by
 rw [List.drop_eq_nil_iff.2 AC,Ed];rfl
theorem jI (h1:AV (s.drop pos)=123) (h2:AV (s.drop (pos+1))=45):FY pos (Ed d (s.drop pos))=FY (pos+2) (Ed (d+1) (s.drop (pos+2))):=by
 have U:pos<s.length:=by
  by_cases U:pos<s.length
  .exact U
  .rw [Ey AC] at h1;exact absurd h1 Do
 rw [List.drop_eq_getElem_cons U] at h1 |-
 rw [Ed,if_pos ⟨h1,h2⟩,Ox,List.drop_drop]
theorem Ss (h1:AV (s.drop pos)=45) (h2:AV (s.drop (pos+1))=125):FY pos (Ed d (s.drop pos))=if d<=1 then ((pos+2:Nat):Int) else FY (pos+2) (Ed (d - 1) (s.drop (pos+2))):=by
 have hp:pos<s.length:=by
  by_cases hp:pos<s.length
  .exact hp
  .rw [Ey AC] at h1;exact absurd h1 Do
 rw [List.drop_eq_getElem_cons hp] at h1 |-
 have h1:((s[pos].toNat:Nat):Int)=45:=h1
 rw [Ed,if_neg (λe=>by omega),if_pos ⟨h1,h2⟩]
 by_cases U:d<=1
 .rw [if_pos U,if_pos U];rfl
 .rw [if_neg U,if_neg U,Ox,List.drop_drop]
theorem uq (U:pos<s.length) (h1:¬(AV (s.drop pos)=123/\AV (s.drop (pos+1))=45)) (h2:¬(AV (s.drop pos)=45/\AV (s.drop (pos+1))=125)):FY pos (Ed d (s.drop pos))=FY (pos+1) (Ed d (s.drop (pos+1))):=by
 rw [List.drop_eq_getElem_cons U] at h1 h2 |-
 have h1:¬(((s[pos].toNat:Nat):Int)=123/\AV (s.drop (pos+1))=45):=h1
 have h2:¬(((s[pos].toNat:Nat):Int)=45/\AV (s.drop (pos+1))=125):=h2
 rw [Ed,if_neg h1,if_neg h2,Ox]
def EJ:List UInt8->Nat
 |[]=>0
 |a::r=>if 0<I8 (a::r) then 0 else EJ r+1
theorem eE (l:List UInt8):EJ l<=l.length:=by
 induction l with
 |nil=>exact Nat.le_refl _
 |cons a r ih=>unfold EJ;split<;>simp only [List.length_cons]<;>omega
theorem sM (h:0<I8 (s.drop pos)):EJ (s.drop pos)=0:=by
 cases U:s.drop pos with
 |nil=>rfl
 |cons a r=>rw [U] at h;rw [EJ,if_pos h]
theorem sL (U:pos<s.length) (h:¬0<I8 (s.drop pos)):EJ (s.drop pos)=EJ (s.drop (pos+1))+1:=by
 rw [List.drop_eq_getElem_cons U] at h |-
 rw [EJ,if_neg h]
theorem mW (U:¬pos<s.length):EJ (s.drop pos)=0:=by
 rw [List.drop_eq_nil_iff.2 AC];rfl
theorem jw (s:List UInt8) (U pos:Nat) (h:U<=pos) (hpl:pos<=s.length):∃r,D4 s U pos=(s.take (pos+EJ (s.drop pos))).drop U::r:=by
 fun_induction D4 s U pos with
 |case1 U pos hp hn ih=>rw [sM hn];exact ⟨_,rfl⟩
 |case2 U pos hp hn ih=>
  obtain ⟨r,e⟩:=ih AC AC
  rw [sL hp hn]
  exact ⟨r,by rw [e,show pos+1+EJ (s.drop (pos+1))=pos+(EJ (s.drop (pos+1))+1) by omega]⟩
 |case3 U pos hp=>
  rw [mW hp,List.take_of_length_le AC];exact ⟨[],rfl⟩
def IY (l:List UInt8):Nat:=
 let n:=BD (λc=>AA c==5) l
 if 2<=n/\(l.take n).all (λb=>b==45)=true then n+EJ (l.drop n) else 0
def F4 (l:List UInt8):Int:=
 if AV l=123/\AV (l.drop 1)=45 then FY 2 (Ed 1 (l.drop 2))
 else if AV l=45 then (IY l:Nat) else 0
def CV (s:List UInt8) (pos:Nat):Int×Int:=
 if F4 (s.drop pos)<0 then (0,60) else if F4 (s.drop pos)=0 then (0,0) else (pos+F4 (s.drop pos),0)
theorem oP (d:Nat) (l:List UInt8) (n:Nat) (h:Ed d l=some n):n<=l.length:=by
 fun_induction Ed d l generalizing n with
 |case1=>cases h
 |case2 d a r hc ih=>
  obtain ⟨m,hm,rfl⟩:=Option.map_eq_some_iff.1 h
  have:=ih m hm
  have hr:r≠[]:=λe=>by rw [e] at hc;exact absurd hc.2 Do
  have:=List.length_pos_iff.2 hr
  simp only [List.length_drop,List.length_cons] at *;omega
 |case3 d a r hc U hd=>
  have hr:r≠[]:=λe=>by rw [e] at U;exact absurd U.2 Do
  have:=List.length_pos_iff.2 hr
  injection h with h
  simp only [List.length_cons] at *;omega
 |case4 d a r hc U hd ih=>
  obtain ⟨m,hm,rfl⟩:=Option.map_eq_some_iff.1 h
  have:=ih m hm
  have hr:r≠[]:=λe=>by rw [e] at U;exact absurd U.2 Do
  have:=List.length_pos_iff.2 hr
  simp only [List.length_drop,List.length_cons] at *;omega
 |case5 d a r hc U ih=>
  obtain ⟨m,hm,rfl⟩:=Option.map_eq_some_iff.1 h
  have:=ih m hm
  simp only [List.length_cons] at *;omega
theorem ku (l:List UInt8):IY l<=l.length:=by
 have h1:=Dz (λc=>AA c==5) l
 have h2:=eE (l.drop (BD (λc=>AA c==5) l))
 rw [List.length_drop] at h2
 unfold IY
 dsimp only
 split<;>omega
theorem oY (l:List UInt8):F4 l<=l.length:=by
 have h1:=ku l
 unfold F4
 split
 .rename_i U
  cases h:Ed 1 (l.drop 2) with
  |none=>simp only [FY];omega
  |some n=>
   have:=oP _ _ _ h
   have hr:l.drop 1≠[]:=λe=>by rw [e] at U;exact absurd U.2 Do
   have:=List.length_pos_iff.2 hr
   simp only [List.length_drop,FY] at *;omega
 .split<;>omega
def Ih (c:Int):Option Int:=
 if c=92\/c=34\/c=39 then some c
 else if c=97 then some 7 else if c=98 then some 8 else if c=116 then some 9 else if c=110 then some 10
 else if c=118 then some 11 else if c=102 then some 12 else if c=114 then some 13 else none
def JJ (base:Int):Int->List UInt8->Int
 |v,[]=>v
 |v,a::r=>if BE ((a.toNat:Nat):Int) base<0 then v else JJ base (min (v*base+BE ((a.toNat:Nat):Int) base) 1114112) r
def Ku (base:Int) (l:List UInt8):Option (Int×Nat):=if Bx base l=0\/1114111<JJ base 0 l then none else some (JJ base 0 l,Bx base l)
def Fi:List (List UInt8):=[[78,85,76],[83,79,72],[83,84,88],[69,84,88],[69,79,84],[69,78,81],[65,67,75],[66,69,76],[66,83],[72,84],[76,70],[86,84],[70,70],[67,82],[83,79],[83,73],[68,76,69],[68,67,49],[68,67,50],[68,67,51],[68,67,52],[78,65,75],[83,89,78],[69,84,66],[67,65,78],[69,77],[83,85,66],[69,83,67],[70,83],[71,83],[82,83],[85,83],[83,80],[68,69,76]]
def OI (l:List UInt8):List (List UInt8)->Nat->Nat×Nat->Nat×Nat
 |[],_,p=>p
 |w::U,i,p=>OI l U (i+1) (if p.2<w.length/\w.isPrefixOf l=true then (i,w.length) else p)
def Kt (l:List UInt8):Int×Nat:=(if (OI l Fi 0 (0,0)).1=33 then 127 else (OI l Fi 0 (0,0)).1,(OI l Fi 0 (0,0)).2)
def IG (text:Bool) (l:List UInt8):Option (Int×Nat):=
 match Ih (AV (l.drop 1)) with
 |some v=>some (v,2)
 |none=>
  if AV (l.drop 1)=38/\text=true then some (-1,2)
  else if AV (l.drop 1)=94/\64<=AV (l.drop 2)/\AV (l.drop 2)<=95 then some (AV (l.drop 2) - 64,3)
  else if AV (l.drop 1)=111 then (Ku 8 (l.drop 2)).map λp=>(p.1,2+p.2)
  else if AV (l.drop 1)=120 then (Ku 16 (l.drop 2)).map λp=>(p.1,2+p.2)
  else if 48<=AV (l.drop 1)/\AV (l.drop 1)<=57 then (Ku 10 (l.drop 1)).map λp=>(p.1,1+p.2)
  else if 0<(Kt (l.drop 1)).2 then some ((Kt (l.drop 1)).1,1+(Kt (l.drop 1)).2) else none
def Fa (l:List UInt8):Nat:=
 if AV l=92/\BD (λc=>AA c==1) (l.drop 1)≠0/\AV (l.drop (1+BD (λc=>AA c==1) (l.drop 1)))=92 then BD (λc=>AA c==1) (l.drop 1)+2 else 0
def MX (d:Nat×Nat):Bool:=AA (d.1:Nat)==0||(AA (d.1:Nat)==1&& !(d.1==32))||(d.1==65533&&d.2==1)
def J4 (text:Bool) (l:List UInt8):Sum Int (Int×Nat):=
 match l with
 |[]=>.inl 50
 |a::r=>
  if AV (a::r)=92 then
   if text=true/\0<Fa (a::r) then .inr (-1,Fa (a::r))
   else match IG text (a::r) with
    |none=>.inl 51
    |some p=>.inr p
  else if MX (Ba (a::r)) then .inl 50 else .inr (((Ba (a::r)).1:Nat),(Ba (a::r)).2)
theorem V5 (l:List UInt8):∀(U:List (List UInt8)) (i:Nat) (p:Nat×Nat),p.2<=l.length->(OI l U i p).2<=l.length
 |[],_,p,h=>h
 |w::U,i,p,h=>by
  unfold OI
  refine V5 l U _ _ ?_
  grind
theorem sY (l:List UInt8):Fa l<=l.length:=by
 unfold Fa
 split
 .rename_i h
  have h1:=Dz (λc=>AA c==1) (l.drop 1)
  rw [List.length_drop] at h1
  have h2:l.drop (1+BD (λc=>AA c==1) (l.drop 1))≠[]:=λe=>by rw [e] at h;exact absurd h.2.2 Do
  grind
 omega
theorem ZL (h:Ih c=some v):0<=c/\0<=v:=by
 unfold Ih at h
 grind
theorem Qr (h:Ku base l=some p):1<=p.2/\p.2<=l.length:=by
 unfold Ku at h
 split at h
 .cases h
 .injection h with h
  subst h
  exact ⟨AC,C5 base l⟩
theorem eG {text:Bool} (h:IG text l=some p):1<=p.2/\p.2<=l.length:=by
 unfold IG at h
 split at h
 .rename_i v hs
  have:=B4 (l:=l) (k:=1) (ZL hs).1
  grind
 .rename_i hs
  have e1:∀k,0<=AV (l.drop k)->k<l.length:=λk=>B4
  have e2:=e1 1
  have e3:=e1 2
  repeat' split at h
  .grind
  .grind
  .obtain ⟨q,U,rfl⟩:=Option.map_eq_some_iff.1 h
   have:=Qr U
   grind
  .obtain ⟨q,U,rfl⟩:=Option.map_eq_some_iff.1 h
   have:=Qr U
   grind
  .obtain ⟨q,U,rfl⟩:=Option.map_eq_some_iff.1 h
   have:=Qr U
   grind
  .injection h with h;subst h
   have:=V5 (l.drop 1) Fi 0 (0,0) (Nat.zero_le _)
   rw [List.length_drop] at this
   have h7:(Kt (l.drop 1)).2=(OI (l.drop 1) Fi 0 (0,0)).2:=by simp only [Kt]
   omega
  grind
theorem J5 {text:Bool} (h:J4 text l=.inr p):1<=p.2/\p.2<=l.length:=by
 unfold J4 at h
 split at h
 .cases h
 .rename_i a r
  have h1:=GX (a::r)
  have h2:=JQ (l:=a::r) GT
  have h3:=sY (a::r)
  split at h
  .split at h
   .grind
   .split at h
    .cases h
    .rename_i q U
     injection h with h;subst h;exact eG U
  grind
def EE (l:List UInt8):Sum (Nat×Int) Nat:=
 if AV l=34 then .inr 1
 else match h:J4 true l with
  | .inl e=>.inl (0,e)
  | .inr p=>match EE (l.drop p.2) with
    | .inl q=>.inl (q.1+p.2,q.2)
    | .inr n=>.inr (n+p.2)
termination_by l.length
decreasing_by
 have:=J5 h
 grind
def Kr (l:List UInt8):List Int:=
 if AV l=34 then []
 else match h:J4 true l with
  | .inl e=>[]
  | .inr p=>if p.1= -1 then Kr (l.drop p.2) else p.1::Kr (l.drop p.2)
termination_by l.length
decreasing_by
 all_goals
  have:=J5 h
  rw [List.length_drop];omega
def JH (pos:Nat) (l:List UInt8):List (Nat×Nat):=
 if AV l=34 then []
 else match h:J4 true l with
  | .inl e=>[]
  | .inr p=>if 0<Fa l then (pos,pos+p.2)::JH (pos+p.2) (l.drop p.2) else JH (pos+p.2) (l.drop p.2)
termination_by l.length
decreasing_by
 all_goals
  have:=J5 h
  rw [List.length_drop];omega
def L7 (l:List UInt8):Sum (Nat×Int) Nat:=
 if AV l=39 then .inl (0,50)
 else match J4 false l with
  | .inl e=>.inl (0,e)
  | .inr p=>if AV (l.drop p.2)=39 then .inr (p.2+1) else .inl (p.2,50)
def Cm (s:List UInt8) (pos:Nat):Int×Int×Int:=
 if AV (s.drop pos)=34 then match EE (s.drop (pos+1)) with
  | .inl q=>(0,(pos+1+q.1:Nat),q.2)
  | .inr n=>(14,(pos+1+n:Nat),0)
 else if AV (s.drop pos)=39 then match L7 (s.drop (pos+1)) with
  | .inl q=>(0,(pos+1+q.1:Nat),q.2)
  | .inr n=>(13,(pos+1+n:Nat),0)
 else (0,0,0)
theorem B8.add {i j:Nat} (h:B8 l i) (k:B8 (l.drop i) j):B8 l (i+j):=by
 induction h with
 |zero l=>simp_all
 |step U h ih=>
  rw [Nat.add_assoc]
  refine .step U (ih ?_)
  simp_all
theorem B8.bd (h:B8 l k):Bd l k:=by
 induction h with
 |zero l=>exact .zero l
 |@step l k U h ih=>
  rcases Gr l with ⟨e,h1⟩|⟨e,h1,h2⟩|⟨e,h1,h2⟩
  .have es:A7 l=(Ba l).2:=by unfold A7;rw [if_neg AC]
   rw [es] at ih |-;exact .step U ih
  .have ed:=GM (l:=l) AC AC
   have es:A7 l=(Ba l).2:=by unfold A7;rw [if_pos AC,e,ed.1]
   rw [es] at ih |-;exact .step U ih
  .have ed:=GM (l:=l) AC AC
   have ed':=GM (l:=l.drop 1) AC AC
   have es:A7 l=2:=by unfold A7;rw [if_pos AC,e]
   have hne':l.drop 1≠[]:=λe=>by rw [e] at h2;exact absurd h2 Do
   rw [es] at ih |-
   have b1:Bd (l.drop 1) (1+k):=by
    have:=Bd.step hne' (k:=k) f9
    rwa [ed'.1] at this
   have:=Bd.step U (k:=1+k) f9
   grind
theorem B8.one (U:0<=AV l) (h1:AV l<128) (h:¬(AV l=13\/AV l=10\/AV l=12)):B8 l 1:=by
 have hne:l≠[]:=λe=>by rw [e] at U;exact absurd U Do
 have ed:=GM U h1
 have es:A7 l=1:=by
  rcases Gr l with ⟨e,_⟩|⟨_,h2,_⟩|⟨_,h2,_⟩
  .unfold A7;simp_all
  .omega
  .omega
 have:=B8.step hne (.zero (l.drop (A7 l)))
 simp_all
theorem B8.span {p:Nat×Nat->Bool} (hp:∀d,p d=true->d.1≠10/\d.1≠12/\d.1≠13) (l:List UInt8):B8 l (Cs p l):=by
 fun_induction Cs p l with
 |case1=>exact .zero _
 |case2 a r U ih=>
  have h1:=hp _ U
  have es:A7 (a::r)=(Ba (a::r)).2:=by
   unfold A7
   rw [if_neg]
   rcases Gr (a::r) with ⟨e,_⟩|⟨_,h2,_⟩|⟨_,h2,_⟩
   .omega
   .have:=GM (l:=a::r) AC AC;omega
   .have:=GM (l:=a::r) AC AC;omega
  have:=B8.step (l:=a::r) (k:=Cs p ((a::r).drop (Ba (a::r)).2)) GT f9
  simp_all
 |case3 a r U=>exact .zero _
theorem mr {k:Int} (h:AA c=k) (U:k≠1):c≠10/\c≠12/\c≠13:=by
 refine ⟨?_,?_,?_⟩<;>(rintro rfl;exact U (h.symm.trans Do))
theorem B8.kind {k:Int} (hk:k≠1) (l:List UInt8):B8 l (BD (λc=>AA c==k) l):=by
 refine B8.span (λd U=>?_) l
 have:=mr (beq_iff_eq.1 U) hk
 omega
theorem B8.name (l:List UInt8):B8 l (Cr l):=by
 refine B8.span (λd U=>?_) l
 have U:D1 ((d.1:Nat):Int)=true:=U
 refine ⟨?_,?_,?_⟩<;>(intro e;rw [e] at U;revert U;decide)
theorem mB {a:UInt8} (h:¬BE ((a.toNat:Nat):Int) base<0):48<=a.toNat/\a.toNat<128:=by
 unfold BE at h
 grind
theorem B8.row (base:Int) (l:List UInt8):B8 l (Bx base l):=by
 induction l with
 |nil=>exact .zero _
 |cons a r ih=>
  unfold Bx
  split
  .exact .zero _
  .rename_i h
   have:=mB h
   rw [Nat.add_comm]
   exact B8.add (B8.one (l:=a::r) (show (0:Int)<=((a.toNat:Nat):Int) by omega) (show ((a.toNat:Nat):Int)<128 by omega) (show ¬(((a.toNat:Nat):Int)=13\/((a.toNat:Nat):Int)=10\/((a.toNat:Nat):Int)=12) by omega)) ih
theorem B8.Xax (l:List UInt8):B8 l (HV l):=by
 unfold HV
 split
 .exact B8.add (B8.one AC AC AC) (B8.row _ _)
 .exact .zero _
theorem B8.sign (l:List UInt8):B8 l (Mc l):=by
 unfold Mc
 split
 .exact B8.one AC AC AC
 .exact .zero _
theorem B8.exp (l:List UInt8):B8 l (Jg l):=by
 unfold Jg
 split
 .rw [Nat.add_assoc]
  refine B8.add (B8.one AC AC AC) (B8.add (B8.sign _) ?_)
  rw [List.drop_drop]
  exact B8.row _ _
 .exact .zero _
theorem B8.num (l:List UInt8):B8 l (DO l).2:=by
 unfold DO
 split
 .rename_i h
  unfold BV at h
  split at h
  .rename_i hc
   have hb:=hc.2.1
   unfold D8 at hb
   have h1:65<=AV (l.drop 1)/\AV (l.drop 1)<128:=by
    split at hb
    .omega
    .omega
   have U:B8 l 2:=B8.add (i:=1) (j:=1) (B8.one AC AC AC) (B8.one AC AC AC)
   exact B8.add U (B8.row _ _)
  omega
 .split
  .exact .zero _
  .refine B8.add (B8.add (B8.row _ _) (B8.Xax _)) (B8.exp _)
theorem sm (h:AA c=6):32<c/\c<128:=by
 unfold AA at h
 split at h
 .omega
 .split at h
  .omega
  .split at h
   .omega
   .split at h
    .omega
    .split at h
     .unfold CA at h
      omega
     .unfold Li at h
      omega
theorem sS (h:B3 l=6):32<AV l/\AV l<128:=by
 cases l with
 |nil=>exact absurd h Do
 |cons a r=>
  have h:AA ((Ba (a::r)).1:Nat)=6:=h
  have U:=sm h
  by_cases ha:a.toNat<128
  .rw [JR ha] at U
   exact U
  .have:=Nc (r:=r) ha
   omega
theorem B8.plain (l:List UInt8):B8 l (Ar l).2:=by
 unfold Ar
 split
 .rename_i h
  have:=sS h
  exact B8.one AC AC AC
 .split
  .exact B8.kind Do l
  .split
   .exact B8.name l
   .split
    .exact B8.name l
    .exact .zero _
theorem B8.scan (s:List UInt8) (n:Nat) (k:Int) (h:B8 s n):B8 s (Co s n k).2:=by
 fun_induction Co s n k with
 |case1 n k hn U ih=>
  have hd:AV (s.drop n)=46:=U.2.1
  have c1:=B8.one (l:=s.drop n) AC AC AC
  exact ih (B8.add (B8.add h c1) (B8.plain _))
 |case2 n k hn U=>exact h
 |case3 n k hn=>exact h
theorem B8.word (l:List UInt8):B8 l (AO l).2:=B8.scan l _ _ (B8.plain l)
theorem Vd.end (h:Vd l):Bd l l.length:=by
 have:=Bd.span Fc l
 rwa [show Cs Fc l=l.length from h] at this
theorem B8.behind (hv:Vd l) (h0:0<AV (l.drop k)) (h:AV (l.drop k)<128) (hn:AV (l.drop k)≠13):B8 l (k+1):=by
 have hk:=B4 (l:=l) (k:=k) AC
 have U:=List.getElem?_eq_getElem hk
 have e:=CZ U
 refine ((Bd.vL hv U AC).2).cut (λhc=>hn ?_)
 simp_all
theorem cM (d:Nat) (l:List UInt8) (n:Nat) (h:Ed d l=some n):2<=n/\AV (l.drop (n - 1))=125:=by
 fun_induction Ed d l generalizing n with
 |case1=>cases h
 |case2 d a r hc ih=>
  obtain ⟨m,U,rfl⟩:=Option.map_eq_some_iff.1 h
  have:=ih m U
  refine ⟨AC,?_⟩
  rw [show m+2 - 1=(m - 1)+1+1 by omega,List.drop_succ_cons]
  simp_all
 |case3 d a r hc hk hd=>
  injection h with h
  subst h
  simp_all
 |case4 d a r hc hk hd ih=>
  obtain ⟨m,U,rfl⟩:=Option.map_eq_some_iff.1 h
  have:=ih m U
  refine ⟨AC,?_⟩
  rw [show m+2 - 1=(m - 1)+1+1 by omega,List.drop_succ_cons]
  simp_all
 |case5 d a r hc hk ih=>
  obtain ⟨m,U,rfl⟩:=Option.map_eq_some_iff.1 h
  have:=ih m U
  refine ⟨AC,?_⟩
  rw [show m+1 - 1=(m - 1)+1 by omega,List.drop_succ_cons]
  omega
theorem B8.eol (U:Vd l):B8 l (EJ l):=by
 have hb:Bd l (EJ l)/\¬(0<EJ l/\AV (l.drop (EJ l - 1))=13/\AV (l.drop (EJ l))=10):=by
  have key:∀l:List UInt8,(EJ l=l.length\/∃b,l[EJ l]? =some b/\b.toNat<128)/\¬(0<EJ l/\AV (l.drop (EJ l - 1))=13):=by
   intro l
   induction l with
   |nil=>exact ⟨.inl rfl,λh=>absurd h.1 Do⟩
   |cons a r ih=>
    by_cases hn:0<I8 (a::r)
    .rw [EJ,if_pos hn]
     refine ⟨.inr ⟨a,rfl,?_⟩,λh=>absurd h.1 Do⟩
     rcases Gr (a::r) with ⟨e,_⟩|⟨_,h2,_⟩|⟨_,h2,_⟩
     .omega
     .simp only [AV] at h2;omega
     .simp only [AV] at h2;omega
    .rw [EJ,if_neg hn]
     refine ⟨?_,?_⟩
     .simp_all
     .rintro ⟨_,h⟩
      by_cases h0:0<EJ r
      .refine ih.2 ⟨h0,?_⟩
       rwa [show EJ r+1 - 1=(EJ r - 1)+1 by omega,List.drop_succ_cons] at h
      .rw [show EJ r+1 - 1=0 by omega,List.drop_zero] at h
       rcases Gr (a::r) with ⟨_,e⟩|⟨e,_⟩|⟨e,_⟩
       .omega
       .omega
       .omega
  refine ⟨?_,λh=>(key l).2 ⟨h.1,h.2.1⟩⟩
  rcases (key l).1 with h|⟨b,h1,h2⟩
  .rw [h];exact U.end
  .exact (Bd.vL U h1 h2).1
 exact hb.1.cut hb.2
theorem B8.note (U:Vd l) (h:F4 l=n):B8 l n:=by
 unfold F4 at h
 split at h
 .rename_i hc
  cases hn:Ed 1 (l.drop 2) with
  |none=>rw [hn] at h;simp only [FY] at h;omega
  |some m=>
   rw [hn] at h
   simp only [FY] at h
   have:=cM _ _ _ hn
   rw [List.drop_drop] at this
   have e:n=(2+(m - 1))+1:=AC
   rw [e]
   exact B8.behind U AC AC AC
 .split at h
  .have e:n=IY l:=AC
   rw [e]
   unfold IY
   dsimp only
   split
   .exact B8.add (B8.kind Do l) (B8.eol ((Bd.span _ l).vd U))
   .exact .zero _
  .have e:n=0:=AC
   rw [e];exact .zero _
theorem dH (l:List UInt8) (n:Nat) (h:EE l=.inr n):1<=n/\AV (l.drop (n - 1))=34:=by
 fun_induction EE l generalizing n with
 |case1 l U=>simp_all
 |case2 l U e he=>cases h
 |case3 l U p hp q hq ih=>cases h
 |case4 l U p hp m hm ih=>
  injection h with h
  subst h
  have:=ih m hm
  refine ⟨AC,?_⟩
  have h2:=this.2
  rwa [List.drop_drop,show p.2+(m - 1)=m+p.2 - 1 by omega] at h2
theorem B8.quote {p:Nat} (hv:Vd (s.drop p)) (h:(Cm s p).1≠0):∃n,(Cm s p).2.1=(p+n:Nat)/\2<=n/\B8 (s.drop p) n:=by
 unfold Cm at h |-
 split
 .rename_i hq
  rw [if_pos hq] at h
  cases U:EE (s.drop (p+1)) with
  |inl q=>simp_all
  |inr n=>
   have:=dH _ _ U
   refine ⟨n+1,by grind,AC,?_⟩
   have h2:=this.2
   rw [show s.drop (p+1)=(s.drop p).drop 1 by simp_all,List.drop_drop,show 1+(n - 1)=n by omega] at h2
   exact B8.behind hv AC AC AC
 .rename_i hq
  rw [if_neg hq] at h
  split
  .rename_i hq'
   rw [if_pos hq'] at h
   cases U:L7 (s.drop (p+1)) with
   |inl q=>simp_all
   |inr n=>
    have:1<=n/\AV ((s.drop (p+1)).drop (n - 1))=39:=by
     unfold L7 at U
     split at U
     .cases U
     .grind
    refine ⟨n+1,by grind,AC,?_⟩
    have h2:=this.2
    rw [show s.drop (p+1)=(s.drop p).drop 1 by simp_all,List.drop_drop,show 1+(n - 1)=n by omega] at h2
    exact B8.behind hv AC AC AC
  simp_all
theorem Z1 (l:List (List UInt8)):(strs l).length=l.length:=by simp [strs]
theorem U9 {l:List (List UInt8)} {K:List V->Prop} (h:l[i.toNat]? =some x) (U:0<=i) (k:K [V.str x]):0<=i/\∃e,(strs l)[i.toNat]? =some e/\K e:=
 ⟨U,[V.str x],by simp [strs,h],k⟩
theorem Sb {l:List (List UInt8)} {K:Nat->Prop} (k:l.length<4611686018427387904->K l.length):∀m,m=(strs l).length->m<DR->K m:=λm U h=>by
 rw [Z1] at U;subst U;exact k h
end Go.Aw
namespace Go.Proofs.Z
open Go Go.Aw
section
variable {st:St} {R:As->St->Prop}
theorem wv {c:Nat} (U:(c,m)=Ba (s.drop pos)) (h1:pos<s.length) (hl:s.length<4611686018427387904) (h:R (.ret (.Bc [.int .i64 (AA c),.int .i64 m])) st):PC 264 [.str s,.int .i64 pos] st R:=by
 have hr:=rune_le h1 U
 refine pB Tryz.func264 ?_
 repeat' ((conv=>whnf);first|(refine B6 ?_;intros)|refine ga U h1 hl ?_|refine Zo ?_)
 all_goals exact fin h rfl
theorem fQ (h1:s.length<=pos) (U:s.length<4611686018427387904) (hp:pos<4611686018427387904) (h:R (.ret (.Bc [.int .i64 0,.int .i64 0])) st):PC 264 [.str s,.int .i64 pos] st R:=by
 have hx:El s pos=(0,0):=by
  unfold El
  rw [if_neg AC,List.drop_eq_nil_iff.2 AC];rfl
 have hn:∀{R:As->St->Prop},R (.ret (.Bc [.int .i64 0,.int .i64 0])) st->PC 255 [.str s,.int .i64 pos] st R:=λh=>fZ U AC (by rw [hx];exact h)
 refine pB Tryz.func264 ?_
 repeat' ((conv=>whnf);first|(refine B6 ?_;intros)|refine hn ?_)
 all_goals exact fin h rfl
theorem gO (h:R (.ret (.slice 1 (strs yF) .full)) st):PC 339 [] st R:=by
 refine pB Tryz.func339 ?_
 repeat' ((conv=>whnf);first|  fail)
 exact fin h rfl
theorem uc (h:R (.ret (.slice 1 (strs fq) .full)) st):PC 368 [] st R:=by
 refine pB Tryz.func368 ?_
 repeat' ((conv=>whnf);first|  fail)
 exact fin h rfl
theorem dV {l:List (List UInt8)} {own:AH} {w:List UInt8} (h:R (.ret (.bool (l.contains w))) st):PC 338 [.slice 1 (strs l) own,.str w] st R:=by
 refine pB Tryz.func338 ?_
 repeat' ((conv=>whnf);first|(refine B6 ?_;intros)|(refine Cv ?_ ?_<;>intro _)|fail)
 refine KU 5 [0,1] l.length (λk=>k<=l.length/\l.contains w=(l.drop k).contains w) ⟨Nat.zero_le _,rfl⟩ Yl ?_
 rintro k ⟨hk,hi⟩
 rcases hx:l[((k:Int)).toNat]? with _|x
 .skip
  repeat' ((conv=>whnf);first|(refine B6 ?_;intros)|(refine Cv ?_ ?_<;>intro _)|refine Sb (λ_=>?_))
  .exact absurd (List.getElem?_eq_none_iff.1 hx) AC
  .exact fin h (by rw [hi,List.drop_eq_nil_iff.2 AC];rfl)
 .have U:l[k]? =some x:=hx
  have hlt:=(List.getElem?_eq_some_iff.1 U).1
  rw [drop_at U] at hi
  repeat' ((conv=>whnf);first|(refine B6 ?_;intros)|(refine Cv ?_ ?_<;>intro _)|refine Sb (λ_=>?_)|refine U9 hx AC ?_)
  .have e:x=w:=‹_›
   exact fin h (by rw [hi,e,List.contains_cons,beq_self_eq_true,Bool.true_or])
  .have e:¬x=w:=‹_›
   conv=>whnf
   exact ⟨k+1,⟨AC,by rw [hi,List.contains_cons,show (w==x)=false from beq_eq_false_iff_ne.2 (λh=>e h.symm),Bool.false_or]⟩,AC,Yl,St.le_refl _⟩
theorem cT {w:List UInt8} (hw:w≠[]) (h:R (.ret (.int .i64 (H6 w))) st):PC 337 [.str w] st R:=by
 obtain ⟨a,r,rfl⟩:∃a r,w=a::r:=by
  cases w with
  |nil=>exact absurd rfl hw
  |cons a r=>exact ⟨a,r,rfl⟩
 have U:(a::r)[((0:Int)).toNat]? =some a:=rfl
 refine pB Tryz.func337 ?_
 repeat' ((conv=>whnf);first|(refine B6 ?_;intros)|(refine Cv ?_ ?_<;>intro _)|refine uc ?_|refine dV ?_)
 .exact fin h (Bt (by unfold H6;rw [if_pos ‹_›]))
 .exact fin h (Bt (by unfold H6;rw [if_neg f9,if_pos (by simp only [AV];omega)]))
 .exact fin h (Bt (by unfold H6;rw [if_neg f9,if_neg (by simp only [AV];omega)]))
end
end Go.Proofs.Z
namespace Go.Aw
open Go
theorem L5 {p:UInt8->Bool}:∀(l:List UInt8),(l.dropWhile p).all p=true->l.all p=true
 |[],_=>rfl
 |a::r,h=>by
  rw [List.dropWhile_cons] at h
  by_cases U:p a=true
  .rw [if_pos U] at h;rw [List.all_cons,U,Bool.true_and];exact L5 r h
  simp_all
theorem dropWhile_nil {p:UInt8->Bool}:∀(l:List UInt8),l.dropWhile p=[]↔l.all p=true
 |[]=>by simp
 |a::r=>by
  rw [List.dropWhile_cons,List.all_cons]
  by_cases U:p a=true
  .rw [if_pos U,U,Bool.true_and];exact dropWhile_nil r
  simp_all
theorem UT (l:List UInt8):Lib.trimB l 45=[]↔l.all (λb=>b==45)=true:=by
 unfold Lib.trimB Lib.trimLeftB Lib.trimRightB
 rw [dropWhile_nil,List.all_reverse]
 refine ⟨λh=>?_,λh=>?_⟩
 .have:=L5 _ h
  grind
 .have:l.reverse.dropWhile (λb=>b==45)=[]:=(dropWhile_nil _).2 (by grind)
  simp_all
theorem z6 (a b:UInt8) (l:List UInt8):[a,b].isPrefixOf l=decide (AV l=(a.toNat:Nat)/\AV (l.drop 1)=(b.toNat:Nat)):=by
 rcases l with _|⟨x,_|⟨y,r⟩⟩
 .rfl
 .show (a==x&&false)=_
  rw [Bool.and_false]
  refine (decide_eq_false λe=>?_).symm
  have h:(-1:Int)=(b.toNat:Nat):=e.2;omega
 .show (a==x&&(b==y&&true))=decide (((x.toNat:Nat):Int)=(a.toNat:Nat)/\((y.toNat:Nat):Int)=(b.toNat:Nat))
  rw [Bool.and_true,Bool.eq_iff_iff,Bool.and_eq_true,beq_iff_eq,beq_iff_eq,decide_eq_true_iff]
  exact ⟨λe=>by simp_all,λe=>⟨UInt8.toNat_inj.1 AC,UInt8.toNat_inj.1 AC⟩⟩
theorem dk {w:(AP->Env->St->Prop)->Env->St->Prop} {U:Nat->Option ((AP->Env->St->Prop)->Env->St->Prop)} {st:St}
 (h:w (eP (λl env' st'=>∃y:Empty,(λe:Empty=>(e.elim:Nat)) y=l/\(λ_:Empty=>True) y/\((λe:Empty=>(e.elim:Env)) y).E3 env'/\St.le ((λe:Empty=>(e.elim:St)) y) st') Q) env st):QC w U Q env st:=
 ⟨Empty,λe=>e.elim,λe=>e.elim,λe=>e.elim,λ_=>True,λe=>e.elim,h,λx=>x.elim⟩
theorem xA {R:As->St->Prop} {r r':As} {st st':St} (hle:St.le st st') (h:R r st) (e:r=r'):∃r2 U,(r2=r'\/r2=r'.wk)/\St.le U st'/\R r2 U:=⟨r,st,.inl e,hle,h⟩
end Go.Aw
namespace Go.Proofs.Z
open Go Go.Aw
section
variable {st:St} {R:As->St->Prop}
theorem qb {i:Nat} {k:Int} (U:s.length<=100000000) (hi:i<=s.length) (h:R (.ret (.int .i64 (i+BD (λc=>AA c==k) (s.drop i):Nat))) st):PC 206 [.str s,.int .i64 i,.int .i64 k] st R:=
 yL AC (by rw [Ke AC AC,show (i:Int).toNat=i by omega];exact h)
theorem WR (e:i.toNat=n) (h:R (.ret (.bool (decide (AV (s.drop n)=123/\AV (s.drop (n+1))=45)))) st):PC 73 [.str (s.drop i.toNat),.str [123,45]] st R:=by
 refine Jy ?_
 rw [z6,e,List.drop_drop]
 exact h
theorem sq (e:i.toNat=n) (h:R (.ret (.bool (decide (AV (s.drop n)=45/\AV (s.drop (n+1))=125)))) st):PC 73 [.str (s.drop i.toNat),.str [45,125]] st R:=by
 refine Jy ?_
 rw [z6,e,List.drop_drop]
 exact h
theorem oR (hl:s.length<=100000000) (hs:AV s=123/\AV (s.drop 1)=45) (h:R (.ret (.int .i64 (FY 2 (Ed 1 (s.drop 2))))) st):PC 74 [.str s] st R:=by
 have hs0:AV (s.drop 0)=123:=hs.1
 refine pB Tryz.func74 ?_
 repeat' ((conv=>whnf);first|(refine B6 ?_;intros)|(refine Cv ?_ ?_<;>intro _)|refine dk ?_)
 refine KT (α:=Nat) (β:=Nat) (λpos d=>[(3,.int .i64 (d:Int)),(4,.int .i64 (pos:Int))]) (λ_ _=>[]) [0] [] (λ_ _=>st)
  (λpos d=>pos<=s.length/\d<=pos/\((pos=0/\d=0)\/(1<=d/\2<=pos/\FY 2 (Ed 1 (s.drop 2))=FY pos (Ed d (s.drop pos))))) (λpos _=>s.length - pos) 0 0 ⟨Nat.zero_le _,Nat.le_refl _,.inl ⟨rfl,rfl⟩⟩ Yl (St.le_refl _) ?_
 rintro pos d ⟨h1,h2,h3⟩
 have q1:=λh=>B4 (l:=s) (k:=pos+1) h
 rcases h3 with ⟨rfl,rfl⟩|⟨h3,h4,h5⟩
 .have hs1:AV (s.drop (0+1))=45:=hs.2
  repeat' ((conv=>whnf);first|(refine B6 ?_;intros)|(refine Cv ?_ ?_<;>intro _)|refine WR (n:=0) AC ?_)
  .conv=>whnf
   exact ⟨(2,1),⟨AC,AC,.inr ⟨Nat.le_refl _,Nat.le_refl _,rfl⟩⟩,AC,Yl,St.le_refl _⟩
 repeat' ((conv=>whnf);first|(refine B6 ?_;intros)|(refine Cv ?_ ?_<;>intro _)|refine WR (n:=pos) AC ?_|refine sq (n:=pos) AC ?_)
 .have k:AV (s.drop pos)=123/\AV (s.drop (pos+1))=45:=FS
  conv=>whnf
  exact ⟨(pos+2,d+1),⟨AC,AC,.inr ⟨AC,AC,h5.trans (jI k.1 k.2)⟩⟩,AC,Yl,St.le_refl _⟩
 .have k:AV (s.drop pos)=45/\AV (s.drop (pos+1))=125:=FS
  have e:=Ss (d:=d) k.1 k.2
  rw [if_pos AC] at e
  exact fin h (Bt AC)
 .have k:AV (s.drop pos)=45/\AV (s.drop (pos+1))=125:=FS
  have e:=Ss (d:=d) k.1 k.2
  rw [if_neg AC] at e
  obtain ⟨U,rfl⟩:∃U,d=U+1:=⟨d - 1,AC⟩
  rw [Nat.add_sub_cancel] at e
  have e2:((U+1:Nat):Int) - 1=(U:Int):=AC
  refine ⟨(pos+2,U),⟨AC,AC,.inr ⟨AC,AC,h5.trans e⟩⟩,AC,?_,St.le_refl _⟩
  rw [<-e2]
  exact Yl
 .conv=>whnf
  exact ⟨(pos+1,d),⟨AC,AC,.inr ⟨AC,AC,h5.trans (uq AC AC AC)⟩⟩,AC,Yl,St.le_refl _⟩
 .exact fin h (Bt (by rw [h5,oQ AC]))
theorem ym (hl:s.length<=100000000) (h:R (.ret (.int .i64 (IY s:Nat))) st):PC 75 [.str s] st R:=by
 have hr:=Dz (λc=>AA c==5) s
 generalize hn:BD (λc=>AA c==5) s=n at hr
 have hrun:∀{R:As->St->Prop},R (.ret (.int .i64 (n:Nat))) st->PC 72 [.str s,.int .i64 0,.int .i64 5] st R:=λh=>wH AC f9
 obtain ⟨rest,hg⟩:=jw (s.drop n) 0 0 (Nat.le_refl _) (Nat.zero_le _)
 rw [List.drop_zero,List.drop_zero,Nat.zero_add] at hg
 have U:∀{R:As->St->Prop},(∀own:AH,own.BM st->R (.ret (.slice 1 (strs (((s.drop n).take (EJ (s.drop n)))::rest)) own)) (own.st st (((s.drop n).take (EJ (s.drop n)))::rest).length))->PC 120 [.str (s.drop (n:Int).toNat)] st R:=
  λh=>fm (by grind) f9
 refine pB Tryz.func75 ?_
 have hel:=eE (s.drop n)
 have hlt:((s.drop n).take (EJ (s.drop n))).length=EJ (s.drop n):=Nm
 rw [List.length_drop] at hel
 have hrl:IY s=if 2<=n/\(s.take n).all (λb=>b==45)=true then n+EJ (s.drop n) else 0:=by unfold IY;rw [hn]
 repeat' ((conv=>whnf);first|(refine B6 ?_;intros)|(refine Cv ?_ ?_<;>intro _)|refine hrun ?_|refine za Do ?_|refine U (λown ho=>?_)|refine U9 (l:=((s.drop n).take (EJ (s.drop n)))::rest) rfl AC ?_)
 .rw [if_neg AC] at hrl
  exact fin h (Bt AC)
 .have ht:=(UT (s.take n)).1 (by grind)
  rw [if_pos ⟨AC,ht⟩] at hrl
  exact xA (AH.Bz AC) h (Bt AC)
 .have ht:¬(s.take n).all (λb=>b==45)=true:=λe=>absurd ((UT (s.take n)).2 e) (by grind)
  rw [if_neg (λe=>ht e.2)] at hrl
  exact fin h (Bt AC)
theorem Uz (h:F4 (s.drop pos)<0):CV s pos=(0,60):=if_pos h
theorem fx (h:F4 (s.drop pos)=0):CV s pos=(0,0):=by unfold CV;simp_all
theorem jL {n:Int} (h:F4 (s.drop pos)=n) (U:0<n) (e:i=pos+n):CV s pos=(i,0):=by unfold CV;grind
theorem NQ {n:Int} (h:F4 (s.drop pos)=n) (U:0<n) (e:i=pos+n):As.ret (.Bc [.int .i64 (CV s pos).1,.int .i64 (CV s pos).2])=As.ret (.Bc [.int .i64 i,.int .i64 0]):=by rw [jL h U e]
theorem uA (hl:s.length<=100000000) (hp:pos<s.length) (h:R (.ret (.Bc [.int .i64 (CV s pos).1,.int .i64 (CV s pos).2])) st):PC 48 [.str s,.int .i64 pos] st R:=by
 have hle:=oY (s.drop pos)
 rw [List.length_drop] at hle
 have U:(s.drop pos).length<=100000000:=IR
 have d1:(s.drop pos).drop 1=s.drop (pos+1):=List.drop_drop
 obtain ⟨e,he⟩:∃e,s[pos]? =some e:=⟨s[pos],List.getElem?_eq_getElem hp⟩
 have he':s[(pos:Int).toNat]? =some e:=he
 have hh:=CZ he
 refine pB Tryz.func48 ?_
 by_cases hk:AV (s.drop pos)=123/\AV (s.drop (pos+1))=45
 .have hN:F4 (s.drop pos)=FY 2 (Ed 1 ((s.drop pos).drop 2)):=if_pos ⟨hk.1,f9⟩
  have hc:∀{R:As->St->Prop},R (.ret (.int .i64 (F4 (s.drop pos)))) st->PC 74 [.str (s.drop (pos:Int).toNat)] st R:=λh=>oR U ⟨hk.1,f9⟩ f9
  repeat' ((conv=>whnf);first|(refine B6 ?_;intros)|(refine Cv ?_ ?_<;>intro _)|refine WR (n:=pos) AC ?_|refine hc ?_)
  all_goals first
   |exact fin h (by rw [Uz AC])
   |exact fin h (by rw [fx AC])
   |exact fin h (NQ rfl AC AC)
   |exact fin h (NQ (hN AC) AC AC)
 .have hN:AV (s.drop pos)=45->F4 (s.drop pos)=(IY (s.drop pos):Nat):=λe=>by unfold F4;omega
  have hN0:¬AV (s.drop pos)=45->F4 (s.drop pos)=0:=λe=>by unfold F4;simp_all
  have hc:∀{R:As->St->Prop},R (.ret (.int .i64 (IY (s.drop pos):Nat))) st->PC 75 [.str (s.drop (pos:Int).toNat)] st R:=λh=>ym U h
  repeat' ((conv=>whnf);first|(refine B6 ?_;intros)|(refine Cv ?_ ?_<;>intro _)|refine WR (n:=pos) AC ?_|refine hc ?_)
  all_goals first
   |exact fin h (by rw [Uz AC])
   |exact fin h (by rw [fx AC])
   |exact fin h (NQ rfl AC AC)
   |exact fin h (NQ (hN AC) AC AC)
end
end Go.Proofs.Z
namespace Go.Aw
open Go
def Lk (l:List UInt8):Int:=if AV l<0 then 0 else AV l
theorem xm {i:Nat} {e:UInt8} (h:s[i]? =some e):Lk (s.drop i)=(e.toNat:Nat):=by unfold Lk;rw [CZ h,if_neg AC]
theorem mc {i:Nat} (h:s.length<=i):Lk (s.drop i)=0:=by unfold Lk;rw [Ey h];rfl
theorem KB (l:List UInt8):(AV l= -1/\Lk l=0)\/(0<=AV l/\Lk l=AV l):=by
 have:=RR l
 unfold Lk
 split
 .exact .inl ⟨AC,rfl⟩
 .exact .inr ⟨AC,rfl⟩
def rC (l:List (Nat×Nat)):List (List V):=l.map λp=>[V.int .i64 (p.1:Int),V.int .i64 (p.2:Int)]
def TT (st:St) (n:Nat):AH->Prop
 | .full=>True
 | .tok b=>st.hw b=some n
 | .any=>False
def lG (st0:St):AH->Prop
 | .tok b=>st0.fresh b
 |_=>True
def dR:AH->AH->Prop
 | .tok b,.tok c=>b≠c
 |_,_=>True
structure Ca (st0 st:St) (w1:AH) (n1:Nat) (w2:AH) (n2:Nat):Prop where
 o1:TT st n1 w1
 o2:TT st n2 w2
 f1:lG st0 w1
 f2:lG st0 w2
 ne:dR w1 w2
 le:st0.le st
theorem dR.symm {a b:AH} (h:dR a b):dR b a:=by
 cases a<;>cases b<;>first|exact h|exact Ne.symm h
theorem Ca.swap {st:St} (h:Ca st0 st w1 n1 w2 n2):Ca st0 st w2 n2 w1 n1:=⟨h.o2,h.o1,h.f2,h.f1,h.ne.symm,h.le⟩
theorem Ca.set {st:St} {b:Nat} (h:Ca st0 st w1 n1 w2 n2) (hb:st0.box b=none) (cs:List V):Ca st0 (st.Aa b cs) w1 n1 w2 n2:=
 ⟨by have:=h.o1;cases w1<;>exact this,by have:=h.o2;cases w2<;>exact this,h.f1,h.f2,h.ne,St.Ag h.le hb cs⟩
theorem LB {st:St} {sz bytes:Nat} {es new:List (List V)} (h:Ca st0 st w1 n1 w2 n2) (hn:n1=es.length*sz)
 (h1:(es.length+new.length)*bytes<=140737488355328) (h2:es.length+new.length<DR) (h3:(new.all λv=>v.all V.sc)=true) (hne:new≠[])
 (k:∀w1' st',Ca st0 st' w1' ((es.length+new.length)*sz) w2 n2->st'.box=st.box->K (.slice sz (es++new.map (·.map V.JK)) w1') st'):Aj sz bytes es w1 new st K:=by
 subst hn
 have frs:∀{x:Nat},st.fresh x->st0.fresh x:=λ{x} hx=>by
  refine ⟨?_,?_⟩
  .cases e:st0.box x with
   |none=>rfl
   |some c=>have:=h.le.1 _ _ e;rw [hx.1] at this;cases this
  .cases e:st0.hw x with
   |none=>rfl
   |some c=>have:=h.le.2 _ _ e;rw [hx.2] at this;cases this
 refine ⟨h1,h2,AY h3 ?_⟩
 cases hw:w1 with
 |any=>have:=h.o1;rw [hw] at this;exact this
 |full=>
  refine ⟨λe=>absurd e hne,λ_=>.inl λb hb=>k (.tok b) _ ⟨?_,?_,frs hb,h.f2,?_,St.Ec h.le (frs hb).2 _⟩ rfl⟩
  .simp [TT,St.B0]
  .have:=h.o2
   cases w2 with
   |tok c=>
    have hc:st.hw c=some n2:=this
    have:c≠b:=λe=>by subst e;rw [hb.2] at hc;cases hc
    simp [TT,St.B0,this,hc]
   |_=>exact this
  .cases w2 with
   |tok c=>
    have hc:st.hw c=some n2:=h.o2
    exact λe=>by subst e;rw [hb.2] at hc;cases hc
   |_=>trivial
 |tok b=>
  subst hw
  have hb:st.hw b=some (es.length*sz):=h.o1
  have hb0:st0.fresh b:=h.f1
  refine ⟨hb,.inl λb' U=>k (.tok b') _ ⟨?_,?_,?_,h.f2,?_,?_⟩ rfl⟩
  .simp [TT,St.B0]
  .have:=h.o2
   cases w2 with
   |tok c=>
    have hc:st.hw c=some n2:=this
    have hcb:b≠c:=h.ne
    have hcb':c≠b':=λe=>by
     subst e
     rcases U with e|U
     .exact hcb e.symm
     .rw [U.2] at hc;cases hc
    simp [TT,St.B0,St.Ek,hcb',hcb.symm,hc]
   |_=>exact this
  .rcases U with rfl|U
   .exact hb0
   .exact frs U
  .cases w2 with
   |tok c=>
    have hc:st.hw c=some n2:=h.o2
    have hcb:b≠c:=h.ne
    refine λ(e:b'=c)=>?_
    subst e
    rcases U with e|U
    .exact hcb e.symm
    .rw [U.2] at hc;cases hc
   |_=>trivial
  .refine ⟨λx cs e=>h.le.1 x cs e,λx n e=>?_⟩
   have e1:=h.le.2 x n e
   have hx:x≠b:=λhx=>by subst hx;rw [hb0.2] at e;cases e
   have hx':x≠b':=λhx=>by
    subst hx
    rcases U with e'|U
    .exact hx e'
    .rw [U.2] at e1;cases e1
   simp [St.B0,St.Ek,hx,hx',e1]
theorem Iv (l:List Int):(ints l).length=l.length:=by simp [ints]
theorem J9 (l:List (Nat×Nat)):(rC l).length=l.length:=by simp [rC]
theorem Zx {st:St} (h:Ca st0 st w1 o.length w2 n2) (hl:o.length<=1000000000)
 (k:∀U st',Ca st0 st' U (o++[v]).length w2 n2->st'.box=st.box->K (.slice 1 (ints (o++[v])) U) st'):Aj 1 8 (ints o) w1 [[.int .i64 v]] st K:=by
 refine LB h (by rw [Iv];omega) (by rw [Iv,List.length_singleton];omega) (by rw [Iv,List.length_singleton];unfold DR;omega) rfl GT (λU st' hr hb=>?_)
 have:=k U st' (by rw [Iv] at hr;rw [List.length_append];simpa using hr) hb
 rwa [show ints (o++[v])=ints o++([[V.int .i64 v]]:List (List V)).map (·.map V.JK) by simp [ints,V.JK]] at this
theorem kv {st:St} {p:Nat×Nat} {a:Int} (h:Ca st0 st w1 n1 w2 (2*g.length)) (hl:g.length<=1000000000) (ha:a=(p.1:Int)) (hb:b=(p.2:Int))
 (k:∀U st',Ca st0 st' w1 n1 U (2*(g++[p]).length)->st'.box=st.box->K (.slice 2 (rC (g++[p])) U) st'):Aj 2 16 (rC g) w2 [[.int .i64 a,.int .i64 b]] st K:=by
 subst ha;subst hb
 refine LB h.swap (by rw [J9];omega) (by rw [J9,List.length_singleton];omega) (by rw [J9,List.length_singleton];unfold DR;omega) rfl GT (λw1' st' hr hb=>?_)
 have:=k w1' st' (by rw [J9] at hr;rw [List.length_append];have:=hr.swap;simpa [Nat.mul_comm] using this) hb
 rwa [show rC (g++[p])=rC g++([[V.int .i64 (p.1:Int),V.int .i64 (p.2:Int)]]:List (List V)).map (·.map V.JK) by simp [rC,V.JK]] at this
theorem St.AX (st:St) (b:Nat) (cs:List V):(st.Aa b cs).box b=some cs:=by simp [St.Aa]
theorem Al {st:St} {b:Nat} {K:List V->Prop} (h:st.box b=some cs) (k:K cs):∃cs,st.box b=some cs/\K cs:=⟨cs,h,k⟩
end Go.Aw
namespace Go.Proofs.Z
open Go Go.Aw
def Mj (c:Int):Int:=if c=97 then 0 else if c=98 then 1 else if c=116 then 2 else if c=110 then 3 else if c=118 then 4 else if c=102 then 5 else if c=114 then 6 else -1
theorem wX (u:UInt8):Lib.indexByte [97,98,116,110,118,102,114] u=Mj (u.toNat:Nat):=by
 have key:∀k:UInt8,((u.toNat:Nat):Int)=((k.toNat:Nat):Int)->u=k:=λk e=>UInt8.toNat_inj.1 AC
 unfold Mj
 by_cases h1:((u.toNat:Nat):Int)=97
 .rw [key 97 h1];rfl
 by_cases h2:((u.toNat:Nat):Int)=98
 .rw [key 98 h2];rfl
 by_cases h3:((u.toNat:Nat):Int)=116
 .rw [key 116 h3];rfl
 by_cases h4:((u.toNat:Nat):Int)=110
 .rw [key 110 h4];rfl
 by_cases h5:((u.toNat:Nat):Int)=118
 .rw [key 118 h5];rfl
 by_cases U:((u.toNat:Nat):Int)=102
 .rw [key 102 U];rfl
 by_cases h7:((u.toNat:Nat):Int)=114
 .rw [key 114 h7];rfl
 rw [if_neg h1,if_neg h2,if_neg h3,if_neg h4,if_neg h5,if_neg U,if_neg h7]
 have ne:∀k:UInt8,¬((u.toNat:Nat):Int)=((k.toNat:Nat):Int)->(k==u)=false:=λk e=>beq_eq_false_iff_ne.2 (λx=>e (by rw [x]))
 simp only [Lib.indexByte,ne 97 h1,ne 98 h2,ne 116 h3,ne 110 h4,ne 118 h5,ne 102 U,ne 114 h7]
 rfl
def qC (s:List UInt8) (p:Nat) (tx:Bool) (o:List Int) (w1:AH) (g:List (Nat×Nat)) (w2:AH):List V:=[.str s,.int .i64 (p:Int),.bool tx,.slice 1 (ints o) w1,.slice 2 (rC g) w2]
def Ka (p:Int) (e:Int):V:=.iface 257 (.agg [.int .i64 p,.int .i64 e])
section
variable {st:St} {R:As->St->Prop}
theorem GS {v:V} {p e:Int} (h:R (.B7 (Ka p e)) st):PC 245 [v,.int .i64 p,.int .i64 e] st R:=by
 refine pB Tryz.func245 ?_
 repeat' ((conv=>whnf);first|  fail)
 all_goals exact fin h rfl
theorem E7 {b p:Nat} (hl:s.length<=100000000) (hp:p<=s.length) (hk:k<=10) (hb:st.box b=some (qC s p tx o w1 g w2))
 (h:R (.ret (.int .u8 (Lk (s.drop (p+k))))) st):PC 243 [.ptr b 0,.int .i64 k] st R:=by
 refine pB Tryz.func243 ?_
 have e0:((p:Int)+(k:Int)).toNat=p+k:=AC
 by_cases U:p+k<s.length
 .obtain ⟨e,he⟩:∃e,s[p+k]? =some e:=⟨s[p+k],List.getElem?_eq_getElem U⟩
  have he':s[((p:Int)+(k:Int)).toNat]? =some e:=by rw [e0];exact he
  rw [xm he] at h
  repeat' ((conv=>whnf);first|exact EG|(refine B6 ?_;intros)|(refine EH ?_ ?_ ?_;rotate_left)|refine Al hb ?_|refine Ao GE ?_|fail)
  all_goals exact fin h rfl
 .rw [mc AC] at h
  repeat' ((conv=>whnf);first|exact EG|(refine B6 ?_;intros)|(refine EH ?_ ?_ ?_;rotate_left)|refine Al hb ?_|refine Ao GE ?_|fail)
  all_goals exact fin h rfl
theorem zq (U:0<=c) (h1:c<=255) (h:R (.ret (.int .i64 (Mj c))) st):PC 294 [.str [97,98,116,110,118,102,114],.int .u8 c] st R:=by
 obtain ⟨u,rfl⟩:∃u:UInt8,c=((u.toNat:Nat):Int):=⟨UInt8.ofNat c.toNat,by rw [UInt8.toNat_ofNat'];omega⟩
 exact xn (by rw [wX];exact h)
def yQ:Option Int->V
 |some v=>.Bc [.int .i64 v,.bool true]
 |none=>.Bc [.int .i64 0,.bool false]
theorem qn (U:0<=c) (h1:c<=255) (h:R (.ret (yQ (Ih c))) st):PC 332 [.int .u8 c] st R:=by
 have ha:(Mj c= -1/\¬(c=97\/c=98\/c=116\/c=110\/c=118\/c=102\/c=114))\/(0<=Mj c/\Mj c<=6/\((c=97/\Mj c=0)\/(c=98/\Mj c=1)\/(c=116/\Mj c=2)\/(c=110/\Mj c=3)\/(c=118/\Mj c=4)\/(c=102/\Mj c=5)\/(c=114/\Mj c=6))):=by
  unfold Mj
  (repeat' split)<;>first|(left;omega)|(right;omega)
 refine pB Tryz.func332 ?_
 repeat' ((conv=>whnf);first|(refine B6 ?_;intros)|(refine Cv ?_ ?_<;>intro _)|refine zq U h1 ?_)
 all_goals first
  |exact fin h (by rw [show Ih c=some c by unfold Ih;rw [if_pos AC]];rfl)
  |(have e:Ih c=some (7+Mj c):=by
     unfold Ih
     rw [if_neg AC]
     (repeat' split)<;>first|(congr 1;omega)|(exfalso;omega)
    exact fin h (by rw [e];rfl))
  |(have e:Ih c=none:=by
     unfold Ih
     rw [if_neg AC]
     (repeat' split)<;>first|rfl|(exfalso;omega)
    exact fin h (by rw [e];rfl))
end
end Go.Proofs.Z
namespace Go.Aw
open Go
def Sr:List UInt8:=[78,85,76,32,83,79,72,32,83,84,88,32,69,84,88,32,69,79,84,32,69,78,81,32,65,67,75,32,66,69,76,32,66,83,32,72,84,32,76,70,32,86,84,32,70,70,32,67,82,32,83,79,32,83,73,32,68,76,69,32,68,67,49,32,68,67,50,32,68,67,51,32,68,67,52,32,78,65,75,32,83,89,78,32,69,84,66,32,67,65,78,32,69,77,32,83,85,66,32,69,83,67,32,70,83,32,71,83,32,82,83,32,85,83,32,83,80,32,68,69,76]
theorem VF:Lib.fields Sr=Fi:=GE
theorem oO:∀b ∈ Sr,b.toNat<128:=by
 have h:Sr.all (λb=>decide (b.toNat<128))=true:=GE
 simp_all
theorem Ut:∀w ∈ Fi,1<=w.length/\w.length<=3:=by
 have h:Fi.all (λw=>decide (1<=w.length)&&decide (w.length<=3))=true:=GE
 simp_all
theorem uj:Fi.length=34:=H1
theorem XD {c:Nat} (h:pos<s.length) (U:(c,m)=Ba (s.drop pos)) (k:¬BE (c:Int) base<0):JJ base v (s.drop pos)=JJ base (min (v*base+BE (c:Int) base) 1114112) (s.drop (pos+1)):=by
 rw [List.drop_eq_getElem_cons h] at U |-
 by_cases hb:s[pos].toNat<128
 .rw [JR hb] at U
  injection U with h1 h2
  subst h1
  rw [JJ,if_neg k]
 .have:=Nc (r:=s.drop (pos+1)) hb
  rw [<-U] at this
  exact absurd (Jd (c:=(c:Int)) (base:=base) AC) k
theorem LO {c:Nat} (h:pos<s.length) (U:(c,m)=Ba (s.drop pos)) (k:BE (c:Int) base<0):JJ base v (s.drop pos)=v:=by
 rw [List.drop_eq_getElem_cons h] at U |-
 by_cases hb:s[pos].toNat<128
 .rw [JR hb] at U
  injection U with h1 h2
  subst h1
  rw [JJ,if_pos k]
 .rw [JJ,if_pos (Jd AC)]
theorem O6 (h:s.length<=pos):JJ base v (s.drop pos)=v:=by rw [List.drop_eq_nil_iff.2 h];rfl
theorem Lm:BE c b<0\/BE c b<b:=by
 unfold BE
 grind
theorem bC {K:Int->Prop} (h0:0<=v) (h1:v<=1114112) (hb:0<=b) (U:b<=16) (hk:¬BE c b<0) (k:K (v*b+BE c b)):∃r,r=IntKind.i64.wrap (v*b+BE c b)/\K r:=by
 have h2:0<=v*b:=Int.mul_nonneg h0 hb
 have h3:v*b<=1114112*16:=Int.mul_le_mul h1 U hb Do
 have h4:=Lm (c:=c) (b:=b)
 exact Wq AC AC k
theorem oN:Sr.length<1000:=GE
theorem oH {a:Int} {K:Int->Prop} (k:K (min a b)):∃r,r=(if b<a then b else a)/\K r:=⟨min a b,AC,k⟩
theorem jF {i c:Nat} (h:Fi[i]? =some x):OI l (Fi.drop i) i (c,n)=OI l (Fi.drop (i+1)) (i+1) (if n<x.length/\x.isPrefixOf l=true then (i,x.length) else (c,n)):=by
 rw [drop_at h,OI]
theorem ui {c:Nat} (h:OI l Fi 0 (0,0)=(c,n)):Kt l=(if c=33 then 127 else (c:Int),n):=by
 have key:∀p:Nat×Nat,p=(c,n)->((if p.1=33 then 127 else (p.1:Int),p.2):Int×Nat)=(if c=33 then 127 else (c:Int),n):=λp U=>by simp_all
 exact key _ h
end Go.Aw
namespace Go.Proofs.Z
open Go Go.Aw
theorem F5 {t:Bool} (U:Bx b s=n) (e2:JJ b 0 s=v) (e3:decide (n≠0/\v<=1114111)=t):As.ret (.Bc [.int .i64 (JJ b 0 s),.int .i64 (Bx b s:Nat),.bool (decide (Bx b s≠0/\JJ b 0 s<=1114111))])=As.ret (.Bc [.int .i64 v,.int .i64 (n:Int),.bool t]):=f9
section
variable {st:St} {R:As->St->Prop}
theorem ns {l:List (List UInt8)} (e:Lib.fields s=l) (hz:s.length<1000) (U:∀b ∈ s,b.toNat<128) (hl:∀x ∈ l,x.length<=3) (hn:l.length<=1000) (h:R (.ret (.slice 1 (strs l) .any)) st):PC 214 [.str s] st R:=by
 subst e
 exact Yi AC U h (λx hx=>by have:=hl x hx;unfold DR;omega) (by unfold DR;omega)
theorem uo (h:R (.ret (.slice 1 (strs Fi) .any)) st):PC 214 [.str Sr] st R:=
 ns VF oN oO (λx U=>(Ut x U).2) (Nat.le_trans (Nat.le_of_eq uj) Do) h
set_option maxRecDepth 100000 in
theorem uk (hl:s.length<=100000000) (h:R (.ret (.Bc [.int .i64 (Kt s).1,.int .i64 (Kt s).2])) st):PC 334 [.str s] st R:=by
 refine pB Tryz.func334 ?_
 repeat' ((conv=>whnf);first|(refine B6 ?_;intros)|(refine Cv ?_ ?_<;>intro _)|refine uo ?_|refine Sb (λ_=>?_))
 refine VY (α:=Nat) (β:=Nat) (γ:=Nat) (λi c n=>[(8,.int .i64 (i:Int)),(2,.int .i64 (c:Int)),(3,.int .i64 (n:Int))]) (λ_ _ _=>[]) [0,6,7] [] (λ_ _ _=>st)
  (λi c n=>i<=Fi.length/\n<=3/\OI s Fi 0 (0,0)=OI s (Fi.drop i) i (c,n)) (λi _ _=>Fi.length - i) 0 0 0 ⟨Nat.zero_le _,Do,rfl⟩ Yl (St.le_refl _) ?_
 rintro i c n ⟨h1,h2,h3⟩
 rcases U:Fi[i]? with _|x
 .have hge:=List.getElem?_eq_none_iff.1 U
  rw [List.drop_eq_nil_iff.2 hge] at h3
  have e:=ui h3
  repeat' ((conv=>whnf);first|(refine B6 ?_;intros)|(refine Cv ?_ ?_<;>intro _)|fail)
  all_goals first
   |exact fin h (by rw [e,if_pos AC])
   |exact fin h (by rw [e,if_neg AC])
 .have hlt:=(List.getElem?_eq_some_iff.1 U).1
  have hm:=Ut x (List.mem_of_getElem? U)
  rw [jF U] at h3
  have hx':Fi[((i:Int)).toNat]? =some x:=U
  repeat' ((conv=>whnf);first|(refine B6 ?_;intros)|(refine Cv ?_ ?_<;>intro _)|refine U9 hx' AC ?_|refine Jy ?_)
  .rw [if_pos ⟨AC,AC⟩] at h3
   conv=>whnf
   exact ⟨(i+1,i,x.length),⟨AC,f9,h3⟩,AC,Yl,St.le_refl _⟩
  .have hp:x.isPrefixOf s=false:=FS
   rw [if_neg (λy=>by simp_all)] at h3
   conv=>whnf
   exact ⟨(i+1,c,n),⟨AC,AC,h3⟩,AC,Yl,St.le_refl _⟩
  .rw [if_neg (λy=>by omega)] at h3
   conv=>whnf
   exact ⟨(i+1,c,n),⟨AC,AC,h3⟩,AC,Yl,St.le_refl _⟩
theorem Zc (hl:s.length<=100000000) (hb:b=8\/b=10\/b=16) (h:R (.ret (.Bc [.int .i64 (JJ b 0 s),.int .i64 (Bx b s:Nat),.bool (decide (Bx b s≠0/\JJ b 0 s<=1114111))])) st):PC 367 [.str s,.int .i64 b] st R:=by
 refine pB Tryz.func367 ?_
 repeat' ((conv=>whnf);first|(refine B6 ?_;intros)|(refine Cv ?_ ?_<;>intro _)|fail)
 refine KT (α:=Nat) (β:=Int) (λpos v=>[(4,.int .i64 v),(5,.int .i64 (pos:Int))]) (λpos _=>[(0,[.P1 s pos])]) [0,1,11] [] (λ_ _=>st)
  (λpos v=>pos<=s.length/\0<=v/\v<=1114112/\Bx b s=pos+Bx b (s.drop pos)/\JJ b 0 s=JJ b v (s.drop pos)) (λpos _=>s.length - pos) 0 0 ⟨Nat.zero_le _,Do,Do,GT,rfl⟩ Yl (St.le_refl _) ?_
 rintro pos v ⟨h1,h2,h3,h4,h5⟩
 rcases hb with rfl|rfl|rfl
 .skip
  have hdl:=λc=>Lm (c:=c) (b:=8)
  repeat' ((conv=>whnf);first|(refine B6 ?_;intros)|(refine Cv ?_ ?_<;>intro _)|refine Ng ?_|refine oH ?_|refine bC h2 h3 Do Do ‹_› ?_)
  all_goals first
   |(rename_i U c m hd hk _ _
     have e1:=Iz U hd hk
     have e2:=LO (v:=v) U hd hk
     exact fin h (F5 AC (h5.trans e2) (by first|exact decide_eq_true ⟨AC,AC⟩|exact decide_eq_false AC)))
   |(rename_i U c m hd hk _
     have e1:=Iz U hd hk
     have e2:=LO (v:=v) U hd hk
     exact fin h (F5 AC (h5.trans e2) (by first|exact decide_eq_true ⟨AC,AC⟩|exact decide_eq_false AC)))
   |(have e1:=JA (base:=8) (s:=s) (pos:=pos) AC
     have e2:=O6 (base:=8) (v:=v) (s:=s) (pos:=pos) AC
     exact fin h (F5 AC (h5.trans e2) (by first|exact decide_eq_true ⟨AC,AC⟩|exact decide_eq_false AC)))
   |(rename_i U c m hd hk
     obtain ⟨e1,e2⟩:=NY U hd hk
     have e3:=XD (v:=v) U hd hk
     have e4:=hdl (c:Int)
     subst e1
     conv=>whnf
     exact ⟨(pos+1,min (v*8+BE (c:Int) 8) 1114112),⟨RL,RL,RL,RL,h5.trans e3⟩,RL,Yl,St.le_refl _⟩)
 .skip
  have hdl:=λc=>Lm (c:=c) (b:=10)
  repeat' ((conv=>whnf);first|(refine B6 ?_;intros)|(refine Cv ?_ ?_<;>intro _)|refine Ng ?_|refine oH ?_|refine bC h2 h3 Do Do ‹_› ?_)
  all_goals first
   |(rename_i U c m hd hk _ _
     have e1:=Iz U hd hk
     have e2:=LO (v:=v) U hd hk
     exact fin h (F5 AC (h5.trans e2) (by first|exact decide_eq_true ⟨AC,AC⟩|exact decide_eq_false AC)))
   |(rename_i U c m hd hk _
     have e1:=Iz U hd hk
     have e2:=LO (v:=v) U hd hk
     exact fin h (F5 AC (h5.trans e2) (by first|exact decide_eq_true ⟨AC,AC⟩|exact decide_eq_false AC)))
   |(have e1:=JA (base:=10) (s:=s) (pos:=pos) AC
     have e2:=O6 (base:=10) (v:=v) (s:=s) (pos:=pos) AC
     exact fin h (F5 AC (h5.trans e2) (by first|exact decide_eq_true ⟨AC,AC⟩|exact decide_eq_false AC)))
   |(rename_i U c m hd hk
     obtain ⟨e1,e2⟩:=NY U hd hk
     have e3:=XD (v:=v) U hd hk
     have e4:=hdl (c:Int)
     subst e1
     conv=>whnf
     exact ⟨(pos+1,min (v*10+BE (c:Int) 10) 1114112),⟨RL,RL,RL,RL,h5.trans e3⟩,RL,Yl,St.le_refl _⟩)
 .skip
  have hdl:=λc=>Lm (c:=c) (b:=16)
  repeat' ((conv=>whnf);first|(refine B6 ?_;intros)|(refine Cv ?_ ?_<;>intro _)|refine Ng ?_|refine oH ?_|refine bC h2 h3 Do Do ‹_› ?_)
  all_goals first
   |(rename_i U c m hd hk _ _
     have e1:=Iz U hd hk
     have e2:=LO (v:=v) U hd hk
     exact fin h (F5 AC (h5.trans e2) (by first|exact decide_eq_true ⟨AC,AC⟩|exact decide_eq_false AC)))
   |(rename_i U c m hd hk _
     have e1:=Iz U hd hk
     have e2:=LO (v:=v) U hd hk
     exact fin h (F5 AC (h5.trans e2) (by first|exact decide_eq_true ⟨AC,AC⟩|exact decide_eq_false AC)))
   |(have e1:=JA (base:=16) (s:=s) (pos:=pos) AC
     have e2:=O6 (base:=16) (v:=v) (s:=s) (pos:=pos) AC
     exact fin h (F5 AC (h5.trans e2) (by first|exact decide_eq_true ⟨AC,AC⟩|exact decide_eq_false AC)))
   |(rename_i U c m hd hk
     obtain ⟨e1,e2⟩:=NY U hd hk
     have e3:=XD (v:=v) U hd hk
     have e4:=hdl (c:Int)
     subst e1
     conv=>whnf
     exact ⟨(pos+1,min (v*16+BE (c:Int) 16) 1114112),⟨RL,RL,RL,RL,h5.trans e3⟩,RL,Yl,St.le_refl _⟩)
end
end Go.Proofs.Z
namespace Go.Aw
open Go
theorem jO (h:Ku b l=some (v,n)):JJ b 0 l=v/\Bx b l=n/\n≠0/\v<=1114111:=by
 unfold Ku at h
 split at h
 .cases h
 .injection h with h;injection h with h1 h2
  exact ⟨h1,h2,AC,AC⟩
theorem jN (h:Ku b l=none):decide (Bx b l≠0/\JJ b 0 l<=1114111)=false:=by
 unfold Ku at h
 split at h
 .exact decide_eq_false AC
 .cases h
theorem IJ {R:As->St->Prop} {r r':As} {st st':St} (es:st'=st) (h:R r st) (e:r=r'):∃r2 U,(r2=r'\/r2=r'.wk)/\St.le U st'/\R r2 U:=by subst es;exact ⟨r,st',.inl e,St.le_refl _,h⟩
theorem St.K5 (st:St) (b:Nat) (cs cs':List V):(st.Aa b cs).Aa b cs'=st.Aa b cs':=by
 simp only [St.Aa,St.mk.injEq,and_true]
 funext x
 split<;>rfl
end Go.Aw
namespace Go.Proofs.Z
open Go Go.Aw
theorem UD {q:Nat} (e:i=(q:Int)):[V.str s,.int .i64 i,.bool tx,.slice 1 (ints o) w1,.slice 2 (rC g) w2]=qC s q tx o w1 g w2:=by subst e;rfl
section
variable {st:St} {R:As->St->Prop}
theorem o8 (e:i.toNat=m) (hn:Ku b (s.drop m)=some (v,n)) (hl:s.length<=100000000) (hb:b=8\/b=10\/b=16) (h:R (.ret (.Bc [.int .i64 v,.int .i64 n,.bool true])) st):PC 367 [.str (s.drop i.toNat),.int .i64 b] st R:=by
 rw [e]
 obtain ⟨U,e2,e3,e4⟩:=jO hn
 exact Zc IR hb (by rw [U,e2,decide_eq_true ⟨e3,e4⟩];exact h)
theorem o9 (e:i.toNat=m) (hn:Ku b (s.drop m)=none) (U:s.length<=100000000) (hb:b=8\/b=10\/b=16) (h:R (.ret (.Bc [.int .i64 (JJ b 0 (s.drop m)),.int .i64 (Bx b (s.drop m):Nat),.bool false])) st):PC 367 [.str (s.drop i.toNat),.int .i64 b] st R:=by
 rw [e]
 exact Zc IR hb (by rw [jN hn];exact h)
theorem Rc {b p:Nat} {frm:Int} (hl:s.length<=100000000) (hp:p+k<=s.length) (U:base=8\/base=10\/base=16) (hb:st.box b=some (qC s p tx o w1 g w2))
 (h:∀v n,Ku base (s.drop (p+k))=some (v,n)->R (.ret (.int .i64 v)) (st.Aa b (qC s (p+k+n) tx o w1 g w2))) (h0:Ku base (s.drop (p+k))=none->R (.B7 (Ka frm 51)) st):
 PC 333 [.ptr b 0,.int .i64 frm,.int .i64 k,.int .i64 base] st R:=by
 refine pB Tryz.func333 ?_
 rcases hn:Ku base (s.drop (p+k)) with _|⟨v,n⟩
 .have h0:=h0 hn
  repeat' ((conv=>whnf);first|exact EG|(refine B6 ?_;intros)|(refine EH ?_ ?_ ?_;rotate_left)|refine Al hb ?_|refine o9 (m:=p+k) AC hn hl U ?_|refine GS ?_|refine Ab [(0,true),(1,true),(2,true),(3,true),(4,true),(5,true),(6,true),(7,true),(8,true),(9,true),(10,true),(11,true),(12,false),(13,true),(14,true),(15,true),(16,true),(17,true),(18,true),(19,true)] [] GE ?_|fail)
  all_goals exact fin h0 rfl
 .have h:=h v n hn
  have hle:=Qr hn
  rw [List.length_drop] at hle
  dsimp only at hle
  repeat' ((conv=>whnf);first|exact EG|(refine B6 ?_;intros)|(refine EH ?_ ?_ ?_;rotate_left)|refine Al hb ?_|refine o8 (m:=p+k) AC hn hl U ?_|refine GS ?_|refine Ab [(0,true),(1,true),(2,true),(3,true),(4,true),(5,true),(6,true),(7,true),(8,true),(9,true),(10,true),(11,true),(12,false),(13,true),(14,true),(15,true),(16,true),(17,true),(18,true),(19,true)] [] GE ?_|fail)
  exact IJ (congrArg (st.Aa b) (UD AC)) h rfl
theorem eM {p:Nat}:Fa (s.drop p)=if AV (s.drop p)=92/\BD (λc=>AA c==1) (s.drop (p+1))≠0/\AV (s.drop (p+1+BD (λc=>AA c==1) (s.drop (p+1))))=92 then BD (λc=>AA c==1) (s.drop (p+1))+2 else 0:=by
 have U:(s.drop p).drop 1=s.drop (p+1):=List.drop_drop
 unfold Fa;rw [U,List.drop_drop,Nat.add_assoc]
theorem LC {q:Nat} (hl:s.length<=100000000) (hq:q<=s.length) (U:BD (λc=>AA c==1) (s.drop q)=k) (e:i=(q:Int)) (h:R (.ret (.int .i64 (q+k:Nat))) st):PC 72 [.str s,.int .i64 i,.int .i64 1] st R:=by
 subst e;exact wG AC (by rw [Ke AC AC,show (q:Int).toNat=q by omega,U];exact h)
theorem xE {b p:Nat} (U:s.length<=100000000) (hp:p<=s.length) (hb:st.box b=some (qC s p tx o w1 g w2)) (hg:tx=false\/Fa (s.drop p)=0) (h:R (.ret (.bool false)) st):PC 296 [.ptr b 0] st R:=by
 refine pB Tryz.func296 ?_
 have hby:=KB (s.drop p)
 cases tx with
 |false=>
  repeat' ((conv=>whnf);first|exact EG|(refine B6 ?_;intros)|(refine EH ?_ ?_ ?_;rotate_left)|(refine Cv ?_ ?_<;>intro _)|refine Al hb ?_|refine E7 (k:=0) U hp Do hb ?_|refine Ab [(0,true),(1,true),(2,true),(3,true),(4,true),(5,true),(6,true),(7,true),(8,true),(9,false),(10,true)] [] GE ?_|refine Ab [(0,true),(1,true),(2,true),(3,true),(4,true),(5,true),(6,true),(7,true),(8,true),(9,true),(10,true),(11,true),(12,true),(13,false),(14,true),(15,true),(16,false)] [] GE ?_|fail)
  all_goals exact fin h rfl
 |true=>
  have hg:Fa (s.drop p)=0:=hg.resolve_left Do
  by_cases h1:AV (s.drop p)=92
  .have hp1:p<s.length:=B4 (k:=p) AC
   have hr:=Dz (λc=>AA c==1) (s.drop (p+1))
   have hgn:=eM (s:=s) (p:=p)
   rw [List.length_drop] at hr
   generalize hk:BD (λc=>AA c==1) (s.drop (p+1))=k at hr hgn
   have hno:k≠0->¬AV (s.drop (p+1+k))=92:=λe1 e2=>by rw [if_pos ⟨h1,e1,e2⟩] at hgn;omega
   have hb0:Lk (s.drop p)=92:=AC
   by_cases hlt:p+1+k<s.length
   .obtain ⟨e,he⟩:∃e,s[p+1+k]? =some e:=⟨s[p+1+k],List.getElem?_eq_getElem hlt⟩
    have he':s[((p+1+k:Nat):Int).toNat]? =some e:=he
    have hv:=CZ he
    repeat' ((conv=>whnf);first|exact EG|(refine B6 ?_;intros)|(refine EH ?_ ?_ ?_;rotate_left)|(refine Cv ?_ ?_<;>intro _)|refine Al hb ?_|refine E7 (k:=0) U hp Do hb ?_|refine LC (q:=p+1) U AC hk AC ?_|refine Ab [(0,true),(1,true),(2,true),(3,true),(4,true),(5,true),(6,true),(7,true),(8,true),(9,false),(10,true)] [] GE ?_|refine Ab [(0,true),(1,true),(2,true),(3,true),(4,true),(5,true),(6,true),(7,true),(8,true),(9,true),(10,true),(11,true),(12,true),(13,false),(14,true),(15,true),(16,false)] [] GE ?_|fail)
    all_goals exact fin h rfl
   .skip
    repeat' ((conv=>whnf);first|exact EG|(refine B6 ?_;intros)|(refine EH ?_ ?_ ?_;rotate_left)|(refine Cv ?_ ?_<;>intro _)|refine Al hb ?_|refine E7 (k:=0) U hp Do hb ?_|refine LC (q:=p+1) U AC hk AC ?_|refine Ab [(0,true),(1,true),(2,true),(3,true),(4,true),(5,true),(6,true),(7,true),(8,true),(9,false),(10,true)] [] GE ?_|refine Ab [(0,true),(1,true),(2,true),(3,true),(4,true),(5,true),(6,true),(7,true),(8,true),(9,true),(10,true),(11,true),(12,true),(13,false),(14,true),(15,true),(16,false)] [] GE ?_|fail)
    all_goals exact fin h rfl
  .have hb0:¬Lk (s.drop p)=92:=AC
   repeat' ((conv=>whnf);first|exact EG|(refine B6 ?_;intros)|(refine EH ?_ ?_ ?_;rotate_left)|(refine Cv ?_ ?_<;>intro _)|refine Al hb ?_|refine E7 (k:=0) U hp Do hb ?_|refine Ab [(0,true),(1,true),(2,true),(3,true),(4,true),(5,true),(6,true),(7,true),(8,true),(9,false),(10,true)] [] GE ?_|refine Ab [(0,true),(1,true),(2,true),(3,true),(4,true),(5,true),(6,true),(7,true),(8,true),(9,true),(10,true),(11,true),(12,true),(13,false),(14,true),(15,true),(16,false)] [] GE ?_|fail)
   all_goals exact fin h rfl
attribute [local irreducible] Go.Aw.Aj
theorem sZ {b p:Nat} (hl:s.length<=100000000) (hb:st.box b=some (qC s p true o w1 g w2)) (hg:0<Fa (s.drop p)) (hr2:Ca st0 st w1 o.length w2 (2*g.length)) (hgl:g.length<=100000000)
 (h:∀w2' st',Ca st0 st' w1 o.length w2' (2*(g++[(p,p+Fa (s.drop p))]).length)->st'.box=st.box->R (.ret (.bool true)) (st'.Aa b (qC s (p+Fa (s.drop p)) true o w1 (g++[(p,p+Fa (s.drop p))]) w2'))):PC 296 [.ptr b 0] st R:=by
 have hby:=KB (s.drop p)
 have U:=eM (s:=s) (p:=p)
 have hr:=Dz (λc=>AA c==1) (s.drop (p+1))
 rw [List.length_drop] at hr
 generalize hk:BD (λc=>AA c==1) (s.drop (p+1))=k at hr U
 have hc:AV (s.drop p)=92/\k≠0/\AV (s.drop (p+1+k))=92:=by
  by_cases hc:AV (s.drop p)=92/\k≠0/\AV (s.drop (p+1+k))=92
  .exact hc
  .rw [if_neg hc] at U;omega
 rw [if_pos hc] at U
 obtain ⟨h1,h2,h3⟩:=hc
 have hp1:p<s.length:=B4 (k:=p) AC
 have hp2:p+1+k<s.length:=B4 (k:=p+1+k) AC
 obtain ⟨e,he⟩:∃e,s[p+1+k]? =some e:=⟨s[p+1+k],List.getElem?_eq_getElem hp2⟩
 have he':s[((p+1+k:Nat):Int).toNat]? =some e:=he
 have hv:=CZ he
 have hb0:Lk (s.drop p)=92:=AC
 have hpk:((p+1+k:Nat):Int)+1=((p+(k+2):Nat):Int):=AC
 rw [U] at h
 refine pB Tryz.func296 ?_
 repeat' ((conv=>whnf);first|refine Ab [(0,true),(1,true),(2,true),(3,true),(4,true),(5,true),(6,true),(7,true),(8,true),(9,true),(10,true),(11,true),(12,true),(13,false),(14,true),(15,true),(16,false)] [] GE ?_|exact EG|(refine B6 ?_;intros)|(refine EH ?_ ?_ ?_;rotate_left)|refine Al hb ?_|refine E7 (k:=0) hl AC Do hb ?_|refine LC (q:=p+1) hl AC hk AC ?_|refine kv (p:=(p,p+(k+2))) hr2 AC rfl hpk (λw2' st1 hr3 hb3=>?_)|refine Al ((congrFun hb3 b).trans hb) ?_|refine Al (St.AX _ _ _) ?_|refine Ab [(0,true),(1,true),(2,true),(3,true),(4,true),(5,true),(6,true),(7,true),(8,true),(9,false),(10,true)] [] GE ?_|refine Ab [(0,true),(1,true),(2,true),(3,true),(4,true),(5,true),(6,true),(7,true),(8,true),(9,true),(10,true),(11,true),(12,true),(13,false),(14,true),(15,true),(16,false)] [] GE ?_|fail)
 exact IJ ((St.K5 _ _ _ _).trans (congrArg (st1.Aa b) (UD AC))) (h w2' st1 hr3 hb3) rfl
end
end Go.Proofs.Z
namespace Go.Aw
open Go
theorem uT (l:List UInt8):Ih (Lk l)=Ih (AV l):=by
 rcases KB l with ⟨h1,h2⟩|⟨h1,h2⟩
 .rw [h1,h2];rfl
 grind
theorem uU (h:Ih c=none):c≠92/\c≠34/\c≠39:=by
 refine ⟨λe=>?_,λe=>?_,λe=>?_⟩<;>(subst e;cases h)
theorem u8_in {a:Int} (h1:0<=a) (h2:a<=255):IntKind.u8.wrap a=a:=IntWalk.u8_in _ ⟨h1,h2⟩
theorem np (h:Ih (AV (l.drop 1))=some v):IG tx l=some (v,2):=by unfold IG;rw [h]
theorem mY (h:AV (l.drop 1)=38):IG true l=some (-1,2):=by
 unfold IG;rw [show Ih (AV (l.drop 1))=none by rw [h];rfl]
 simp_all
theorem mZ (h:AV (l.drop 1)=94) (h1:64<=AV (l.drop 2)) (h2:AV (l.drop 2)<=95):IG tx l=some (AV (l.drop 2) - 64,3):=by
 unfold IG;rw [show Ih (AV (l.drop 1))=none by rw [h];rfl]
 simp_all
theorem nn (h:AV (l.drop 1)=111):IG tx l=(Ku 8 (l.drop 2)).map λp=>(p.1,2+p.2):=by
 unfold IG;rw [show Ih (AV (l.drop 1))=none by rw [h];rfl]
 simp_all
theorem ni (h:AV (l.drop 1)=120):IG tx l=(Ku 16 (l.drop 2)).map λp=>(p.1,2+p.2):=by
 unfold IG;rw [show Ih (AV (l.drop 1))=none by rw [h];rfl]
 simp_all
theorem ng (h:48<=AV (l.drop 1)) (h1:AV (l.drop 1)<=57):IG tx l=(Ku 10 (l.drop 1)).map λp=>(p.1,1+p.2):=by
 have U:Ih (AV (l.drop 1))=none:=by
  unfold Ih
  (repeat' split)<;>first|rfl|(exfalso;omega)
 unfold IG;grind
theorem nj (h:Ih (AV (l.drop 1))=none) (h1:¬(AV (l.drop 1)=38/\tx=true)) (h2:¬(AV (l.drop 1)=94/\64<=AV (l.drop 2)/\AV (l.drop 2)<=95)) (h3:AV (l.drop 1)≠111) (h4:AV (l.drop 1)≠120) (h5:¬(48<=AV (l.drop 1)/\AV (l.drop 1)<=57)):
 IG tx l=if 0<(Kt (l.drop 1)).2 then some ((Kt (l.drop 1)).1,1+(Kt (l.drop 1)).2) else none:=by
 unfold IG;grind
end Go.Aw
namespace Go.Proofs.Z
open Go Go.Aw
section
variable {st:St} {R:As->St->Prop}
theorem um (e:i.toNat=n) (U:s.length<=100000000) (h:R (.ret (.Bc [.int .i64 (Kt (s.drop n)).1,.int .i64 (Kt (s.drop n)).2])) st):PC 334 [.str (s.drop i.toNat)] st R:=by
 rw [e];exact uk (by grind) h
theorem Ya {b p:Nat} (hl:s.length<=100000000) (hp:p<s.length) (hb:st.box b=some (qC s p tx o w1 g w2))
 (h:∀v n,IG tx (s.drop p)=some (v,n)->R (.ret (.int .i64 v)) (st.Aa b (qC s (p+n) tx o w1 g w2))) (h0:IG tx (s.drop p)=none->∀q,R (.B7 (Ka p 51)) (st.Aa b (qC s q tx o w1 g w2))):
 PC 297 [.ptr b 0] st R:=by
 have d1:(s.drop p).drop 1=s.drop (p+1):=List.drop_drop
 have d2:(s.drop p).drop 2=s.drop (p+1+1):=List.drop_drop
 refine AM Ac [] Tryz.func297 rfl Do rfl ?_
 refine Ad (Af Ac ?_)
 repeat' ((conv=>whnf);first|exact EG|(refine B6 ?_;intros)|(refine EH ?_ ?_ ?_;rotate_left)|(refine Cv ?_ ?_<;>intro _)|refine Ab [(0,true),(1,true),(2,true),(3,true),(4,true),(5,true),(6,true),(7,true),(8,true),(9,false),(10,true),(11,true),(12,true),(13,true),(14,true)] [] GE ?_|refine Ao GE ?_|fail)
 refine Ad (Af Ac ?_)
 repeat' ((conv=>whnf);first|exact EG|(refine B6 ?_;intros)|(refine EH ?_ ?_ ?_;rotate_left)|(refine Cv ?_ ?_<;>intro _)|refine Al hb ?_|refine Ab [(0,true),(1,true),(2,true),(3,true),(4,true),(5,true),(6,true),(7,true),(8,true),(9,false),(10,true),(11,true),(12,true),(13,true),(14,true)] [] GE ?_|refine Ao GE ?_|fail)
 refine Ad (Af Ac ?_)
 repeat' ((conv=>whnf);first|exact EG|(refine B6 ?_;intros)|(refine EH ?_ ?_ ?_;rotate_left)|(refine Cv ?_ ?_<;>intro _)|refine Al hb ?_|refine Ab [(0,true),(1,true),(2,true),(3,true),(4,true),(5,true),(6,true),(7,true),(8,true),(9,false),(10,true),(11,true),(12,true),(13,true),(14,true)] [] GE ?_|refine Ao GE ?_|fail)
 refine dO (st':=st.Aa b (qC s (p+1) tx o w1 g w2)) rfl ?_
 have endq:∀{i:Int} {q:Nat},i=(q:Int)->(st.Aa b (qC s (p+1) tx o w1 g w2)).Aa b [V.str s,.int .i64 i,.bool tx,.slice 1 (ints o) w1,.slice 2 (rC g) w2]=st.Aa b (qC s q tx o w1 g w2):=λe=>by rw [St.K5,UD e]
 have endp:∀{q:Nat},(st.Aa b (qC s (p+1) tx o w1 g w2)).Aa b (qC s q tx o w1 g w2)=st.Aa b (qC s q tx o w1 g w2):=St.K5 _ _ _ _
 have U:(st.Aa b (qC s (p+1) tx o w1 g w2)).box b=some (qC s (p+1) tx o w1 g w2):=St.AX _ _ _
 have h0':=λe=>h0 e (p+1)
 generalize hst:st.Aa b (qC s (p+1) tx o w1 g w2)=st1 at U endq endp h0'
 have hx1:=KB (s.drop (p+1))
 have hx2:=KB (s.drop (p+1+1))
 have hxl:=RR (s.drop (p+1))
 have hby0:∀{R:As->St->Prop},R (.ret (.int .u8 (Lk (s.drop (p+1))))) st1->PC 243 [.ptr b 0,.int .i64 0] st1 R:=λh=>E7 (k:=0) hl AC Do U h
 have hby1:∀{R:As->St->Prop},R (.ret (.int .u8 (Lk (s.drop (p+1+1))))) st1->PC 243 [.ptr b 0,.int .i64 1] st1 R:=λh=>E7 (k:=1) hl AC Do U h
 have l1:=λh=>B4 (l:=s) (k:=p+1) h
 have l2:=λh=>B4 (l:=s) (k:=p+1+1) h
 cases hsg:Ih (AV (s.drop (p+1))) with
 |some v=>
  have hv:=ZL hsg
  have h1:=h v 2 (np f9)
  have hsn:∀{R:As->St->Prop},R (.ret (yQ (some v))) st1->PC 332 [.int .u8 (Lk (s.drop (p+1)))] st1 R:=λh=>qn AC AC (by grind)
  refine Af Ac ?_
  repeat' ((conv=>whnf);first|exact EG|(refine B6 ?_;intros)|(refine EH ?_ ?_ ?_;rotate_left)|(refine Cv ?_ ?_<;>intro _)|refine hby0 ?_|refine hsn ?_|refine Al U ?_|refine Ab [(0,true),(1,true),(2,true),(3,true),(4,true),(5,true),(6,true),(7,true),(8,true),(9,false),(10,true),(11,true),(12,true),(13,true),(14,true)] [] GE ?_|refine Ao GE ?_|fail)
  exact IJ (endq AC) h1 rfl
 |none=>
  have hne:=uU hsg
  have hsn:∀{R:As->St->Prop},R (.ret (yQ none)) st1->PC 332 [.int .u8 (Lk (s.drop (p+1)))] st1 R:=λh=>qn AC AC (by rw [uT,hsg];exact h)
  refine Ad (Af Ac ?_)
  repeat' ((conv=>whnf);first|exact EG|(refine B6 ?_;intros)|(refine EH ?_ ?_ ?_;rotate_left)|(refine Cv ?_ ?_<;>intro _)|refine hby0 ?_|refine Ab [(0,true),(1,true),(2,true),(3,true),(4,true),(5,true),(6,true),(7,true),(8,true),(9,false),(10,true),(11,true),(12,true),(13,true),(14,true)] [] GE ?_|refine Ao GE ?_|fail)
  refine Ad (Af Ac ?_)
  repeat' ((conv=>whnf);first|exact EG|(refine B6 ?_;intros)|(refine EH ?_ ?_ ?_;rotate_left)|(refine Cv ?_ ?_<;>intro _)|refine hsn ?_|refine Ab [(0,true),(1,true),(2,true),(3,true),(4,true),(5,true),(6,true),(7,true),(8,true),(9,false),(10,true),(11,true),(12,true),(13,true),(14,true)] [] GE ?_|refine Ao GE ?_|fail)
  by_cases c1:AV (s.drop (p+1))=38/\tx=true
  .obtain ⟨c1,rfl⟩:=c1
   have h1:=h (-1) 2 (mY f9)
   refine Af Ac ?_
   repeat' ((conv=>whnf);first|exact EG|(refine B6 ?_;intros)|(refine EH ?_ ?_ ?_;rotate_left)|(refine Cv ?_ ?_<;>intro _)|refine Al U ?_|refine Ab [(0,true),(1,true),(2,true),(3,true),(4,true),(5,true),(6,true),(7,true),(8,true),(9,false),(10,true),(11,true),(12,true),(13,true),(14,true)] [] GE ?_|refine Ao GE ?_|fail)
   exact IJ (endq AC) h1 rfl
  by_cases c2:AV (s.drop (p+1))=94/\64<=AV (s.drop (p+1+1))/\AV (s.drop (p+1+1))<=95
  .obtain ⟨c2,c3,c4⟩:=c2
   have h1:=h _ 3 (mZ f9 f9 f9)
   rw [d2] at h1
   have hp2:=l2 AC
   obtain ⟨e,he⟩:∃e,s[p+1+1]? =some e:=⟨s[p+1+1],List.getElem?_eq_getElem hp2⟩
   have he':s[(((p+1:Nat):Int)+2 - 1).toNat]? =some e:=by rw [show (((p+1:Nat):Int)+2 - 1).toNat=p+1+1 by omega];exact he
   have hv:=CZ he
   have hew:∀{K:Int->Prop},K (AV (s.drop (p+1+1)) - 64)->∃r,r=IntKind.u8.wrap ((e.toNat:Nat) - 64:Int)/\K r:=λk=>⟨_,by rw [hv];exact (u8_in AC AC).symm,k⟩
   refine Af Ac ?_
   repeat' ((conv=>whnf);first|exact EG|(refine B6 ?_;intros)|(refine EH ?_ ?_ ?_;rotate_left)|(refine Cv ?_ ?_<;>intro _)|refine hby1 ?_|refine Al U ?_|refine Al (St.AX _ _ _) ?_|refine hew ?_|refine Ab [(0,true),(1,true),(2,true),(3,true),(4,true),(5,true),(6,true),(7,true),(8,true),(9,false),(10,true),(11,true),(12,true),(13,true),(14,true)] [] GE ?_|refine Ao GE ?_|fail)
   exact IJ (endq AC) h1 rfl
  by_cases c3:AV (s.drop (p+1))=111
  .have he:=nn (tx:=tx) (l:=s.drop p) f9
   rw [d2] at he
   have hp1:=l1 AC
   refine Af Ac ?_
   repeat' ((conv=>whnf);first|exact EG|(refine B6 ?_;intros)|(refine EH ?_ ?_ ?_;rotate_left)|(refine Cv ?_ ?_<;>intro _)|refine Al U ?_|refine Rc (k:=1) hl AC (.inl rfl) U (λv n hv=>?_) (λhv=>?_)|refine Ab [(0,true),(1,true),(2,true),(3,true),(4,true),(5,true),(6,true),(7,true),(8,true),(9,false),(10,true),(11,true),(12,true),(13,true),(14,true)] [] GE ?_|refine Ao GE ?_|fail)
   all_goals try rw [hv] at he
   .have h1:=h v (2+n) he
    exact IJ (endp.trans (by grind)) h1 rfl
   .exact fin (h0' he) rfl
  by_cases c4:AV (s.drop (p+1))=120
  .have he:=ni (tx:=tx) (l:=s.drop p) f9
   rw [d2] at he
   have hp1:=l1 AC
   refine Af Ac ?_
   repeat' ((conv=>whnf);first|exact EG|(refine B6 ?_;intros)|(refine EH ?_ ?_ ?_;rotate_left)|(refine Cv ?_ ?_<;>intro _)|refine Al U ?_|refine Rc (k:=1) hl AC (.inr (.inr rfl)) U (λv n hv=>?_) (λhv=>?_)|refine Ab [(0,true),(1,true),(2,true),(3,true),(4,true),(5,true),(6,true),(7,true),(8,true),(9,false),(10,true),(11,true),(12,true),(13,true),(14,true)] [] GE ?_|refine Ao GE ?_|fail)
   all_goals try rw [hv] at he
   .have h1:=h v (2+n) he
    exact IJ (endp.trans (by grind)) h1 rfl
   .exact fin (h0' he) rfl
  by_cases c5:48<=AV (s.drop (p+1))/\AV (s.drop (p+1))<=57
  .have he:=ng (tx:=tx) (l:=s.drop p) f9 f9
   rw [d1] at he
   have hp1:=l1 AC
   refine Af Ac ?_
   repeat' ((conv=>whnf);first|exact EG|(refine B6 ?_;intros)|(refine EH ?_ ?_ ?_;rotate_left)|(refine Cv ?_ ?_<;>intro _)|refine Al U ?_|refine Rc (k:=0) hl AC (.inr (.inl rfl)) U (λv n hv=>?_) (λhv=>?_)|refine Ab [(0,true),(1,true),(2,true),(3,true),(4,true),(5,true),(6,true),(7,true),(8,true),(9,false),(10,true),(11,true),(12,true),(13,true),(14,true)] [] GE ?_|refine Ao GE ?_|fail)
   all_goals try rw [show Ku 10 (s.drop (p+1))=_ from hv] at he
   .have h1:=h v (1+n) he
    exact IJ (endp.trans (by grind)) h1 rfl
   .exact fin (h0' he) rfl
  .have he:=nj (tx:=tx) (l:=s.drop p) f9 f9 f9 f9 f9 f9
   rw [d1] at he
   have hc1:Lk (s.drop (p+1))=38->tx=false:=λe=>by simp_all
   have hnl:=V5 (s.drop (p+1)) Fi 0 (0,0) (Nat.zero_le _)
   have hnn:(Kt (s.drop (p+1))).2<=s.length - (p+1):=by simp only [Kt];rw [List.length_drop] at hnl;omega
   have f2:¬(Lk (s.drop (p+1))=94/\64<=Lk (s.drop (p+1+1))/\Lk (s.drop (p+1+1))<=95):=λe=>c2 ⟨AC,AC,AC⟩
   have f3:¬Lk (s.drop (p+1))=111:=AC
   have f4:¬Lk (s.drop (p+1))=120:=AC
   have f5:¬(48<=Lk (s.drop (p+1))/\Lk (s.drop (p+1))<=57):=AC
   have e1:=λ(n:Nat) (hn:(Kt (s.drop (p+1))).2=n) (h0:0<n)=>h _ (1+n) (by rw [he,hn,if_pos h0])
   have e2:=λ(h0:¬0<(Kt (s.drop (p+1))).2)=>h0' f9
   generalize Lk (s.drop (p+1))=x1 at hby0 hc1 f2 f3 f4 f5 hx1 hsn
   generalize Lk (s.drop (p+1+1))=x2 at hby1 f2 hx2
   generalize hN:Kt (s.drop (p+1))=N at e1 e2 hnn
   obtain ⟨v,n⟩:=N
   have e1:=e1 n rfl
   dsimp only at e1 e2 hnn
   have hnam:∀{i:Int} {R:As->St->Prop},i.toNat=p+1->R (.ret (.Bc [.int .i64 v,.int .i64 (n:Int)])) st1->PC 334 [.str (s.drop i.toNat)] st1 R:=λe h=>um e hl f9
   clear he h h0 h0' hsg hne hsn c1 c2 c3 c4 c5 hx1 hx2 hxl l1 l2 d1 d2 hnl hby0 endp hb hN
   by_cases h38:x1=38
   .have e:=hc1 h38
    subst e
    refine Af Ac ?_
    repeat' ((conv=>whnf);first|exact EG|(refine B6 ?_;intros)|(refine EH ?_ ?_ ?_;rotate_left)|(refine Cv ?_ ?_<;>intro _)|refine hby1 ?_|refine Al U ?_|refine hnam AC ?_|refine GS ?_|refine Ab [(0,true),(1,true),(2,true),(3,true),(4,true),(5,true),(6,true),(7,true),(8,true),(9,false),(10,true),(11,true),(12,true),(13,true),(14,true)] [] GE ?_|refine Ao GE ?_|fail)
    all_goals first
     |exact IJ (endq AC) (e1 AC) rfl
     |exact fin (e2 AC) rfl
   .clear hc1
    refine Af Ac ?_
    repeat' ((conv=>whnf);first|exact EG|(refine B6 ?_;intros)|(refine EH ?_ ?_ ?_;rotate_left)|(refine Cv ?_ ?_<;>intro _)|refine hby1 ?_|refine Al U ?_|refine hnam AC ?_|refine GS ?_|refine Ab [(0,true),(1,true),(2,true),(3,true),(4,true),(5,true),(6,true),(7,true),(8,true),(9,false),(10,true),(11,true),(12,true),(13,true),(14,true)] [] GE ?_|refine Ao GE ?_|fail)
    all_goals first
     |exact IJ (endq AC) (e1 AC) rfl
     |exact fin (e2 AC) rfl
end
end Go.Proofs.Z
