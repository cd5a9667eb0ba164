/-
  Parts of a proof: lemmas that the last text uses.
-/
import Derived.Test.YtpaiiicnhgoijaaGreatDoorT6
set_option linter.unusedVariables false
set_option linter.unusedSimpArgs false
set_option maxHeartbeats 16000000
variable {b i v base:Int} {Q:Go.Aw.AG->Go.Aw.Env->Go.Aw.St->Prop} {env e:Go.Aw.Env} {all:List Go.Oper} {sched:List (Nat×Bool)} {L:List Nat} {l s x:List UInt8} {d t id pos p n n1 n2 m:Nat} {oa:Go.Oper} {K:Go.Aw.V->Go.Aw.St->Prop} {ty:Go.TypeId} {ops:Array Go.Oper} {o:List Int} {st0:Go.Aw.St} {w1 w2:Go.Aw.Ay} {g:List (Nat×Nat)} {tx:Bool}
namespace Go.Aw
open Go
section
variable {D:List Deferred} {P:Program} {T:List (Nat×Ty)} {C:FuncId->List V->St->(AD->St->Prop)->Prop} {I0 I:Mem} {st0 st:St} {w0 w:World} {β:Nat->Option Nat} {env:Env} {a:Act}
theorem Y0 {J:Mem} {b:Nat}:∀{l:List V} {us:List Value} {o:Nat},Ar I l us->I.le J->(∀j c,us[j]? =some c->J.cell b (o+j)=some c)->Hn J b o l
 |[],us,o,h,hl,U=>trivial
 |v::r,us,o,h,hl,U=>by
  simp only [Ar] at h
  obtain ⟨c,s,rfl,h1,h2⟩:=h
  exact ⟨⟨c,U 0 c rfl,A0.mono hl _ _ h1⟩,Y0 h2 hl λj c e=>by rw [show o+1+j=o+(j+1) by omega];exact U (j+1) c (by simpa using e)⟩
theorem UW {c:Code} {st:St} (t id:Nat) {cs:List V} (ht:env.get t=.Cd id 0) (hb:assoc env.boxes id=some cs) (hn:Qn cs=true)
 (h:AW P c Q {env with tmps:=(t,.HK cs 0)::Ku id env.tmps,boxes:=IK id env.boxes} st):AW P c Q env st:=
 MP t id ht hb hn λb hf D I0 st0 w0 I β a w hr=>by
  obtain ⟨vs,hv,hl,hr'⟩:=hr.freeze (b:=b) (cs:=cs) (by simp [St.Ab])
  refine h D I0 st0 w0 _ β a w (Rel.Iw ⟨hr'.fr,hr'.s,{hr'.f with tmps:=?_}⟩ (St.bG hf.1))
  intro t' v e
  have h0:=λv e=>hr'.f.tmps t' v e
  have h1:=hr.f.tmps t (.ptr b 0) (by rw [BF];simp)
  rw [BF] at e
  cases U:Nat.beq t t' with
  |true=>
   rw [U] at e
   have:=Nat.eq_of_beq_eq_true U
   subst this
   simp only [cond_true,Option.some.injEq] at e
   subst e
   have h2:A0 I (.ptr b 0) (a.tmps.getD t undef):=h1
   refine Bg.of ?_
   simp only [A0] at h2 |-
   exact ⟨b,0,h2,Y0 hv hl λj c e=>by
    have:=Mem.Rk (I:=I) (b:=b) (h:=0) (n:=vs.length) e
    simp_all⟩
  |false=>
   rw [U] at e
   exact h0 v (by rw [BF,U];exact e)
theorem Yx (hM:∀f args st (R R':AD->St->Prop),(∀r s,R r s->R' r s)->C f args st R->C f args st R')
 (hm:F5 sched all=true)
 (h:Ee T C all sched L (Bm (L.map some) env.boxes) Q sched env st):
 (∀(bs:List Bool) (e:Env) (st1:St) (i:Nat) (o:Oper),bs.length=all.length->K4 T C all sched st L (Bm (L.map some) env.boxes) Q env bs e st1->all[i]? =some o->BP all bs i=true->
   Bx all o e (FD T C o e st1 (λv env' st'=>env'.go o.dst v λenv''=>K4 T C all sched st L (Bm (L.map some) env.boxes) Q env (bs.set i true) env'' st') (λx _ s=>∀e',Q x e' s)) (e.go o.dst (.Bl []) λenv'=>K4 T C all sched st L (Bm (L.map some) env.boxes) Q env (bs.set i true) env' st1))/\
 (∀(bs:List Bool) (e:Env) (st1:St),bs.length=all.length->K4 T C all sched st L (Bm (L.map some) env.boxes) Q env bs e st1->bs=List.replicate all.length true\/∃j,j<all.length/\BP all bs j=true)/\
 (∀(e:Env) (st1:St),K4 T C all sched st L (Bm (L.map some) env.boxes) Q env (List.replicate all.length true) e st1->∃env',(e.eqv env'/\env'.boxes=e.boxes/\env'.gl=e.gl)/\Q .normal env' st1)/\
 K4 T C all sched st L (Bm (L.map some) env.boxes) Q env (List.replicate all.length false) env st:=by
 have M:=Re.of hm
 have hb0:∀id cs,assoc (Bm (L.map some) env.boxes) id=some cs->assoc env.boxes id=some cs/\id ∉ L:=λid cs e=>by
  obtain ⟨h1,h2⟩:=Kt e
  simp_all
 have hget:∀bs:List Bool,∀j,j<bs.length->bs.getD j true=bs.getD j false:=λbs j hj=>by simp_all
 have ready:∀{bs:List Bool} {i:Nat} {o:Oper},all[i]? =some o->bs.length=all.length->BP all bs i=true->bs.getD i false=false/\∀x ∈ o.after,Region.binds .any x=true->bs.getD x.on false=true:=by
  intro bs i o ho hb hrd
  have hi:i<bs.length:=by rw [hb];exact (List.getElem?_eq_some_iff.1 ho).1
  unfold BP at hrd
  rw [ho,hget bs i hi] at hrd
  simp only [Bool.and_eq_true,Bool.not_eq_true',List.all_eq_true] at hrd
  refine ⟨hrd.1,λx hx hb=>?_⟩
  have:=hrd.2 x lm
  rw [hb] at this
  simpa using this
 have listed:∀{bs:List Bool},(∀i o,all[i]? =some o->bs.getD i false=true->∀x ∈ o.after,Region.binds .any x=true->bs.getD x.on false=true)->
  ∀(n:Nat) {i j:Nat} {o:Oper},reaches all n i j=true->all[i]? =some o->(∀x ∈ o.after,Region.binds .any x=true->bs.getD x.on false=true)->bs.getD j false=true:=by
  intro bs cl n
  induction n with
  |zero=>intro i j o h;cases h
  |succ n ih=>
   intro i j o h ho ha
   rw [reaches,ho] at h
   simp only [Bool.or_eq_true,List.any_eq_true,Bool.and_eq_true] at h
   rcases h with ⟨x,h1,h2,h3⟩|⟨x,h1,⟨h2,h3⟩,h4⟩
   .have:=Nat.eq_of_beq_eq_true h3
    grind
   .have hx:=ha x lm h2
    cases hp:all[x.on]? with
    |none=>
     cases n with
     |zero=>cases h4
     |succ n=>rw [reaches,hp] at h4;cases h4
    |some p=>grind
 refine ⟨?_,?_,?_,?_⟩
 .intro bs e st1 i o hbl hinv ho hrd
  obtain ⟨vs,pre,post,Ef,F,hh⟩:=hinv
  obtain ⟨hbi,haft⟩:=ready ho hbl hrd
  have hil:i<bs.length:=by rw [hbl];exact (List.getElem?_eq_some_iff.1 ho).1
  have CX:∀{DM:List (Nat×Bool)} {q:Bool} {r:List (Nat×Bool)},sched=DM++(i,q)::r->∀t ∈ Oper.CX all o,assoc e.tmps t=Hv all env.tmps vs (λk=>decide (k ∈ DM.map (·.1))) t:=by
   intro DM q r hs t ht
   rw [F.tm]
   refine DA λk p hk hd=>⟨?_,λ_=>rfl⟩
   rcases Nat.lt_trichotomy k i with hki|rfl|hki
   .have h1:=M.lo i k o p t ho hk hd ht hki
    have h2:=listed F.cl _ h1 ho haft
    have h3:=M.ahead _ h1 _ _ _ hs
    grind
   .show bs.getD k false=decide (k ∈ DM.map (·.1))
    rw [hbi,decide_eq_false (M.nodup _ _ _ _ hs)]
   .have h1:=M.hi i k o p t ho hk hd ht hki
    show bs.getD k false=decide (k ∈ DM.map (·.1))
    have h2:bs.getD k false=false:=by
     cases hb:bs.getD k false with
     |false=>rfl
     |true=>have:=listed F.cl _ h1 hk (F.cl k p hk hb);grind
    have h3:k ∉ DM.map (·.1):=λhm=>by
     obtain ⟨x,hx,hxe⟩:=List.mem_map.1 hm
     obtain ⟨pa,ra,ea⟩:=List.append_of_mem hx
     have h4:=M.ahead _ h1 pa x.2 (ra++(i,q)::r) GT
     exact M.nodup _ _ _ _ hs GT
    grind
  have cl':∀k p,all[k]? =some p->(bs.set i true).getD k false=true->∀x ∈ p.after,Region.binds .any x=true->(bs.set i true).getD x.on false=true:=by
   intro k p hp hk x hx hb
   rw [Fy hil] at hk |-
   split
   .rfl
   .split at hk
    .grind
    .exact F.cl k p hp hk x hx hb
  by_cases hmem:i ∈ pre.map (·.1)
  . 
   obtain ⟨⟨i',q⟩,hx,rfl⟩:=List.mem_map.1 hmem
   obtain ⟨DM,r,epre⟩:=List.append_of_mem hx
   cases q with
   |false=>have:=F.lC _ hx;grind
   |true=>
    have hs:sched=DM++(i',true)::(r++post):=by rw [F.split,epre];simp
    obtain ⟨hd,hy⟩:=F.hy DM i' r o epre ho
    have hy:=hy e (CX hs) F.n2 F.s2 F.g2
    obtain ⟨o',ho',U⟩:=M.kind _ _ _ _ hs
    have ho2:all[i']? =some o:=ho
    rw [ho2] at ho'
    cases ho'
    have U:FE o.op=true:=U
    have hqk:Ce o.op=true:=by
     revert U
     cases o.op<;>simp [FE,Ce]
    have step:e.go o.dst (vs i') (λe'=>K4 T C all sched st L (Bm (L.map some) env.boxes) Q env (bs.set i' true) e' st1):=by
     refine KV (λt ht=>by rw [F.s2];grind) ⟨vs,pre,post,Ef,⟨F.split,λj hj=>?_,λj hj=>?_,F.boxes,F.n1,F.n2,F.s1,F.s2,F.g1,F.g2,λt=>?_,F.tf,F.bx,F.go,F.xe,F.rk,F.hy,cl'⟩,hh⟩
     .rw [Fy hil] at hj
      split at hj
      .grind
      .exact F.sub j hj
     .rw [Fy hil]
      split
      .rfl
      .exact F.lC j hj
     .have:=G3 (S:=λj=>bs.getD j false) (S':=λj=>(bs.set i' true).getD j false) (v:=vs i') M.dst ho F.tm (λj hj=>by grind) GT t
      refine this.trans (DA λk p _ _=>⟨rfl,λ_=>?_⟩)
      unfold PD
      grind
    refine Gn (λx=>?_) (λx=>?_) hy
    .have hbx:G4 sched all i'=true->e.boxes=env.boxes:=λhe=>F.rk λk ok hk hok=>by
      unfold G4 at he
      have h1:=List.all_eq_true.1 he (k,false) GT
      simp only [Bool.false_or,hok] at h1
      cases hst:Dt ok.op with
      |false=>rfl
      |true=>
       rw [hst] at h1
       simp only [Bool.not_true,Bool.false_or] at h1
       have:=listed F.cl _ h1 hok (F.cl k ok hok (F.lC k hk))
       grind
     rcases x with x|⟨he,x⟩|⟨he,x⟩
     .unfold BZ at x
      refine Dh (T:=T) (C:=C) (env:=e.only (Bm (L.map some) env.boxes) (Oper.CX all o)) (env':=e) (st:=KY) (st':=st1) hM hqk (.inr ⟨U,λ_=>rfl⟩) (H0 λt _=>rfl) F.bx (λv s s' g k=>?_) (λ_ _ k=>k.elim) x
      grind
     .have hini:st1=st:=F.xe λk hk=>by
       unfold H7 at he
       have h1:=List.all_eq_true.1 he (k,false) GT
       simp only [Bool.false_or] at h1
       have h2:=F.lC k hk
       cases hp:all[k]? with
       |none=>
        grind
       |some p=>
        have:=listed F.cl _ h1 hp (F.cl k p hp h2)
        grind
      subst hini
      unfold BZ at x
      have hb:=hbx (Ll he)
      refine Dh (T:=T) (C:=C) (env:=e.only env.boxes (Oper.CX all o)) (env':=e) (st:=st1) (st':=st1) hM hqk (.inl rfl) (H0 λt _=>rfl) (λid cs h=>by rw [hb];exact h) (λv s s' g k=>?_) (λ_ _ k=>k.elim) x
      grind
     .unfold BZ at x
      have hb:=hbx he
      refine Dh (T:=T) (C:=C) (env:=e.only env.boxes (Oper.CX all o)) (env':=e) (st:=KY) (st':=st1) hM hqk (.inr ⟨U,λ_=>rfl⟩) (H0 λt _=>rfl) (λid cs h=>by rw [hb];exact h) (λv s s' g k=>?_) (λ_ _ k=>k.elim) x
      grind
    grind
  . 
   obtain ⟨x,hx,rfl⟩:=List.mem_map.1 (M.cover i (List.getElem?_eq_some_iff.1 ho).1)
   rw [F.split] at hx
   have hxp:x ∈ post:=by
    rcases List.mem_append.1 hx with g|g
    .grind
    .exact g
   cases post with
   |nil=>cases hxp
   |cons p r=>
    obtain ⟨k,q⟩:=p
    have hq:q=false:=hh _ _ rfl
    subst hq
    have hxe:x=(k,false):=by
     rcases List.mem_cons.1 hxp with g|g
     .exact g
     .have h1:=M.chain pre k r F.split x g
      have h2:=listed F.cl _ h1 ho haft
      exact absurd (F.sub k h2) (M.nodup _ _ _ _ F.split)
    subst hxe
    have ho:all[k]? =some o:=ho
    have hbi:bs.getD k false=false:=hbi
    have hil:k<bs.length:=hil
    have hmem:k ∉ pre.map (·.1):=hmem
    have hgo:=F.go
    rw [Ng] at hgo
    simp only [ho] at hgo
    have ag:∀t ∈ Oper.CX all o,assoc Ef.tmps t=assoc e.tmps t:=λt ht=>by rw [F.tf,CX F.split t ht]
    have hag:=RT (all:=all) (o:=o) ag
    have next:∀(v:V) (s:St) (B:List (Nat×List V)),(∀id cs,assoc (Bm (L.map some) env.boxes) id=some cs->assoc B id=some cs)->(Dt o.op=false->B=e.boxes)->
     Env.go {Ef with boxes:=B} o.dst v (λenv'=>Ee T C all sched L (Bm (L.map some) env.boxes) Q r env' s)->
     Env.go {e with boxes:=B} o.dst v (λe'=>K4 T C all sched st L (Bm (L.map some) env.boxes) Q env (bs.set k true) e' s):=by
     intro v s B hB hBe hk
     obtain ⟨hd,hk⟩:=FV hk
     have hd:∀t,o.dst=some t->t<Ef.sz:=hd
     have hmp:∀j,j≠k->(j ∈ (pre++[(k,false)]).map (·.1)↔j ∈ pre.map (·.1)):=λj hj=>by simp [hj]
     refine KV (λt ht=>by show t<e.sz;rw [F.s2,<-F.s1];grind) (Lu M r (PD vs k v) (pre++[(k,false)]) {Ef with boxes:=B,tmps:=Mq Ef.tmps o.dst v} ⟨by rw [F.split];simp,λj hj=>?_,λj hj=>?_,rfl,F.n1,F.n2,F.s1,F.s2,F.g1,F.g2,λt=>?_,λt=>?_,hB,hk,λhk=>absurd (List.mem_append_right _ List.mem_cons_self) (hk k),λhk=>(hBe (hk k o (List.mem_append_right _ List.mem_cons_self) ho)).trans (F.rk λk o hm ho=>hk k o (List.mem_append_left _ hm) ho),λDM j r' o' hs ho'=>?_,cl'⟩)
     .rw [Fy hil] at hj
      rw [List.map_append]
      split at hj
      .grind
      .exact List.mem_append_left _ (F.sub j hj)
     .rw [Fy hil]
      split
      .rfl
      .rename_i hne
       rcases List.mem_append.1 hj with g|g
       .exact F.lC j g
       grind
     .exact G3 (S:=λj=>bs.getD j false) (S':=λj=>(bs.set k true).getD j false) M.dst ho F.tm (λj hj=>by grind) GT t
     .exact G3 (S':=λj=>decide (j ∈ (pre++[(k,false)]).map (·.1))) M.dst ho F.tf (λj hj=>by grind) Pi t
     .rcases Nq hs with ⟨rfl,e2⟩|⟨r2,e2⟩
      .cases e2
      .have hj:=F.hy DM j r2 o' e2 ho'
       refine hj.PD (λe=>?_) (λhm=>hmem ?_)
       .grind
       grind
    have heE:∀(E:Env),{E with boxes:=E.boxes}=E:=λE=>rfl
    refine Jm ag (Gn (λx=>?_) (λx=>?_) hgo)
    .obtain ⟨x1,x⟩:=AE.1 x
     obtain ⟨o',ho',U⟩:=M.kind _ _ _ _ F.split
     rw [ho] at ho'
     cases ho'
     have U:(Ce o.op||Dt o.op)=true:=U
     cases hqk:Ce o.op with
     |true=>
      refine Dh (T:=T) (C:=C) (env:=Ef) (env':=e) (st:=st1) (st':=st1) hM hqk (.inl rfl) hag (λid cs hb=>by rw [<-F.boxes];exact hb) (λv s s' g hk=>?_) (λv s hk=>hk) x
      have:s'=s:=by rcases g with ⟨_,g⟩|⟨g1,g2⟩;exact g;rw [g1,g2]
      subst this
      have:=next v s' e.boxes F.bx (λ_=>rfl) (by rw [<-F.boxes];exact hk)
      omega
     |false=>
      rw [hqk] at U
      have hst:Dt o.op=true:=by simpa using U
      cases hop:o.op with
      |store t p y=>
       refine Jb (T:=T) (C:=C) hop x1 hag F.boxes (by rw [F.n1,F.n2]) (by rw [F.s1,F.s2]) (by rw [F.g1,F.g2]) (λs B hB hk=>?_) x
       refine next .Cc s B (λid cs hb=>?_) (λh=>by grind) hk
       obtain ⟨_,h2⟩:=hb0 id cs hb
       exact hB id cs h2 (by rw [F.boxes];exact F.bx id cs hb)
      |_=>rw [hop] at hst;cases hst
    .have:=next (.Bl []) st1 e.boxes F.bx (λ_=>rfl) (by rw [<-F.boxes];exact x)
     omega
 .intro bs e st hbl hinv
  obtain ⟨vs,pre,post,Ef,F,hh⟩:=hinv
  by_cases hall:∀p ∈ sched,bs.getD p.1 false=true
  .left
   rw [List.eq_replicate_iff]
   refine ⟨hbl,λb hb=>?_⟩
   obtain ⟨j,hj,rfl⟩:=List.mem_iff_getElem.1 hb
   obtain ⟨p,hp,e⟩:=List.mem_map.1 (M.cover j H1)
   grind
  .right
   have hex:∃pr p po,sched=pr++p::po/\bs.getD p.1 false=false/\∀x ∈ pr,bs.getD x.1 false=true:=by
    clear F hh
    revert hall
    generalize sched=l
    intro hall
    induction l with
    |nil=>grind
    |cons x l ih=>
     cases hb:bs.getD x.1 false with
     |false=>exact ⟨[],x,l,rfl,hb,λy hy=>by cases hy⟩
     |true=>
      obtain ⟨pr,p,po,h1,h2,h3⟩:=ih λh=>hall λp hp=>by grind
      grind
   obtain ⟨pr,⟨k,q⟩,po,h1,h2,h3⟩:=hex
   obtain ⟨o,ho,_⟩:=M.kind _ _ _ _ h1
   have hk:k<all.length:=(List.getElem?_eq_some_iff.1 ho).1
   refine ⟨k,hk,?_⟩
   unfold BP
   rw [ho,hget bs k H1,h2]
   simp only [Bool.not_false,Bool.true_and,List.all_eq_true]
   intro x hx
   cases hb:Region.binds .any x with
   |false=>rfl
   |true=>
    obtain ⟨y,hy,e⟩:=List.mem_map.1 (M.back _ _ _ _ o h1 ho x GT hb)
    grind
 .intro e st hinv
  obtain ⟨vs,pre,post,Ef,F,hh⟩:=hinv
  have hp:post=[]:=by
   cases post with
   |nil=>rfl
   |cons p r=>
    obtain ⟨o,ho,_⟩:=M.kind _ _ _ _ F.split
    have:=F.sub p.1 GT
    exact absurd this (M.nodup _ _ _ _ F.split)
  subst hp
  refine ⟨Ef,⟨⟨λt=>?_,λt=>by rw [F.boxes],by rw [F.n1,F.n2],by rw [F.s1,F.s2]⟩,F.boxes,by rw [F.g1,F.g2]⟩,F.go⟩
  rw [F.tm,F.tf]
  refine DA λk p hk _=>⟨?_,λ_=>rfl⟩
  have hlt:=(List.getElem?_eq_some_iff.1 hk).1
  have h1:(List.replicate all.length true).getD k false=true:=by rw [List.getD_eq_getElem?_getD,List.getElem?_replicate,if_pos hlt];rfl
  show (List.replicate all.length true).getD k false=decide (k ∈ pre.map (·.1))
  rw [h1,decide_eq_true (F.sub k h1)]
 .have hf:∀j,(List.replicate all.length false).getD j false=false:=λj=>by grind
  have h0:∀(vs:Nat->V) t,Hv all env.tmps vs (λj=>(List.replicate all.length false).getD j false) t=assoc env.tmps t:=λvs t=>by
   unfold Hv;grind
  refine Lu M sched (λ_=>.Cc) [] env ⟨rfl,λj hj=>(by grind),λj hj=>(by cases hj),rfl,rfl,rfl,rfl,rfl,rfl,rfl,λt=>(h0 _ t).symm,λt=>?_,λid cs hb=>(hb0 id cs hb).1,h,λ_=>rfl,λ_=>rfl,λDM j r o e=>(by cases DM<;>cases e),λi o ho hi=>(by grind)⟩
  unfold Hv
  grind
def Qw (A:List Oper) (oa os:Oper) (t:Nat):Bool:=
 oa.after.toList.isEmpty&&(oa.guard.isNone&&(os.guard.isNone&&(Dt os.op&&(A.all (λo=>o.guard.isNone&&(Ce o.op&&(!(o.dst==some t)&&(!((Oper.CX A o).contains t)&&o.after.toList.all λe=>Nat.blt e.on A.length))))&&
  ((List.range (A.length+1)).all (λi=>os.after.toList.any λe=>Nat.beq e.on i&&Region.binds .any e)&&os.after.toList.all λe=>Nat.ble e.on A.length)))))
def Lb (T:List (Nat×Ty)) (C:FuncId->List V->St->(AD->St->Prop)->Prop) (oa os:Oper) (Q:AG->Env->St->Prop) (x:AG) (e:Env) (s:St):Prop:=match x with
 | .normal=>FD T C oa e s (λv e s=>e.go oa.dst v λe=>FD T C os e s (λv e s=>e.go os.dst v λe=>Q .normal e s) (λx _ s=>∀e',Q x e' s)) (λ_ _ _=>True)
 |x=>∀e',Q x e' s
structure uL (t:Nat) (z:List V) (e0 e:Env):Prop where
 boxes:e.boxes=(e0.BS,z)::e0.boxes
 BS:e.BS=e0.BS+1
 sz:e.sz=e0.sz
 gl:e.gl=e0.gl
 tm:∀s,assoc e.tmps s=if s=t then some (.Cd e0.BS 0) else assoc e0.tmps s
def yN (I:List Bool->Env->St->Prop) (n t:Nat) (z:List V) (Q:AG->Env->St->Prop) (bs:List Bool) (e:Env) (s:St):Prop:=∃U x y,bs=U++[x,y]/\U.length=n/\
 ((x=false/\y=false/\I U e s)\/(x=true/\y=false/\∃e0,I U e0 s/\uL t z e0 e)\/(x=true/\y=true/\U=List.replicate n true/\∃env',e.eqv env'/\Q .normal env' s))
theorem JL {l r:List Bool} {i:Nat} {d:Bool} (h:i<l.length):(l++r).getD i d=l.getD i d:=by
 rw [List.getD_eq_getElem?_getD,List.getD_eq_getElem?_getD,List.getElem?_append_left h]
theorem uL.get {t:Nat} {z:List V} {e0 e:Env} (h:uL t z e0 e) {s:Nat} (U:s≠t):e0.get s=e.get s:=by
 unfold Env.get
 rw [h.tm,if_neg U]
theorem uL.go {z:List V} {e0:Env} (h:uL t z e0 e) {d:Option Nat} (hd:d≠some t) (v:V):uL t z {e0 with tmps:=Mq e0.tmps d v} {e with tmps:=Mq e.tmps d v}:=
 ⟨h.boxes,h.BS,h.sz,h.gl,λs=>by
   show assoc (Mq e.tmps d v) s=if s=t then some (.Cd e0.BS 0) else assoc (Mq e0.tmps d v) s
   rw [D9,D9,h.tm]
   by_cases U:d=some s
   .rw [if_pos U,if_pos U,if_neg (λe=>hd (by rw [U,e]))]
   .rw [if_neg U,if_neg U]⟩
theorem K4.facts {sti:St} {b0:List (Nat×List V)} {U:Env} {bs:List Bool} {st:St} (hq:∀(k:Nat) (o:Oper),all[k]? =some o->Dt o.op=false) (h:K4 T C all sched sti L b0 Q U bs e st):
 e.BS=U.BS/\e.sz=U.sz/\e.gl=U.gl/\e.boxes=U.boxes:=by
 obtain ⟨vs,pre,post,Ef,F,_⟩:=h
 exact ⟨F.n2,F.s2,F.g2,F.rk λk o _ ho=>hq k o ho⟩
theorem ML {o:Op} (h:Ce o=true):Dt o=false:=by
 cases o<;>first|rfl|cases h
theorem Xs {s:St} {K:V->Env->St->Prop} {z:Ty} (U:oa.op=.alloc ty) (hz:assoc T ty=some z):FD T C oa e s K Q=Ik e s oa.dst z.zero.cells K:=by
 simp only [FD,U,hz]
theorem Xr (hT:HG P T) (hC:∀f args st R,C f args st R->DE P f args st R/\Plain P f) (hM:∀f args st (R R':AD->St->Prop),(∀r s,R r s->R' r s)->C f args st R->C f args st R')
 {A:List Oper} {os:Oper} {z:Ty} (hm:F5 sched A=true) (hk:Qw A oa os t=true) (ho:oa.op=.alloc ty) (hd:oa.dst=some t) (hz:assoc T ty=some z) (hts:t<env.sz) (hgl:env.Mw (some t)=false)
 (h:Ee T C A sched L (Bm (L.map some) env.boxes) (Lb T C oa os Q) sched env st) (hr:Rel D I0 st0 w0 I β env st a w):
 wpAny P .any (A++[oa,os]).toArray (DH D I0 st0 w0 Q) (A++[oa,os]).toArray.size (Array.replicate (A++[oa,os]).toArray.size false) a {w with drawn:=w.drawn+1}:=by
 obtain ⟨step,live,fin,start⟩:=Yx (T:=T) (C:=C) hM hm h
 have hr:=hr.Kx (Jd.drew w)
 generalize hI:K4 T C A sched st L (Bm (L.map some) env.boxes) (Lb T C oa os Q) env=I0' at step live fin start
 unfold Qw at hk
 simp only [Bool.and_eq_true,List.all_eq_true,List.any_eq_true,List.mem_range,Bool.not_eq_true'] at hk
 obtain ⟨k1,k2,k3,k4,k5,k6,k7⟩:=hk
 have hAo:∀(i:Nat) (o:Oper),A[i]? =some o->o.guard=none/\Ce o.op=true/\o.dst≠some t/\t ∉ Oper.CX A o/\∀e ∈ o.after.toList,e.on<A.length:=λi o hi=>by
  obtain ⟨h1,h2,h3,h4,h5⟩:=k5 o (List.mem_of_getElem? hi)
  refine ⟨by simpa using h1,h2,by simpa using h3,by simpa using h4,λe he=>?_⟩
  have:=h5 e he
  rw [Nat.blt_eq] at this;exact this
 have facts:∀{bs e s},I0' bs e s->e.BS=env.BS/\e.sz=env.sz/\e.gl=env.gl/\e.boxes=env.boxes:=λ{bs e s} hi=>by
  rw [<-hI] at hi
  exact K4.facts (λk o ho=>ML (hAo k o ho).2.1) hi
 have fresh:assoc env.boxes env.BS=none:=by
  cases e:assoc env.boxes env.BS with
  |none=>rfl
  |some cs=>
   obtain ⟨b,hb,_⟩:=hr.f.box _ _ e
   exact absurd (hr.f.BS _ _ hb) (Nat.lt_irrefl _)
 have hga:oa.guard=none:=by simpa using k2
 have hgs:os.guard=none:=by simpa using k3
 have hla:(A++[oa,os]).length=A.length+2:=Pi
 refine U3 hT hC (Inv:=yN I0' A.length t z.zero.cells Q) ?_ ?_ ?_ _ (List.replicate (A++[oa,os]).length false) _ _ β env st _ _ Pi Pi Pi ?_ hr
 .rintro bs e s i o hbl ⟨bA,x,y,rfl,hlen,hc⟩ U hrd
  have rdA:i<A.length->BP A bA i=true:=λhi=>by
   rw [List.getElem?_append_left hi] at U
   unfold BP at hrd |-
   rw [List.getElem?_append_left hi,U] at hrd
   rw [U]
   rw [JL H1] at hrd
   simp only [Bool.and_eq_true,List.all_eq_true] at hrd |-
   refine ⟨hrd.1,λe he=>?_⟩
   have:=hrd.2 e he
   rwa [JL (by rw [hlen];exact (hAo i o U).2.2.2.2 e he)] at this
  rcases Nat.lt_trichotomy i A.length with hi|rfl|hi
  .have hrA:=rdA hi
   rw [List.getElem?_append_left hi] at U
   obtain ⟨g1,g2,g3,g4,g5⟩:=hAo i o U
   have hset:∀x y,(bA++[x,y]).set i true=bA.set i true++[x,y]:=λx y=>List.set_append_left _ _ H1
   have hls:(bA.set i true).length=A.length:=by simpa using hlen
   unfold Bx
   rw [g1]
   rcases hc with ⟨rfl,rfl,hc⟩|⟨rfl,rfl,e0,hc,ha⟩|⟨rfl,rfl,hc,_⟩
   .have:=step bA e s i o hlen hc U hrA
    unfold Bx at this
    rw [g1] at this
    refine Dh (env:=e) (env':=e) (st:=s) (st':=s) hM g2 (.inl rfl) (λ_ _=>rfl) (λid cs h=>h) (λv s1 s2 g k=>?_) (λv s1 k=>k e e) this
    have hs:s2=s1:=by rcases g with ⟨_,g⟩|⟨g1,g2⟩;exact g;rw [g1,g2]
    subst hs
    obtain ⟨q1,q2⟩:=FV k
    exact KV q1 ⟨bA.set i true,false,false,hset _ _,hls,.inl ⟨rfl,rfl,q2⟩⟩
   .have:=step bA e0 s i o hlen hc U hrA
    unfold Bx at this
    rw [g1] at this
    have hf:=facts hc
    refine Dh (env:=e0) (env':=e) (st:=s) (st':=s) hM g2 (.inl rfl) (λx hx=>?_) (λid cs h=>?_) (λv s1 s2 g k=>?_) (λv s1 k=>k e e) this
    .cases x with
     |tmp t'=>
      refine ha.get λe=>g4 ?_
      subst e
      exact List.mem_append.2 (.inl (List.mem_filterMap.2 ⟨.tmp t',hx,rfl⟩))
     |const v=>rfl
     |func f=>rfl
     |global g=>rfl
    .rw [ha.boxes,BF]
     cases hb:Nat.beq e0.BS id with
     |false=>exact h
     |true=>
      have:=Nat.eq_of_beq_eq_true hb
      subst this
      rw [hf.2.2.2,hf.1,fresh] at h
      cases h
    .have hs:s2=s1:=by rcases g with ⟨_,g⟩|⟨g1,g2⟩;exact g;rw [g1,g2]
     subst hs
     obtain ⟨q1,q2⟩:=FV k
     exact KV (λt' ht'=>by rw [ha.sz];exact q1 t' ht') ⟨bA.set i true,true,false,hset _ _,hls,.inr (.inl ⟨rfl,rfl,_,q2,ha.go g3 v⟩)⟩
   .unfold BP at hrA
    rw [hc,List.getD_eq_getElem?_getD,List.getElem?_replicate,if_pos hi] at hrA
    simp at hrA
  .have hoo:o=oa:=by
    rw [List.getElem?_append_right (Nat.le_refl _),Nat.sub_self] at U
    simpa using U.symm
   subst hoo
   have hx:x=false:=by
    unfold BP at hrd
    rw [List.getD_eq_getElem?_getD,List.getElem?_append_right H1,hlen,Nat.sub_self] at hrd
    cases x with
    |false=>rfl
    |true=>simp at hrd
   subst hx
   rcases hc with ⟨_,rfl,hc⟩|⟨hc,_⟩|⟨hc,_⟩
   .have hf:=facts hc
    unfold Bx
    rw [hga]
    have hg2:e.Mw o.dst=false:=by
     rw [hd]
     unfold Env.Mw at hgl |-
     rw [hf.2.2.1];exact hgl
    simp only [FD,ho,hz]
    unfold Ik
    rw [hg2]
    refine Bq.2 ?_
    refine KV (λt' ht'=>?_) ⟨bA,true,false,?_,hlen,.inr (.inl ⟨rfl,rfl,e,hc,⟨rfl,rfl,rfl,rfl,λs'=>?_⟩⟩)⟩
    .rw [hd] at ht'
     cases ht'
     show t<e.sz
     rw [hf.2.1];exact hts
    .rw [List.set_append_right _ _ H1,hlen,Nat.sub_self];rfl
    .show assoc (Mq e.tmps o.dst (.Cd e.BS 0)) s'=_
     rw [D9,hd]
     by_cases h1:s'=t
     .rw [if_pos (by rw [h1]),if_pos h1]
     .rw [if_neg (λe=>h1 (Option.some.inj e).symm),if_neg h1]
   .cases hc
   .cases hc
  .have hi2:i=A.length+1:=by
    have:=(List.getElem?_eq_some_iff.1 U).1
    omega
   subst hi2
   have hoo:o=os:=by
    rw [List.getElem?_append_right H1,show A.length+1 - A.length=1 by omega] at U
    simpa using U.symm
   subst hoo
   unfold BP at hrd
   rw [U] at hrd
   simp only [Bool.and_eq_true,List.all_eq_true,Bool.not_eq_true'] at hrd
   obtain ⟨r1,r2⟩:=hrd
   have hon:∀j,j<A.length+1->(bA++[x,y]).getD j false=true:=λj hj=>by
    obtain ⟨e',he',hb⟩:=k6 j hj
    have h1:=r2 e' he'
    rw [Nat.eq_of_beq_eq_true hb.1,hb.2] at h1
    simpa using h1
   have hy:y=false:=by
    rw [List.getD_eq_getElem?_getD,List.getElem?_append_right H1,hlen,show A.length+1 - A.length=1 by omega] at r1
    simpa using r1
   have hx:x=true:=by
    have:=hon A.length H1
    rw [List.getD_eq_getElem?_getD,List.getElem?_append_right H1,hlen,Nat.sub_self] at this
    simpa using this
   have hbA:bA=List.replicate A.length true:=by
    rw [List.eq_replicate_iff]
    refine ⟨hlen,λb hb=>?_⟩
    obtain ⟨j,hj,rfl⟩:=List.mem_iff_getElem.1 hb
    have:=hon j H1
    rw [JL hj,List.getD_eq_getElem?_getD,List.getElem?_eq_getElem hj] at this
    simpa using this
   subst hy;subst hx
   rcases hc with ⟨hc,_⟩|⟨_,_,e0,hc,ha⟩|⟨_,hc,_⟩
   .cases hc
   .rw [hbA] at hc
    obtain ⟨env',⟨q1,q2,q3⟩,q4⟩:=fin e0 s hc
    have hf:=facts hc
    have q4:FD T C oa env' s (λv e s=>e.go oa.dst v λe=>FD T C o e s (λv e s=>e.go o.dst v λe=>Q .normal e s) (λx _ s=>∀e',Q x e' s)) (λ_ _ _=>True):=q4
    have hg2:env'.Mw oa.dst=false:=by
     rw [hd]
     unfold Env.Mw at hgl |-
     rw [q3,hf.2.2.1];exact hgl
    rw [Xs ho hz] at q4
    unfold Ik at q4
    rw [hg2] at q4
    obtain ⟨_,q5⟩:=FV (Bq.1 q4)
    unfold Bx
    rw [hgs]
    have tmq:∀s',assoc (Mq env'.tmps oa.dst (.Cd env'.BS 0)) s'=assoc e.tmps s':=λs'=>by
     rw [D9,hd,<-q1.tmps,<-q1.BS,ha.tm]
     by_cases h1:s'=t
     .rw [if_pos (by rw [h1]),if_pos h1]
     .rw [if_neg (λe=>h1 (Option.some.inj e).symm),if_neg h1]
    have ev:∀x:Operand,Env.eval ⟨Mq env'.tmps oa.dst (.Cd env'.BS 0),(env'.BS,z.zero.cells)::env'.boxes,env'.BS+1,env'.sz,env'.gl⟩ x=e.eval x:=λx=>by
     cases x with
     |tmp t'=>
      have:=tmq t'
      show Env.get _ t'=e.get t'
      unfold Env.get
      dsimp only
      rw [this]
     |const v=>rfl
     |func f=>rfl
     |global g=>rfl
    cases hop:o.op with
    |store ty' px vx=>
     obtain ⟨L',hL'⟩:∃L',Hx L' ⟨Mq env'.tmps oa.dst (.Cd env'.BS 0),(env'.BS,z.zero.cells)::env'.boxes,env'.BS+1,env'.sz,env'.gl⟩ o=true:=by
      unfold Hx
      rw [hop]
      dsimp only
      cases hv:Env.eval ⟨Mq env'.tmps oa.dst (.Cd env'.BS 0),(env'.BS,z.zero.cells)::env'.boxes,env'.BS+1,env'.sz,env'.gl⟩ px with
      |Cd id off=>exact ⟨[id],Pi⟩
      |_=>exact ⟨[],rfl⟩
     refine Jb (T:=T) (C:=C) hop hL' (λx _=>ev x) (by rw [ha.boxes,q2,<-q1.BS]) (by rw [ha.BS,<-q1.BS]) (by rw [ha.sz,<-q1.sz]) (by rw [ha.gl,q3]) (λs' B hB hk=>?_) q5
     obtain ⟨p1,p2⟩:=FV hk
     refine KV (λt' ht'=>by have:=p1 t' ht';rw [show ({e with boxes:=B}:Env).sz=e.sz from rfl,ha.sz,q1.sz];exact this) ⟨bA,true,true,?_,hlen,.inr (.inr ⟨rfl,rfl,hbA,⟨Mq (Mq env'.tmps oa.dst (.Cd env'.BS 0)) o.dst .Cc,B,env'.BS+1,env'.sz,env'.gl⟩,⟨λs''=>?_,λ_=>rfl,?_,?_⟩,p2⟩)⟩
     .rw [List.set_append_right _ _ H1,hlen,show A.length+1 - A.length=1 by omega];rfl
     .show assoc (Mq e.tmps o.dst .Cc) s''=assoc (Mq (Mq env'.tmps oa.dst (.Cd env'.BS 0)) o.dst .Cc) s''
      rw [D9,D9 (ts:=Mq env'.tmps oa.dst (.Cd env'.BS 0)),tmq]
     .show e.BS=env'.BS+1
      rw [ha.BS,q1.BS]
     .show e.sz=env'.sz
      rw [ha.sz,q1.sz]
    |_=>rw [hop] at k4;cases k4
   .cases hc
 .rintro bs e s hbl ⟨bA,x,y,rfl,hlen,hc⟩
  have lift:∀{j:Nat} {x y:Bool},j<A.length->BP A bA j=true->BP (A++[oa,os]) (bA++[x,y]) j=true:=λ{j x y} hj hq=>by
   unfold BP at hq |-
   rw [JL H1,List.getElem?_append_left hj]
   have hoj:A[j]? =some A[j]:=List.getElem?_eq_getElem hj
   rw [hoj] at hq |-
   simp only [Bool.and_eq_true,List.all_eq_true] at hq |-
   refine ⟨hq.1,λe he=>?_⟩
   rw [JL (by rw [hlen];exact (hAo j _ hoj).2.2.2.2 e he)]
   exact hq.2 e he
  rcases hc with ⟨rfl,rfl,hc⟩|⟨rfl,rfl,e0,hc,ha⟩|⟨rfl,rfl,hc,_⟩
  .refine .inr ⟨A.length,H1,?_⟩
   unfold BP
   rw [List.getElem?_append_right (Nat.le_refl _),Nat.sub_self,List.getD_eq_getElem?_getD,List.getElem?_append_right H1,hlen,Nat.sub_self]
   have:oa.after.toList=[]:=by simpa using k1
   simp [this]
  .rcases live bA e0 s hlen hc with h1|⟨j,h1,h2⟩
   .refine .inr ⟨A.length+1,H1,?_⟩
    unfold BP
    rw [List.getElem?_append_right H1,List.getD_eq_getElem?_getD,List.getElem?_append_right H1,hlen,show A.length+1 - A.length=1 by omega]
    rw [Bool.and_eq_true]
    refine ⟨rfl,?_⟩
    show (os.after.toList.all λe=> !(Region.binds .any e)||(bA++[true,false]).getD e.on false)=true
    rw [List.all_eq_true]
    intro e he
    have hle:e.on<=A.length:=Nat.le_of_ble_eq_true (k7 e he)
    rw [Bool.or_eq_true]
    refine .inr ?_
    rcases Nat.lt_or_eq_of_le hle with h2|h2
    .rw [JL H1,h1,List.getD_eq_getElem?_getD,List.getElem?_replicate,if_pos h2];rfl
    .rw [List.getD_eq_getElem?_getD,List.getElem?_append_right H1,h2,hlen,Nat.sub_self];rfl
   .exact .inr ⟨j,H1,lift h1 h2⟩
  .refine .inl ?_
   rw [hc,hla,List.replicate_succ',List.replicate_succ',List.append_assoc]
   rfl
 .rintro e s ⟨bA,x,y,hbs,hlen,hc⟩
  have hlast:(bA++[x,y]).getD A.length false=true/\(bA++[x,y]).getD (A.length+1) false=true:=by
   rw [<-hbs,List.getD_eq_getElem?_getD,List.getD_eq_getElem?_getD,List.getElem?_replicate,List.getElem?_replicate,if_pos H1,if_pos H1]
   exact ⟨rfl,rfl⟩
  have hy:y=true:=by
   have:=hlast.2
   rw [List.getD_eq_getElem?_getD,List.getElem?_append_right H1,hlen,show A.length+1 - A.length=1 by omega] at this
   simpa using this
  rcases hc with ⟨_,hc,_⟩|⟨_,hc,_⟩|⟨_,_,_,h1⟩
  .rw [hy] at hc;cases hc
  .rw [hy] at hc;cases hc
  .exact h1
 .refine ⟨List.replicate A.length false,false,false,?_,Pi,.inl ⟨rfl,rfl,start⟩⟩
  rw [hla,List.replicate_succ',List.replicate_succ',List.append_assoc]
  rfl
theorem kz (hP:TK P T) (hC:∀f args st R,C f args st R->DE P f args st R/\Plain P f) (hM:∀f args st (R R':AD->St->Prop),(∀r s,R r s->R' r s)->C f args st R->C f args st R')
 (A:List Oper) (oa os:Oper) (sched:List (Nat×Bool)) (L:List Nat) {z:Ty} (he:ops=(A++[oa,os]).toArray) (hm:F5 sched A=true) (hk:Qw A oa os t=true) (ho:oa.op=.alloc ty) (hd:oa.dst=some t) (hz:assoc T ty=some z) (hts:t<env.sz) (U:env.Mw (some t)=false)
 (h:Ee T C A sched L (Bm (L.map some) env.boxes) (Lb T C oa os Q) sched env st):AW P (.region id ops true) Q env st:=λD I0 st0 w0 I β a w hr=>
 wp_region_any hP.m (by
  subst he
  exact Xr hP.t hC hM hm hk ho hd hz hts U h hr)
theorem OM (hP:TK P T) (hC:∀f args st R,C f args st R->DE P f args st R/\Plain P f) (hM:∀f args st (R R':AD->St->Prop),(∀r s,R r s->R' r s)->C f args st R->C f args st R')
 (k t:Nat) (sched:List (Nat×Bool)) (L:List Nat) {os:Oper} {z:Ty} (h1:ops.toList[k]? =some oa) (h2:ops.toList[k+1]? =some os) (h3:ops.toList.length=k+2) (hm:F5 sched (ops.toList.take k)=true) (hk:Qw (ops.toList.take k) oa os t=true) (ho:oa.op=.alloc ty) (hd:oa.dst=some t) (hz:assoc T ty=some z) (hts:t<env.sz) (U:env.Mw (some t)=false)
 (h:Ee T C (ops.toList.take k) sched L (Bm (L.map some) env.boxes) (Lb T C oa os Q) sched env st):AW P (.region id ops true) Q env st:=by
 refine kz hP hC hM _ oa os sched L (by
  have e1:ops.toList.drop k=[oa,os]:=by
   obtain ⟨g1,g2⟩:=List.getElem?_eq_some_iff.1 h1
   obtain ⟨g3,g4⟩:=List.getElem?_eq_some_iff.1 h2
   rw [List.drop_eq_getElem_cons g1,g2,List.drop_eq_getElem_cons g3,g4,List.drop_eq_nil_of_le H1]
  rw [<-e1,List.take_append_drop]) hm hk ho hd hz hts U h
end
theorem lf (h:l≠[]) (g:F4 (Br l)=true) (t:List UInt8):Br (l.take (Br l).2++t)=Br l:=by
 rcases l with _|⟨a,r⟩
 .exact absurd rfl h
 revert g
 generalize U:Br (a::r)=x
 have hx0:=U
 unfold Br at U
 dsimp only at U
 intro g
 rcases r with _|⟨b,_|⟨c,_|⟨d,r⟩⟩⟩
 all_goals simp only [List.getElem?_nil,List.getElem?_cons_zero,List.getElem?_cons_succ,List.getD_cons_zero,List.getD_cons_succ,Bool.and_false,Bool.false_eq_true,if_false] at U
 all_goals repeat' split at U
 all_goals subst U
 all_goals first
  |(exfalso;revert g;simp [F4];done)
  |skip
 all_goals simp only [List.take_succ_cons,List.take_zero,List.cons_append,List.nil_append]
 all_goals unfold Br
 all_goals dsimp only
 all_goals try simp only [List.getElem?_nil,List.getElem?_cons_zero,List.getElem?_cons_succ,List.getD_cons_zero,List.getD_cons_succ]
 all_goals repeat' (first|rfl|rw [if_pos ‹_›]|rw [if_neg ‹_›])
def Vd (l:List UInt8):Prop:=CI F4 l=l.length
theorem Vd.rune (h:Vd l) (hne:l≠[]):F4 (Br l)=true/\Vd (l.drop (Br l).2):=by
 have U:F4 (Br l)=true:=by
  cases U:F4 (Br l) with
  |true=>rfl
  |false=>
   unfold Vd at h
   rw [Oz U] at h
   grind
 refine ⟨U,?_⟩
 unfold Vd at h |-
 rw [Mm hne U] at h
 grind
inductive Bd:List UInt8->Nat->Prop
 |zero (l:List UInt8):Bd l 0
 |step {l:List UInt8} {k:Nat}:l≠[]->Bd (l.drop (Br l).2) k->Bd l ((Br l).2+k)
theorem Bd.vd {i:Nat} (h:Bd l i) (k:Vd l):Vd (l.drop i):=by
 induction h with
 |zero l=>exact k
 |step U h ih=>
  have:=ih (k.rune U).2
  simp_all
theorem Bd.span (p:Nat×Nat->Bool) (l:List UInt8):Bd l (CI p l):=by
 fun_induction CI p l with
 |case1=>exact .zero _
 |case2 a r U ih=>exact .step Pi ih
 |case3 a r U=>exact .zero _
theorem Bd.one (h:l≠[]):Bd l (Br l).2:=by
 have:=Bd.step h (.zero (l.drop (Br l).2))
 omega
theorem gu (h:l≠[]) (g:F4 (Br l)=true) (k:Nat) (hk:1<=k) (U:k<(Br l).2):∃b,l[k]? =some b/\128<=b.toNat:=by
 rcases l with _|⟨a,r⟩
 .simp_all
 revert g U
 generalize hx:Br (a::r)=x
 unfold Br at hx
 dsimp only at hx
 intro g U
 have d2:∀b:UInt8,(b.toNat / 64==2)=true->128<=b.toNat:=λb hb=>by grind
 rcases r with _|⟨b,_|⟨c,_|⟨d,r⟩⟩⟩
 all_goals simp only [List.getElem?_nil,List.getElem?_cons_zero,List.getElem?_cons_succ,List.getD_cons_zero,List.getD_cons_succ,Bool.and_false,Bool.false_eq_true,if_false] at hx
 all_goals repeat' split at hx
 all_goals subst hx
 all_goals first
  |(exfalso;revert g;simp [F4];done)
  |skip
 all_goals first
  |(exfalso;have U:k<1:=U;omega)
  |skip
 all_goals simp only [Bool.and_eq_true] at *
 all_goals have hk':k=1\/k=2\/k=3:=by first|omega|(dsimp only at U;omega)
 all_goals rcases hk' with rfl|rfl|rfl
 all_goals first
  |(exfalso;omega)
  |(exfalso;dsimp only at U;omega)
  |skip
 all_goals refine ⟨_,rfl,d2 _ ?_⟩
 all_goals simp only [beq_iff_eq] at *
 all_goals omega
theorem Bd.tN {k:Nat} {b:UInt8} (hv:Vd l) (hb:l[k]? =some b) (h:b.toNat<128):Bd l k/\Bd l (k+1):=by
 induction hn:l.length using Nat.strongRecOn generalizing l k with
 |_ n ih=>
  have U:l≠[]:=λe=>by simp_all
  obtain ⟨g,hv'⟩:=hv.rune U
  have hp:=Ho l
  have hle:=Kr U
  by_cases hk:k<(Br l).2
  .by_cases h0:k=0
   .subst h0
    refine ⟨.zero l,?_⟩
    cases l with
    |nil=>simp_all
    |cons a r=>
     simp only [List.getElem?_cons_zero,Option.some.injEq] at hb
     subst hb
     have e:Br (a::r)=(a.toNat,1):=by unfold Br;dsimp only;rw [if_pos H1]
     have:=Bd.one U
     simp_all
   .obtain ⟨b',h1,h2⟩:=gu U g k H1 hk
    grind
  .obtain ⟨j,rfl⟩:∃j,k=(Br l).2+j:=⟨k - (Br l).2,H1⟩
   have:=ih (l.drop (Br l).2).length GT hv' (k:=j) lm rfl
   exact ⟨.step U this.1,by rw [Nat.add_assoc];exact .step U this.2⟩
inductive Cj:List UInt8->Nat->Prop
 |zero (l:List UInt8):Cj l 0
 |step {l:List UInt8} {k:Nat}:l≠[]->Cj (l.drop (Be l)) k->Cj l (Be l+k)
theorem GY (l:List UInt8):(Jv l=0/\¬(A6 l=13\/A6 l=10\/A6 l=12))\/(Jv l=1/\(A6 l=13\/A6 l=10\/A6 l=12)/\¬(A6 l=13/\A6 (l.drop 1)=10))\/(Jv l=2/\A6 l=13/\A6 (l.drop 1)=10):=by
 unfold Jv
 grind
theorem Hc (U:0<=A6 l) (h:A6 l<128):(Br l).2=1/\(((Br l).1:Nat):Int)=A6 l:=by
 cases l with
 |nil=>exact absurd U IR
 |cons a r=>
  have h:((a.toNat:Nat):Int)<128:=h
  have e:Br (a::r)=(a.toNat,1):=by unfold Br;dsimp only;rw [if_pos H1]
  rw [e];exact ⟨rfl,rfl⟩
theorem Bd.cut {k:Nat} (h:Bd l k) (hn:¬(0<k/\A6 (l.drop (k - 1))=13/\A6 (l.drop k)=10)):Cj l k:=by
 induction hm:l.length using Nat.strongRecOn generalizing l k with
 |_ n ih=>
  cases h with
  |zero=>exact .zero l
  |@step _ j U h=>
   have hp:=Ho l
   have hle:=Kr U
   rcases GY l with ⟨e,h1⟩|⟨e,h1,h2⟩|⟨e,h1,h2⟩
   .have es:Be l=(Br l).2:=by unfold Be;rw [if_neg H1]
    rw [<-es]
    refine .step U ?_
    rw [es]
    refine ih _ GT h (λhc=>hn ⟨H1,?_,?_⟩) rfl
    .have:=hc.2.1;rw [List.drop_drop] at this;rwa [show (Br l).2+j - 1=(Br l).2+(j - 1) by omega]
    simp_all
   .have ed:=Hc (l:=l) H1 H1
    have es:Be l=(Br l).2:=by unfold Be;rw [if_pos H1,e,ed.1]
    rw [<-es]
    refine .step U ?_
    rw [es]
    refine ih _ GT h (λhc=>hn ⟨H1,?_,?_⟩) rfl
    .have:=hc.2.1;rw [List.drop_drop] at this;rwa [show (Br l).2+j - 1=(Br l).2+(j - 1) by omega]
    .have:=hc.2.2;rwa [List.drop_drop] at this
   .have ed:=Hc (l:=l) H1 H1
    rw [ed.1] at h hn |-
    have es:Be l=2:=by unfold Be;rw [if_pos H1,e]
    cases h with
    |zero=>simp_all
    |@step _ j hne' h=>
     have ed':=Hc (l:=l.drop 1) H1 H1
     rw [ed'.1] at h hn |-
     rw [show 1+(1+j)=Be l+j by omega]
     refine .step U ?_
     rw [es]
     rw [List.drop_drop] at h
     have hl2:l.length≠0:=by have:=List.length_pos_iff.2 U;omega
     refine ih _ GT h (λhc=>hn ⟨H1,?_,?_⟩) rfl
     .have:=hc.2.1;rw [List.drop_drop] at this;grind
     .have:=hc.2.2;rw [List.drop_drop] at this;grind
theorem Tl:∀(n:Nat) (l:List UInt8) (k:Nat) (p:Int×Int),l.length<=n->1<=p.2->p.1<=(Cz l k p).1/\(Cz l k p).1<=p.1+l.length/\1<=(Cz l k p).2/\(Cz l k p).2<=p.2+8*l.length
 |n,[],k,p,_,h=>by rw [G8];simp only [List.length_nil];omega
 |0,a::r,k,p,hn,h=>by simp at hn
 |n+1,a::r,k,p,hn,h=>by
  by_cases U:k<Be (a::r)
  .rw [FZ U];omega
  .rw [FL Pi U]
   have h1:=Hw (l:=a::r) Pi
   have h2:=WZ (a::r) p.1
   have h3:=WY (a::r) h
   have hd:((a::r).drop (Be (a::r))).length=(a::r).length - Be (a::r):=List.length_drop
   have ih:=Tl n ((a::r).drop (Be (a::r))) (k - Be (a::r)) (GA (a::r) p.1,HF (a::r) p.2) H1 h3.1
   dsimp only at ih
   omega
theorem UN:∀(n:Nat) (l:List UInt8) (k:Nat) (x c U y:Int),l.length<=n->(Cz l k (x,c)).1 - x=(Cz l k (y,U)).1 - y
 |n,[],k,x,c,U,y,_=>by rw [G8,G8];omega
 |0,a::r,k,x,c,U,y,hn=>by simp at hn
 |n+1,a::r,k,x,c,U,y,hn=>by
  by_cases hk:k<Be (a::r)
  .rw [FZ hk,FZ hk];omega
  .rw [FL Pi hk,FL Pi hk]
   have h1:=Hw (l:=a::r) Pi
   have hd:((a::r).drop (Be (a::r))).length=(a::r).length - Be (a::r):=List.length_drop
   have ih:=UN n ((a::r).drop (Be (a::r))) (k - Be (a::r)) (GA (a::r) x) (HF (a::r) c) (HF (a::r) U) (GA (a::r) y) H1
   have e:GA (a::r) x - x=GA (a::r) y - y:=by unfold GA;split<;>omega
   dsimp only
   omega
theorem Z3:∀(n:Nat) (l:List UInt8) (k:Nat) (x c y:Int),l.length<=n->(Cz l k (x,c)).2=(Cz l k (y,c)).2
 |n,[],k,x,c,y,_=>by rw [G8,G8]
 |0,a::r,k,x,c,y,hn=>by simp at hn
 |n+1,a::r,k,x,c,y,hn=>by
  by_cases U:k<Be (a::r)
  .rw [FZ U,FZ U]
  .rw [FL Pi U,FL Pi U]
   have h1:=Hw (l:=a::r) Pi
   have hd:((a::r).drop (Be (a::r))).length=(a::r).length - Be (a::r):=List.length_drop
   exact Z3 n _ _ _ _ _ H1
def Ez (d:Nat) (l:List UInt8):Option Nat:=
 match l with
 |[]=>none
 |a::r=>
  if (a.toNat:Int)=123/\A6 r=45 then (Ez (d+1) (r.drop 1)).map (·+2)
  else if (a.toNat:Int)=45/\A6 r=125 then (if d<=1 then some 2 else (Ez (d - 1) (r.drop 1)).map (·+2))
  else (Ez d r).map (·+1)
termination_by l.length
decreasing_by all_goals simp only [List.length_drop,List.length_cons];omega
def Gh (pos:Nat) (o:Option Nat):Int:=match o with
 |none=> -1
 |some n=>(pos+n:Nat)
theorem O1 {k:Nat} {o:Option Nat}:Gh pos (o.map (·+k))=Gh (pos+k) o:=by
 cases o with
 |none=>rfl
 |some n=>simp only [Gh,Option.map_some];omega
theorem mO (h:¬pos<s.length):Gh pos (Ez d (s.drop pos))= -1:=by
 rw [List.drop_eq_nil_iff.2 H1,Ez];rfl
theorem ij (U:A6 (s.drop pos)=123) (h2:A6 (s.drop (pos+1))=45):Gh pos (Ez d (s.drop pos))=Gh (pos+2) (Ez (d+1) (s.drop (pos+2))):=by
 have hp:pos<s.length:=by
  by_cases hp:pos<s.length
  .exact hp
  .rw [ET H1] at U;exact absurd U IR
 rw [List.drop_eq_getElem_cons hp] at U |-
 rw [Ez,if_pos ⟨U,h2⟩,O1,List.drop_drop]
theorem Sy (U:A6 (s.drop pos)=45) (h2:A6 (s.drop (pos+1))=125):Gh pos (Ez d (s.drop pos))=if d<=1 then ((pos+2:Nat):Int) else Gh (pos+2) (Ez (d - 1) (s.drop (pos+2))):=by
 have hp:pos<s.length:=by
  by_cases hp:pos<s.length
  .exact hp
  .rw [ET H1] at U;exact absurd U IR
 rw [List.drop_eq_getElem_cons hp] at U |-
 have U:((s[pos].toNat:Nat):Int)=45:=U
 rw [Ez,if_neg (λe=>by omega),if_pos ⟨U,h2⟩]
 by_cases hd:d<=1
 .rw [if_pos hd,if_pos hd];rfl
 .rw [if_neg hd,if_neg hd,O1,List.drop_drop]
theorem rS (hp:pos<s.length) (U:¬(A6 (s.drop pos)=123/\A6 (s.drop (pos+1))=45)) (h2:¬(A6 (s.drop pos)=45/\A6 (s.drop (pos+1))=125)):Gh pos (Ez d (s.drop pos))=Gh (pos+1) (Ez d (s.drop (pos+1))):=by
 rw [List.drop_eq_getElem_cons hp] at U h2 |-
 have U:¬(((s[pos].toNat:Nat):Int)=123/\A6 (s.drop (pos+1))=45):=U
 have h2:¬(((s[pos].toNat:Nat):Int)=45/\A6 (s.drop (pos+1))=125):=h2
 rw [Ez,if_neg U,if_neg h2,O1]
def E6:List UInt8->Nat
 |[]=>0
 |a::r=>if 0<Jv (a::r) then 0 else E6 r+1
theorem dL (l:List UInt8):E6 l<=l.length:=by
 induction l with
 |nil=>exact Nat.le_refl _
 |cons a r ih=>unfold E6;split<;>simp only [List.length_cons]<;>omega
theorem qP (h:0<Jv (s.drop pos)):E6 (s.drop pos)=0:=by
 cases U:s.drop pos with
 |nil=>rfl
 |cons a r=>rw [U] at h;rw [E6,if_pos h]
theorem qO (U:pos<s.length) (h:¬0<Jv (s.drop pos)):E6 (s.drop pos)=E6 (s.drop (pos+1))+1:=by
 rw [List.drop_eq_getElem_cons U] at h |-
 rw [E6,if_neg h]
theorem lG (U:¬pos<s.length):E6 (s.drop pos)=0:=by
 rw [List.drop_eq_nil_iff.2 H1];rfl
theorem gZ (s:List UInt8) (U pos:Nat) (h:U<=pos) (hpl:pos<=s.length):∃r,Eo s U pos=(s.take (pos+E6 (s.drop pos))).drop U::r:=by
 fun_induction Eo s U pos with
 |case1 U pos hp hn ih=>rw [qP hn];exact ⟨_,rfl⟩
 |case2 U pos hp hn ih=>
  obtain ⟨r,e⟩:=ih H1 H1
  rw [qO hp hn]
  exact ⟨r,by rw [e,show pos+1+E6 (s.drop (pos+1))=pos+(E6 (s.drop (pos+1))+1) by omega]⟩
 |case3 U pos hp=>
  rw [lG hp,List.take_of_length_le H1];exact ⟨[],rfl⟩
def Js (l:List UInt8):Nat:=
 let n:=CF (λc=>A4 c==5) l
 if 2<=n/\(l.take n).all (λb=>b==45)=true then n+E6 (l.drop n) else 0
def Gv (l:List UInt8):Int:=
 if A6 l=123/\A6 (l.drop 1)=45 then Gh 2 (Ez 1 (l.drop 2))
 else if A6 l=45 then (Js l:Nat) else 0
def Dk (s:List UInt8) (pos:Nat):Int×Int:=
 if Gv (s.drop pos)<0 then (0,60) else if Gv (s.drop pos)=0 then (0,0) else (pos+Gv (s.drop pos),0)
theorem mN (d:Nat) (l:List UInt8) (n:Nat) (h:Ez d l=some n):n<=l.length:=by
 fun_induction Ez d l generalizing n with
 |case1=>cases h
 |case2 d a r hc ih=>
  obtain ⟨m,hm,rfl⟩:=Option.map_eq_some_iff.1 h
  have:=ih m hm
  have hr:r≠[]:=λe=>by rw [e] at hc;exact absurd hc.2 IR
  have:=List.length_pos_iff.2 hr
  simp only [List.length_drop,List.length_cons] at *;omega
 |case3 d a r hc U hd=>
  have hr:r≠[]:=λe=>by rw [e] at U;exact absurd U.2 IR
  have:=List.length_pos_iff.2 hr
  injection h with h
  simp only [List.length_cons] at *;omega
 |case4 d a r hc U hd ih=>
  obtain ⟨m,hm,rfl⟩:=Option.map_eq_some_iff.1 h
  have:=ih m hm
  have hr:r≠[]:=λe=>by rw [e] at U;exact absurd U.2 IR
  have:=List.length_pos_iff.2 hr
  simp only [List.length_drop,List.length_cons] at *;omega
 |case5 d a r hc U ih=>
  obtain ⟨m,hm,rfl⟩:=Option.map_eq_some_iff.1 h
  have:=ih m hm
  simp only [List.length_cons] at *;omega
theorem iL (l:List UInt8):Js l<=l.length:=by
 have h1:=Gz (λc=>A4 c==5) l
 have U:=dL (l.drop (CF (λc=>A4 c==5) l))
 rw [List.length_drop] at U
 unfold Js
 dsimp only
 split<;>omega
theorem mU (l:List UInt8):Gv l<=l.length:=by
 have h1:=iL l
 unfold Gv
 split
 .rename_i hc
  cases h:Ez 1 (l.drop 2) with
  |none=>simp only [Gh];omega
  |some n=>
   have:=mN _ _ _ h
   have U:l.drop 1≠[]:=λe=>by rw [e] at hc;exact absurd hc.2 IR
   have:=List.length_pos_iff.2 U
   simp only [List.length_drop,Gh] at *;omega
 .split<;>omega
def IH (c:Int):Option Int:=
 if c=92\/c=34\/c=39 then some c
 else if c=97 then some 7 else if c=98 then some 8 else if c=116 then some 9 else if c=110 then some 10
 else if c=118 then some 11 else if c=102 then some 12 else if c=114 then some 13 else none
def Ke (base:Int):Int->List UInt8->Int
 |v,[]=>v
 |v,a::r=>if BQ ((a.toNat:Nat):Int) base<0 then v else Ke base (min (v*base+BQ ((a.toNat:Nat):Int) base) 1114112) r
def K7 (base:Int) (l:List UInt8):Option (Int×Nat):=if BJ base l=0\/1114111<Ke base 0 l then none else some (Ke base 0 l,BJ base l)
def FC:List (List UInt8):=[[78,85,76],[83,79,72],[83,84,88],[69,84,88],[69,79,84],[69,78,81],[65,67,75],[66,69,76],[66,83],[72,84],[76,70],[86,84],[70,70],[67,82],[83,79],[83,73],[68,76,69],[68,67,49],[68,67,50],[68,67,51],[68,67,52],[78,65,75],[83,89,78],[69,84,66],[67,65,78],[69,77],[83,85,66],[69,83,67],[70,83],[71,83],[82,83],[85,83],[83,80],[68,69,76]]
def Pb (l:List UInt8):List (List UInt8)->Nat->Nat×Nat->Nat×Nat
 |[],_,p=>p
 |w::U,i,p=>Pb l U (i+1) (if p.2<w.length/\w.isPrefixOf l=true then (i,w.length) else p)
def K6 (l:List UInt8):Int×Nat:=(if (Pb l FC 0 (0,0)).1=33 then 127 else (Pb l FC 0 (0,0)).1,(Pb l FC 0 (0,0)).2)
def Ji (text:Bool) (l:List UInt8):Option (Int×Nat):=
 match IH (A6 (l.drop 1)) with
 |some v=>some (v,2)
 |none=>
  if A6 (l.drop 1)=38/\text=true then some (-1,2)
  else if A6 (l.drop 1)=94/\64<=A6 (l.drop 2)/\A6 (l.drop 2)<=95 then some (A6 (l.drop 2) - 64,3)
  else if A6 (l.drop 1)=111 then (K7 8 (l.drop 2)).map λp=>(p.1,2+p.2)
  else if A6 (l.drop 1)=120 then (K7 16 (l.drop 2)).map λp=>(p.1,2+p.2)
  else if 48<=A6 (l.drop 1)/\A6 (l.drop 1)<=57 then (K7 10 (l.drop 1)).map λp=>(p.1,1+p.2)
  else if 0<(K6 (l.drop 1)).2 then some ((K6 (l.drop 1)).1,1+(K6 (l.drop 1)).2) else none
def Fx (l:List UInt8):Nat:=
 if A6 l=92/\CF (λc=>A4 c==1) (l.drop 1)≠0/\A6 (l.drop (1+CF (λc=>A4 c==1) (l.drop 1)))=92 then CF (λc=>A4 c==1) (l.drop 1)+2 else 0
def NI (d:Nat×Nat):Bool:=A4 (d.1:Nat)==0||(A4 (d.1:Nat)==1&& !(d.1==32))||(d.1==65533&&d.2==1)
def KE (text:Bool) (l:List UInt8):Sum Int (Int×Nat):=
 match l with
 |[]=>.inl 50
 |a::r=>
  if A6 (a::r)=92 then
   if text=true/\0<Fx (a::r) then .inr (-1,Fx (a::r))
   else match Ji text (a::r) with
    |none=>.inl 51
    |some p=>.inr p
  else if NI (Br (a::r)) then .inl 50 else .inr (((Br (a::r)).1:Nat),(Br (a::r)).2)
theorem VO (l:List UInt8):∀(U:List (List UInt8)) (i:Nat) (p:Nat×Nat),p.2<=l.length->(Pb l U i p).2<=l.length
 |[],_,p,h=>h
 |w::U,i,p,h=>by
  unfold Pb
  refine VO l U _ _ ?_
  grind
theorem qY (l:List UInt8):Fx l<=l.length:=by
 unfold Fx
 split
 .rename_i h
  have U:=Gz (λc=>A4 c==1) (l.drop 1)
  rw [List.length_drop] at U
  have h2:l.drop (1+CF (λc=>A4 c==1) (l.drop 1))≠[]:=λe=>by rw [e] at h;exact absurd h.2.2 IR
  grind
 omega
theorem Zr {c:Int} (h:IH c=some v):0<=c/\0<=v:=by
 unfold IH at h
 grind
theorem QR {p:Int×Nat} (h:K7 base l=some p):1<=p.2/\p.2<=l.length:=by
 unfold K7 at h
 split at h
 .cases h
 .injection h with h
  subst h
  exact ⟨H1,Du base l⟩
theorem dN {text:Bool} {p:Int×Nat} (h:Ji text l=some p):1<=p.2/\p.2<=l.length:=by
 unfold Ji at h
 split at h
 .rename_i v hs
  have:=Cp (l:=l) (k:=1) (Zr hs).1
  grind
 .rename_i hs
  have e1:∀k,0<=A6 (l.drop k)->k<l.length:=λk=>Cp
  have e2:=e1 1
  have e3:=e1 2
  repeat' split at h
  .grind
  .grind
  .obtain ⟨q,U,rfl⟩:=Option.map_eq_some_iff.1 h
   have:=QR U
   grind
  .obtain ⟨q,U,rfl⟩:=Option.map_eq_some_iff.1 h
   have:=QR U
   grind
  .obtain ⟨q,U,rfl⟩:=Option.map_eq_some_iff.1 h
   have:=QR U
   grind
  .injection h with h;subst h
   have:=VO (l.drop 1) FC 0 (0,0) (Nat.zero_le _)
   rw [List.length_drop] at this
   have h7:(K6 (l.drop 1)).2=(Pb (l.drop 1) FC 0 (0,0)).2:=by simp only [K6]
   omega
  grind
theorem Oc {text:Bool} {p:Int×Nat} (h:KE text l=.inr p):1<=p.2/\p.2<=l.length:=by
 unfold KE at h
 split at h
 .cases h
 .rename_i a r
  have h1:=Ho (a::r)
  have h2:=Kr (l:=a::r) Pi
  have h3:=qY (a::r)
  split at h
  .split at h
   .grind
   .split at h
    .cases h
    .rename_i q U
     injection h with h;subst h;exact dN U
  grind
def FK (l:List UInt8):Sum (Nat×Int) Nat:=
 if A6 l=34 then .inr 1
 else match h:KE true l with
  | .inl e=>.inl (0,e)
  | .inr p=>match FK (l.drop p.2) with
    | .inl q=>.inl (q.1+p.2,q.2)
    | .inr n=>.inr (n+p.2)
termination_by l.length
decreasing_by
 have:=Oc h
 grind
def K3 (l:List UInt8):List Int:=
 if A6 l=34 then []
 else match h:KE true l with
  | .inl e=>[]
  | .inr p=>if p.1= -1 then K3 (l.drop p.2) else p.1::K3 (l.drop p.2)
termination_by l.length
decreasing_by
 all_goals
  have:=Oc h
  rw [List.length_drop];omega
def Kb (pos:Nat) (l:List UInt8):List (Nat×Nat):=
 if A6 l=34 then []
 else match h:KE true l with
  | .inl e=>[]
  | .inr p=>if 0<Fx l then (pos,pos+p.2)::Kb (pos+p.2) (l.drop p.2) else Kb (pos+p.2) (l.drop p.2)
termination_by l.length
decreasing_by
 all_goals
  have:=Oc h
  rw [List.length_drop];omega
def PK (l:List UInt8):Sum (Nat×Int) Nat:=
 if A6 l=39 then .inl (0,50)
 else match KE false l with
  | .inl e=>.inl (0,e)
  | .inr p=>if A6 (l.drop p.2)=39 then .inr (p.2+1) else .inl (p.2,50)
def Dc (s:List UInt8) (pos:Nat):Int×Int×Int:=
 if A6 (s.drop pos)=34 then match FK (s.drop (pos+1)) with
  | .inl q=>(0,(pos+1+q.1:Nat),q.2)
  | .inr n=>(14,(pos+1+n:Nat),0)
 else if A6 (s.drop pos)=39 then match PK (s.drop (pos+1)) with
  | .inl q=>(0,(pos+1+q.1:Nat),q.2)
  | .inr n=>(13,(pos+1+n:Nat),0)
 else (0,0,0)
theorem Cj.add {i j:Nat} (h:Cj l i) (k:Cj (l.drop i) j):Cj l (i+j):=by
 induction h with
 |zero l=>simp_all
 |step U h ih=>
  rw [Nat.add_assoc]
  refine .step U (ih ?_)
  simp_all
theorem Cj.bd {k:Nat} (h:Cj l k):Bd l k:=by
 induction h with
 |zero l=>exact .zero l
 |@step l k U h ih=>
  rcases GY l with ⟨e,h1⟩|⟨e,h1,h2⟩|⟨e,h1,h2⟩
  .have es:Be l=(Br l).2:=by unfold Be;rw [if_neg H1]
   rw [es] at ih |-;exact .step U ih
  .have ed:=Hc (l:=l) H1 H1
   have es:Be l=(Br l).2:=by unfold Be;rw [if_pos H1,e,ed.1]
   rw [es] at ih |-;exact .step U ih
  .have ed:=Hc (l:=l) H1 H1
   have ed':=Hc (l:=l.drop 1) H1 H1
   have es:Be l=2:=by unfold Be;rw [if_pos H1,e]
   have hne':l.drop 1≠[]:=λe=>by rw [e] at h2;exact absurd h2 IR
   rw [es] at ih |-
   have b1:Bd (l.drop 1) (1+k):=by
    have:=Bd.step hne' (k:=k) lm
    rwa [ed'.1] at this
   have:=Bd.step U (k:=1+k) lm
   grind
theorem Cj.one (U:0<=A6 l) (h1:A6 l<128) (h:¬(A6 l=13\/A6 l=10\/A6 l=12)):Cj l 1:=by
 have hne:l≠[]:=λe=>by rw [e] at U;exact absurd U IR
 have ed:=Hc U h1
 have es:Be l=1:=by
  rcases GY l with ⟨e,_⟩|⟨_,h2,_⟩|⟨_,h2,_⟩
  .unfold Be;simp_all
  .omega
  .omega
 have:=Cj.step hne (.zero (l.drop (Be l)))
 simp_all
theorem Cj.span {p:Nat×Nat->Bool} (hp:∀d,p d=true->d.1≠10/\d.1≠12/\d.1≠13) (l:List UInt8):Cj l (CI p l):=by
 fun_induction CI p l with
 |case1=>exact .zero _
 |case2 a r hc ih=>
  have h1:=hp _ hc
  have es:Be (a::r)=(Br (a::r)).2:=by
   unfold Be
   rw [if_neg]
   rcases GY (a::r) with ⟨e,_⟩|⟨_,U,_⟩|⟨_,U,_⟩
   .omega
   .have:=Hc (l:=a::r) H1 H1;omega
   .have:=Hc (l:=a::r) H1 H1;omega
  have:=Cj.step (l:=a::r) (k:=CI p ((a::r).drop (Br (a::r)).2)) Pi lm
  simp_all
 |case3 a r hc=>exact .zero _
theorem kZ {c:Int} {k:Int} (h:A4 c=k) (U:k≠1):c≠10/\c≠12/\c≠13:=by
 refine ⟨?_,?_,?_⟩<;>(rintro rfl;exact U (h.symm.trans IR))
theorem Cj.kind {k:Int} (hk:k≠1) (l:List UInt8):Cj l (CF (λc=>A4 c==k) l):=by
 refine Cj.span (λd U=>?_) l
 have:=kZ (beq_iff_eq.1 U) hk
 omega
theorem Cj.name (l:List UInt8):Cj l (MJ l):=by
 refine Cj.span (λd U=>?_) l
 have U:Jn ((d.1:Nat):Int)=true:=U
 refine ⟨?_,?_,?_⟩<;>(intro e;rw [e] at U;revert U;decide)
theorem lj {a:UInt8} (h:¬BQ ((a.toNat:Nat):Int) base<0):48<=a.toNat/\a.toNat<128:=by
 unfold BQ at h
 grind
theorem Cj.row (base:Int) (l:List UInt8):Cj l (BJ base l):=by
 induction l with
 |nil=>exact .zero _
 |cons a r ih=>
  unfold BJ
  split
  .exact .zero _
  .rename_i h
   have:=lj h
   rw [Nat.add_comm]
   exact Cj.add (Cj.one (l:=a::r) (show (0:Int)<=((a.toNat:Nat):Int) by omega) (show ((a.toNat:Nat):Int)<128 by omega) (show ¬(((a.toNat:Nat):Int)=13\/((a.toNat:Nat):Int)=10\/((a.toNat:Nat):Int)=12) by omega)) ih
theorem Cj.yT (l:List UInt8):Cj l (Ia l):=by
 unfold Ia
 split
 .exact Cj.add (Cj.one H1 H1 H1) (Cj.row _ _)
 .exact .zero _
theorem Cj.sign (l:List UInt8):Cj l (MM l):=by
 unfold MM
 split
 .exact Cj.one H1 H1 H1
 .exact .zero _
theorem Cj.exp (l:List UInt8):Cj l (JG l):=by
 unfold JG
 split
 .rw [Nat.add_assoc]
  refine Cj.add (Cj.one H1 H1 H1) (Cj.add (Cj.sign _) ?_)
  rw [List.drop_drop]
  exact Cj.row _ _
 .exact .zero _
theorem Cj.num (l:List UInt8):Cj l (EA l).2:=by
 unfold EA
 split
 .rename_i h
  unfold B7 at h
  split at h
  .rename_i hc
   have hb:=hc.2.1
   unfold Ex at hb
   have h1:65<=A6 (l.drop 1)/\A6 (l.drop 1)<128:=by
    split at hb
    .omega
    .omega
   have U:Cj l 2:=Cj.add (i:=1) (j:=1) (Cj.one H1 H1 H1) (Cj.one H1 H1 H1)
   exact Cj.add U (Cj.row _ _)
  omega
 .split
  .exact .zero _
  .refine Cj.add (Cj.add (Cj.row _ _) (Cj.yT _)) (Cj.exp _)
theorem qu {c:Int} (h:A4 c=6):32<c/\c<128:=by
 unfold A4 at h
 split at h
 .omega
 .split at h
  .omega
  .split at h
   .omega
   .split at h
    .omega
    .split at h
     .unfold Ed at h
      omega
     .unfold NL at h
      omega
theorem qT (h:H9 l=6):32<A6 l/\A6 l<128:=by
 cases l with
 |nil=>exact absurd h IR
 |cons a r=>
  have h:A4 ((Br (a::r)).1:Nat)=6:=h
  have U:=qu h
  by_cases ha:a.toNat<128
  .rw [LZ ha] at U
   exact U
  .have:=QG (r:=r) ha
   omega
theorem Cj.plain (l:List UInt8):Cj l (BB l).2:=by
 unfold BB
 split
 .rename_i h
  have:=qT h
  exact Cj.one H1 H1 H1
 .split
  .exact Cj.kind IR l
  .split
   .exact Cj.name l
   .split
    .exact Cj.name l
    .exact .zero _
theorem Cj.scan (s:List UInt8) (n:Nat) (k:Int) (h:Cj s n):Cj s (I8 s n k).2:=by
 fun_induction I8 s n k with
 |case1 n k hn hc ih=>
  have hd:A6 (s.drop n)=46:=hc.2.1
  have U:=Cj.one (l:=s.drop n) H1 H1 H1
  exact ih (Cj.add (Cj.add h U) (Cj.plain _))
 |case2 n k hn hc=>exact h
 |case3 n k hn=>exact h
theorem Cj.word (l:List UInt8):Cj l (E1 l).2:=Cj.scan l _ _ (Cj.plain l)
theorem Vd.end (h:Vd l):Bd l l.length:=by
 have:=Bd.span F4 l
 rwa [show CI F4 l=l.length from h] at this
theorem Cj.behind {k:Nat} (hv:Vd l) (h0:0<A6 (l.drop k)) (h:A6 (l.drop k)<128) (hn:A6 (l.drop k)≠13):Cj l (k+1):=by
 have hk:=Cp (l:=l) (k:=k) H1
 have U:=List.getElem?_eq_getElem hk
 have e:=DG U
 refine ((Bd.tN hv U H1).2).cut (λhc=>hn ?_)
 simp_all
theorem bT (d:Nat) (l:List UInt8) (n:Nat) (h:Ez d l=some n):2<=n/\A6 (l.drop (n - 1))=125:=by
 fun_induction Ez d l generalizing n with
 |case1=>cases h
 |case2 d a r hc ih=>
  obtain ⟨m,U,rfl⟩:=Option.map_eq_some_iff.1 h
  have:=ih m U
  refine ⟨H1,?_⟩
  rw [show m+2 - 1=(m - 1)+1+1 by omega,List.drop_succ_cons]
  simp_all
 |case3 d a r hc hk hd=>
  injection h with h
  subst h
  simp_all
 |case4 d a r hc hk hd ih=>
  obtain ⟨m,U,rfl⟩:=Option.map_eq_some_iff.1 h
  have:=ih m U
  refine ⟨H1,?_⟩
  rw [show m+2 - 1=(m - 1)+1+1 by omega,List.drop_succ_cons]
  simp_all
 |case5 d a r hc hk ih=>
  obtain ⟨m,U,rfl⟩:=Option.map_eq_some_iff.1 h
  have:=ih m U
  refine ⟨H1,?_⟩
  rw [show m+1 - 1=(m - 1)+1 by omega,List.drop_succ_cons]
  omega
theorem Cj.zD (hv:Vd l):Cj l (E6 l):=by
 have hb:Bd l (E6 l)/\¬(0<E6 l/\A6 (l.drop (E6 l - 1))=13/\A6 (l.drop (E6 l))=10):=by
  have key:∀l:List UInt8,(E6 l=l.length\/∃b,l[E6 l]? =some b/\b.toNat<128)/\¬(0<E6 l/\A6 (l.drop (E6 l - 1))=13):=by
   intro l
   induction l with
   |nil=>exact ⟨.inl rfl,λh=>absurd h.1 IR⟩
   |cons a r ih=>
    by_cases hn:0<Jv (a::r)
    .rw [E6,if_pos hn]
     refine ⟨.inr ⟨a,rfl,?_⟩,λh=>absurd h.1 IR⟩
     rcases GY (a::r) with ⟨e,_⟩|⟨_,U,_⟩|⟨_,U,_⟩
     .omega
     .simp only [A6] at U;omega
     .simp only [A6] at U;omega
    .rw [E6,if_neg hn]
     refine ⟨?_,?_⟩
     .simp_all
     .rintro ⟨_,h⟩
      by_cases h0:0<E6 r
      .refine ih.2 ⟨h0,?_⟩
       rwa [show E6 r+1 - 1=(E6 r - 1)+1 by omega,List.drop_succ_cons] at h
      .rw [show E6 r+1 - 1=0 by omega,List.drop_zero] at h
       rcases GY (a::r) with ⟨_,e⟩|⟨e,_⟩|⟨e,_⟩
       .omega
       .omega
       .omega
  refine ⟨?_,λh=>(key l).2 ⟨h.1,h.2.1⟩⟩
  rcases (key l).1 with h|⟨b,h1,U⟩
  .rw [h];exact hv.end
  .exact (Bd.tN hv h1 U).1
 exact hb.1.cut hb.2
theorem Cj.note (U:Vd l) (h:Gv l=n):Cj l n:=by
 unfold Gv at h
 split at h
 .rename_i hc
  cases hn:Ez 1 (l.drop 2) with
  |none=>rw [hn] at h;simp only [Gh] at h;omega
  |some m=>
   rw [hn] at h
   simp only [Gh] at h
   have:=bT _ _ _ hn
   rw [List.drop_drop] at this
   have e:n=(2+(m - 1))+1:=H1
   rw [e]
   exact Cj.behind U H1 H1 H1
 .split at h
  .have e:n=Js l:=H1
   rw [e]
   unfold Js
   dsimp only
   split
   .exact Cj.add (Cj.kind IR l) (Cj.zD ((Bd.span _ l).vd U))
   .exact .zero _
  .have e:n=0:=H1
   rw [e];exact .zero _
theorem cQ (l:List UInt8) (n:Nat) (h:FK l=.inr n):1<=n/\A6 (l.drop (n - 1))=34:=by
 fun_induction FK l generalizing n with
 |case1 l hc=>simp_all
 |case2 l hc e he=>cases h
 |case3 l hc p hp q hq ih=>cases h
 |case4 l hc p hp m hm ih=>
  injection h with h
  subst h
  have:=ih m hm
  refine ⟨H1,?_⟩
  have U:=this.2
  rwa [List.drop_drop,show p.2+(m - 1)=m+p.2 - 1 by omega] at U
theorem Cj.quote (hv:Vd (s.drop p)) (h:(Dc s p).1≠0):∃n,(Dc s p).2.1=(p+n:Nat)/\2<=n/\Cj (s.drop p) n:=by
 unfold Dc at h |-
 split
 .rename_i hq
  rw [if_pos hq] at h
  cases U:FK (s.drop (p+1)) with
  |inl q=>simp_all
  |inr n=>
   have:=cQ _ _ U
   refine ⟨n+1,GT,H1,?_⟩
   have h2:=this.2
   rw [show s.drop (p+1)=(s.drop p).drop 1 by simp_all,List.drop_drop,show 1+(n - 1)=n by omega] at h2
   exact Cj.behind hv H1 H1 H1
 .rename_i hq
  rw [if_neg hq] at h
  split
  .rename_i hq'
   rw [if_pos hq'] at h
   cases U:PK (s.drop (p+1)) with
   |inl q=>simp_all
   |inr n=>
    have:1<=n/\A6 ((s.drop (p+1)).drop (n - 1))=39:=by
     unfold PK at U
     split at U
     .cases U
     .grind
    refine ⟨n+1,GT,H1,?_⟩
    have h2:=this.2
    rw [show s.drop (p+1)=(s.drop p).drop 1 by simp_all,List.drop_drop,show 1+(n - 1)=n by omega] at h2
    exact Cj.behind hv H1 H1 H1
  simp_all
theorem ZH (l:List (List UInt8)):(strs l).length=l.length:=by simp [strs]
theorem dp {l:List (List UInt8)} {K:List V->Prop} (h:l[i.toNat]? =some x) (U:0<=i) (k:K [V.str x]):0<=i/\∃e,(strs l)[i.toNat]? =some e/\K e:=
 ⟨U,[V.str x],by simp [strs,h],k⟩
theorem mj {l:List (List UInt8)} {K:Nat->Prop} (k:l.length<4611686018427387904->K l.length):∀m,m=(strs l).length->m<Fk->K m:=λm U h=>by
 rw [ZH] at U;subst U;exact k h
theorem MB {p:UInt8->Bool}:∀(l:List UInt8),(l.dropWhile p).all p=true->l.all p=true
 |[],_=>rfl
 |a::r,h=>by
  rw [List.dropWhile_cons] at h
  by_cases U:p a=true
  .rw [if_pos U] at h;rw [List.all_cons,U,Bool.true_and];exact MB r h
  simp_all
theorem dropWhile_nil {p:UInt8->Bool}:∀(l:List UInt8),l.dropWhile p=[]↔l.all p=true
 |[]=>by simp
 |a::r=>by
  rw [List.dropWhile_cons,List.all_cons]
  by_cases U:p a=true
  .rw [if_pos U,U,Bool.true_and];exact dropWhile_nil r
  simp_all
theorem UI (l:List UInt8):Lib.trimB l 45=[]↔l.all (λb=>b==45)=true:=by
 unfold Lib.trimB Lib.trimLeftB Lib.trimRightB
 rw [dropWhile_nil,List.all_reverse]
 refine ⟨λh=>?_,λh=>?_⟩
 .have:=MB _ h
  grind
 .have:l.reverse.dropWhile (λb=>b==45)=[]:=(dropWhile_nil _).2 GT
  simp_all
theorem xY (a b:UInt8) (l:List UInt8):[a,b].isPrefixOf l=decide (A6 l=(a.toNat:Nat)/\A6 (l.drop 1)=(b.toNat:Nat)):=by
 rcases l with _|⟨x,_|⟨y,r⟩⟩
 .rfl
 .show (a==x&&false)=_
  rw [Bool.and_false]
  refine (decide_eq_false λe=>?_).symm
  have h:(-1:Int)=(b.toNat:Nat):=e.2;omega
 .show (a==x&&(b==y&&true))=decide (((x.toNat:Nat):Int)=(a.toNat:Nat)/\((y.toNat:Nat):Int)=(b.toNat:Nat))
  rw [Bool.and_true,Bool.eq_iff_iff,Bool.and_eq_true,beq_iff_eq,beq_iff_eq,decide_eq_true_iff]
  exact ⟨λe=>by simp_all,λe=>⟨UInt8.toNat_inj.1 H1,UInt8.toNat_inj.1 H1⟩⟩
theorem cF {w:(AG->Env->St->Prop)->Env->St->Prop} {U:Nat->Option ((AG->Env->St->Prop)->Env->St->Prop)} {st:St}
 (h:w (dU (λl env' st'=>∃y:Empty,(λe:Empty=>(e.elim:Nat)) y=l/\(λ_:Empty=>True) y/\((λe:Empty=>(e.elim:Env)) y).C3 env'/\St.le ((λe:Empty=>(e.elim:St)) y) st') Q) env st):QZ w U Q env st:=
 ⟨Empty,λe=>e.elim,λe=>e.elim,λe=>e.elim,λ_=>True,λe=>e.elim,h,λx=>x.elim⟩
theorem vp {R:AD->St->Prop} {r r':AD} {st st':St} (hle:St.le st st') (h:R r st) (e:r=r'):∃r2 U,(r2=r'\/r2=r'.wk)/\St.le U st'/\R r2 U:=⟨r,st,.inl e,hle,h⟩
end Go.Aw
namespace Go.Proofs.Z
open Go Go.Aw
section
variable {st:St} {R:AD->St->Prop}
theorem VX (e:i.toNat=n) (h:R (.ret (.bool (decide (A6 (s.drop n)=123/\A6 (s.drop (n+1))=45)))) st):PC 130 [.str (s.drop i.toNat),.str [123,45]] st R:=by
 refine JY ?_
 rw [xY,e,List.drop_drop]
 exact h
theorem qw (e:i.toNat=n) (h:R (.ret (.bool (decide (A6 (s.drop n)=45/\A6 (s.drop (n+1))=125)))) st):PC 130 [.str (s.drop i.toNat),.str [45,125]] st R:=by
 refine JY ?_
 rw [xY,e,List.drop_drop]
 exact h
theorem mP (hl:s.length<=100000000) (hs:A6 s=123/\A6 (s.drop 1)=45) (h:R (.ret (.int .i64 (Gh 2 (Ez 1 (s.drop 2))))) st):PC 131 [.str s] st R:=by
 have hs0:A6 (s.drop 0)=123:=hs.1
 refine pB Tryz.func131 ?_
 repeat' ((conv=>whnf);first|(refine CM ?_;intros)|(refine DD ?_ ?_<;>intro _)|refine cF ?_)
 refine VG (α:=Nat) (β:=Nat) (λpos d=>[(3,.int .i64 (d:Int)),(4,.int .i64 (pos:Int))]) (λ_ _=>[]) [0] [] (λ_ _=>st)
  (λpos d=>pos<=s.length/\d<=pos/\((pos=0/\d=0)\/(1<=d/\2<=pos/\Gh 2 (Ez 1 (s.drop 2))=Gh pos (Ez d (s.drop pos))))) (λpos _=>s.length - pos) 0 0 ⟨Nat.zero_le _,Nat.le_refl _,.inl ⟨rfl,rfl⟩⟩ Yl (St.le_refl _) ?_
 rintro pos d ⟨h1,h2,h3⟩
 have q1:=λh=>Cp (l:=s) (k:=pos+1) h
 rcases h3 with ⟨rfl,rfl⟩|⟨h3,h4,h5⟩
 .have hs1:A6 (s.drop (0+1))=45:=hs.2
  repeat' ((conv=>whnf);first|(refine CM ?_;intros)|(refine DD ?_ ?_<;>intro _)|refine VX (n:=0) H1 ?_)
  .conv=>whnf
   exact ⟨(2,1),⟨H1,H1,.inr ⟨Nat.le_refl _,Nat.le_refl _,rfl⟩⟩,H1,Yl,St.le_refl _⟩
 repeat' ((conv=>whnf);first|(refine CM ?_;intros)|(refine DD ?_ ?_<;>intro _)|refine VX (n:=pos) H1 ?_|refine qw (n:=pos) H1 ?_)
 .have k:A6 (s.drop pos)=123/\A6 (s.drop (pos+1))=45:=Nm
  conv=>whnf
  exact ⟨(pos+2,d+1),⟨H1,H1,.inr ⟨H1,H1,h5.trans (ij k.1 k.2)⟩⟩,H1,Yl,St.le_refl _⟩
 .have k:A6 (s.drop pos)=45/\A6 (s.drop (pos+1))=125:=Nm
  have e:=Sy (d:=d) k.1 k.2
  rw [if_pos H1] at e
  exact fin h (B9 H1)
 .have k:A6 (s.drop pos)=45/\A6 (s.drop (pos+1))=125:=Nm
  have e:=Sy (d:=d) k.1 k.2
  rw [if_neg H1] at e
  obtain ⟨U,rfl⟩:∃U,d=U+1:=⟨d - 1,H1⟩
  rw [Nat.add_sub_cancel] at e
  have e2:((U+1:Nat):Int) - 1=(U:Int):=H1
  refine ⟨(pos+2,U),⟨H1,H1,.inr ⟨H1,H1,h5.trans e⟩⟩,H1,?_,St.le_refl _⟩
  rw [<-e2]
  exact Yl
 .conv=>whnf
  exact ⟨(pos+1,d),⟨H1,H1,.inr ⟨H1,H1,h5.trans (rS H1 H1 H1)⟩⟩,H1,Yl,St.le_refl _⟩
 .exact fin h (B9 (by rw [h5,mO H1]))
theorem vZ (hl:s.length<=100000000) (h:R (.ret (.int .i64 (Js s:Nat))) st):PC 132 [.str s] st R:=by
 have hr:=Gz (λc=>A4 c==5) s
 generalize hn:CF (λc=>A4 c==5) s=n at hr
 have hrun:∀{R:AD->St->Prop},R (.ret (.int .i64 (n:Nat))) st->PC 129 [.str s,.int .i64 0,.int .i64 5] st R:=λh=>uA H1 lm
 obtain ⟨rest,hg⟩:=gZ (s.drop n) 0 0 (Nat.le_refl _) (Nat.zero_le _)
 rw [List.drop_zero,List.drop_zero,Nat.zero_add] at hg
 have U:∀{R:AD->St->Prop},(∀own:Ay,own.B5 st->R (.ret (.slice 1 (strs (((s.drop n).take (E6 (s.drop n)))::rest)) own)) (own.st st (((s.drop n).take (E6 (s.drop n)))::rest).length))->PC 199 [.str (s.drop (n:Int).toNat)] st R:=
  λh=>ee GT lm
 refine pB Tryz.func132 ?_
 have hel:=dL (s.drop n)
 have hlt:((s.drop n).take (E6 (s.drop n))).length=E6 (s.drop n):=WF
 rw [List.length_drop] at hel
 have hrl:Js s=if 2<=n/\(s.take n).all (λb=>b==45)=true then n+E6 (s.drop n) else 0:=by unfold Js;rw [hn]
 repeat' ((conv=>whnf);first|(refine CM ?_;intros)|(refine DD ?_ ?_<;>intro _)|refine hrun ?_|refine wW IR ?_|refine U (λown ho=>?_)|refine dp (l:=((s.drop n).take (E6 (s.drop n)))::rest) rfl H1 ?_)
 .rw [if_neg H1] at hrl
  exact fin h (B9 H1)
 .have ht:=(UI (s.take n)).1 GT
  rw [if_pos ⟨H1,ht⟩] at hrl
  exact vp (Ay.Bj H1) h (B9 H1)
 .have ht:¬(s.take n).all (λb=>b==45)=true:=λe=>absurd ((UI (s.take n)).2 e) GT
  rw [if_neg (λe=>ht e.2)] at hrl
  exact fin h (B9 H1)
theorem Uj (h:Gv (s.drop pos)<0):Dk s pos=(0,60):=if_pos h
theorem ew (h:Gv (s.drop pos)=0):Dk s pos=(0,0):=by unfold Dk;simp_all
theorem ik {n:Int} (h:Gv (s.drop pos)=n) (U:0<n) (e:i=pos+n):Dk s pos=(i,0):=by unfold Dk;grind
theorem Ob {n:Int} (h:Gv (s.drop pos)=n) (U:0<n) (e:i=pos+n):AD.ret (.Bl [.int .i64 (Dk s pos).1,.int .i64 (Dk s pos).2])=AD.ret (.Bl [.int .i64 i,.int .i64 0]):=by rw [ik h U e]
theorem rX (hl:s.length<=100000000) (hp:pos<s.length) (h:R (.ret (.Bl [.int .i64 (Dk s pos).1,.int .i64 (Dk s pos).2])) st):PC 60 [.str s,.int .i64 pos] st R:=by
 have hle:=mU (s.drop pos)
 rw [List.length_drop] at hle
 have U:(s.drop pos).length<=100000000:=So
 have d1:(s.drop pos).drop 1=s.drop (pos+1):=List.drop_drop
 obtain ⟨e,he⟩:∃e,s[pos]? =some e:=⟨s[pos],List.getElem?_eq_getElem hp⟩
 have he':s[(pos:Int).toNat]? =some e:=he
 have hh:=DG he
 refine pB Tryz.func60 ?_
 by_cases hk:A6 (s.drop pos)=123/\A6 (s.drop (pos+1))=45
 .have hN:Gv (s.drop pos)=Gh 2 (Ez 1 ((s.drop pos).drop 2)):=if_pos ⟨hk.1,lm⟩
  have hc:∀{R:AD->St->Prop},R (.ret (.int .i64 (Gv (s.drop pos)))) st->PC 131 [.str (s.drop (pos:Int).toNat)] st R:=λh=>mP U ⟨hk.1,lm⟩ lm
  repeat' ((conv=>whnf);first|(refine CM ?_;intros)|(refine DD ?_ ?_<;>intro _)|refine VX (n:=pos) H1 ?_|refine hc ?_)
  all_goals first
   |exact fin h (by rw [Uj H1])
   |exact fin h (by rw [ew H1])
   |exact fin h (Ob rfl H1 H1)
   |exact fin h (Ob (hN H1) H1 H1)
 .have hN:A6 (s.drop pos)=45->Gv (s.drop pos)=(Js (s.drop pos):Nat):=λe=>by unfold Gv;omega
  have hN0:¬A6 (s.drop pos)=45->Gv (s.drop pos)=0:=λe=>by unfold Gv;simp_all
  have hc:∀{R:AD->St->Prop},R (.ret (.int .i64 (Js (s.drop pos):Nat))) st->PC 132 [.str (s.drop (pos:Int).toNat)] st R:=λh=>vZ U h
  repeat' ((conv=>whnf);first|(refine CM ?_;intros)|(refine DD ?_ ?_<;>intro _)|refine VX (n:=pos) H1 ?_|refine hc ?_)
  all_goals first
   |exact fin h (by rw [Uj H1])
   |exact fin h (by rw [ew H1])
   |exact fin h (Ob rfl H1 H1)
   |exact fin h (Ob (hN H1) H1 H1)
end
end Go.Proofs.Z
namespace Go.Aw
open Go
def LV (l:List UInt8):Int:=if A6 l<0 then 0 else A6 l
theorem u5 {i:Nat} {e:UInt8} (h:s[i]? =some e):LV (s.drop i)=(e.toNat:Nat):=by unfold LV;rw [DG h,if_neg H1]
theorem kN {i:Nat} (h:s.length<=i):LV (s.drop i)=0:=by unfold LV;rw [ET h];rfl
theorem Lf (l:List UInt8):(A6 l= -1/\LV l=0)\/(0<=A6 l/\LV l=A6 l):=by
 have:=l4 l
 unfold LV
 split
 .exact .inl ⟨H1,rfl⟩
 .exact .inr ⟨H1,rfl⟩
def pS (l:List (Nat×Nat)):List (List V):=l.map λp=>[V.int .i64 (p.1:Int),V.int .i64 (p.2:Int)]
def TJ (st:St) (n:Nat):Ay->Prop
 | .full=>True
 | .tok b=>st.hw b=some n
 | .any=>False
def jX (st0:St):Ay->Prop
 | .tok b=>st0.fresh b
 |_=>True
def dk:Ay->Ay->Prop
 | .tok b,.tok c=>b≠c
 |_,_=>True
structure Cq (st0 st:St) (w1:Ay) (n1:Nat) (w2:Ay) (n2:Nat):Prop where
 o1:TJ st n1 w1
 o2:TJ st n2 w2
 f1:jX st0 w1
 f2:jX st0 w2
 ne:dk w1 w2
 le:st0.le st
theorem dk.symm {a b:Ay} (h:dk a b):dk b a:=by
 cases a<;>cases b<;>first|exact h|exact Ne.symm h
theorem Cq.swap {st:St} (h:Cq st0 st w1 n1 w2 n2):Cq st0 st w2 n2 w1 n1:=⟨h.o2,h.o1,h.f2,h.f1,h.ne.symm,h.le⟩
theorem Cq.set {st:St} {b:Nat} (h:Cq st0 st w1 n1 w2 n2) (hb:st0.box b=none) (cs:List V):Cq st0 (st.Ab b cs) w1 n1 w2 n2:=
 ⟨by have:=h.o1;cases w1<;>exact this,by have:=h.o2;cases w2<;>exact this,h.f1,h.f2,h.ne,St.Av h.le hb cs⟩
theorem Mh {st:St} {sz bytes:Nat} {es new:List (List V)} (h:Cq st0 st w1 n1 w2 n2) (hn:n1=es.length*sz)
 (h1:(es.length+new.length)*bytes<=140737488355328) (h2:es.length+new.length<Fk) (h3:(new.all λv=>v.all V.sc)=true) (hne:new≠[])
 (k:∀w1' st',Cq st0 st' w1' ((es.length+new.length)*sz) w2 n2->st'.box=st.box->K (.slice sz (es++new.map (·.map V.K8)) w1') st'):Ai sz bytes es w1 new st K:=by
 subst hn
 have frs:∀{x:Nat},st.fresh x->st0.fresh x:=λ{x} hx=>by
  refine ⟨?_,?_⟩
  .cases e:st0.box x with
   |none=>rfl
   |some c=>have:=h.le.1 _ _ e;rw [hx.1] at this;cases this
  .cases e:st0.hw x with
   |none=>rfl
   |some c=>have:=h.le.2 _ _ e;rw [hx.2] at this;cases this
 refine ⟨h1,h2,A7 h3 ?_⟩
 cases hw:w1 with
 |any=>have:=h.o1;rw [hw] at this;exact this
 |full=>
  refine ⟨λe=>absurd e hne,λ_=>.inl λb hb=>k (.tok b) _ ⟨?_,?_,frs hb,h.f2,?_,St.JT h.le (frs hb).2 _⟩ rfl⟩
  .simp [TJ,St.Cw]
  .have:=h.o2
   cases w2 with
   |tok c=>
    have hc:st.hw c=some n2:=this
    have:c≠b:=λe=>by subst e;rw [hb.2] at hc;cases hc
    simp [TJ,St.Cw,this,hc]
   |_=>exact this
  .cases w2 with
   |tok c=>
    have hc:st.hw c=some n2:=h.o2
    exact λe=>by subst e;rw [hb.2] at hc;cases hc
   |_=>trivial
 |tok b=>
  subst hw
  have hb:st.hw b=some (es.length*sz):=h.o1
  have hb0:st0.fresh b:=h.f1
  refine ⟨hb,.inl λb' U=>k (.tok b') _ ⟨?_,?_,?_,h.f2,?_,?_⟩ rfl⟩
  .simp [TJ,St.Cw]
  .have:=h.o2
   cases w2 with
   |tok c=>
    have hc:st.hw c=some n2:=this
    have hcb:b≠c:=h.ne
    have hcb':c≠b':=λe=>by
     subst e
     rcases U with e|U
     .exact hcb e.symm
     .rw [U.2] at hc;cases hc
    simp [TJ,St.Cw,St.Fm,hcb',hcb.symm,hc]
   |_=>exact this
  .rcases U with rfl|U
   .exact hb0
   .exact frs U
  .cases w2 with
   |tok c=>
    have hc:st.hw c=some n2:=h.o2
    have hcb:b≠c:=h.ne
    refine λ(e:b'=c)=>?_
    subst e
    rcases U with e|U
    .exact hcb e.symm
    .rw [U.2] at hc;cases hc
   |_=>trivial
  .refine ⟨λx cs e=>h.le.1 x cs e,λx n e=>?_⟩
   have e1:=h.le.2 x n e
   have hx:x≠b:=λhx=>by subst hx;rw [hb0.2] at e;cases e
   have hx':x≠b':=λhx=>by
    subst hx
    rcases U with e'|U
    .exact hx e'
    .rw [U.2] at e1;cases e1
   simp [St.Cw,St.Fm,hx,hx',e1]
theorem IW (l:List Int):(ints l).length=l.length:=by simp [ints]
theorem KH (l:List (Nat×Nat)):(pS l).length=l.length:=by simp [pS]
theorem Zf {st:St} (h:Cq st0 st w1 o.length w2 n2) (hl:o.length<=1000000000)
 (k:∀U st',Cq st0 st' U (o++[v]).length w2 n2->st'.box=st.box->K (.slice 1 (ints (o++[v])) U) st'):Ai 1 8 (ints o) w1 [[.int .i64 v]] st K:=by
 refine Mh h (by rw [IW];omega) (by rw [IW,List.length_singleton];omega) (by rw [IW,List.length_singleton];unfold Fk;omega) rfl Pi (λU st' hr hb=>?_)
 have:=k U st' (by rw [IW] at hr;rw [List.length_append];simpa using hr) hb
 rwa [show ints (o++[v])=ints o++([[V.int .i64 v]]:List (List V)).map (·.map V.K8) by simp [ints,V.K8]] at this
theorem iM {st:St} {p:Nat×Nat} {a:Int} (h:Cq st0 st w1 n1 w2 (2*g.length)) (hl:g.length<=1000000000) (ha:a=(p.1:Int)) (hb:b=(p.2:Int))
 (k:∀U st',Cq st0 st' w1 n1 U (2*(g++[p]).length)->st'.box=st.box->K (.slice 2 (pS (g++[p])) U) st'):Ai 2 16 (pS g) w2 [[.int .i64 a,.int .i64 b]] st K:=by
 subst ha;subst hb
 refine Mh h.swap (by rw [KH];omega) (by rw [KH,List.length_singleton];omega) (by rw [KH,List.length_singleton];unfold Fk;omega) rfl Pi (λw1' st' hr hb=>?_)
 have:=k w1' st' (by rw [KH] at hr;rw [List.length_append];have:=hr.swap;simpa [Nat.mul_comm] using this) hb
 rwa [show pS (g++[p])=pS g++([[V.int .i64 (p.1:Int),V.int .i64 (p.2:Int)]]:List (List V)).map (·.map V.K8) by simp [pS,V.K8]] at this
theorem St.A1 (st:St) (b:Nat) (cs:List V):(st.Ab b cs).box b=some cs:=by simp [St.Ab]
theorem Aq {st:St} {b:Nat} {cs:List V} {K:List V->Prop} (h:st.box b=some cs) (k:K cs):∃cs,st.box b=some cs/\K cs:=⟨cs,h,k⟩
end Go.Aw
namespace Go.Proofs.Z
open Go Go.Aw
def MS (c:Int):Int:=if c=97 then 0 else if c=98 then 1 else if c=116 then 2 else if c=110 then 3 else if c=118 then 4 else if c=102 then 5 else if c=114 then 6 else -1
theorem uQ (u:UInt8):Lib.indexByte [97,98,116,110,118,102,114] u=MS (u.toNat:Nat):=by
 have key:∀k:UInt8,((u.toNat:Nat):Int)=((k.toNat:Nat):Int)->u=k:=λk e=>UInt8.toNat_inj.1 H1
 unfold MS
 by_cases U:((u.toNat:Nat):Int)=97
 .rw [key 97 U];rfl
 by_cases h2:((u.toNat:Nat):Int)=98
 .rw [key 98 h2];rfl
 by_cases h3:((u.toNat:Nat):Int)=116
 .rw [key 116 h3];rfl
 by_cases h4:((u.toNat:Nat):Int)=110
 .rw [key 110 h4];rfl
 by_cases h5:((u.toNat:Nat):Int)=118
 .rw [key 118 h5];rfl
 by_cases h6:((u.toNat:Nat):Int)=102
 .rw [key 102 h6];rfl
 by_cases h7:((u.toNat:Nat):Int)=114
 .rw [key 114 h7];rfl
 rw [if_neg U,if_neg h2,if_neg h3,if_neg h4,if_neg h5,if_neg h6,if_neg h7]
 have ne:∀k:UInt8,¬((u.toNat:Nat):Int)=((k.toNat:Nat):Int)->(k==u)=false:=λk e=>beq_eq_false_iff_ne.2 (λx=>e (by rw [x]))
 simp only [Lib.indexByte,ne 97 U,ne 98 h2,ne 116 h3,ne 110 h4,ne 118 h5,ne 102 h6,ne 114 h7]
 rfl
def qC (s:List UInt8) (p:Nat) (tx:Bool) (o:List Int) (w1:Ay) (g:List (Nat×Nat)) (w2:Ay):List V:=[.str s,.int .i64 (p:Int),.bool tx,.slice 1 (ints o) w1,.slice 2 (pS g) w2]
def KI (p:Int) (e:Int):V:=.iface 232 (.agg [.int .i64 p,.int .i64 e])
section
variable {st:St} {R:AD->St->Prop}
theorem Hi {v:V} {p e:Int} (h:R (.Ci (KI p e)) st):PC 377 [v,.int .i64 p,.int .i64 e] st R:=by
 refine pB Tryz.func377 ?_
 repeat' ((conv=>whnf);first|  fail)
 all_goals exact fin h rfl
theorem Fw {b k:Nat} (hl:s.length<=100000000) (hp:p<=s.length) (hk:k<=10) (hb:st.box b=some (qC s p tx o w1 g w2))
 (h:R (.ret (.int .u8 (LV (s.drop (p+k))))) st):PC 375 [.ptr b 0,.int .i64 k] st R:=by
 refine pB Tryz.func375 ?_
 have e0:((p:Int)+(k:Int)).toNat=p+k:=H1
 by_cases U:p+k<s.length
 .obtain ⟨e,he⟩:∃e,s[p+k]? =some e:=⟨s[p+k],List.getElem?_eq_getElem U⟩
  have he':s[((p:Int)+(k:Int)).toNat]? =some e:=by rw [e0];exact he
  rw [u5 he] at h
  repeat' ((conv=>whnf);first|exact Ft|(refine CM ?_;intros)|(refine Fu ?_ ?_ ?_;rotate_left)|refine Aq hb ?_|refine Au NE ?_|fail)
  all_goals exact fin h rfl
 .rw [kN H1] at h
  repeat' ((conv=>whnf);first|exact Ft|(refine CM ?_;intros)|(refine Fu ?_ ?_ ?_;rotate_left)|refine Aq hb ?_|refine Au NE ?_|fail)
  all_goals exact fin h rfl
theorem xv {c:Int} (U:0<=c) (h1:c<=255) (h:R (.ret (.int .i64 (MS c))) st):PC 407 [.str [97,98,116,110,118,102,114],.int .u8 c] st R:=by
 obtain ⟨u,rfl⟩:∃u:UInt8,c=((u.toNat:Nat):Int):=⟨UInt8.ofNat c.toNat,by rw [UInt8.toNat_ofNat'];omega⟩
 exact u6 (by rw [uQ];exact h)
def wO:Option Int->V
 |some v=>.Bl [.int .i64 v,.bool true]
 |none=>.Bl [.int .i64 0,.bool false]
theorem oD {c:Int} (U:0<=c) (h1:c<=255) (h:R (.ret (wO (IH c))) st):PC 424 [.int .u8 c] st R:=by
 have ha:(MS c= -1/\¬(c=97\/c=98\/c=116\/c=110\/c=118\/c=102\/c=114))\/(0<=MS c/\MS c<=6/\((c=97/\MS c=0)\/(c=98/\MS c=1)\/(c=116/\MS c=2)\/(c=110/\MS c=3)\/(c=118/\MS c=4)\/(c=102/\MS c=5)\/(c=114/\MS c=6))):=by
  unfold MS
  (repeat' split)<;>first|(left;omega)|(right;omega)
 refine pB Tryz.func424 ?_
 repeat' ((conv=>whnf);first|(refine CM ?_;intros)|(refine DD ?_ ?_<;>intro _)|refine xv U h1 ?_)
 all_goals first
  |exact fin h (by rw [show IH c=some c by unfold IH;rw [if_pos H1]];rfl)
  |(have e:IH c=some (7+MS c):=by
     unfold IH
     rw [if_neg H1]
     (repeat' split)<;>first|(congr 1;omega)|(exfalso;omega)
    exact fin h (by rw [e];rfl))
  |(have e:IH c=none:=by
     unfold IH
     rw [if_neg H1]
     (repeat' split)<;>first|rfl|(exfalso;omega)
    exact fin h (by rw [e];rfl))
end
end Go.Proofs.Z
namespace Go.Proofs.Z
open Go Go.Aw Go.Shelf
theorem iW {I : Mem} {st : St} {w : World} (hs : Db I st w) : Lib.TabIs Tryz.prog w "strings.asciiSpace" .u8 Lib.asciiSpaceTab := by
 obtain ⟨c,ty,h1,h2⟩:=hs.shape 3 256 hs.UE.oF
 have hg : Tryz.prog.globalNamed "strings.asciiSpace" = some 3 := by kernel_rfl
 unfold Lib.TabIs World.var?
 rw [hg]
 simp only [Option.bind_some,h1,Option.some.injEq]
 have hlen:Lib.asciiSpaceTab.length=256:=NE
 refine Array.ext (by rw [h2];simp [hlen]) λi hi hi'=>?_
 have U:=hs.cell _ _ _ (hs.UE.space i H1)
 simp only [World.cell?,h1,Option.isSome_none,Bool.false_eq_true,if_false] at U
 rw [Array.getElem?_eq_getElem hi] at U
 injection U with U
 rw [U]
 have hi2:i<Lib.asciiSpaceTab.length:=by rw [hlen];omega
 simp [List.getD_eq_getElem?_getD,List.getElem?_eq_getElem hi2]
section
variable {st:St} {R:AD->St->Prop}
theorem lR (hz:s.length<4294967281) (ha:∀b ∈ s,b.toNat<128) (h:R (.ret (.slice 1 (strs (Lib.fields s)) .any)) st) (hl:∀x ∈ Lib.fields s,x.length<Fk) (hn:(Lib.fields s).length<Fk):PC 428 [.str s] st R:=by
 refine ⟨λI w U hs hc=>?_,⟨_,Tryz.func428,IR,IR⟩⟩
 simp only [Ar,A0] at hc
 obtain ⟨c,r,rfl,⟨rfl,_⟩,rfl⟩:=hc
 refine (Tryz.strings_Fields ⟨s.toArray⟩ w (by show s.toArray.size<_;simpa using hz) (λj b e=>ha b (List.mem_of_getElem? (by simpa using e))) (iW hs)).mono λe w' ⟨he,hw⟩=>?_
 subst hw
 obtain ⟨h1,h2,h3⟩:=hs.row ((Lib.fields s).map λl=>Value.string ⟨l.toArray⟩) 9
 refine ⟨_,_,.ret _,h1,h2,?_,h⟩
 subst he
 exact nG (Lib.fields s) hl hn h3
end
def bm (p:Nat->Bool) (s:List UInt8):Int:=if CI (λd=> !(p d.1)) s<s.length then (CI (λd=> !(p d.1)) s:Nat) else -1
theorem idx_eq (p:Nat->Bool) (s:List UInt8):∀(f pos:Nat),pos<=s.length->s.length - pos<=f->Lib.idxFuncFrom p true ⟨s.toArray⟩ f pos=if CI (λd=> !(p d.1)) (s.drop pos)<s.length - pos then ((pos+CI (λd=> !(p d.1)) (s.drop pos):Nat):Int) else -1
 |0,pos,h1,h2=>by
  rw [if_neg H1];rfl
 |f+1,pos,h1,h2=>by
  unfold Lib.idxFuncFrom
  have hz:(⟨s.toArray⟩:ByteArray).size=s.length:=by simp [ByteArray.size]
  rw [hz]
  by_cases U:pos<s.length
  .rw [if_pos U,Vb U]
   rcases hd:Br (s.drop pos) with ⟨c,m⟩
   have hr:=rune_le U hd.symm
   dsimp only
   by_cases hc:p c=true
   .rw [if_pos hc,Oz (p:=λd=> !(p d.1)) (by rw [hd];simp [hc]),if_pos H1];rfl
   .rw [if_neg hc,idx_eq p s f (pos+m) hr.1 H1]
    have e:=Mm (p:=λd=> !(p d.1)) (Vg U) (by rw [hd];simpa using hc)
    rw [hd,List.drop_drop] at e
    dsimp only at e
    rw [e]
    by_cases hk:CI (λd=> !(p d.1)) (s.drop (pos+m))<s.length - (pos+m)
    .rw [if_pos hk,if_pos H1];congr 1;omega
    .rw [if_neg hk,if_neg H1]
  .rw [if_neg U,if_neg H1]
section
variable {st:St} {R:AD->St->Prop}
def vX:St:=⟨λ_=>none,λ_=>none⟩
theorem dV {g:FuncId} {p:Nat->Bool} (hg:∀c:Nat,c<=1114111->PC g [.int .i32 (c:Int)] vX λr _=>r=.ret (.bool (p c))) (h:R (.ret (.int .i64 (bm p s))) st):PC 56 [.str s,.func g [] []] st R:=by
 refine DO ⟨_,Tryz.func56,IR,IR⟩ _ (λI w cargs hs hc=>?_) h
 simp only [Ar,A0] at hc
 obtain ⟨c1,r1,rfl,⟨rfl,hl⟩,c2,r2,rfl,⟨az,cs,rfl,rfl,rfl⟩,rfl⟩:=hc
 obtain ⟨fn,p1,p2,p3⟩:=(hg 0 IR).b
 have eg:∀args w,(callFunc g args).run Tryz.prog w=.ok (.enter g args) w:=λargs w=>by
  have hb:fn.body.isNone=false:=by cases hb:fn.body<;>simp_all
  simp only [callFunc,Sem.run_bind,Result.andThen_ok,run_program,p1]
  rw [p3]
  simp [hb]
 have hp:PredGrows Tryz.prog g #[] p w:=λW x hx hb=>by
  obtain ⟨_,hW⟩:=hs.below hb
  have hW0:Db I vX W:=⟨hW.cell,hW.shape,λb cs e=>(by cases e),λb e=>absurd rfl e,λb n e=>(by cases e),hW.UE⟩
  refine ((hg x hx).a I W [.int .i32 x] hW0 (by simp only [Ar,A0];exact ⟨_,_,rfl,rfl,rfl⟩)).mono ?_
  rintro e w' ⟨I',st',r,k1,k2,U,rfl⟩
  refine ⟨?_,⟨k1.os,k1.tape,k1.output,k1.size,λk hk=>k1.NB k hk rfl rfl⟩⟩
  cases e with
  |returned c=>
   have U:A0 I' (.bool (p x)) c:=U
   simp only [A0] at U
   rw [U]
  |panicked _=>exact U.elim
  |outgrown=>exact U.elim
 refine (Tryz.strings_IndexFunc_grows g #[] eg p ⟨s.toArray⟩ w hp).mono λe w' ⟨he,hb⟩=>⟨⟨_,he,?_⟩,hb⟩
 simp only [A0]
 unfold Lib.idxFunc bm
 rw [idx_eq p s _ 0 (Nat.zero_le _) (by simp [ByteArray.size]),List.drop_zero,Nat.sub_zero,Nat.zero_add]
end
end Go.Proofs.Z
namespace Go.Aw
open Go
def Sx:List UInt8:=[78,85,76,32,83,79,72,32,83,84,88,32,69,84,88,32,69,79,84,32,69,78,81,32,65,67,75,32,66,69,76,32,66,83,32,72,84,32,76,70,32,86,84,32,70,70,32,67,82,32,83,79,32,83,73,32,68,76,69,32,68,67,49,32,68,67,50,32,68,67,51,32,68,67,52,32,78,65,75,32,83,89,78,32,69,84,66,32,67,65,78,32,69,77,32,83,85,66,32,69,83,67,32,70,83,32,71,83,32,82,83,32,85,83,32,83,80,32,68,69,76]
theorem Vo:Lib.fields Sx=FC:=NE
theorem mM:∀b ∈ Sx,b.toNat<128:=by
 have h:Sx.all (λb=>decide (b.toNat<128))=true:=NE
 simp_all
theorem Ua:∀w ∈ FC,1<=w.length/\w.length<=3:=by
 have h:FC.all (λw=>decide (1<=w.length)&&decide (w.length<=3))=true:=NE
 simp_all
theorem rM:FC.length=34:=PP
theorem Xd {c:Nat} (h:pos<s.length) (U:(c,m)=Br (s.drop pos)) (k:¬BQ (c:Int) base<0):Ke base v (s.drop pos)=Ke base (min (v*base+BQ (c:Int) base) 1114112) (s.drop (pos+1)):=by
 rw [List.drop_eq_getElem_cons h] at U |-
 by_cases hb:s[pos].toNat<128
 .rw [LZ hb] at U
  injection U with h1 h2
  subst h1
  rw [Ke,if_neg k]
 .have:=QG (r:=s.drop (pos+1)) hb
  rw [<-U] at this
  exact absurd (JD (c:=(c:Int)) (base:=base) H1) k
theorem Mp {c:Nat} (h:pos<s.length) (U:(c,m)=Br (s.drop pos)) (k:BQ (c:Int) base<0):Ke base v (s.drop pos)=v:=by
 rw [List.drop_eq_getElem_cons h] at U |-
 by_cases hb:s[pos].toNat<128
 .rw [LZ hb] at U
  injection U with h1 h2
  subst h1
  rw [Ke,if_pos k]
 .rw [Ke,if_pos (JD H1)]
theorem PE (h:s.length<=pos):Ke base v (s.drop pos)=v:=by rw [List.drop_eq_nil_iff.2 h];rfl
theorem L0 {c:Int}:BQ c b<0\/BQ c b<b:=by
 unfold BQ
 grind
theorem aX {c:Int} {K:Int->Prop} (h0:0<=v) (h1:v<=1114112) (hb:0<=b) (U:b<=16) (hk:¬BQ c b<0) (k:K (v*b+BQ c b)):∃r,r=IntKind.i64.wrap (v*b+BQ c b)/\K r:=by
 have h2:0<=v*b:=Int.mul_nonneg h0 hb
 have h3:v*b<=1114112*16:=Int.mul_le_mul h1 U hb IR
 have h4:=L0 (c:=c) (b:=b)
 exact Wq H1 H1 k
theorem mL:Sx.length<1000:=NE
theorem mJ {a:Int} {K:Int->Prop} (k:K (min a b)):∃r,r=(if b<a then b else a)/\K r:=⟨min a b,H1,k⟩
theorem ib {i c:Nat} (h:FC[i]? =some x):Pb l (FC.drop i) i (c,n)=Pb l (FC.drop (i+1)) (i+1) (if n<x.length/\x.isPrefixOf l=true then (i,x.length) else (c,n)):=by
 rw [drop_at h,Pb]
theorem rL {c:Nat} (h:Pb l FC 0 (0,0)=(c,n)):K6 l=(if c=33 then 127 else (c:Int),n):=by
 have key:∀p:Nat×Nat,p=(c,n)->((if p.1=33 then 127 else (p.1:Int),p.2):Int×Nat)=(if c=33 then 127 else (c:Int),n):=λp U=>by simp_all
 exact key _ h
end Go.Aw
namespace Go.Proofs.Z
open Go Go.Aw
theorem Gw {t:Bool} (U:BJ b s=n) (e2:Ke b 0 s=v) (e3:decide (n≠0/\v<=1114111)=t):AD.ret (.Bl [.int .i64 (Ke b 0 s),.int .i64 (BJ b s:Nat),.bool (decide (BJ b s≠0/\Ke b 0 s<=1114111))])=AD.ret (.Bl [.int .i64 v,.int .i64 (n:Int),.bool t]):=lm
section
variable {st:St} {R:AD->St->Prop}
theorem lS {l:List (List UInt8)} (e:Lib.fields s=l) (hz:s.length<1000) (U:∀b ∈ s,b.toNat<128) (hl:∀x ∈ l,x.length<=3) (hn:l.length<=1000) (h:R (.ret (.slice 1 (strs l) .any)) st):PC 428 [.str s] st R:=by
 subst e
 exact lR H1 U h (λx hx=>by have:=hl x hx;unfold Fk;omega) (by unfold Fk;omega)
theorem rQ (h:R (.ret (.slice 1 (strs FC) .any)) st):PC 428 [.str Sx] st R:=
 lS Vo mL mM (λx U=>(Ua x U).2) (Nat.le_trans (Nat.le_of_eq rM) IR) h
set_option maxRecDepth 100000 in
theorem rO (hl:s.length<=100000000) (h:R (.ret (.Bl [.int .i64 (K6 s).1,.int .i64 (K6 s).2])) st):PC 426 [.str s] st R:=by
 refine pB Tryz.func426 ?_
 repeat' ((conv=>whnf);first|(refine CM ?_;intros)|(refine DD ?_ ?_<;>intro _)|refine rQ ?_|refine mj (λ_=>?_))
 refine VH (α:=Nat) (β:=Nat) (γ:=Nat) (λi c n=>[(8,.int .i64 (i:Int)),(2,.int .i64 (c:Int)),(3,.int .i64 (n:Int))]) (λ_ _ _=>[]) [0,6,7] [] (λ_ _ _=>st)
  (λi c n=>i<=FC.length/\n<=3/\Pb s FC 0 (0,0)=Pb s (FC.drop i) i (c,n)) (λi _ _=>FC.length - i) 0 0 0 ⟨Nat.zero_le _,IR,rfl⟩ Yl (St.le_refl _) ?_
 rintro i c n ⟨h1,h2,U⟩
 rcases hx:FC[i]? with _|x
 .have hge:=List.getElem?_eq_none_iff.1 hx
  rw [List.drop_eq_nil_iff.2 hge] at U
  have e:=rL U
  repeat' ((conv=>whnf);first|(refine CM ?_;intros)|(refine DD ?_ ?_<;>intro _)|fail)
  all_goals first
   |exact fin h (by rw [e,if_pos H1])
   |exact fin h (by rw [e,if_neg H1])
 .have hlt:=(List.getElem?_eq_some_iff.1 hx).1
  have hm:=Ua x (List.mem_of_getElem? hx)
  rw [ib hx] at U
  have hx':FC[((i:Int)).toNat]? =some x:=hx
  repeat' ((conv=>whnf);first|(refine CM ?_;intros)|(refine DD ?_ ?_<;>intro _)|refine dp hx' H1 ?_|refine JY ?_)
  .rw [if_pos ⟨H1,H1⟩] at U
   conv=>whnf
   exact ⟨(i+1,i,x.length),⟨H1,lm,U⟩,H1,Yl,St.le_refl _⟩
  .have hp:x.isPrefixOf s=false:=Nm
   rw [if_neg (λy=>by simp_all)] at U
   conv=>whnf
   exact ⟨(i+1,c,n),⟨H1,H1,U⟩,H1,Yl,St.le_refl _⟩
  .rw [if_neg (λy=>by omega)] at U
   conv=>whnf
   exact ⟨(i+1,c,n),⟨H1,H1,U⟩,H1,Yl,St.le_refl _⟩
theorem YJ (hl:s.length<=100000000) (hb:b=8\/b=10\/b=16) (h:R (.ret (.Bl [.int .i64 (Ke b 0 s),.int .i64 (BJ b s:Nat),.bool (decide (BJ b s≠0/\Ke b 0 s<=1114111))])) st):PC 427 [.str s,.int .i64 b] st R:=by
 refine pB Tryz.func427 ?_
 repeat' ((conv=>whnf);first|(refine CM ?_;intros)|(refine DD ?_ ?_<;>intro _)|fail)
 refine VG (α:=Nat) (β:=Int) (λpos v=>[(4,.int .i64 v),(5,.int .i64 (pos:Int))]) (λpos _=>[(0,[.Qo s pos])]) [0,1,11] [] (λ_ _=>st)
  (λpos v=>pos<=s.length/\0<=v/\v<=1114112/\BJ b s=pos+BJ b (s.drop pos)/\Ke b 0 s=Ke b v (s.drop pos)) (λpos _=>s.length - pos) 0 0 ⟨Nat.zero_le _,IR,IR,Pi,rfl⟩ Yl (St.le_refl _) ?_
 rintro pos v ⟨h1,h2,h3,h4,h5⟩
 rcases hb with rfl|rfl|rfl
 .skip
  have hdl:=λc=>L0 (c:=c) (b:=8)
  repeat' ((conv=>whnf);first|(refine CM ?_;intros)|(refine DD ?_ ?_<;>intro _)|refine NS ?_|refine mJ ?_|refine aX h2 h3 IR IR ‹_› ?_)
  all_goals first
   |(rename_i U c m hd hk _ _
     have e1:=I7 U hd hk
     have e2:=Mp (v:=v) U hd hk
     exact fin h (Gw H1 (h5.trans e2) (by first|exact decide_eq_true ⟨H1,H1⟩|exact decide_eq_false H1)))
   |(rename_i U c m hd hk _
     have e1:=I7 U hd hk
     have e2:=Mp (v:=v) U hd hk
     exact fin h (Gw H1 (h5.trans e2) (by first|exact decide_eq_true ⟨H1,H1⟩|exact decide_eq_false H1)))
   |(have e1:=J2 (base:=8) (s:=s) (pos:=pos) H1
     have e2:=PE (base:=8) (v:=v) (s:=s) (pos:=pos) H1
     exact fin h (Gw H1 (h5.trans e2) (by first|exact decide_eq_true ⟨H1,H1⟩|exact decide_eq_false H1)))
   |(rename_i U c m hd hk
     obtain ⟨e1,e2⟩:=Oq U hd hk
     have e3:=Xd (v:=v) U hd hk
     have e4:=hdl (c:Int)
     subst e1
     conv=>whnf
     exact ⟨(pos+1,min (v*8+BQ (c:Int) 8) 1114112),⟨f9,f9,f9,f9,h5.trans e3⟩,f9,Yl,St.le_refl _⟩)
 .skip
  have hdl:=λc=>L0 (c:=c) (b:=10)
  repeat' ((conv=>whnf);first|(refine CM ?_;intros)|(refine DD ?_ ?_<;>intro _)|refine NS ?_|refine mJ ?_|refine aX h2 h3 IR IR ‹_› ?_)
  all_goals first
   |(rename_i U c m hd hk _ _
     have e1:=I7 U hd hk
     have e2:=Mp (v:=v) U hd hk
     exact fin h (Gw H1 (h5.trans e2) (by first|exact decide_eq_true ⟨H1,H1⟩|exact decide_eq_false H1)))
   |(rename_i U c m hd hk _
     have e1:=I7 U hd hk
     have e2:=Mp (v:=v) U hd hk
     exact fin h (Gw H1 (h5.trans e2) (by first|exact decide_eq_true ⟨H1,H1⟩|exact decide_eq_false H1)))
   |(have e1:=J2 (base:=10) (s:=s) (pos:=pos) H1
     have e2:=PE (base:=10) (v:=v) (s:=s) (pos:=pos) H1
     exact fin h (Gw H1 (h5.trans e2) (by first|exact decide_eq_true ⟨H1,H1⟩|exact decide_eq_false H1)))
   |(rename_i U c m hd hk
     obtain ⟨e1,e2⟩:=Oq U hd hk
     have e3:=Xd (v:=v) U hd hk
     have e4:=hdl (c:Int)
     subst e1
     conv=>whnf
     exact ⟨(pos+1,min (v*10+BQ (c:Int) 10) 1114112),⟨f9,f9,f9,f9,h5.trans e3⟩,f9,Yl,St.le_refl _⟩)
 .skip
  have hdl:=λc=>L0 (c:=c) (b:=16)
  repeat' ((conv=>whnf);first|(refine CM ?_;intros)|(refine DD ?_ ?_<;>intro _)|refine NS ?_|refine mJ ?_|refine aX h2 h3 IR IR ‹_› ?_)
  all_goals first
   |(rename_i U c m hd hk _ _
     have e1:=I7 U hd hk
     have e2:=Mp (v:=v) U hd hk
     exact fin h (Gw H1 (h5.trans e2) (by first|exact decide_eq_true ⟨H1,H1⟩|exact decide_eq_false H1)))
   |(rename_i U c m hd hk _
     have e1:=I7 U hd hk
     have e2:=Mp (v:=v) U hd hk
     exact fin h (Gw H1 (h5.trans e2) (by first|exact decide_eq_true ⟨H1,H1⟩|exact decide_eq_false H1)))
   |(have e1:=J2 (base:=16) (s:=s) (pos:=pos) H1
     have e2:=PE (base:=16) (v:=v) (s:=s) (pos:=pos) H1
     exact fin h (Gw H1 (h5.trans e2) (by first|exact decide_eq_true ⟨H1,H1⟩|exact decide_eq_false H1)))
   |(rename_i U c m hd hk
     obtain ⟨e1,e2⟩:=Oq U hd hk
     have e3:=Xd (v:=v) U hd hk
     have e4:=hdl (c:Int)
     subst e1
     conv=>whnf
     exact ⟨(pos+1,min (v*16+BQ (c:Int) 16) 1114112),⟨f9,f9,f9,f9,h5.trans e3⟩,f9,Yl,St.le_refl _⟩)
end
end Go.Proofs.Z
namespace Go.Aw
open Go
theorem iq (h:K7 b l=some (v,n)):Ke b 0 l=v/\BJ b l=n/\n≠0/\v<=1114111:=by
 unfold K7 at h
 split at h
 .cases h
 .injection h with h;injection h with U h2
  exact ⟨U,h2,H1,H1⟩
theorem im (h:K7 b l=none):decide (BJ b l≠0/\Ke b 0 l<=1114111)=false:=by
 unfold K7 at h
 split at h
 .exact decide_eq_false H1
 .cases h
theorem Jl {R:AD->St->Prop} {r r':AD} {st st':St} (es:st'=st) (h:R r st) (e:r=r'):∃r2 U,(r2=r'\/r2=r'.wk)/\St.le U st'/\R r2 U:=by subst es;exact ⟨r,st',.inl e,St.le_refl _,h⟩
theorem St.LL (st:St) (b:Nat) (cs cs':List V):(st.Ab b cs).Ab b cs'=st.Ab b cs':=by
 simp only [St.Ab,St.mk.injEq,and_true]
 funext x
 split<;>rfl
end Go.Aw
namespace Go.Proofs.Z
open Go Go.Aw
theorem Um {q:Nat} (e:i=(q:Int)):[V.str s,.int .i64 i,.bool tx,.slice 1 (ints o) w1,.slice 2 (pS g) w2]=qC s q tx o w1 g w2:=by subst e;rfl
section
variable {st:St} {R:AD->St->Prop}
theorem mY (e:i.toNat=m) (hn:K7 b (s.drop m)=some (v,n)) (hl:s.length<=100000000) (hb:b=8\/b=10\/b=16) (h:R (.ret (.Bl [.int .i64 v,.int .i64 n,.bool true])) st):PC 427 [.str (s.drop i.toNat),.int .i64 b] st R:=by
 rw [e]
 obtain ⟨U,e2,e3,e4⟩:=iq hn
 exact YJ So hb (by rw [U,e2,decide_eq_true ⟨e3,e4⟩];exact h)
theorem mZ (e:i.toNat=m) (hn:K7 b (s.drop m)=none) (U:s.length<=100000000) (hb:b=8\/b=10\/b=16) (h:R (.ret (.Bl [.int .i64 (Ke b 0 (s.drop m)),.int .i64 (BJ b (s.drop m):Nat),.bool false])) st):PC 427 [.str (s.drop i.toNat),.int .i64 b] st R:=by
 rw [e]
 exact YJ So hb (by rw [im hn];exact h)
theorem RL {b k:Nat} {frm:Int} (hl:s.length<=100000000) (hp:p+k<=s.length) (U:base=8\/base=10\/base=16) (hb:st.box b=some (qC s p tx o w1 g w2))
 (h:∀v n,K7 base (s.drop (p+k))=some (v,n)->R (.ret (.int .i64 v)) (st.Ab b (qC s (p+k+n) tx o w1 g w2))) (h0:K7 base (s.drop (p+k))=none->R (.Ci (KI frm 51)) st):
 PC 425 [.ptr b 0,.int .i64 frm,.int .i64 k,.int .i64 base] st R:=by
 refine pB Tryz.func425 ?_
 rcases hn:K7 base (s.drop (p+k)) with _|⟨v,n⟩
 .have h0:=h0 hn
  repeat' ((conv=>whnf);first|exact Ft|(refine CM ?_;intros)|(refine Fu ?_ ?_ ?_;rotate_left)|refine Aq hb ?_|refine mZ (m:=p+k) H1 hn hl U ?_|refine Hi ?_|refine Ad 20 [12] [] ?_|fail)
  all_goals exact fin h0 rfl
 .have h:=h v n hn
  have hle:=QR hn
  rw [List.length_drop] at hle
  dsimp only at hle
  repeat' ((conv=>whnf);first|exact Ft|(refine CM ?_;intros)|(refine Fu ?_ ?_ ?_;rotate_left)|refine Aq hb ?_|refine mY (m:=p+k) H1 hn hl U ?_|refine Hi ?_|refine Ad 20 [12] [] ?_|fail)
  exact Jl (congrArg (st.Ab b) (Um H1)) h rfl
theorem dT:Fx (s.drop p)=if A6 (s.drop p)=92/\CF (λc=>A4 c==1) (s.drop (p+1))≠0/\A6 (s.drop (p+1+CF (λc=>A4 c==1) (s.drop (p+1))))=92 then CF (λc=>A4 c==1) (s.drop (p+1))+2 else 0:=by
 have U:(s.drop p).drop 1=s.drop (p+1):=List.drop_drop
 unfold Fx;rw [U,List.drop_drop,Nat.add_assoc]
theorem Mi {q k:Nat} (hl:s.length<=100000000) (hq:q<=s.length) (U:CF (λc=>A4 c==1) (s.drop q)=k) (e:i=(q:Int)) (h:R (.ret (.int .i64 (q+k:Nat))) st):PC 129 [.str s,.int .i64 i,.int .i64 1] st R:=by
 subst e;exact uz H1 (by rw [QY H1 H1,show (q:Int).toNat=q by omega,U];exact h)
theorem vz {b:Nat} (U:s.length<=100000000) (hp:p<=s.length) (hb:st.box b=some (qC s p tx o w1 g w2)) (hg:tx=false\/Fx (s.drop p)=0) (h:R (.ret (.bool false)) st):PC 409 [.ptr b 0] st R:=by
 refine pB Tryz.func409 ?_
 have hby:=Lf (s.drop p)
 cases tx with
 |false=>
  repeat' ((conv=>whnf);first|exact Ft|(refine CM ?_;intros)|(refine Fu ?_ ?_ ?_;rotate_left)|(refine DD ?_ ?_<;>intro _)|refine Aq hb ?_|refine Fw (k:=0) U hp IR hb ?_|refine Ad 11 [9] [] ?_|refine Ad 17 [13,16] [] ?_|fail)
  all_goals exact fin h rfl
 |true=>
  have hg:Fx (s.drop p)=0:=hg.resolve_left IR
  by_cases h1:A6 (s.drop p)=92
  .have hp1:p<s.length:=Cp (k:=p) H1
   have hr:=Gz (λc=>A4 c==1) (s.drop (p+1))
   have hgn:=dT (s:=s) (p:=p)
   rw [List.length_drop] at hr
   generalize hk:CF (λc=>A4 c==1) (s.drop (p+1))=k at hr hgn
   have hno:k≠0->¬A6 (s.drop (p+1+k))=92:=λe1 e2=>by rw [if_pos ⟨h1,e1,e2⟩] at hgn;omega
   have hb0:LV (s.drop p)=92:=H1
   by_cases hlt:p+1+k<s.length
   .obtain ⟨e,he⟩:∃e,s[p+1+k]? =some e:=⟨s[p+1+k],List.getElem?_eq_getElem hlt⟩
    have he':s[((p+1+k:Nat):Int).toNat]? =some e:=he
    have hv:=DG he
    repeat' ((conv=>whnf);first|exact Ft|(refine CM ?_;intros)|(refine Fu ?_ ?_ ?_;rotate_left)|(refine DD ?_ ?_<;>intro _)|refine Aq hb ?_|refine Fw (k:=0) U hp IR hb ?_|refine Mi (q:=p+1) U H1 hk H1 ?_|refine Ad 11 [9] [] ?_|refine Ad 17 [13,16] [] ?_|fail)
    all_goals exact fin h rfl
   .skip
    repeat' ((conv=>whnf);first|exact Ft|(refine CM ?_;intros)|(refine Fu ?_ ?_ ?_;rotate_left)|(refine DD ?_ ?_<;>intro _)|refine Aq hb ?_|refine Fw (k:=0) U hp IR hb ?_|refine Mi (q:=p+1) U H1 hk H1 ?_|refine Ad 11 [9] [] ?_|refine Ad 17 [13,16] [] ?_|fail)
    all_goals exact fin h rfl
  .have hb0:¬LV (s.drop p)=92:=H1
   repeat' ((conv=>whnf);first|exact Ft|(refine CM ?_;intros)|(refine Fu ?_ ?_ ?_;rotate_left)|(refine DD ?_ ?_<;>intro _)|refine Aq hb ?_|refine Fw (k:=0) U hp IR hb ?_|refine Ad 11 [9] [] ?_|refine Ad 17 [13,16] [] ?_|fail)
   all_goals exact fin h rfl
attribute [local irreducible] Go.Aw.Ai
theorem qZ {b:Nat} (hl:s.length<=100000000) (hb:st.box b=some (qC s p true o w1 g w2)) (hg:0<Fx (s.drop p)) (hr2:Cq st0 st w1 o.length w2 (2*g.length)) (hgl:g.length<=100000000)
 (h:∀w2' st',Cq st0 st' w1 o.length w2' (2*(g++[(p,p+Fx (s.drop p))]).length)->st'.box=st.box->R (.ret (.bool true)) (st'.Ab b (qC s (p+Fx (s.drop p)) true o w1 (g++[(p,p+Fx (s.drop p))]) w2'))):PC 409 [.ptr b 0] st R:=by
 have hby:=Lf (s.drop p)
 have U:=dT (s:=s) (p:=p)
 have hr:=Gz (λc=>A4 c==1) (s.drop (p+1))
 rw [List.length_drop] at hr
 generalize hk:CF (λc=>A4 c==1) (s.drop (p+1))=k at hr U
 have hc:A6 (s.drop p)=92/\k≠0/\A6 (s.drop (p+1+k))=92:=by
  by_cases hc:A6 (s.drop p)=92/\k≠0/\A6 (s.drop (p+1+k))=92
  .exact hc
  .rw [if_neg hc] at U;omega
 rw [if_pos hc] at U
 obtain ⟨h1,h2,h3⟩:=hc
 have hp1:p<s.length:=Cp (k:=p) H1
 have hp2:p+1+k<s.length:=Cp (k:=p+1+k) H1
 obtain ⟨e,he⟩:∃e,s[p+1+k]? =some e:=⟨s[p+1+k],List.getElem?_eq_getElem hp2⟩
 have he':s[((p+1+k:Nat):Int).toNat]? =some e:=he
 have hv:=DG he
 have hb0:LV (s.drop p)=92:=H1
 have hpk:((p+1+k:Nat):Int)+1=((p+(k+2):Nat):Int):=H1
 rw [U] at h
 refine pB Tryz.func409 ?_
 repeat' ((conv=>whnf);first|refine Ad 17 [13,16] [] ?_|exact Ft|(refine CM ?_;intros)|(refine Fu ?_ ?_ ?_;rotate_left)|refine Aq hb ?_|refine Fw (k:=0) hl H1 IR hb ?_|refine Mi (q:=p+1) hl H1 hk H1 ?_|refine iM (p:=(p,p+(k+2))) hr2 H1 rfl hpk (λw2' st1 hr3 hb3=>?_)|refine Aq ((congrFun hb3 b).trans hb) ?_|refine Aq (St.A1 _ _ _) ?_|refine Ad 11 [9] [] ?_|refine Ad 17 [13,16] [] ?_|fail)
 exact Jl ((St.LL _ _ _ _).trans (congrArg (st1.Ab b) (Um H1))) (h w2' st1 hr3 hb3) rfl
end
end Go.Proofs.Z
namespace Go.Aw
open Go
theorem sJ (l:List UInt8):IH (LV l)=IH (A6 l):=by
 rcases Lf l with ⟨U,h2⟩|⟨U,h2⟩
 .rw [U,h2];rfl
 grind
theorem sK {c:Int} (h:IH c=none):c≠92/\c≠34/\c≠39:=by
 refine ⟨λe=>?_,λe=>?_,λe=>?_⟩<;>(subst e;cases h)
theorem u8_in {a:Int} (U:0<=a) (h2:a<=255):IntKind.u8.wrap a=a:=IntWalk.u8_in _ ⟨U,h2⟩
theorem lO (h:IH (A6 (l.drop 1))=some v):Ji tx l=some (v,2):=by unfold Ji;rw [h]
theorem lI (h:A6 (l.drop 1)=38):Ji true l=some (-1,2):=by
 unfold Ji;rw [show IH (A6 (l.drop 1))=none by rw [h];rfl]
 simp_all
theorem lJ (h:A6 (l.drop 1)=94) (U:64<=A6 (l.drop 2)) (h2:A6 (l.drop 2)<=95):Ji tx l=some (A6 (l.drop 2) - 64,3):=by
 unfold Ji;rw [show IH (A6 (l.drop 1))=none by rw [h];rfl]
 simp_all
theorem lN (h:A6 (l.drop 1)=111):Ji tx l=(K7 8 (l.drop 2)).map λp=>(p.1,2+p.2):=by
 unfold Ji;rw [show IH (A6 (l.drop 1))=none by rw [h];rfl]
 simp_all
theorem lL (h:A6 (l.drop 1)=120):Ji tx l=(K7 16 (l.drop 2)).map λp=>(p.1,2+p.2):=by
 unfold Ji;rw [show IH (A6 (l.drop 1))=none by rw [h];rfl]
 simp_all
theorem lK (h:48<=A6 (l.drop 1)) (U:A6 (l.drop 1)<=57):Ji tx l=(K7 10 (l.drop 1)).map λp=>(p.1,1+p.2):=by
 have hs:IH (A6 (l.drop 1))=none:=by
  unfold IH
  (repeat' split)<;>first|rfl|(exfalso;omega)
 unfold Ji;grind
theorem lM (h:IH (A6 (l.drop 1))=none) (U:¬(A6 (l.drop 1)=38/\tx=true)) (h2:¬(A6 (l.drop 1)=94/\64<=A6 (l.drop 2)/\A6 (l.drop 2)<=95)) (h3:A6 (l.drop 1)≠111) (h4:A6 (l.drop 1)≠120) (h5:¬(48<=A6 (l.drop 1)/\A6 (l.drop 1)<=57)):
 Ji tx l=if 0<(K6 (l.drop 1)).2 then some ((K6 (l.drop 1)).1,1+(K6 (l.drop 1)).2) else none:=by
 unfold Ji;grind
end Go.Aw
namespace Go.Proofs.Z
open Go Go.Aw
section
variable {st:St} {R:AD->St->Prop}
theorem rP (e:i.toNat=n) (U:s.length<=100000000) (h:R (.ret (.Bl [.int .i64 (K6 (s.drop n)).1,.int .i64 (K6 (s.drop n)).2])) st):PC 426 [.str (s.drop i.toNat)] st R:=by
 rw [e];exact rO GT h
theorem XU {b:Nat} (hl:s.length<=100000000) (hp:p<s.length) (hb:st.box b=some (qC s p tx o w1 g w2))
 (h:∀v n,Ji tx (s.drop p)=some (v,n)->R (.ret (.int .i64 v)) (st.Ab b (qC s (p+n) tx o w1 g w2))) (h0:Ji tx (s.drop p)=none->∀q,R (.Ci (KI p 51)) (st.Ab b (qC s q tx o w1 g w2))):
 PC 410 [.ptr b 0] st R:=by
 have d1:(s.drop p).drop 1=s.drop (p+1):=List.drop_drop
 have d2:(s.drop p).drop 2=s.drop (p+1+1):=List.drop_drop
 refine AQ Ac [] Tryz.func410 rfl IR rfl ?_
 refine Ah (Aj Ac ?_)
 repeat' ((conv=>whnf);first|exact Ft|(refine CM ?_;intros)|(refine Fu ?_ ?_ ?_;rotate_left)|(refine DD ?_ ?_<;>intro _)|refine Ad 15 [9] [] ?_|refine Au NE ?_|fail)
 refine Ah (Aj Ac ?_)
 repeat' ((conv=>whnf);first|exact Ft|(refine CM ?_;intros)|(refine Fu ?_ ?_ ?_;rotate_left)|(refine DD ?_ ?_<;>intro _)|refine Aq hb ?_|refine Ad 15 [9] [] ?_|refine Au NE ?_|fail)
 refine Ah (Aj Ac ?_)
 repeat' ((conv=>whnf);first|exact Ft|(refine CM ?_;intros)|(refine Fu ?_ ?_ ?_;rotate_left)|(refine DD ?_ ?_<;>intro _)|refine Aq hb ?_|refine Ad 15 [9] [] ?_|refine Au NE ?_|fail)
 refine dh (st':=st.Ab b (qC s (p+1) tx o w1 g w2)) rfl ?_
 have endq:∀{i:Int} {q:Nat},i=(q:Int)->(st.Ab b (qC s (p+1) tx o w1 g w2)).Ab b [V.str s,.int .i64 i,.bool tx,.slice 1 (ints o) w1,.slice 2 (pS g) w2]=st.Ab b (qC s q tx o w1 g w2):=λe=>by rw [St.LL,Um e]
 have endp:∀{q:Nat},(st.Ab b (qC s (p+1) tx o w1 g w2)).Ab b (qC s q tx o w1 g w2)=st.Ab b (qC s q tx o w1 g w2):=St.LL _ _ _ _
 have U:(st.Ab b (qC s (p+1) tx o w1 g w2)).box b=some (qC s (p+1) tx o w1 g w2):=St.A1 _ _ _
 have h0':=λe=>h0 e (p+1)
 generalize hst:st.Ab b (qC s (p+1) tx o w1 g w2)=st1 at U endq endp h0'
 have hx1:=Lf (s.drop (p+1))
 have hx2:=Lf (s.drop (p+1+1))
 have hxl:=l4 (s.drop (p+1))
 have hby0:∀{R:AD->St->Prop},R (.ret (.int .u8 (LV (s.drop (p+1))))) st1->PC 375 [.ptr b 0,.int .i64 0] st1 R:=λh=>Fw (k:=0) hl H1 IR U h
 have hby1:∀{R:AD->St->Prop},R (.ret (.int .u8 (LV (s.drop (p+1+1))))) st1->PC 375 [.ptr b 0,.int .i64 1] st1 R:=λh=>Fw (k:=1) hl H1 IR U h
 have l1:=λh=>Cp (l:=s) (k:=p+1) h
 have l2:=λh=>Cp (l:=s) (k:=p+1+1) h
 cases hsg:IH (A6 (s.drop (p+1))) with
 |some v=>
  have hv:=Zr hsg
  have h1:=h v 2 (lO lm)
  have hsn:∀{R:AD->St->Prop},R (.ret (wO (some v))) st1->PC 424 [.int .u8 (LV (s.drop (p+1)))] st1 R:=λh=>oD H1 H1 GT
  refine Aj Ac ?_
  repeat' ((conv=>whnf);first|exact Ft|(refine CM ?_;intros)|(refine Fu ?_ ?_ ?_;rotate_left)|(refine DD ?_ ?_<;>intro _)|refine hby0 ?_|refine hsn ?_|refine Aq U ?_|refine Ad 15 [9] [] ?_|refine Au NE ?_|fail)
  exact Jl (endq H1) h1 rfl
 |none=>
  have hne:=sK hsg
  have hsn:∀{R:AD->St->Prop},R (.ret (wO none)) st1->PC 424 [.int .u8 (LV (s.drop (p+1)))] st1 R:=λh=>oD H1 H1 (by rw [sJ,hsg];exact h)
  refine Ah (Aj Ac ?_)
  repeat' ((conv=>whnf);first|exact Ft|(refine CM ?_;intros)|(refine Fu ?_ ?_ ?_;rotate_left)|(refine DD ?_ ?_<;>intro _)|refine hby0 ?_|refine Ad 15 [9] [] ?_|refine Au NE ?_|fail)
  refine Ah (Aj Ac ?_)
  repeat' ((conv=>whnf);first|exact Ft|(refine CM ?_;intros)|(refine Fu ?_ ?_ ?_;rotate_left)|(refine DD ?_ ?_<;>intro _)|refine hsn ?_|refine Ad 15 [9] [] ?_|refine Au NE ?_|fail)
  by_cases c1:A6 (s.drop (p+1))=38/\tx=true
  .obtain ⟨c1,rfl⟩:=c1
   have h1:=h (-1) 2 (lI lm)
   refine Aj Ac ?_
   repeat' ((conv=>whnf);first|exact Ft|(refine CM ?_;intros)|(refine Fu ?_ ?_ ?_;rotate_left)|(refine DD ?_ ?_<;>intro _)|refine Aq U ?_|refine Ad 15 [9] [] ?_|refine Au NE ?_|fail)
   exact Jl (endq H1) h1 rfl
  by_cases c2:A6 (s.drop (p+1))=94/\64<=A6 (s.drop (p+1+1))/\A6 (s.drop (p+1+1))<=95
  .obtain ⟨c2,c3,c4⟩:=c2
   have h1:=h _ 3 (lJ lm lm lm)
   rw [d2] at h1
   have hp2:=l2 H1
   obtain ⟨e,he⟩:∃e,s[p+1+1]? =some e:=⟨s[p+1+1],List.getElem?_eq_getElem hp2⟩
   have he':s[(((p+1:Nat):Int)+2 - 1).toNat]? =some e:=by rw [show (((p+1:Nat):Int)+2 - 1).toNat=p+1+1 by omega];exact he
   have hv:=DG he
   have hew:∀{K:Int->Prop},K (A6 (s.drop (p+1+1)) - 64)->∃r,r=IntKind.u8.wrap ((e.toNat:Nat) - 64:Int)/\K r:=λk=>⟨_,by rw [hv];exact (u8_in H1 H1).symm,k⟩
   refine Aj Ac ?_
   repeat' ((conv=>whnf);first|exact Ft|(refine CM ?_;intros)|(refine Fu ?_ ?_ ?_;rotate_left)|(refine DD ?_ ?_<;>intro _)|refine hby1 ?_|refine Aq U ?_|refine Aq (St.A1 _ _ _) ?_|refine hew ?_|refine Ad 15 [9] [] ?_|refine Au NE ?_|fail)
   exact Jl (endq H1) h1 rfl
  by_cases c3:A6 (s.drop (p+1))=111
  .have he:=lN (tx:=tx) (l:=s.drop p) lm
   rw [d2] at he
   have hp1:=l1 H1
   refine Aj Ac ?_
   repeat' ((conv=>whnf);first|exact Ft|(refine CM ?_;intros)|(refine Fu ?_ ?_ ?_;rotate_left)|(refine DD ?_ ?_<;>intro _)|refine Aq U ?_|refine RL (k:=1) hl H1 (.inl rfl) U (λv n hv=>?_) (λhv=>?_)|refine Ad 15 [9] [] ?_|refine Au NE ?_|fail)
   all_goals try rw [hv] at he
   .have h1:=h v (2+n) he
    exact Jl (endp.trans GT) h1 rfl
   .exact fin (h0' he) rfl
  by_cases c4:A6 (s.drop (p+1))=120
  .have he:=lL (tx:=tx) (l:=s.drop p) lm
   rw [d2] at he
   have hp1:=l1 H1
   refine Aj Ac ?_
   repeat' ((conv=>whnf);first|exact Ft|(refine CM ?_;intros)|(refine Fu ?_ ?_ ?_;rotate_left)|(refine DD ?_ ?_<;>intro _)|refine Aq U ?_|refine RL (k:=1) hl H1 (.inr (.inr rfl)) U (λv n hv=>?_) (λhv=>?_)|refine Ad 15 [9] [] ?_|refine Au NE ?_|fail)
   all_goals try rw [hv] at he
   .have h1:=h v (2+n) he
    exact Jl (endp.trans GT) h1 rfl
   .exact fin (h0' he) rfl
  by_cases c5:48<=A6 (s.drop (p+1))/\A6 (s.drop (p+1))<=57
  .have he:=lK (tx:=tx) (l:=s.drop p) lm lm
   rw [d1] at he
   have hp1:=l1 H1
   refine Aj Ac ?_
   repeat' ((conv=>whnf);first|exact Ft|(refine CM ?_;intros)|(refine Fu ?_ ?_ ?_;rotate_left)|(refine DD ?_ ?_<;>intro _)|refine Aq U ?_|refine RL (k:=0) hl H1 (.inr (.inl rfl)) U (λv n hv=>?_) (λhv=>?_)|refine Ad 15 [9] [] ?_|refine Au NE ?_|fail)
   all_goals try rw [show K7 10 (s.drop (p+1))=_ from hv] at he
   .have h1:=h v (1+n) he
    exact Jl (endp.trans GT) h1 rfl
   .exact fin (h0' he) rfl
  .have he:=lM (tx:=tx) (l:=s.drop p) lm lm lm lm lm lm
   rw [d1] at he
   have hc1:LV (s.drop (p+1))=38->tx=false:=λe=>by simp_all
   have hnl:=VO (s.drop (p+1)) FC 0 (0,0) (Nat.zero_le _)
   have hnn:(K6 (s.drop (p+1))).2<=s.length - (p+1):=by simp only [K6];rw [List.length_drop] at hnl;omega
   have f2:¬(LV (s.drop (p+1))=94/\64<=LV (s.drop (p+1+1))/\LV (s.drop (p+1+1))<=95):=λe=>c2 ⟨H1,H1,H1⟩
   have f3:¬LV (s.drop (p+1))=111:=H1
   have f4:¬LV (s.drop (p+1))=120:=H1
   have f5:¬(48<=LV (s.drop (p+1))/\LV (s.drop (p+1))<=57):=H1
   have e1:=λ(n:Nat) (hn:(K6 (s.drop (p+1))).2=n) (h0:0<n)=>h _ (1+n) (by rw [he,hn,if_pos h0])
   have e2:=λ(h0:¬0<(K6 (s.drop (p+1))).2)=>h0' lm
   generalize LV (s.drop (p+1))=x1 at hby0 hc1 f2 f3 f4 f5 hx1 hsn
   generalize LV (s.drop (p+1+1))=x2 at hby1 f2 hx2
   generalize hN:K6 (s.drop (p+1))=N at e1 e2 hnn
   obtain ⟨v,n⟩:=N
   have e1:=e1 n rfl
   dsimp only at e1 e2 hnn
   have hnam:∀{i:Int} {R:AD->St->Prop},i.toNat=p+1->R (.ret (.Bl [.int .i64 v,.int .i64 (n:Int)])) st1->PC 426 [.str (s.drop i.toNat)] st1 R:=λe h=>rP e hl lm
   clear he h h0 h0' hsg hne hsn c1 c2 c3 c4 c5 hx1 hx2 hxl l1 l2 d1 d2 hnl hby0 endp hb hN
   by_cases h38:x1=38
   .have e:=hc1 h38
    subst e
    refine Aj Ac ?_
    repeat' ((conv=>whnf);first|exact Ft|(refine CM ?_;intros)|(refine Fu ?_ ?_ ?_;rotate_left)|(refine DD ?_ ?_<;>intro _)|refine hby1 ?_|refine Aq U ?_|refine hnam H1 ?_|refine Hi ?_|refine Ad 15 [9] [] ?_|refine Au NE ?_|fail)
    all_goals first
     |exact Jl (endq H1) (e1 H1) rfl
     |exact fin (e2 H1) rfl
   .clear hc1
    refine Aj Ac ?_
    repeat' ((conv=>whnf);first|exact Ft|(refine CM ?_;intros)|(refine Fu ?_ ?_ ?_;rotate_left)|(refine DD ?_ ?_<;>intro _)|refine hby1 ?_|refine Aq U ?_|refine hnam H1 ?_|refine Hi ?_|refine Ad 15 [9] [] ?_|refine Au NE ?_|fail)
    all_goals first
     |exact Jl (endq H1) (e1 H1) rfl
     |exact fin (e2 H1) rfl
end
end Go.Proofs.Z
namespace Go.Aw
open Go
theorem ng (h:0<Fx l):KE true l=.inr (-1,Fx l):=by
 cases l with
 |nil=>exact absurd h IR
 |cons a r=>
  have U:A6 (a::r)=92:=by
   by_cases U:A6 (a::r)=92
   .exact U
   .unfold Fx at h;simp_all
  unfold KE
  simp_all
theorem nf (U:A6 l=92) (h:tx=false\/Fx l=0):KE tx l=match Ji tx l with|none=>.inl 51|some p=>.inr p:=by
 cases l with
 |nil=>exact absurd U IR
 |cons a r=>
  unfold KE
  grind
theorem ir (U:l≠[]) (h1:A6 l≠92):KE tx l=if NI (Br l) then .inl 50 else .inr (((Br l).1:Nat),(Br l).2):=by
 cases l with
 |nil=>rfl
 |cons a r=>
  unfold KE
  simp_all
theorem aO {c:Int} (h:A4 c≠0):c<=1114111:=by
 by_cases hc:c<=1114111
 .exact hc
 .refine absurd ?_ h
  unfold A4 NL
  omega
theorem dq {c:Nat}:NI (c,m)=true↔A4 (c:Int)=0\/(A4 (c:Int)=1/\¬c=32)\/(c=65533/\m=1):=by
 simp only [NI,Bool.or_eq_true,Bool.and_eq_true,Bool.not_eq_true',beq_iff_eq,beq_eq_false_iff_ne,ne_eq]
 omega
def VY (o:List Int) (v:Int):List Int:=if v= -1 then o else o++[v]
end Go.Aw
namespace Go.Proofs.Z
open Go Go.Aw
def QB (st0 st:St) (b:Nat) (s:List UInt8) (tx:Bool):Prop:=∃q o w1 g w2,st.box b=some (qC s q tx o w1 g w2)/\Cq st0 st w1 o.length w2 (2*g.length)
section
variable {st:St} {R:AD->St->Prop}
attribute [local irreducible] Go.Aw.Ai
theorem xH {b:Nat} (hl:s.length<=100000000) (hp:p<=s.length) (hb:st.box b=some (qC s p tx o w1 g w2)) (hr:Cq st0 st w1 o.length w2 (2*g.length)) (hgl:g.length<=100000000)
 (h0:(tx=false\/Fx (s.drop p)=0)->R (.ret (.bool false)) st)
 (h:tx=true->0<Fx (s.drop p)->∀w2' st',Cq st0 st' w1 o.length w2' (2*(g++[(p,p+Fx (s.drop p))]).length)->st'.box=st.box->R (.ret (.bool true)) (st'.Ab b (qC s (p+Fx (s.drop p)) true o w1 (g++[(p,p+Fx (s.drop p))]) w2'))):PC 409 [.ptr b 0] st R:=by
 by_cases hg:tx=false\/Fx (s.drop p)=0
 .exact vz hl hp hb hg (h0 hg)
 .have ht:tx=true:=by cases tx;· simp_all
                      rfl
  subst ht
  have U:0<Fx (s.drop p):=by
   rcases Nat.eq_zero_or_pos (Fx (s.drop p)) with e|e
   .omega
   .exact e
  exact qZ hl hb U hr hgl (h rfl U)
theorem uk {b:Nat} (hl:s.length<=100000000) (hp:p<=s.length) (hb0:st0.box b=none) (hb:st.box b=some (qC s p tx o w1 g w2)) (hr:Cq st0 st w1 o.length w2 (2*g.length))
 (ho:o.length<=100000000) (hgl:g.length<=100000000)
 (h0:∀e,KE tx (s.drop p)=.inl e->∀st',QB st0 st' b s tx->R (.Ci (KI p e)) st')
 (h:∀v n,KE tx (s.drop p)=.inr (v,n)->∀w1' w2' st' g',Cq st0 st' w1' (VY o v).length w2' (2*g'.length)->st'.box b=some (qC s (p+n) tx (VY o v) w1' g' w2')->g'=(if tx=true/\0<Fx (s.drop p) then g++[(p,p+n)] else g)->R (.ret (.Bl [])) st'):
 PC 376 [.ptr b 0] st R:=by
 have hqb:QB st0 st b s tx:=⟨p,o,w1,g,w2,hb,hr⟩
 refine AQ Ac [] Tryz.func376 rfl IR rfl ?_
 by_cases U:s.length<=p
 .have hd:s.drop p=[]:=List.drop_eq_nil_iff.2 H1
  have h0:=h0 50 (by rw [hd];rfl) st hqb
  refine Aj Ac ?_
  repeat' ((conv=>whnf);first|exact Ft|(refine CM ?_;intros)|(refine Fu ?_ ?_ ?_;rotate_left)|(refine DD ?_ ?_<;>intro _)|refine Aq hb ?_|refine Hi ?_|refine Ad 14 [8] [] ?_|refine Au NE ?_|fail)
  exact fin h0 rfl
 have U:p<s.length:=H1
 obtain ⟨e,he⟩:∃e,s[p]? =some e:=⟨s[p],List.getElem?_eq_getElem U⟩
 have he':s[(p:Int).toNat]? =some e:=he
 have hv:=DG he
 refine Ah (Aj Ac ?_)
 repeat' ((conv=>whnf);first|exact Ft|(refine CM ?_;intros)|(refine Fu ?_ ?_ ?_;rotate_left)|(refine DD ?_ ?_<;>intro _)|refine Aq hb ?_|refine Hi ?_|refine Ad 14 [8] [] ?_|refine Au NE ?_|fail)
 refine Ah (Aj Ac ?_)
 repeat' ((conv=>whnf);first|exact Ft|(refine CM ?_;intros)|(refine Fu ?_ ?_ ?_;rotate_left)|(refine DD ?_ ?_<;>intro _)|refine xH hl hp hb hr hgl (λhg=>?_) (λht hg w2' st1 hr1 hb1=>?_)|refine Ad 14 [8] [] ?_|refine Au NE ?_|fail)
 .by_cases h92:A6 (s.drop p)=92
  .have h1:=nf h92 hg
   have hng:¬(tx=true/\0<Fx (s.drop p)):=λx=>by simp_all
   rcases hesc:Ji tx (s.drop p) with _|⟨v,n⟩
   .rw [hesc] at h1
    have h0:=h0 51 h1
    have hE:∀{R:AD->St->Prop},(∀q,R (.Ci (KI p 51)) (st.Ab b (qC s q tx o w1 g w2)))->PC 410 [.ptr b 0] st R:=λh=>XU hl U hb (λv n x=>by simp_all) (λ_=>h)
    refine Aj Ac ?_
    repeat' ((conv=>whnf);first|exact Ft|(refine CM ?_;intros)|(refine Fu ?_ ?_ ?_;rotate_left)|(refine DD ?_ ?_<;>intro _)|refine Aq hb ?_|refine hE (λq=>?_)|refine Ad 14 [8] [] ?_|refine Au NE ?_|fail)
    exact fin (h0 _ ⟨_,_,_,_,_,St.A1 _ _ _,hr.set hb0 _⟩) rfl
   .rw [hesc] at h1
    have hn:=dN hesc
    rw [List.length_drop] at hn
    dsimp only at hn
    have h:=h v n h1
    rw [if_neg hng] at h
    have hb2:=St.A1 st b (qC s (p+n) tx o w1 g w2)
    have hr2:=hr.set hb0 (qC s (p+n) tx o w1 g w2)
    have hE:∀{R:AD->St->Prop},R (.ret (.int .i64 v)) (st.Ab b (qC s (p+n) tx o w1 g w2))->PC 410 [.ptr b 0] st R:=λh=>XU hl U hb (λv' n' x=>by simp_all) (λx=>by simp_all)
    generalize st.Ab b (qC s (p+n) tx o w1 g w2)=st2 at hb2 hr2 hE
    unfold VY at h
    by_cases hv1:v= -1
    .rw [if_pos hv1] at h
     refine Aj Ac ?_
     repeat' ((conv=>whnf);first|exact Ft|(refine CM ?_;intros)|(refine Fu ?_ ?_ ?_;rotate_left)|(refine DD ?_ ?_<;>intro _)|refine Aq hb ?_|refine hE ?_|refine Ad 14 [8] [] ?_|refine Au NE ?_|fail)
     all_goals first
      |exact fin (h w1 w2 st2 g hr2 hb2 rfl) rfl
      |(exfalso;omega)
    .rw [if_neg hv1] at h
     refine Aj Ac ?_
     repeat' ((conv=>whnf);first|exact Ft|(refine CM ?_;intros)|(refine Fu ?_ ?_ ?_;rotate_left)|(refine DD ?_ ?_<;>intro _)|refine Aq hb ?_|refine Aq hb2 ?_|refine hE ?_|refine Zf hr2 H1 (λw1' st3 hr3 hb3=>?_)|refine Aq ((congrFun hb3 b).trans hb2) ?_|refine Ad 14 [8] [] ?_|refine Au NE ?_|fail)
     exact fin (h w1' w2 _ g (hr3.set hb0 _) (St.A1 _ _ _) rfl) rfl
  .have h1:=ir (tx:=tx) (Vg U) h92
   have hng:¬(tx=true/\0<Fx (s.drop p)):=λx=>by simp_all
   rcases hd:Br (s.drop p) with ⟨c,m⟩
   have hrn:=rune_le U hd.symm
   have hx:N9 s p=((c:Int),(m:Int)):=by rw [Oa H1 H1,QF U hd.symm]
   rw [hd] at h1
   refine Ah (Aj Ac ?_)
   repeat' ((conv=>whnf);first|exact Ft|(refine CM ?_;intros)|(refine Fu ?_ ?_ ?_;rotate_left)|(refine DD ?_ ?_<;>intro _)|refine Aq hb ?_|refine Ad 14 [8] [] ?_|refine Au NE ?_|fail)
   refine Ah (Aj Ac ?_)
   repeat' ((conv=>whnf);first|exact Ft|(refine CM ?_;intros)|(refine Fu ?_ ?_ ?_;rotate_left)|(refine DD ?_ ?_<;>intro _)|refine Aq hb ?_|refine et H1 hx ?_|refine Ad 14 [8] [] ?_|refine Au NE ?_|fail)
   refine Ah (Aj Ac ?_)
   repeat' ((conv=>whnf);first|exact Ft|(refine CM ?_;intros)|(refine Fu ?_ ?_ ?_;rotate_left)|(refine DD ?_ ?_<;>intro _)|refine LX ?_|refine Ad 14 [8] [] ?_|refine Au NE ?_|fail)
   cases hbad:NI (c,m) with
   |true=>
    rw [if_pos hbad] at h1
    have h0:=h0 50 h1 st hqb
    refine Aj Ac ?_
    have hbi:=dq.1 hbad
    repeat' ((conv=>whnf);first|exact Ft|(refine CM ?_;intros)|(refine Fu ?_ ?_ ?_;rotate_left)|(refine DD ?_ ?_<;>intro _)|refine Aq hb ?_|refine Hi ?_|refine Ad 14 [8] [] ?_|refine Au NE ?_|fail)
    all_goals first|exact fin h0 rfl|(exfalso;omega)
   |false=>
    rw [if_neg lm] at h1
    have h:=h (c:Int) m h1
    rw [if_neg hng] at h
    unfold VY at h
    rw [if_neg H1] at h
    have hbi:¬(A4 (c:Int)=0\/(A4 (c:Int)=1/\¬c=32)\/(c=65533/\m=1)):=λx=>by rw [dq.2 x] at hbad;grind
    have hcm:=aO (c:=(c:Int)) H1
    refine Aj Ac ?_
    repeat' ((conv=>whnf);first|exact Ft|(refine CM ?_;intros)|(refine Fu ?_ ?_ ?_;rotate_left)|(refine DD ?_ ?_<;>intro _)|refine Aq hb ?_|refine Hi ?_|refine Zf hr H1 (λw1' st3 hr3 hb3=>?_)|refine Aq ((congrFun hb3 b).trans hb) ?_|refine Aq (St.A1 _ _ _) ?_|refine Ad 14 [8] [] ?_|refine Au NE ?_|fail)
    all_goals exact fin (h w1' w2 _ g ((hr3.set hb0 _).set hb0 _) ((St.A1 _ _ _).trans (congrArg some (Um H1))) rfl) rfl
 .subst ht
  have h1:=ng hg
  have h:=h _ _ h1 w1 w2' (st1.Ab b (qC s (p+Fx (s.drop p)) true o w1 (g++[(p,p+Fx (s.drop p))]) w2')) _ (hr1.set hb0 _) (St.A1 _ _ _) (if_pos ⟨rfl,hg⟩).symm
  repeat' ((conv=>whnf);first|exact Ft|(refine CM ?_;intros)|(refine Fu ?_ ?_ ?_;rotate_left)|(refine DD ?_ ?_<;>intro _)|refine Ad 14 [8] [] ?_|refine Au NE ?_|fail)
  exact fin h rfl
end
end Go.Proofs.Z
namespace Go.Aw
open Go
theorem pU {P:Program} {c:Operand} {x y:Code} {st:St} (b:Bool) (hb:env.eval c=.bool b) (h:if b=true then AW P x Q env st else AW P y Q env st):AW P (.cond c x y) Q env st:=λD I0 st0 w0 I β a w U=>by
 have hc:=U.f.eval c
 rw [hb] at hc
 have hc:=J1 hc
 cases b with
 |true=>exact wp_cond_true hc (h D I0 st0 w0 I β a w U)
 |false=>exact wp_cond_false hc (h D I0 st0 w0 I β a w U)
end Go.Aw
