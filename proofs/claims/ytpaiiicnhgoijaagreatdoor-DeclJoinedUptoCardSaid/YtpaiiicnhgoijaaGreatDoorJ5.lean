/-
  Parts of a proof: lemmas that the last text uses.
-/
import Derived.Test.YtpaiiicnhgoijaaGreatDoorJ4
set_option linter.unusedVariables false
set_option linter.unusedSimpArgs false
set_option maxHeartbeats 16000000
variable {b i id:Nat} {c o:Bool} {Q:Go.Aw.Nd->Go.Aw.Nd->Go.Proofs.Z.Ad->Go.Proofs.Z.Ad->Prop} {cs C args:List Go.Aw.V} {all:List Go.Oper} {sched:List (Nat×Bool)} {L:List Nat} {l m:List Go.Aw.Nd} {t:Go.Proofs.Z.Tk} {s s':Go.Proofs.Z.Ad} {U k:Int} {K:Go.Aw.AA->Go.Aw.St->Prop} {ty:Go.TypeId} {ops:Array Go.Oper} {f g:Go.FuncId} {mk:Nat->Go.Aw.V->List Go.Aw.V} {st0 S:Go.Aw.St} {rows:List (Go.Aw.AJ×List Go.Aw.Nd)} {E:Go.Proofs.Z.Er->Go.Proofs.Z.Ad->Prop} {x w:List UInt8} {p:Go.Aw.Nd->Bool} {n:Go.Aw.Nd} {ks:List Int} {P:Go.Aw.Nd->Go.Proofs.Z.Ad->Prop} {T:Go.Aw.Nd->Go.Aw.Nd->Prop}
namespace Go.Aw
open Go
section
variable {D:List Deferred} {P:Program} {T:List (Nat×Ty)} {C:FuncId->List V->St->(AA->St->Prop)->Prop} {I0 I:Mem} {st0 st:St} {w0 w:World} {β:Nat->Option Nat} {env:Env} {a:Act}
theorem V1 {J:Mem} {b:Nat}:∀{l:List V} {us:List Value} {o:Nat},Aj I l us->I.le J->(∀j c,us[j]? =some c->J.cell b (o+j)=some c)->CQ J b o l
 |[],us,o,h,hl,U=>trivial
 |v::r,us,o,h,hl,U=>by
  simp only [Aj] at h
  obtain ⟨c,s,rfl,h1,h2⟩:=h
  exact ⟨⟨c,U 0 c rfl,AK.mono hl _ _ h1⟩,V1 h2 hl λj c e=>by rw [show o+1+j=o+(j+1) by omega];exact U (j+1) c (by simpa using e)⟩
theorem SQ {c:Code} {Q:AH->Env->St->Prop} {env:Env} {st:St} (t id:Nat) (ht:env.get t=.BO id 0) (hb:assoc env.boxes id=some cs) (hn:Nr cs=true)
 (h:AW P c Q {env with tmps:=(t,.Gy cs 0)::IP id env.tmps,boxes:=Ht id env.boxes} st):AW P c Q env st:=
 Lj t id ht hb hn λb hf D I0 st0 w0 I β a w hr=>by
  obtain ⟨vs,hv,hl,hr'⟩:=hr.freeze (b:=b) (cs:=cs) (by simp [St.Aa])
  refine h D I0 st0 w0 _ β a w (Rel.Hn ⟨hr'.fr,hr'.s,{hr'.f with tmps:=?_}⟩ (St.YE hf.1))
  intro t' v e
  have h0:=λv e=>hr'.f.tmps t' v e
  have h1:=hr.f.tmps t (.ptr b 0) (by rw [Bj];simp)
  rw [Bj] at e
  cases U:Nat.beq t t' with
  |true=>
   rw [U] at e
   have:=Nat.eq_of_beq_eq_true U
   subst this
   simp only [cond_true,Option.some.injEq] at e
   subst e
   have h2:AK I (.ptr b 0) (a.tmps.getD t undef):=h1
   refine AZ.of ?_
   simp only [AK] at h2 |-
   exact ⟨b,0,h2,V1 hv hl λj c e=>by
    have:=Mem.Pp (I:=I) (b:=b) (h:=0) (n:=vs.length) e
    simp_all⟩
  |false=>
   rw [U] at e
   exact h0 v (by rw [Bj,U];exact e)
theorem je (hM:∀f args st (R R':AA->St->Prop),(∀r s,R r s->R' r s)->C f args st R->C f args st R')
 {Q:AH->Env->St->Prop} (hm:JE sched all=true)
 (h:Fv T C all sched L (Bg (L.map some) env.boxes) Q sched env st):
 (∀(bs:List Bool) (e:Env) (st1:St) (i:Nat) (o:Oper),bs.length=all.length->KY T C all sched st L (Bg (L.map some) env.boxes) Q env bs e st1->all[i]? =some o->Bx all bs i=true->
   Bf all o e (FI T C o e st1 (λv env' st'=>env'.go o.dst v λenv''=>KY T C all sched st L (Bg (L.map some) env.boxes) Q env (bs.set i true) env'' st') (λx _ s=>∀e',Q x e' s)) (e.go o.dst (.Bz []) λenv'=>KY T C all sched st L (Bg (L.map some) env.boxes) Q env (bs.set i true) env' st1))/\
 (∀(bs:List Bool) (e:Env) (st1:St),bs.length=all.length->KY T C all sched st L (Bg (L.map some) env.boxes) Q env bs e st1->bs=List.replicate all.length true\/∃j,j<all.length/\Bx all bs j=true)/\
 (∀(e:Env) (st1:St),KY T C all sched st L (Bg (L.map some) env.boxes) Q env (List.replicate all.length true) e st1->∃env',(e.eqv env'/\env'.boxes=e.boxes/\env'.gl=e.gl)/\Q .normal env' st1)/\
 KY T C all sched st L (Bg (L.map some) env.boxes) Q env (List.replicate all.length false) env st:=by
 have M:=Pm.of hm
 have hb0:∀id cs,assoc (Bg (L.map some) env.boxes) id=some cs->assoc env.boxes id=some cs/\id ∉ L:=λid cs e=>by
  obtain ⟨h1,h2⟩:=G0 e
  simp_all
 have hget:∀bs:List Bool,∀j,j<bs.length->bs.getD j true=bs.getD j false:=λbs j hj=>by simp_all
 have ready:∀{bs:List Bool} {i:Nat} {o:Oper},all[i]? =some o->bs.length=all.length->Bx all bs i=true->bs.getD i false=false/\∀x ∈ o.after,Region.binds .any x=true->bs.getD x.on false=true:=by
  intro bs i o ho hb hrd
  have hi:i<bs.length:=by rw [hb];exact (List.getElem?_eq_some_iff.1 ho).1
  unfold Bx at hrd
  rw [ho,hget bs i hi] at hrd
  simp only [Bool.and_eq_true,Bool.not_eq_true',List.all_eq_true] at hrd
  refine ⟨hrd.1,λx hx hb=>?_⟩
  have:=hrd.2 x kw
  rw [hb] at this
  simpa using this
 have listed:∀{bs:List Bool},(∀i o,all[i]? =some o->bs.getD i false=true->∀x ∈ o.after,Region.binds .any x=true->bs.getD x.on false=true)->
  ∀(n:Nat) {i j:Nat} {o:Oper},reaches all n i j=true->all[i]? =some o->(∀x ∈ o.after,Region.binds .any x=true->bs.getD x.on false=true)->bs.getD j false=true:=by
  intro bs cl n
  induction n with
  |zero=>intro i j o h;cases h
  |succ n ih=>
   intro i j o h ho ha
   rw [reaches,ho] at h
   simp only [Bool.or_eq_true,List.any_eq_true,Bool.and_eq_true] at h
   rcases h with ⟨x,h1,h2,h3⟩|⟨x,h1,⟨h2,h3⟩,h4⟩
   .have:=Nat.eq_of_beq_eq_true h3
    grind
   .have hx:=ha x kw h2
    cases hp:all[x.on]? with
    |none=>
     cases n with
     |zero=>cases h4
     |succ n=>rw [reaches,hp] at h4;cases h4
    |some p=>grind
 refine ⟨?_,?_,?_,?_⟩
 .intro bs e st1 i o hbl hinv ho hrd
  obtain ⟨vs,pre,post,Ef,F,hh⟩:=hinv
  obtain ⟨hbi,haft⟩:=ready ho hbl hrd
  have hil:i<bs.length:=by rw [hbl];exact (List.getElem?_eq_some_iff.1 ho).1
  have B7:∀{C1:List (Nat×Bool)} {q:Bool} {r:List (Nat×Bool)},sched=C1++(i,q)::r->∀t ∈ Oper.B7 all o,assoc e.tmps t=Gi all env.tmps vs (λk=>decide (k ∈ C1.map (·.1))) t:=by
   intro C1 q r hs t ht
   rw [F.tm]
   refine CN λk p hk hd=>⟨?_,λ_=>rfl⟩
   rcases Nat.lt_trichotomy k i with hki|rfl|hki
   .have h1:=M.lo i k o p t ho hk hd ht hki
    have h2:=listed F.cl _ h1 ho haft
    have h3:=M.ahead _ h1 _ _ _ hs
    grind
   .show bs.getD k false=decide (k ∈ C1.map (·.1))
    rw [hbi,decide_eq_false (M.nodup _ _ _ _ hs)]
   .have h1:=M.hi i k o p t ho hk hd ht hki
    show bs.getD k false=decide (k ∈ C1.map (·.1))
    have h2:bs.getD k false=false:=by
     cases hb:bs.getD k false with
     |false=>rfl
     |true=>have:=listed F.cl _ h1 hk (F.cl k p hk hb);grind
    have h3:k ∉ C1.map (·.1):=λhm=>by
     obtain ⟨x,hx,hxe⟩:=List.mem_map.1 hm
     obtain ⟨pa,ra,ea⟩:=List.append_of_mem hx
     have h4:=M.ahead _ h1 pa x.2 (ra++(i,q)::r) (by grind)
     exact M.nodup _ _ _ _ hs (by grind)
    grind
  have cl':∀k p,all[k]? =some p->(bs.set i true).getD k false=true->∀x ∈ p.after,Region.binds .any x=true->(bs.set i true).getD x.on false=true:=by
   intro k p hp hk x hx hb
   rw [EN hil] at hk |-
   split
   .rfl
   .split at hk
    .grind
    .exact F.cl k p hp hk x hx hb
  by_cases hmem:i ∈ pre.map (·.1)
  . 
   obtain ⟨⟨i',q⟩,hx,rfl⟩:=List.mem_map.1 hmem
   obtain ⟨C1,r,epre⟩:=List.append_of_mem hx
   cases q with
   |false=>have:=F.gK _ hx;grind
   |true=>
    have hs:sched=C1++(i',true)::(r++post):=by rw [F.split,epre];simp
    obtain ⟨hd,hy⟩:=F.hy C1 i' r o epre ho
    have hy:=hy e (B7 hs) F.n2 F.s2 F.g2
    obtain ⟨o',ho',U⟩:=M.kind _ _ _ _ hs
    have ho2:all[i']? =some o:=ho
    rw [ho2] at ho'
    cases ho'
    have U:ET o.op=true:=U
    have hqk:BL o.op=true:=by
     revert U
     cases o.op<;>simp [ET,BL]
    have step:e.go o.dst (vs i') (λe'=>KY T C all sched st L (Bg (L.map some) env.boxes) Q env (bs.set i' true) e' st1):=by
     refine N2 (λt ht=>by rw [F.s2];grind) ⟨vs,pre,post,Ef,⟨F.split,λj hj=>?_,λj hj=>?_,F.boxes,F.n1,F.n2,F.s1,F.s2,F.g1,F.g2,λt=>?_,F.tf,F.bx,F.go,F.sU,F.nJ,F.hy,cl'⟩,hh⟩
     .rw [EN hil] at hj
      split at hj
      .grind
      .exact F.sub j hj
     .rw [EN hil]
      split
      .rfl
      .exact F.gK j hj
     .have:=FY (S:=λj=>bs.getD j false) (S':=λj=>(bs.set i' true).getD j false) (v:=vs i') M.dst ho F.tm (λj hj=>by grind) (by grind) t
      refine this.trans (CN λk p _ _=>⟨rfl,λ_=>?_⟩)
      unfold NK
      grind
    refine Fs (λx=>?_) (λx=>?_) hy
    .have hbx:FZ sched all i'=true->e.boxes=env.boxes:=λhe=>F.nJ λk ok hk hok=>by
      unfold FZ at he
      have h1:=List.all_eq_true.1 he (k,false) (by grind)
      simp only [Bool.false_or,hok] at h1
      cases hst:CZ ok.op with
      |false=>rfl
      |true=>
       rw [hst] at h1
       simp only [Bool.not_true,Bool.false_or] at h1
       have:=listed F.cl _ h1 hok (F.cl k ok hok (F.gK k hk))
       grind
     rcases x with x|⟨he,x⟩|⟨he,x⟩
     .unfold Bi at x
      refine CT (T:=T) (C:=C) (env:=e.only (Bg (L.map some) env.boxes) (Oper.B7 all o)) (env':=e) (st:=JF) (st':=st1) hM hqk (.inr ⟨U,λ_=>rfl⟩) (FW λt _=>rfl) F.bx (λv s s' g k=>?_) (λ_ _ k=>k.elim) x
      grind
     .have hini:st1=st:=F.sU λk hk=>by
       unfold G2 at he
       have h1:=List.all_eq_true.1 he (k,false) (by grind)
       simp only [Bool.false_or] at h1
       have h2:=F.gK k hk
       cases hp:all[k]? with
       |none=>
        grind
       |some p=>
        have:=listed F.cl _ h1 hp (F.cl k p hp h2)
        grind
      subst hini
      unfold Bi at x
      have hb:=hbx (JY he)
      refine CT (T:=T) (C:=C) (env:=e.only env.boxes (Oper.B7 all o)) (env':=e) (st:=st1) (st':=st1) hM hqk (.inl rfl) (FW λt _=>rfl) (λid cs h=>by rw [hb];exact h) (λv s s' g k=>?_) (λ_ _ k=>k.elim) x
      grind
     .unfold Bi at x
      have hb:=hbx he
      refine CT (T:=T) (C:=C) (env:=e.only env.boxes (Oper.B7 all o)) (env':=e) (st:=JF) (st':=st1) hM hqk (.inr ⟨U,λ_=>rfl⟩) (FW λt _=>rfl) (λid cs h=>by rw [hb];exact h) (λv s s' g k=>?_) (λ_ _ k=>k.elim) x
      grind
    grind
  . 
   obtain ⟨x,hx,rfl⟩:=List.mem_map.1 (M.cover i (List.getElem?_eq_some_iff.1 ho).1)
   rw [F.split] at hx
   have hxp:x ∈ post:=by
    rcases List.mem_append.1 hx with g|g
    .grind
    .exact g
   cases post with
   |nil=>cases hxp
   |cons p r=>
    obtain ⟨k,q⟩:=p
    have hq:q=false:=hh _ _ rfl
    subst hq
    have hxe:x=(k,false):=by
     rcases List.mem_cons.1 hxp with g|g
     .exact g
     .have h1:=M.chain pre k r F.split x g
      have h2:=listed F.cl _ h1 ho haft
      exact absurd (F.sub k h2) (M.nodup _ _ _ _ F.split)
    subst hxe
    have ho:all[k]? =some o:=ho
    have hbi:bs.getD k false=false:=hbi
    have hil:k<bs.length:=hil
    have hmem:k ∉ pre.map (·.1):=hmem
    have hgo:=F.go
    rw [LA] at hgo
    simp only [ho] at hgo
    have ag:∀t ∈ Oper.B7 all o,assoc Ef.tmps t=assoc e.tmps t:=λt ht=>by rw [F.tf,B7 F.split t ht]
    have hag:=G3 (all:=all) (o:=o) ag
    have next:∀(v:V) (s:St) (B:List (Nat×List V)),(∀id cs,assoc (Bg (L.map some) env.boxes) id=some cs->assoc B id=some cs)->(CZ o.op=false->B=e.boxes)->
     Env.go {Ef with boxes:=B} o.dst v (λenv'=>Fv T C all sched L (Bg (L.map some) env.boxes) Q r env' s)->
     Env.go {e with boxes:=B} o.dst v (λe'=>KY T C all sched st L (Bg (L.map some) env.boxes) Q env (bs.set k true) e' s):=by
     intro v s B hB hBe hk
     obtain ⟨hd,hk⟩:=G5 hk
     have hd:∀t,o.dst=some t->t<Ef.sz:=hd
     have hmp:∀j,j≠k->(j ∈ (pre++[(k,false)]).map (·.1)↔j ∈ pre.map (·.1)):=λj hj=>by simp [hj]
     refine N2 (λt ht=>by show t<e.sz;rw [F.s2,<-F.s1];grind) (J6 M r (NK vs k v) (pre++[(k,false)]) {Ef with boxes:=B,tmps:=OG Ef.tmps o.dst v} ⟨by rw [F.split];simp,λj hj=>?_,λj hj=>?_,rfl,F.n1,F.n2,F.s1,F.s2,F.g1,F.g2,λt=>?_,λt=>?_,hB,hk,λhk=>absurd (List.mem_append_right _ List.mem_cons_self) (hk k),λhk=>(hBe (hk k o (List.mem_append_right _ List.mem_cons_self) ho)).trans (F.nJ λk o hm ho=>hk k o (List.mem_append_left _ hm) ho),λC1 j r' o' hs ho'=>?_,cl'⟩)
     .rw [EN hil] at hj
      rw [List.map_append]
      split at hj
      .grind
      .exact List.mem_append_left _ (F.sub j hj)
     .rw [EN hil]
      split
      .rfl
      .rename_i hne
       rcases List.mem_append.1 hj with g|g
       .exact F.gK j g
       grind
     .exact FY (S:=λj=>bs.getD j false) (S':=λj=>(bs.set k true).getD j false) M.dst ho F.tm (λj hj=>by grind) (by grind) t
     .exact FY (S':=λj=>decide (j ∈ (pre++[(k,false)]).map (·.1))) M.dst ho F.tf (λj hj=>by grind) GT t
     .rcases LI hs with ⟨rfl,e2⟩|⟨r2,e2⟩
      .cases e2
      .have hj:=F.hy C1 j r2 o' e2 ho'
       refine hj.NK (λe=>?_) (λhm=>hmem ?_)
       .grind
       grind
    have heE:∀(E:Env),{E with boxes:=E.boxes}=E:=λE=>rfl
    refine F6 ag (Fs (λx=>?_) (λx=>?_) hgo)
    .obtain ⟨x1,x⟩:=Ao.1 x
     obtain ⟨o',ho',U⟩:=M.kind _ _ _ _ F.split
     rw [ho] at ho'
     cases ho'
     have U:(BL o.op||CZ o.op)=true:=U
     cases hqk:BL o.op with
     |true=>
      refine CT (T:=T) (C:=C) (env:=Ef) (env':=e) (st:=st1) (st':=st1) hM hqk (.inl rfl) hag (λid cs hb=>by rw [<-F.boxes];exact hb) (λv s s' g hk=>?_) (λv s hk=>hk) x
      have:s'=s:=by rcases g with ⟨_,g⟩|⟨g1,g2⟩;exact g;rw [g1,g2]
      subst this
      have:=next v s' e.boxes F.bx (λ_=>rfl) (by rw [<-F.boxes];exact hk)
      omega
     |false=>
      rw [hqk] at U
      have hst:CZ o.op=true:=by simpa using U
      cases hop:o.op with
      |store t p y=>
       refine Kj (T:=T) (C:=C) hop x1 hag F.boxes (by rw [F.n1,F.n2]) (by rw [F.s1,F.s2]) (by rw [F.g1,F.g2]) (λs B hB hk=>?_) x
       refine next .BT s B (λid cs hb=>?_) (λh=>by grind) hk
       obtain ⟨_,h2⟩:=hb0 id cs hb
       exact hB id cs h2 (by rw [F.boxes];exact F.bx id cs hb)
      |_=>rw [hop] at hst;cases hst
    .have:=next (.Bz []) st1 e.boxes F.bx (λ_=>rfl) (by rw [<-F.boxes];exact x)
     omega
 .intro bs e st hbl hinv
  obtain ⟨vs,pre,post,Ef,F,hh⟩:=hinv
  by_cases hall:∀p ∈ sched,bs.getD p.1 false=true
  .left
   rw [List.eq_replicate_iff]
   refine ⟨hbl,λb hb=>?_⟩
   obtain ⟨j,hj,rfl⟩:=List.mem_iff_getElem.1 hb
   obtain ⟨p,hp,e⟩:=List.mem_map.1 (M.cover j AC)
   grind
  .right
   have hex:∃pr p po,sched=pr++p::po/\bs.getD p.1 false=false/\∀x ∈ pr,bs.getD x.1 false=true:=by
    clear F hh
    revert hall
    generalize sched=l
    intro hall
    induction l with
    |nil=>grind
    |cons x l ih=>
     cases hb:bs.getD x.1 false with
     |false=>exact ⟨[],x,l,rfl,hb,λy hy=>by cases hy⟩
     |true=>
      obtain ⟨pr,p,po,h1,h2,h3⟩:=ih λh=>hall λp hp=>by grind
      grind
   obtain ⟨pr,⟨k,q⟩,po,h1,h2,h3⟩:=hex
   obtain ⟨o,ho,_⟩:=M.kind _ _ _ _ h1
   have hk:k<all.length:=(List.getElem?_eq_some_iff.1 ho).1
   refine ⟨k,hk,?_⟩
   unfold Bx
   rw [ho,hget bs k AC,h2]
   simp only [Bool.not_false,Bool.true_and,List.all_eq_true]
   intro x hx
   cases hb:Region.binds .any x with
   |false=>rfl
   |true=>
    obtain ⟨y,hy,e⟩:=List.mem_map.1 (M.back _ _ _ _ o h1 ho x (by grind) hb)
    grind
 .intro e st hinv
  obtain ⟨vs,pre,post,Ef,F,hh⟩:=hinv
  have hp:post=[]:=by
   cases post with
   |nil=>rfl
   |cons p r=>
    obtain ⟨o,ho,_⟩:=M.kind _ _ _ _ F.split
    have:=F.sub p.1 (by grind)
    exact absurd this (M.nodup _ _ _ _ F.split)
  subst hp
  refine ⟨Ef,⟨⟨λt=>?_,λt=>by rw [F.boxes],by rw [F.n1,F.n2],by rw [F.s1,F.s2]⟩,F.boxes,by rw [F.g1,F.g2]⟩,F.go⟩
  rw [F.tm,F.tf]
  refine CN λk p hk _=>⟨?_,λ_=>rfl⟩
  have hlt:=(List.getElem?_eq_some_iff.1 hk).1
  have h1:(List.replicate all.length true).getD k false=true:=by rw [List.getD_eq_getElem?_getD,List.getElem?_replicate,if_pos hlt];rfl
  show (List.replicate all.length true).getD k false=decide (k ∈ pre.map (·.1))
  rw [h1,decide_eq_true (F.sub k h1)]
 .have hf:∀j,(List.replicate all.length false).getD j false=false:=λj=>by grind
  have h0:∀(vs:Nat->V) t,Gi all env.tmps vs (λj=>(List.replicate all.length false).getD j false) t=assoc env.tmps t:=λvs t=>by
   unfold Gi;grind
  refine J6 M sched (λ_=>.BT) [] env ⟨rfl,λj hj=>(by grind),λj hj=>(by cases hj),rfl,rfl,rfl,rfl,rfl,rfl,rfl,λt=>(h0 _ t).symm,λt=>?_,λid cs hb=>(hb0 id cs hb).1,h,λ_=>rfl,λ_=>rfl,λC1 j r o e=>(by cases C1<;>cases e),λi o ho hi=>(by grind)⟩
  unfold Gi
  grind
def OH (A:List Oper) (U os:Oper) (t:Nat):Bool:=
 U.after.toList.isEmpty&&(U.guard.isNone&&(os.guard.isNone&&(CZ os.op&&(A.all (λo=>o.guard.isNone&&(BL o.op&&(!(o.dst==some t)&&(!((Oper.B7 A o).contains t)&&o.after.toList.all λe=>Nat.blt e.on A.length))))&&
  ((List.range (A.length+1)).all (λi=>os.after.toList.any λe=>Nat.beq e.on i&&Region.binds .any e)&&os.after.toList.all λe=>Nat.ble e.on A.length)))))
def SZ (T:List (Nat×Ty)) (C:FuncId->List V->St->(AA->St->Prop)->Prop) (U os:Oper) (Q:AH->Env->St->Prop) (x:AH) (e:Env) (s:St):Prop:=match x with
 | .normal=>FI T C U e s (λv e s=>e.go U.dst v λe=>FI T C os e s (λv e s=>e.go os.dst v λe=>Q .normal e s) (λx _ s=>∀e',Q x e' s)) (λ_ _ _=>True)
 |x=>∀e',Q x e' s
structure sT (t:Nat) (z:List V) (e0 e:Env):Prop where
 boxes:e.boxes=(e0.Bm,z)::e0.boxes
 Bm:e.Bm=e0.Bm+1
 sz:e.sz=e0.sz
 gl:e.gl=e0.gl
 tm:∀s,assoc e.tmps s=if s=t then some (.BO e0.Bm 0) else assoc e0.tmps s
def uw (I:List Bool->Env->St->Prop) (n t:Nat) (z:List V) (Q:AH->Env->St->Prop) (bs:List Bool) (e:Env) (s:St):Prop:=∃U x y,bs=U++[x,y]/\U.length=n/\
 ((x=false/\y=false/\I U e s)\/(x=true/\y=false/\∃e0,I U e0 s/\sT t z e0 e)\/(x=true/\y=true/\U=List.replicate n true/\∃env',e.eqv env'/\Q .normal env' s))
theorem H8 {l r:List Bool} {d:Bool} (h:i<l.length):(l++r).getD i d=l.getD i d:=by
 rw [List.getD_eq_getElem?_getD,List.getD_eq_getElem?_getD,List.getElem?_append_left h]
theorem sT.get {t:Nat} {z:List V} {e0 e:Env} (h:sT t z e0 e) {s:Nat} (hs:s≠t):e0.get s=e.get s:=by
 unfold Env.get
 rw [h.tm,if_neg hs]
theorem sT.go {t:Nat} {z:List V} {e0 e:Env} (h:sT t z e0 e) {d:Option Nat} (hd:d≠some t) (v:V):sT t z {e0 with tmps:=OG e0.tmps d v} {e with tmps:=OG e.tmps d v}:=
 ⟨h.boxes,h.Bm,h.sz,h.gl,λs=>by
   show assoc (OG e.tmps d v) s=if s=t then some (.BO e0.Bm 0) else assoc (OG e0.tmps d v) s
   rw [DY,DY,h.tm]
   by_cases U:d=some s
   .rw [if_pos U,if_pos U,if_neg (λe=>hd (by rw [U,e]))]
   .rw [if_neg U,if_neg U]⟩
theorem KY.facts {sti:St} {b0:List (Nat×List V)} {Q:AH->Env->St->Prop} {U:Env} {bs:List Bool} {e:Env} {st:St} (hq:∀(k:Nat) (o:Oper),all[k]? =some o->CZ o.op=false) (h:KY T C all sched sti L b0 Q U bs e st):
 e.Bm=U.Bm/\e.sz=U.sz/\e.gl=U.gl/\e.boxes=U.boxes:=by
 obtain ⟨vs,pre,post,Ef,F,_⟩:=h
 exact ⟨F.n2,F.s2,F.g2,F.nJ λk o _ ho=>hq k o ho⟩
theorem RC {o:Op} (h:BL o=true):CZ o=false:=by
 cases o<;>first|rfl|cases h
theorem fx {U:Oper} {e:Env} {s:St} {K:V->Env->St->Prop} {Q:AH->Env->St->Prop} {z:Ty} (ho:U.op=.alloc ty) (hz:assoc T ty=some z):FI T C U e s K Q=Jb e s U.dst z.zero.cells K:=by
 simp only [FI,ho,hz]
theorem UH (hT:Gj P T) (hC:∀f args st R,C f args st R->CB P f args st R/\Plain P f) (hM:∀f args st (R R':AA->St->Prop),(∀r s,R r s->R' r s)->C f args st R->C f args st R')
 {A:List Oper} {oa os:Oper} {Q:AH->Env->St->Prop} {z:Ty} {t:Nat} (hm:JE sched A=true) (hk:OH A oa os t=true) (ho:oa.op=.alloc ty) (hd:oa.dst=some t) (hz:assoc T ty=some z) (hts:t<env.sz) (hgl:env.Oy (some t)=false)
 (h:Fv T C A sched L (Bg (L.map some) env.boxes) (SZ T C oa os Q) sched env st) (hr:Rel D I0 st0 w0 I β env st a w):
 wpAny P .any (A++[oa,os]).toArray (B6 D I0 st0 w0 Q) (A++[oa,os]).toArray.size (Array.replicate (A++[oa,os]).toArray.size false) a {w with drawn:=w.drawn+1}:=by
 obtain ⟨step,live,fin,start⟩:=je (T:=T) (C:=C) hM hm h
 have hr:=hr.IV (FL.drew w)
 generalize hI:KY T C A sched st L (Bg (L.map some) env.boxes) (SZ T C oa os Q) env=I0' at step live fin start
 unfold OH at hk
 simp only [Bool.and_eq_true,List.all_eq_true,List.any_eq_true,List.mem_range,Bool.not_eq_true'] at hk
 obtain ⟨k1,k2,k3,k4,k5,k6,k7⟩:=hk
 have hAo:∀(i:Nat) (o:Oper),A[i]? =some o->o.guard=none/\BL o.op=true/\o.dst≠some t/\t ∉ Oper.B7 A o/\∀e ∈ o.after.toList,e.on<A.length:=λi o hi=>by
  obtain ⟨h1,h2,h3,h4,h5⟩:=k5 o (List.mem_of_getElem? hi)
  refine ⟨by simpa using h1,h2,by simpa using h3,by simpa using h4,λe he=>?_⟩
  have:=h5 e he
  rw [Nat.blt_eq] at this;exact this
 have facts:∀{bs e s},I0' bs e s->e.Bm=env.Bm/\e.sz=env.sz/\e.gl=env.gl/\e.boxes=env.boxes:=λ{bs e s} hi=>by
  rw [<-hI] at hi
  exact KY.facts (λk o ho=>RC (hAo k o ho).2.1) hi
 have fresh:assoc env.boxes env.Bm=none:=by
  cases e:assoc env.boxes env.Bm with
  |none=>rfl
  |some cs=>
   obtain ⟨b,hb,_⟩:=hr.f.box _ _ e
   exact absurd (hr.f.Bm _ _ hb) (Nat.lt_irrefl _)
 have hga:oa.guard=none:=by simpa using k2
 have hgs:os.guard=none:=by simpa using k3
 have hla:(A++[oa,os]).length=A.length+2:=GT
 refine ZL hT hC (Inv:=uw I0' A.length t z.zero.cells Q) ?_ ?_ ?_ _ (List.replicate (A++[oa,os]).length false) _ _ β env st _ _ GT GT GT ?_ hr
 .rintro bs e s i o hbl ⟨bA,x,y,rfl,hlen,hc⟩ U hrd
  have rdA:i<A.length->Bx A bA i=true:=λhi=>by
   rw [List.getElem?_append_left hi] at U
   unfold Bx at hrd |-
   rw [List.getElem?_append_left hi,U] at hrd
   rw [U]
   rw [H8 AC] at hrd
   simp only [Bool.and_eq_true,List.all_eq_true] at hrd |-
   refine ⟨hrd.1,λe he=>?_⟩
   have:=hrd.2 e he
   rwa [H8 (by rw [hlen];exact (hAo i o U).2.2.2.2 e he)] at this
  rcases Nat.lt_trichotomy i A.length with hi|rfl|hi
  .have hrA:=rdA hi
   rw [List.getElem?_append_left hi] at U
   obtain ⟨g1,g2,g3,g4,g5⟩:=hAo i o U
   have hset:∀x y,(bA++[x,y]).set i true=bA.set i true++[x,y]:=λx y=>List.set_append_left _ _ AC
   have hls:(bA.set i true).length=A.length:=by simpa using hlen
   unfold Bf
   rw [g1]
   rcases hc with ⟨rfl,rfl,hc⟩|⟨rfl,rfl,e0,hc,ha⟩|⟨rfl,rfl,hc,_⟩
   .have:=step bA e s i o hlen hc U hrA
    unfold Bf at this
    rw [g1] at this
    refine CT (env:=e) (env':=e) (st:=s) (st':=s) hM g2 (.inl rfl) (λ_ _=>rfl) (λid cs h=>h) (λv s1 s2 g k=>?_) (λv s1 k=>k e e) this
    have hs:s2=s1:=by rcases g with ⟨_,g⟩|⟨g1,g2⟩;exact g;rw [g1,g2]
    subst hs
    obtain ⟨q1,q2⟩:=G5 k
    exact N2 q1 ⟨bA.set i true,false,false,hset _ _,hls,.inl ⟨rfl,rfl,q2⟩⟩
   .have:=step bA e0 s i o hlen hc U hrA
    unfold Bf at this
    rw [g1] at this
    have hf:=facts hc
    refine CT (env:=e0) (env':=e) (st:=s) (st':=s) hM g2 (.inl rfl) (λx hx=>?_) (λid cs h=>?_) (λv s1 s2 g k=>?_) (λv s1 k=>k e e) this
    .cases x with
     |tmp t'=>
      refine ha.get λe=>g4 ?_
      subst e
      exact List.mem_append.2 (.inl (List.mem_filterMap.2 ⟨.tmp t',hx,rfl⟩))
     |const v=>rfl
     |func f=>rfl
     |global g=>rfl
    .rw [ha.boxes,Bj]
     cases hb:Nat.beq e0.Bm id with
     |false=>exact h
     |true=>
      have:=Nat.eq_of_beq_eq_true hb
      subst this
      rw [hf.2.2.2,hf.1,fresh] at h
      cases h
    .have hs:s2=s1:=by rcases g with ⟨_,g⟩|⟨g1,g2⟩;exact g;rw [g1,g2]
     subst hs
     obtain ⟨q1,q2⟩:=G5 k
     exact N2 (λt' ht'=>by rw [ha.sz];exact q1 t' ht') ⟨bA.set i true,true,false,hset _ _,hls,.inr (.inl ⟨rfl,rfl,_,q2,ha.go g3 v⟩)⟩
   .unfold Bx at hrA
    rw [hc,List.getD_eq_getElem?_getD,List.getElem?_replicate,if_pos hi] at hrA
    simp at hrA
  .have hoo:o=oa:=by
    rw [List.getElem?_append_right (Nat.le_refl _),Nat.sub_self] at U
    simpa using U.symm
   subst hoo
   have hx:x=false:=by
    unfold Bx at hrd
    rw [List.getD_eq_getElem?_getD,List.getElem?_append_right AC,hlen,Nat.sub_self] at hrd
    cases x with
    |false=>rfl
    |true=>simp at hrd
   subst hx
   rcases hc with ⟨_,rfl,hc⟩|⟨hc,_⟩|⟨hc,_⟩
   .have hf:=facts hc
    unfold Bf
    rw [hga]
    have hg2:e.Oy o.dst=false:=by
     rw [hd]
     unfold Env.Oy at hgl |-
     rw [hf.2.2.1];exact hgl
    simp only [FI,ho,hz]
    unfold Jb
    rw [hg2]
    refine Bh.2 ?_
    refine N2 (λt' ht'=>?_) ⟨bA,true,false,?_,hlen,.inr (.inl ⟨rfl,rfl,e,hc,⟨rfl,rfl,rfl,rfl,λs'=>?_⟩⟩)⟩
    .rw [hd] at ht'
     cases ht'
     show t<e.sz
     rw [hf.2.1];exact hts
    .rw [List.set_append_right _ _ AC,hlen,Nat.sub_self];rfl
    .show assoc (OG e.tmps o.dst (.BO e.Bm 0)) s'=_
     rw [DY,hd]
     by_cases h1:s'=t
     .rw [if_pos (by rw [h1]),if_pos h1]
     .rw [if_neg (λe=>h1 (Option.some.inj e).symm),if_neg h1]
   .cases hc
   .cases hc
  .have hi2:i=A.length+1:=by
    have:=(List.getElem?_eq_some_iff.1 U).1
    omega
   subst hi2
   have hoo:o=os:=by
    rw [List.getElem?_append_right AC,show A.length+1 - A.length=1 by omega] at U
    simpa using U.symm
   subst hoo
   unfold Bx at hrd
   rw [U] at hrd
   simp only [Bool.and_eq_true,List.all_eq_true,Bool.not_eq_true'] at hrd
   obtain ⟨r1,r2⟩:=hrd
   have hon:∀j,j<A.length+1->(bA++[x,y]).getD j false=true:=λj hj=>by
    obtain ⟨e',he',hb⟩:=k6 j hj
    have h1:=r2 e' he'
    rw [Nat.eq_of_beq_eq_true hb.1,hb.2] at h1
    simpa using h1
   have hy:y=false:=by
    rw [List.getD_eq_getElem?_getD,List.getElem?_append_right AC,hlen,show A.length+1 - A.length=1 by omega] at r1
    simpa using r1
   have hx:x=true:=by
    have:=hon A.length AC
    rw [List.getD_eq_getElem?_getD,List.getElem?_append_right AC,hlen,Nat.sub_self] at this
    simpa using this
   have hbA:bA=List.replicate A.length true:=by
    rw [List.eq_replicate_iff]
    refine ⟨hlen,λb hb=>?_⟩
    obtain ⟨j,hj,rfl⟩:=List.mem_iff_getElem.1 hb
    have:=hon j AC
    rw [H8 hj,List.getD_eq_getElem?_getD,List.getElem?_eq_getElem hj] at this
    simpa using this
   subst hy;subst hx
   rcases hc with ⟨hc,_⟩|⟨_,_,e0,hc,ha⟩|⟨_,hc,_⟩
   .cases hc
   .rw [hbA] at hc
    obtain ⟨env',⟨q1,q2,q3⟩,q4⟩:=fin e0 s hc
    have hf:=facts hc
    have q4:FI T C oa env' s (λv e s=>e.go oa.dst v λe=>FI T C o e s (λv e s=>e.go o.dst v λe=>Q .normal e s) (λx _ s=>∀e',Q x e' s)) (λ_ _ _=>True):=q4
    have hg2:env'.Oy oa.dst=false:=by
     rw [hd]
     unfold Env.Oy at hgl |-
     rw [q3,hf.2.2.1];exact hgl
    rw [fx ho hz] at q4
    unfold Jb at q4
    rw [hg2] at q4
    obtain ⟨_,q5⟩:=G5 (Bh.1 q4)
    unfold Bf
    rw [hgs]
    have tmq:∀s',assoc (OG env'.tmps oa.dst (.BO env'.Bm 0)) s'=assoc e.tmps s':=λs'=>by
     rw [DY,hd,<-q1.tmps,<-q1.Bm,ha.tm]
     by_cases h1:s'=t
     .rw [if_pos (by rw [h1]),if_pos h1]
     .rw [if_neg (λe=>h1 (Option.some.inj e).symm),if_neg h1]
    have ev:∀x:Operand,Env.eval ⟨OG env'.tmps oa.dst (.BO env'.Bm 0),(env'.Bm,z.zero.cells)::env'.boxes,env'.Bm+1,env'.sz,env'.gl⟩ x=e.eval x:=λx=>by
     cases x with
     |tmp t'=>
      have:=tmq t'
      show Env.get _ t'=e.get t'
      unfold Env.get
      dsimp only
      rw [this]
     |const v=>rfl
     |func f=>rfl
     |global g=>rfl
    cases hop:o.op with
    |store ty' px vx=>
     obtain ⟨L',hL'⟩:∃L',Iv L' ⟨OG env'.tmps oa.dst (.BO env'.Bm 0),(env'.Bm,z.zero.cells)::env'.boxes,env'.Bm+1,env'.sz,env'.gl⟩ o=true:=by
      unfold Iv
      rw [hop]
      dsimp only
      cases hv:Env.eval ⟨OG env'.tmps oa.dst (.BO env'.Bm 0),(env'.Bm,z.zero.cells)::env'.boxes,env'.Bm+1,env'.sz,env'.gl⟩ px with
      |BO id off=>exact ⟨[id],GT⟩
      |_=>exact ⟨[],rfl⟩
     refine Kj (T:=T) (C:=C) hop hL' (λx _=>ev x) (by rw [ha.boxes,q2,<-q1.Bm]) (by rw [ha.Bm,<-q1.Bm]) (by rw [ha.sz,<-q1.sz]) (by rw [ha.gl,q3]) (λs' B hB hk=>?_) q5
     obtain ⟨p1,p2⟩:=G5 hk
     refine N2 (λt' ht'=>by have:=p1 t' ht';rw [show ({e with boxes:=B}:Env).sz=e.sz from rfl,ha.sz,q1.sz];exact this) ⟨bA,true,true,?_,hlen,.inr (.inr ⟨rfl,rfl,hbA,⟨OG (OG env'.tmps oa.dst (.BO env'.Bm 0)) o.dst .BT,B,env'.Bm+1,env'.sz,env'.gl⟩,⟨λs''=>?_,λ_=>rfl,?_,?_⟩,p2⟩)⟩
     .rw [List.set_append_right _ _ AC,hlen,show A.length+1 - A.length=1 by omega];rfl
     .show assoc (OG e.tmps o.dst .BT) s''=assoc (OG (OG env'.tmps oa.dst (.BO env'.Bm 0)) o.dst .BT) s''
      rw [DY,DY (ts:=OG env'.tmps oa.dst (.BO env'.Bm 0)),tmq]
     .show e.Bm=env'.Bm+1
      rw [ha.Bm,q1.Bm]
     .show e.sz=env'.sz
      rw [ha.sz,q1.sz]
    |_=>rw [hop] at k4;cases k4
   .cases hc
 .rintro bs e s hbl ⟨bA,x,y,rfl,hlen,hc⟩
  have lift:∀{j:Nat} {x y:Bool},j<A.length->Bx A bA j=true->Bx (A++[oa,os]) (bA++[x,y]) j=true:=λ{j x y} hj hq=>by
   unfold Bx at hq |-
   rw [H8 AC,List.getElem?_append_left hj]
   have hoj:A[j]? =some A[j]:=List.getElem?_eq_getElem hj
   rw [hoj] at hq |-
   simp only [Bool.and_eq_true,List.all_eq_true] at hq |-
   refine ⟨hq.1,λe he=>?_⟩
   rw [H8 (by rw [hlen];exact (hAo j _ hoj).2.2.2.2 e he)]
   exact hq.2 e he
  rcases hc with ⟨rfl,rfl,hc⟩|⟨rfl,rfl,e0,hc,ha⟩|⟨rfl,rfl,hc,_⟩
  .refine .inr ⟨A.length,AC,?_⟩
   unfold Bx
   rw [List.getElem?_append_right (Nat.le_refl _),Nat.sub_self,List.getD_eq_getElem?_getD,List.getElem?_append_right AC,hlen,Nat.sub_self]
   have:oa.after.toList=[]:=by simpa using k1
   simp [this]
  .rcases live bA e0 s hlen hc with h1|⟨j,h1,h2⟩
   .refine .inr ⟨A.length+1,AC,?_⟩
    unfold Bx
    rw [List.getElem?_append_right AC,List.getD_eq_getElem?_getD,List.getElem?_append_right AC,hlen,show A.length+1 - A.length=1 by omega]
    rw [Bool.and_eq_true]
    refine ⟨rfl,?_⟩
    show (os.after.toList.all λe=> !(Region.binds .any e)||(bA++[true,false]).getD e.on false)=true
    rw [List.all_eq_true]
    intro e he
    have hle:e.on<=A.length:=Nat.le_of_ble_eq_true (k7 e he)
    rw [Bool.or_eq_true]
    refine .inr ?_
    rcases Nat.lt_or_eq_of_le hle with h2|h2
    .rw [H8 AC,h1,List.getD_eq_getElem?_getD,List.getElem?_replicate,if_pos h2];rfl
    .rw [List.getD_eq_getElem?_getD,List.getElem?_append_right AC,h2,hlen,Nat.sub_self];rfl
   .exact .inr ⟨j,AC,lift h1 h2⟩
  .refine .inl ?_
   rw [hc,hla,List.replicate_succ',List.replicate_succ',List.append_assoc]
   rfl
 .rintro e s ⟨bA,x,y,hbs,hlen,hc⟩
  have hlast:(bA++[x,y]).getD A.length false=true/\(bA++[x,y]).getD (A.length+1) false=true:=by
   rw [<-hbs,List.getD_eq_getElem?_getD,List.getD_eq_getElem?_getD,List.getElem?_replicate,List.getElem?_replicate,if_pos AC,if_pos AC]
   exact ⟨rfl,rfl⟩
  have hy:y=true:=by
   have:=hlast.2
   rw [List.getD_eq_getElem?_getD,List.getElem?_append_right AC,hlen,show A.length+1 - A.length=1 by omega] at this
   simpa using this
  rcases hc with ⟨_,hc,_⟩|⟨_,hc,_⟩|⟨_,_,_,h1⟩
  .rw [hy] at hc;cases hc
  .rw [hy] at hc;cases hc
  .exact h1
 .refine ⟨List.replicate A.length false,false,false,?_,GT,.inl ⟨rfl,rfl,start⟩⟩
  rw [hla,List.replicate_succ',List.replicate_succ',List.append_assoc]
  rfl
theorem fF (hP:SS P T) (hC:∀f args st R,C f args st R->CB P f args st R/\Plain P f) (hM:∀f args st (R R':AA->St->Prop),(∀r s,R r s->R' r s)->C f args st R->C f args st R') {Q:AH->Env->St->Prop}
 (A:List Oper) (U os:Oper) (sched:List (Nat×Bool)) (L:List Nat) {z:Ty} {t:Nat} (he:ops=(A++[U,os]).toArray) (hm:JE sched A=true) (hk:OH A U os t=true) (ho:U.op=.alloc ty) (hd:U.dst=some t) (hz:assoc T ty=some z) (hts:t<env.sz) (hgl:env.Oy (some t)=false)
 (h:Fv T C A sched L (Bg (L.map some) env.boxes) (SZ T C U os Q) sched env st):AW P (.region id ops true) Q env st:=λD I0 st0 w0 I β a w hr=>
 wp_region_any hP.m (by
  subst he
  exact UH hP.t hC hM hm hk ho hd hz hts hgl h hr)
theorem cd (hP:SS P T) (hC:∀f args st R,C f args st R->CB P f args st R/\Plain P f) (hM:∀f args st (R R':AA->St->Prop),(∀r s,R r s->R' r s)->C f args st R->C f args st R') {Q:AH->Env->St->Prop}
 (k t:Nat) (sched:List (Nat×Bool)) (L:List Nat) {U os:Oper} {z:Ty} (h1:ops.toList[k]? =some U) (h2:ops.toList[k+1]? =some os) (h3:ops.toList.length=k+2) (hm:JE sched (ops.toList.take k)=true) (hk:OH (ops.toList.take k) U os t=true) (ho:U.op=.alloc ty) (hd:U.dst=some t) (hz:assoc T ty=some z) (hts:t<env.sz) (hgl:env.Oy (some t)=false)
 (h:Fv T C (ops.toList.take k) sched L (Bg (L.map some) env.boxes) (SZ T C U os Q) sched env st):AW P (.region id ops true) Q env st:=by
 refine fF hP hC hM _ U os sched L (by
  have e1:ops.toList.drop k=[U,os]:=by
   obtain ⟨g1,g2⟩:=List.getElem?_eq_some_iff.1 h1
   obtain ⟨g3,g4⟩:=List.getElem?_eq_some_iff.1 h2
   rw [List.drop_eq_getElem_cons g1,g2,List.drop_eq_getElem_cons g3,g4,List.drop_eq_nil_of_le AC]
  rw [<-e1,List.take_append_drop]) hm hk ho hd hz hts hgl h
end
end Go.Aw
namespace Go.Proofs.Z
open Go Go.Aw
structure qN (f:FuncId) (mk:Nat->V->List V) (A:List Nd->Rd (List Nd×Nd)):Prop where
 ap:∀{st0:St} {b:Nat} {s:Ad} {st:St} {rows:List (AJ×List Nd)} {K:AA->St->Prop} {own:AJ} {l:List Nd},l.length<=90000000->Cx st0 b s st ((own,l)::rows)->
 Rd.wp (A l) s (λp s'=>∀own' st',Cx st0 b s' st' ((own',p.1++[p.2])::rows)->K (.ret (.slice 6 ((p.1++[p.2]).map AP) own')) st') (λe s'=>∀st',Cy st0 b s' st' rows->K (.B0 (fault e.1)) st')->PC f (mk b (.slice 6 (l.map AP) own)) st K
theorem qN.go {A:List Nd->Rd (List Nd×Nd)} {st:St} {Q:List Nd×Nd->Ad->Prop} {own:AJ} (hf:qN f mk A) (hl:l.length<=90000000) (hc:Cx st0 b s st ((own,l)::rows)) (h:Rd.wp (A l) s Q E)
 (k:∀l' x U s' st',(A l).run s=.inr ((l',x),s')->mu s'<=mu s->Cx st0 b s' st' ((U,l'++[x])::rows)->Q (l',x) s'->K (.ret (.slice 6 ((l'++[x]).map AP) U)) st') (kb:∀e s' st',Cy st0 b s' st' rows->E e s'->K (.B0 (fault e.1)) st'):PC f (mk b (.slice 6 (l.map AP) own)) st K:=
 hf.ap hl hc (Rd.wp_mono h (λv s' r q own st' c=>k v.1 v.2 own s' st' r ((A l).le _ _ _ r) c q) (λe s' _ q st' c=>kb e s' st' c q))
theorem D7 {x:Nd} {Q:List V->Prop} (k:Q (AP x)):0<=(((l++[x]).length:Nat):Int) - 1/\∃e,((l++[x]).map AP)[((((l++[x]).length:Nat):Int) - 1).toNat]? =some e/\Q e:=
 ⟨by rw [List.length_append];show (0:Int)<=((l.length+1:Nat):Int) - 1;omega,AP x,by
   rw [show ((((l++[x]).length:Nat):Int) - 1).toNat=l.length by rw [List.length_append];show (((l.length+1:Nat):Int) - 1).toNat=_;omega,List.map_append,List.getElem?_append_right (by rw [List.length_map];exact Nat.le_refl _),List.length_map,Nat.sub_self]
   rfl,k⟩
theorem Ia {R:Rd Nd} {p:List Nd×Nd} (h:(JB R l).run s=.inr (p,s')):p.1.length<=l.length+2:=by
 unfold JB at h
 obtain ⟨r,s1,_,h⟩:=AO h
 replace h:(if AU s1 10 [61,62]=true then Rd.seq Ay λa=>.seq R λq=>.ret (l++[r]++[a],q) else .ret (l,r):Rd (List Nd×Nd)).run s1=.inr (p,s'):=h
 split at h
 .obtain ⟨a,s2,_,h⟩:=AO h
  obtain ⟨q,U,_,h⟩:=AO h
  cases h
  simp
 .cases h;exact Nat.le_add_right _ _
section
variable {st0 st:St} {b d:Nat} {s:Ad} {rows:List (AJ×List Nd)} {K:AA->St->Prop} {A B R W F D E:Rd Nd}
attribute [local irreducible] Go.Aw.Ah
theorem MV (hr:AV enc 158 (λb=>[pv b d]) R):qN 162 (λb v=>[pv b d,v]) (JB R):=by
 refine ⟨λ{st0 b s st rows K own l} hl hc h=>?_⟩
 simp only [JB,Rd.Al,Rd.AD,Rd.wp_seq,Rd.wp_ret] at h
 have U:=hc.mu
 refine pB Tryz.func162 ?_
 repeat' ((conv=>whnf);(first|refine A6 ?_|refine A7 ?_ ?_|refine A8 ?_ ?_|refine UD ?_ ?_|refine M1 ?_|refine RI ?_ ?_|refine JK ?_|refine Jx ?_ ?_|exact Ga|refine Rn ?_|refine Ac ?_|refine FG.go (by first|exact AV.q|exact ‹_›.a) ?_ ?_)<;>intros)
theorem DX {own:AJ} (h:K (.ret (.bool (DV n ks))) st):PC 166 [enc n,.slice 1 (ints ks) own] st K:=by
 refine pB Tryz.func166 ?_
 repeat' ((conv=>whnf);(first|refine A6 ?_|refine A7 ?_ ?_|refine A8 ?_ ?_|refine NW ?_)<;>intros)
 all_goals conv=>whnf
 all_goals (refine At h ?_;clear h;simp_all [DV])
theorem Re (U:AV enc 365 (λb=>[pv b d]) A):AV enc 300 (λb=>[pv b d]) (Js A):=by
 refine ⟨λ{st0 b s st rows K} hc h=>?_⟩
 simp only [Js,Rd.wp_seq,Rd.wp_ret] at h
 refine pB Tryz.func300 ?_
 repeat' ((conv=>whnf);(first|exact CU|refine A6 ?_|(refine CV ?_ ?_ ?_;rotate_left)|refine A7 ?_ ?_|refine A8 ?_ ?_|refine JK ?_|refine Jx ?_ ?_|exact Ga|refine Ro ?_|refine Ac ?_|refine FG.go (by first|exact AV.q) ?_ ?_|refine Af [(0,true),(1,true),(3,true),(2,false),(4,false),(5,true),(6,false),(7,false)] [1] GE ?_|with_reducible refine WF ?_)<;>intros)
theorem pd (hc:Cx st0 b s st rows) (h:∀st',Cx st0 b s st' rows->K (.ret (.bool (Kk (Ab s).1))) st'):PC 299 [pv b d] st K:=by
 refine pB Tryz.func299 ?_
 repeat' ((conv=>whnf);(first|refine A6 ?_|refine A7 ?_ ?_|refine A8 ?_ ?_|refine M1 ?_|exact Ga|refine Ac ?_)<;>intros)
 all_goals conv=>whnf
 all_goals (refine At (h _ ‹_›) ?_;clear h;simp_all [Kk])
theorem MW (h:K (.ret (.bool (FT n))) st):PC 222 [enc n] st K:=by
 refine pB Tryz.func222 ?_
 repeat' ((conv=>whnf);(first|refine A6 ?_|refine A7 ?_ ?_|refine A8 ?_ ?_|refine DX (ks:=[2]) ?_|refine DX (ks:=[6]) ?_)<;>intros)
 all_goals conv=>whnf
 all_goals (refine At h ?_;clear h;simp_all [FT])
theorem eQ (h:K (.ret (.bool (Gt t))) st):PC 70 [Fl t] st K:=by
 refine pB Tryz.func70 ?_
 repeat' ((conv=>whnf);(first|refine A6 ?_|refine A7 ?_ ?_|refine A8 ?_ ?_|refine L1 ?_|refine Ts ?_)<;>intros)
 all_goals conv=>whnf
 all_goals (refine At h ?_;clear h;simp_all [Gt])
theorem lJ (ha:AV enc 365 (λb=>[pv b d]) A):AV enc 298 (λb=>[pv b d]) (Ju A):=by
 refine ⟨λ{st0 b s st rows K} hc h=>?_⟩
 simp only [Ju,Rd.Al,Rd.AD] at h
 have U:=hc.mu
 refine pB Tryz.func298 ?_
 repeat' ((conv=>whnf);(first|refine A6 ?_|refine A7 ?_ ?_|refine A8 ?_ ?_|refine M1 ?_|refine RI ?_ ?_|exact Ga|refine Ac ?_|refine FG.go (by first|exact AV.q|exact (Re ha).a|exact (Hi (ks:=[6]) rfl).a) ?_ ?_|refine Pv (Cx.has ‹_›) ?_ ?_|refine oM ‹_› ‹_› Do ?_|refine F5 ‹_› U ?_)<;>intros)
theorem lI:AV enc 225 (λb=>[pv b d]) Q9:=by
 refine ⟨λ{st0 b s st rows K} hc h=>?_⟩
 simp only [Q9,Rd.Al,Rd.AD,Rd.wp_seq,Rd.wp_ret,Rd.GX] at h
 have hmu:=hc.mu
 refine A5 Ae [] Tryz.func225 rfl Do rfl ?_
 refine Ak (An Ae ?_)
 repeat' ((conv=>whnf);(first|exact CU|refine A6 ?_|(refine CV ?_ ?_ ?_;rotate_left)|refine A7 ?_ ?_|refine A8 ?_ ?_|with_reducible refine WF ?_)<;>intros)
 refine Ak (An Ae ?_)
 repeat' ((conv=>whnf);first|refine GQ h (λe h=>?_) (λe h=>?_)|exact CU|(refine A6 ?_;intros)|(refine CV ?_ ?_ ?_;rotate_left)|(refine A7 ?_ ?_<;>intro e h)|(refine A8 ?_ ?_<;>intro _)|(refine M1 ?_;intro U hc)|(refine JK ?_;intro s1 U hz hm hc h)|(refine Jx ?_ ?_<;>(first|intro n s1 U hr hm hc h|intro e s1 U hc h))|refine Cd ?_|exact Ga|refine Ro ?_|refine Ac (λe1=>?_)|with_reducible refine WF ?_)
 refine Ak (An Ae ?_)
 repeat' ((conv=>whnf);first|exact CU|(refine A6 ?_;intros)|(refine CV ?_ ?_ ?_;rotate_left)|(refine A7 ?_ ?_<;>intro e h)|(refine A8 ?_ ?_<;>intro _)|(refine M1 ?_;intro U hc)|(refine JK ?_;intro s1 U hz hm hc h)|(refine Jx ?_ ?_<;>(first|intro n s1 U hr hm hc h|intro e s1 U hc h))|refine Cd ?_|exact Ga|refine Ro ?_|refine Ac (λe1=>?_)|refine Pv hc.has ?_ (λt u o1 o2 e=>?_)|with_reducible refine WF ?_)
 all_goals refine Ak (An Ae ?_)
 all_goals (repeat' ((conv=>whnf);first|exact CU|(refine A6 ?_;intros)|(refine CV ?_ ?_ ?_;rotate_left)|(refine A7 ?_ ?_<;>intro e h)|(refine A8 ?_ ?_<;>intro _)|(refine M1 ?_;intro U hc)|(refine JK ?_;intro s1 U hz hm hc h)|(refine Jx ?_ ?_<;>(first|intro n s1 U hr hm hc h|intro e s1 U hc h))|refine Cd ?_|exact Ga|refine Ro ?_|refine Ac (λe1=>?_)|with_reducible refine WF ?_))
 all_goals refine Ak (cd Ae (Cb _) (λ_ _ _ _ _ h k=>k.mono h) 10 5 [(0,true),(1,true),(2,true),(3,true),(5,true),(6,true),(4,false),(7,false),(8,true),(9,false)] [] rfl rfl rfl EQ EQ rfl rfl rfl (Nat.le_of_ble_eq_true rfl) rfl ?_)
 all_goals (repeat' ((conv=>whnf);first|exact CU|(refine A6 ?_;intros)|(refine CV ?_ ?_ ?_;rotate_left)|(refine A7 ?_ ?_<;>intro e h)|(refine A8 ?_ ?_<;>intro _)|(refine M1 ?_;intro U hc)|(refine JK ?_;intro s1 U hz hm hc h)|(refine Jx ?_ ?_<;>(first|intro n s1 U hr hm hc h|intro e s1 U hc h))|refine Cd ?_|exact Ga|refine Ro ?_|refine Ac (λe1=>?_)|refine AV.go (Eo (ks:=[1,2,3,4]) rfl) hc h (λn s1 U hr hm hc h=>?_) (λe s1 U hc h=>?_)|fail|with_reducible refine WF ?_))
 all_goals refine An Ae ?_
 all_goals (repeat' ((conv=>whnf);first|refine GQ h (λe h=>?_) (λe h=>?_)|exact CU|(refine A6 ?_;intros)|(refine CV ?_ ?_ ?_;rotate_left)|(refine A7 ?_ ?_<;>intro e h)|(refine A8 ?_ ?_<;>intro _)|(refine M1 ?_;intro U hc)|(refine JK ?_;intro s1 U hz hm hc h)|(refine Jx ?_ ?_<;>(first|intro n s1 U hr hm hc h|intro e s1 U hc h))|refine Cd ?_|exact Ga|refine Ro ?_|refine Ac (λe1=>?_)|refine Wm (ks:=[_,_,_]) rfl AC ?_|refine F5 hc hmu (λU hc=>?_)|refine Cd ?_|fail|with_reducible refine WF ?_))
structure XQ (f:FuncId) (mk:Nat->V->List V) (A:List Nd->Rd Nd):Prop where
 ap:∀{st0:St} {b:Nat} {s:Ad} {st:St} {rows:List (AJ×List Nd)} {K:AA->St->Prop} {own:AJ} {l:List Nd},l.length<=900000000->Cx st0 b s st ((own,l)::rows)->
 Rd.wp (A l) s (λv s'=>∀st',Cx st0 b s' st' rows->K (.ret (enc v)) st') (λe s'=>∀st',Cy st0 b s' st' rows->K (.B0 (fault e.1)) st')->PC f (mk b (.slice 6 (l.map AP) own)) st K
theorem XQ.go {A:List Nd->Rd Nd} {st:St} {Q:Nd->Ad->Prop} {E:Er->Ad->Prop} {own:AJ} (U:XQ f mk A) (hl:l.length<=900000000) (hc:Cx st0 b s st ((own,l)::rows)) (h:Rd.wp (A l) s Q E)
 (k:∀v s' st',(A l).run s=.inr (v,s')->mu s'<=mu s->Cx st0 b s' st' rows->Q v s'->K (.ret (enc v)) st') (kb:∀e s' st',Cy st0 b s' st' rows->E e s'->K (.B0 (fault e.1)) st'):PC f (mk b (.slice 6 (l.map AP) own)) st K:=
 U.ap hl hc (Rd.wp_mono h (λv s' r q st' c=>k v s' st' r ((A l).le _ _ _ r) c q) (λe s' _ q st' c=>kb e s' st' c q))
theorem Om (hd:AV enc 226 (λb=>[pv b d]) GS):XQ 164 (λb v=>[pv b d,.int .i64 k,v]) (H0 k):=by
 refine ⟨λ{st0 b s st rows K own l} hl hc h=>?_⟩
 simp only [H0,Rd.Al,Rd.AD,Rd.wp_seq,Rd.wp_ret] at h
 have U:=hc.mu
 refine pB Tryz.func164 ?_
 repeat' ((conv=>whnf);(first|refine A6 ?_|refine A7 ?_ ?_|refine A8 ?_ ?_|refine M1 ?_|refine RI ?_ ?_|exact Ga|refine Ro ?_|refine Rn ?_|refine Ac ?_|refine FG.go (by first|exact AV.q) ?_ ?_)<;>intros)
theorem XC (hr:AV enc 158 (λb=>[pv b d]) R) (hw:AV enc 161 (λb=>[pv b d]) W) (hs:∀{n:Nd} {st:St} {K:AA->St->Prop},K (.ret (.bool (DP n))) st->PC 160 [enc n] st K):
 AV enc 87 (λb=>[pv b d]) (Iy R W):=by
 refine ⟨λ{st0 b s st rows K} hc h=>?_⟩
 simp only [Iy,Rd.wp_seq,Rd.wp_ret] at h
 have U:=hc.mu
 refine pB Tryz.func87 ?_
 repeat' ((conv=>whnf);(first|exact CU|refine A6 ?_|(refine CV ?_ ?_ ?_;rotate_left)|refine A7 ?_ ?_|refine A8 ?_ ?_|refine JK ?_|refine Jx ?_ ?_|exact Ga|refine Ro ?_|refine Rn ?_|refine Ac ?_|refine FG.go (by first|exact AV.q|exact ‹_›.a) ?_ ?_|refine hs ?_|refine Dr ‹_› ‹_› ?_|refine Dq ‹_› ‹_› ?_|refine XY AC rfl ?_|refine Cx.Hj (l:=[_,_]) (Cx.push ‹_› _) (Nat.le_of_ble_eq_true rfl) ?_|refine Af [(0,true),(1,true),(3,true),(2,false),(4,false),(5,true),(6,true)] [] GE ?_|refine Af [(0,true),(1,true),(2,true),(3,true),(4,false),(5,false)] [] GE ?_|with_reducible refine WF ?_)<;>intros)
end
theorem Rd.di {σ β:Type} {body:σ->Rd (Sum σ β)} {I:σ->Prop} {P:β->Prop} (h1:∀x s x' s',I x->(body x).run s=.inr (.inl x',s')->I x') (h2:∀x s y s',I x->(body x).run s=.inr (.inr y,s')->P y) (x:σ) (s:Ad) (hx:I x):∀y s',(Rd.loop body x).run s=.inr (y,s')->P y:=by
 show ∀y s',Rd.iter body x s=.inr (y,s')->P y
 fun_induction Rd.iter body x s with
 |case1 x s e h=>intro y s' U;cases U
 |case2 x s y s1 h=>intro y s' U;cases U;exact h2 _ _ _ _ hx h
 |case3 x s x' s1 h hlt ih=>exact ih (h1 _ _ _ _ hx h)
 |case4 x s x' s1 h hlt=>intro y s' U;cases U
theorem VV {A:Rd Nd} (h:(Ka A).run s=.inr (l,s')):l≠[]:=by
 unfold Ka at h
 obtain ⟨n,s1,_,h⟩:=AO h
 refine Rd.di (body:=Y3 A) (I:=λl=>l≠[]) (P:=λl=>l≠[]) (λx s x' s' U h=>?_) (λx s y s' U h=>?_) [n] s1 GT l s' h
 all_goals replace h:(if Kk (Ab s).1=true then Rd.seq (Ju A) λn=>.ret (.inl (x++[n])) else .ret (.inr x):Rd (Sum (List Nd) (List Nd))).run s=.inr (_,s'):=h
 all_goals split at h
 .obtain ⟨n,s2,_,h⟩:=AO h;cases h;simp
 .cases h
 .obtain ⟨n,s2,_,h⟩:=AO h;cases h
 .cases h;exact U
theorem nM (h:AU s k x=true) (U:k≠21):(Ab s).1.kind≠21:=λe=>by
 unfold AU at h
 rw [e] at h
 simp only [Bool.and_eq_true,beq_iff_eq] at h
 exact U h.1.symm
theorem Yn {A:Rd Nd} (U:Rd.AR A):Rd.AR (Ju A):=Rd.AR.look λs v s' h=>by
 split at h
 .rename_i hi
  exact Rd.AR.at (λ_ _ e=>Hf e (nM hi Do)) h
 split at h
 .split at h
  .exact Rd.AR.seq (Lr Do) s v s' h
  .exact U _ _ _ h
 .exact U _ _ _ h
theorem qg (h:l≠[]):∃x,l[((0:Int)).toNat]? =some x/\l.headD Hz=x:=by
 cases l with
 |nil=>exact absurd rfl h
 |cons x r=>exact ⟨x,rfl,rfl⟩
section
variable {st0 st:St} {b d:Nat} {s:Ad} {rows:List (AJ×List Nd)} {K:AA->St->Prop} {A B R W F D E:Rd Nd}
attribute [local irreducible] Go.Aw.Ah
abbrev tT (l:List Nd) (own:AJ):V:=.slice 6 (l.map AP) own
theorem SL (hA:Rd.AR A) (hp:AV enc 298 (λb=>[pv b d]) (Ju A)):pW tT (λl=>l) 221 (λb=>[pv b d]) (Ka A):=by
 refine ⟨λ{st0 b s st rows K} hc h=>?_⟩
 simp only [Ka,Rd.wp_seq] at h
 have hmu:=hc.mu
 refine pB Tryz.func221 ?_
 repeat' ((conv=>whnf);(first|refine A6 ?_|refine A7 ?_ ?_|refine A8 ?_ ?_|refine UD ?_ ?_|exact Ga|refine Rn ?_|refine Ac ?_|refine FG.go (by first|exact AV.q) ?_ ?_)<;>intros)
 refine Cm (λl own=>[(3,.slice 6 (l.map AP) own)]) (λ_ _=>[]) [1] [0] (λl own=>(own,l)::rows) (λl=>l.length) .full (Cx.push ‹_› _) ‹_› (by show 1+_<=_;omega) Yl ?_
 intro l s1 st1 U hc h hl hm1
 simp only [Y3,Rd.Al,Rd.AD,Rd.wp_seq,Rd.wp_ret,Rd.Br] at h
 repeat' ((conv=>whnf);(first|refine A6 ?_|refine A7 ?_ ?_|refine A8 ?_ ?_|refine UD ?_ ?_|exact Ga|refine Rn ?_|refine Ac ?_|refine pd ‹_› ?_|refine AV.qf (hp) (Yn hA) ‹_› ‹_› ?_ ?_)<;>intros)
theorem Iz {item:Rd Nd} {fs:List V} {own:AJ} {Q:List Nd->Ad->Prop} {E:Er->Ad->Prop} (hi:s8 st0 b g (fs++cs) item) (hl:l.length<=90000000) (hc:Cx st0 b s st ((own,l)::rows)) (h:Rd.wp (D2 item x l) s Q E)
 (k:∀l' U s' st',mu s'<=mu s->Cx st0 b s' st' ((U,l')::rows)->Q l' s'->K (.ret (.slice 6 (l'.map AP) U)) st') (kb:∀e s' st',Cy st0 b s' st' rows->E e s'->K (.B0 (fault e.1)) st'):
 PC 170 [pv b d,.slice 6 (l.map AP) own,.str x,.func g fs cs] st K:=by
 replace h:=Rd.wp_mono (Q':=λl' s'=>∀U st',Cx st0 b s' st' ((U,l')::rows)->K (.ret (.slice 6 (l'.map AP) U)) st') (E':=λe s'=>∀st',Cy st0 b s' st' rows->K (.B0 (fault e.1)) st') h (λv s' r q own st' c=>k v own s' st' ((D2 item x l).le _ _ _ r) c q) (λe s' _ q st' c=>kb e s' st' c q)
 clear k kb
 simp only [D2,Rd.wp_seq,Rd.wp_ret] at h
 have hmu:=hc.mu
 refine pB Tryz.func170 ?_
 repeat' ((conv=>whnf);(first|refine A6 ?_|refine A7 ?_ ?_|refine A8 ?_ ?_|refine UD ?_ ?_|fail)<;>intros)
 refine Cm (x0:=(true,l)) (λ(p:Bool×List Nd) own=>[(9,.bool p.1),(1,.slice 6 (p.2.map AP) own)]) (λ_ _=>[]) [2,3,4] [0] (λp own=>(own,p.2)::rows) (λp=>p.2.length) own ‹_› ‹_› bl Yl ?_
 intro p s1 st1 own1 hc h hl hm1
 obtain ⟨f,l⟩:=p
 dsimp only at hc hl
 simp only [X7,Rd.Al,Rd.AD,Rd.wp_seq,Rd.wp_ret,Rd.Br] at h
 cases f
 all_goals simp only [Bool.false_eq_true,if_false,if_true] at h
 all_goals (repeat' ((conv=>whnf);first|(refine A6 ?_;intros)|(refine A7 ?_ ?_<;>intro e h)|(refine A8 ?_ ?_<;>intro _)|refine UD (λ_=>?_) ?_|exact ⟨⟨(false,_),_,_,_⟩,⟨hc,Rd.EK h f7,f9,f7⟩,f7,Yl,St.le_refl _⟩|(refine M1 ?_;intro st1 hc)|(refine RI ?_ ?_<;>intro st1 hc e h)|(refine JK ?_;intro s1 st1 hz hm hc h)|(refine Jx ?_ ?_<;>(first|intro n s1 st1 hr hm hc h|intro e s1 st1 hc h))|exact Ga|(refine Rn ?_;intro own1 st1 hc)|refine Ac (λe1=>?_)|refine Mi ?_|refine s8.go hi hc h (λn s1 st1 hm hc h=>?_) (λe s1 st1 hc h=>?_)))
end
theorem cv {A W:Rd Nd} (h:(Hs A W).run s=.inr (n,s')):n.kids≠[]:=by
 have hB:∀{l:List Nd} {s:Ad},l≠[]->(IL A l).run s=.inr (n,s')->n.kids≠[]:=λ{l s} hl h=>by
  have hC:(Hr A l).run s=.inr (n,s')->n.kids≠[]:=λh=>by
   obtain ⟨a,s1,_,h⟩:=AO h
   obtain ⟨o,s2,_,h⟩:=AO h
   obtain ⟨r,s3,_,h⟩:=AO h
   obtain ⟨c,s4,_,h⟩:=AO h
   cases h;simp [Aq,Nd.kids]
  replace h:(if ((Ab s).1.kind==6)=true then Hr A l else if AU s 15 [96]=true then Hr A l else .seq (Gs (FT (l.headD Hz))) λ_=>.ret (Aq 48 l):Rd Nd).run s=.inr (n,s'):=h
  split at h
  .exact hC h
  .split at h
   .exact hC h
   .obtain ⟨a,s1,_,h⟩:=AO h
    cases h;exact hl
 obtain ⟨l,s1,h1,h⟩:=AO h
 have hl:=VV h1
 split at h
 .replace h:(if AU s1 15 [123]=true then Rd.seq Ay λo=>.seq (D2 (KU A W) [125] (l++[o])) λl=>.ret (Aq 48 l) else IL A l:Rd Nd).run s1=.inr (n,s'):=h
  split at h
  .obtain ⟨o,s2,_,h⟩:=AO h
   obtain ⟨l2,s3,U,h⟩:=AO h
   obtain ⟨l3,s4,_,U⟩:=AO U
   obtain ⟨c,s5,_,U⟩:=AO U
   cases U;cases h
   simp [Aq,Nd.kids]
  .exact hB hl h
 .exact hB hl h
section
variable {st0 st:St} {b d c:Nat} {s:Ad} {rows:List (AJ×List Nd)} {K:AA->St->Prop} {A B R W F D E:Rd Nd}
attribute [local irreducible] Go.Aw.Ah
theorem eH (hs:AV enc 300 (λb=>[pv b d]) (Js A)) (hw:AV enc 161 (λb=>[pv b d]) W):AV enc 223 (λb=>[pv b d]) (KU A W):=by
 refine ⟨λ{st0 b s st rows K} hc h=>?_⟩
 simp only [KU,Rd.Al,Rd.AD,Rd.wp_seq,Rd.wp_ret] at h
 have hmu:=hc.mu
 refine pB Tryz.func223 ?_
 repeat' ((conv=>whnf);(first|refine A6 ?_|refine A7 ?_ ?_|refine A8 ?_ ?_|refine M1 ?_|refine RI ?_ ?_|refine JK ?_|refine Jx ?_ ?_|exact Ga|refine Ro ?_|refine Rn ?_|refine Ac ?_|refine FG.go (by first|exact AV.q|exact NI.a) ?_ ?_)<;>intros)
 refine Cm (λl own=>[(3,.slice 6 (l.map AP) own)]) (λ_ _=>[]) [1,2] [0,1] (λl own=>(own,l)::rows) (λl=>l.length) .full (Cx.push ‹_› _) ‹_› (by show 1+_<=_;omega) Yl ?_
 intro l s1 st1 U hc h hl hm1
 simp only [il,Rd.Al,Rd.AD,Rd.wp_seq,Rd.wp_ret,Rd.Br] at h
 repeat' ((conv=>whnf);(first|refine A6 ?_|refine A7 ?_ ?_|refine A8 ?_ ?_|refine M1 ?_|refine RI ?_ ?_|refine JK ?_|refine Jx ?_ ?_|exact Ga|refine Ro ?_|refine Rn ?_|refine Ac ?_|refine FG.go (by first|exact AV.q|exact NI.a) ?_ ?_)<;>intros)
abbrev tO (b d:Nat):V:=.Gy [.ptr b 0,.int .i64 (d:Int)] 0
theorem Ma:AV enc 302 (λb=>[tO b d]) (Di [2,4]):=by
 refine ⟨λ{st0 b s st rows K} hc h=>?_⟩
 refine pB Tryz.func302 ?_
 repeat' ((conv=>whnf);(first|refine A6 ?_|refine A7 ?_ ?_|refine A8 ?_ ?_|exact Ga|refine Ac ?_|refine FG.go (by first|exact AV.q|exact (Eo (ks:=[2,4]) rfl).a) ?_ ?_)<;>intros)
theorem MU:AV enc 226 (λb=>[pv b d]) GS:=by
 refine ⟨λ{st0 b s st rows K} hc h=>?_⟩
 simp only [GS,Rd.Al,Rd.AD,Rd.wp_seq,Rd.wp_ret] at h
 have hmu:=hc.mu
 refine A5 Ae [] Tryz.func226 rfl Do rfl ?_
 refine Ak (An Ae ?_)
 repeat' ((conv=>whnf);(first|exact CU|refine A6 ?_|(refine CV ?_ ?_ ?_;rotate_left)|refine A7 ?_ ?_|refine A8 ?_ ?_|with_reducible refine WF ?_)<;>intros)
 refine Ak (An Ae ?_)
 repeat' ((conv=>whnf);first|exact CU|(refine A6 ?_;intros)|(refine CV ?_ ?_ ?_;rotate_left)|(refine A7 ?_ ?_<;>intro e h)|(refine A8 ?_ ?_<;>intro _)|refine GJ.go hc h (λo s1 U hr hm hc h=>?_) (λe s1 U hc h=>?_)|exact BP hc h|with_reducible refine WF ?_)
 refine SQ 1 0 rfl rfl rfl ?_
 refine An Ae ?_
 repeat' ((conv=>whnf);(first|exact CU|refine A6 ?_|(refine CV ?_ ?_ ?_;rotate_left)|refine A7 ?_ ?_|refine A8 ?_ ?_|refine M1 ?_|refine RI ?_ ?_|refine JK ?_|refine Jx ?_ ?_|exact Ga|refine Ro ?_|refine Rn ?_|refine Ac ?_|refine FG.go (by first|exact AV.q|exact Ma.a) ?_ ?_|refine Mi ?_|refine Iz (l:=[_,_]) (fs:=[]) (cs:=[tO b d]) Ma.z (Nat.le_of_ble_eq_true rfl) ‹_› ‹_› ?_ ?_|refine Cx.Hj (l:=[_]) (Cx.push ‹_› [_]) (Nat.le_of_ble_eq_true rfl) ?_|refine Af [(0,true),(1,true),(2,true),(3,true),(7,true),(4,false),(5,true),(6,false),(8,false),(9,false),(10,false)] [1] GE ?_|with_reducible refine WF ?_)<;>intros)
theorem sN {own:AJ} (U:∀x ∈ l,CR f p x) (h:K (.ret (.bool (l.any p))) st):PC 229 [.slice 6 (l.map AP) own,.func f [] []] st K:=
 Il (args':=[.slice 6 (Ck l) .any,.func f [] []]) (by rw [<-BR];rfl) (Jz U h)
theorem oL {x:Nd}:CR 301 EA x:=by
 intro st R h
 refine pB Tryz.func301 ?_
 repeat' ((conv=>whnf);(first|refine A6 ?_|refine A7 ?_ ?_|refine A8 ?_ ?_|fail)<;>intros)
 all_goals conv=>whnf
 all_goals (refine At h ?_;clear h;simp_all [EA])
theorem pA {own:AJ} {Q:Nd->Ad->Prop} {E:Er->Ad->Prop} (hc:Cx st0 b s st ((own,l)::rows)) (h:Rd.wp (Sw l) s Q E)
 (k:∀v st',Cx st0 b s st' rows->Q v s->K (.ret (enc v)) st') (kb:∀e st',Cy st0 b s st' rows->E e s->K (.B0 (fault e.1)) st'):PC 224 [pv b d,.slice 6 (l.map AP) own] st K:=by
 refine pB Tryz.func224 ?_
 unfold Sw at h
 by_cases U:l.length=1
 .have hn:(l.length:Int)=1:=AC
  obtain ⟨x,rfl⟩:=List.length_eq_one_iff.1 U
  rw [if_pos U,Rd.wp_ret] at h
  have h:=k _ st hc.drop h
  repeat' ((conv=>whnf);(first|exact CU|refine A6 ?_|(refine CV ?_ ?_ ?_;rotate_left)|refine A7 ?_ ?_|refine A8 ?_ ?_|refine BV (l:=[x]) ?_|refine XY AC rfl ?_|with_reducible refine WF ?_)<;>intros)
  all_goals exact BJ rfl h
 .have hn:¬(l.length:Int)=1:=AC
  rw [if_neg U,Rd.wp_seq] at h
  simp only [Rd.wp_ret] at h
  repeat' ((conv=>whnf);first|exact CU|(refine A6 ?_;intros)|(refine CV ?_ ?_ ?_;rotate_left)|(refine A7 ?_ ?_<;>intro e h)|(refine A8 ?_ ?_<;>intro _)|refine BV (l:=l) (λ_=>?_)|refine sN (l:=l) (λx hx=>oL) ?_|refine Dr h (by simp only [show l.any EA=false by assumption,Bool.not_false]) (λh=>?_)|refine Dq h (by simp only [show l.any EA=true by assumption,Bool.not_true]) (λh=>?_)|refine KV (l:=l) ?_|exact BJ rfl (k _ _ hc.drop h)|exact λe'=>⟨_,_,.inl rfl,St.le_refl _,kb _ _ hc.drop.y h⟩|refine Af [(0,true),(1,true),(2,false),(3,true),(4,false)] [] GE ?_|with_reducible refine WF ?_)
theorem Zt (hA:Rd.AR A) (hp:AV enc 298 (λb=>[pv b d]) (Ju A)) (hf:AV enc 223 (λb=>[pv b d]) (KU A W)):AV enc 163 (λb=>[pv b d]) (Hs A W):=by
 refine ⟨λ{st0 b s st rows K} hc h=>?_⟩
 have hmu:=hc.mu
 simp only [Hs,IL,Hr,Rd.Al,Rd.AD,Rd.wp_seq,Rd.wp_ret] at h
 refine A5 Ae [] Tryz.func163 rfl Do rfl ?_
 refine Ak (An Ae ?_)
 repeat' ((conv=>whnf);(first|exact CU|refine A6 ?_|(refine CV ?_ ?_ ?_;rotate_left)|refine A7 ?_ ?_|refine A8 ?_ ?_|with_reducible refine WF ?_)<;>intros)
 refine Ak (An Ae ?_)
 repeat' ((conv=>whnf);first|exact CU|(refine A6 ?_;intros)|(refine CV ?_ ?_ ?_;rotate_left)|(refine A7 ?_ ?_<;>intro e h)|(refine A8 ?_ ?_<;>intro _)|refine pW.go (SL hA hp) hc h (λl own1 s1 st1 hr hm hc h=>?_) (λe s1 st1 hc h=>?_)|exact BP hc h|with_reducible refine WF ?_)
 obtain ⟨x,hx,hd⟩:=qg (VV hr)
 rw [hd] at h
 refine An Ae ?_
 have e2:(l.length==1)=true↔(l.length:Int)=1:=by rw [beq_iff_eq];omega
 have hB:((l.length:Int)=1/\FT x=true/\AU s1 15 [123]=true)\/((l.length:Int)=1/\FT x=true/\AU s1 15 [123]=false)\/((l.length:Int)=1/\FT x=false)\/¬((l.length:Int)=1):=by
  by_cases e:(l.length:Int)=1
  .cases FT x<;>cases AU s1 15 [123]<;>simp [e]
  .simp [e]
 have e3:¬((l.length:Int)=1)->(l.length==1)=false:=λe=>by
  cases e4:l.length==1 with
  |true=>exact absurd (e2.1 e4) e
  |false=>rfl
 rcases hB with ⟨U,em,eb⟩|hB
 .simp only [e2.2 U,em,eb,Bool.and_self,if_true] at h
  repeat' ((conv=>whnf);(first|exact CU|refine A6 ?_|(refine CV ?_ ?_ ?_;rotate_left)|refine A7 ?_ ?_|refine A8 ?_ ?_|refine M1 ?_|refine RI ?_ ?_|refine JK ?_|refine Jx ?_ ?_|exact Ga|refine Ro ?_|refine Rn ?_|refine BV ?_|refine Ac ?_|refine BV (l:=l) ?_|refine U3 (es:=l.map AP) (x:=AP x) (by rw [List.getElem?_map,hx]<;>rfl) AC ?_|refine MW ?_|refine Iz (l:=l++[_]) (fs:=[pv b d]) (cs:=[]) hf.z UV ‹_› ‹_› ?_ ?_|refine Af [(0,true),(1,true),(2,true),(3,true),(7,true),(8,true),(4,false),(5,true),(6,false),(9,false),(10,false),(11,false)] [1] GE ?_|refine Af [(0,true),(1,true),(2,true),(3,true),(4,false),(5,false)] [] GE ?_|refine Af [(0,true),(1,true),(2,true),(3,true),(4,false),(5,false),(6,true),(7,false),(8,false)] [1] GE ?_|with_reducible refine WF ?_)<;>intros)
 cases e6:((Ab s1).1.kind==6)
 all_goals cases e9:AU s1 15 [96]
 all_goals (simp only [e6,e9,if_true,Bool.false_eq_true,if_false] at h)
 all_goals rcases hB with ⟨U,em,eb⟩|⟨U,em⟩|U
 all_goals first
  |simp only [e2.2 U,em,eb,Bool.and_self,Bool.true_and,Bool.false_eq_true,if_true,if_false] at h
  |simp only [e2.2 U,em,Bool.true_and,Bool.false_eq_true,if_false] at h
  |simp only [e3 U,Bool.false_and,Bool.false_eq_true,if_false] at h
 all_goals (repeat' ((conv=>whnf);(first|exact CU|refine A6 ?_|(refine CV ?_ ?_ ?_;rotate_left)|refine A7 ?_ ?_|refine A8 ?_ ?_|refine M1 ?_|refine RI ?_ ?_|refine JK ?_|refine Jx ?_ ?_|exact Ga|refine Ro ?_|refine Rn ?_|refine BV ?_|refine Ac ?_|refine BV (l:=l) ?_|refine U3 (es:=l.map AP) (x:=AP x) (by rw [List.getElem?_map,hx]<;>rfl) AC ?_|refine MW ?_|refine pA ‹_› ‹_› ?_ ?_|refine FG.go (by first|exact AV.q|exact lI.a) ?_ ?_|refine pW.go (SL hA hp) ‹_› ‹_› ?_ ?_|refine Dr ‹_› ‹_› ?_|refine Dq ‹_› ‹_› ?_|refine Dr ‹_› rfl ?_|refine Dq ‹_› rfl ?_|refine Af [(0,true),(1,true),(2,true),(3,true),(7,true),(8,true),(4,false),(5,true),(6,false),(9,false),(10,false),(11,false)] [1] GE ?_|refine Af [(0,true),(1,true),(2,true),(3,true),(4,false),(5,false)] [] GE ?_|refine Af [(0,true),(1,true),(2,true),(3,true),(4,false),(5,false),(6,true),(7,false),(8,false)] [1] GE ?_|with_reducible refine WF ?_)<;>intros))
end
def QI (n:Nd):Nat->Bool
 |0=>DP n
 |k+1=>(n.kids.drop (k+1)).all (DV · [1])
theorem Ub {k:Nat}:QI n (k+1)=(n.kids.drop (k+1)).all (DV · [1]):=rfl
theorem Fm {x:Nd} {K:Int->Prop} (h:l.length<=90000000) (k:K (((l++[x]).length:Int) - 1)):∃r,r=IntKind.i64.wrap (((l++[x]).length:Int) - 1)/\K r:=
 Wq (by rw [List.length_append];show _<=((l.length+1:Nat):Int) - 1;omega) (by rw [List.length_append];show ((l.length+1:Nat):Int) - 1<=_;omega) k
theorem nI {R:Rd Nd} {p:List Nd×Nd} (h:(JB R [n]).run s=.inr (p,s')):p.1.length<=90000000:=Nat.le_trans (Ia h) (Nat.le_of_ble_eq_true rfl)
theorem iB {R:Rd Nd} {p:List Nd×Nd} {x y z:Nd} (h:(JB R [n]).run s=.inr (p,s')):(p.1++[x]++[y]++[z]).length<=900000000:=by
 have U:p.1.length<=3:=Ia h
 rw [List.length_append,List.length_append,List.length_append]
 show p.1.length+1+1+1<=_
 omega
theorem UX {k:Nat} {x:Nd} (h:l[k]? =some x):l.drop k=x::l.drop (k+1):=by
 obtain ⟨U,h2⟩:=List.getElem?_eq_some_iff.1 h
 rw [<-h2,List.drop_eq_getElem_cons U]
section
variable {st0 st:St} {b d c:Nat} {s:Ad} {rows:List (AJ×List Nd)} {K:AA->St->Prop} {A B R W F D E:Rd Nd}
attribute [local irreducible] Go.Aw.Ah
theorem NH {st:St} (h:K (.ret (.bool (DP n))) st):PC 160 [enc n] st K:=by
 refine pB Tryz.func160 ?_
 by_cases hk:n.kind=39
 .skip
  repeat' ((conv=>whnf);(first|refine A6 ?_|refine A7 ?_ ?_|refine A8 ?_ ?_|fail)<;>intros)
  refine Ly 14 [12,13] n.kids.length (λk=>k<=n.kids.length/\DP n=QI n k) ⟨Nat.zero_le _,rfl⟩ Yl ?_
  rintro k ⟨hk1,hi⟩
  by_cases hlt:k<n.kids.length
  .obtain ⟨x,hx⟩:∃x,n.kids[(k:Int).toNat]? =some x:=⟨_,List.getElem?_eq_getElem hlt⟩
   have hdr:=UX (show n.kids[k]? =some x from hx)
   by_cases h0:k=0
   .subst h0
    have hz:((0:Nat):Int)=0:=rfl
    have e:DP n=(DV x [2]&&QI n 1):=by
     unfold DP QI
     rw [hk,beq_self_eq_true,if_pos rfl]
     cases hkk:n.kids with
     |nil=>rw [hkk] at hx;cases hx
     |cons y r=>rw [hkk] at hx;cases hx;simp
    cases hb:DV x [2] with
    |true=>
     have U:∀{st:St} {K:AA->St->Prop} {own:AJ},K (.ret (.bool true)) st->PC 166 [enc x,.slice 1 [[.int .i64 2]] own] st K:=λh=>DX (ks:=[2]) (by rw [hb];exact h)
     repeat' ((conv=>whnf);first|(refine A6 ?_;intros)|(refine A7 ?_ ?_<;>intro e h)|(refine A8 ?_ ?_<;>intro _)|refine U ?_)
     all_goals conv=>whnf
     all_goals exact ⟨1,⟨hlt,by rw [e,hb,Bool.true_and]⟩,Nat.sub_lt_sub_left hlt (Nat.lt_succ_self 0),Yl,St.le_refl _⟩
    |false=>
     have U:∀{st:St} {K:AA->St->Prop} {own:AJ},K (.ret (.bool false)) st->PC 166 [enc x,.slice 1 [[.int .i64 2]] own] st K:=λh=>DX (ks:=[2]) (by rw [hb];exact h)
     rw [e,hb,Bool.false_and] at h
     repeat' ((conv=>whnf);first|(refine A6 ?_;intros)|(refine A7 ?_ ?_<;>intro e h)|(refine A8 ?_ ?_<;>intro _)|refine U ?_)
     all_goals exact BJ rfl h
   .have e:QI n k=(DV x [1]&&QI n (k+1)):=by
     obtain ⟨j,rfl⟩:∃j,k=j+1:=⟨k - 1,AC⟩
     rw [Ub,Ub,hdr,List.all_cons]
    have hpos:(k:Int)>0:=AC
    cases hb:DV x [1] with
    |true=>
     have U:∀{st:St} {K:AA->St->Prop} {own:AJ},K (.ret (.bool true)) st->PC 166 [enc x,.slice 1 [[.int .i64 1]] own] st K:=λh=>DX (ks:=[1]) (by rw [hb];exact h)
     repeat' ((conv=>whnf);first|(refine A6 ?_;intros)|(refine A7 ?_ ?_<;>intro e h)|(refine A8 ?_ ?_<;>intro _)|refine U ?_)
     all_goals conv=>whnf
     all_goals exact ⟨k+1,⟨hlt,by rw [hi,e,hb,Bool.true_and]⟩,Nat.sub_lt_sub_left hlt (Nat.lt_succ_self k),Yl,St.le_refl _⟩
    |false=>
     have U:∀{st:St} {K:AA->St->Prop} {own:AJ},K (.ret (.bool false)) st->PC 166 [enc x,.slice 1 [[.int .i64 1]] own] st K:=λh=>DX (ks:=[1]) (by rw [hb];exact h)
     rw [hi,e,hb,Bool.false_and] at h
     repeat' ((conv=>whnf);first|(refine A6 ?_;intros)|(refine A7 ?_ ?_<;>intro e h)|(refine A8 ?_ ?_<;>intro _)|refine U ?_)
     all_goals exact BJ rfl h
  .have hk2:k=n.kids.length:=AC
   have h1:DP n=true:=by
    rw [hi]
    cases k with
    |zero=>
     have h2:n.kids=[]:=List.length_eq_zero_iff.1 hk2.symm
     unfold QI DP
     rw [hk,h2];rfl
    |succ k=>rw [Ub,List.drop_eq_nil_of_le AC];rfl
   rw [h1] at h
   repeat' ((conv=>whnf);first|(refine A6 ?_;intros)|(refine A7 ?_ ?_<;>intro e h)|(refine A8 ?_ ?_<;>intro _)|fail)
   all_goals exact BJ rfl h
 .have e:DP n=DV n [2]:=by
   unfold DP
   rw [if_neg (by rw [beq_iff_eq];exact hk)]
  rw [e] at h
  repeat' ((conv=>whnf);first|(refine A6 ?_;intros)|(refine A7 ?_ ?_<;>intro e h)|(refine A8 ?_ ?_<;>intro _)|refine DX (ks:=[2]) ?_)
  all_goals conv=>whnf
  all_goals (refine At h ?_;clear h;simp_all)
theorem lr (hc1:AV enc 163 (λb=>[pv b d]) (Hs A W)) (hr1:AV enc 158 (λb=>[pv b d]) R):AV enc 88 (λb=>[pv b d]) (RT A R W):=by
 refine ⟨λ{st0 b s st rows K} hc h=>?_⟩
 simp only [RT,Rd.wp_seq] at h
 have hmu:=hc.mu
 refine pB Tryz.func88 ?_
 repeat' ((conv=>whnf);first|exact CU|(refine A6 ?_;intros)|(refine CV ?_ ?_ ?_;rotate_left)|(refine A7 ?_ ?_<;>intro e h)|(refine A8 ?_ ?_<;>intro _)|(refine M1 ?_;intro U hc)|(refine RI ?_ ?_<;>intro U hc e h)|(refine JK ?_;intro s1 U hz hm hc h)|(refine Jx ?_ ?_<;>(first|intro n s1 U hr hm hc h|intro e s1 U hc h))|exact Ga|(refine Rn ?_;intro own1 U hc)|refine BV (λ_=>?_)|refine Ac (λe1=>?_)|refine qN.go (l:=[_]) (MV hr1) (Nat.le_of_ble_eq_true rfl) (hc.push _) h (λl x own1 s1 U hh hm hc h=>?_) (λe s1 U hc h=>?_)|refine D7 ?_|refine Fm (nI hh) ?_|refine NH ?_|refine Dr h ‹_› (λh=>?_)|refine Dq h ‹_› (λh=>?_)|refine Af [(0,true),(1,true),(2,true),(3,false),(4,true),(5,false),(6,true)] [] GE ?_|refine Af [(0,true),(1,true),(2,true),(3,true),(4,true),(5,true),(6,true),(7,false),(8,false)] [] GE ?_|with_reducible refine WF ?_)
 have hl2:l.length<=3:=Ia hh
 refine Cm (x0:=([61],l++[x])) (λ(p:List UInt8×List Nd) own=>[(4,.str p.1),(3,.slice 6 (p.2.map AP) own)]) (λ_ _=>[]) [1,2] [0,1] (λp own=>(own,p.2)::rows) (λp=>p.2.length) _ ‹_› ‹_› (by dsimp only;simp only [List.length_append,List.length_cons,List.length_nil];omega) Yl ?_
 intro p s1 U own1 hc h hl hm1
 obtain ⟨x,l⟩:=p
 dsimp only at hc hl
 simp only [p9,Rd.Al,Rd.AD,Rd.wp_seq,Rd.wp_ret,Rd.Br] at h
 repeat' ((conv=>whnf);first|exact CU|(refine A6 ?_;intros)|(refine CV ?_ ?_ ?_;rotate_left)|(refine A7 ?_ ?_<;>intro e h)|(refine A8 ?_ ?_<;>intro _)|exact ⟨⟨(_,_),_,_,_⟩,⟨hc,Rd.EK h f7,f9,f7⟩,f7,Yl,St.le_refl _⟩|(refine M1 ?_;intro U hc)|(refine RI ?_ ?_<;>intro U hc e h)|(refine JK ?_;intro s1 U hz hm hc h)|(refine Jx ?_ ?_<;>(first|intro n s1 U hr hm hc h|intro e s1 U hc h))|exact Ga|(refine Rn ?_;intro own1 U hc)|refine BV (λ_=>?_)|refine Ac (λe1=>?_)|refine AV.go hc1 hc h (λn s1 U hr hm hc h=>?_) (λe s1 U hc h=>?_)|refine XQ.go (l:=l) (Om MU) AC hc h (λn s1 U hr hm hc h=>?_) (λe s1 U hc h=>?_)|with_reducible refine WF ?_)
theorem rD (h:n.kids≠[]):∃x,n.kids[((0:Int)).toNat]? =some x/\n.kids.headD Hz=x:=qg h
theorem eM {st:St} (hn:n.kids≠[]) (h:K (.ret (.bool (Ms n))) st):PC 165 [enc n] st K:=by
 refine pB Tryz.func165 ?_
 obtain ⟨x,hx,hd⟩:=rD hn
 unfold Ms at h
 rw [hd] at h
 cases hm:FT x with
 |false=>
  rw [hm,if_neg Do] at h
  have U:∀{st:St} {K:AA->St->Prop},K (.ret (.bool false)) st->PC 222 [enc x] st K:=λh=>MW (by rw [hm];exact h)
  repeat' ((conv=>whnf);first|(refine A6 ?_;intros)|(refine A7 ?_ ?_<;>intro e h)|(refine A8 ?_ ?_<;>intro _)|refine U ?_)
  all_goals exact BJ rfl h
 |true=>
  rw [hm,if_pos rfl] at h
  have U:∀{st:St} {K:AA->St->Prop},K (.ret (.bool true)) st->PC 222 [enc x] st K:=λh=>MW (by rw [hm];exact h)
  by_cases h2:n.kids.length=2
  .obtain ⟨y,hy⟩:∃y,n.kids[((1:Int)).toNat]? =some y:=⟨_,List.getElem?_eq_getElem (show 1<n.kids.length by omega)⟩
   have hy2:n.kids[1]? =some y:=hy
   rw [if_pos h2,hy2] at h
   repeat' ((conv=>whnf);first|(refine A6 ?_;intros)|(refine A7 ?_ ?_<;>intro e h)|(refine A8 ?_ ?_<;>intro _)|refine U ?_)
   all_goals conv=>whnf
   all_goals (refine At h ?_;clear h;simp_all [EA])
  .by_cases h4:n.kids.length=4
   .obtain ⟨y,hy⟩:∃y,n.kids[((2:Int)).toNat]? =some y:=⟨_,List.getElem?_eq_getElem (show 2<n.kids.length by omega)⟩
    have hy2:n.kids[2]? =some y:=hy
    rw [if_neg h2,hy2] at h
    by_cases hk:y.kind=13
    .by_cases h3:y.kids.length=3
     .obtain ⟨z,hz⟩:∃z,y.kids[((2:Int)).toNat]? =some z:=⟨_,List.getElem?_eq_getElem (show 2<y.kids.length by omega)⟩
      have hz2:y.kids[2]? =some z:=hz
      repeat' ((conv=>whnf);first|(refine A6 ?_;intros)|(refine A7 ?_ ?_<;>intro e h)|(refine A8 ?_ ?_<;>intro _)|refine U ?_)
      all_goals conv=>whnf
      all_goals (refine At h ?_;clear h;simp_all [EA])
     .skip
      repeat' ((conv=>whnf);first|(refine A6 ?_;intros)|(refine A7 ?_ ?_<;>intro e h)|(refine A8 ?_ ?_<;>intro _)|refine U ?_)
      all_goals conv=>whnf
      all_goals (refine At h ?_;clear h;simp_all [EA])
    .skip
     repeat' ((conv=>whnf);first|(refine A6 ?_;intros)|(refine A7 ?_ ?_<;>intro e h)|(refine A8 ?_ ?_<;>intro _)|refine U ?_)
     all_goals conv=>whnf
     all_goals (refine At h ?_;clear h;simp_all [EA])
   .rw [if_neg h2,if_neg (λe=>h4 e.1)] at h
    repeat' ((conv=>whnf);first|(refine A6 ?_;intros)|(refine A7 ?_ ?_<;>intro e h)|(refine A8 ?_ ?_<;>intro _)|refine U ?_)
    all_goals exact BJ rfl h
theorem Xv (hc1:AV enc 163 (λb=>[pv b d]) (Hs A W)) (hr1:AV enc 158 (λb=>[pv b d]) R):AV enc 89 (λb=>[pv b d]) (Ii A R W):=by
 refine ⟨λ{st0 b s st rows K} hc h=>?_⟩
 simp only [Ii,Rd.wp_seq] at h
 have hmu:=hc.mu
 refine A5 Ae [] Tryz.func89 rfl Do rfl ?_
 refine Ak (An Ae ?_)
 repeat' ((conv=>whnf);(first|exact CU|refine A6 ?_|(refine CV ?_ ?_ ?_;rotate_left)|refine A7 ?_ ?_|refine A8 ?_ ?_|with_reducible refine WF ?_)<;>intros)
 refine Ak (An Ae ?_)
 repeat' ((conv=>whnf);first|exact CU|(refine A6 ?_;intros)|(refine CV ?_ ?_ ?_;rotate_left)|(refine A7 ?_ ?_<;>intro e h)|(refine A8 ?_ ?_<;>intro _)|(refine JK ?_;intro s1 U hz hm hc h)|(refine Jx ?_ ?_<;>(first|intro n s1 U hr hm hc h|intro e s1 U hc h))|exact Ga|(refine Rn ?_;intro own1 U hc)|refine BV (λ_=>?_)|refine Ac (λe1=>?_)|refine qN.go (l:=[_]) (MV hr1) (Nat.le_of_ble_eq_true rfl) (hc.push _) h (λl x own1 s1 U hh hm hc h=>?_) (λe s1 U hc h=>?_)|exact BP hc h|refine Af [(0,true),(1,true),(2,true),(3,false),(4,true),(5,false),(6,true)] [] GE ?_|refine Af [(0,true),(1,true),(2,true),(3,true),(4,true),(5,true),(6,true),(7,false),(8,false)] [] GE ?_|refine Af [(0,true),(1,true),(2,true),(3,true),(4,true),(5,true),(6,true),(7,false),(8,false)] [] GE ?_|with_reducible refine WF ?_)
 have hl2:l.length<=3:=Ia hh
 refine An Ae ?_
 repeat' ((conv=>whnf);first|exact CU|(refine A6 ?_;intros)|(refine CV ?_ ?_ ?_;rotate_left)|(refine A7 ?_ ?_<;>intro e h)|(refine A8 ?_ ?_<;>intro _)|(refine JK ?_;intro s1 U hz hm hc h)|(refine Jx ?_ ?_<;>(first|intro n s1 U hr hm hc h|intro e s1 U hc h))|exact Ga|(refine Rn ?_;intro own1 U hc)|refine BV (λ_=>?_)|refine Ac (λe1=>?_)|refine D7 ?_|refine Fm i6 ?_|refine NH ?_|refine AV.go hc1 hc h (λn s1 U hr hm hc h=>?_) (λe s1 U hc h=>?_)|refine eM (cv hr) ?_|refine Dr h ‹_› (λh=>?_)|refine Dq h ‹_› (λh=>?_)|refine XQ.go (Om MU) (iB hh) hc h (λn s1 U hr hm hc h=>?_) (λe s1 U hc h=>?_)|refine Af [(0,true),(1,true),(2,true),(3,false),(4,true),(5,false),(6,true)] [] GE ?_|refine Af [(0,true),(1,true),(2,true),(3,true),(4,true),(5,true),(6,true),(7,false),(8,false)] [] GE ?_|refine Af [(0,true),(1,true),(2,true),(3,true),(4,true),(5,true),(6,true),(7,false),(8,false)] [] GE ?_|with_reducible refine WF ?_)
abbrev tw (g:FuncId):V:=.Gy [.func g [] []] 0
theorem mA {x:Nd} {st:St} (U:∀{n:Nd} {st:St} {K:AA->St->Prop},K (.ret (.bool (p n))) st->PC g [enc n] st K) (h:K (.ret (.bool (!p x))) st):PC 230 [enc x,tw g] st K:=by
 refine pB Tryz.func230 ?_
 repeat' ((conv=>whnf);first|(refine A6 ?_;intros)|(refine A7 ?_ ?_<;>intro e h)|(refine A8 ?_ ?_<;>intro _)|refine U ?_)
 all_goals conv=>whnf
 all_goals (refine At h ?_;clear h;simp_all)
theorem rF {st:St} (U:∀x st (K:AA->St->Prop),K (.ret (.bool (p x))) st->PC f [enc x,tw g] st K) (h:K (.ret (.int .i64 (CC p l 0))) st):PC 304 [.slice 6 (Ck l) .any,.func f [] [tw g]] st K:=by
 refine pB Tryz.func304 ?_
 repeat' ((conv=>whnf);(first|refine A6 ?_|refine A7 ?_ ?_|refine A8 ?_ ?_|fail)<;>intros)
 refine Ly 8 [6,7,0,1] l.length (λk=>k<=l.length/\(CC p l 0=CC p (l.drop k) k)) ⟨Nat.zero_le _,rfl⟩ Yl ?_
 rintro k ⟨hk,hi⟩
 repeat' ((conv=>whnf);first|(refine A6 ?_;intros)|(refine A7 ?_ ?_<;>intro e h)|(refine A8 ?_ ?_<;>intro _)|refine U _ _ _ ?_)
 all_goals conv=>whnf
 all_goals try (have e:=UX ‹l[Int.toNat k]? =some _›;rw [Int.toNat_natCast] at e;rw [e,CC] at hi;clear e)
 all_goals first
  |(refine ⟨k+1,⟨AC,?_⟩,AC,Yl,St.le_refl _⟩;clear h;simp_all)
  |(refine fin h ?_;clear h;simp_all;done)
  |(refine fin h ?_;rw [hi,List.drop_eq_nil_of_le AC];rfl)
theorem qU {st:St} (hf:∀x st (K:AA->St->Prop),K (.ret (.bool (p x))) st->PC f [enc x,tw g] st K) (h:K (.ret (.bool (l.any p))) st):PC 229 [.slice 6 (Ck l) .any,.func f [] [tw g]] st K:=by
 refine pB Tryz.func229 ?_
 refine rF hf ?_
 have key:=G9 (p:=p) (l:=l) (i:=0) AC
 refine Wh (λU=>?_) (λU=>?_)
 .exact At h (key.1 U)
 .refine At h ?_
  simp_all
theorem ZK:(!l.any λx=> !p x)=l.all p:=by
 rw [List.all_eq_not_any_not]
theorem qS (h:(l.any λx=> !p x)=true):l.all p=false:=by rw [<-ZK,h];rfl
theorem mc (h:(l.any λx=> !p x)=false):l.all p=true:=by rw [<-ZK,h];rfl
theorem GK (hg:∀{n:Nd} {st:St} {K:AA->St->Prop},K (.ret (.bool (p n))) st->PC g [enc n] st K) (hd1:AV enc 84 (λb=>[.ptr b 0,.func 228 [] [],.int .i64 ((d:Int) - 1)]) D) (hd0:d<=100):
 XQ 167 (λb v=>[pv b d,.int .i64 k,v,.func g [] []]) (λl=>RO D k l p):=by
 refine ⟨λ{st0 b s st rows K own l} hl hc h=>?_⟩
 simp only [RO,Rd.Al,Rd.AD,Rd.wp_seq,Rd.wp_ret] at h
 refine A5 Ae [] Tryz.func167 rfl Do rfl ?_
 refine Ak (An Ae ?_)
 repeat' ((conv=>whnf);(first|exact CU|refine A6 ?_|(refine CV ?_ ?_ ?_;rotate_left)|refine A7 ?_ ?_|refine A8 ?_ ?_|with_reducible refine WF ?_)<;>intros)
 refine SQ 7 1 rfl rfl rfl ?_
 refine An Ae ?_
 repeat' ((conv=>whnf);first|exact CU|(refine A6 ?_;intros)|(refine CV ?_ ?_ ?_;rotate_left)|(refine A7 ?_ ?_<;>intro e h)|(refine A8 ?_ ?_<;>intro _)|(refine M1 ?_;intro U hc)|(refine RI ?_ ?_<;>intro U hc e h)|(refine JK ?_;intro s1 U hz hm hc h)|(refine Jx ?_ ?_<;>(first|intro n s1 U hr hm hc h|intro e s1 U hc h))|exact Ga|refine Ro ?_|(refine Rn ?_;intro own1 U hc)|refine Ac (λe1=>?_)|refine Wq (a:=(d:Int) - 1) AC AC ?_|refine AV.go hd1 hc h (λn s1 U hr hm hc h=>?_) (λe s1 U hc h=>?_)|refine qU (p:=λx=> !p x) (λx st K h=>mA hg h) ?_|refine Dr h (mc ‹_›) (λh=>?_)|refine Dq h (qS ‹_›) (λh=>?_)|refine Af [(0,true),(1,true),(2,true),(3,true),(4,false),(5,true),(6,false)] [] GE ?_|with_reducible refine WF ?_)
theorem JV {st:St} (h:K (.ret (.bool true)) st):PC 168 [enc n] st K:=by
 refine pB Tryz.func168 ?_
 repeat' ((conv=>whnf);(first|refine A6 ?_|refine A7 ?_ ?_|refine A8 ?_ ?_|fail)<;>intros)
 all_goals exact BJ rfl h
theorem Hx {st:St} (h:K (.ret (.bool (n.kind==36))) st):PC 169 [enc n] st K:=by
 refine pB Tryz.func169 ?_
 repeat' ((conv=>whnf);(first|refine A6 ?_|refine A7 ?_ ?_|refine A8 ?_ ?_|fail)<;>intros)
 all_goals conv=>whnf
 all_goals (refine At h ?_;clear h;simp_all)
theorem ez (hr1:AV enc 158 (λb=>[pv b d]) R) (hd1:AV enc 84 (λb=>[.ptr b 0,.func 228 [] [],.int .i64 ((d:Int) - 1)]) D) (hd0:d<=100):AV enc 90 (λb=>[pv b d]) (M9 R D):=by
 refine ⟨λ{st0 b s st rows K} hc h=>?_⟩
 simp only [M9,Rd.wp_seq] at h
 have hmu:=hc.mu
 refine A5 Ae [] Tryz.func90 rfl Do rfl ?_
 refine Ak (An Ae ?_)
 repeat' ((conv=>whnf);(first|exact CU|refine A6 ?_|(refine CV ?_ ?_ ?_;rotate_left)|refine A7 ?_ ?_|refine A8 ?_ ?_|with_reducible refine WF ?_)<;>intros)
 refine Ak (An Ae ?_)
 repeat' ((conv=>whnf);first|exact CU|(refine A6 ?_;intros)|(refine CV ?_ ?_ ?_;rotate_left)|(refine A7 ?_ ?_<;>intro e h)|(refine A8 ?_ ?_<;>intro _)|(refine JK ?_;intro s1 U hz hm hc h)|(refine Jx ?_ ?_<;>(first|intro n s1 U hr hm hc h|intro e s1 U hc h))|exact Ga|refine BV (λ_=>?_)|refine Ac (λe1=>?_)|refine qN.go (l:=[_]) (MV hr1) (Nat.le_of_ble_eq_true rfl) (hc.push _) h (λl x own1 s1 U hh hm hc h=>?_) (λe s1 U hc h=>?_)|exact BP hc h|refine Af [(0,true),(1,true),(2,true),(3,false),(4,true),(5,false),(6,true)] [] GE ?_|refine Af [(0,true),(1,true),(2,true),(3,true),(4,true),(5,true),(6,true),(7,true),(8,true),(9,true),(10,true),(11,true),(12,true),(13,true),(14,true),(15,true),(16,false),(17,true),(18,true),(19,true),(20,true),(21,true),(22,true),(23,true),(24,false),(25,true),(26,false)] [] GE ?_|with_reducible refine WF ?_)
 have hl2:l.length<=3:=Ia hh
 refine An Ae ?_
 by_cases hk:x.kind=39
 .by_cases h2:(x.kids.length:Int)=2
  .have h2':x.kids.length=2:=AC
   obtain ⟨y0,hx0⟩:∃y,x.kids[((0:Int)).toNat]? =some y:=⟨_,List.getElem?_eq_getElem (show 0<x.kids.length by omega)⟩
   obtain ⟨y1,hx1⟩:∃y,x.kids[((1:Int)).toNat]? =some y:=⟨_,List.getElem?_eq_getElem (show 1<x.kids.length by omega)⟩
   have hy0:x.kids[0]? =some y0:=hx0
   have hy1:x.kids[1]? =some y1:=hx1
   have hN:Gk x=(DV y0 [2]&&DV y1 [1]):=by unfold Gk;rw [hk,h2',hy0,hy1];rfl
   cases i0:DV y0 [2]
   .have hcl:Gk x=false:=by rw [hN,i0];rfl
    repeat' ((conv=>whnf);first|exact CU|(refine A6 ?_;intros)|(refine CV ?_ ?_ ?_;rotate_left)|(refine A7 ?_ ?_<;>intro e h)|(refine A8 ?_ ?_<;>intro _)|(refine JK ?_;intro s1 U hz hm hc h)|(refine Jx ?_ ?_<;>(first|intro n s1 U hr hm hc h|intro e s1 U hc h))|exact Ga|refine BV (λ_=>?_)|refine Ac (λe1=>?_)|refine D7 ?_|refine Fm AC ?_|refine Wm hx0 AC ?_|refine Wm hx1 AC ?_|refine DX (ks:=[2]) ?_|refine DX (ks:=[1]) ?_|refine Dr h hcl (λh=>?_)|refine Dq h hcl (λh=>?_)|refine XQ.go (l:=l++[x]) (GK (d:=d) (λh=>JV h) hd1 hd0) (by rw [List.length_append]<;>exact Nat.le_trans (Nat.add_le_add_right hl2 _) (Nat.le_of_ble_eq_true rfl)) hc h (λn s1 U hr hm hc h=>?_) (λe s1 U hc h=>?_)|refine Af [(0,true),(1,true),(2,true),(3,false),(4,true),(5,false),(6,true)] [] GE ?_|refine Af [(0,true),(1,true),(2,true),(3,true),(4,true),(5,true),(6,true),(7,true),(8,true),(9,true),(10,true),(11,true),(12,true),(13,true),(14,true),(15,true),(16,false),(17,true),(18,true),(19,true),(20,true),(21,true),(22,true),(23,true),(24,false),(25,true),(26,false)] [] GE ?_|with_reducible refine WF ?_)
   cases i1:DV y1 [1]
   .have hcl:Gk x=false:=by rw [hN,i0,i1];rfl
    repeat' ((conv=>whnf);first|exact CU|(refine A6 ?_;intros)|(refine CV ?_ ?_ ?_;rotate_left)|(refine A7 ?_ ?_<;>intro e h)|(refine A8 ?_ ?_<;>intro _)|(refine JK ?_;intro s1 U hz hm hc h)|(refine Jx ?_ ?_<;>(first|intro n s1 U hr hm hc h|intro e s1 U hc h))|exact Ga|refine BV (λ_=>?_)|refine Ac (λe1=>?_)|refine D7 ?_|refine Fm AC ?_|refine Wm hx0 AC ?_|refine Wm hx1 AC ?_|refine DX (ks:=[2]) ?_|refine DX (ks:=[1]) ?_|refine Dr h hcl (λh=>?_)|refine Dq h hcl (λh=>?_)|refine XQ.go (l:=l++[x]) (GK (d:=d) (λh=>JV h) hd1 hd0) (by rw [List.length_append]<;>exact Nat.le_trans (Nat.add_le_add_right hl2 _) (Nat.le_of_ble_eq_true rfl)) hc h (λn s1 U hr hm hc h=>?_) (λe s1 U hc h=>?_)|refine Af [(0,true),(1,true),(2,true),(3,false),(4,true),(5,false),(6,true)] [] GE ?_|refine Af [(0,true),(1,true),(2,true),(3,true),(4,true),(5,true),(6,true),(7,true),(8,true),(9,true),(10,true),(11,true),(12,true),(13,true),(14,true),(15,true),(16,false),(17,true),(18,true),(19,true),(20,true),(21,true),(22,true),(23,true),(24,false),(25,true),(26,false)] [] GE ?_|with_reducible refine WF ?_)
   .have hcl:Gk x=true:=by rw [hN,i0,i1];rfl
    repeat' ((conv=>whnf);first|exact CU|(refine A6 ?_;intros)|(refine CV ?_ ?_ ?_;rotate_left)|(refine A7 ?_ ?_<;>intro e h)|(refine A8 ?_ ?_<;>intro _)|(refine JK ?_;intro s1 U hz hm hc h)|(refine Jx ?_ ?_<;>(first|intro n s1 U hr hm hc h|intro e s1 U hc h))|exact Ga|refine BV (λ_=>?_)|refine Ac (λe1=>?_)|refine D7 ?_|refine Fm AC ?_|refine Wm hx0 AC ?_|refine Wm hx1 AC ?_|refine DX (ks:=[2]) ?_|refine DX (ks:=[1]) ?_|refine Dr h hcl (λh=>?_)|refine Dq h hcl (λh=>?_)|refine XQ.go (l:=l++[x]) (GK (d:=d) (λh=>JV h) hd1 hd0) (by rw [List.length_append]<;>exact Nat.le_trans (Nat.add_le_add_right hl2 _) (Nat.le_of_ble_eq_true rfl)) hc h (λn s1 U hr hm hc h=>?_) (λe s1 U hc h=>?_)|refine Af [(0,true),(1,true),(2,true),(3,false),(4,true),(5,false),(6,true)] [] GE ?_|refine Af [(0,true),(1,true),(2,true),(3,true),(4,true),(5,true),(6,true),(7,true),(8,true),(9,true),(10,true),(11,true),(12,true),(13,true),(14,true),(15,true),(16,false),(17,true),(18,true),(19,true),(20,true),(21,true),(22,true),(23,true),(24,false),(25,true),(26,false)] [] GE ?_|with_reducible refine WF ?_)
  .have hcl:Gk x=false:=by unfold Gk;rw [show (x.kids.length==2)=false by cases e:x.kids.length==2 with|true=>exact absurd (by rw [beq_iff_eq] at e;omega) h2|false=>rfl];simp
   repeat' ((conv=>whnf);first|exact CU|(refine A6 ?_;intros)|(refine CV ?_ ?_ ?_;rotate_left)|(refine A7 ?_ ?_<;>intro e h)|(refine A8 ?_ ?_<;>intro _)|(refine JK ?_;intro s1 U hz hm hc h)|(refine Jx ?_ ?_<;>(first|intro n s1 U hr hm hc h|intro e s1 U hc h))|exact Ga|refine BV (λ_=>?_)|refine Ac (λe1=>?_)|refine D7 ?_|refine Fm AC ?_|refine DX (ks:=[2]) ?_|refine DX (ks:=[1]) ?_|refine Dr h hcl (λh=>?_)|refine Dq h hcl (λh=>?_)|refine XQ.go (l:=l++[x]) (GK (d:=d) (λh=>JV h) hd1 hd0) (by rw [List.length_append]<;>exact Nat.le_trans (Nat.add_le_add_right hl2 _) (Nat.le_of_ble_eq_true rfl)) hc h (λn s1 U hr hm hc h=>?_) (λe s1 U hc h=>?_)|refine Af [(0,true),(1,true),(2,true),(3,false),(4,true),(5,false),(6,true)] [] GE ?_|refine Af [(0,true),(1,true),(2,true),(3,true),(4,true),(5,true),(6,true),(7,true),(8,true),(9,true),(10,true),(11,true),(12,true),(13,true),(14,true),(15,true),(16,false),(17,true),(18,true),(19,true),(20,true),(21,true),(22,true),(23,true),(24,false),(25,true),(26,false)] [] GE ?_|with_reducible refine WF ?_)
 .have hcl:Gk x=false:=by unfold Gk;rw [show (x.kind==39)=false by cases e:x.kind==39 with|true=>exact absurd (by simpa using e) hk|false=>rfl];rfl
  repeat' ((conv=>whnf);first|exact CU|(refine A6 ?_;intros)|(refine CV ?_ ?_ ?_;rotate_left)|(refine A7 ?_ ?_<;>intro e h)|(refine A8 ?_ ?_<;>intro _)|(refine JK ?_;intro s1 U hz hm hc h)|(refine Jx ?_ ?_<;>(first|intro n s1 U hr hm hc h|intro e s1 U hc h))|exact Ga|refine BV (λ_=>?_)|refine Ac (λe1=>?_)|refine D7 ?_|refine Fm AC ?_|refine DX (ks:=[2]) ?_|refine DX (ks:=[1]) ?_|refine Dr h hcl (λh=>?_)|refine Dq h hcl (λh=>?_)|refine XQ.go (l:=l++[x]) (GK (d:=d) (λh=>JV h) hd1 hd0) (by rw [List.length_append]<;>exact Nat.le_trans (Nat.add_le_add_right hl2 _) (Nat.le_of_ble_eq_true rfl)) hc h (λn s1 U hr hm hc h=>?_) (λe s1 U hc h=>?_)|refine Af [(0,true),(1,true),(2,true),(3,false),(4,true),(5,false),(6,true)] [] GE ?_|refine Af [(0,true),(1,true),(2,true),(3,true),(4,true),(5,true),(6,true),(7,true),(8,true),(9,true),(10,true),(11,true),(12,true),(13,true),(14,true),(15,true),(16,false),(17,true),(18,true),(19,true),(20,true),(21,true),(22,true),(23,true),(24,false),(25,true),(26,false)] [] GE ?_|with_reducible refine WF ?_)
theorem Uv (hr1:AV enc 158 (λb=>[pv b d]) R) (hd1:AV enc 84 (λb=>[.ptr b 0,.func 228 [] [],.int .i64 ((d:Int) - 1)]) D) (hd0:d<=100):AV enc 91 (λb=>[pv b d]) (GV R D):=by
 refine ⟨λ{st0 b s st rows K} hc h=>?_⟩
 simp only [GV,Rd.wp_seq] at h
 have hmu:=hc.mu
 refine A5 Ae [] Tryz.func91 rfl Do rfl ?_
 refine Ak (An Ae ?_)
 repeat' ((conv=>whnf);(first|exact CU|refine A6 ?_|(refine CV ?_ ?_ ?_;rotate_left)|refine A7 ?_ ?_|refine A8 ?_ ?_|with_reducible refine WF ?_)<;>intros)
 refine Ak (An Ae ?_)
 repeat' ((conv=>whnf);first|exact CU|(refine A6 ?_;intros)|(refine CV ?_ ?_ ?_;rotate_left)|(refine A7 ?_ ?_<;>intro e h)|(refine A8 ?_ ?_<;>intro _)|(refine JK ?_;intro s1 U hz hm hc h)|(refine Jx ?_ ?_<;>(first|intro n s1 U hr hm hc h|intro e s1 U hc h))|exact Ga|refine BV (λ_=>?_)|refine Ac (λe1=>?_)|refine qN.go (l:=[_]) (MV hr1) (Nat.le_of_ble_eq_true rfl) (hc.push _) h (λl x own1 s1 U hh hm hc h=>?_) (λe s1 U hc h=>?_)|exact BP hc h|refine Af [(0,true),(1,true),(2,true),(3,false),(4,true),(5,false),(6,true)] [] GE ?_|refine Af [(0,true),(1,true),(2,true),(3,true),(4,true),(5,true),(6,true),(7,true),(8,true),(9,true),(10,true),(11,true),(12,true),(13,true),(14,true),(15,true),(16,false),(17,true),(18,false)] [] GE ?_|with_reducible refine WF ?_)
 have hl2:l.length<=3:=Ia hh
 refine An Ae ?_
 by_cases hk:x.kind=39
 .by_cases h2:(x.kids.length:Int)=2
  .have h2':x.kids.length=2:=AC
   obtain ⟨y0,hx0⟩:∃y,x.kids[((0:Int)).toNat]? =some y:=⟨_,List.getElem?_eq_getElem (show 0<x.kids.length by omega)⟩
   obtain ⟨y1,hx1⟩:∃y,x.kids[((1:Int)).toNat]? =some y:=⟨_,List.getElem?_eq_getElem (show 1<x.kids.length by omega)⟩
   have hy0:x.kids[0]? =some y0:=hx0
   have hy1:x.kids[1]? =some y1:=hx1
   have hN:J3 x=DV y0 [2,4]:=by unfold J3;rw [hk,h2',hy0];rfl
   cases i0:DV y0 [2,4]
   .have hcl:J3 x=false:=by rw [hN,i0]
    repeat' ((conv=>whnf);first|exact CU|(refine A6 ?_;intros)|(refine CV ?_ ?_ ?_;rotate_left)|(refine A7 ?_ ?_<;>intro e h)|(refine A8 ?_ ?_<;>intro _)|(refine JK ?_;intro s1 U hz hm hc h)|(refine Jx ?_ ?_<;>(first|intro n s1 U hr hm hc h|intro e s1 U hc h))|exact Ga|refine BV (λ_=>?_)|refine Ac (λe1=>?_)|refine D7 ?_|refine Fm AC ?_|refine Wm hx0 AC ?_|refine Wm hx1 AC ?_|refine DX (ks:=[2,4]) ?_|refine DX (ks:=[1]) ?_|refine Dr h hcl (λh=>?_)|refine Dq h hcl (λh=>?_)|refine XQ.go (l:=l++[x]) (GK (d:=d) (λh=>Hx h) hd1 hd0) (by rw [List.length_append]<;>exact Nat.le_trans (Nat.add_le_add_right hl2 _) (Nat.le_of_ble_eq_true rfl)) hc h (λn s1 U hr hm hc h=>?_) (λe s1 U hc h=>?_)|refine Af [(0,true),(1,true),(2,true),(3,false),(4,true),(5,false),(6,true)] [] GE ?_|refine Af [(0,true),(1,true),(2,true),(3,true),(4,true),(5,true),(6,true),(7,true),(8,true),(9,true),(10,true),(11,true),(12,true),(13,true),(14,true),(15,true),(16,false),(17,true),(18,false)] [] GE ?_|with_reducible refine WF ?_)
   .have hcl:J3 x=true:=by rw [hN,i0]
    repeat' ((conv=>whnf);first|exact CU|(refine A6 ?_;intros)|(refine CV ?_ ?_ ?_;rotate_left)|(refine A7 ?_ ?_<;>intro e h)|(refine A8 ?_ ?_<;>intro _)|(refine JK ?_;intro s1 U hz hm hc h)|(refine Jx ?_ ?_<;>(first|intro n s1 U hr hm hc h|intro e s1 U hc h))|exact Ga|refine BV (λ_=>?_)|refine Ac (λe1=>?_)|refine D7 ?_|refine Fm AC ?_|refine Wm hx0 AC ?_|refine Wm hx1 AC ?_|refine DX (ks:=[2,4]) ?_|refine DX (ks:=[1]) ?_|refine Dr h hcl (λh=>?_)|refine Dq h hcl (λh=>?_)|refine XQ.go (l:=l++[x]) (GK (d:=d) (λh=>Hx h) hd1 hd0) (by rw [List.length_append]<;>exact Nat.le_trans (Nat.add_le_add_right hl2 _) (Nat.le_of_ble_eq_true rfl)) hc h (λn s1 U hr hm hc h=>?_) (λe s1 U hc h=>?_)|refine Af [(0,true),(1,true),(2,true),(3,false),(4,true),(5,false),(6,true)] [] GE ?_|refine Af [(0,true),(1,true),(2,true),(3,true),(4,true),(5,true),(6,true),(7,true),(8,true),(9,true),(10,true),(11,true),(12,true),(13,true),(14,true),(15,true),(16,false),(17,true),(18,false)] [] GE ?_|with_reducible refine WF ?_)
  .have hcl:J3 x=false:=by unfold J3;rw [show (x.kids.length==2)=false by cases e:x.kids.length==2 with|true=>exact absurd (by rw [beq_iff_eq] at e;omega) h2|false=>rfl];simp
   repeat' ((conv=>whnf);first|exact CU|(refine A6 ?_;intros)|(refine CV ?_ ?_ ?_;rotate_left)|(refine A7 ?_ ?_<;>intro e h)|(refine A8 ?_ ?_<;>intro _)|(refine JK ?_;intro s1 U hz hm hc h)|(refine Jx ?_ ?_<;>(first|intro n s1 U hr hm hc h|intro e s1 U hc h))|exact Ga|refine BV (λ_=>?_)|refine Ac (λe1=>?_)|refine D7 ?_|refine Fm AC ?_|refine DX (ks:=[2,4]) ?_|refine DX (ks:=[1]) ?_|refine Dr h hcl (λh=>?_)|refine Dq h hcl (λh=>?_)|refine XQ.go (l:=l++[x]) (GK (d:=d) (λh=>Hx h) hd1 hd0) (by rw [List.length_append]<;>exact Nat.le_trans (Nat.add_le_add_right hl2 _) (Nat.le_of_ble_eq_true rfl)) hc h (λn s1 U hr hm hc h=>?_) (λe s1 U hc h=>?_)|refine Af [(0,true),(1,true),(2,true),(3,false),(4,true),(5,false),(6,true)] [] GE ?_|refine Af [(0,true),(1,true),(2,true),(3,true),(4,true),(5,true),(6,true),(7,true),(8,true),(9,true),(10,true),(11,true),(12,true),(13,true),(14,true),(15,true),(16,false),(17,true),(18,false)] [] GE ?_|with_reducible refine WF ?_)
 .have hcl:J3 x=false:=by unfold J3;rw [show (x.kind==39)=false by cases e:x.kind==39 with|true=>exact absurd (by simpa using e) hk|false=>rfl];rfl
  repeat' ((conv=>whnf);first|exact CU|(refine A6 ?_;intros)|(refine CV ?_ ?_ ?_;rotate_left)|(refine A7 ?_ ?_<;>intro e h)|(refine A8 ?_ ?_<;>intro _)|(refine JK ?_;intro s1 U hz hm hc h)|(refine Jx ?_ ?_<;>(first|intro n s1 U hr hm hc h|intro e s1 U hc h))|exact Ga|refine BV (λ_=>?_)|refine Ac (λe1=>?_)|refine D7 ?_|refine Fm AC ?_|refine DX (ks:=[2,4]) ?_|refine DX (ks:=[1]) ?_|refine Dr h hcl (λh=>?_)|refine Dq h hcl (λh=>?_)|refine XQ.go (l:=l++[x]) (GK (d:=d) (λh=>Hx h) hd1 hd0) (by rw [List.length_append]<;>exact Nat.le_trans (Nat.add_le_add_right hl2 _) (Nat.le_of_ble_eq_true rfl)) hc h (λn s1 U hr hm hc h=>?_) (λe s1 U hc h=>?_)|refine Af [(0,true),(1,true),(2,true),(3,false),(4,true),(5,false),(6,true)] [] GE ?_|refine Af [(0,true),(1,true),(2,true),(3,true),(4,true),(5,true),(6,true),(7,true),(8,true),(9,true),(10,true),(11,true),(12,true),(13,true),(14,true),(15,true),(16,false),(17,true),(18,false)] [] GE ?_|with_reducible refine WF ?_)
end
theorem oo {a b:Bool} {P Q:Prop}:(if (if a=true then true else b)=true then P else Q)=if a=true then P else if b=true then P else Q:=by cases a<;>cases b<;>simp
section
variable {st0 st:St} {b d:Nat} {s:Ad} {rows:List (AJ×List Nd)} {K:AA->St->Prop} {A B R W F D E:Rd Nd}
attribute [local irreducible] Go.Aw.Ah
theorem ll {k':Int} {x':List UInt8} {P:Prop} {Q:Nd->Ad->Prop} {E:Er->Ad->Prop} (hc:Cx st0 b s st rows) (h:if AU (Ab s).2.1 k' x'=true then P else Ay.wp s Q E) (e:AU s k x=true) (U:k≠0/\k≠21) (kk:∀st',mu (Ab s).2.1<mu s->Cx st0 b (Ab s).2.1 st' rows->K (.ret (enc (Bk (Ab s).1))) st'):PC 121 [.ptr b 0] st K:=
 LM hc.has hc.hb (λ_ st' hu=>kk st' (Cp e U.1 U.2) (hc.NK hu (Nat.le_of_lt (Cp e U.1 U.2)))) (λn=>absurd (CS e U.1) n)
theorem iy {s0:Ad} (hc:Cx st0 b s st rows) (U:mu (Ab s0).2.1<mu s0) (hb:mu s0<=100000000) (k:∀st',Cx st0 b s0 st' rows->K (.ret (.Bz [])) st'):PC 72 [.ptr b 0,.agg s0.cells] st K:=F5 hc hb k
theorem tZ {y:List UInt8} {P:Prop} {Q:Nd->Ad->Prop} {E:Er->Ad->Prop} (hc:Cx st0 b (Ab s).2.1 st rows) (h:if AU (Ab s).2.1 k x=true then P else Ay.wp s Q E) (e:AU s U y=true) (hk:U≠0)
 (k1:∀st',Cx st0 b (Ab s).2.1 st' rows->P->K (.ret (.bool true)) st') (U:∀st',Cx st0 b (Ab s).2.1 st' rows->Q (Bk (Ab s).1) (Ab s).2.1->K (.ret (.bool false)) st'):PC 156 [.ptr b 0,.int .i64 k,.str x] st K:=by
 refine iE hc h (λst' c _ p=>k1 st' c p) (λst' c _ q=>U st' c ?_)
 unfold Rd.wp at q
 rw [Bu (CS e hk)] at q
 exact q
theorem tB {p:Prop} (e:AU s 1 x=true) (k:(Ab s).1.kind=14):p:=by
 unfold AU at e
 rw [k] at e
 cases e
theorem lA:AV enc 120 (λb=>[pv b d,.bool o]) (aL o):=by
 refine ⟨λ{st0 b s st rows K} hc h=>?_⟩
 have hmu:=hc.mu
 refine pB Tryz.func120 ?_
 cases o
 all_goals simp only [aL,aK,VH,Bool.false_eq_true,if_false,if_true,Rd.Al,Rd.AD,Rd.wp_seq,Rd.wp_ret] at h
 .skip
  repeat' ((conv=>whnf);first|refine GQ h (λe h=>?_) (λe h=>?_)|exact CU|(refine A6 ?_;intros)|(refine CV ?_ ?_ ?_;rotate_left)|(refine A7 ?_ ?_<;>intro e h)|(refine A8 ?_ ?_<;>intro _)|(refine M1 ?_;intro U hc)|(refine RI ?_ ?_<;>intro U hc e h)|(refine JK ?_;intro s1 U hz hm hc h)|(refine Jx ?_ ?_<;>(first|intro n s1 U hr hm hc h|intro e s1 U hc h))|exact Ga|refine Ro ?_|(refine Rn ?_;intro own1 U hc)|refine Ac (λe1=>?_)|refine Cx.qX (l:=[1]) (new:=[3]) hc (Nat.le_of_ble_eq_true rfl) (λown1 U hc=>?_)|refine Cx.qX (l:=[2]) (new:=[4]) hc (Nat.le_of_ble_eq_true rfl) (λown1 U hc=>?_)|refine Cx.qX (l:=[5,6]) (new:=[7,8]) hc (Nat.le_of_ble_eq_true rfl) (λown1 U hc=>?_)|refine AV.go (Eo (ks:=Qa false) rfl) hc h (λn s1 U hr hm hc h=>?_) (λe s1 U hc h=>?_)|refine AV.go (Eo (ks:=Zg false) rfl) hc h (λn s1 U hr hm hc h=>?_) (λe s1 U hc h=>?_)|refine AV.go (Hi (ks:=sK false) rfl) hc h (λn s1 U hr hm hc h=>?_) (λe s1 U hc h=>?_)|refine Cx.Hj (l:=[_]) (hc.push [_]) (Nat.le_of_ble_eq_true rfl) (λown1 U hc=>?_)|refine Cx.qV (l:=[_,_]) hc (Nat.le_of_ble_eq_true rfl) (λown1 U hc=>?_)|refine Iz (l:=[_,_]) (fs:=[pv b d]) (cs:=[]) Q6.z (Nat.le_of_ble_eq_true rfl) hc h (λl own1 s1 U hm hc h=>?_) (λe s1 U hc h=>?_)|refine Af [(0,true),(1,true),(3,true),(4,true),(5,true),(2,false),(6,false),(7,true),(8,false),(9,false)] [1] GE ?_|refine Af [(0,true),(1,true),(2,true),(4,true),(5,true),(3,false),(6,false),(7,true),(8,false),(9,false),(10,false)] [1] GE ?_|with_reducible refine WF ?_)
 .skip
  repeat' ((conv=>whnf);first|refine GQ h (λe h=>?_) (λe h=>?_)|exact CU|(refine A6 ?_;intros)|(refine CV ?_ ?_ ?_;rotate_left)|(refine A7 ?_ ?_<;>intro e h)|(refine A8 ?_ ?_<;>intro _)|(refine M1 ?_;intro U hc)|(refine RI ?_ ?_<;>intro U hc e h)|(refine JK ?_;intro s1 U hz hm hc h)|(refine Jx ?_ ?_<;>(first|intro n s1 U hr hm hc h|intro e s1 U hc h))|exact Ga|refine Ro ?_|(refine Rn ?_;intro own1 U hc)|refine Ac (λe1=>?_)|refine AV.go (Eo (ks:=Qa true) rfl) hc h (λn s1 U hr hm hc h=>?_) (λe s1 U hc h=>?_)|refine AV.go (Eo (ks:=Zg true) rfl) hc h (λn s1 U hr hm hc h=>?_) (λe s1 U hc h=>?_)|refine AV.go (Hi (ks:=sK true) rfl) hc h (λn s1 U hr hm hc h=>?_) (λe s1 U hc h=>?_)|refine Cx.Hj (l:=[_]) (hc.push [_]) (Nat.le_of_ble_eq_true rfl) (λown1 U hc=>?_)|refine Cx.qV (l:=[_,_]) hc (Nat.le_of_ble_eq_true rfl) (λown1 U hc=>?_)|refine Iz (l:=[_,_]) (fs:=[pv b d]) (cs:=[]) Q6.z (Nat.le_of_ble_eq_true rfl) hc h (λl own1 s1 U hm hc h=>?_) (λe s1 U hc h=>?_)|refine Af [(0,true),(1,true),(3,true),(4,true),(5,true),(2,false),(6,false),(7,true),(8,false),(9,false)] [1] GE ?_|refine Af [(0,true),(1,true),(2,true),(4,true),(5,true),(3,false),(6,false),(7,true),(8,false),(9,false),(10,false)] [1] GE ?_|with_reducible refine WF ?_)
theorem eL:AV enc 49 (λb=>[pv b d,.bool o]) (TQ o):=by
 refine ⟨λ{st0 b s st rows K} hc h=>?_⟩
 simp only [TQ,Rd.wp_seq,Rd.wp_ret] at h
 have hmu:=hc.mu
 refine pB Tryz.func49 ?_
 repeat' ((conv=>whnf);(first|refine A6 ?_|refine A7 ?_ ?_|refine A8 ?_ ?_|refine M1 ?_|refine RI ?_ ?_|refine JK ?_|refine Jx ?_ ?_|exact Ga|refine Ro ?_|refine Rn ?_|refine Ac ?_)<;>intros)
 refine Cm (λl own=>[(5,.slice 6 (l.map AP) own)]) (λ_ _=>[]) [1,2,4] [0,1] (λl own=>(own,l)::rows) (λl=>l.length) .full (Cx.push ‹_› _) ‹_› (by show 1+_<=_;omega) Yl ?_
 intro l s1 st1 U hc h hl hm1
 simp only [jg,gp,Rd.Al,Rd.AD,Rd.wp_seq,Rd.wp_ret,Rd.Br] at h
 repeat' ((conv=>whnf);(first|refine A6 ?_|refine A7 ?_ ?_|refine A8 ?_ ?_|refine M1 ?_|refine RI ?_ ?_|refine JK ?_|refine Jx ?_ ?_|exact Ga|refine Ro ?_|refine Rn ?_|refine Ac ?_|refine FG.go (by first|exact AV.q|exact (lA (o:=o)).a) ?_ ?_)<;>intros)
theorem Xt:AV enc 86 (λb=>[pv b d]) Ic:=by
 refine ⟨λ{st0 b s st rows K} hc h=>?_⟩
 simp only [Ic,Mk,Ml,Mm,Rd.Al,Rd.AD,Rd.wp_seq,Rd.wp_ret] at h
 have U:=hc.mu
 refine pB Tryz.func86 ?_
 repeat' ((conv=>whnf);(first|refine A6 ?_|refine A7 ?_ ?_|refine A8 ?_ ?_|refine M1 ?_|refine RI ?_ ?_|refine JK ?_|refine Jx ?_ ?_|exact Ga|refine Ro ?_|refine Rn ?_|refine Ac ?_|refine FG.go (by first|exact AV.q|exact (Eo (ks:=[2,4]) rfl).a|exact (eL (o:=true)).a) ?_ ?_|refine Cx.Hj (l:=[_]) (Cx.push ‹_› [_]) (Nat.le_of_ble_eq_true rfl) ?_)<;>intros)
theorem Xs (hf:AV enc 173 (λb=>[pv b d]) F):AV enc 93 (λb=>[pv b d]) (H5 F):=by
 refine ⟨λ{st0 b s st rows K} hc h=>?_⟩
 simp only [H5,J0,Mj,H4,J1,Rd.Al,Rd.AD,Rd.wp_seq,Rd.wp_ret,oo] at h
 have U:=hc.mu
 refine pB Tryz.func93 ?_
 repeat' ((conv=>whnf);(first|exact tB ‹_› ‹_›|refine tZ ‹_› ‹_› ‹_› Do ?_ ?_|refine ll ‹_› ‹_› ‹_› Do ?_|refine A6 ?_|refine A7 ?_ ?_|refine A8 ?_ ?_|refine M1 ?_|refine RI ?_ ?_|refine JK ?_|refine Jx ?_ ?_|refine vj ?_|exact Ga|refine Ro ?_|refine Rn ?_|refine Ac ?_|refine FG.go (by first|exact AV.q|exact (Eo (ks:=[1]) rfl).a|exact NI.a) ?_ ?_|refine Pv (Cx.has ‹_›) ?_ ?_|refine iy ‹_› ‹_› AC ?_|refine Cx.Hj (l:=[_]) (Cx.push ‹_› [_]) (Nat.le_of_ble_eq_true rfl) ?_)<;>intros)
theorem Ut (hw:AV enc 161 (λb=>[pv b d]) W):AV enc 92 (λb=>[pv b d]) (GR W):=by
 refine ⟨λ{st0 b s st rows K} hc h=>?_⟩
 simp only [GR,Rd.wp_seq,Rd.wp_ret] at h
 have hmu:=hc.mu
 refine pB Tryz.func92 ?_
 repeat' ((conv=>whnf);first|exact CU|(refine A6 ?_;intros)|(refine CV ?_ ?_ ?_;rotate_left)|(refine A7 ?_ ?_<;>intro e h)|(refine A8 ?_ ?_<;>intro _)|(refine JK ?_;intro s1 U hz hm hc h)|(refine Jx ?_ ?_<;>(first|intro n s1 U hr hm hc h|intro e s1 U hc h))|exact Ga|refine Ro ?_|refine Ac (λe1=>?_)|refine Iz (l:=[_,_]) (fs:=[pv b d]) (cs:=[]) hw.z (Nat.le_of_ble_eq_true rfl) (hc.push _) h (λl own1 s1 U hm hc h=>?_) (λe s1 U hc h=>?_)|refine Af [(0,true),(1,true),(3,true),(4,true),(2,false),(5,false),(6,true),(7,true)] [] GE ?_|with_reducible refine WF ?_)
end
theorem Cx.qw {st:St} {c:Nat} {cs':List V} (h:Cx (st0.Aa c cs) b s st rows) (U:c≠b):Cx (st0.Aa c cs') b s (st.Aa c cs') rows:=by
 obtain ⟨c0,hr⟩:=h.rx
 refine ⟨?_,⟨c0,?_⟩,h.mu⟩
 .rcases h.has with e|⟨q1,q2,q3,q4,q5,e⟩
  .exact .inl (by rw [St.As U];exact e)
  .exact .inr ⟨q1,q2,q3,q4,q5,by rw [St.As U];exact e⟩
 .rw [Q4 U] at hr |-
  exact hr.Aa
section
variable {st0 st:St} {b d c:Nat} {s:Ad} {rows:List (AJ×List Nd)} {K R:AA->St->Prop} {A B C D E F:Rd Nd}
attribute [local irreducible] Go.Aw.Ah
theorem pF (h1:AV enc 86 (λb=>[pv b d]) Ic) (h2:AV enc 87 (λb=>[pv b d]) (Iy B C)) (h3:AV enc 88 (λb=>[pv b d]) (RT A B C)) (h4:AV enc 89 (λb=>[pv b d]) (Ii A B C))
 (h5:AV enc 90 (λb=>[pv b d]) (M9 B F)) (h6:AV enc 91 (λb=>[pv b d]) (GV B F)) (h7:AV enc 92 (λb=>[pv b d]) (GR C)) (h8:AV enc 93 (λb=>[pv b d]) (H5 D))
 (he:AV enc 84 (λb=>[.ptr b 0,.func 85 [] [],.int .i64 (d:Int)]) E):AV enc 40 (λb=>[pv b d]) (Q8 A B C D E F):=by
 refine ⟨λ{st0 b s st rows K} hc h=>?_⟩
 simp only [Q8,Rd.Al,Rd.AD] at h
 have U:=hc.mu
 refine pB Tryz.func40 ?_
 repeat' ((conv=>whnf);(first|refine A6 ?_|refine A7 ?_ ?_|refine A8 ?_ ?_|refine M1 ?_|exact Ga|refine Ac ?_|refine FG.go (by first|exact AV.q) ?_ ?_)<;>intros)
theorem fP {c2:Nat} {Q:Nd->Ad->Prop} {E:Er->Ad->Prop} (ht:AV enc 40 (λb=>[pv b d]) A) (hF:Rd.AR A) (f2:st0.box c2=none/\c2≠b)
 (hc:Cx (st0.Aa c2 [.bool (l.any λx=> !(x.kind==50))]) b s st rows) (h:Rd.wp (D1 A l) s Q E)
 (k:∀n s1 U,mu s1<mu s->Cx (st0.Aa c2 [.bool ((l++[n]).any λx=> !(x.kind==50))]) b s1 U rows->Q n s1->K (.ret (enc n)) U)
 (kb:∀e s1 U,Cy st0 b s1 U rows->E e s1->K (.B0 (fault e.1)) U):PC 71 [tO b d,.ptr c2 0] st K:=by
 simp only [D1,Rd.Al,Rd.wp_seq,Rd.AD,Rd.wp_ret,Rd.GX] at h
 simp only [List.any_append,List.any_cons,List.any_nil,Bool.or_false] at k
 have hmu:=hc.mu
 generalize (l.any λx=> !(x.kind==50))=o at hc h k
 refine A5 Ae [] Tryz.func71 rfl Do rfl ?_
 refine Ak (An Ae ?_)
 repeat' ((conv=>whnf);(first|refine A6 ?_|refine A7 ?_ ?_|refine A8 ?_ ?_|fail)<;>intros)
 refine Ak (An Ae ?_)
 repeat' ((conv=>whnf);first|(refine A6 ?_;intros)|(refine A7 ?_ ?_<;>intro e h)|(refine A8 ?_ ?_<;>intro _)|refine Cd ?_|exact Ga|refine Ac (λe1=>?_)|refine Pv hc.has ?_ (λt u o1 o2 e=>?_))
 all_goals refine Ak (An Ae ?_)
 all_goals (repeat' ((conv=>whnf);first|(refine A6 ?_;intros)|(refine A7 ?_ ?_<;>intro e h)|(refine A8 ?_ ?_<;>intro _)|refine Cd ?_|exact Ga|refine Ac (λe1=>?_)|refine AV.qf ht hF hc h (λn s1 U hr hm hc h=>?_) (λe s1 U hc h=>?_)|exact ⟨_,_,.inl rfl,St.le_refl _,kb _ _ _ (hc.unbox f2) h⟩|fail))
 all_goals cases hk:n.kind==50
 all_goals cases o
 all_goals simp only [hk,Bool.and_false,Bool.and_true,Bool.false_and,Bool.true_and,Bool.false_eq_true,if_false,if_true] at h
 all_goals have hk2:=hk
 all_goals simp only [beq_iff_eq,beq_eq_false_iff_ne] at hk2
 all_goals refine An Ae ?_
 all_goals (repeat' ((conv=>whnf);first|(refine A6 ?_;intros)|(refine A7 ?_ ?_<;>intro e h)|(refine A8 ?_ ?_<;>intro _)|refine Au (Cx.boxed hc f2) ?_|refine F5 hc hmu (λU hc=>?_)|refine Cd ?_|exact BJ rfl (k _ _ _ hm (by rw [hk]<;>exact Cx.qw hc f2.2) h)|exact BJ rfl (k _ _ _ hm (by exact Cx.qw hc f2.2) h)|exact ⟨_,_,.inl rfl,St.le_refl _,kb _ _ _ (hc.y.unbox f2) h⟩|fail))
theorem Ym {X:Ad->Rs} {hle:∀s v s',X s=.inr (v,s')->mu s'<=mu s} (h:∀s v s',X s=.inr (v,s')->mu s'<mu s):Rd.AR (Jf X hle):=λs v s' e=>h s v s' (by
 unfold Jf at e
 dsimp only at e
 split at e
 .split at e<;>cases e
 .rename_i U;rw [U];injection e with e;rw [e])
theorem ug {A:Rd Nd} {hle:∀s v s',Dy A s=.inr (v,s')->mu s'<=mu s} {Q:Nd->Ad->Prop} {E:Er->Ad->Prop} (h:Rd.wp A s Q E):Rd.wp (Jf (Dy A) hle) s Q E:=by
 have e:(Jf (Dy A) hle).run s=A.run s:=by
  unfold Jf Dy
  dsimp only
  cases U:A.run s with
  |inl p=>simp only [U];rw [dif_neg p.1.2]
  |inr p=>simp only [U]
 unfold Rd.wp at h |-
 rw [e];exact h
theorem qh {A:Rd Nd} (hf:Dd g (d:Int) (Dy A)) (U:d=0->∀s,Dy A s=.inl (2,s)):AV enc 84 (λb=>[.ptr b 0,.func g [] [],.int .i64 (d:Int)]) A:=
 ⟨λ{st0 b s st rows K} hc h=>(Mn (A:=Dy A) (hle:=λs v s' e=>by
   unfold Dy at e
   split at e
   .cases e
   .rename_i p hp;cases e;exact A.le _ _ _ hp) (λs e s' he=>by
   unfold Dy at he
   split at he
   .rename_i p hp;cases he;exact p.1.2
   .cases he) hf U).ap hc (ug h)⟩
theorem cX (U:1<=d) (h1:d<=100):AV enc 84 (λb=>[.ptr b 0,.func 85 [] [],.int .i64 (d:Int)]) (RV d):=
 qh (λs hm st R h=>pT (deep:=(d:Int)) hm (by rw [RZ U h1];exact h)) (λe=>by omega)
theorem Yx (U:d<=100):AV enc 84 (λb=>[.ptr b 0,.func 228 [] [],.int .i64 (d:Int)]) (Td d):=
 qh (λs hm st R h=>lY (deep:=(d:Int)) hm (by
  cases d with
  |zero=>exact h
  |succ d=>rw [RZ (Nat.succ_le_succ (Nat.zero_le d)) U];exact h)) (λe=>by subst e;intro s;rfl)
theorem pk (h0:1<=d) (U:d<=100):AV enc 40 (λb=>[pv b d]) (Xw d):=by
 have ha:=lp h0 U
 have hr:=pw h0 U
 have hw:=eR h0 U
 have hA:Rd.AR (HV d):=Ym λs v s' e=>BI (Bo _) _ _ _ e
 have hc:=Zt hA (lJ ha) (eH (Re ha) hw)
 have hd:AV enc 84 (λb=>[.ptr b 0,.func 228 [] [],.int .i64 ((d:Int) - 1)]) (Td (d - 1)):=by
  have:=Yx (d:=d - 1) AC
  rwa [show (((d - 1:Nat)):Int)=(d:Int) - 1 by omega] at this
 exact pF Xt (XC hr hw NH) (lr hc hr) (Xv hc hr) (ez hr hd U) (Uv hr hd U) (Ut hw) (Xs (ly h0 U)) (cX h0 U)
theorem ey (ht:AV enc 40 (λb=>[pv b d]) A) (hF:Rd.AR A):AV enc 28 (λb=>[pv b d]) (CJ A):=by
 refine ⟨λ{st0 b s st rows K} hc h=>?_⟩
 refine A5 Ae [] Tryz.func28 rfl Do rfl ?_
 refine Ak (An Ae ?_)
 repeat' ((conv=>whnf);(first|refine A6 ?_|refine A7 ?_ ?_|refine A8 ?_ ?_|fail)<;>intros)
 refine SQ 1 0 rfl rfl rfl ?_
 refine Ak (An Ae ?_)
 repeat' ((conv=>whnf);(first|refine A6 ?_|refine A7 ?_ ?_|refine A8 ?_ ?_|fail)<;>intros)
 refine Lj 3 2 rfl rfl rfl (λc fc=>?_)
 have U:=hc.Tw fc
 have hc:=hc.T5 (cs:=[.bool false]) fc
 have hB:∀{K:AA->St->Prop},Rd.wp (CJ A) s (λn s'=>∀(l:List Nd) st',Cx (st0.Aa c [.bool (l.any λx=> !(x.kind==50))]) b s' st' rows->K (.ret (enc n)) st') (λe s'=>∀st',Cy st0 b s' st' rows->K (.B0 (fault e.1)) st')->PC 69 [.ptr b 0,.func 70 [] [],.func 71 [] [tO b d,.ptr c 0]] (st.Aa c [.bool false]) K:=λh=>
  RN (fs:=[]) (cs:=[tO b d,.ptr c 0]) (starts:=Gt) (base:=λl=>st0.Aa c [.bool (l.any λx=> !(x.kind==50))]) (item:=D1 A) (λk=>eQ k)
   (λl s st rows K Q E hc h k kb=>fP ht hF U hc h k kb) (λhc=>hc.unbox U) hc h
 refine An Ae ?_
 repeat' ((conv=>whnf);first|(refine A6 ?_;intros)|(refine A7 ?_ ?_<;>intro e h)|(refine A8 ?_ ?_<;>intro _)|refine hB (Rd.wp_mono h (λv s' r q l st' hk=>?_) (λe s' r q st' hk=>?_))|exact C6 (hk.unbox U) q rfl|exact C6 (hk.unbox U) q Ca|exact BP hk q|fail)
theorem Zs (U:1<=d) (h1:d<=100):AV enc 28 (λb=>[pv b d]) (Dp d):=ey (pk U h1) (P1 d)
end
section
variable {st0 st:St} {b d c:Nat} {s:Ad} {K R:AA->St->Prop}
theorem pz {A:Rd Nd} (hA:AV enc g (λb=>[pv b d]++cs) A) (hx:st.box c=some [.func g [] cs]) (hs:Has st b s) (hm:mu s<=100000000) (ht:EJ st b K (Dy A s)):PC 68 [.ptr b 0,.int .i64 (d:Int),.ptr c 0] st K:=by
 have U:∀{K:AA->St->Prop},EJ st b K (Dy A s)->PC g ([pv b d]++cs) st K:=λh=>Xq hA hs hm h
 refine pB Tryz.func68 ?_
 unfold Dy at *
 cases hr:A.run s with
 |inl p=>
  rw [hr] at ht U
  repeat' ((conv=>whnf);first|(refine A6 ?_;intros)|(refine A7 ?_ ?_<;>intro e h)|(refine A8 ?_ ?_<;>intro _)|refine Au hx ?_|refine Bh.2 ?_|refine U (λst1 hu=>?_))
  all_goals exact ⟨_,_,.inl rfl,St.le_refl _,ht _ hu⟩
 |inr p=>
  rw [hr] at ht U
  repeat' ((conv=>whnf);first|(refine A6 ?_;intros)|(refine A7 ?_ ?_<;>intro e h)|(refine A8 ?_ ?_<;>intro _)|refine Au hx ?_|refine Bh.2 ?_|refine U (λst1 hu=>?_))
  all_goals exact BJ rfl (ht _ hu)
theorem sQ {deep:Int} {A:Nat->Rd Nd} (hA:∀d:Nat,1<=d->d<=100->AV enc g (λb=>[pv b d]++cs) (A d)) (hm:mu s<=100000000) (h:K (.ret (NZ (B8 s deep (Dy (A (Dt deep)) s)))) st):
 PC 27 [DJ s,.int .i64 deep,.func g [] cs] st K:=by
 refine A5 Ae [] Tryz.func27 rfl Do rfl ?_
 refine Ak (An Ae ?_)
 repeat' ((conv=>whnf);(first|refine A6 ?_|refine A7 ?_ ?_|refine A8 ?_ ?_|fail)<;>intros)
 refine Lj 5 1 rfl rfl rfl (λc fc=>?_)
 refine An Ae ?_
 have hq:¬deep<1->∀(b:Nat) (U:St) (R:AA->St->Prop),(st.Aa c [.func g [] cs]).le U->Has U b s->EJ U b R (Dy (A (Dt deep)) s)->PC 68 [.ptr b 0,.int .i64 (if 100<deep then 100 else deep),.ptr c 0] U R:=λhd b U R hle hs ht=>by
  have e:(if 100<deep then 100 else deep)=((Dt deep:Nat):Int):=by unfold Dt;split<;>omega
  rw [e]
  exact pz (hA _ (by unfold Dt;split<;>omega) (by unfold Dt;split<;>omega)) (hle.1 _ _ (St.Ai ..)) hs hm ht
 obtain ⟨n,s',e,hq3⟩:∃n s' e,B8 s deep (Dy (A (Dt deep)) s)=(n,s',e):=⟨_,_,_,rfl⟩
 rw [hq3] at h
 have hcat:∀{K:AA->St->Prop},K (.ret (NY n s' e)) (st.Aa c [.func g [] cs])->PC 67 [DJ s,.int .i64 deep,.func 68 [] [.ptr c 0]] (st.Aa c [.func g [] cs]) K:=λk=>ZU (s:=s) (q:=Dy (A (Dt deep)) s) hq (by rw [hq3];exact k)
 repeat' ((conv=>whnf);(first|refine A6 ?_|refine A7 ?_ ?_|refine A8 ?_ ?_|refine hcat ?_)<;>intros)
 all_goals exact EH (St.Ar (St.le_refl _) fc.1 _) rfl h
theorem eZ {deep:Int} (hm:mu s<=100000000) (h:K (.ret (NZ (B8 s deep (Dy (Dp (Dt deep)) s)))) st):PC 12 [DJ s,.int .i64 deep] st K:=by
 refine pB Tryz.func12 ?_
 repeat' ((conv=>whnf);(first|refine A6 ?_|refine A7 ?_ ?_|refine A8 ?_ ?_|refine sQ (s:=s) (cs:=[]) (A:=Dp) (λd U h1=>Zs U h1) hm ?_)<;>intros)
 all_goals exact BJ rfl h
end
def bX (l:List Tk):Prop:=∀t ∈ l,t.text.length<=100000000/\ -1000000000<=t.line/\t.line<=1000000000
theorem bX.at {l:List Tk} (h:bX l) (e:l[i]? =some t):t.text.length<=100000000/\ -1000000000<=t.line/\t.line<=1000000000:=h t (List.mem_of_getElem? e)
theorem qJ {L:Nat} {r:Loop} {Im:Mem} {v:V} {m:Int} {st:St} {K K':St->Prop} (h:YS Tryz.prog L r Im [v,.int .i64 U] st K) (e:U=m) (k:∀st,K st->K' st):YS Tryz.prog L r Im [v,.int .i64 m] st K':=by subst e;exact h.mono k
section
variable {st:St} {l:List Tk} {own:AJ} {c L:Nat} {r:Loop} {Im:Mem}
attribute [local irreducible] Go.Aw.Ah
theorem rJ (hok:bX l) (hn:l.length<=100000000) {J:Nat->St->Prop} (hJ:∀i st,J i st->st.box c=some [.slice 4 (Az l) own]) (hY:∀i st,i<l.length->J i st->YS Tryz.prog L r Im [.int .i64 (i:Int),.int .i64 (Fu l i)] st (J (i+1))) (h0:J 0 st)
 {I:Mem} {w:World} {cargs:List Value} (hm:Im.le I) (hs:Ct I st w) (U:Aj I [.ptr c 0] cargs) (hl:w.heap[L]? =some (.loop r)) (hi:Idle L st):
 Calls Tryz.prog 150 (Value.func (.yield L) #[] #[]::cargs).toArray w λe w'=>(∃v,e=.returned v)/\∃I' st',Fr I st w I' st' w'/\Ct I' st' w'/\J l.length st':=by
 refine S7 Ae Tryz.func150 rfl rfl (r:=r) (Im:=Im) (args:=[.fj L,.ptr c 0]) (K:=J l.length) rfl ?_ hm hs (by
  simp only [Aj] at U |-
  exact ⟨_,_,rfl,by simp only [AK],U⟩) hl hi
 have hb:=hJ 0 st h0
 refine F3 (Pj.of (An Ae ?_))
 repeat' ((conv=>whnf);first|exact Db|(refine Bv ?_;intros)|(refine Dc ?_ ?_ ?_;rotate_left)|(refine Bw ?_ ?_<;>intro _)|refine Au hb ?_|with_reducible refine WF ?_)
 refine RF ?_
 refine fo ?_
 refine Qm (α:=Nat×St) (λx=>[(8,.int .i64 (x.1:Int))]) (λ_=>[]) [0,1,6,7] [] (λx=>x.2) (λx=>x.1<=l.length/\J x.1 x.2) (λx=>l.length - x.1) (0,st) ⟨Nat.zero_le _,h0⟩ Yl (St.le_refl _) ?_
 rintro ⟨i,st1⟩ ⟨hi1,hj⟩
 dsimp only at hi1 hj |-
 have hb1:=hJ i st1 hj
 refine F3 (Pj.of (An Ae ?_))
 by_cases hlt:i<l.length
 .obtain ⟨t,ht⟩:∃t,l[(i:Int).toNat]? =some t:=⟨_,List.getElem?_eq_getElem AC⟩
  have ht':l[i]? =some t:=ht
  have hlt2:(i:Int)<(l.length:Int):=AC
  repeat' ((conv=>whnf);first|exact Db|(refine Bv ?_;intros)|(refine Dc ?_ ?_ ?_;rotate_left)|(refine Bw ?_ ?_<;>intro _)|with_reducible refine WF ?_)
  refine F3 (Pj.of (An Ae ?_))
  repeat' ((conv=>whnf);first|exact Db|(refine Bv ?_;intros)|(refine Dc ?_ ?_ ?_;rotate_left)|(refine Bw ?_ ?_<;>intro _)|with_reducible refine WF ?_)
  refine F3 ?_
  refine RF ?_
  refine F3 (Pj.of (An Ae ?_))
  repeat' ((conv=>whnf);first|exact Db|(refine Bv ?_;intros)|(refine Dc ?_ ?_ ?_;rotate_left)|(refine Bw ?_ ?_<;>intro _)|with_reducible refine WF ?_)
  refine F3 (Pj.of (An Ae ?_))
  repeat' ((conv=>whnf);first|exact Db|(refine Bv ?_;intros)|(refine Dc ?_ ?_ ?_;rotate_left)|(refine Bw ?_ ?_<;>intro _)|with_reducible refine WF ?_)
  have hy:=hY i st1 hlt hj
  refine F3 (Pj.of (An Ae ?_))
  have ho:=hok.at ht'
  clear hY U hs hm hl hi
  by_cases hz:i=0
  .subst hz
   have hma:Fu l 0=if (Yy t 9 [109,111,100,117,108,101]||Yy t 15 [123])=true then 17 else 16:=by unfold Fu;rw [ht'];rfl
   repeat' ((conv=>whnf);first|exact Db|(refine Bv ?_;intros)|(refine Dc ?_ ?_ ?_;rotate_left)|(refine Bw ?_ ?_<;>intro _)|refine qj ?_|with_reducible refine WF ?_)
   all_goals refine F3 (ZH Ae 3 rfl rfl rfl rfl rfl ?_)
   all_goals (repeat' ((conv=>whnf);first|exact Db|(refine Bv ?_;intros)|(refine Dc ?_ ?_ ?_;rotate_left)|(refine Bw ?_ ?_<;>intro _)|refine ⟨rfl,?_⟩|refine qJ hy (by rw [hma]<;>simp [*]) (λst2 hj2=>?_)|with_reducible refine WF ?_))
   all_goals refine Pj.of (An Ae ?_)
   all_goals (repeat' ((conv=>whnf);first|exact Db|(refine Bv ?_;intros)|(refine Dc ?_ ?_ ?_;rotate_left)|(refine Bw ?_ ?_<;>intro _)|with_reducible refine WF ?_))
   all_goals refine Pj.of (An Ae ?_)
   all_goals (repeat' ((conv=>whnf);first|exact Db|(refine Bv ?_;intros)|(refine Dc ?_ ?_ ?_;rotate_left)|(refine Bw ?_ ?_<;>intro _)|with_reducible refine WF ?_))
   all_goals conv=>whnf
   all_goals exact ⟨(0+1,st2),⟨hlt,hj2⟩,bl,Yl,St.le_refl _⟩
  .obtain ⟨p,hp⟩:∃p,l[((i:Int) - 1).toNat]? =some p:=⟨_,List.getElem?_eq_getElem AC⟩
   have hp':l[i - 1]? =some p:=by rw [<-hp];congr 1;omega
   have hop:=hok.at hp'
   have hma:Fu l i=VE (some p) t:=by unfold Fu ahead;rw [ht',if_neg hz,hp']
   unfold VE at hma
   have hz2:¬(i:Int)=0:=AC
   repeat' ((conv=>whnf);first|exact Db|(refine Bv ?_;intros)|(refine Dc ?_ ?_ ?_;rotate_left)|(refine Bw ?_ ?_<;>intro _)|refine Au hb1 ?_|refine qj ?_|refine Qr ?_|refine rm hop.1 hop.2.1 hop.2.2 ?_|refine Af [(0,true),(1,true),(2,true),(3,true),(4,true),(5,true),(6,true),(7,true),(8,true),(9,true),(10,true),(11,true),(12,true),(13,true),(14,true),(15,true),(16,true),(17,false),(18,true),(19,true),(20,true)] [] GE ?_|with_reducible refine WF ?_)
   all_goals refine F3 (ZH Ae 3 rfl rfl rfl rfl rfl ?_)
   all_goals (repeat' ((conv=>whnf);first|exact Db|(refine Bv ?_;intros)|(refine Dc ?_ ?_ ?_;rotate_left)|(refine Bw ?_ ?_<;>intro _)|refine ⟨rfl,?_⟩|refine qJ hy (by rw [hma]<;>simp [*]) (λst2 hj2=>?_)|with_reducible refine WF ?_))
   all_goals refine Pj.of (An Ae ?_)
   all_goals (repeat' ((conv=>whnf);first|exact Db|(refine Bv ?_;intros)|(refine Dc ?_ ?_ ?_;rotate_left)|(refine Bw ?_ ?_<;>intro _)|with_reducible refine WF ?_))
   all_goals refine Pj.of (An Ae ?_)
   all_goals (repeat' ((conv=>whnf);first|exact Db|(refine Bv ?_;intros)|(refine Dc ?_ ?_ ?_;rotate_left)|(refine Bw ?_ ?_<;>intro _)|with_reducible refine WF ?_))
   all_goals conv=>whnf
   all_goals exact ⟨(i+1,st2),⟨hlt,hj2⟩,bl,Yl,St.le_refl _⟩
 .have hlt2:¬(i:Int)<(l.length:Int):=AC
  obtain rfl:i=l.length:=AC
  repeat' ((conv=>whnf);first|exact Db|(refine Bv ?_;intros)|(refine Dc ?_ ?_ ?_;rotate_left)|(refine Bw ?_ ?_<;>intro _)|with_reducible refine WF ?_)
  refine F3 (Pj.of (An Ae ?_))
  repeat' ((conv=>whnf);first|exact Db|(refine Bv ?_;intros)|(refine Dc ?_ ?_ ?_;rotate_left)|(refine Bw ?_ ?_<;>intro _)|with_reducible refine WF ?_)
  all_goals conv=>whnf
  all_goals exact ⟨.inl rfl,hj⟩
end
end Go.Proofs.Z
namespace Go.Aw
theorem AJ.NF {own:AJ} {n:Nat}:(own.st S n).box=S.box:=by cases own<;>rfl
theorem AJ.Up {own:AJ} {n:Nat}:(own.st S n).Aa b C=own.st (S.Aa b C) n:=by cases own<;>rfl
theorem Xk {own:AJ} {n:Nat}:(own.st (S.Aa b C) n).box b=some C:=by rw [AJ.NF];simp [St.Aa]
theorem AJ.H9 {own:AJ} (h:own.BM S) (hb:S.box b≠none):own.BM (S.Aa b C):=by
 cases own with
 |any=>exact h
 |full=>exact trivial
 |tok t=>
  have h:S.fresh t:=h
  refine (show (S.Aa b C).fresh t from ⟨?_,h.2⟩)
  have:t≠b:=by rintro rfl;exact hb h.1
  simp only [St.Aa]
  rw [if_neg this];exact h.1
theorem AJ.P9 {own:AJ} {D:List V} (h:own.BM (S.Aa b C)):own.BM (S.Aa b D):=by
 cases own with
 |any=>exact h
 |full=>exact trivial
 |tok t=>
  have h:(S.Aa b C).fresh t:=h
  refine (show (S.Aa b D).fresh t from ⟨?_,h.2⟩)
  have U:=h.1
  simp only [St.Aa] at U |-
  split at U
  .cases U
  .rename_i e;rw [if_neg e];exact U
end Go.Aw
namespace Go.Proofs.Z
open Go Go.Aw
theorem F4 (l:List Tk):(Az l).length=l.length:=by unfold Az;rw [List.length_map]
theorem LV {l:List Tk} {x:Tk} {own:AJ} {st:St} {K:V->St->Prop} (h:own.BM st) (hb:l.length+1<=1000000000)
 (k:∀U:AJ,U.BM st->K (.slice 4 (Az (l++[x])) U) (U.st st ((l++[x]).length*4))):Ah 4 40 (Az l) own [x.cells] (own.st st (l.length*4)) K:=by
 have:=El (sz:=4) (bytes:=40) (es:=Az l) (new:=[x.cells]) (K:=K) h (by rw [F4];show (l.length+1)*40<=_;omega) (by rw [F4];show l.length+1<C9;simp only [C9];omega) rfl (λU ho=>by
  have:=k U ho
  rw [F4]
  have e:Az l++[x.cells].map (·.map V.JI)=Az (l++[x]):=by unfold Az;rw [List.map_append];rfl
  rw [e]
  rw [List.length_append] at this
  exact this)
 rw [F4] at this
 exact this
abbrev sV (m:Int) (t:Tk):Tk:=⟨m,[],t.line,t.Cu⟩
theorem cq {st:St} (U:∀(st:St) (K:AA->St->Prop),K (.ret (.bool c)) st->PC f args st K) (e:c=true) (k:K (.ret (.bool true)) st):PC f args st K:=U st K (by rw [e];exact k)
theorem fQ {st:St} (U:∀(st:St) (K:AA->St->Prop),K (.ret (.bool c)) st->PC f args st K) (e:c=false) (k:K (.ret (.bool false)) st):PC f args st K:=U st K (by rw [e];exact k)
theorem HZ {st:St} {c:Nat} (h:b≠c):(st.Aa b cs).box c=st.box c:=by simp [St.Aa,Ne.symm h]
theorem mf {l:List Tk} {x:Tk} {own:AJ} {K:V->St->Prop} (h:own.BM (S.Aa b C)) (hb:l.length+1<=1000000000)
 (k:∀U:AJ,U.BM (S.Aa b C)->K (.slice 4 (Az (l++[x])) U) (U.st (S.Aa b C) ((l++[x]).length*4))):Ah 4 40 (Az l) own [x.cells] ((own.st S (l.length*4)).Aa b C) K:=by
 rw [AJ.Up];exact LV h hb k
theorem Qo:∀(a:List Tk) (p:Option Tk) (t:Tk),D3 p (a++[t])=D3 p a++markT (VE (a.getLast?.or p) t) t
 |[],p,t=>by simp [D3]
 |x::r,p,t=>by
  rw [List.cons_append,D3,Qo r (some x) t,D3,List.append_assoc]
  congr 3
  cases r with
  |nil=>rfl
  |cons y r=>rw [List.getLast?_cons_cons];cases h:(y::r).getLast? with
   |none=>simp at h
   |some z=>rfl
theorem Nl:∀(a:List Tk) (p:Option Tk),(D3 p a).length<=2*a.length
 |[],p=>Nat.le_refl _
 |x::r,p=>by
  have:=Nl r (some x)
  rw [D3,List.length_append,List.length_cons]
  unfold markT
  split<;>simp only [List.length_cons,List.length_nil]<;>omega
theorem YK {l:List Tk} (h:l[i]? =some t):D3 none (l.take (i+1))=D3 none (l.take i)++markT (Fu l i) t:=by
 have U:=(List.getElem?_eq_some_iff.1 h).1
 have e:l.take (i+1)=l.take i++[t]:=by rw [List.take_add_one,h];rfl
 rw [e,Qo]
 congr 3
 unfold Fu ahead
 rw [h]
 dsimp only
 congr 1
 cases i with
 |zero=>rfl
 |succ i=>
  rw [if_neg AC,List.getLast?_take,if_neg AC]
  have:l[i+1 - 1]? =some l[i]:=by rw [Nat.add_sub_cancel];exact List.getElem?_eq_getElem AC
  rw [this];rfl
section
variable {st:St} {l:List Tk} {own:AJ} {K:AA->St->Prop}
attribute [local irreducible] Go.Aw.Ah
theorem od (hok:bX l) (hn:l.length<=100000000) (h:K (.ret (.slice 4 (Az (ED l)) .any)) st):PC 39 [.slice 4 (Az l) own] st K:=by
 refine A9.ends (T1 Ae Tryz.func39 rfl Do rfl ?_)
 refine An Ae ?_
 repeat' ((conv=>whnf);first|exact Db|(refine Bv ?_;intros)|(refine Dc ?_ ?_ ?_;rotate_left)|(refine Bw ?_ ?_<;>intro _)|refine JP (λ_=>?_) ?_|with_reducible refine WF ?_)
 refine An Ae ?_
 repeat' ((conv=>whnf);first|exact Db|(refine Bv ?_;intros)|(refine Dc ?_ ?_ ?_;rotate_left)|(refine Bw ?_ ?_<;>intro _)|refine JP (λ_=>?_) ?_|refine ⟨⟨AC,AC,AC,(by unfold C9<;>omega)⟩,.inl ⟨rfl,λb0 f0=>?_⟩⟩|with_reducible refine WF ?_)
 refine An Ae ?_
 repeat' ((conv=>whnf);first|exact Db|(refine Bv ?_;intros)|(refine Dc ?_ ?_ ?_;rotate_left)|(refine Bw ?_ ?_<;>intro _)|refine JP (λ_=>?_) ?_|refine o9 (λc fc=>?_)|with_reducible refine WF ?_)
 conv=>whnf
 refine fe.u6 1 0 rfl rfl rfl (λb1 f1=>?_)
 refine fe.u6 3 1 rfl rfl rfl (λb3 f3=>?_)
 refine fe.here ?_
 obtain ⟨S,hS⟩:∃S,S=(st.Aa c [.slice 4 (Az l) own]).Aa b1 [.slice 4 (Az l) own]:=⟨_,rfl⟩
 have n0c:c≠b0:=by
  rintro rfl
  have:=fc.2
  simp [St.B3] at this
 have n01:b1≠b0:=by
  rintro rfl
  have:=f1.2
  simp [St.B3,St.Aa] at this
 have n03:b3≠b0:=by
  rintro rfl
  have:=f3.2
  simp [St.B3,St.Aa] at this
 have nc1:b1≠c:=by
  rintro rfl
  have:=f1.1
  rw [St.Ai] at this;cases this
 have n31:b3≠b1:=by
  rintro rfl
  have:=f3.1
  rw [St.Ai] at this;cases this
 have n3c:b3≠c:=by
  rintro rfl
  have:=f3.1
  rw [HZ (Ne.symm n31),St.Ai] at this;cases this
 have fc0:st.box c=none:=fc.1
 have f10:st.box b1=none:=by have:=f1.1;rw [HZ (Ne.symm nc1)] at this;exact this
 have f30:st.box b3=none:=by have:=f3.1;rw [HZ (Ne.symm n31),HZ (Ne.symm n3c)] at this;exact this
 have hSc:S.box c=some [.slice 4 (Az l) own]:=by rw [hS,HZ nc1,St.Ai]
 have hS1:S.box b1=some [.slice 4 (Az l) own]:=by rw [hS,St.Ai]
 have hle:∀X,st.le (S.Aa b3 X):=λX=>by
  rw [hS];exact St.Ar (St.Ar (St.Ar (St.le_refl _) fc0 _) f10 _) f30 _
 have hgo:AJ.BM (S.Aa b3 [.slice 4 [] (.tok b0)]) (.tok b0):=by
  refine (show (S.Aa b3 _).fresh b0 from ⟨?_,by rw [hS];exact f0.2⟩)
  rw [HZ n03,hS,HZ n01,HZ n0c];exact f0.1
 obtain ⟨J,hJ⟩:∃J:Nat->St->Prop,J=λi st'=>∃o:AJ,o.BM (S.Aa b3 [.slice 4 (Az (D3 none (l.take i))) o])/\st'=o.st (S.Aa b3 [.slice 4 (Az (D3 none (l.take i))) o]) ((D3 none (l.take i)).length*4):=⟨_,rfl⟩
 refine ⟨⟨rfl,rfl⟩,150,[.ptr c 0],J l.length,⟨rfl,⟨_,Tryz.func150,Do,Do⟩⟩,?_,?_⟩
 .intro D B Im β a wm L df fi hF I w cargs hm hs hargs hl hi
  refine rJ (own:=own) hok hn (J:=J) (λi st1 hj=>?_) (λi st1 hlt hj=>?_) ?_ hm hs hargs hl hi
  .rw [hJ] at hj
   obtain ⟨o,_,rfl⟩:=hj
   rw [AJ.NF,HZ n3c,hSc]
  .refine lZ Ae hF rfl rfl rfl Do rfl rfl ?_
   rw [hJ] at hj
   obtain ⟨o,hgo,rfl⟩:=hj
   obtain ⟨t,ht⟩:∃t,l[(i:Int).toNat]? =some t:=⟨_,List.getElem?_eq_getElem AC⟩
   have htk:=YK (l:=l) (i:=i) (t:=t) ht
   have hlen2:=Nl (l.take i) none
   have hti:(l.take i).length<=l.length:=Pi
   generalize hout:D3 none (l.take i)=out at *
   have hb3:(o.st (S.Aa b3 [.slice 4 (Az out) o]) (out.length*4)).box b3=some [.slice 4 (Az out) o]:=by rw [AJ.NF,St.Ai]
   have hb1:(o.st (S.Aa b3 [.slice 4 (Az out) o]) (out.length*4)).box b1=some [.slice 4 (Az l) own]:=by rw [AJ.NF,HZ n31,hS1]
   have hlo:out.length+1<=1000000000:=AC
   unfold bw
   by_cases hz:Fu l i=0
   .have hfin:∀o2:AJ,o2.BM (S.Aa b3 [.slice 4 (Az out) o])->J (i+1) ((o2.st (S.Aa b3 [.slice 4 (Az out) o]) ((out++[t]).length*4)).Aa b3 [.slice 4 (Az (out++[t])) o2]):=λo2 h2=>by
     rw [hJ]
     refine ⟨o2,?_,?_⟩
     .rw [htk];unfold markT;rw [if_pos hz];exact AJ.P9 h2
     .rw [htk];unfold markT;rw [if_pos hz,AJ.Up,St.set_set]
    repeat' ((conv=>whnf);first|exact Db|(refine Bv ?_;intros)|(refine Dc ?_ ?_ ?_;rotate_left)|(refine Bw ?_ ?_<;>intro _)|refine JP (λ_=>?_) ?_|refine ⟨⟨rfl,rfl⟩,?_⟩|refine Au hb3 ?_|refine Au hb1 ?_|refine LV (x:=t) hgo hlo (λo2 h2=>?_)|refine Au Xk ?_|exact hfin o2 h2|refine Af [(0,true),(1,true),(2,true),(3,true),(4,true),(5,true),(6,true),(7,true),(8,true),(9,true),(10,true),(11,true),(12,true),(13,true),(14,false),(15,false)] [1] GE ?_|refine Af [(0,true),(1,true),(2,true),(3,true),(4,true),(5,true),(6,false),(7,false)] [1] GE ?_|with_reducible refine WF ?_)
   .have hlo2:(out++[sV (Fu l i) t]).length+1<=1000000000:=by rw [List.length_append,List.length_singleton];omega
    have hfin:∀o2 o3:AJ,o2.BM (S.Aa b3 [.slice 4 (Az out) o])->o3.BM ((S.Aa b3 [.slice 4 (Az out) o]).Aa b3 [.slice 4 (Az (out++[sV (Fu l i) t])) o2])->
     J (i+1) ((o3.st ((S.Aa b3 [.slice 4 (Az out) o]).Aa b3 [.slice 4 (Az (out++[sV (Fu l i) t])) o2]) ((out++[sV (Fu l i) t]++[t]).length*4)).Aa b3 [.slice 4 (Az (out++[sV (Fu l i) t]++[t])) o3]):=λo2 o3 h2 h3=>by
     rw [hJ]
     refine ⟨o3,?_,?_⟩
     .rw [htk];unfold markT;rw [if_neg hz,St.set_set] at *;exact AJ.P9 h3
     .rw [htk];unfold markT;rw [if_neg hz,AJ.Up,St.set_set,St.set_set,List.append_assoc];rfl
    have hb1':∀(o2:AJ) n C,((o2.st (S.Aa b3 [.slice 4 (Az out) o]) n).Aa b3 C).box b1=some [.slice 4 (Az l) own]:=λo2 n C=>by rw [HZ n31,AJ.NF,HZ n31,hS1]
    repeat' ((conv=>whnf);first|exact Db|(refine Bv ?_;intros)|(refine Dc ?_ ?_ ?_;rotate_left)|(refine Bw ?_ ?_<;>intro _)|refine JP (λ_=>?_) ?_|refine ⟨⟨rfl,rfl⟩,?_⟩|refine Au hb3 ?_|refine Au hb1 ?_|refine Au (hb1' _ _ _) ?_|refine Au (St.Ai ..) ?_|refine LV (x:=sV (Fu l i) t) hgo hlo (λo2 h2=>?_)|refine mf (x:=t) (AJ.H9 h2 (by rw [St.Ai]<;>simp)) hlo2 (λo3 h3=>?_)|refine Au Xk ?_|exact hfin o2 o3 h2 h3|refine Af [(0,true),(1,true),(2,true),(3,true),(4,true),(5,true),(6,true),(7,true),(8,true),(9,true),(10,true),(11,true),(12,true),(13,true),(14,false),(15,false)] [1] GE ?_|refine Af [(0,true),(1,true),(2,true),(3,true),(4,true),(5,true),(6,false),(7,false)] [1] GE ?_|with_reducible refine WF ?_)
  .rw [hJ]
   exact ⟨.tok b0,hgo,by rw [hS];rfl⟩
 .intro st' hk
  rw [hJ,List.take_length] at hk
  obtain ⟨o,hgo,rfl⟩:=hk
  have hb3:(o.st (S.Aa b3 [.slice 4 (Az (D3 none l)) o]) ((D3 none l).length*4)).box b3=some [.slice 4 (Az (D3 none l)) o]:=Xk
  have hb1:(o.st (S.Aa b3 [.slice 4 (Az (D3 none l)) o]) ((D3 none l).length*4)).box b1=some [.slice 4 (Az l) own]:=by rw [AJ.NF,HZ n31,hS1]
  have hlen2:=Nl l none
  have hlo:(D3 none l).length+1<=1000000000:=AC
  refine An Ae ?_
  have hle1:st.le (o.st (S.Aa b3 [.slice 4 (Az (D3 none l)) o]) ((D3 none l).length*4)):=St.le_trans (hle _) (AJ.BK hgo)
  have hle2:∀(o2:AJ) (n:Nat) (C D:List V),o2.BM (S.Aa b3 C)->st.le ((o2.st (S.Aa b3 C) n).Aa b3 D):=λo2 n C D h2=>by
   rw [AJ.Up,St.set_set];exact St.le_trans (hle _) (AJ.BK (AJ.P9 h2))
  have U:∀x:List Tk,aH l=x->K (.ret (.slice 4 (Az (D3 none l++x)) .any)) st:=λx e=>by
   have:=h;unfold ED at this;rw [e] at this;exact this
  cases hlast:l.getLast? with
  |none=>
   obtain rfl:l=[]:=List.getLast?_eq_none_iff.1 hlast
   have U:=U [⟨16,[],0,0⟩] rfl
   have hz0:(([]:List Tk).length:Int)=0:=rfl
   repeat' ((conv=>whnf);first|exact Db|(refine Bv ?_;intros)|(refine Dc ?_ ?_ ?_;rotate_left)|(refine Bw ?_ ?_<;>intro _)|refine JP (λ_=>?_) ?_|refine Au hb1 ?_|refine Au hb3 ?_|refine LV (x:=⟨16,[],0,0⟩) hgo hlo (λo2 h2=>?_)|refine Au Xk ?_|refine Au (St.Ai ..) ?_|with_reducible refine WF ?_)
   all_goals conv=>whnf
   all_goals refine ⟨.inr rfl,?_⟩
   all_goals conv=>whnf
   all_goals exact ⟨_,_,.inr rfl,hle2 o2 _ _ _ h2,U⟩
  |some t=>
   have hpos:0<l.length:=List.length_pos_iff.2 (λe=>by rw [e] at hlast;cases hlast)
   have ht:l[((l.length:Nat) - 1:Int).toNat]? =some t:=by
    rw [List.getLast?_eq_getElem?] at hlast
    rw [<-hlast];congr 1;omega
   have hne:¬(l.length:Int)=0:=AC
   cases ho:Qq t with
   |true=>
    have U:=U [⟨16,[],0,0⟩] (by unfold aH;rw [hlast];simp [ho])
    repeat' ((conv=>whnf);first|exact Db|(refine Bv ?_;intros)|(refine Dc ?_ ?_ ?_;rotate_left)|(refine Bw ?_ ?_<;>intro _)|refine JP (λ_=>?_) ?_|refine Au hb1 ?_|refine Au hb3 ?_|refine cq (λst K h=>Qr h) ho ?_|refine LV (x:=⟨16,[],0,0⟩) hgo hlo (λo2 h2=>?_)|refine Au Xk ?_|refine Au (St.Ai ..) ?_|with_reducible refine WF ?_)
    all_goals conv=>whnf
    all_goals refine ⟨.inr rfl,?_⟩
    all_goals conv=>whnf
    all_goals exact ⟨_,_,.inr rfl,hle2 o2 _ _ _ h2,U⟩
   |false=>
    have U:=U [] (by unfold aH;rw [hlast];simp [ho])
    rw [List.append_nil] at U
    repeat' ((conv=>whnf);first|exact Db|(refine Bv ?_;intros)|(refine Dc ?_ ?_ ?_;rotate_left)|(refine Bw ?_ ?_<;>intro _)|refine JP (λ_=>?_) ?_|refine Au hb1 ?_|refine Au hb3 ?_|refine fQ (λst K h=>Qr h) ho ?_|with_reducible refine WF ?_)
    all_goals conv=>whnf
    all_goals refine ⟨.inr rfl,?_⟩
    all_goals conv=>whnf
    all_goals exact ⟨_,_,.inr rfl,hle1,U⟩
end
end Go.Proofs.Z
namespace Go.Proofs.Z
open Go Go.Aw
open Rd (Ap)
theorem bP {l:List Tk} (h:lz l=true):bX l:=λt U=>by
 have:=List.all_eq_true.1 h t U
 simp only [Bool.and_eq_true,decide_eq_true_eq] at this
 exact ⟨this.1,this.2.1,this.2.2⟩
theorem fY {deep:Int} {A:Nat->Rd Nd} (hd:¬deep<1) (e:(A (Dt deep)).run s=.inr (n,s')):B8 s deep (Dy (A (Dt deep)) s)=(n,s',0):=by
 unfold B8 Dy
 rw [if_neg hd,e]
section
variable {st:St} {K:AA->St->Prop}
theorem rR {s:List UInt8} {x:Lx} (hs:EO s=.inr x) (h:∀w1 w2 st',st.le st'->K (.ret (.Bz [.slice 4 (Az x.Ag) w1,.slice 5 (H3 x.notes) w2,.int .i64 0,.int .i64 0])) st'):PC 22 [.str s] st K:=by
 refine iU (λU e' he=>?_) (λU e' st' hle he=>?_) (λx w1 w2 st' he hle=>?_)
 .rw [hs] at he;cases he
 .rw [hs] at he;cases he
 .rw [hs] at he;injection he with he;subst he;exact h w1 w2 st' hle
end
theorem lq {s:List UInt8} (h:(match EO s with| .inr _=>true| .inl _=>false)=true):∃x,EO s=.inr x/\x.Ag=Mp s:=by
 unfold Mp
 cases e:EO s with
 |inl p=>rw [e] at h;cases h
 |inr x=>exact ⟨x,rfl,rfl⟩
theorem vt:∃n s',(Dp 4).run ⟨ED (Mp Zx),0,[],0⟩=.inr (n,s')/\n.kind=2/\s'.pos=(s'.Ag.length:Nat)/\∃k1 k2 k3,n.kids=[k1,k2,k3]/\k1.kids.length=7/\k2.kind=42/\k3.kind=36:=by
 have h:=tX
 cases e:(Dp 4).run ⟨ED (Mp Zx),0,[],0⟩ with
 |inl p=>rw [show (CJ (Q8 (HV 4) (MX 4) (GN 4) (C7 4) (FK (C7 4) (JL 3)) (Ds EF (FK (C7 3) (JL 2))))).run _=_ from e] at h;cases h
 |inr p=>
  obtain ⟨n,s'⟩:=p
  rw [show (CJ (Q8 (HV 4) (MX 4) (GN 4) (C7 4) (FK (C7 4) (JL 3)) (Ds EF (FK (C7 3) (JL 2))))).run _=_ from e] at h
  simp only [Bool.and_eq_true,beq_iff_eq] at h
  obtain ⟨⟨h1,h2⟩,U⟩:=h
  refine ⟨n,s',rfl,h1,h2,?_⟩
  match hk:n.kids,U with
  |[k1,k2,k3],U=>
   simp only [List.map_cons,List.map_nil,List.cons.injEq,and_true,Prod.mk.injEq] at U
   obtain ⟨⟨a,b⟩,⟨c,_⟩,d,_⟩:=U
   rw [if_pos a] at b
   exact ⟨k1,k2,k3,rfl,b,c,d⟩
  |[],U=>simp at U
  |[_],U=>simp at U
  |[_,_],U=>simp at U
  |_::_::_::_::_,U=>simp at U
theorem vu:∃e s',(Dp 4).run ⟨ED (Mp Zy),0,[],0⟩=.inl (e,s')/\e.1=120:=by
 have h:=tY
 cases e:(Dp 4).run ⟨ED (Mp Zy),0,[],0⟩ with
 |inr p=>rw [show (CJ (Q8 (HV 4) (MX 4) (GN 4) (C7 4) (FK (C7 4) (JL 3)) (Ds EF (FK (C7 3) (JL 2))))).run _=_ from e] at h;cases h
 |inl p=>
  obtain ⟨e',s'⟩:=p
  rw [show (CJ (Q8 (HV 4) (MX 4) (GN 4) (C7 4) (FK (C7 4) (JL 3)) (Ds EF (FK (C7 3) (JL 2))))).run _=_ from e] at h
  exact ⟨e',s',rfl,beq_iff_eq.1 h⟩
section
variable {st:St} {K:AA->St->Prop}
theorem bS {s:List UInt8} {x:Lx} (hs:EO s=.inr x) (hok:bX x.Ag) (hn:x.Ag.length<=100000000) (h:∀st',st.le st'->K (.ret (DJ ⟨ED x.Ag,0,[],0⟩)) st'):PC 15 [.str s] st K:=by
 refine pB Tryz.func15 ?_
 repeat' ((conv=>whnf);first|(refine Bv ?_;intros)|(refine Bw ?_ ?_<;>intro _)|refine rR hs (λw1 w2 st1 U=>?_)|refine od hok hn ?_)
 all_goals exact ⟨_,_,.inr rfl,St.le_refl _,h st1 U⟩
theorem IC {deep e:Int} (U:mu s<=100000000) (hq:B8 s deep (Dy (Dp (Dt deep)) s)=(n,s',e)) (h:K (.ret (NY n s' e)) st):PC 12 [DJ s,.int .i64 deep] st K:=eZ U (by rw [hq];exact h)
theorem Hh (h:∀st',st.le st'->K (.ret (.bool true)) st'):PC 11 [] st K:=by
 refine pB Tryz.func11 ?_
 obtain ⟨x,hx,U⟩:=lq pG
 obtain ⟨y,hy,hyt⟩:=lq pH
 have hok:=pE
 simp only [Bool.and_eq_true,decide_eq_true_eq] at hok
 obtain ⟨⟨⟨⟨⟨o1,o2⟩,o3⟩,o4⟩,o5⟩,o6⟩:=hok
 obtain ⟨n,s1,r1,a1,a3,k1,k2,k3,a4,a5,a6,a7⟩:=vt
 obtain ⟨e,s2,r2,b1⟩:=vu
 have hk0:n.kids[(0:Int).toNat]? =some k1:=by rw [a4];rfl
 have hk1:n.kids[(1:Int).toNat]? =some k2:=by rw [a4];rfl
 have hk2:n.kids[(2:Int).toNat]? =some k3:=by rw [a4];rfl
 have hkl:(n.kids.length:Int)=3:=by rw [a4];rfl
 have hk7:(k1.kids.length:Int)=7:=by rw [a5];rfl
 have hm1:mu ⟨ED x.Ag,0,[],0⟩<=100000000:=by rw [U];unfold mu;simp only [List.length_nil];omega
 have hm2:mu ⟨ED y.Ag,0,[],0⟩<=100000000:=by rw [hyt];unfold mu;simp only [List.length_nil];omega
 have c1:B8 ⟨ED x.Ag,0,[],0⟩ 4 (Dy (Dp (Dt 4)) ⟨ED x.Ag,0,[],0⟩)=(n,s1,0):=by rw [U];exact fY (A:=Dp) Do r1
 have c2:B8 ⟨ED y.Ag,0,[],0⟩ 4 (Dy (Dp (Dt 4)) ⟨ED y.Ag,0,[],0⟩)=(Hz,s2,120):=by
  rw [hyt]
  unfold B8 Dy
  rw [if_neg Do,show (Dp (Dt 4)).run _=_ from r2,<-b1]
 repeat' ((conv=>whnf);first|(refine Bv ?_;intros)|(refine Bw ?_ ?_<;>intro _)|refine bS hx (by rw [U]<;>exact bP o1) (by rw [U]<;>omega) (λst1 hle1=>?_)|refine bS hy (by rw [hyt]<;>exact bP o2) (by rw [hyt]<;>omega) (λst2 hle2=>?_)|refine IC hm1 c1 ?_|refine IC hm2 c2 ?_)
 all_goals conv=>whnf
 all_goals exact fin (h _ (St.le_trans hle1 hle2)) rfl
end
end Go.Proofs.Z
namespace Go.Proofs.Z
open Go Go.Aw
structure Tst0 (p:Tk->Bool):Prop where
 e:p ⟨21,[],0,0⟩=false
 z:p Xu=false
 k:∀a b:Tk,a.kind=b.kind->a.text=b.text->p a=p b
structure Tst (p:Tk->Bool):Prop extends Tst0 p where
 c:p ⟨15,[41],0,0⟩=false
structure qQ (p:Tk->Bool):Prop extends Tst p where
 s:p ⟨15,[59],0,0⟩=false
structure ma (p:Tk->Bool):Prop extends Tst0 p where
 b1:p ⟨15,[123],0,0⟩=false
 b2:p ⟨15,[125],0,0⟩=false
 v1:∀u:Tk,u.kind=18->p u=false
 v2:∀u:Tk,u.kind=20->p u=false
theorem Uw (h:k≠0/\k≠21):Tst0 (λt=>t.kind==k&&t.text==x):=
 ⟨by grind,by show ((0:Int)==k&&_)=false;grind,λa b U h2=>by grind⟩
theorem lN (h:k≠0/\k≠21) (hc:¬(k=15/\x=[41])):Tst (λt=>t.kind==k&&t.text==x):=
 ⟨Uw h,by
   grind⟩
theorem pC (h:k≠0/\k≠21) (hc:¬(k=15/\(x=[41]\/x=[59]))):qQ (λt=>t.kind==k&&t.text==x):=
 ⟨lN h (λe=>hc ⟨e.1,.inl e.2⟩),by
   grind⟩
theorem pD (h:k≠0/\k≠21) (hb:¬(k=15/\(x=[123]\/x=[125]))/\k≠18/\k≠20):ma (λt=>t.kind==k&&t.text==x):=
 ⟨Uw h,by
   grind,by
   grind,λu e=>by grind,λu e=>by grind⟩
theorem Oq:ma BE:=⟨⟨rfl,rfl,λa b U h2=>by unfold BE;grind⟩,rfl,rfl,λu e=>by unfold BE;grind,λu e=>by unfold BE;grind⟩
theorem Rc:qQ BE:=⟨⟨⟨rfl,rfl,λa b U h2=>by unfold BE;grind⟩,rfl⟩,rfl⟩
inductive A4 (T:Nd->Nd->Prop):List Nd->List Nd->Prop where
 |nil:A4 T [] []
 |cons {a b:Nd} {l m:List Nd}:T a b->A4 T l m->A4 T (a::l) (b::m)
theorem A4.one {a b:Nd} (h:T a b):A4 T [a] [b]:=.cons h .nil
theorem A4.app {l' U:List Nd} (h:A4 T l m) (k:A4 T l' U):A4 T (l++l') (m++U):=by
 induction h with
 |nil=>exact k
 |cons h1 _ ih=>exact .cons h1 ih
theorem A4.len (h:A4 T l m):l.length=m.length:=by
 induction h with
 |nil=>rfl
 |cons _ _ U=>simp_all
structure Sm where
 R:Ad->Ad->Prop
 T:Nd->Nd->Prop
 Out:Ad->Prop
 uk:Ad->Prop
 out:∀{s s':Ad},Out s->mu s'<=mu s->Out s'
 C9:∀{s s':Ad},uk s->mu s'<mu s->Out s'
 yes:∀{s t:Ad} {p:Tk->Bool},R s t->ma p->p (Ab s).1=true->(Ab s).2.2=0->uk s\/(p (Ab t).1=true/\(Ab t).2.2=0/\R (Ab s).2.1 (Ab t).2.1/\T (Bk (Ab s).1) (Bk (Ab t).1))
 no:∀{s t:Ad} {p:Tk->Bool},R s t->qQ p->p (Ab s).1=false->p (Ab t).1=false
 uX:∀{s t:Ad},R s t->AU s 15 [41]=false->AU t 15 [41]=false\/∀p,Tst p->p (Ab s).1=false
 mu:∀{s t s' t':Ad},R s t->R s' t'->Proofs.Z.mu s'<Proofs.Z.mu s->Proofs.Z.mu t'<Proofs.Z.mu t
 node:∀{k:Int} {l m:List Nd},A4 T l m->T (Aq k l) (Aq k m)
variable (S:Sm)
def ER {α:Type} (T:α->α->Prop) (q q':Sum (Int×Ad) (α×Ad)):Prop:=∀v s1,q=.inr (v,s1)->S.Out s1\/∃w U,q'=.inr (w,U)/\T v w/\S.R s1 U
def XM (A:Ad->Rs):Prop:=∀s t,S.R s t->ER S S.T (A s) (A t)
variable {S}
theorem Sm.is {t:Ad} (hr:S.R s t) (U:k≠0/\k≠21) (hb:¬(k=15/\(x=[123]\/x=[125]))/\k≠18/\k≠20) (h:AU s k x=true):S.uk s\/(AU t k x=true/\S.R (Ab s).2.1 (Ab t).2.1/\S.T (Bk (Ab s).1) (Bk (Ab t).1)):=by
 rcases S.yes (p:=λt=>t.kind==k&&t.text==x) hr (pD U hb) h (CS h U.1) with h|⟨h1,_,h3,h4⟩
 .simp_all
 .exact .inr ⟨h1,h3,h4⟩
theorem Sm.YB {t:Ad} (hr:S.R s t) (U:k≠0/\k≠21) (hc:¬(k=15/\(x=[41]\/x=[59]))) (h:¬AU s k x=true):¬AU t k x=true:=by
 have:=S.no (p:=λt=>t.kind==k&&t.text==x) hr (pC U hc) (show AU s k x=false from Bool.eq_false_iff.2 h)
 show ¬(((Ab t).1.kind==k&&(Ab t).1.text==x)=true)
 simp_all
section
variable {A Y:Ad->Rs}
theorem oR (hA:XM S A) (l:List Nd) (s:Ad):∀m t,A4 S.T l m->S.R s t->ER S (A4 S.T) (Gf A l s) (Gf A m t):=by
 fun_induction Gf A l s with
 |case1 l s h1 e1 h2=>intro m t hl U v s1 h;cases h
 |case2 l s h1 p h2 h3 ih=>
  intro m t hl U v s1 h
  have hm:=T9 _ _ _ _ h
  rcases S.yes U Oq h1 (Dn (KR h1).1) with ho|⟨y1,y2,y3,y4⟩
  .exact .inl (S.out (S.C9 ho h3) hm)
  .rcases hA s t U p.1 p.2 h2 with ho|⟨w,t1,e,ht,hr1⟩
   .exact .inl (S.out ho hm)
   .rw [bz (A:=A) (n:=w) (s':=t1) y1 e (S.mu U hr1 h3)]
    exact ih (m++[w]) t1 (hl.app (.one ht)) hr1 v s1 h
 |case3 l s h1 p h2 h3=>intro m t hl U v s1 h;cases h
 |case4 l s h1=>
  intro m t hl U v s1 h
  cases h
  exact .inr ⟨m,t,by rw [Gf,if_neg (by rw [S.no U Rc kw];decide)],hl,U⟩
theorem Uf (hA:XM S A):XM S (Gq A):=λs t hr v s1 h=>by
 unfold Gq at h
 split at h
 .cases h
 .rename_i p hp
  split at h
  .cases h
  .rename_i q hq
   have hm:=T9 _ _ _ _ hq
   have hs:s1=q.2:=by split at h<;>(cases h;rfl)
   rcases hA s t hr p.1 p.2 hp with ho|⟨w,t1,e,ht,U⟩
   .exact .inl (S.out ho kw)
   .rcases oR hA [p.1] p.2 [w] t1 (.one ht) U q.1 q.2 hq with ho|⟨m,t2,e2,hl,hr2⟩
    .simp_all
    .right
     have hlen:=hl.len
     unfold Gq
     rw [e]
     dsimp only
     rw [e2]
     dsimp only
     split at h
     .grind
     .cases h;rw [if_neg AC];exact ⟨_,t2,rfl,S.node hl,hr2⟩
theorem oP (hA:XM S A) (l:List Nd) (s:Ad):∀m t,A4 S.T l m->S.R s t->ER S (A4 S.T) (Gu A l s) (Gu A m t):=by
 fun_induction Gu A l s with
 |case1 l s h1 e1 h2=>intro m t hl U v s1 h;cases h
 |case2 l s h1 p h2 h3 ih=>
  intro m t hl U v s1 h
  have hm:=ZP _ _ _ _ h
  rcases Sm.is U Do Do h1 with ho|⟨y1,y3,y4⟩
  .exact .inl (S.out (S.C9 ho h3) hm)
  .rcases Uf hA _ _ y3 p.1 p.2 h2 with ho|⟨w,t1,e,ht,hr1⟩
   .exact .inl (S.out ho hm)
   .rw [ZO (A:=A) (n:=w) (s':=t1) y1 e (S.mu U hr1 h3)]
    exact ih _ t1 (hl.app (.cons y4 (.one ht))) hr1 v s1 h
 |case3 l s h1 p h2 h3=>intro m t hl U v s1 h;cases h
 |case4 l s h1=>
  intro m t hl U v s1 h
  cases h
  exact .inr ⟨m,t,by rw [Gu,if_neg (Sm.YB U Do Do h1)],hl,U⟩
theorem Sx (hA:XM S A) {n':Nd} (hn:S.T n n') {t:Ad} (hr:S.R s t):ER S S.T (Dm A n s) (Dm A n' t):=λv s1 h=>by
 unfold Dm at h
 split at h
 .cases h
 .rename_i q hq
  have hs:s1=q.2:=by split at h<;>(cases h;rfl)
  rcases oP hA [n] s [n'] t (.one hn) hr q.1 q.2 hq with ho|⟨m,t2,e2,hl,U⟩
  .simp_all
  .right
   have hlen:=hl.len
   unfold Dm
   rw [e2]
   dsimp only
   split at h
   .grind
   .cases h;rw [if_neg AC];exact ⟨_,t2,rfl,S.node hl,U⟩
theorem QL (hA:XM S A):XM S (DQ A):=λs t hr v s1 h=>by
 unfold DQ at h
 split at h
 .cases h
 .rename_i p hp
  have hm:=Ks h
  rcases Uf hA s t hr p.1 p.2 hp with ho|⟨w,t1,e,ht,U⟩
  .exact .inl (S.out ho hm)
  .unfold DQ
   rw [e]
   exact Sx hA ht U v s1 h
theorem oQ (hF:AR A) (hA:XM S A):XM S (Gc A):=λs t hr v s1 h=>by
 unfold Gc at h
 split at h
 .cases h
 .rename_i p hp
  rcases Uf hA s t hr p.1 p.2 hp with ho|⟨w,t1,e,ht,U⟩
  .left
   refine S.out ho ?_
   split at h
   .rename_i h1
    have:=Cp h1 Do Do
    split at h
    .cases h
    .rename_i q hq
     have:=E8 hF _ _ _ hq
     grind
   .exact Ks h
  .unfold Gc
   rw [e]
   dsimp only
   split at h
   .rename_i h1
    have:=Cp h1 Do Do
    split at h
    .cases h
    .rename_i q hq
     have:=E8 hF _ _ _ hq
     rcases Sm.is U Do Do h1 with ho|⟨y1,y3,y4⟩
     .cases h;exact .inl (S.C9 ho AC)
     .rcases QL hA _ _ y3 q.1 q.2 hq with ho|⟨w2,t2,e2,ht2,hr2⟩
      .simp_all
      .cases h
       rw [if_pos y1,e2]
       exact .inr ⟨_,t2,rfl,S.node (.cons ht (.cons y4 (.one ht2))),hr2⟩
   .rename_i h1
    rw [if_neg (Sm.YB U Do Do h1)]
    exact Sx hA ht U v s1 h
theorem dL (hA:XM S A) (l:List Nd) (s:Ad):∀m t,A4 S.T l m->S.R s t->ER S (A4 S.T) (CD A l s) (CD A m t):=by
 fun_induction CD A l s with
 |case1 l s h1 e1 h2=>intro m t hl U v s1 h;cases h
 |case2 l s h1 p h2 h3 ih=>
  intro m t hl U v s1 h
  have hm:=IA _ _ _ _ h
  rcases Sm.is U Do Do h1 with ho|⟨y1,y3,y4⟩
  .exact .inl (S.out (S.C9 ho h3) hm)
  .rcases hA _ _ y3 p.1 p.2 h2 with ho|⟨w,t1,e,ht,hr1⟩
   .exact .inl (S.out ho hm)
   .rw [SO (Y:=A) (n:=w) (s':=t1) y1 e (S.mu U hr1 h3)]
    exact ih _ t1 (hl.app (.cons y4 (.one ht))) hr1 v s1 h
 |case3 l s h1 p h2 h3=>intro m t hl U v s1 h;cases h
 |case4 l s h1=>
  intro m t hl U v s1 h
  cases h
  exact .inr ⟨m,t,by rw [CD,if_neg (Sm.YB U Do Do h1)],hl,U⟩
theorem kG (l:List Nd) (s:Ad):∀m t,A4 S.T l m->S.R s t->S.Out (Cc l s).2\/(A4 S.T (Cc l s).1 (Cc m t).1/\S.R (Cc l s).2 (Cc m t).2):=by
 fun_induction Cc l s with
 |case1 l s U h2 ih=>
  intro m t hl hr
  have hm:=Kv (l++[Bk (Ab s).1]) (Ab s).2.1
  rcases Sm.is hr Do Do U with ho|⟨y1,y3,y4⟩
  .exact .inl (S.out (S.C9 ho h2) hm)
  .rw [show Cc m t=Cc (m++[Bk (Ab t).1]) (Ab t).2.1 by rw [Cc,if_pos y1,if_pos (S.mu hr y3 h2)]]
   exact ih _ _ (hl.app (.one y4)) y3
 |case2 l s U h2=>exact absurd (Cp U Do Do) h2
 |case3 l s U=>
  intro m t hl hr
  rw [show Cc m t=(m,t) by rw [Cc,if_neg (Sm.YB hr Do Do U)]]
  simp_all
theorem QK {t:Ad} (hx:x≠[123]/\x≠[125]) (hl:A4 S.T l m) (hr:S.R s t):ER S S.T (Hk k l s x) (Hk k m t x):=λv s1 h=>by
 have hm:=Ea h
 unfold Hk Kn at h
 by_cases U:AU s 15 x=true
 .rw [if_pos U,GI U Do] at h
  cases h
  rcases Sm.is hr Do ⟨λe=>e.2.elim hx.1 hx.2,Do,Do⟩ U with ho|⟨y1,y3,y4⟩
  .exact .inl (S.C9 ho hm)
  .right
   unfold Hk Kn
   rw [if_pos y1,GI y1 Do]
   exact ⟨_,_,rfl,S.node (hl.app (.one y4)),y3⟩
 .rw [if_neg U] at h
  cases h
theorem Ug {t:Ad} (hr:S.R s t) (U:BE (Ab s).1=true):ER S S.T (Dk s) (Dk t):=λv s1 h=>by
 have hm:=KS U h
 have hz:=Dn (KR U).1
 rcases S.yes hr Oq U hz with ho|⟨y1,y2,y3,y4⟩
 .exact .inl (S.C9 ho hm)
 .unfold Dk at h |-
  grind
def MZ (Y:Ad->Rs):Prop:=∀s n s',Y s=.inr (n,s')->BE (Ab s).1=true
theorem kH (hF:AR Y) (hB:MZ Y) (hY:XM S Y) {t:Ad} (hr:S.R s t) (hs:BE (Ab s).1=true):ER S S.T (Fy Y s) (Fy Y t):=λv s1 h=>by
 have hm:=V6 hF hs h
 unfold Fy at h
 split at h
 .cases h
 .rename_i p hp
  rcases Ug hr hs p.1 p.2 hp with ho|⟨w,t1,e,ht,U⟩
  .left
   refine S.out ho ?_
   split at h
   .rename_i h1;have:=Cp h1 Do Do;have:=Ea h;omega
   split at h
   .have:=Ea h;omega
   split at h
   .have:=Ea h;have:=Kv [p.1] p.2;omega
   split at h
   .cases h
   .rename_i q hq
    have:=hF _ _ _ hq
    split at h
    .cases h
    .rename_i r hr
     have:=IA _ _ _ _ hr
     have:=Ea h
     omega
  .unfold Fy
   rw [e]
   dsimp only
   by_cases h1:AU p.2 10 [45,62]=true
   .rw [if_pos h1] at h
    have:=Cp h1 Do Do
    rcases Sm.is U Do Do h1 with ho|⟨y1,y3,y4⟩
    .have:=Ea h;exact .inl (S.C9 ho AC)
    .rw [if_pos y1]
     exact QK Do (.cons ht (.one y4)) y3 v s1 h
   rw [if_neg h1] at h
   rw [if_neg (Sm.YB U Do Do h1)]
   by_cases h2:AU p.2 15 [41]=true
   .rw [if_pos h2] at h
    rcases Sm.is U Do Do h2 with ho|⟨y1,y3,y4⟩
    .have:=Ea h;exact .inl (S.C9 ho AC)
    .rw [if_pos y1]
     exact QK Do (.one ht) U v s1 h
   rw [if_neg h2] at h
   by_cases h3:AU p.2 15 [44]=true
   .rw [if_pos h3] at h
    rcases Sm.is U Do Do h3 with ho|⟨y1,y3,y4⟩
    .have:=Ea h;have:=Kv [p.1] p.2;exact .inl (S.C9 ho AC)
    .have hno:¬AU t1 15 [41]=true:=λe=>by
      unfold AU at e y1
      simp_all
     rw [if_neg hno,if_pos y1]
     rcases kG [p.1] p.2 [w] t1 (.one ht) U with ho|⟨hl,hr2⟩
     .have:=Ea h;exact .inl (S.out ho AC)
     .exact QK Do hl hr2 v s1 h
   rw [if_neg h3] at h
   split at h
   .cases h
   .rename_i q hq
    have hb:=hB _ _ _ hq
    have hf:=hF _ _ _ hq
    have hno:¬AU t1 15 [41]=true:=λe=>by
     rcases S.uX U kw with h4|h4
     .simp_all
     .rw [h4 _ Rc.toTst] at hb;cases hb
    rw [if_neg hno,if_neg (Sm.YB U Do Do h3)]
    split at h
    .cases h
    .rename_i r hq2
     have hm2:=IA _ _ _ _ hq2
     have hm3:=Ea h
     rcases hY p.2 t1 U q.1 q.2 hq with ho|⟨w2,t2,e2,ht2,hr2⟩
     .exact .inl (S.out ho AC)
     .rw [e2]
      dsimp only
      rcases dL hY [p.1,q.1] q.2 [w,w2] t2 (.cons ht (.one ht2)) hr2 r.1 r.2 hq2 with ho|⟨m,t3,e3,hl,hr3⟩
      .exact .inl (S.out ho AC)
      .rw [e3]
       dsimp only
       rw [<-hl.len]
       exact QK Do hl hr3 v s1 h
theorem dK (hF:AR Y) (hY:XM S Y) {t:Ad} (hr:S.R s t) (hs:BE (Ab s).1=true):ER S S.T (D4 Y s) (D4 Y t):=λv s1 h=>by
 unfold D4 at h
 split at h
 .cases h
 .rename_i p hp
  rcases Ug hr hs p.1 p.2 hp with ho|⟨w,t1,e,ht,hr1⟩
  .left
   refine S.out ho ?_
   split at h
   .rename_i U;have:=Cp U Do Do;grind
   split at h
   .cases h
   .rename_i q hq
    have:=hF _ _ _ hq
    have:=Ea h
    omega
  .unfold D4
   rw [e]
   dsimp only
   by_cases U:AU p.2 15 [93]=true
   .rw [if_pos U] at h
    have:=Cp U Do Do
    cases h
    rcases Sm.is hr1 Do Do U with ho|⟨y1,y3,y4⟩
    .exact .inl (S.C9 ho AC)
    .rw [if_pos y1]
     exact .inr ⟨_,_,rfl,S.node (.cons ht (.one y4)),y3⟩
   .rw [if_neg U] at h
    rw [if_neg (Sm.YB hr1 Do Do U)]
    split at h
    .cases h
    .rename_i q hq
     have hm3:=Ea h
     rcases hY p.2 t1 hr1 q.1 q.2 hq with ho|⟨w2,t2,e2,ht2,hr2⟩
     .exact .inl (S.out ho AC)
     .rw [e2]
      exact QK Do (.cons ht (.one ht2)) hr2 v s1 h
theorem Ue (hF:AR Y) (hB:MZ Y) (hY:XM S Y):XM S (C5 Y):=λs t hr v s1 h=>by
 have hm:=BI hF _ _ _ h
 unfold C5 at h
 split at h
 .rename_i hs
  have hz:=Dn (KR hs).1
  have tk:ma (λu=>BE u&&(decide (u.kind=(Ab s).1.kind)&&decide (u.text=(Ab s).1.text))):=⟨⟨rfl,rfl,λa b U h2=>by unfold BE;grind⟩,rfl,rfl,λu e=>by unfold BE;grind,λu e=>by unfold BE;grind⟩
  rcases S.yes hr tk (by simp [hs]) hz with ho|⟨y1,_,_,_⟩
  .exact .inl (S.C9 ho hm)
  .simp only [Bool.and_eq_true,decide_eq_true_eq] at y1
   obtain ⟨y1,y2,y3⟩:=y1
   unfold C5
   rw [if_pos y1,y2,y3]
   split at h
   .rename_i U
    rw [if_pos U]
    split at h
    .rename_i h2
     rw [if_pos h2]
     exact kH hF hB hY hr hs v s1 h
    .rename_i h2
     rw [if_neg h2]
     exact dK hF hY hr hs v s1 h
   .rename_i U
    rw [if_neg U]
    exact Ug hr hs v s1 h
 .cases h
theorem UP:MZ (C5 Y):=λs n s' h=>by
 unfold C5 at h
 split at h
 .omega
 .cases h
theorem S2 (hB:MZ A):MZ (DQ A):=λs n s' h=>by
 unfold DQ Gq at h
 cases U:A s with
 |inl p=>simp_all
 |inr p=>exact hB s p.1 p.2 U
theorem JS:∀d,MZ (Dz d)
 |0=>λs n s' h=>by cases h
 |d+1=>S2 UP
theorem Uh:∀d,XM S (Dz d)
 |0=>λs t U v s1 h=>by cases h
 |d+1=>QL (Ue (Bo d) (JS d) (Uh d))
end
namespace Rd
variable {α β γ σ:Type}
theorem iZ {body:σ->Rd (Sum σ β)} {P:β->Ad->Prop} (h1:∀x s y s',(body x).run s=.inr (.inr y,s')->P y s') (x:σ) (s:Ad):∀y s',(loop body x).run s=.inr (y,s')->P y s':=by
 show ∀y s',iter body x s=.inr (y,s')->P y s'
 fun_induction iter body x s with
 |case1 x s e h=>intro y s' U;cases U
 |case2 x s y s1 h=>intro y s' U;cases U;exact h1 _ _ _ _ h
 |case3 x s x' s1 h hlt ih=>exact ih
 |case4 x s x' s1 h hlt=>intro y s' U;cases U
end Rd
structure s7 (T:Nd->Nd->Prop):Prop where
 kd:∀{a b:Nd},T a b->a.kind=b.kind
 fm:∀{a b:Nd},T a b->a.form=b.form
 may:∀{a b:Nd},T a b->JD a=JD b
 var:∀{a b:Nd},T a b->XE a=XE b
 lhs:∀{a b:Nd},T a b->(YG a).2.2=(YG b).2.2
 plain:∀{a b:Nd},T a b->HU a=HU b
 vl:∀{a b:Nd},T a b->Nb a=Nb b
 last:∀{a b:Nd},T a b->GC a=GC b
def ff (T:Nd->Nd->Prop) (s t:Ad):Prop:=(Ab s).1.kind=(Ab t).1.kind/\(Ab s).1.text=(Ab t).1.text/\T (Bk (Ab s).1) (Bk (Ab t).1)
def JO (u:Tk):Bool:=(u.kind==15&&u.text==[123])||u.kind==18
def L7 (u:Tk):Bool:=(u.kind==15&&u.text==[125])||u.kind==20
def fp (R:Nat->Ad->Ad->Prop) (d:Nat) (u:Tk) (s t:Ad):Prop:=if JO u=true then R (d+1) s t else if L7 u=true then ∃e,d=e+1/\R e s t else R d s t
def Sp (c:Nat) (s t:Ad):Prop:=AU s 15 [125]=true/\AU t 15 [59]=true/\mu s<=c
structure Sy where
 R:Nat->Ad->Ad->Prop
 T:Nd->Nd->Prop
 c:Nat
 next:∀{d:Nat} {s t:Ad},R d s t->(ff T s t/\((Ab s).2.2=0->(Ab t).2.2=0/\fp R d (Ab s).1 (Ab s).2.1 (Ab t).2.1))\/Sp c s t
 close:∀{d:Nat} {s t:Ad},R d s t->(C0 s).2=true->(C0 t).2=true/\∃e,d=e+1/\R e (C0 s).1 (C0 t).1
 imp:∀{d e:Nat} {s t s' t':Ad},R d s t->(Ab s).1.kind=18->R e s' t'->¬Sp c s' t'
 mu:∀{d e:Nat} {s t s' t':Ad},R d s t->R e s' t'->Proofs.Z.mu s'<Proofs.Z.mu s->Proofs.Z.mu t'<Proofs.Z.mu t
 node:∀{k:Int} {l m:List Nd},A4 T l m->T (Aq k l) (Aq k m)
 block:∀{f:Bool} {l m:List Nd},A4 T l m->T (BB f l) (BB f m)
 nd:T Hz Hz
 nt:s7 T
structure JJ (p:Tk->Bool):Prop where
 k:∀a b:Tk,a.kind=b.kind->a.text=b.text->p a=p b
 b:p ⟨15,[125],0,0⟩=false
 s:p ⟨15,[59],0,0⟩=false
 o:p ⟨15,[123],0,0⟩=false
 v1:∀u:Tk,u.kind=18->p u=false
 v2:∀u:Tk,u.kind=20->p u=false
theorem Bl (h:AU s k x=true):(Ab s).1.kind=k/\(Ab s).1.text=x:=by
 unfold AU at h;simpa using h
theorem Ux (h:¬(k=15/\(x=[125]\/x=[59]\/x=[123]))/\k≠18/\k≠20):JJ (λt=>t.kind==k&&t.text==x):=⟨λa b U h2=>by rw [U,h2],by grind,by grind,by grind,λu e=>by grind,λu e=>by grind⟩
theorem JJ.op {p:Tk->Bool} (h:JJ p) {u:Tk} (e:p u=true):JO u=false/\L7 u=false:=by
 have h1:=h.k u
 refine ⟨Bool.eq_false_iff.2 λh2=>?_,Bool.eq_false_iff.2 λh2=>?_⟩
 .unfold JO at h2
  rcases Bool.or_eq_true_iff.1 h2 with U|U
  .simp only [Bool.and_eq_true,beq_iff_eq] at U
   rw [h1 ⟨15,[123],0,0⟩ U.1 U.2,h.o] at e;cases e
  .rw [h.v1 u (beq_iff_eq.1 U)] at e;cases e
 .unfold L7 at h2
  rcases Bool.or_eq_true_iff.1 h2 with U|U
  .simp only [Bool.and_eq_true,beq_iff_eq] at U
   rw [h1 ⟨15,[125],0,0⟩ U.1 U.2,h.b] at e;cases e
  .rw [h.v2 u (beq_iff_eq.1 U)] at e;cases e
variable (S:Sy)
def SW {α:Type} (P:α->Ad->Prop) (A B:Rd α) (s t:Ad) (Q:α->α->Ad->Ad->Prop):Prop:=
 ∀v s',A.run s=.inr (v,s')->S.c<=mu s'->P v s'->∃w U,B.run t=.inr (w,U)/\Q v w s' U
def SR (A:Rd Nd):Prop:=∀d s t,S.R d s t->SW S (λ_ _=>True) A A s t (λv w s1 U=>S.T v w/\S.R d s1 U)
def Nm (d:Nat) (s t:Ad):Prop:=ff S.T s t/\((Ab s).2.2=0->(Ab t).2.2=0/\S.R d (Ab s).2.1 (Ab t).2.1)
def vn {α σ:Type} (body:σ->Rd (Sum σ α)) (P:α->Ad->Prop):Sum σ α->Ad->Prop
 | .inr v,s=>P v s
 | .inl x,s=>∃v s',(Rd.loop body x).run s=.inr (v,s')/\S.c<=mu s'/\P v s'
def fh {α σ:Type} (d:Nat) (J:σ->σ->Prop) (Q:α->α->Ad->Ad->Prop):Sum σ α->Sum σ α->Ad->Ad->Prop
 | .inr v,.inr w,s,t=>Q v w s t
 | .inl x,.inl y,s,t=>J x y/\S.R d s t
 |_,_,_,_=>False
variable {S}
section
variable {α β σ:Type} {d:Nat} {s t:Ad} {P:α->Ad->Prop} {Q:α->α->Ad->Ad->Prop} {X Y:Rd α}
theorem Sp.no (h:Sp S.c s t) {p:Tk->Bool} (hp:JJ p):p (Ab s).1=false/\p (Ab t).1=false:=
 ⟨by rw [hp.k _ ⟨15,[125],0,0⟩ (Bl h.1).1 (Bl h.1).2];exact hp.b,by rw [hp.k _ ⟨15,[59],0,0⟩ (Bl h.2.1).1 (Bl h.2.1).2];exact hp.s⟩
theorem Sp.lt (h:Sp S.c s t):mu (Ab s).2.1<S.c:=Nat.lt_of_lt_of_le (Cp h.1 Do Do) h.2.2
theorem SW.ret {v w:α} (h:Q v w s t):SW S P (.ret v) (.ret w) s t Q:=λU s' e _ _=>by cases e;exact ⟨w,t,rfl,h⟩
theorem SW.fail {e:Er}:SW S P (.fail e) Y s t Q:=λv s' h=>by cases h
theorem SW.DL {u:Ad} {e:Er}:SW S P (.DL u e) Y s t Q:=λv s' h=>by cases h
theorem SW.bad:SW S P IG Y s t Q:=λv s' h=>by cases h
theorem SW.look {f U:Ad->Rd α} (h:SW S P (f s) (U t) s t Q):SW S P (.look f) (.look U) s t Q:=h
theorem SW.seq {m m':Rd β} {k k':β->Rd α} (h:SW S (λv1 s1=>∃v s',(k v1).run s1=.inr (v,s')/\S.c<=mu s'/\P v s') m m' s t (λv w s1 t1=>SW S P (k v) (k' w) s1 t1 Q)):SW S P (.seq m k) (.seq m' k') s t Q:=λv s' e U hp=>by
 unfold Rd.seq at e
 dsimp only at e
 split at e
 .cases e
 .rename_i p hq
  obtain ⟨w,t1,h1,h2⟩:=h p.1 p.2 hq (Nat.le_trans U ((k p.1).le _ _ _ e)) ⟨v,s',e,U,hp⟩
  obtain ⟨w',t',h3,h4⟩:=h2 v s' e U hp
  exact ⟨w',t',by unfold Rd.seq;dsimp only;rw [h1];exact h3,h4⟩
theorem SW.ite {c U:Prop} [Decidable c] [Decidable U] {a b a' b':Rd α} (h:c↔U) (h1:c->SW S P a a' s t Q) (h2:¬c->SW S P b b' s t Q):SW S P (if c then a else b) (if U then a' else b') s t Q:=by
 by_cases e:c
 .rw [if_pos e,if_pos (h.1 e)];exact h1 e
 .rw [if_neg e,if_neg (λx=>e (h.2 x))];exact h2 e
theorem SW.no (h:∀v s',X.run s=.inr (v,s')->S.c<=mu s'->P v s'->False):SW S P X Y s t Q:=λv s' e U hp=>(h v s' e U hp).elim
theorem SW.wk {U:α->Ad->Prop} (h:SW S U X Y s t Q) (k:∀v s',P v s'->U v s'):SW S P X Y s t Q:=λv s' e hm hp=>h v s' e hm (k v s' hp)
theorem SW.mono {Q':α->α->Ad->Ad->Prop} (h:SW S P X Y s t Q) (k:∀v w s' U,Q v w s' U->Q' v w s' U):SW S P X Y s t Q':=λv s' e hm hp=>by
 obtain ⟨w,U,h1,h2⟩:=h v s' e hm hp
 exact ⟨w,U,h1,k _ _ _ _ h2⟩
theorem SW.A {P:Nd->Ad->Prop} {Q:Nd->Nd->Ad->Ad->Prop} {A:Rd Nd} (hA:SR S A) (hr:S.R d s t) (k:∀v w s1 U,S.T v w->S.R d s1 U->Q v w s1 U):SW S P A A s t Q:=((hA d s t hr).wk λ_ _ _=>trivial).mono λv w s' t' h=>k v w s' t' h.1 h.2
theorem SW.qH {P:Nd->Ad->Prop} {Q:Nd->Nd->Ad->Ad->Prop} (hr:S.R d s t) (k:ff S.T s t->(Ab s).2.2=0->fp S.R d (Ab s).1 (Ab s).2.1 (Ab t).2.1->Q (Bk (Ab s).1) (Bk (Ab t).1) (Ab s).2.1 (Ab t).2.1):SW S P Ay Ay s t Q:=λv s' e hm hp=>by
 by_cases U:(Ab s).2.2=0
 .rw [Bu U] at e
  cases e
  rcases S.next hr with ⟨h1,h4⟩|h1
  .exact ⟨_,_,Bu (h4 U).1,k h1 U (h4 U).2⟩
  .have:=h1.lt;omega
 .rw [Hg U] at e;cases e
theorem SW.take {P:Nd->Ad->Prop} {Q:Nd->Nd->Ad->Ad->Prop} (h:Nm S d s t) (k:∀v w s1 t1,S.T v w->S.R d s1 t1->Q v w s1 t1):SW S P Ay Ay s t Q:=λv s' e hm hp=>by
 by_cases U:(Ab s).2.2=0
 .rw [Bu U] at e
  cases e
  exact ⟨_,_,Bu (h.2 U).1,k _ _ _ _ h.1.2.2 (h.2 U).2⟩
 .rw [Hg U] at e;cases e
theorem SW.takeN {P:Nd->Ad->Prop} {Q:Nd->Nd->Ad->Ad->Prop} (h:Nm S d s t) (k:S.T (Bk (Ab s).1) (Bk (Ab t).1)->S.R d (Ab s).2.1 (Ab t).2.1->Q (Bk (Ab s).1) (Bk (Ab t).1) (Ab s).2.1 (Ab t).2.1):SW S P Ay Ay s t Q:=λv s' e hm hp=>by
 by_cases U:(Ab s).2.2=0
 .rw [Bu U] at e
  cases e
  exact ⟨_,_,Bu (h.2 U).1,k h.1.2.2 (h.2 U).2⟩
 .rw [Hg U] at e;cases e
theorem Nm.of {p:Tk->Bool} (h:ff S.T s t/\((Ab s).2.2=0->(Ab t).2.2=0/\fp S.R d (Ab s).1 (Ab s).2.1 (Ab t).2.1)) (hp:JJ p) (e:p (Ab s).1=true):Nm S d s t:=⟨h.1,λhz=>by
 obtain ⟨h1,U⟩:=h.2 hz
 obtain ⟨e1,e2⟩:=hp.op e
 unfold fp at U
 rw [e1,e2,if_neg Do,if_neg Do] at U
 exact ⟨h1,U⟩⟩
theorem SW.Rp {p:Tk->Bool} {a b U b':Rd α} (hr:S.R d s t) (hp:JJ p) (h1:p (Ab s).1=true->Nm S d s t->SW S P a U s t Q) (h2:p (Ab s).1=false->SW S P b b' s t Q):SW S P (if p (Ab s).1=true then a else b) (if p (Ab t).1=true then U else b') s t Q:=by
 rcases S.next hr with h|h
 .refine SW.ite (by rw [hp.k _ _ h.1.1 h.1.2.1]) (λe=>h1 e (Nm.of h hp e)) λe=>h2 (Bool.eq_false_iff.2 e)
 .obtain ⟨e1,e2⟩:=h.no hp
  rw [e1,e2];exact h2 e1
theorem SW.is {a b U b':Rd α} (hr:S.R d s t) (hk:¬(k=15/\(x=[125]\/x=[59]\/x=[123]))/\k≠18/\k≠20) (h1:AU s k x=true->Nm S d s t->SW S P a U s t Q) (h2:AU s k x=false->SW S P b b' s t Q):SW S P (if AU s k x=true then a else b) (if AU t k x=true then U else b') s t Q:=
 SW.Rp (p:=λt=>t.kind==k&&t.text==x) hr (Ux hk) h1 h2
theorem SW.uD {a b U b':Rd α} (hr:S.R d s t) (h1:AU s 15 [123]=true->SW S P a U s t Q) (h2:SW S P b b' s t Q):SW S P (if AU s 15 [123]=true then a else b) (if AU t 15 [123]=true then U else b') s t Q:=by
 rcases S.next hr with h|h
 .exact SW.ite (by unfold AU;rw [h.1.1,h.1.2.1]) h1 λ_=>h2
 .unfold AU
  rw [(Bl h.1).1,(Bl h.1).2,(Bl h.2.1).1,(Bl h.2.1).2];exact h2
theorem SW.bO {P:Nd->Ad->Prop} {Q:Nd->Nd->Ad->Ad->Prop} (hr:S.R d s t) (ho:JO (Ab s).1=true) (k:∀v w s1 U,S.T v w->S.R (d+1) s1 U->Q v w s1 U):SW S P Ay Ay s t Q:=SW.qH hr λh hz hb=>by
 unfold fp at hb
 rw [if_pos ho] at hb
 exact k _ _ _ _ h.2.2 hb
theorem YZ (h:AU s 15 [123]=true):JO (Ab s).1=true:=by unfold AU at h;unfold JO;rw [h];rfl
theorem SW.want {P:Nd->Ad->Prop} {Q:Nd->Nd->Ad->Ad->Prop} (hr:S.R d s t) (hk:¬(U=15/\(x=[125]\/x=[59]\/x=[123]))/\U≠18/\U≠20) (k:∀v w s1 t1,S.T v w->S.R d s1 t1->Q v w s1 t1):SW S P (Bc U x) (Bc U x) s t Q:=
 SW.look (SW.is hr hk (λ_ h=>SW.take h k) λ_=>SW.bad)
theorem SW.uf {P:Nd->Ad->Prop} {Q:Nd->Nd->Ad->Ad->Prop} (U:S.R d s t) (k:∀v w s1 t1,S.T v w->S.R (d+1) s1 t1->Q v w s1 t1):SW S P (Bc 15 [123]) (Bc 15 [123]) s t Q:=
 SW.look (SW.uD U (λe=>SW.bO U (YZ e) k) SW.bad)
theorem SW.lj {P:Nd->Ad->Prop} {Q:Nd->Nd->Ad->Ad->Prop} (hr:S.R (d+1) s t) (U:JO (Ab s).1=false/\L7 (Ab s).1=true) (k:∀v w s1 t1,S.T v w->S.R d s1 t1->Q v w s1 t1):SW S P Ay Ay s t Q:=SW.qH hr λh hz hb=>by
 unfold fp at hb
 rw [if_neg (by rw [U.1];decide),if_pos U.2] at hb
 obtain ⟨e,he,hb⟩:=hb
 obtain rfl:d=e:=AC
 exact k _ _ _ _ h.2.2 hb
theorem gk (h:AU s 15 [125]=true):JO (Ab s).1=false/\L7 (Ab s).1=true:=by
 obtain ⟨U,h2⟩:=Bl h
 unfold JO L7
 rw [U,h2];decide
theorem SW.qI {P:Nd->Ad->Prop} {Q:Nd->Nd->Ad->Ad->Prop} (U:S.R (d+1) s t) (k:∀v w s1 t1,S.T v w->S.R d s1 t1->Q v w s1 t1):SW S P (Bc 15 [125]) (Bc 15 [125]) s t Q:=by
 rcases S.next U with h|h
 .exact SW.look (SW.ite (by unfold AU;rw [h.1.1,h.1.2.1]) (λe=>SW.lj U (gk e) k) λ_=>SW.bad)
 .refine SW.no λv s' e hm _=>?_
  replace e:(if AU s 15 [125]=true then Ay else IG).run s=.inr (v,s'):=e
  rw [if_pos h.1,Bu (CS h.1 Do)] at e
  cases e
  have:=h.lt
  omega
theorem SW.kind {ks:List Int} {P:Nd->Ad->Prop} {Q:Nd->Nd->Ad->Ad->Prop} (hr:S.R d s t) (U:ks.contains 15=false/\ks.contains 18=false/\ks.contains 20=false) (k:∀v w s1 t1,S.T v w->S.R d s1 t1->Q v w s1 t1):SW S P (Di ks) (Di ks) s t Q:=
 SW.look (SW.Rp (p:=λu=>ks.contains u.kind) hr ⟨λa b h1 _=>by rw [h1],U.1,U.1,U.1,λu e=>by rw [e];exact U.2.1,λu e=>by rw [e];exact U.2.2⟩ (λ_ h=>SW.take h k) λ_=>SW.bad)
theorem SW.at {p:Tk->Bool} {a b U b':Rd α} (hn:Nm S d s t) (hp:∀a b:Tk,a.kind=b.kind->a.text=b.text->p a=p b) (h1:p (Ab s).1=true->SW S P a U s t Q) (h2:p (Ab s).1=false->SW S P b b' s t Q):SW S P (if p (Ab s).1=true then a else b) (if p (Ab t).1=true then U else b') s t Q:=
 SW.ite (by rw [hp _ _ hn.1.1 hn.1.2.1]) h1 λe=>h2 (Bool.eq_false_iff.2 e)
theorem SW.uC {a b U b':Rd α} (hz:(Ab s).2.2=0) (hn:Nm S d s t) (hk:¬(k=15/\(x=[125]\/x=[59]\/x=[123]))/\k≠18/\k≠20) (h1:AU (Ab s).2.1 k x=true->Nm S d (Ab s).2.1 (Ab t).2.1->SW S P a U s t Q) (h2:SW S P b b' s t Q):SW S P (if AU (Ab s).2.1 k x=true then a else b) (if AU (Ab t).2.1 k x=true then U else b') s t Q:=by
 rcases S.next (hn.2 hz).2 with h|h
 .exact SW.ite (by unfold AU;rw [h.1.1,h.1.2.1]) (λe=>h1 e (Nm.of h (p:=λt=>t.kind==k&&t.text==x) (Ux hk) e)) λ_=>h2
 .obtain ⟨e1,e2⟩:=h.no (p:=λt=>t.kind==k&&t.text==x) (Ux hk)
  refine SW.ite (iff_of_false (Bool.eq_false_iff.1 e1) (Bool.eq_false_iff.1 e2)) (λe=>absurd e (Bool.eq_false_iff.1 e1)) λ_=>h2
theorem SW.loop {body:σ->Rd (Sum σ α)} {J:σ->σ->Prop} (hb:∀x y s t,J x y->S.R d s t->SW S (vn S body P) (body x) (body y) s t (fh S d J Q)) {x y:σ} (hj:J x y) (U:S.R d s t):SW S P (.loop body x) (.loop body y) s t Q:=by
 suffices h:∀x s y t,J x y->S.R d s t->∀v s',Rd.iter body x s=.inr (v,s')->S.c<=mu s'->P v s'->∃w t',Rd.iter body y t=.inr (w,t')/\Q v w s' t' from h x s y t hj U
 intro x s
 fun_induction Rd.iter body x s with
 |case1 x s e h1=>intro y t hj U v s' e;cases e
 |case2 x s z s1 h1=>
  intro y t hj U v s' e hm hp
  cases e
  obtain ⟨r,t1,h2,h3⟩:=hb x y s t hj U _ _ h1 hm hp
  cases r with
  |inl y'=>exact h3.elim
  |inr w=>exact ⟨w,t1,by rw [Rd.iter,h2],h3⟩
 |case3 x s x' s1 h1 hlt ih=>
  intro y t hj U v s' e hm hp
  have hle:=Rd.aw body x' s1 v s' e
  obtain ⟨r,t1,h2,h3⟩:=hb x y s t hj U _ _ h1 AC ⟨v,s',e,hm,hp⟩
  cases r with
  |inr w=>exact h3.elim
  |inl y'=>
   obtain ⟨w,t',h4,h5⟩:=ih y' t1 h3.1 h3.2 v s' e hm hp
   exact ⟨w,t',by rw [Rd.iter,h2];dsimp only;rw [if_pos (S.mu U h3.2 hlt)];exact h4,h5⟩
 |case4 x s x' s1 h1 hlt=>intro y t hj U v s' e;cases e
end
def Sy.sm (S:Sy) (d:Nat):Sm where
 R:=S.R d
 T:=S.T
 Out:=λs=>Proofs.Z.mu s<S.c
 uk:=λs=>Proofs.Z.mu s<=S.c
 out:=λh k=>Nat.lt_of_le_of_lt k h
 C9:=λh k=>Nat.lt_of_lt_of_le k h
 yes:=λ{s t p} hr hp e hz=>by
  rcases S.next hr with ⟨h1,h4⟩|h
  .obtain ⟨h5,h6⟩:=h4 hz
   refine .inr ⟨by rw [<-hp.k _ _ h1.1 h1.2.1];exact e,h5,?_,h1.2.2⟩
   unfold fp at h6
   have e1:¬JO (Ab s).1=true:=λh2=>?_
   have e2:¬L7 (Ab s).1=true:=λh2=>?_
   .rw [if_neg e1,if_neg e2] at h6;exact h6
   .unfold L7 at h2
    rcases Bool.or_eq_true_iff.1 h2 with U|U
    .simp only [Bool.and_eq_true,beq_iff_eq] at U
     rw [hp.k _ ⟨15,[125],0,0⟩ U.1 U.2,hp.b2] at e;cases e
    .rw [hp.v2 _ (beq_iff_eq.1 U)] at e;cases e
   .unfold JO at h2
    rcases Bool.or_eq_true_iff.1 h2 with U|U
    .simp only [Bool.and_eq_true,beq_iff_eq] at U
     rw [hp.k _ ⟨15,[123],0,0⟩ U.1 U.2,hp.b1] at e;cases e
    .rw [hp.v1 _ (beq_iff_eq.1 U)] at e;cases e
  .exact .inl h.2.2
 no:=λ{s t p} hr hp e=>by
  rcases S.next hr with ⟨h1,_⟩|h
  .rw [<-hp.k _ _ h1.1 h1.2.1];exact e
  .rw [hp.k _ ⟨15,[59],0,0⟩ (Bl h.2.1).1 (Bl h.2.1).2];exact hp.s
 uX:=λ{s t} hr e=>by
  rcases S.next hr with ⟨h1,_⟩|h
  .left;unfold AU at e |-;rw [<-h1.1,<-h1.2.1];exact e
  .left
   unfold AU
   rw [(Bl h.2.1).1,(Bl h.2.1).2];rfl
 mu:=S.mu
 node:=S.node
theorem Pa {S:Sy} {A:Ad->Rs} {hle:∀s v s',A s=.inr (v,s')->mu s'<=mu s} (h:∀d,XM (S.sm d) A):SR S (Jf A hle):=λd s t hr v s' e hm _=>by
 cases hA:A s with
 |inl p=>unfold Jf at e;grind
 |inr p=>
  rw [My hA] at e
  cases e
  rcases h d s t (show (S.sm d).R s t from hr) _ _ hA with ho|⟨w,t1,e2,ht,U⟩
  .exact absurd hm (Nat.not_le.2 (show mu _<S.c from ho))
  .exact ⟨w,t1,My e2,ht,U⟩
theorem Ul (S:Sy) (d:Nat):SR S (C7 d):=Pa λ_=>oQ (BI (Bo _)) (Ue (Bo _) (JS _) (Uh _))
variable {S:Sy}
theorem XB:JJ Iw:=⟨λa b U h2=>by unfold Iw;rw [U,h2],rfl,rfl,rfl,λu e=>by unfold Iw;rw [e];rfl,λu e=>by unfold Iw;rw [e];rfl⟩
theorem XA:JJ IZ:=⟨λa b U h2=>by unfold IZ Iw;rw [U,h2],rfl,rfl,rfl,λu e=>by unfold IZ Iw;rw [e];rfl,λu e=>by unfold IZ Iw;rw [e];rfl⟩
theorem Ra:JJ B5:=⟨λa b U h2=>by unfold B5;rw [U,h2],rfl,rfl,rfl,λu e=>by unfold B5;rw [e];rfl,λu e=>by unfold B5;rw [e];rfl⟩
theorem Xz:JJ Cw:=⟨λa b U h2=>by unfold Cw B5;rw [U,h2],rfl,rfl,rfl,λu e=>by unfold Cw B5;rw [e];rfl,λu e=>by unfold Cw B5;rw [e];rfl⟩
theorem lM:JJ Eb:=⟨λa b U h2=>by unfold Eb;rw [U,h2],rfl,rfl,rfl,λu e=>by unfold Eb;rw [e];rfl,λu e=>by unfold Eb;rw [e];rfl⟩
theorem Rb:JJ EF:=⟨λa b U h2=>by unfold EF Cw Eb B5;rw [U,h2],rfl,rfl,rfl,λu e=>by unfold EF Cw Eb B5;rw [e];rfl,λu e=>by unfold EF Cw Eb B5;rw [e];rfl⟩
theorem GM (h:k≠15/\k≠18/\k≠20):JJ (λt=>t.kind==k):=⟨λa b U _=>by rw [U],beq_eq_false_iff_ne.2 λe=>h.1 e.symm,beq_eq_false_iff_ne.2 λe=>h.1 e.symm,beq_eq_false_iff_ne.2 λe=>h.1 e.symm,λu e=>by grind,λu e=>by grind⟩
theorem rN:∀a b:Tk,a.kind=b.kind->a.text=b.text->(a.kind==k)=(b.kind==k):=λa b h _=>by rw [h]
theorem MY:∀a b:Tk,a.kind=b.kind->a.text=b.text->(a.text==x)=(b.text==x):=λa b _ h=>by rw [h]
theorem Ke:∀a b:Tk,a.kind=b.kind->a.text=b.text->CG a=CG b:=λa b U h2=>by unfold CG;rw [U,h2]
section
variable {α σ:Type} {d:Nat} {s t:Ad} {P:α->Ad->Prop} {Q:α->α->Ad->Ad->Prop} {J:σ->σ->Prop}
theorem SW.go {P:Sum σ α->Ad->Prop} {x y:σ} (h:J x y) (U:S.R d s t):SW S P (.ret (.inl x)) (.ret (.inl y)) s t (fh S d J Q):=SW.ret ⟨h,U⟩
theorem SW.out {P:Sum σ α->Ad->Prop} {v w:α} (h:Q v w s t):SW S P (.ret (.inr v)) (.ret (.inr w)) s t (fh S d J Q):=SW.ret h
def NS (S:Sy) (A B:Rd Nd):Prop:=∀d s t,S.R d s t->SW S (λ_ _=>True) A B s t (λv w s1 U=>S.T v w/\S.R d s1 U)
def SG (S:Sy) (A B:Rd Nd):Prop:=∀d s t,S.R d s t->Nm S d s t->SW S (λ_ _=>True) A B s t (λv w s1 U=>S.T v w/\S.R d s1 U)
theorem SW.A2 {P:Nd->Ad->Prop} {Q:Nd->Nd->Ad->Ad->Prop} {A B:Rd Nd} (hA:NS S A B) (hr:S.R d s t) (k:∀v w s1 U,S.T v w->S.R d s1 U->Q v w s1 U):SW S P A B s t Q:=((hA d s t hr).wk λ_ _ _=>trivial).mono λv w s' t' h=>k v w s' t' h.1 h.2
theorem SW.AG {P:Nd->Ad->Prop} {Q:Nd->Nd->Ad->Ad->Prop} {A B:Rd Nd} (hA:SG S A B) (hr:S.R d s t) (h:Nm S d s t) (k:∀v w s1 U,S.T v w->S.R d s1 U->Q v w s1 U):SW S P A B s t Q:=((hA d s t hr h).wk λ_ _ _=>trivial).mono λv w s' t' h=>k v w s' t' h.1 h.2
theorem SW.vp {B:Rd α} {k:Unit->Rd α} (h:Sp S.c s t):SW S P (.seq DG k) B s t Q:=SW.no λv s' e hm _=>by
 obtain ⟨a,s1,h1,h2⟩:=AO e
 obtain ⟨b,s2,U,h4⟩:=AO h1
 rw [Bu (CS h.1 Do)] at U
 cases U
 cases h4
 have:=(k ()).le _ _ _ h2
 have:=h.lt
 omega
theorem Sp.want {k:Nd->Rd α} {v:α} (h:Sp S.c s t) (e:(Rd.seq (Bc 15 [125]) k).run s=.inr (v,s')):mu s'<S.c:=by
 obtain ⟨a,s1,U,h2⟩:=AO e
 replace U:(if AU s 15 [125]=true then Ay else IG).run s=.inr (a,s1):=U
 rw [if_pos h.1,Bu (CS h.1 Do)] at U
 cases U
 have:=(k _).le _ _ _ h2
 have:=h.lt
 omega
end
section
variable {d:Nat} {s t:Ad} {A B C D E:Rd Nd} {L:EX} {n m o:Nd} {l l':List Nd}
structure FM (S:Sy) (L:EX):Prop where
 atom:SR S L.atom
 exp:SR S L.exp
 ops:SR S L.ops
 decls:SR S L.decls
 stmts:SR S L.stmts
 alts:SR S L.alts
 DT:∀o o',S.T o o'->NS S (L.DT o) (L.DT o')
 list:∀o o',S.T o o'->NS S (L.list o) (L.list o')
theorem ND (hA:SR S A) (hp:∀{a b:Nd},S.T a b->p a=p b):SR S (CX A p):=λd s t U=>
 SW.look (SW.seq (SW.A hA U λv w s1 t1 hv U=>SW.ite (by rw [hp hv]) (λ_=>SW.ret ⟨hv,U⟩) λ_=>SW.DL))
theorem dJ {A:Rd Nd} (hA:SG S A A) (hp:∀{a b:Nd},S.T a b->p a=p b):SG S (CX A p) (CX A p):=λd s t U h=>
 SW.look (SW.seq (SW.AG hA U h λv w s1 t1 hv U=>SW.ite (by rw [hp hv]) (λ_=>SW.ret ⟨hv,U⟩) λ_=>SW.DL))
theorem Un:SR S HA:=λd s t U=>SW.look (SW.Rp U XB (λ_ h=>SW.seq (SW.take h λv w s1 t1 hv U=>SW.ret ⟨S.node (.one hv),U⟩))
 λ_=>SW.seq (SW.want U Do λa a' s1 t1 ha U=>SW.seq (SW.kind U Do λb b' s1 t1 hb U=>SW.seq (SW.want U Do λc c' s1 t1 hc U=>SW.ret ⟨S.node (.cons ha (.cons hb (.one hc))),U⟩))))
theorem lf {P:List Nd->Ad->Prop} {Q:List Nd->List Nd->Ad->Ad->Prop} (hl:A4 S.T l l') (U:S.R d s t) (k:∀v w s1 t1,A4 S.T v w->S.R d s1 t1->Q v w s1 t1):SW S P (Qp l) (Qp l') s t Q:=
 SW.loop (J:=A4 S.T) (λx y s t hj U=>SW.look (SW.is U Do (λ_ h=>SW.seq (SW.take h λv w s1 t1 hv U=>SW.go (hj.app (.one (S.node (.one hv)))) U)) λ_=>SW.out (k _ _ _ _ hj U))) hl U
theorem lg {br:Bool} {P:List Nd×Bool->Ad->Prop} {Q:List Nd×Bool->List Nd×Bool->Ad->Ad->Prop} (hA:SR S A) (U:S.R d s t) (k:∀v w b s1 t1,A4 S.T v w->(b=true->Nm S d s1 t1)->S.R d s1 t1->Q (v,b) (w,b) s1 t1):SW S P (N0 A br) (N0 A br) s t Q:=by
 refine SW.loop (J:=A4 S.T) (λx y s t hj U=>SW.seq (lf hj U λv w s1 t1 hl U=>SW.seq (SW.A hA U λn n' s1 t1 hn U=>?_))) .nil U
 have h1:=hl.app (.one hn)
 refine SW.look (SW.Rp U XA (λ_ _=>SW.seq (SW.A Un U λo o' s1 t1 ho U=>?_)) λ_=>SW.out (k _ _ _ _ _ h1 (λe=>by cases e) U))
 have h2:=h1.app (.one ho)
 exact SW.ite Iff.rfl (λ_=>SW.look (SW.is U Do (λ_ h=>SW.out (k _ _ _ _ _ h2 (λ_=>h) U)) λ_=>SW.go h2 U)) λ_=>SW.go h2 U
theorem A4.LC {k:Int} (h:A4 S.T l l'):S.T (LC k l) (LC k l'):=by
 unfold Proofs.Z.LC
 have:=h.len
 cases h with
 |nil=>exact S.node .nil
 |cons U h2=>
  cases h2 with
  |nil=>exact U
  |cons h3 h4=>rw [if_neg GT,if_neg GT];exact S.node (.cons U (.cons h3 h4))
theorem kQ (hA:SR S A):SR S (Y0 A):=λd s t U=>SW.seq (lg hA U λv w b s1 t1 h _ U=>SW.ret ⟨h.LC,U⟩)
theorem Xj (hA:SR S A) (hn:S.T n m):NS S (Km A n) (Km A m):=λd s t U=>SW.look (SW.is U Do (λ_ h=>SW.seq (SW.take h λv w s1 t1 hv U=>SW.seq (SW.A hA U λa b s1 t1 ha U=>SW.ret ⟨S.node (.cons hn (.cons hv (.one ha))),U⟩))) λ_=>SW.ret ⟨hn,U⟩)
theorem sH (hA:SR S A) (hB:SR S B):SR S (cN A B):=λd s t U=>SW.seq (SW.A (kQ hA) U λv w s1 t1 hv U=>Xj hB hv _ _ _ U)
theorem Xf {a a' b b':Nd} (hL:FM S L) (ha:S.T a a') (hb:S.T b b'):NS S (J5 L a b) (J5 L a' b'):=λd s t U=>SW.seq (SW.want U Do λi i' s1 t1 hi U=>SW.seq (SW.A hL.exp U λe e' s1 t1 he U=>SW.ret ⟨S.node (.cons ha (.cons hb (.cons hi (.one he)))),U⟩))
theorem sI (hL:FM S L):SG S (c9 L) (c9 L):=λd s t U h=>SW.seq (SW.take h λv w s1 t1 hv U=>SW.seq (SW.A hL.decls U λa b s1 t1 ha U=>Xf hL hv ha _ _ _ U))
theorem dZ (hL:FM S L) (hA:SR S A):SG S (I7 L A) (I7 L A):=λd s t U h=>by
 have hs:∀{P:Sum (List Nd) (List Nd)->Ad->Prop} {Q:List Nd->List Nd->Ad->Ad->Prop} {l l':List Nd} {s t:Ad},A4 S.T l l'->S.R d s t->SW S P (KE A l) (KE A l') s t (fh S d (A4 S.T) Q):=λhl U=>SW.seq (SW.A (ND hA S.nt.may) U λv w s1 t1 hv U=>SW.go (hl.app (.one hv)) U)
 refine SW.seq (SW.take h λv w s1 t1 hv U=>SW.seq (SW.loop (J:=A4 S.T) (λx y s t hj U=>SW.ite (by rw [hj.len]) (λ_=>hs hj U) λ_=>SW.look (SW.Rp U Ra (λ_ _=>hs hj U) λ_=>SW.out ?_)) (.one hv) U))
 exact SW.seq (SW.want U Do λa a' s1 t1 ha U=>SW.seq (SW.A hL.exp U λe e' s1 t1 he U=>SW.ret ⟨S.node ((hj.app (.one ha)).app (.one he)),U⟩))
theorem Nm.oI (h:ff S.T s t/\((Ab s).2.2=0->(Ab t).2.2=0/\fp S.R d (Ab s).1 (Ab s).2.1 (Ab t).2.1)) (e:CG (Ab s).1=true):Nm S d s t:=⟨h.1,λhz=>by
 obtain ⟨h1,U⟩:=h.2 hz
 have e1:JO (Ab s).1=false/\L7 (Ab s).1=false:=by
  unfold CG at e
  unfold JO L7
  simp only [Bool.or_eq_true,Bool.and_eq_true,beq_iff_eq] at e
  rcases e with e|⟨e,e2⟩
  .rw [e];simp
  .rw [e,e2];decide
 unfold fp at U
 rw [e1.1,e1.2,if_neg Do,if_neg Do] at U
 exact ⟨h1,U⟩⟩
theorem pc {P:Unit->Ad->Prop} {Q:Unit->Unit->Ad->Ad->Prop} (U:S.R d s t) (hP:Sp S.c s t->P () s->False) (k:∀s1 t1,S.R d s1 t1->Q () () s1 t1):SW S P (Sv w) (Sv w) s t Q:=by
 rcases S.next U with h|h
 .refine SW.look (SW.ite (by rw [Ke _ _ h.1.1 h.1.2.1]) (λe=>SW.uC (Dn (HD e).1) (.oI h e) GT (λ_ _=>?_) (SW.ret (k _ _ U))) λ_=>SW.ret (k _ _ U))
  exact SW.seq (SW.take (.oI h e) λv w s1 t1 hv U=>SW.ret (k _ _ U))
 .refine SW.no λv s' e hm hp=>?_
  replace e:(if CG (Ab s).1=true then (if AU (Ab s).2.1 9 w=true then DG else .ret ()) else .ret ():Rd Unit).run s=.inr (v,s'):=e
  rw [Ke _ ⟨15,[125],0,0⟩ (Bl h.1).1 (Bl h.1).2,if_neg Do] at e
  cases e
  exact hP h hp
theorem bM {P:List Nd->Ad->Prop} {Q:List Nd->List Nd->Ad->Ad->Prop} (hL:FM S L) (hl:A4 S.T l l') (U:S.R d s t) (k:∀v w s1 t1,A4 S.T v w->S.R d s1 t1->Q v w s1 t1):SW S P (Le L l w) (Le L l' w) s t Q:=by
 refine SW.seq (pc U (λh hp=>?_) λs1 t1 U=>SW.seq (SW.want U GT λa a' s1 t1 ha U=>SW.seq (SW.A hL.exp U λe e' s1 t1 he U=>SW.ret (k _ _ _ _ ((hl.app (.one ha)).app (.one he)) U))))
 obtain ⟨v,s',e,_⟩:=hp
 obtain ⟨a,s1,h1,_⟩:=AO e
 replace h1:(if AU s 9 w=true then Ay else IG).run s=.inr (a,s1):=h1
 rw [if_neg (by unfold AU;rw [(Bl h.1).1];simp)] at h1
 cases h1
theorem dV (hL:FM S L):SG S (II L) (II L):=λd s t U h=>SW.seq (SW.take h λv w s1 t1 hv U=>SW.seq (SW.A hL.exp U λc c' s1 t1 hc U=>SW.seq (bM hL (.cons hv (.one hc)) U λl l' s1 t1 hl U=>SW.seq (bM hL hl U λl l' s1 t1 hl U=>SW.ret ⟨S.node hl,U⟩))))
theorem oU (hL:FM S L):SG S (RQ L) (RQ L):=λd s t U h=>SW.seq (SW.take h λv w s1 t1 hv U=>SW.seq (SW.A hL.exp U λc c' s1 t1 hc U=>SW.seq (SW.want U Do λo o' s1 t1 ho U=>SW.seq (SW.A hL.alts U λa a' s1 t1 ha U=>SW.ret ⟨S.node (A4.app (.cons hv (.cons hc (.one ho))) (.one ha)),U⟩))))
theorem kU (hL:FM S L):SG S (LK L) (LK L):=λd s t U h=>SW.seq (SW.take h λv w s1 t1 hv U=>SW.seq (SW.A hL.stmts U λc c' s1 t1 hc U=>SW.ite (by rw [S.nt.last hc]) (λ_=>SW.fail) λ_=>SW.ret ⟨S.node (.cons hv (.one hc)),U⟩))
theorem QT (hA:SR S A):SR S (Ln A):=λd s t U=>SW.seq (SW.A hA U λn n' s1 t1 hn U=>SW.seq (SW.loop (J:=A4 S.T) (λx y s t hj U=>SW.look (SW.Rp U Ra (λ_ _=>SW.seq (SW.A hA U λv w s1 t1 hv U=>SW.go (hj.app (.one hv)) U)) λ_=>SW.out (SW.ret ⟨hj.LC,U⟩))) (.one hn) U))
theorem LJ (hL:FM S L) (hA:SR S A):SR S (Ik L A):=λd s t U=>SW.look (SW.Rp (p:=λt=>t.kind==10) U (GM Do) (λ_ h=>SW.at (p:=λt=>t.text==[92]) h MY (λ_=>dZ hL hA _ _ _ U h) λ_=>QT hA _ _ _ U)
 λ_=>SW.Rp (p:=λt=>t.kind==9) U (GM Do) (λ_ h=>SW.at (p:=λt=>t.text==lQ) h MY (λ_=>sI hL _ _ _ U h) λ_=>SW.at (p:=λt=>t.text==uv) h MY (λ_=>dV hL _ _ _ U h) λ_=>SW.at (p:=λt=>t.text==bU) h MY (λ_=>oU hL _ _ _ U h) λ_=>
  SW.at (p:=λt=>t.text==uu) h MY (λ_=>kU hL _ _ _ U h) λ_=>QT hA _ _ _ U) λ_=>QT hA _ _ _ U)
theorem bI (ho:S.T o n):NS S (Qd o) (Qd n):=λd s t U=>SW.seq (SW.loop (J:=A4 S.T) (λx y s t hj U=>SW.look (SW.is U Do (λ_ h=>SW.seq (SW.take h λv w s1 t1 hv U=>SW.go (hj.app (.one hv)) U)) λ_=>SW.out (SW.seq (SW.want U Do λc c' s1 t1 hc U=>SW.ret ⟨S.node (hj.app (.one hc)),U⟩)))) (.one ho) U)
theorem SD (hL:FM S L) (ho:S.T o n):NS S (LG L o) (LG L n):=λd s t U=>SW.look (SW.Rp U XA (λ_ h=>SW.is U Do (λ_ _=>hL.DT _ _ ho _ _ _ U) λ_=>SW.seq (SW.A Un U λp p' s1 t1 hp U=>SW.seq (SW.A hL.ops U λe e' s1 t1 he U=>SW.seq (SW.want U Do λc c' s1 t1 hc U=>SW.ret ⟨S.node (.cons ho (.cons hp (.cons he (.one hc)))),U⟩))))
 λ_=>hL.DT _ _ ho _ _ _ U)
theorem ef (hL:FM S L) (ho:S.T o n):NS S (Nw L o) (Nw L n):=λd s t U=>SW.look (SW.Rp U XB (λe h=>SW.uC (Dn (NG e).1) h Do (λ_ h2=>SW.seq (SW.takeN h λhp U=>SW.seq (SW.take h2 λc c' s1 t1 hc U=>SW.ret ⟨S.node (.cons ho (.cons hp (.one hc))),U⟩))) (SD hL ho _ _ _ U)) λ_=>SD hL ho _ _ _ U)
theorem kS (hL:FM S L):SG S (LH L) (LH L):=λd s t U h=>SW.seq (SW.take h λv w s1 t1 hv U=>SW.look (SW.is U Do (λ_ _=>bI hv _ _ _ U) λ_=>SW.is U Do (λ_ _=>bI hv _ _ _ U) λ_=>ef hL hv _ _ _ U))
theorem ei (hL:FM S L):SG S (Jr L) (Jr L):=λd s t U h=>SW.seq (SW.take h λv w s1 t1 hv U=>SW.look (SW.is U Do (λ_ h=>SW.seq (SW.take h λc c' s1 t1 hc U=>SW.ret ⟨S.node (.cons hv (.one hc)),U⟩)) λ_=>hL.list _ _ hv _ _ _ U))
theorem oT (hL:FM S L):SR S (Py L):=λd s t U=>SW.look (SW.Rp U Ra (λ_ h=>SW.at (p:=λt=>t.kind==15) h rN (λ_=>SW.at (p:=λt=>t.text==[40]) h MY (λ_=>kS hL _ _ _ U h) λ_=>ei hL _ _ _ U h)
 λ_=>SW.at (p:=λt=>t.kind==9) h rN (λ_=>SW.seq (SW.take h λw w' s1 t1 hw U=>SW.ret ⟨S.node (.one hw),U⟩))
 λ_=>SW.at (p:=λt=>t.kind==10) h rN (λ_=>SW.seq (SW.take h λw w' s1 t1 hw U=>SW.seq (SW.A hL.atom U λa a' s1 t1 ha U=>SW.ret ⟨S.node (.cons hw (.one ha)),U⟩)))
 λ_=>SW.seq (SW.take h λn n' s1 t1 hn U=>SW.ite (by rw [h.1.1]) (λ_=>SW.look (SW.is U Do (λ_ h=>SW.seq (SW.take h λw w' s1 t1 hw U=>SW.seq (SW.A hL.atom U λa a' s1 t1 ha U=>SW.ret ⟨S.node (.cons hn (.cons hw (.one ha))),U⟩))) λ_=>SW.ret ⟨hn,U⟩)) λ_=>SW.ret ⟨hn,U⟩)) λ_=>SW.bad)
theorem ee (hL:FM S L) (hn:S.T n m) (U:S.R d s t) (ho:AU s 15 [123]=true) (k:∀v w s1 t1,S.T v w->S.R d s1 t1->Q v w s1 t1):SW S P (HB L n) (HB L m) s t Q:=by
 refine SW.seq (SW.bO U (YZ ho) λb b' s1 t1 hb U=>SW.seq (SW.loop (d:=d+1) (J:=A4 S.T) (λx y s t hj U=>?_) (.cons hn (.one hb)) U))
 have hend:∀{x y:List Nd} {s t:Ad} {P':Sum (List Nd) (List Nd)->Ad->Prop},A4 S.T x y->S.R (d+1) s t->SW S P' (.ret (.inr x)) (.ret (.inr y)) s t (fh S (d+1) (A4 S.T) λv w s1 t1=>SW S P (.seq (Bc 15 [125]) λc=>.ret (Aq 12 (v++[c]))) (.seq (Bc 15 [125]) λc=>.ret (Aq 12 (w++[c]))) s1 t1 Q):=λhl U=>
  SW.out (SW.seq (SW.qI U λc c' s1 t1 hc U=>SW.ret (k _ _ _ _ (S.node (hl.app (.one hc))) U)))
 have hf:∀{P':Sum (List Nd) (List Nd)->Ad->Prop},SW S P' (Nh L x) (Nh L y) s t (fh S (d+1) (A4 S.T) λv w s1 t1=>SW S P (.seq (Bc 15 [125]) λc=>.ret (Aq 12 (v++[c]))) (.seq (Bc 15 [125]) λc=>.ret (Aq 12 (w++[c]))) s1 t1 Q):=
  SW.seq (SW.kind U Do λa a' s1 t1 ha U=>SW.seq (SW.want U Do λq q' s1 t1 hq U=>SW.seq (SW.A hL.exp U λe e' s1 t1 he U=>by
   have h1:=hj.app (.one (S.node (k:=13) (.cons ha (.cons hq (.one he)))))
   exact SW.look (SW.is U Do (λ_ h=>SW.seq (SW.take h λc c' s1 t1 hc U=>SW.go (h1.app (.one hc)) U)) λ_=>hend h1 U))))
 rcases S.next U with h|h
 .exact SW.look (SW.ite (by unfold AU;rw [h.1.1,h.1.2.1]) (λ_=>SW.ite (by rw [hj.len]) (λ_=>hf) λ_=>hend hj U) λ_=>hf)
 .refine SW.look ?_
  rw [if_pos h.1,if_neg (show ¬AU t 15 [125]=true by unfold AU;rw [(Bl h.2.1).1,(Bl h.2.1).2];decide)]
  by_cases h2:2<(x.length:Int)
  .rw [if_pos h2];exact hf
  .rw [if_neg h2]
   refine SW.no λv s' e hm hp=>?_
   cases e
   obtain ⟨v,s',e,hm,_⟩:=hp
   have:=h.want e
   omega
theorem Kg (hL:FM S L):SR S (LX L):=λd s t U=>SW.seq (SW.A (oT hL) U λn n' s1 t1 hn U=>SW.loop (J:=S.T) (λx y s t hj U=>SW.look (SW.uD U (λe=>SW.seq (ee hL hj U e λv w s1 t1 hv U=>SW.go hv U)) (SW.out ⟨hj,U⟩))) hn U)
theorem A4.take {T:Nd->Nd->Prop} {l m:List Nd} (h:A4 T l m):∀k,A4 T (l.take k) (m.take k):=by
 induction h with
 |nil=>intro k;simp;exact .nil
 |cons U _ ih=>
  intro k
  cases k with
  |zero=>exact .nil
  |succ k=>exact .cons U (ih k)
theorem A4.last {m:List Nd} (U:T Hz Hz) (h:A4 T l m):T (l.getLastD Hz) (m.getLastD Hz):=by
 suffices k:∀a b,T a b->T (l.getLastD a) (m.getLastD b) from k _ _ U
 induction h with
 |nil=>intro a b h;exact h
 |cons h1 _ ih=>intro a b h;rw [List.getLastD_cons,List.getLastD_cons];exact ih _ _ h1
theorem kM (hA:SR S A) (hB:SR S B) (hC:SR S C) (ho:S.T o n):NS S (D8 A B C o) (D8 A B C n):=λd s t U=>SW.seq (lg hA U λv w b s1 t1 hl hb U=>SW.ite Iff.rfl
 (λe=>SW.seq (SW.take (hb e) λc c' s1 t1 hc U=>SW.ret ⟨S.node (.cons ho (.cons (by dsimp only;rw [<-hl.len];exact (hl.take _).LC) (.cons (hl.last S.nd) (.one hc)))),U⟩))
 λ_=>SW.seq (SW.A2 (Xj hB hl.LC) U λe e' s1 t1 he U=>SW.seq (SW.loop (J:=λp q=>p.1=q.1/\A4 S.T p.2 q.2) (λx y s t hj U=>SW.look (SW.is U Do (λ_ h=>SW.seq (SW.take h λc c' s1 t1 hc U=>SW.seq (SW.A hC U λe e' s1 t1 he U=>SW.go ⟨rfl,(hj.2.app (.one hc)).app (.one he)⟩ U)))
  λ_=>SW.out (SW.seq (SW.want U Do λc c' s1 t1 hc U=>SW.ret ⟨by rw [hj.1];exact S.node (hj.2.app (.one hc)),U⟩)))) ⟨rfl,.cons ho (.one he)⟩ U)))
theorem Xp {P:List Nd->Ad->Prop} {Q:List Nd->List Nd->Ad->Ad->Prop} (hA:SR S A) (hl:A4 S.T l l') (U:S.R d s t) (k:∀v w s1 t1,A4 S.T v w->S.R d s1 t1->Q v w s1 t1):SW S P (E4 A l) (E4 A l') s t Q:=
 SW.seq (SW.want U Do λb b' s1 t1 hb U=>SW.seq (SW.A hA U λe e' s1 t1 he U=>SW.loop (J:=A4 S.T) (λx y s t hj U=>SW.look (SW.is U Do (λ_ h=>SW.seq (SW.take h λc c' s1 t1 hc U=>SW.seq (SW.A hA U λe e' s1 t1 he U=>SW.go ((hj.app (.one hc)).app (.one he)) U))) λ_=>SW.out (k _ _ _ _ hj U))) ((hl.app (.one hb)).app (.one he)) U))
theorem oX (hA:SR S A) (hB:SR S B) (ho:S.T o n):NS S (N5 A B o) (N5 A B n):=λd s t U=>by
 refine SW.seq (SW.A hA U λe e' s1 t1 he U=>SW.look (SW.is U Do (λ_ _=>SW.seq (Xp hB (.cons ho (.one he)) U λl l' s1 t1 hl U=>SW.seq (SW.want U Do λc c' s1 t1 hc U=>SW.ret ⟨S.node (hl.app (.one hc)),U⟩))) λ_=>SW.seq (SW.loop (J:=A4 S.T) (λx y s t hj U=>?_) (.cons ho (.one he)) U)))
 have hend:∀{k:Int} {x y:List Nd} {s t:Ad} {P:Sum (List Nd) (Int×List Nd)->Ad->Prop},A4 S.T x y->S.R d s t->SW S P (.ret (.inr (k,x))) (.ret (.inr (k,y))) s t (fh S d (A4 S.T) λv w s1 t1=>SW S (λ_ _=>True) (.seq (Bc 15 [93]) λc=>.ret (Aq v.1 (v.2++[c]))) (.seq (Bc 15 [93]) λc=>.ret (Aq w.1 (w.2++[c]))) s1 t1 (λv w s1 t1=>S.T v w/\S.R d s1 t1)):=λhl U=>
  SW.out (SW.seq (SW.want U Do λc c' s1 t1 hc U=>SW.ret ⟨S.node (hl.app (.one hc)),U⟩))
 have hc:∀{P:Sum (List Nd) (Int×List Nd)->Ad->Prop},SW S P (Sc A x) (Sc A y) s t (fh S d (A4 S.T) λv w s1 t1=>SW S (λ_ _=>True) (.seq (Bc 15 [93]) λc=>.ret (Aq v.1 (v.2++[c]))) (.seq (Bc 15 [93]) λc=>.ret (Aq w.1 (w.2++[c]))) s1 t1 (λv w s1 t1=>S.T v w/\S.R d s1 t1)):=
  SW.look (SW.is U Do (λ_ h=>SW.seq (SW.take h λc c' s1 t1 hc U=>SW.seq (SW.A hA U λe e' s1 t1 he U=>SW.go ((hj.app (.one hc)).app (.one he)) U))) λ_=>hend hj U)
 refine SW.ite (by rw [hj.len]) (λ_=>SW.look (SW.is U Do (λ_ h=>SW.seq (SW.take h λd d' s1 t1 hd U=>?_)) λ_=>hc)) λ_=>hc
 exact SW.look (SW.is U Do (λ_ _=>hend (hj.app (.one hd)) U) λ_=>SW.seq (SW.A hA U λe e' s1 t1 he U=>hend ((hj.app (.one hd)).app (.one he)) U))
theorem bG (hA:SR S A) (hn:S.T n m):NS S (Pz A n) (Pz A m):=λd s t U=>SW.look (SW.is U Do (λ_ h=>SW.ite (by rw [S.nt.may hn]) (λ_=>SW.seq (SW.take h λa a' s1 t1 ha U=>SW.seq (SW.A hA U λe e' s1 t1 he U=>SW.ret ⟨S.node (.cons hn (.cons ha (.one he))),U⟩))) λ_=>SW.fail) λ_=>SW.ret ⟨hn,U⟩)
theorem oZ (hL:FM S L) (hA:SR S A):SR S (SF L A):=λd s t U=>SW.look (SW.is U Do (λ_ h=>SW.seq (SW.take h λv w s1 t1 hv U=>SW.seq (SW.A hL.decls U λb b' s1 t1 hb U=>SW.look (SW.is U Do (λ_ _=>SW.seq (SW.A2 (Xf hL hv hb) U λn n' s1 t1 hn U=>bG hA hn _ _ _ U)) λ_=>SW.ret ⟨S.node (.cons hv (.one hb)),U⟩))))
 λ_=>SW.seq (SW.A hA U λn n' s1 t1 hn U=>bG hA hn _ _ _ U))
theorem A4.hd {m:List Nd} (U:T Hz Hz) (h:A4 T l m):T (l.headD Hz) (m.headD Hz):=by
 cases h with
 |nil=>exact U
 |cons h1 _=>exact h1
theorem bK (hL:FM S L) (hA:SR S A) (hB:SR S B) (hl:A4 S.T l l'):NS S (Za L A B x l) (Za L A B x l'):=λd s t U=>by
 refine SW.seq (SW.loop (J:=A4 S.T) (λy z s t hj U=>?_) hl U)
 have hend:∀{P:Sum (List Nd) (List Nd)->Ad->Prop},SW S P (.ret (.inr y)) (.ret (.inr z)) s t (fh S d (A4 S.T) λv w s1 t1=>SW S (λ_ _=>True) (.look λs=>if AU s 9 Rj=true then .seq Ay λw=>.seq L.decls λb=>.ret (Aq 29 (v++[Aq 31 [w,b]])) else .ret (Aq 29 v)) (.look λs=>if AU s 9 Rj=true then .seq Ay λw'=>.seq L.decls λb=>.ret (Aq 29 (w++[Aq 31 [w',b]])) else .ret (Aq 29 w)) s1 t1 (λv w s1 t1=>S.T v w/\S.R d s1 t1)):=
  SW.out (SW.look (SW.is U Do (λ_ h=>SW.seq (SW.take h λw w' s1 t1 hw U=>SW.seq (SW.A hL.decls U λb b' s1 t1 hb U=>SW.ret ⟨S.node (hj.app (.one (S.node (.cons hw (.one hb))))),U⟩))) λ_=>SW.ret ⟨S.node hj,U⟩))
 have hs:∀{P:Sum (List Nd) (List Nd)->Ad->Prop} {Q:List Nd->List Nd->Ad->Ad->Prop},SW S P (Lw A B x y) (Lw A B x z) s t (fh S d (A4 S.T) Q):=
  SW.seq (Xp hB .nil U λg g' s1 t1 hg U=>SW.seq (SW.want U GT λq q' s1 t1 hq U=>SW.seq (SW.A hA U λe e' s1 t1 he U=>SW.go (hj.app (.one (S.node ((hg.app (.one hq)).app (.one he))))) U)))
 exact SW.ite (by rw [hj.len]) (λ_=>hs) λ_=>SW.ite (by rw [S.nt.kd (hj.hd S.nd)]) (λ_=>SW.look (SW.is U Do (λ_ _=>hs) λ_=>hend)) λ_=>hend
theorem kR (hL:FM S L) (hA:SR S A) (hB:SR S B):SR S (Zb L A B x):=λd s t U=>SW.look (SW.is U GT (λ_ h=>SW.seq (SW.take h λa a' s1 t1 ha U=>SW.seq (SW.A hA U λe e' s1 t1 he U=>bK hL hA hB (.cons ha (.one he)) _ _ _ U)))
 λ_=>SW.is U Do (λ_ _=>bK hL hA hB .nil _ _ _ U) λ_=>SW.bad)
theorem sG (hL:FM S L) (hA:SR S A) (hB:SR S B) (hC:SR S C):SR S (ca L A B C):=λd s t U=>SW.seq (SW.A hA U λn n' s1 t1 hn U=>SW.ite (by rw [S.nt.may hn]) (λ_=>SW.seq (SW.A (kR hL hB hC) U λr r' s1 t1 h U=>SW.ret ⟨S.node (.cons hn (.one h)),U⟩)) λ_=>SW.fail)
theorem QX (hl:A4 S.T l l'):NS S (IQ l) (IQ l'):=λd s t U=>
 have ho:=ND (S:=S) (p:=HU) Un S.nt.plain
 SW.seq (SW.A ho U λv w s1 t1 hv U=>SW.seq (SW.loop (J:=A4 S.T) (λx y s t hj U=>SW.look (SW.is U Do (λ_ h=>SW.seq (SW.take h λc c' s1 t1 hc U=>SW.seq (SW.A ho U λo o' s1 t1 ho U=>SW.go ((hj.app (.one hc)).app (.one ho)) U))) λ_=>SW.out (SW.ret ⟨S.node hj,U⟩))) (hl.app (.one hv)) U))
theorem kV:SG S Ay Ay:=λd s t U h=>SW.take h λv w s1 t1 hv U=>⟨hv,U⟩
theorem dY:SG S IU IU:=λd s t U h=>SW.seq (SW.take h λf f' s1 t1 hf U=>SW.look (SW.Rp (p:=λt=>t.kind==11) U (GM Do) (λ_ h=>SW.seq (SW.AG (dJ kV S.nt.vl) U h λd d' s1 t1 hd U=>QX (.cons hf (.one hd)) _ _ _ U)) λ_=>QX (.one hf) _ _ _ U))
theorem kT (hA:SR S A) (hB:SR S B) (hn:S.T n m):NS S (WS A B n) (WS A B m):=λd s t U=>SW.ite (by rw [S.nt.var hn]) (λ_=>SW.seq (SW.loop (J:=A4 S.T) (λx y s t hj U=>SW.look (SW.is U Do (λ_ h=>SW.seq (SW.take h λc c' s1 t1 hc U=>SW.seq (SW.A (ND hA S.nt.var) U λo o' s1 t1 ho U=>SW.go ((hj.app (.one hc)).app (.one ho)) U)))
 λ_=>SW.out (SW.seq (SW.want U Do λc c' s1 t1 hc U=>SW.seq (SW.A hB U λe e' s1 t1 he U=>SW.ret ⟨S.node ((hj.app (.one hc)).app (.one he)),U⟩))))) (.one hn) U)) λ_=>SW.fail
theorem oW (hL:FM S L) (hA:SR S A) (hB:SR S B) (hC:SR S C) (hD:SR S D) (hE:SR S E):SR S (RX L A B C D E):=λd s t U=>SW.look (SW.Rp U lM (λ_ h=>dY _ _ _ U h) λ_=>SW.seq (SW.A hB U λn n' s1 t1 hn U=>SW.look (SW.is U Do (λ_ _=>kT hA hE hn _ _ _ U) λ_=>SW.is U Do (λ_ _=>kT hA hE hn _ _ _ U)
 λ_=>SW.ite (by rw [S.nt.lhs hn]) (λ_=>SW.seq (SW.A (kR hL hC hD) U λr r' s1 t1 h U=>SW.ret ⟨S.node (.cons hn (.one h)),U⟩)) λ_=>SW.fail)))
theorem MR {P:Unit->Ad->Prop} {Q:Unit->Unit->Ad->Ad->Prop} (U:S.R d s t) (hP:∀{s t},S.R d s t->Sp S.c s t->P () s->False) (k:∀s1 t1,S.R d s1 t1->Q () () s1 t1):SW S P Ci Ci s t Q:=by
 refine SW.loop (J:=λ_ _=>True) (λx y s t _ U=>?_) trivial U
 rcases S.next U with h|h
 .exact SW.look (SW.ite (by rw [Ke _ _ h.1.1 h.1.2.1]) (λe=>SW.seq (SW.seq (SW.take (.oI h e) λv w s1 t1 hv U=>SW.ret (SW.go trivial U)))) λ_=>SW.out (k _ _ U))
 .refine SW.no λv s' e hm hp=>?_
  replace e:(if CG (Ab s).1=true then .seq DG λ_=>.ret (.inl ()) else .ret (.inr ()):Rd (Sum Unit Unit)).run s=.inr (v,s'):=e
  rw [Ke _ ⟨15,[125],0,0⟩ (Bl h.1).1 (Bl h.1).2,if_neg Do] at e
  cases e
  exact hP U h hp
theorem Sp.ended {α:Type} {t:Ad} {b:Ad->Bool} {k:Bool->Rd α} {v:α} (h:Sp S.c s t) (e:(Rd.look λs=>.seq (Dg true (b s)) k).run s=.inr (v,s')):mu s'<S.c:=by
 obtain ⟨a,s2,U,h3⟩:=AO (show (Rd.seq (Dg true (b s)) k).run s=_ from e)
 replace U:(if AU s 15 [125]=true then Rd.seq DG λ_=>.ret true else if b s=true then IG else .ret false:Rd Bool).run s=.inr (a,s2):=U
 rw [if_pos h.1] at U
 obtain ⟨b,s3,h4,h5⟩:=AO U
 obtain ⟨b2,s4,h6,h7⟩:=AO h4
 rw [Bu (CS h.1 Do)] at h6
 cases h6;cases h7;cases h5
 have:=(k _).le _ _ _ h3
 have:=h.lt
 omega
theorem KT {b b':Bool} {P:Bool->Ad->Prop} {Q:Bool->Bool->Ad->Ad->Prop} (U:S.R (d+1) s t) (hb:ff S.T s t->b=b') (k1:∀s1 t1,S.R d s1 t1->Q true true s1 t1) (k2:Q false false s t):SW S P (Dg true b) (Dg true b') s t Q:=by
 rcases S.next U with h|h
 .obtain rfl:=hb h.1
  exact SW.look (SW.ite (by unfold AU;rw [h.1.1,h.1.2.1]) (λe=>SW.seq (SW.seq (SW.lj U (gk e) λv w s1 t1 hv U=>SW.ret (SW.ret (k1 _ _ U))))) λ_=>SW.ite Iff.rfl (λ_=>SW.bad) λ_=>SW.ret k2)
 .refine SW.look ?_
  rw [if_pos (show (if true=true then AU s 15 [125] else (Ab s).1.kind==20)=true from h.1)]
  exact SW.vp h
theorem SI {b b':Bool} {P:Bool->Ad->Prop} {Q:Bool->Bool->Ad->Ad->Prop} (U:S.R (d+1) s t) (h:ff S.T s t) (hb:b=b') (k1:∀s1 t1,S.R d s1 t1->Q true true s1 t1) (k2:Q false false s t):SW S P (Dg false b) (Dg false b') s t Q:=by
 subst hb
 have hk:(Ab s).1.kind==20->JO (Ab s).1=false/\L7 (Ab s).1=true:=λe=>by
  unfold JO L7
  rw [beq_iff_eq.1 e];simp
 refine SW.look (SW.ite (by show ((Ab s).1.kind==20)=true↔((Ab t).1.kind==20)=true;rw [h.1]) (λe=>SW.seq (SW.seq (SW.lj U (hk e) λv w s1 t1 hv U=>SW.ret (SW.ret (k1 _ _ U))))) λ_=>SW.ite Iff.rfl (λ_=>SW.ite Iff.rfl (λ_=>SW.bad) λ_=>SW.seq ?_) λ_=>SW.ret k2)
 intro v s' e hm hp
 unfold PG at e |-
 dsimp only at e |-
 by_cases hc:(C0 s).2=true
 .rw [if_pos hc] at e
  cases e
  obtain ⟨h1,x,hx,h2⟩:=S.close U hc
  obtain rfl:d=x:=AC
  rw [if_pos h1]
  exact ⟨_,_,rfl,SW.ret (k1 _ _ h2)⟩
 .rw [if_neg hc] at e;cases e
theorem dU {p:Tk->Bool} {item:List Nd->Rd Nd} (hp:JJ p) (hA:∀{l l':List Nd},A4 S.T l l'->NS S (item l) (item l')):SR S (L6 p item):=λd s t U=>by
 have h1:∀{s t:Ad},S.R (d+1) s t->SW S (λ_ _=>True) (.seq (.loop (DI p item true) []) λl=>.ret (BB true l)) (.seq (.loop (DI p item true) []) λl=>.ret (BB true l)) s t (λv w s1 t1=>S.T v w/\S.R d s1 t1):=λU=>by
  refine SW.seq (SW.loop (d:=d+1) (J:=A4 S.T) (λx y s t hj U=>SW.seq (MR U (@λs2 t2 U h hp=>?_) λs1 t1 U=>SW.look (SW.seq (KT U (λh=>by rw [hp.k _ _ h.1 h.2.1]) (λs1 t1 U=>?_) ?_)))) .nil U)
  .obtain ⟨v,s',e,hm,_⟩:=hp
   exact absurd hm (Nat.not_le.2 (h.ended e))
  .rw [if_pos rfl,if_pos rfl];exact SW.out (SW.ret ⟨S.block hj,U⟩)
  .rw [if_neg Do,if_neg Do]
   refine SW.seq (SW.A2 (hA hj) U λn n' s1 t1 hn U=>SW.look (SW.seq (KT U (λh=>by rw [Ke _ _ h.1 h.2.1]) (λs1 t1 U=>?_) ?_)))
   .rw [if_pos rfl,if_pos rfl];exact SW.out (SW.ret ⟨S.block (hj.app (.one hn)),U⟩)
   .rw [if_neg Do,if_neg Do];exact SW.go (hj.app (.one hn)) U
 have h0:(∀{e:Nat} {s t:Ad},S.R e s t->ff S.T s t)->∀{s t:Ad},S.R (d+1) s t->SW S (λ_ _=>True) (.seq (.loop (DI p item false) []) λl=>.ret (BB false l)) (.seq (.loop (DI p item false) []) λl=>.ret (BB false l)) s t (λv w s1 t1=>S.T v w/\S.R d s1 t1):=λhN {s t} U=>by
  refine SW.seq (SW.loop (d:=d+1) (J:=A4 S.T) (λx y s t hj U=>SW.seq (MR U (λU h hp=>?_) λs1 t1 U=>SW.look (SW.seq (SI U (hN U) (by rw [hp.k _ _ (hN U).1 (hN U).2.1]) (λs1 t1 U=>?_) ?_)))) .nil U)
  .have h2:=(hN U).2.1
   rw [(Bl h.1).2,(Bl h.2.1).2] at h2
   cases h2
  .rw [if_pos rfl,if_pos rfl];exact SW.out (SW.ret ⟨S.block hj,U⟩)
  .rw [if_neg Do,if_neg Do]
   refine SW.seq (SW.A2 (hA hj) U λn n' s1 t1 hn U=>SW.look (SW.seq (SI U (hN U) (by rw [Ke _ _ (hN U).1 (hN U).2.1]) (λs1 t1 U=>?_) ?_)))
   .rw [if_pos rfl,if_pos rfl];exact SW.out (SW.ret ⟨S.block (hj.app (.one hn)),U⟩)
   .rw [if_neg Do,if_neg Do];exact SW.go (hj.app (.one hn)) U
 rcases S.next U with h|h
 .refine SW.look (SW.ite (by rw [h.1.1]) (λe=>?_) λ_=>SW.seq (SW.uf U λv w s1 t1 hv U=>h1 U))
  have hN:∀{x:Nat} {s' t':Ad},S.R x s' t'->ff S.T s' t':=λhr'=>((S.next hr').resolve_right (S.imp U (beq_iff_eq.1 e) hr')).1
  exact SW.seq (SW.seq (SW.bO U (by unfold JO;rw [e,Bool.or_true]) λv w s1 t1 hv U=>SW.ret (h0 hN U)))
 .refine SW.no λv s' e hm _=>?_
  have hk:((Ab s).1.kind==18)=false:=by rw [(Bl h.1).1];rfl
  replace e:(if ((Ab s).1.kind==18)=true then Rd.seq DG λ_=>.seq (.loop (DI p item false) []) λl=>.ret (BB false l) else .seq (Bc 15 [123]) λ_=>.seq (.loop (DI p item true) []) λl=>.ret (BB true l):Rd Nd).run s=.inr (v,s'):=e
  rw [hk,if_neg Do] at e
  obtain ⟨a,s1,h1,_⟩:=AO e
  replace h1:(if AU s 15 [123]=true then Ay else IG).run s=.inr (a,s1):=h1
  rw [if_neg (by unfold AU;rw [(Bl h.1).1,(Bl h.1).2];decide)] at h1
  cases h1
theorem MO {p:Tk->Bool} (hp:JJ p) (U:SR S A):SR S (Ds p A):=dU (item:=λ_=>A) hp λ_=>U
theorem KP (U:SR S A) (hL:FM S L):SR S (PX A L):=sH (LJ hL (Kg hL)) U
theorem MP (U:SR S A) (hL:FM S L):SR S (MQ A L):=oZ hL (KP U hL)
theorem Uo (hL:FM S L):SR S (opsL L):=kQ (LJ hL (Kg hL))
theorem Xa (U:SR S A) (hL:FM S L):SR S (FK A L):=oW hL (Kg hL) (Uo hL) (KP U hL) (MP U hL) U
theorem tV (U:SR S A) (hL:FM S L):FM S (uP A L) where
 atom:=Kg hL
 exp:=KP U hL
 ops:=Uo hL
 decls:=MO Rb (Xa U hL)
 stmts:=MO Xz (MP U hL)
 alts:=MO Xz (sG hL (Uo hL) (KP U hL) (MP U hL))
 DT:=λo o' h=>kM (LJ hL (Kg hL)) U (KP U hL) h
 list:=λo o' h=>oX (KP U hL) (MP U hL) h
theorem kO (S:Sy):∀d,FM S (JL d)
 |0=>⟨λ_ _ _ _=>SW.fail,λ_ _ _ _=>SW.fail,λ_ _ _ _=>SW.fail,λ_ _ _ _=>SW.fail,λ_ _ _ _=>SW.fail,λ_ _ _ _=>SW.fail,λ_ _ _ _ _ _ _=>SW.fail,λ_ _ _ _ _ _ _=>SW.fail⟩
 |d+1=>tV (Ul S _) (kO S d)
theorem W7 (S:Sy) (d:Nat):SR S (RV d):=Xa (Ul S d) (kO S _)
theorem dW (S:Sy) (d:Nat):SR S (Tc d):=MO Rb (W7 S d)
end
structure NR (T:Nd->Nd->Prop):Prop where
 f1:∀{a b:Nd},T a b->iw a=iw b
 sm:∀{a b:Nd},T a b->DP a=DP b
 st:∀{a b:Nd},T a b->EA a=EA b
 mr:∀{a b:Nd},T a b->FT a=FT b
 nr:∀{a b:Nd},T a b->Ms a=Ms b
 cl:∀{a b:Nd},T a b->Gk a=Gk b
 ns:∀{a b:Nd},T a b->J3 a=J3 b
 df:∀{a b:Nd},T a b->(a.kids.all λn=>n.kind==36)=(b.kids.all λn=>n.kind==36)
theorem XV:∀{l:List Nd},(l.all λ_=>true)=true
 |[]=>rfl
 |_::r=>by rw [List.all_cons,XV];rfl
variable {S:Sy}
theorem A4.any {T:Nd->Nd->Prop} {l m:List Nd} {p:Nd->Bool} (h:A4 T l m) (hp:∀{a b:Nd},T a b->p a=p b):l.any p=m.any p:=by
 induction h with
 |nil=>rfl
 |cons U _ ih=>rw [List.any_cons,List.any_cons,ih,hp U]
section
variable {d:Nat} {s t:Ad} {A B C D E F:Rd Nd} {n m o:Nd} {l l':List Nd}
theorem SH {P:List Nd->Ad->Prop} {Q:List Nd->List Nd->Ad->Ad->Prop} (hx:x=[41]\/x=[125]) (hA:SR S A) (hl:A4 S.T l l') (U:S.R d s t)
 (hW:∀{l l':List Nd} {s t:Ad},A4 S.T l l'->S.R d s t->SW S P (.seq (Bc 15 x) λc=>.ret (l++[c])) (.seq (Bc 15 x) λc=>.ret (l'++[c])) s t Q):SW S P (D2 A x l) (D2 A x l') s t Q:=by
 refine SW.seq (SW.loop (d:=d) (J:=λp q=>p.1=q.1/\A4 S.T p.2 q.2) (λp q s t hj U=>?_) ⟨rfl,hl⟩ U)
 obtain ⟨b,y⟩:=p
 obtain ⟨b',z⟩:=q
 obtain ⟨rfl,hj⟩:=hj
 dsimp only at hj
 have hend:∀{y z:List Nd} {s t:Ad} {P':Sum (Bool×List Nd) (List Nd)->Ad->Prop},A4 S.T y z->S.R d s t->SW S P' (.ret (.inr y)) (.ret (.inr z)) s t (fh S d (λp q=>p.1=q.1/\A4 S.T p.2 q.2) λv w s1 t1=>SW S P (.seq (Bc 15 x) λc=>.ret (v++[c])) (.seq (Bc 15 x) λc=>.ret (w++[c])) s1 t1 Q):=λhl U=>SW.out (hW hl U)
 have hi:∀{P':Sum (Bool×List Nd) (List Nd)->Ad->Prop},SW S P' (.seq A λn=>.look λs=>if AU s 15 [44]=true then .seq Ay λc=>.ret (.inl (false,y++[n]++[c])) else .ret (.inr (y++[n]))) (.seq A λn=>.look λs=>if AU s 15 [44]=true then .seq Ay λc=>.ret (.inl (false,z++[n]++[c])) else .ret (.inr (z++[n]))) s t
  (fh S d (λp q=>p.1=q.1/\A4 S.T p.2 q.2) λv w s1 t1=>SW S P (.seq (Bc 15 x) λc=>.ret (v++[c])) (.seq (Bc 15 x) λc=>.ret (w++[c])) s1 t1 Q):=
  SW.seq (SW.A hA U λn n' s1 t1 hn U=>SW.look (SW.is U Do (λ_ h=>SW.seq (SW.take h λc c' s1 t1 hc U=>SW.go ⟨rfl,(hj.app (.one hn)).app (.one hc)⟩ U)) λ_=>hend (hj.app (.one hn)) U))
 unfold X7
 refine SW.ite Iff.rfl (λ_=>SW.look ?_) λ_=>hi
 rcases S.next U with h|h
 .exact SW.ite (by unfold AU;rw [h.1.1,h.1.2.1]) (λ_=>hend hj U) λ_=>hi
 .have ht:¬AU t 15 x=true:=by
   unfold AU
   rw [(Bl h.2.1).1,(Bl h.2.1).2]
   rcases hx with rfl|rfl<;>decide
  rw [if_neg ht]
  by_cases hs:AU s 15 x=true
  .rw [if_pos hs]
   refine SW.no λv s' e hm hp=>?_
   cases e
   obtain ⟨v,s',e,hm,_⟩:=hp
   have e2:x=[125]:=by have:=(Bl hs).2;rw [(Bl h.1).2] at this;exact this.symm
   subst e2
   have:=h.want e
   omega
  .rw [if_neg hs];exact hi
theorem Q3 {P:List Nd->Ad->Prop} {Q:List Nd->List Nd->Ad->Ad->Prop} (hA:SR S A) (hl:A4 S.T l l') (U:S.R d s t) (k:∀v w s1 t1,A4 S.T v w->S.R d s1 t1->Q v w s1 t1):SW S P (D2 A [41] l) (D2 A [41] l') s t Q:=
 SH (.inl rfl) hA hl U λhl U=>SW.seq (SW.want U Do λc c' s1 t1 hc U=>SW.ret (k _ _ _ _ (hl.app (.one hc)) U))
theorem ld {P:List Nd->Ad->Prop} {Q:List Nd->List Nd->Ad->Ad->Prop} (hA:SR S A) (hl:A4 S.T l l') (U:S.R (d+1) s t) (k:∀v w s1 t1,A4 S.T v w->S.R d s1 t1->Q v w s1 t1):SW S P (D2 A [125] l) (D2 A [125] l') s t Q:=
 SH (.inr rfl) hA hl U λhl U=>SW.seq (SW.qI U λc c' s1 t1 hc U=>SW.ret (k _ _ _ _ (hl.app (.one hc)) U))
theorem KQ (hk:ks.contains 15=false/\ks.contains 18=false/\ks.contains 20=false):SR S (F9 ks):=λd s t U=>SW.seq (SW.want U Do λa a' s1 t1 ha U=>SW.seq (SW.kind U hk λb b' s1 t1 hb U=>SW.seq (SW.want U Do λc c' s1 t1 hc U=>SW.ret ⟨S.node (.cons ha (.cons hb (.one hc))),U⟩)))
theorem Um (hk:ks.contains 15=false/\ks.contains 18=false/\ks.contains 20=false):SR S (Di ks):=λd s t U=>SW.kind U hk λv w s1 t1 hv U=>⟨hv,U⟩
variable (N:NR S.T)
include N
theorem Q2:SR S NA:=λd s t U=>SW.look (SW.is U Do (λ_ _=>SW.look (SW.seq (SW.A (KQ Do) U λn n' s1 t1 hn U=>SW.ite (by rw [N.f1 hn]) (λ_=>SW.ret ⟨hn,U⟩) λ_=>SW.DL))) λ_=>Um Do _ _ _ U)
omit N in
theorem ec:SR S OW:=λd s t U=>SW.look (SW.is U Do (λ_ _=>KQ Do _ _ _ U) λ_=>Um Do _ _ _ U)
omit N in
theorem Xg (hl:A4 S.T l l'):NS S (VH l) (VH l'):=λd s t U=>SW.look (SW.is U Do (λ_ h=>SW.seq (SW.take h λo o' s1 t1 ho U=>SW.look (SW.is U Do (λ_ h=>SW.seq (SW.take h λd d' s1 t1 hd U=>SW.seq (SW.want U Do λc c' s1 t1 hc U=>SW.ret ⟨S.node ((hl.app (.one ho)).app (.cons hd (.one hc))),U⟩)))
 λ_=>SW.seq (Q3 ec (hl.app (.one ho)) U λv w s1 t1 h U=>SW.ret ⟨S.node h,U⟩)))) λ_=>SW.ret ⟨S.node hl,U⟩)
omit N in
theorem Xh {o:Bool}:SR S (aK o):=λd s t U=>SW.look (SW.is U Do (λ_ _=>SW.seq (SW.A (KQ (by cases o<;>decide)) U λn n' s1 t1 hn U=>SW.ret ⟨S.node (.one hn),U⟩))
 λ_=>SW.Rp (p:=λt=>t.kind==2) U (GM Do) (λ_ _=>SW.seq (SW.kind U (by cases o<;>decide) λn n' s1 t1 hn U=>Xg (.one hn) _ _ _ U)) λ_=>SW.Rp (p:=λt=>t.kind==4) U (GM Do) (λ_ _=>SW.seq (SW.kind U (by cases o<;>decide) λn n' s1 t1 hn U=>Xg (.one hn) _ _ _ U))
 λ_=>SW.seq (SW.kind U (by cases o<;>decide) λn n' s1 t1 hn U=>SW.ret ⟨S.node (.one hn),U⟩))
omit N in
theorem oY {o:Bool}:SR S (aL o):=λd s t U=>SW.ite Iff.rfl (λ_=>Xh _ _ _ U) λ_=>SW.look (SW.is U Do (λ_ h=>SW.seq (SW.take h λm m' s1 t1 hm U=>SW.seq (SW.kind U (by cases o<;>decide) λn n' s1 t1 hn U=>SW.ret ⟨S.node (.cons hm (.one hn)),U⟩))) λ_=>Xh _ _ _ U)
omit N in
theorem kP {o:Bool}:SR S (TQ o):=λd s t U=>SW.seq (SW.want U Do λo o' s1 t1 ho U=>SW.seq (SW.loop (J:=A4 S.T) (λx y s t hj U=>SW.look (SW.is U Do (λ_ _=>SW.out (SW.seq (SW.want U Do λc c' s1 t1 hc U=>SW.ret ⟨S.node (hj.app (.one hc)),U⟩)))
 λ_=>SW.seq (SW.A oY U λn n' s1 t1 hn U=>SW.look (SW.is U Do (λ_ h=>SW.seq (SW.take h λc c' s1 t1 hc U=>SW.go ((hj.app (.one hn)).app (.one hc)) U)) λ_=>SW.out (SW.seq (SW.want U Do λc c' s1 t1 hc U=>SW.ret ⟨S.node ((hj.app (.one hn)).app (.one hc)),U⟩)))))) (.one ho) U))
omit N in
theorem Q1 (hl:A4 S.T l l'):NS S (Mm l) (Mm l'):=λd s t U=>SW.seq (SW.A kP U λn n' s1 t1 hn U=>SW.ret ⟨S.node (hl.app (.one hn)),U⟩)
omit N in
theorem QZ (hl:A4 S.T l l'):NS S (Ml l) (Ml l'):=λd s t U=>SW.look (SW.is U Do (λ_ h=>SW.seq (SW.take h λh h' s1 t1 hh U=>Q1 (hl.app (.one hh)) _ _ _ U)) λ_=>SW.is U Do (λ_ _=>Q1 hl _ _ _ U) λ_=>SW.ret ⟨S.node hl,U⟩)
omit N in
theorem QY (hl:A4 S.T l l'):NS S (Mk l) (Mk l'):=λd s t U=>SW.seq (SW.kind U Do λn n' s1 t1 hn U=>SW.look (SW.is U Do (λ_ h=>SW.seq (SW.take h λa a' s1 t1 ha U=>SW.seq (SW.kind U Do λm m' s1 t1 hm U=>QZ (((hl.app (.one hn)).app (.one ha)).app (.one hm)) _ _ _ U))) λ_=>QZ (hl.app (.one hn)) _ _ _ U))
omit N in
theorem Zo:SG S Ic Ic:=λd s t U h=>SW.seq (SW.take h λi i' s1 t1 hi U=>SW.look (SW.is U Do (λ_ h=>SW.seq (SW.take h λq q' s1 t1 hq U=>QY (.cons hi (.one hq)) _ _ _ U)) λ_=>QY (.one hi) _ _ _ U))
theorem Oi (hA:SR S A) (hl:A4 S.T l l'):NS S (J1 A l) (J1 A l'):=λd s t U=>SW.seq (SW.A (Q2 N) U λn n' s1 t1 hn U=>SW.seq (SW.want U Do λc c' s1 t1 hc U=>SW.seq (SW.A hA U λe e' s1 t1 he U=>SW.ret ⟨S.node (((hl.app (.one hn)).app (.one hc)).app (.one he)),U⟩)))
theorem Kh (hA:SR S A) (hl:A4 S.T l l'):NS S (H4 A l) (H4 A l'):=λd s t U=>SW.look (SW.Rp (p:=λt=>t.kind==14) U (GM Do) (λ_ h=>SW.seq (SW.take h λx x' s1 t1 hx U=>Oi N hA (hl.app (.one hx)) _ _ _ U)) λ_=>Oi N hA hl _ _ _ U)
theorem Xd (hA:SR S A) (hl:A4 S.T l l'):NS S (Mj A l) (Mj A l'):=λd s t U=>by
 have hp:JJ (λt:Tk=>if (t.kind==1&&t.text==lR)=true then true else t.kind==1&&t.text==Uz):=⟨λa b h1 h2=>by rw [h1,h2],rfl,rfl,rfl,λu e=>by rw [e];rfl,λu e=>by rw [e];rfl⟩
 exact SW.look (SW.Rp (p:=λt:Tk=>if (t.kind==1&&t.text==lR)=true then true else t.kind==1&&t.text==Uz) U hp (λe h=>SW.uC (Dn (λe0=>by simp [e0] at e)) h Do (λ_ _=>Kh N hA hl _ _ _ U) (SW.seq (SW.take h λx x' s1 t1 hx U=>Kh N hA (hl.app (.one hx)) _ _ _ U))) λ_=>Kh N hA hl _ _ _ U)
theorem Oh (hA:SR S A) (hl:A4 S.T l l'):SG S (J0 A l) (J0 A l'):=λd s t U h=>SW.seq (SW.take h λw w' s1 t1 hw U=>SW.seq (SW.kind U Do λn n' s1 t1 hn U=>Xd N hA ((hl.app (.one hw)).app (.one hn)) _ _ _ U))
theorem Zn (hA:SR S A):SG S (H5 A) (H5 A):=λd s t U h=>SW.seq (SW.take h λf f' s1 t1 hf U=>SW.look (SW.is U Do (λ_ h=>Oh N hA (.one hf) _ _ _ U h) λ_=>SW.is U Do (λ_ h=>Oh N hA (.one hf) _ _ _ U h) λ_=>SW.bad))
omit N in
theorem Xb (hA:SR S A):SG S (GR A) (GR A):=λd s t U h=>SW.seq (SW.take h λd d' s1 t1 hd U=>SW.seq (SW.want U Do λo o' s1 t1 ho U=>SW.seq (Q3 hA (.cons hd (.one ho)) U λv w s1 t1 h U=>SW.ret ⟨S.node h,U⟩)))
omit N in
theorem Pc {P:List Nd×Nd->Ad->Prop} {Q:List Nd×Nd->List Nd×Nd->Ad->Ad->Prop} (hA:SR S A) (hl:A4 S.T l l') (U:S.R d s t) (k:∀v w n m s1 t1,A4 S.T v w->S.T n m->S.R d s1 t1->Q (v,n) (w,m) s1 t1):SW S P (JB A l) (JB A l') s t Q:=
 SW.seq (SW.A hA U λr r' s1 t1 h1 U=>SW.look (SW.is U Do (λ_ h=>SW.seq (SW.take h λa a' s1 t1 ha U=>SW.seq (SW.A hA U λq q' s1 t1 hq U=>SW.ret (k _ _ _ _ _ _ ((hl.app (.one h1)).app (.one ha)) hq U)))) λ_=>SW.ret (k _ _ _ _ _ _ hl h1 U)))
omit N in
theorem GH {b U:Bool} {P:Unit->Ad->Prop} {Q:Unit->Unit->Ad->Ad->Prop} (hb:b=U) (k:Q () () s t):SW S P (Gs b) (Gs U) s t Q:=SW.ite (by rw [hb]) (λ_=>SW.ret k) λ_=>SW.fail
theorem Zq (hA:SR S A) (hB:SR S B):SG S (Iy A B) (Iy A B):=λd s t U h=>SW.seq (SW.take h λx x' s1 t1 hx U=>SW.seq (SW.A hA U λr r' s1 t1 h1 U=>SW.seq (GH (N.sm h1) (SW.seq (SW.want U Do λe e' s1 t1 he U=>SW.seq (SW.A hB U λw w' s1 t1 hw U=>SW.ret ⟨S.node (((A4.cons hx (.one h1)).app (.one he)).app (.one hw)),U⟩))))))
omit N in
theorem SE (hA:SR S A):SG S (Js A) (Js A):=λd s t U h=>SW.seq (SW.take h λx x' s1 t1 hx U=>SW.seq (SW.A hA U λa a' s1 t1 ha U=>SW.ret ⟨S.node (.cons hx (.one ha)),U⟩))
omit N in
theorem Xi (hA:SR S A):SR S (Ju A):=λd s t U=>SW.look (SW.is U Do (λ_ h=>SE hA _ _ _ U h) λ_=>SW.is U Do (λe h=>by
 rcases S.next (h.2 (CS e Do)).2 with h2|h2
 .exact SW.ite (by rw [h2.1.1]) (λ_=>KQ Do _ _ _ U) λ_=>hA _ _ _ U
 .rw [(Bl h2.1).1,(Bl h2.2.1).1];exact hA _ _ _ U) λ_=>hA _ _ _ U)
omit N in
theorem eP:JJ Kk:=⟨λa b U h2=>by unfold Kk;rw [U,h2],rfl,rfl,rfl,λu e=>by unfold Kk;rw [e];rfl,λu e=>by unfold Kk;rw [e];rfl⟩
omit N in
theorem Xo {P:List Nd->Ad->Prop} {Q:List Nd->List Nd->Ad->Ad->Prop} (hA:SR S A) (U:S.R d s t) (k:∀v w s1 t1,A4 S.T v w->S.R d s1 t1->Q v w s1 t1):SW S P (Ka A) (Ka A) s t Q:=
 SW.seq (SW.A (Xi hA) U λn n' s1 t1 hn U=>SW.loop (J:=A4 S.T) (λx y s t hj U=>SW.look (SW.Rp U eP (λ_ _=>SW.seq (SW.A (Xi hA) U λn n' s1 t1 hn U=>SW.go (hj.app (.one hn)) U)) λ_=>SW.out (k _ _ _ _ hj U))) (.one hn) U)
theorem bN (U:A4 S.T l l') (k:∀v w,S.T v w->Q v w s t):SW S P (Sw l) (Sw l') s t Q:=
 SW.ite (by rw [U.len]) (λ_=>SW.ret (k _ _ (U.hd S.nd))) λ_=>SW.seq (GH (by rw [U.any N.st]) (SW.ret (k _ _ (S.node U))))
theorem ej (hA:SR S A) (hB:SR S B):SR S (KU A B):=λd s t U=>SW.seq (SW.A (Q2 N) U λn n' s1 t1 hn U=>SW.seq (SW.loop (J:=A4 S.T) (λx y s t hj U=>SW.look (SW.is U Do (λ_ h=>SW.seq (SW.take h λc c' s1 t1 hc U=>SW.seq (SW.A (Q2 N) U λn n' s1 t1 hn U=>SW.go ((hj.app (.one hc)).app (.one hn)) U)))
 λ_=>SW.out (SW.seq (SW.want U Do λc c' s1 t1 hc U=>SW.look (SW.is U Do (λ_ h=>SW.seq (SW.AG (SE hA) U h λe e' s1 t1 he U=>SW.ret ⟨S.node ((hj.app (.one hc)).app (.one he)),U⟩)) λ_=>SW.seq (SW.A hB U λe e' s1 t1 he U=>SW.ret ⟨S.node ((hj.app (.one hc)).app (.one he)),U⟩)))))) (.one hn) U))
omit N in
theorem kW:SG S Q9 Q9:=λd s t U h=>SW.look (SW.Rp (p:=λt=>t.kind==6) U (GM Do) (λ_ h=>SW.seq (SW.take h λx x' s1 t1 hx U=>SW.ret ⟨S.node (.one hx),U⟩)) λ_=>SW.look (SW.seq (SW.take h λo o' s1 t1 ho U=>SW.seq (SW.kind U Do λn n' s1 t1 hn U=>SW.seq (SW.want U Do λc c' s1 t1 hc U=>
 SW.ite (by rw [S.nt.fm hn]) (λ_=>SW.ret ⟨S.node (.cons ho (.cons hn (.one hc))),U⟩) λ_=>SW.DL)))))
theorem QV (hA:SR S A) (hl:A4 S.T l l'):SG S (Hr A l) (Hr A l'):=λd s t U h=>SW.seq (bN N hl λa a' ha=>SW.seq (SW.AG kW U h λo o' s1 t1 ho U=>SW.seq (Xo hA U λr r' s1 t1 h1 U=>SW.seq (bN N h1 λb b' hb=>SW.ret ⟨S.node (.cons ha (.cons ho (.one hb))),U⟩))))
theorem QU (hA:SR S A) (hl:A4 S.T l l'):NS S (IL A l) (IL A l'):=λd s t U=>SW.look (SW.Rp (p:=λt=>t.kind==6) U (GM Do) (λ_ h=>QV N hA hl _ _ _ U h) λ_=>SW.is U Do (λ_ h=>QV N hA hl _ _ _ U h) λ_=>SW.seq (GH (N.mr (hl.hd S.nd)) (SW.ret ⟨S.node hl,U⟩)))
theorem SC (hA:SR S A) (hB:SR S B):SR S (Hs A B):=λd s t U=>SW.seq (Xo hA U λl l' s1 t1 hl U=>SW.ite (by rw [hl.len,N.mr (hl.hd S.nd)]) (λ_=>SW.look (SW.uD U (λe=>SW.seq (SW.bO U (YZ e) λo o' s1 t1 ho U=>SW.seq (ld (ej N hA hB) (hl.app (.one ho)) U λv w s1 t1 h U=>SW.ret ⟨S.node h,U⟩))) (QU N hA hl _ _ _ U))) λ_=>QU N hA hl _ _ _ U)
omit N in
theorem Xc:SG S GS GS:=λd s t U h=>SW.seq (SW.take h λd d' s1 t1 hd U=>SW.look (SW.is U Do (λ_ h=>SW.seq (SW.take h λo o' s1 t1 ho U=>SW.seq (Q3 (Um Do) (.cons hd (.one ho)) U λv w s1 t1 h U=>SW.ret ⟨S.node h,U⟩))) λ_=>SW.seq (SW.kind U Do λc c' s1 t1 hc U=>SW.ret ⟨S.node (.cons hd (.one hc)),U⟩)))
omit N in
theorem QW (hl:A4 S.T l l'):NS S (H0 k l) (H0 k l'):=λd s t U=>SW.look (SW.is U Do (λ_ h=>SW.seq (SW.AG Xc U h λd d' s1 t1 hd U=>SW.ret ⟨S.node (hl.app (.one hd)),U⟩)) λ_=>SW.ret ⟨S.node hl,U⟩)
theorem oV (hA:SR S A) (hB:SR S B) (hC:SR S C):SG S (RT A B C) (RT A B C):=λd s t U h=>SW.seq (SW.take h λd d' s1 t1 hd U=>SW.seq (Pc hB (.one hd) U λv w n m s1 t1 hl hn U=>SW.seq (GH (N.sm hn) (SW.seq (SW.loop (J:=λp q=>(p.1=q.1/\p.1≠[125]/\p.1≠[59])/\A4 S.T p.2 q.2) (λp q s t hj U=>by
 obtain ⟨x,y⟩:=p
 obtain ⟨x',z⟩:=q
 obtain ⟨⟨rfl,h1,h2⟩,hj⟩:=hj
 dsimp only at hj h1 h2
 exact SW.look (SW.is U GT (λ_ h=>SW.seq (SW.take h λe e' s1 t1 he U=>SW.seq (SW.A (SC N hA hC) U λc c' s1 t1 hc U=>SW.go ⟨⟨rfl,GT,GT⟩,(hj.app (.one he)).app (.one hc)⟩ U))) λ_=>SW.out (QW hj _ _ _ U))) ⟨⟨rfl,GT,GT⟩,hl.app (.one hn)⟩ U)))))
theorem Zp (hA:SR S A) (hB:SR S B) (hC:SR S C):SG S (Ii A B C) (Ii A B C):=λd s t U h=>SW.seq (SW.take h λd d' s1 t1 hd U=>SW.seq (Pc hB (.one hd) U λv w n m s1 t1 hl hn U=>SW.seq (GH (N.sm hn) (SW.seq (SW.want U Do λe e' s1 t1 he U=>SW.seq (SW.A (SC N hA hC) U λc c' s1 t1 hc U=>SW.seq (GH (N.nr hc) (QW (((hl.app (.one hn)).app (.one he)).app (.one hc)) _ _ _ U))))))))
omit N in
theorem bH (hA:SR S A) (hp:∀{a b:Nd},S.T a b->a.kids.all p=b.kids.all p) (hl:A4 S.T l l'):NS S (RO A k l p) (RO A k l' p):=λd s t U=>SW.look (SW.is U Do (λ_ h=>SW.seq (SW.take h λw w' s1 t1 hw U=>SW.seq (SW.A hA U λb b' s1 t1 hb U=>SW.seq (GH (hp hb) (SW.ret ⟨S.node (hl.app (.one (S.node (.cons hw (.one hb))))),U⟩))))) λ_=>SW.ret ⟨S.node hl,U⟩)
theorem kN (hA:SR S A) (hB:SR S B):SG S (M9 A B) (M9 A B):=λd s t U h=>SW.seq (SW.take h λd d' s1 t1 hd U=>SW.seq (Pc hA (.one hd) U λv w n m s1 t1 hl hn U=>SW.seq (GH (N.cl hn) (bH hB (λ_=>by rw [XV,XV]) (hl.app (.one hn)) _ _ _ U))))
theorem Xe (hA:SR S A) (hB:SR S B):SG S (GV A B) (GV A B):=λd s t U h=>SW.seq (SW.take h λd d' s1 t1 hd U=>SW.seq (Pc hA (.one hd) U λv w n m s1 t1 hl hn U=>SW.seq (GH (N.ns hn) (bH hB N.df (hl.app (.one hn)) _ _ _ U))))
theorem o7 (hA:SR S A) (hB:SR S B) (hC:SR S C) (hD:SR S D) (hE:SR S E) (hF:SR S F):SR S (Q8 A B C D E F):=λd s t U=>SW.look (SW.Rp (p:=λt=>t.kind==9) U (GM Do) (λ_ h=>SW.at (p:=λt=>t.text==Ph) h MY (λ_=>Zo _ _ _ U h) λ_=>SW.at (p:=λt=>t.text==lS) h MY (λ_=>Zq N hB hC _ _ _ U h) λ_=>SW.at (p:=λt=>t.text==lP) h MY (λ_=>oV N hA hB hC _ _ _ U h)
 λ_=>SW.at (p:=λt=>t.text==Ri) h MY (λ_=>Zp N hA hB hC _ _ _ U h) λ_=>SW.at (p:=λt=>t.text==ZD) h MY (λ_=>kN N hB hF _ _ _ U h) λ_=>SW.at (p:=λt=>t.text==NM) h MY (λ_=>Xe N hB hF _ _ _ U h) λ_=>SW.at (p:=λt=>t.text==Rf) h MY (λ_=>Xb hC _ _ _ U h)
 λ_=>SW.at (p:=λt=>t.text==Rh) h MY (λ_=>Zn N hD _ _ _ U h) λ_=>hE _ _ _ U) λ_=>hE _ _ _ U)
omit N in
theorem dX (S:Sy):∀d,SR S (Td d)
 |0=>λ_ _ _ _=>SW.fail
 |d+1=>dW S _
theorem o0 (d:Nat):SR S (Xw d):=
 have U:=λe=>Ue (S:=S.sm e) (Bo (d - 1)) (JS _) (Uh _)
 o7 N (Pa U) (Pa λe=>Uf (U e)) (Pa λe=>QL (U e)) (Ul S d) (W7 S d) (dX S _)
end
abbrev u5:Tk:=⟨15,[40],0,0⟩
abbrev ti:Tk:=⟨15,[41],0,0⟩
abbrev ur:Tk:=⟨21,[],0,0⟩
structure Pl (s:Ad):Prop where
 tk:∀t ∈ s.Ag,0<t.kind/\t.kind<16
 p0:0<=s.pos
 p1:s.pos<=s.Ag.length
 op:∀x ∈ s.CF,x=0
 wt:s.wait=0
def Kz (s:Ad):Ad:=⟨u5::(s.Ag++[ti]),s.pos+1,s.CF,s.wait⟩
theorem Pl.top (h:Pl s):FJ s=0:=by
 unfold FJ
 cases e:s.CF.getLast? with
 |none=>rfl
 |some x=>exact h.op x (List.mem_of_getLast? e)
theorem aV {l:List Int} (h:∀x ∈ l,x=0):(l.any λx=>decide (x<0))=false:=by grind
theorem Pl.may (h:Pl s):K1 s=true:=by
 unfold K1
 rw [h.wt,aV h.op,decide_eq_true h.p0,decide_eq_true h.p1];rfl
theorem Pl.uG (h:Pl s):K1 (Kz s)=true:=by
 unfold K1 Kz
 have U:=h.p0
 have h1:=h.p1
 dsimp only
 rw [h.wt,aV h.op,decide_eq_true (show (0:Int)<=s.pos+1 by omega),decide_eq_true (show s.pos+1<=((u5::(s.Ag++[ti])).length:Int) by grind)];rfl
theorem Pl.next (h:Pl s) (U:s.Ag[s.pos.toNat]? =some t):Ab s=BC t s:=by
 have hk:=h.tk t (List.mem_of_getElem? U)
 unfold Ab
 rw [if_pos h.may,Ij U h.p0,if_neg AC,if_neg AC]
theorem Pl.jn (h:Pl s) (hk:t.kind≠16/\t.kind≠17) (U:(Kz s).Ag[(Kz s).pos.toNat]? =some t):Ab (Kz s)=BC t (Kz s):=by
 have h0:=h.p0
 unfold Ab
 rw [if_pos h.uG,Ij U (show (0:Int)<=s.pos+1 by omega),if_neg AC,if_neg AC]
theorem gL (U:0<=s.pos) (ht:s.Ag[s.pos.toNat]? =some t):(Kz s).Ag[(Kz s).pos.toNat]? =some t:=by
 unfold Kz
 grind
theorem mX (U:0<=s.pos) (h:s.pos=s.Ag.length):(Kz s).Ag[(Kz s).pos.toNat]? =some ti:=by
 unfold Kz
 simp_all
theorem Pl.p7 (h:Pl s) (ht:s.Ag[s.pos.toNat]? =some t) (hz:(BC t s).2.2=0):Pl (BC t s).2.1:=by
 have hl:=(List.getElem?_eq_some_iff.1 ht).1
 have h0:=h.p0
 unfold BC at hz |-
 split
 .exact ⟨h.tk,by grind,by show s.pos+1<=(s.Ag.length:Int);omega,λx U=>by
   rcases List.mem_append.1 U with U|U
   .exact h.op x U
   simp_all,h.wt⟩
 .rename_i e1
  rw [if_neg e1] at hz
  split
  .rename_i e2
   rw [if_pos e2] at hz
   split
   .omega
   .exact ⟨h.tk,by grind,by show s.pos+1<=(s.Ag.length:Int);omega,λx U=>h.op x ((List.dropLast_sublist _).subset U),h.wt⟩
  .exact ⟨h.tk,by grind,by grind,h.op,h.wt⟩
theorem RP:BC t (Kz s)=((BC t s).1,Kz (BC t s).2.1,(BC t s).2.2):=by
 unfold BC
 have e:FJ (Kz s)=FJ s:=rfl
 rw [e]
 by_cases U:t.kind=15/\t.text=[123]
 .rw [if_pos U,if_pos U];rfl
 .rw [if_neg U,if_neg U]
  by_cases h2:t.kind=15/\t.text=[125]
  .rw [if_pos h2,if_pos h2]
   by_cases h3:s.CF=[]\/FJ s≠0
   .rw [if_pos h3,if_pos (show (Kz s).CF=[]\/FJ s≠0 from h3)]
   .rw [if_neg h3,if_neg (show ¬((Kz s).CF=[]\/FJ s≠0) from h3)];rfl
  .rw [if_neg h2,if_neg h2];rfl
theorem Pl.cases (h:Pl s):(∃t,s.Ag[s.pos.toNat]? =some t)\/s.pos=s.Ag.length:=by
 have U:=h.p0
 have h1:=h.p1
 by_cases e:s.pos=s.Ag.length
 .omega
 .exact .inl ⟨_,List.getElem?_eq_getElem (show s.pos.toNat<s.Ag.length by omega)⟩
theorem Pl.fin (h:Pl s) (e:s.pos=s.Ag.length):(Ab s).1=ur\/(Ab s).1=Xu:=by
 unfold Ab
 rw [if_pos h.may,Nq AC h.p0]
 unfold Gb
 split
 .simp_all
 .rw [if_neg (by rw [h.top];decide)];simp_all
theorem Pl.uA (h:Pl s) (e:s.pos=s.Ag.length):Ab (Kz s)=(ti,{Kz s with pos:=(Kz s).pos+1},0):=by
 rw [h.jn Do (mX h.p0 e)];rfl
theorem Pl.test {p:Tk->Bool} (h:Pl s) (hp:Tst p):p (Ab (Kz s)).1=p (Ab s).1:=by
 rcases h.cases with ⟨t,ht⟩|e
 .have hk:=h.tk t (List.mem_of_getElem? ht)
  rw [h.next ht,h.jn AC (gL h.p0 ht),RP]
 .rw [h.uA e]
  show p ti=_
  rw [hp.c]
  rcases h.fin e with U|U
  .rw [U];exact hp.e.symm
  .rw [U];exact hp.z.symm
theorem Pl.has {p:Tk->Bool} (h:Pl s) (hp:Tst0 p) (e:p (Ab s).1=true):∃t,s.Ag[s.pos.toNat]? =some t:=by
 rcases h.cases with U|U
 .exact U
 .rcases h.fin U with h2|h2
  .rw [h2,hp.e] at e;cases e
  .rw [h2,hp.z] at e;cases e
theorem Pl.go (h:Pl s) (U:s.Ag[s.pos.toNat]? =some t):Ab (Kz s)=((Ab s).1,Kz (Ab s).2.1,(Ab s).2.2)/\((Ab s).2.2=0->Pl (Ab s).2.1):=by
 have hk:=h.tk t (List.mem_of_getElem? U)
 rw [h.next U,h.jn AC (gL h.p0 U)]
 exact ⟨RP,h.p7 U⟩
theorem Pl.is (h:Pl s) (U:k≠0/\k≠21) (hc:¬(k=15/\x=[41])):AU (Kz s) k x=AU s k x:=h.test (p:=λt=>t.kind==k&&t.text==x) (lN U hc)
theorem Pl.mu {s:Ad} (h:Pl s):mu (Kz s)=mu s+4:=by
 have U:=h.p0
 have h1:=h.p1
 unfold Proofs.Z.mu Kz
 grind
def ID {α:Type} (X:α->Ad->Prop) (a b:Rd α) (s:Ad):Prop:=∀v s',a.run s=.inr (v,s')->Pl s'/\(X v s'\/b.run (Kz s)=.inr (v,Kz s'))
abbrev ui {α:Type} (a b:Rd α) (s:Ad):Prop:=ID (λ_ _=>False) a b s
def Em {α:Type} (a:Rd α):Prop:=∀s,Pl s->ui a a s
def Rl (s:Ad):Prop:=∃t,s.Ag[s.pos.toNat]? =some t
def Fa {α:Type} (A:Rd α) (s:Ad):Prop:=Rd.wp A s (λ_ _=>False) (λ_ _=>True)
section
variable {α β σ:Type} {s:Ad} {X:α->Ad->Prop} {Y:β->Ad->Prop}
theorem Fa.no {A:Rd α} {v:α} (h:Fa A s) (e:A.run s=.inr (v,s')):False:=by
 unfold Fa Rd.wp at h
 simp_all
theorem Fa.of {A:Rd α} (h:∀v s',A.run s≠.inr (v,s')):Fa A s:=Rd.XK (λv s' e=>h v s' e) (λ_ _ _=>trivial)
theorem Fa.seq {m:Rd α} {k:α->Rd β} (h:Fa m s):Fa (.seq m k) s:=by
 unfold Fa
 rw [Rd.wp_seq]
 exact Rd.wp_mono h (λ_ _ _ f=>f.elim) (λ_ _ _ _=>trivial)
theorem ID.fa {A B:Rd α} (h:Fa A s):ID X A B s:=λv s' e=>(h.no e).elim
theorem ID.ret {v:α} (h:Pl s):ID X (.ret v) (.ret v) s:=λw s' e=>by cases e;exact ⟨h,.inr rfl⟩
theorem ID.fail {e:Er} {b:Rd α}:ID X (.fail e) b s:=λw s' h=>by cases h
theorem ID.DL {t:Ad} {e:Er} {b:Rd α}:ID X (.DL t e) b s:=λw s' h=>by cases h
theorem ID.bad {b:Rd α}:ID X IG b s:=λw s' h=>by cases h
theorem ID.wk {a b:Rd α} (h:ui a b s):ID X a b s:=λv s' e=>by
 obtain ⟨h1,U|U⟩:=h v s' e
 .simp_all
 simp_all
theorem ID.uL {m m':Rd α} {k k':α->Rd β} (h:ui m m' s) (hk:∀v s',m.run s=.inr (v,s')->Pl s'->ID Y (k v) (k' v) s'):ID Y (.seq m k) (.seq m' k') s:=λv s' e=>by
 unfold Rd.seq at e |-
 dsimp only at e |-
 cases U:m.run s with
 |inl p=>simp_all
 |inr p=>
  rw [U] at e
  obtain ⟨h1,h2|h2⟩:=h p.1 p.2 U
  .simp_all
  .rw [h2]
   exact hk p.1 p.2 U h1 v s' e
theorem ID.seq {m m':Rd α} {k U:α->Rd β} (h:ui m m' s) (hk:∀v s',Pl s'->ID Y (k v) (U v) s'):ID Y (.seq m k) (.seq m' U) s:=ID.uL h λv s' _=>hk v s'
theorem ID.look {f U:Ad->Rd α} (h:ID X (f s) (U (Kz s)) s):ID X (.look f) (.look U) s:=h
theorem ID.ite {c U:Prop} [Decidable c] [Decidable U] {a b a' b':Rd α} (h:U↔c) (h1:c->ID X a a' s) (h2:¬c->ID X b b' s):ID X (if c then a else b) (if U then a' else b') s:=by grind
theorem ID.Rp {p:Tk->Bool} {a b U b':Rd α} (h:Pl s) (hp:Tst p) (h1:Rl s->p (Ab s).1=true->ID X a U s) (h2:ID X b b' s):ID X (if p (Ab s).1=true then a else b) (if p (Ab (Kz s)).1=true then U else b') s:=by
 rw [h.test hp]
 by_cases e:p (Ab s).1=true
 .rw [if_pos e,if_pos e];exact h1 (h.has hp.toTst0 e) e
 simp_all
theorem ID.is {k:Int} {x:List UInt8} {a b U b':Rd α} (h:Pl s) (hk:k≠0/\k≠21) (hc:¬(k=15/\x=[41])) (h1:Rl s->ID X a U s) (h2:ID X b b' s):ID X (if AU s k x=true then a else b) (if AU (Kz s) k x=true then U else b') s:=
 ID.ite (by rw [h.is hk hc]) (λe=>h1 (h.has (p:=λt=>t.kind==k&&t.text==x) (Uw hk) e)) λ_=>h2
theorem Pl.same (h:Pl s) (r:Rl s):(Ab (Kz s)).1=(Ab s).1:=by
 obtain ⟨t,U⟩:=r
 rw [(h.go U).1]
theorem ID.loop {body:σ->Rd (Sum σ α)} (h:∀x s,Pl s->ID (λr s1=>∃x',r=.inl x'/\Fa (.loop body x') s1) (body x) (body x) s) (x:σ):Em (.loop body x):=λs=>by
 show Pl s->∀v s',Rd.iter body x s=.inr (v,s')->Pl s'/\(False\/Rd.iter body x (Kz s)=.inr (v,Kz s'))
 fun_induction Rd.iter body x s with
 |case1 x s p h1=>simp_all
 |case2 x s y s1 h1=>
  intro hs v s' e
  cases e
  obtain ⟨h2,⟨x',U,_⟩|U⟩:=h x s hs _ _ h1
  .cases U
  .refine ⟨h2,.inr ?_⟩
   rw [Rd.iter,U]
 |case3 x s x' s1 h1 hlt ih=>
  intro hs v s' e
  obtain ⟨h2,⟨x2,U,h4⟩|U⟩:=h x s hs _ _ h1
  .cases U
   exact (h4.no (v:=v) (s':=s') e).elim
  .obtain ⟨h4,h5⟩:=ih h2 v s' e
   refine ⟨h4,?_⟩
   rw [Rd.iter,U]
   dsimp only
   rw [if_pos (by rw [hs.mu,h2.mu];omega)]
   exact h5
 |case4 x s x' s1 h1 hlt=>simp_all
theorem ID.tk {X:Nd->Ad->Prop} (h:Pl s) (r:Rl s):ID X Ay Ay s:=λv s' U=>by
 obtain ⟨t,ht⟩:=r
 obtain ⟨h1,h2⟩:=h.go ht
 by_cases hz:(Ab s).2.2=0
 .rw [Bu hz] at U
  cases U
  refine ⟨h2 hz,.inr ?_⟩
  rw [Bu kw,h1]
 .rw [Hg hz] at U;cases U
end
end Go.Proofs.Z
