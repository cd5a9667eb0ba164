/-
  Parts of a proof: lemmas that the last text uses.
-/
import Derived.Test.YtpkekfapphbgjaaGreatDoorZ3
set_option linter.unusedVariables false
set_option linter.unusedSimpArgs false
set_option maxHeartbeats 16000000
variable {b d t id n k pos n1 n2 m:Nat} {c i v base ln DL:Int} {Q:Go.Aw.AF->Go.Aw.Env->Go.Aw.St->Prop} {cs:List Go.Aw.V} {all:List Go.Oper} {sched:List (Nat×Bool)} {L:List Nat} {l s x:List UInt8} {K:Go.Aw.AB->Go.Aw.St->Prop} {ty:Go.TypeId} {ops:Array Go.Oper} {f:Go.FuncId} {mk:Nat->Go.Aw.V->List Go.Aw.V} {st0:Go.Aw.St} {rows:List (Go.Aw.AH×List Go.Aw.Nd)} {p:Go.Aw.Nd->Bool} {g:List (Nat×Nat)} {j tx:Bool} {o:List Int} {w1 w2:Go.Aw.AH} {Ar notes:List (List Go.Aw.V)}
namespace Go.Aw
open Go
section
variable {D:List Deferred} {P:Program} {T:List (Nat×Ty)} {C:FuncId->List V->St->(AB->St->Prop)->Prop} {I0 I:Mem} {st0 st:St} {w0 w:World} {β:Nat->Option Nat} {env:Env} {a:Act}
theorem Zr {J:Mem} {b:Nat}:∀{l:List V} {us:List Value} {o:Nat},Aq I l us->I.le J->(∀j c,us[j]? =some c->J.cell b (o+j)=some c)->Dj J b o l
 |[],us,o,h,hl,U=>trivial
 |v::r,us,o,h,hl,U=>by
  simp only [Aq] at h
  obtain ⟨c,s,rfl,h1,h2⟩:=h
  exact ⟨⟨c,U 0 c rfl,AL.mono hl _ _ h1⟩,Zr h2 hl λj c e=>by rw [show o+1+j=o+(j+1) by omega];exact U (j+1) c (by simpa using e)⟩
theorem Qm {c:Code} {env:Env} {st:St} (t id:Nat) (ht:env.get t=.B6 id 0) (hb:assoc env.boxes id=some cs) (hn:OV cs=true)
 (h:AW P c Q {env with tmps:=(t,.G3 cs 0)::JW id env.tmps,boxes:=Is id env.boxes} st):AW P c Q env st:=
 Ms t id ht hb hn λb hf D I0 st0 w0 I β a w hr=>by
  obtain ⟨vs,hv,hl,hr'⟩:=hr.freeze (b:=b) (cs:=cs) (by simp [St.Aa])
  refine h D I0 st0 w0 _ β a w (Rel.Il ⟨hr'.fr,hr'.s,{hr'.f with tmps:=?_}⟩ (St.cg hf.1))
  intro t' v e
  have h0:=λv e=>hr'.f.tmps t' v e
  have h1:=hr.f.tmps t (.ptr b 0) (by rw [Bu];simp)
  rw [Bu] at e
  cases U:Nat.beq t t' with
  |true=>
   rw [U] at e
   have:=Nat.eq_of_beq_eq_true U
   subst this
   simp only [cond_true,Option.some.injEq] at e
   subst e
   have h2:AL I (.ptr b 0) (a.tmps.getD t undef):=h1
   refine A1.of ?_
   simp only [AL] at h2 |-
   exact ⟨b,0,h2,Zr hv hl λj c e=>by
    have:=Mem.QZ (I:=I) (b:=b) (h:=0) (n:=vs.length) e
    simp_all⟩
  |false=>
   rw [U] at e
   exact h0 v (by rw [Bu,U];exact e)
theorem oi (hM:∀f args st (R R':AB->St->Prop),(∀r s,R r s->R' r s)->C f args st R->C f args st R')
 (hm:Kx sched all=true)
 (h:F8 T C all sched L (Bm (L.map some) env.boxes) Q sched env st):
 (∀(bs:List Bool) (e:Env) (st1:St) (i:Nat) (o:Oper),bs.length=all.length->L7 T C all sched st L (Bm (L.map some) env.boxes) Q env bs e st1->all[i]? =some o->BO all bs i=true->
   Bl all o e (Gr T C o e st1 (λv env' st'=>env'.go o.dst v λenv''=>L7 T C all sched st L (Bm (L.map some) env.boxes) Q env (bs.set i true) env'' st') (λx _ s=>∀e',Q x e' s)) (e.go o.dst (.BM []) λenv'=>L7 T C all sched st L (Bm (L.map some) env.boxes) Q env (bs.set i true) env' st1))/\
 (∀(bs:List Bool) (e:Env) (st1:St),bs.length=all.length->L7 T C all sched st L (Bm (L.map some) env.boxes) Q env bs e st1->bs=List.replicate all.length true\/∃j,j<all.length/\BO all bs j=true)/\
 (∀(e:Env) (st1:St),L7 T C all sched st L (Bm (L.map some) env.boxes) Q env (List.replicate all.length true) e st1->∃env',(e.eqv env'/\env'.boxes=e.boxes/\env'.gl=e.gl)/\Q .normal env' st1)/\
 L7 T C all sched st L (Bm (L.map some) env.boxes) Q env (List.replicate all.length false) env st:=by
 have M:=QW.of hm
 have hb0:∀id cs,assoc (Bm (L.map some) env.boxes) id=some cs->assoc env.boxes id=some cs/\id ∉ L:=λid cs e=>by
  obtain ⟨h1,h2⟩:=HQ e
  simp_all
 have hget:∀bs:List Bool,∀j,j<bs.length->bs.getD j true=bs.getD j false:=λbs j hj=>by simp_all
 have ready:∀{bs:List Bool} {i:Nat} {o:Oper},all[i]? =some o->bs.length=all.length->BO all bs i=true->bs.getD i false=false/\∀x ∈ o.after,Region.binds .any x=true->bs.getD x.on false=true:=by
  intro bs i o ho hb hrd
  have hi:i<bs.length:=by rw [hb];exact (List.getElem?_eq_some_iff.1 ho).1
  unfold BO at hrd
  rw [ho,hget bs i hi] at hrd
  simp only [Bool.and_eq_true,Bool.not_eq_true',List.all_eq_true] at hrd
  refine ⟨hrd.1,λx hx hb=>?_⟩
  have:=hrd.2 x ke
  rw [hb] at this
  simpa using this
 have listed:∀{bs:List Bool},(∀i o,all[i]? =some o->bs.getD i false=true->∀x ∈ o.after,Region.binds .any x=true->bs.getD x.on false=true)->
  ∀(n:Nat) {i j:Nat} {o:Oper},reaches all n i j=true->all[i]? =some o->(∀x ∈ o.after,Region.binds .any x=true->bs.getD x.on false=true)->bs.getD j false=true:=by
  intro bs cl n
  induction n with
  |zero=>intro i j o h;cases h
  |succ n ih=>
   intro i j o h ho ha
   rw [reaches,ho] at h
   simp only [Bool.or_eq_true,List.any_eq_true,Bool.and_eq_true] at h
   rcases h with ⟨x,h1,h2,h3⟩|⟨x,h1,⟨h2,h3⟩,h4⟩
   .have:=Nat.eq_of_beq_eq_true h3
    grind
   .have hx:=ha x ke h2
    cases hp:all[x.on]? with
    |none=>
     cases n with
     |zero=>cases h4
     |succ n=>rw [reaches,hp] at h4;cases h4
    |some p=>grind
 refine ⟨?_,?_,?_,?_⟩
 .intro bs e st1 i o hbl hinv ho hrd
  obtain ⟨vs,pre,post,Ef,F,hh⟩:=hinv
  obtain ⟨hbi,haft⟩:=ready ho hbl hrd
  have hil:i<bs.length:=by rw [hbl];exact (List.getElem?_eq_some_iff.1 ho).1
  have Cu:∀{DB:List (Nat×Bool)} {q:Bool} {r:List (Nat×Bool)},sched=DB++(i,q)::r->∀t ∈ Oper.Cu all o,assoc e.tmps t=Hd all env.tmps vs (λk=>decide (k ∈ DB.map (·.1))) t:=by
   intro DB q r hs t ht
   rw [F.tm]
   refine Di λk p hk hd=>⟨?_,λ_=>rfl⟩
   rcases Nat.lt_trichotomy k i with hki|rfl|hki
   .have h1:=M.lo i k o p t ho hk hd ht hki
    have h2:=listed F.cl _ h1 ho haft
    have h3:=M.ahead _ h1 _ _ _ hs
    grind
   .show bs.getD k false=decide (k ∈ DB.map (·.1))
    rw [hbi,decide_eq_false (M.nodup _ _ _ _ hs)]
   .have h1:=M.hi i k o p t ho hk hd ht hki
    show bs.getD k false=decide (k ∈ DB.map (·.1))
    have h2:bs.getD k false=false:=by
     cases hb:bs.getD k false with
     |false=>rfl
     |true=>have:=listed F.cl _ h1 hk (F.cl k p hk hb);grind
    have h3:k ∉ DB.map (·.1):=λhm=>by
     obtain ⟨x,hx,hxe⟩:=List.mem_map.1 hm
     obtain ⟨pa,ra,ea⟩:=List.append_of_mem hx
     have h4:=M.ahead _ h1 pa x.2 (ra++(i,q)::r) (by grind)
     exact M.nodup _ _ _ _ hs (by grind)
    grind
  have cl':∀k p,all[k]? =some p->(bs.set i true).getD k false=true->∀x ∈ p.after,Region.binds .any x=true->(bs.set i true).getD x.on false=true:=by
   intro k p hp hk x hx hb
   rw [Fp hil] at hk |-
   split
   .rfl
   .split at hk
    .grind
    .exact F.cl k p hp hk x hx hb
  by_cases hmem:i ∈ pre.map (·.1)
  . 
   obtain ⟨⟨i',q⟩,hx,rfl⟩:=List.mem_map.1 hmem
   obtain ⟨DB,r,epre⟩:=List.append_of_mem hx
   cases q with
   |false=>have:=F.ml _ hx;grind
   |true=>
    have hs:sched=DB++(i',true)::(r++post):=by rw [F.split,epre];simp
    obtain ⟨hd,hy⟩:=F.hy DB i' r o epre ho
    have hy:=hy e (Cu hs) F.n2 F.s2 F.g2
    obtain ⟨o',ho',U⟩:=M.kind _ _ _ _ hs
    have ho2:all[i']? =some o:=ho
    rw [ho2] at ho'
    cases ho'
    have U:Fu o.op=true:=U
    have hqk:B4 o.op=true:=by
     revert U
     cases o.op<;>simp [Fu,B4]
    have step:e.go o.dst (vs i') (λe'=>L7 T C all sched st L (Bm (L.map some) env.boxes) Q env (bs.set i' true) e' st1):=by
     refine Py (λt ht=>by rw [F.s2];grind) ⟨vs,pre,post,Ef,⟨F.split,λj hj=>?_,λj hj=>?_,F.boxes,F.n1,F.n2,F.s1,F.s2,F.g1,F.g2,λt=>?_,F.tf,F.bx,F.go,F.yH,F.sZ,F.hy,cl'⟩,hh⟩
     .rw [Fp hil] at hj
      split at hj
      .grind
      .exact F.sub j hj
     .rw [Fp hil]
      split
      .rfl
      .exact F.ml j hj
     .have:=GM (S:=λj=>bs.getD j false) (S':=λj=>(bs.set i' true).getD j false) (v:=vs i') M.dst ho F.tm (λj hj=>by grind) (by grind) t
      refine this.trans (Di λk p _ _=>⟨rfl,λ_=>?_⟩)
      unfold Pg
      grind
    refine F6 (λx=>?_) (λx=>?_) hy
    .have hbx:GO sched all i'=true->e.boxes=env.boxes:=λhe=>F.sZ λk ok hk hok=>by
      unfold GO at he
      have h1:=List.all_eq_true.1 he (k,false) (by grind)
      simp only [Bool.false_or,hok] at h1
      cases hst:Dw ok.op with
      |false=>rfl
      |true=>
       rw [hst] at h1
       simp only [Bool.not_true,Bool.false_or] at h1
       have:=listed F.cl _ h1 hok (F.cl k ok hok (F.ml k hk))
       grind
     rcases x with x|⟨he,x⟩|⟨he,x⟩
     .unfold Bt at x
      refine Dp (T:=T) (C:=C) (env:=e.only (Bm (L.map some) env.boxes) (Oper.Cu all o)) (env':=e) (st:=Ky) (st':=st1) hM hqk (.inr ⟨U,λ_=>rfl⟩) (GJ λt _=>rfl) F.bx (λv s s' g k=>?_) (λ_ _ k=>k.elim) x
      grind
     .have hini:st1=st:=F.yH λk hk=>by
       unfold HS at he
       have h1:=List.all_eq_true.1 he (k,false) (by grind)
       simp only [Bool.false_or] at h1
       have h2:=F.ml k hk
       cases hp:all[k]? with
       |none=>
        grind
       |some p=>
        have:=listed F.cl _ h1 hp (F.cl k p hp h2)
        grind
      subst hini
      unfold Bt at x
      have hb:=hbx (KP he)
      refine Dp (T:=T) (C:=C) (env:=e.only env.boxes (Oper.Cu all o)) (env':=e) (st:=st1) (st':=st1) hM hqk (.inl rfl) (GJ λt _=>rfl) (λid cs h=>by rw [hb];exact h) (λv s s' g k=>?_) (λ_ _ k=>k.elim) x
      grind
     .unfold Bt at x
      have hb:=hbx he
      refine Dp (T:=T) (C:=C) (env:=e.only env.boxes (Oper.Cu all o)) (env':=e) (st:=Ky) (st':=st1) hM hqk (.inr ⟨U,λ_=>rfl⟩) (GJ λt _=>rfl) (λid cs h=>by rw [hb];exact h) (λv s s' g k=>?_) (λ_ _ k=>k.elim) x
      grind
    grind
  . 
   obtain ⟨x,hx,rfl⟩:=List.mem_map.1 (M.cover i (List.getElem?_eq_some_iff.1 ho).1)
   rw [F.split] at hx
   have hxp:x ∈ post:=by
    rcases List.mem_append.1 hx with g|g
    .grind
    .exact g
   cases post with
   |nil=>cases hxp
   |cons p r=>
    obtain ⟨k,q⟩:=p
    have hq:q=false:=hh _ _ rfl
    subst hq
    have hxe:x=(k,false):=by
     rcases List.mem_cons.1 hxp with g|g
     .exact g
     .have h1:=M.chain pre k r F.split x g
      have h2:=listed F.cl _ h1 ho haft
      exact absurd (F.sub k h2) (M.nodup _ _ _ _ F.split)
    subst hxe
    have ho:all[k]? =some o:=ho
    have hbi:bs.getD k false=false:=hbi
    have hil:k<bs.length:=hil
    have hmem:k ∉ pre.map (·.1):=hmem
    have hgo:=F.go
    rw [MN] at hgo
    simp only [ho] at hgo
    have ag:∀t ∈ Oper.Cu all o,assoc Ef.tmps t=assoc e.tmps t:=λt ht=>by rw [F.tf,Cu F.split t ht]
    have hag:=HT (all:=all) (o:=o) ag
    have next:∀(v:V) (s:St) (B:List (Nat×List V)),(∀id cs,assoc (Bm (L.map some) env.boxes) id=some cs->assoc B id=some cs)->(Dw o.op=false->B=e.boxes)->
     Env.go {Ef with boxes:=B} o.dst v (λenv'=>F8 T C all sched L (Bm (L.map some) env.boxes) Q r env' s)->
     Env.go {e with boxes:=B} o.dst v (λe'=>L7 T C all sched st L (Bm (L.map some) env.boxes) Q env (bs.set k true) e' s):=by
     intro v s B hB hBe hk
     obtain ⟨hd,hk⟩:=HV hk
     have hd:∀t,o.dst=some t->t<Ef.sz:=hd
     have hmp:∀j,j≠k->(j ∈ (pre++[(k,false)]).map (·.1)↔j ∈ pre.map (·.1)):=λj hj=>by simp [hj]
     refine Py (λt ht=>by show t<e.sz;rw [F.s2,<-F.s1];grind) (KY M r (Pg vs k v) (pre++[(k,false)]) {Ef with boxes:=B,tmps:=Ql Ef.tmps o.dst v} ⟨by rw [F.split];simp,λj hj=>?_,λj hj=>?_,rfl,F.n1,F.n2,F.s1,F.s2,F.g1,F.g2,λt=>?_,λt=>?_,hB,hk,λhk=>absurd (List.mem_append_right _ List.mem_cons_self) (hk k),λhk=>(hBe (hk k o (List.mem_append_right _ List.mem_cons_self) ho)).trans (F.sZ λk o hm ho=>hk k o (List.mem_append_left _ hm) ho),λDB j r' o' hs ho'=>?_,cl'⟩)
     .rw [Fp hil] at hj
      rw [List.map_append]
      split at hj
      .grind
      .exact List.mem_append_left _ (F.sub j hj)
     .rw [Fp hil]
      split
      .rfl
      .rename_i hne
       rcases List.mem_append.1 hj with g|g
       .exact F.ml j g
       grind
     .exact GM (S:=λj=>bs.getD j false) (S':=λj=>(bs.set k true).getD j false) M.dst ho F.tm (λj hj=>by grind) (by grind) t
     .exact GM (S':=λj=>decide (j ∈ (pre++[(k,false)]).map (·.1))) M.dst ho F.tf (λj hj=>by grind) GT t
     .rcases MV hs with ⟨rfl,e2⟩|⟨r2,e2⟩
      .cases e2
      .have hj:=F.hy DB j r2 o' e2 ho'
       refine hj.Pg (λe=>?_) (λhm=>hmem ?_)
       .grind
       grind
    have heE:∀(E:Env),{E with boxes:=E.boxes}=E:=λE=>rfl
    refine GX ag (F6 (λx=>?_) (λx=>?_) hgo)
    .obtain ⟨x1,x⟩:=At.1 x
     obtain ⟨o',ho',U⟩:=M.kind _ _ _ _ F.split
     rw [ho] at ho'
     cases ho'
     have U:(B4 o.op||Dw o.op)=true:=U
     cases hqk:B4 o.op with
     |true=>
      refine Dp (T:=T) (C:=C) (env:=Ef) (env':=e) (st:=st1) (st':=st1) hM hqk (.inl rfl) hag (λid cs hb=>by rw [<-F.boxes];exact hb) (λv s s' g hk=>?_) (λv s hk=>hk) x
      have:s'=s:=by rcases g with ⟨_,g⟩|⟨g1,g2⟩;exact g;rw [g1,g2]
      subst this
      have:=next v s' e.boxes F.bx (λ_=>rfl) (by rw [<-F.boxes];exact hk)
      omega
     |false=>
      rw [hqk] at U
      have hst:Dw o.op=true:=by simpa using U
      cases hop:o.op with
      |store t p y=>
       refine Lb (T:=T) (C:=C) hop x1 hag F.boxes (by rw [F.n1,F.n2]) (by rw [F.s1,F.s2]) (by rw [F.g1,F.g2]) (λs B hB hk=>?_) x
       refine next .BN s B (λid cs hb=>?_) (λh=>by grind) hk
       obtain ⟨_,h2⟩:=hb0 id cs hb
       exact hB id cs h2 (by rw [F.boxes];exact F.bx id cs hb)
      |_=>rw [hop] at hst;cases hst
    .have:=next (.BM []) st1 e.boxes F.bx (λ_=>rfl) (by rw [<-F.boxes];exact x)
     omega
 .intro bs e st hbl hinv
  obtain ⟨vs,pre,post,Ef,F,hh⟩:=hinv
  by_cases hall:∀p ∈ sched,bs.getD p.1 false=true
  .left
   rw [List.eq_replicate_iff]
   refine ⟨hbl,λb hb=>?_⟩
   obtain ⟨j,hj,rfl⟩:=List.mem_iff_getElem.1 hb
   obtain ⟨p,hp,e⟩:=List.mem_map.1 (M.cover j AC)
   grind
  .right
   have hex:∃pr p po,sched=pr++p::po/\bs.getD p.1 false=false/\∀x ∈ pr,bs.getD x.1 false=true:=by
    clear F hh
    revert hall
    generalize sched=l
    intro hall
    induction l with
    |nil=>grind
    |cons x l ih=>
     cases hb:bs.getD x.1 false with
     |false=>exact ⟨[],x,l,rfl,hb,λy hy=>by cases hy⟩
     |true=>
      obtain ⟨pr,p,po,h1,h2,h3⟩:=ih λh=>hall λp hp=>by grind
      grind
   obtain ⟨pr,⟨k,q⟩,po,h1,h2,h3⟩:=hex
   obtain ⟨o,ho,_⟩:=M.kind _ _ _ _ h1
   have hk:k<all.length:=(List.getElem?_eq_some_iff.1 ho).1
   refine ⟨k,hk,?_⟩
   unfold BO
   rw [ho,hget bs k AC,h2]
   simp only [Bool.not_false,Bool.true_and,List.all_eq_true]
   intro x hx
   cases hb:Region.binds .any x with
   |false=>rfl
   |true=>
    obtain ⟨y,hy,e⟩:=List.mem_map.1 (M.back _ _ _ _ o h1 ho x (by grind) hb)
    grind
 .intro e st hinv
  obtain ⟨vs,pre,post,Ef,F,hh⟩:=hinv
  have hp:post=[]:=by
   cases post with
   |nil=>rfl
   |cons p r=>
    obtain ⟨o,ho,_⟩:=M.kind _ _ _ _ F.split
    have:=F.sub p.1 (by grind)
    exact absurd this (M.nodup _ _ _ _ F.split)
  subst hp
  refine ⟨Ef,⟨⟨λt=>?_,λt=>by rw [F.boxes],by rw [F.n1,F.n2],by rw [F.s1,F.s2]⟩,F.boxes,by rw [F.g1,F.g2]⟩,F.go⟩
  rw [F.tm,F.tf]
  refine Di λk p hk _=>⟨?_,λ_=>rfl⟩
  have hlt:=(List.getElem?_eq_some_iff.1 hk).1
  have h1:(List.replicate all.length true).getD k false=true:=by rw [List.getD_eq_getElem?_getD,List.getElem?_replicate,if_pos hlt];rfl
  show (List.replicate all.length true).getD k false=decide (k ∈ pre.map (·.1))
  rw [h1,decide_eq_true (F.sub k h1)]
 .have hf:∀j,(List.replicate all.length false).getD j false=false:=λj=>by grind
  have h0:∀(vs:Nat->V) t,Hd all env.tmps vs (λj=>(List.replicate all.length false).getD j false) t=assoc env.tmps t:=λvs t=>by
   unfold Hd;grind
  refine KY M sched (λ_=>.BN) [] env ⟨rfl,λj hj=>(by grind),λj hj=>(by cases hj),rfl,rfl,rfl,rfl,rfl,rfl,rfl,λt=>(h0 _ t).symm,λt=>?_,λid cs hb=>(hb0 id cs hb).1,h,λ_=>rfl,λ_=>rfl,λDB j r o e=>(by cases DB<;>cases e),λi o ho hi=>(by grind)⟩
  unfold Hd
  grind
def Qo (A:List Oper) (U os:Oper) (t:Nat):Bool:=
 U.after.toList.isEmpty&&(U.guard.isNone&&(os.guard.isNone&&(Dw os.op&&(A.all (λo=>o.guard.isNone&&(B4 o.op&&(!(o.dst==some t)&&(!((Oper.Cu A o).contains t)&&o.after.toList.all λe=>Nat.blt e.on A.length))))&&
  ((List.range (A.length+1)).all (λi=>os.after.toList.any λe=>Nat.beq e.on i&&Region.binds .any e)&&os.after.toList.all λe=>Nat.ble e.on A.length)))))
def Vg (T:List (Nat×Ty)) (C:FuncId->List V->St->(AB->St->Prop)->Prop) (U os:Oper) (Q:AF->Env->St->Prop) (x:AF) (e:Env) (s:St):Prop:=match x with
 | .normal=>Gr T C U e s (λv e s=>e.go U.dst v λe=>Gr T C os e s (λv e s=>e.go os.dst v λe=>Q .normal e s) (λx _ s=>∀e',Q x e' s)) (λ_ _ _=>True)
 |x=>∀e',Q x e' s
structure yG (t:Nat) (z:List V) (e0 e:Env):Prop where
 boxes:e.boxes=(e0.Bw,z)::e0.boxes
 Bw:e.Bw=e0.Bw+1
 sz:e.sz=e0.sz
 gl:e.gl=e0.gl
 tm:∀s,assoc e.tmps s=if s=t then some (.B6 e0.Bw 0) else assoc e0.tmps s
def z6 (I:List Bool->Env->St->Prop) (n t:Nat) (z:List V) (Q:AF->Env->St->Prop) (bs:List Bool) (e:Env) (s:St):Prop:=∃U x y,bs=U++[x,y]/\U.length=n/\
 ((x=false/\y=false/\I U e s)\/(x=true/\y=false/\∃e0,I U e0 s/\yG t z e0 e)\/(x=true/\y=true/\U=List.replicate n true/\∃env',e.eqv env'/\Q .normal env' s))
theorem Jn {l r:List Bool} {i:Nat} {d:Bool} (h:i<l.length):(l++r).getD i d=l.getD i d:=by
 rw [List.getD_eq_getElem?_getD,List.getD_eq_getElem?_getD,List.getElem?_append_left h]
theorem yG.get {t:Nat} {z:List V} {e0 e:Env} (h:yG t z e0 e) {s:Nat} (U:s≠t):e0.get s=e.get s:=by
 unfold Env.get
 rw [h.tm,if_neg U]
theorem yG.go {z:List V} {e0 e:Env} (h:yG t z e0 e) {d:Option Nat} (hd:d≠some t) (v:V):yG t z {e0 with tmps:=Ql e0.tmps d v} {e with tmps:=Ql e.tmps d v}:=
 ⟨h.boxes,h.Bw,h.sz,h.gl,λs=>by
   show assoc (Ql e.tmps d v) s=if s=t then some (.B6 e0.Bw 0) else assoc (Ql e0.tmps d v) s
   rw [Es,Es,h.tm]
   by_cases U:d=some s
   .rw [if_pos U,if_pos U,if_neg (λe=>hd (by rw [U,e]))]
   .rw [if_neg U,if_neg U]⟩
theorem L7.facts {sti:St} {b0:List (Nat×List V)} {U:Env} {bs:List Bool} {e:Env} {st:St} (hq:∀(k:Nat) (o:Oper),all[k]? =some o->Dw o.op=false) (h:L7 T C all sched sti L b0 Q U bs e st):
 e.Bw=U.Bw/\e.sz=U.sz/\e.gl=U.gl/\e.boxes=U.boxes:=by
 obtain ⟨vs,pre,post,Ef,F,_⟩:=h
 exact ⟨F.n2,F.s2,F.g2,F.sZ λk o _ ho=>hq k o ho⟩
theorem TQ {o:Op} (h:B4 o=true):Dw o=false:=by
 cases o<;>first|rfl|cases h
theorem lh {U:Oper} {e:Env} {s:St} {K:V->Env->St->Prop} {z:Ty} (ho:U.op=.alloc ty) (hz:assoc T ty=some z):Gr T C U e s K Q=Ka e s U.dst z.zero.cells K:=by
 simp only [Gr,ho,hz]
theorem XR (hT:Hh P T) (hC:∀f args st R,C f args st R->C5 P f args st R/\Plain P f) (hM:∀f args st (R R':AB->St->Prop),(∀r s,R r s->R' r s)->C f args st R->C f args st R')
 {A:List Oper} {oa os:Oper} {z:Ty} (hm:Kx sched A=true) (hk:Qo A oa os t=true) (ho:oa.op=.alloc ty) (hd:oa.dst=some t) (hz:assoc T ty=some z) (hts:t<env.sz) (hgl:env.Qb (some t)=false)
 (h:F8 T C A sched L (Bm (L.map some) env.boxes) (Vg T C oa os Q) sched env st) (hr:Rel D I0 st0 w0 I β env st a w):
 wpAny P .any (A++[oa,os]).toArray (Ct D I0 st0 w0 Q) (A++[oa,os]).toArray.size (Array.replicate (A++[oa,os]).toArray.size false) a {w with drawn:=w.drawn+1}:=by
 obtain ⟨step,live,fin,start⟩:=oi (T:=T) (C:=C) hM hm h
 have hr:=hr.JZ (Gu.drew w)
 generalize hI:L7 T C A sched st L (Bm (L.map some) env.boxes) (Vg T C oa os Q) env=I0' at step live fin start
 unfold Qo at hk
 simp only [Bool.and_eq_true,List.all_eq_true,List.any_eq_true,List.mem_range,Bool.not_eq_true'] at hk
 obtain ⟨k1,k2,k3,k4,k5,k6,k7⟩:=hk
 have hAo:∀(i:Nat) (o:Oper),A[i]? =some o->o.guard=none/\B4 o.op=true/\o.dst≠some t/\t ∉ Oper.Cu A o/\∀e ∈ o.after.toList,e.on<A.length:=λi o hi=>by
  obtain ⟨h1,h2,h3,h4,h5⟩:=k5 o (List.mem_of_getElem? hi)
  refine ⟨by simpa using h1,h2,by simpa using h3,by simpa using h4,λe he=>?_⟩
  have:=h5 e he
  rw [Nat.blt_eq] at this;exact this
 have facts:∀{bs e s},I0' bs e s->e.Bw=env.Bw/\e.sz=env.sz/\e.gl=env.gl/\e.boxes=env.boxes:=λ{bs e s} hi=>by
  rw [<-hI] at hi
  exact L7.facts (λk o ho=>TQ (hAo k o ho).2.1) hi
 have fresh:assoc env.boxes env.Bw=none:=by
  cases e:assoc env.boxes env.Bw with
  |none=>rfl
  |some cs=>
   obtain ⟨b,hb,_⟩:=hr.f.box _ _ e
   exact absurd (hr.f.Bw _ _ hb) (Nat.lt_irrefl _)
 have hga:oa.guard=none:=by simpa using k2
 have hgs:os.guard=none:=by simpa using k3
 have hla:(A++[oa,os]).length=A.length+2:=GT
 refine dM hT hC (Inv:=z6 I0' A.length t z.zero.cells Q) ?_ ?_ ?_ _ (List.replicate (A++[oa,os]).length false) _ _ β env st _ _ GT GT GT ?_ hr
 .rintro bs e s i o hbl ⟨bA,x,y,rfl,hlen,U⟩ hio hrd
  have rdA:i<A.length->BO A bA i=true:=λhi=>by
   rw [List.getElem?_append_left hi] at hio
   unfold BO at hrd |-
   rw [List.getElem?_append_left hi,hio] at hrd
   rw [hio]
   rw [Jn AC] at hrd
   simp only [Bool.and_eq_true,List.all_eq_true] at hrd |-
   refine ⟨hrd.1,λe he=>?_⟩
   have:=hrd.2 e he
   rwa [Jn (by rw [hlen];exact (hAo i o hio).2.2.2.2 e he)] at this
  rcases Nat.lt_trichotomy i A.length with hi|rfl|hi
  .have hrA:=rdA hi
   rw [List.getElem?_append_left hi] at hio
   obtain ⟨g1,g2,g3,g4,g5⟩:=hAo i o hio
   have hset:∀x y,(bA++[x,y]).set i true=bA.set i true++[x,y]:=λx y=>List.set_append_left _ _ AC
   have hls:(bA.set i true).length=A.length:=by simpa using hlen
   unfold Bl
   rw [g1]
   rcases U with ⟨rfl,rfl,U⟩|⟨rfl,rfl,e0,U,ha⟩|⟨rfl,rfl,U,_⟩
   .have:=step bA e s i o hlen U hio hrA
    unfold Bl at this
    rw [g1] at this
    refine Dp (env:=e) (env':=e) (st:=s) (st':=s) hM g2 (.inl rfl) (λ_ _=>rfl) (λid cs h=>h) (λv s1 s2 g k=>?_) (λv s1 k=>k e e) this
    have hs:s2=s1:=by rcases g with ⟨_,g⟩|⟨g1,g2⟩;exact g;rw [g1,g2]
    subst hs
    obtain ⟨q1,q2⟩:=HV k
    exact Py q1 ⟨bA.set i true,false,false,hset _ _,hls,.inl ⟨rfl,rfl,q2⟩⟩
   .have:=step bA e0 s i o hlen U hio hrA
    unfold Bl at this
    rw [g1] at this
    have hf:=facts U
    refine Dp (env:=e0) (env':=e) (st:=s) (st':=s) hM g2 (.inl rfl) (λx hx=>?_) (λid cs h=>?_) (λv s1 s2 g k=>?_) (λv s1 k=>k e e) this
    .cases x with
     |tmp t'=>
      refine ha.get λe=>g4 ?_
      subst e
      exact List.mem_append.2 (.inl (List.mem_filterMap.2 ⟨.tmp t',hx,rfl⟩))
     |const v=>rfl
     |func f=>rfl
     |global g=>rfl
    .rw [ha.boxes,Bu]
     cases hb:Nat.beq e0.Bw id with
     |false=>exact h
     |true=>
      have:=Nat.eq_of_beq_eq_true hb
      subst this
      rw [hf.2.2.2,hf.1,fresh] at h
      cases h
    .have hs:s2=s1:=by rcases g with ⟨_,g⟩|⟨g1,g2⟩;exact g;rw [g1,g2]
     subst hs
     obtain ⟨q1,q2⟩:=HV k
     exact Py (λt' ht'=>by rw [ha.sz];exact q1 t' ht') ⟨bA.set i true,true,false,hset _ _,hls,.inr (.inl ⟨rfl,rfl,_,q2,ha.go g3 v⟩)⟩
   .unfold BO at hrA
    rw [U,List.getD_eq_getElem?_getD,List.getElem?_replicate,if_pos hi] at hrA
    simp at hrA
  .have hoo:o=oa:=by
    rw [List.getElem?_append_right (Nat.le_refl _),Nat.sub_self] at hio
    simpa using hio.symm
   subst hoo
   have hx:x=false:=by
    unfold BO at hrd
    rw [List.getD_eq_getElem?_getD,List.getElem?_append_right AC,hlen,Nat.sub_self] at hrd
    cases x with
    |false=>rfl
    |true=>simp at hrd
   subst hx
   rcases U with ⟨_,rfl,U⟩|⟨U,_⟩|⟨U,_⟩
   .have hf:=facts U
    unfold Bl
    rw [hga]
    have hg2:e.Qb o.dst=false:=by
     rw [hd]
     unfold Env.Qb at hgl |-
     rw [hf.2.2.1];exact hgl
    simp only [Gr,ho,hz]
    unfold Ka
    rw [hg2]
    refine Bp.2 ?_
    refine Py (λt' ht'=>?_) ⟨bA,true,false,?_,hlen,.inr (.inl ⟨rfl,rfl,e,U,⟨rfl,rfl,rfl,rfl,λs'=>?_⟩⟩)⟩
    .rw [hd] at ht'
     cases ht'
     show t<e.sz
     rw [hf.2.1];exact hts
    .rw [List.set_append_right _ _ AC,hlen,Nat.sub_self];rfl
    .show assoc (Ql e.tmps o.dst (.B6 e.Bw 0)) s'=_
     rw [Es,hd]
     by_cases h1:s'=t
     .rw [if_pos (by rw [h1]),if_pos h1]
     .rw [if_neg (λe=>h1 (Option.some.inj e).symm),if_neg h1]
   .cases U
   .cases U
  .have hi2:i=A.length+1:=by
    have:=(List.getElem?_eq_some_iff.1 hio).1
    omega
   subst hi2
   have hoo:o=os:=by
    rw [List.getElem?_append_right AC,show A.length+1 - A.length=1 by omega] at hio
    simpa using hio.symm
   subst hoo
   unfold BO at hrd
   rw [hio] at hrd
   simp only [Bool.and_eq_true,List.all_eq_true,Bool.not_eq_true'] at hrd
   obtain ⟨r1,r2⟩:=hrd
   have hon:∀j,j<A.length+1->(bA++[x,y]).getD j false=true:=λj hj=>by
    obtain ⟨e',he',hb⟩:=k6 j hj
    have h1:=r2 e' he'
    rw [Nat.eq_of_beq_eq_true hb.1,hb.2] at h1
    simpa using h1
   have hy:y=false:=by
    rw [List.getD_eq_getElem?_getD,List.getElem?_append_right AC,hlen,show A.length+1 - A.length=1 by omega] at r1
    simpa using r1
   have hx:x=true:=by
    have:=hon A.length AC
    rw [List.getD_eq_getElem?_getD,List.getElem?_append_right AC,hlen,Nat.sub_self] at this
    simpa using this
   have hbA:bA=List.replicate A.length true:=by
    rw [List.eq_replicate_iff]
    refine ⟨hlen,λb hb=>?_⟩
    obtain ⟨j,hj,rfl⟩:=List.mem_iff_getElem.1 hb
    have:=hon j AC
    rw [Jn hj,List.getD_eq_getElem?_getD,List.getElem?_eq_getElem hj] at this
    simpa using this
   subst hy;subst hx
   rcases U with ⟨U,_⟩|⟨_,_,e0,U,ha⟩|⟨_,U,_⟩
   .cases U
   .rw [hbA] at U
    obtain ⟨env',⟨q1,q2,q3⟩,q4⟩:=fin e0 s U
    have hf:=facts U
    have q4:Gr T C oa env' s (λv e s=>e.go oa.dst v λe=>Gr T C o e s (λv e s=>e.go o.dst v λe=>Q .normal e s) (λx _ s=>∀e',Q x e' s)) (λ_ _ _=>True):=q4
    have hg2:env'.Qb oa.dst=false:=by
     rw [hd]
     unfold Env.Qb at hgl |-
     rw [q3,hf.2.2.1];exact hgl
    rw [lh ho hz] at q4
    unfold Ka at q4
    rw [hg2] at q4
    obtain ⟨_,q5⟩:=HV (Bp.1 q4)
    unfold Bl
    rw [hgs]
    have tmq:∀s',assoc (Ql env'.tmps oa.dst (.B6 env'.Bw 0)) s'=assoc e.tmps s':=λs'=>by
     rw [Es,hd,<-q1.tmps,<-q1.Bw,ha.tm]
     by_cases h1:s'=t
     .rw [if_pos (by rw [h1]),if_pos h1]
     .rw [if_neg (λe=>h1 (Option.some.inj e).symm),if_neg h1]
    have ev:∀x:Operand,Env.eval ⟨Ql env'.tmps oa.dst (.B6 env'.Bw 0),(env'.Bw,z.zero.cells)::env'.boxes,env'.Bw+1,env'.sz,env'.gl⟩ x=e.eval x:=λx=>by
     cases x with
     |tmp t'=>
      have:=tmq t'
      show Env.get _ t'=e.get t'
      unfold Env.get
      dsimp only
      rw [this]
     |const v=>rfl
     |func f=>rfl
     |global g=>rfl
    cases hop:o.op with
    |store ty' px vx=>
     obtain ⟨L',hL'⟩:∃L',JG L' ⟨Ql env'.tmps oa.dst (.B6 env'.Bw 0),(env'.Bw,z.zero.cells)::env'.boxes,env'.Bw+1,env'.sz,env'.gl⟩ o=true:=by
      unfold JG
      rw [hop]
      dsimp only
      cases hv:Env.eval ⟨Ql env'.tmps oa.dst (.B6 env'.Bw 0),(env'.Bw,z.zero.cells)::env'.boxes,env'.Bw+1,env'.sz,env'.gl⟩ px with
      |B6 id off=>exact ⟨[id],GT⟩
      |_=>exact ⟨[],rfl⟩
     refine Lb (T:=T) (C:=C) hop hL' (λx _=>ev x) (by rw [ha.boxes,q2,<-q1.Bw]) (by rw [ha.Bw,<-q1.Bw]) (by rw [ha.sz,<-q1.sz]) (by rw [ha.gl,q3]) (λs' B hB hk=>?_) q5
     obtain ⟨p1,p2⟩:=HV hk
     refine Py (λt' ht'=>by have:=p1 t' ht';rw [show ({e with boxes:=B}:Env).sz=e.sz from rfl,ha.sz,q1.sz];exact this) ⟨bA,true,true,?_,hlen,.inr (.inr ⟨rfl,rfl,hbA,⟨Ql (Ql env'.tmps oa.dst (.B6 env'.Bw 0)) o.dst .BN,B,env'.Bw+1,env'.sz,env'.gl⟩,⟨λs''=>?_,λ_=>rfl,?_,?_⟩,p2⟩)⟩
     .rw [List.set_append_right _ _ AC,hlen,show A.length+1 - A.length=1 by omega];rfl
     .show assoc (Ql e.tmps o.dst .BN) s''=assoc (Ql (Ql env'.tmps oa.dst (.B6 env'.Bw 0)) o.dst .BN) s''
      rw [Es,Es (ts:=Ql env'.tmps oa.dst (.B6 env'.Bw 0)),tmq]
     .show e.Bw=env'.Bw+1
      rw [ha.Bw,q1.Bw]
     .show e.sz=env'.sz
      rw [ha.sz,q1.sz]
    |_=>rw [hop] at k4;cases k4
   .cases U
 .rintro bs e s hbl ⟨bA,x,y,rfl,hlen,U⟩
  have lift:∀{j:Nat} {x y:Bool},j<A.length->BO A bA j=true->BO (A++[oa,os]) (bA++[x,y]) j=true:=λ{j x y} hj hq=>by
   unfold BO at hq |-
   rw [Jn AC,List.getElem?_append_left hj]
   have hoj:A[j]? =some A[j]:=List.getElem?_eq_getElem hj
   rw [hoj] at hq |-
   simp only [Bool.and_eq_true,List.all_eq_true] at hq |-
   refine ⟨hq.1,λe he=>?_⟩
   rw [Jn (by rw [hlen];exact (hAo j _ hoj).2.2.2.2 e he)]
   exact hq.2 e he
  rcases U with ⟨rfl,rfl,U⟩|⟨rfl,rfl,e0,U,ha⟩|⟨rfl,rfl,U,_⟩
  .refine .inr ⟨A.length,AC,?_⟩
   unfold BO
   rw [List.getElem?_append_right (Nat.le_refl _),Nat.sub_self,List.getD_eq_getElem?_getD,List.getElem?_append_right AC,hlen,Nat.sub_self]
   have:oa.after.toList=[]:=by simpa using k1
   simp [this]
  .rcases live bA e0 s hlen U with h1|⟨j,h1,h2⟩
   .refine .inr ⟨A.length+1,AC,?_⟩
    unfold BO
    rw [List.getElem?_append_right AC,List.getD_eq_getElem?_getD,List.getElem?_append_right AC,hlen,show A.length+1 - A.length=1 by omega]
    rw [Bool.and_eq_true]
    refine ⟨rfl,?_⟩
    show (os.after.toList.all λe=> !(Region.binds .any e)||(bA++[true,false]).getD e.on false)=true
    rw [List.all_eq_true]
    intro e he
    have hle:e.on<=A.length:=Nat.le_of_ble_eq_true (k7 e he)
    rw [Bool.or_eq_true]
    refine .inr ?_
    rcases Nat.lt_or_eq_of_le hle with h2|h2
    .rw [Jn AC,h1,List.getD_eq_getElem?_getD,List.getElem?_replicate,if_pos h2];rfl
    .rw [List.getD_eq_getElem?_getD,List.getElem?_append_right AC,h2,hlen,Nat.sub_self];rfl
   .exact .inr ⟨j,AC,lift h1 h2⟩
  .refine .inl ?_
   rw [U,hla,List.replicate_succ',List.replicate_succ',List.append_assoc]
   rfl
 .rintro e s ⟨bA,x,y,hbs,hlen,U⟩
  have hlast:(bA++[x,y]).getD A.length false=true/\(bA++[x,y]).getD (A.length+1) false=true:=by
   rw [<-hbs,List.getD_eq_getElem?_getD,List.getD_eq_getElem?_getD,List.getElem?_replicate,List.getElem?_replicate,if_pos AC,if_pos AC]
   exact ⟨rfl,rfl⟩
  have hy:y=true:=by
   have:=hlast.2
   rw [List.getD_eq_getElem?_getD,List.getElem?_append_right AC,hlen,show A.length+1 - A.length=1 by omega] at this
   simpa using this
  rcases U with ⟨_,U,_⟩|⟨_,U,_⟩|⟨_,_,_,h1⟩
  .rw [hy] at U;cases U
  .rw [hy] at U;cases U
  .exact h1
 .refine ⟨List.replicate A.length false,false,false,?_,GT,.inl ⟨rfl,rfl,start⟩⟩
  rw [hla,List.replicate_succ',List.replicate_succ',List.append_assoc]
  rfl
theorem lv (hP:TZ P T) (hC:∀f args st R,C f args st R->C5 P f args st R/\Plain P f) (hM:∀f args st (R R':AB->St->Prop),(∀r s,R r s->R' r s)->C f args st R->C f args st R')
 (A:List Oper) (U os:Oper) (sched:List (Nat×Bool)) (L:List Nat) {z:Ty} (he:ops=(A++[U,os]).toArray) (hm:Kx sched A=true) (hk:Qo A U os t=true) (ho:U.op=.alloc ty) (hd:U.dst=some t) (hz:assoc T ty=some z) (hts:t<env.sz) (hgl:env.Qb (some t)=false)
 (h:F8 T C A sched L (Bm (L.map some) env.boxes) (Vg T C U os Q) sched env st):AW P (.region id ops true) Q env st:=λD I0 st0 w0 I β a w hr=>
 wp_region_any hP.m (by
  subst he
  exact XR hP.t hC hM hm hk ho hd hz hts hgl h hr)
theorem gH (hP:TZ P T) (hC:∀f args st R,C f args st R->C5 P f args st R/\Plain P f) (hM:∀f args st (R R':AB->St->Prop),(∀r s,R r s->R' r s)->C f args st R->C f args st R')
 (k t:Nat) (sched:List (Nat×Bool)) (L:List Nat) {U os:Oper} {z:Ty} (h1:ops.toList[k]? =some U) (h2:ops.toList[k+1]? =some os) (h3:ops.toList.length=k+2) (hm:Kx sched (ops.toList.take k)=true) (hk:Qo (ops.toList.take k) U os t=true) (ho:U.op=.alloc ty) (hd:U.dst=some t) (hz:assoc T ty=some z) (hts:t<env.sz) (hgl:env.Qb (some t)=false)
 (h:F8 T C (ops.toList.take k) sched L (Bm (L.map some) env.boxes) (Vg T C U os Q) sched env st):AW P (.region id ops true) Q env st:=by
 refine lv hP hC hM _ U os sched L (by
  have e1:ops.toList.drop k=[U,os]:=by
   obtain ⟨g1,g2⟩:=List.getElem?_eq_some_iff.1 h1
   obtain ⟨g3,g4⟩:=List.getElem?_eq_some_iff.1 h2
   rw [List.drop_eq_getElem_cons g1,g2,List.drop_eq_getElem_cons g3,g4,List.drop_eq_nil_of_le AC]
  rw [<-e1,List.take_append_drop]) hm hk ho hd hz hts hgl h
end
end Go.Aw
namespace Go.Proofs.Z
open Go Go.Aw
structure wE (f:FuncId) (mk:Nat->V->List V) (A:List Nd->Rd (List Nd×Nd)):Prop where
 ap:∀{st0:St} {b:Nat} {s:Ae} {st:St} {rows:List (AH×List Nd)} {K:AB->St->Prop} {own:AH} {l:List Nd},l.length<=90000000->Cx st0 b s st ((own,l)::rows)->
 Rd.wp (A l) s (λp s'=>∀own' st',Cx st0 b s' st' ((own',p.1++[p.2])::rows)->K (.ret (.slice 6 ((p.1++[p.2]).map AP) own')) st') (λe s'=>∀st',Cy st0 b s' st' rows->K (.Cd (fault e.1)) st')->PC f (mk b (.slice 6 (l.map AP) own)) st K
theorem wE.go {A:List Nd->Rd (List Nd×Nd)} {s:Ae} {st:St} {Q:List Nd×Nd->Ae->Prop} {E:Er->Ae->Prop} {own:AH} {l:List Nd} (hf:wE f mk A) (hl:l.length<=90000000) (hc:Cx st0 b s st ((own,l)::rows)) (h:Rd.wp (A l) s Q E)
 (k:∀l' x U s' st',(A l).run s=.inr ((l',x),s')->mu s'<=mu s->Cx st0 b s' st' ((U,l'++[x])::rows)->Q (l',x) s'->K (.ret (.slice 6 ((l'++[x]).map AP) U)) st') (kb:∀e s' st',Cy st0 b s' st' rows->E e s'->K (.Cd (fault e.1)) st'):PC f (mk b (.slice 6 (l.map AP) own)) st K:=
 hf.ap hl hc (Rd.wp_mono h (λv s' r q own st' c=>k v.1 v.2 own s' st' r ((A l).le _ _ _ r) c q) (λe s' _ q st' c=>kb e s' st' c q))
theorem EF {l:List Nd} {x:Nd} {Q:List V->Prop} (k:Q (AP x)):0<=(((l++[x]).length:Nat):Int) - 1/\∃e,((l++[x]).map AP)[((((l++[x]).length:Nat):Int) - 1).toNat]? =some e/\Q e:=
 ⟨by rw [List.length_append];show (0:Int)<=((l.length+1:Nat):Int) - 1;omega,AP x,by
   rw [show ((((l++[x]).length:Nat):Int) - 1).toNat=l.length by rw [List.length_append];show (((l.length+1:Nat):Int) - 1).toNat=_;omega,List.map_append,List.getElem?_append_right (by rw [List.length_map];exact Nat.le_refl _),List.length_map,Nat.sub_self]
   rfl,k⟩
theorem Jp {R:Rd Nd} {l:List Nd} {p:List Nd×Nd} {s s':Ae} (h:(Ix R l).run s=.inr (p,s')):p.1.length<=l.length+2:=by
 unfold Ix at h
 obtain ⟨r,s1,_,h⟩:=AU h
 replace h:(if AZ s1 10 [61,62]=true then Rd.seq Az λa=>.seq R λq=>.ret (l++[r]++[a],q) else .ret (l,r):Rd (List Nd×Nd)).run s1=.inr (p,s'):=h
 split at h
 .obtain ⟨a,s2,_,h⟩:=AU h
  obtain ⟨q,s3,_,h⟩:=AU h
  cases h
  simp
 .cases h;exact Nat.le_add_right _ _
section
variable {st0 st:St} {b d:Nat} {s:Ae} {rows:List (AH×List Nd)} {K:AB->St->Prop} {A B R W F D E:Rd Nd}
attribute [local irreducible] Go.Aw.Am
theorem Oh (hr:AX enc 273 (λb=>[pv b d]) R):wE 277 (λb v=>[pv b d,v]) (Ix R):=by
 refine ⟨λ{st0 b s st rows K own l} hl U h=>?_⟩
 simp only [Ix,Rd.Ag,Rd.Ax,Rd.wp_seq,Rd.wp_ret] at h
 have hmu:=U.mu
 refine pB Tryz.func277 ?_
 repeat' ((conv=>whnf);(first|refine Ba ?_|refine Bb ?_ ?_|refine Bc ?_ ?_|refine XO ?_ ?_|refine M8 ?_|refine TC ?_ ?_|refine Kr ?_|refine JQ ?_ ?_|exact Gw|refine Qn ?_|refine Ad ?_|refine Gl.go (by first|exact AX.q|exact ‹_›.a) ?_ ?_)<;>intros)
theorem Ep {n:Nd} {ks:List Int} {own:AH} (h:K (.ret (.bool (DV n ks))) st):PC 281 [enc n,.slice 1 (ints ks) own] st K:=by
 refine pB Tryz.func281 ?_
 repeat' ((conv=>whnf);(first|refine Ba ?_|refine Bb ?_ ?_|refine Bc ?_ ?_|refine Pt ?_)<;>intros)
 all_goals conv=>whnf
 all_goals (refine Av h ?_;clear h;simp_all [DV])
theorem Th (U:AX enc 393 (λb=>[pv b d]) A):AX enc 361 (λb=>[pv b d]) (HB A):=by
 refine ⟨λ{st0 b s st rows K} hc h=>?_⟩
 simp only [HB,Rd.wp_seq,Rd.wp_ret] at h
 refine pB Tryz.func361 ?_
 repeat' ((conv=>whnf);(first|exact Dr|refine Ba ?_|(refine Ds ?_ ?_ ?_;rotate_left)|refine Bb ?_ ?_|refine Bc ?_ ?_|refine Kr ?_|refine JQ ?_ ?_|exact Gw|refine Tw ?_|refine Ad ?_|refine Gl.go (by first|exact AX.q) ?_ ?_|refine Af [(0,true),(1,true),(3,true),(2,false),(4,false),(5,true),(6,false),(7,false)] [1] GE ?_|with_reducible refine WF ?_)<;>intros)
theorem u9 (U:Cx st0 b s st rows) (h:∀st',Cx st0 b s st' rows->K (.ret (.bool (Lc (Ab s).1))) st'):PC 360 [pv b d] st K:=by
 refine pB Tryz.func360 ?_
 repeat' ((conv=>whnf);(first|refine Ba ?_|refine Bb ?_ ?_|refine Bc ?_ ?_|refine M8 ?_|exact Gw|refine Ad ?_)<;>intros)
 all_goals conv=>whnf
 all_goals (refine Av (h _ ‹_›) ?_;clear h;simp_all [Lc])
theorem Oi {n:Nd} (h:K (.ret (.bool (Ff n))) st):PC 320 [enc n] st K:=by
 refine pB Tryz.func320 ?_
 repeat' ((conv=>whnf);(first|refine Ba ?_|refine Bb ?_ ?_|refine Bc ?_ ?_|refine Ep (ks:=[2]) ?_|refine Ep (ks:=[6]) ?_)<;>intros)
 all_goals conv=>whnf
 all_goals (refine Av h ?_;clear h;simp_all [Ff])
theorem kF {t:Tk} (h:K (.ret (.bool (Oj t))) st):PC 190 [F1 t] st K:=by
 refine pB Tryz.func190 ?_
 repeat' ((conv=>whnf);(first|refine Ba ?_|refine Bb ?_ ?_|refine Bc ?_ ?_|refine Nf ?_|refine VL ?_)<;>intros)
 all_goals conv=>whnf
 all_goals (refine Av h ?_;clear h;simp_all [Oj])
theorem qJ (ha:AX enc 393 (λb=>[pv b d]) A):AX enc 359 (λb=>[pv b d]) (Ii A):=by
 refine ⟨λ{st0 b s st rows K} hc h=>?_⟩
 simp only [Ii,Rd.Ag,Rd.Ax] at h
 have U:=hc.mu
 refine pB Tryz.func359 ?_
 repeat' ((conv=>whnf);(first|refine Ba ?_|refine Bb ?_ ?_|refine Bc ?_ ?_|refine M8 ?_|refine TC ?_ ?_|exact Gw|refine Ad ?_|refine Gl.go (by first|exact AX.q|exact (Th ha).a|exact (Ij (ks:=[6]) rfl).a) ?_ ?_|refine Q5 (Cx.has ‹_›) ?_ ?_|refine uI ‹_› ‹_› Do ?_|refine GW ‹_› U ?_)<;>intros)
theorem qI:AX enc 323 (λb=>[pv b d]) M0:=by
 refine ⟨λ{st0 b s st rows K} hc h=>?_⟩
 simp only [M0,Rd.Ag,Rd.Ax,Rd.wp_seq,Rd.wp_ret,Rd.Fb] at h
 have hmu:=hc.mu
 refine A6 Ac [] Tryz.func323 rfl Do rfl ?_
 refine Al (An Ac ?_)
 repeat' ((conv=>whnf);(first|exact Dr|refine Ba ?_|(refine Ds ?_ ?_ ?_;rotate_left)|refine Bb ?_ ?_|refine Bc ?_ ?_|with_reducible refine WF ?_)<;>intros)
 refine Al (An Ac ?_)
 repeat' ((conv=>whnf);first|refine Gz h (λe h=>?_) (λe h=>?_)|exact Dr|(refine Ba ?_;intros)|(refine Ds ?_ ?_ ?_;rotate_left)|(refine Bb ?_ ?_<;>intro e h)|(refine Bc ?_ ?_<;>intro _)|(refine M8 ?_;intro U hc)|(refine Kr ?_;intro s1 U hz hm hc h)|(refine JQ ?_ ?_<;>(first|intro n s1 U hr hm hc h|intro e s1 U hc h))|refine CD ?_|exact Gw|refine Tw ?_|refine Ad (λe1=>?_)|with_reducible refine WF ?_)
 refine Al (An Ac ?_)
 repeat' ((conv=>whnf);first|exact Dr|(refine Ba ?_;intros)|(refine Ds ?_ ?_ ?_;rotate_left)|(refine Bb ?_ ?_<;>intro e h)|(refine Bc ?_ ?_<;>intro _)|(refine M8 ?_;intro U hc)|(refine Kr ?_;intro s1 U hz hm hc h)|(refine JQ ?_ ?_<;>(first|intro n s1 U hr hm hc h|intro e s1 U hc h))|refine CD ?_|exact Gw|refine Tw ?_|refine Ad (λe1=>?_)|refine Q5 hc.has ?_ (λt u o1 o2 e=>?_)|with_reducible refine WF ?_)
 all_goals refine Al (An Ac ?_)
 all_goals (repeat' ((conv=>whnf);first|exact Dr|(refine Ba ?_;intros)|(refine Ds ?_ ?_ ?_;rotate_left)|(refine Bb ?_ ?_<;>intro e h)|(refine Bc ?_ ?_<;>intro _)|(refine M8 ?_;intro U hc)|(refine Kr ?_;intro s1 U hz hm hc h)|(refine JQ ?_ ?_<;>(first|intro n s1 U hr hm hc h|intro e s1 U hc h))|refine CD ?_|exact Gw|refine Tw ?_|refine Ad (λe1=>?_)|with_reducible refine WF ?_))
 all_goals refine Al (gH Ac (BU _) (λ_ _ _ _ _ h k=>k.mono h) 10 5 [(0,true),(1,true),(2,true),(3,true),(5,true),(6,true),(4,false),(7,false),(8,true),(9,false)] [] rfl rfl rfl EQ EQ rfl rfl rfl (Nat.le_of_ble_eq_true rfl) rfl ?_)
 all_goals (repeat' ((conv=>whnf);first|exact Dr|(refine Ba ?_;intros)|(refine Ds ?_ ?_ ?_;rotate_left)|(refine Bb ?_ ?_<;>intro e h)|(refine Bc ?_ ?_<;>intro _)|(refine M8 ?_;intro U hc)|(refine Kr ?_;intro s1 U hz hm hc h)|(refine JQ ?_ ?_<;>(first|intro n s1 U hr hm hc h|intro e s1 U hc h))|refine CD ?_|exact Gw|refine Tw ?_|refine Ad (λe1=>?_)|refine AX.go (EB (ks:=[1,2,3,4]) rfl) hc h (λn s1 U hr hm hc h=>?_) (λe s1 U hc h=>?_)|fail|with_reducible refine WF ?_))
 all_goals refine An Ac ?_
 all_goals (repeat' ((conv=>whnf);first|refine Gz h (λe h=>?_) (λe h=>?_)|exact Dr|(refine Ba ?_;intros)|(refine Ds ?_ ?_ ?_;rotate_left)|(refine Bb ?_ ?_<;>intro e h)|(refine Bc ?_ ?_<;>intro _)|(refine M8 ?_;intro U hc)|(refine Kr ?_;intro s1 U hz hm hc h)|(refine JQ ?_ ?_<;>(first|intro n s1 U hr hm hc h|intro e s1 U hc h))|refine CD ?_|exact Gw|refine Tw ?_|refine Ad (λe1=>?_)|refine Wm (ks:=[_,_,_]) rfl AC ?_|refine GW hc hmu (λU hc=>?_)|refine CD ?_|fail|with_reducible refine WF ?_))
structure aM (f:FuncId) (mk:Nat->V->List V) (A:List Nd->Rd Nd):Prop where
 ap:∀{st0:St} {b:Nat} {s:Ae} {st:St} {rows:List (AH×List Nd)} {K:AB->St->Prop} {own:AH} {l:List Nd},l.length<=900000000->Cx st0 b s st ((own,l)::rows)->
 Rd.wp (A l) s (λv s'=>∀st',Cx st0 b s' st' rows->K (.ret (enc v)) st') (λe s'=>∀st',Cy st0 b s' st' rows->K (.Cd (fault e.1)) st')->PC f (mk b (.slice 6 (l.map AP) own)) st K
theorem aM.go {A:List Nd->Rd Nd} {s:Ae} {st:St} {Q:Nd->Ae->Prop} {E:Er->Ae->Prop} {own:AH} {l:List Nd} (hf:aM f mk A) (hl:l.length<=900000000) (U:Cx st0 b s st ((own,l)::rows)) (h:Rd.wp (A l) s Q E)
 (k:∀v s' st',(A l).run s=.inr (v,s')->mu s'<=mu s->Cx st0 b s' st' rows->Q v s'->K (.ret (enc v)) st') (kb:∀e s' st',Cy st0 b s' st' rows->E e s'->K (.Cd (fault e.1)) st'):PC f (mk b (.slice 6 (l.map AP) own)) st K:=
 hf.ap hl U (Rd.wp_mono h (λv s' r q st' c=>k v s' st' r ((A l).le _ _ _ r) c q) (λe s' _ q st' c=>kb e s' st' c q))
theorem P0 {k:Int} (hd:AX enc 324 (λb=>[pv b d]) FM):aM 279 (λb v=>[pv b d,.int .i64 k,v]) (G2 k):=by
 refine ⟨λ{st0 b s st rows K own l} hl U h=>?_⟩
 simp only [G2,Rd.Ag,Rd.Ax,Rd.wp_seq,Rd.wp_ret] at h
 have hmu:=U.mu
 refine pB Tryz.func279 ?_
 repeat' ((conv=>whnf);(first|refine Ba ?_|refine Bb ?_ ?_|refine Bc ?_ ?_|refine M8 ?_|refine TC ?_ ?_|exact Gw|refine Tw ?_|refine Qn ?_|refine Ad ?_|refine Gl.go (by first|exact AX.q) ?_ ?_)<;>intros)
theorem aq (hr:AX enc 273 (λb=>[pv b d]) R) (hw:AX enc 276 (λb=>[pv b d]) W) (hs:∀{n:Nd} {st:St} {K:AB->St->Prop},K (.ret (.bool (Dx n))) st->PC 275 [enc n] st K):
 AX enc 228 (λb=>[pv b d]) (He R W):=by
 refine ⟨λ{st0 b s st rows K} U h=>?_⟩
 simp only [He,Rd.wp_seq,Rd.wp_ret] at h
 have hmu:=U.mu
 refine pB Tryz.func228 ?_
 repeat' ((conv=>whnf);(first|exact Dr|refine Ba ?_|(refine Ds ?_ ?_ ?_;rotate_left)|refine Bb ?_ ?_|refine Bc ?_ ?_|refine Kr ?_|refine JQ ?_ ?_|exact Gw|refine Tw ?_|refine Qn ?_|refine Ad ?_|refine Gl.go (by first|exact AX.q|exact ‹_›.a) ?_ ?_|refine hs ?_|refine D1 ‹_› ‹_› ?_|refine D0 ‹_› ‹_› ?_|refine aW AC rfl ?_|refine Cx.Hp (l:=[_,_]) (Cx.push ‹_› _) (Nat.le_of_ble_eq_true rfl) ?_|refine Af [(0,true),(1,true),(3,true),(2,false),(4,false),(5,true),(6,true)] [] GE ?_|refine Af [(0,true),(1,true),(2,true),(3,true),(4,false),(5,false)] [] GE ?_|with_reducible refine WF ?_)<;>intros)
end
theorem Rd.iW {σ β:Type} {body:σ->Rd (Sum σ β)} {I:σ->Prop} {P:β->Prop} (h1:∀x s x' s',I x->(body x).run s=.inr (.inl x',s')->I x') (h2:∀x s y s',I x->(body x).run s=.inr (.inr y,s')->P y) (x:σ) (s:Ae) (hx:I x):∀y s',(Rd.loop body x).run s=.inr (y,s')->P y:=by
 show ∀y s',Rd.iter body x s=.inr (y,s')->P y
 fun_induction Rd.iter body x s with
 |case1 x s e h=>intro y s' U;cases U
 |case2 x s y s1 h=>intro y s' U;cases U;exact h2 _ _ _ _ hx h
 |case3 x s x' s1 h hlt ih=>exact ih (h1 _ _ _ _ hx h)
 |case4 x s x' s1 h hlt=>intro y s' U;cases U
theorem Zn {A:Rd Nd} {l:List Nd} {s s':Ae} (h:(Jd A).run s=.inr (l,s')):l≠[]:=by
 unfold Jd at h
 obtain ⟨n,s1,_,h⟩:=AU h
 refine Rd.iW (body:=W6 A) (I:=λl=>l≠[]) (P:=λl=>l≠[]) (λx s x' s' U h=>?_) (λx s y s' U h=>?_) [n] s1 GT l s' h
 all_goals replace h:(if Lc (Ab s).1=true then Rd.seq (Ii A) λn=>.ret (.inl (x++[n])) else .ret (.inr x):Rd (Sum (List Nd) (List Nd))).run s=.inr (_,s'):=h
 all_goals split at h
 .obtain ⟨n,s2,_,h⟩:=AU h;cases h;simp
 .cases h
 .obtain ⟨n,s2,_,h⟩:=AU h;cases h
 .cases h;exact U
theorem tc {s:Ae} {k:Int} (h:AZ s k x=true) (U:k≠21):(Ab s).1.kind≠21:=λe=>by
 unfold AZ at h
 rw [e] at h
 simp only [Bool.and_eq_true,beq_iff_eq] at h
 exact U h.1.symm
theorem bI {A:Rd Nd} (U:Rd.A4 A):Rd.A4 (Ii A):=Rd.A4.look λs v s' h=>by
 split at h
 .rename_i hi
  exact Rd.A4.at (λ_ _ e=>Ig e (tc hi Do)) h
 split at h
 .split at h
  .exact Rd.A4.seq (ME Do) s v s' h
  .exact U _ _ _ h
 .exact U _ _ _ h
theorem vQ {l:List Nd} (h:l≠[]):∃x,l[((0:Int)).toNat]? =some x/\l.headD Gj=x:=by
 cases l with
 |nil=>exact absurd rfl h
 |cons x r=>exact ⟨x,rfl,rfl⟩
section
variable {st0 st:St} {b d:Nat} {s:Ae} {rows:List (AH×List Nd)} {K:AB->St->Prop} {A B R W F D E:Rd Nd}
attribute [local irreducible] Go.Aw.Am
abbrev pF (l:List Nd) (own:AH):V:=.slice 6 (l.map AP) own
theorem UY (hA:Rd.A4 A) (hp:AX enc 359 (λb=>[pv b d]) (Ii A)):rl pF (λl=>l) 319 (λb=>[pv b d]) (Jd A):=by
 refine ⟨λ{st0 b s st rows K} U h=>?_⟩
 simp only [Jd,Rd.wp_seq] at h
 have hmu:=U.mu
 refine pB Tryz.func319 ?_
 repeat' ((conv=>whnf);(first|refine Ba ?_|refine Bb ?_ ?_|refine Bc ?_ ?_|refine XO ?_ ?_|exact Gw|refine Qn ?_|refine Ad ?_|refine Gl.go (by first|exact AX.q) ?_ ?_)<;>intros)
 refine CS (λl own=>[(3,.slice 6 (l.map AP) own)]) (λ_ _=>[]) [1] [0] (λl own=>(own,l)::rows) (λl=>l.length) .full (Cx.push ‹_› _) ‹_› (by show 1+_<=_;omega) Yl ?_
 intro l s1 st1 own1 U h hl hm1
 simp only [W6,Rd.Ag,Rd.Ax,Rd.wp_seq,Rd.wp_ret,Rd.BJ] at h
 repeat' ((conv=>whnf);(first|refine Ba ?_|refine Bb ?_ ?_|refine Bc ?_ ?_|refine XO ?_ ?_|exact Gw|refine Qn ?_|refine Ad ?_|refine u9 ‹_› ?_|refine AX.vP (hp) (bI hA) ‹_› ‹_› ?_ ?_)<;>intros)
theorem JJ {item:Rd Nd} {g:FuncId} {fs:List V} {own:AH} {l:List Nd} {Q:List Nd->Ae->Prop} {E:Er->Ae->Prop} (hi:yP st0 b g (fs++cs) item) (hl:l.length<=90000000) (hc:Cx st0 b s st ((own,l)::rows)) (h:Rd.wp (DW item x l) s Q E)
 (k:∀l' U s' st',mu s'<=mu s->Cx st0 b s' st' ((U,l')::rows)->Q l' s'->K (.ret (.slice 6 (l'.map AP) U)) st') (kb:∀e s' st',Cy st0 b s' st' rows->E e s'->K (.Cd (fault e.1)) st'):
 PC 285 [pv b d,.slice 6 (l.map AP) own,.str x,.func g fs cs] st K:=by
 replace h:=Rd.wp_mono (Q':=λl' s'=>∀U st',Cx st0 b s' st' ((U,l')::rows)->K (.ret (.slice 6 (l'.map AP) U)) st') (E':=λe s'=>∀st',Cy st0 b s' st' rows->K (.Cd (fault e.1)) st') h (λv s' r q own st' c=>k v own s' st' ((DW item x l).le _ _ _ r) c q) (λe s' _ q st' c=>kb e s' st' c q)
 clear k kb
 simp only [DW,Rd.wp_seq,Rd.wp_ret] at h
 have hmu:=hc.mu
 refine pB Tryz.func285 ?_
 repeat' ((conv=>whnf);(first|refine Ba ?_|refine Bb ?_ ?_|refine Bc ?_ ?_|refine XO ?_ ?_|fail)<;>intros)
 refine CS (x0:=(true,l)) (λ(p:Bool×List Nd) own=>[(9,.bool p.1),(1,.slice 6 (p.2.map AP) own)]) (λ_ _=>[]) [2,3,4] [0] (λp own=>(own,p.2)::rows) (λp=>p.2.length) own ‹_› ‹_› UV Yl ?_
 intro p s1 st1 own1 hc h hl hm1
 obtain ⟨f,l⟩:=p
 dsimp only at hc hl
 simp only [Vs,Rd.Ag,Rd.Ax,Rd.wp_seq,Rd.wp_ret,Rd.BJ] at h
 cases f
 all_goals simp only [Bool.false_eq_true,if_false,if_true] at h
 all_goals (repeat' ((conv=>whnf);first|(refine Ba ?_;intros)|(refine Bb ?_ ?_<;>intro e h)|(refine Bc ?_ ?_<;>intro _)|refine XO (λ_=>?_) ?_|exact ⟨⟨(false,_),_,_,_⟩,⟨hc,Rd.Fk h cb,f8,cb⟩,cb,Yl,St.le_refl _⟩|(refine M8 ?_;intro st1 hc)|(refine TC ?_ ?_<;>intro st1 hc e h)|(refine Kr ?_;intro s1 st1 hz hm hc h)|(refine JQ ?_ ?_<;>(first|intro n s1 st1 hr hm hc h|intro e s1 st1 hc h))|exact Gw|(refine Qn ?_;intro own1 st1 hc)|refine Ad (λe1=>?_)|refine NB ?_|refine yP.go hi hc h (λn s1 st1 hm hc h=>?_) (λe s1 st1 hc h=>?_)))
end
theorem gW {A W:Rd Nd} {n:Nd} {s s':Ae} (h:(GU A W).run s=.inr (n,s')):n.kids≠[]:=by
 have hB:∀{l:List Nd} {s:Ae},l≠[]->(Hr A l).run s=.inr (n,s')->n.kids≠[]:=λ{l s} hl h=>by
  have hC:(GS A l).run s=.inr (n,s')->n.kids≠[]:=λh=>by
   obtain ⟨a,s1,_,h⟩:=AU h
   obtain ⟨o,s2,_,h⟩:=AU h
   obtain ⟨r,s3,_,h⟩:=AU h
   obtain ⟨c,s4,_,h⟩:=AU h
   cases h;simp [As,Nd.kids]
  replace h:(if ((Ab s).1.kind==6)=true then GS A l else if AZ s 15 [96]=true then GS A l else .seq (Gs (Ff (l.headD Gj))) λ_=>.ret (As 48 l):Rd Nd).run s=.inr (n,s'):=h
  split at h
  .exact hC h
  .split at h
   .exact hC h
   .obtain ⟨a,s1,_,h⟩:=AU h
    cases h;exact hl
 obtain ⟨l,s1,h1,h⟩:=AU h
 have hl:=Zn h1
 split at h
 .replace h:(if AZ s1 15 [123]=true then Rd.seq Az λo=>.seq (DW (IJ A W) [125] (l++[o])) λl=>.ret (As 48 l) else Hr A l:Rd Nd).run s1=.inr (n,s'):=h
  split at h
  .obtain ⟨o,s2,_,h⟩:=AU h
   obtain ⟨l2,s3,U,h⟩:=AU h
   obtain ⟨l3,s4,_,U⟩:=AU U
   obtain ⟨c,s5,_,U⟩:=AU U
   cases U;cases h
   simp [As,Nd.kids]
  .exact hB hl h
 .exact hB hl h
section
variable {st0 st:St} {b d c:Nat} {s:Ae} {rows:List (AH×List Nd)} {K:AB->St->Prop} {A B R W F D E:Rd Nd}
attribute [local irreducible] Go.Aw.Am
theorem kx (hs:AX enc 361 (λb=>[pv b d]) (HB A)) (hw:AX enc 276 (λb=>[pv b d]) W):AX enc 321 (λb=>[pv b d]) (IJ A W):=by
 refine ⟨λ{st0 b s st rows K} U h=>?_⟩
 simp only [IJ,Rd.Ag,Rd.Ax,Rd.wp_seq,Rd.wp_ret] at h
 have hmu:=U.mu
 refine pB Tryz.func321 ?_
 repeat' ((conv=>whnf);(first|refine Ba ?_|refine Bb ?_ ?_|refine Bc ?_ ?_|refine M8 ?_|refine TC ?_ ?_|refine Kr ?_|refine JQ ?_ ?_|exact Gw|refine Tw ?_|refine Qn ?_|refine Ad ?_|refine Gl.go (by first|exact AX.q|exact Pf.a) ?_ ?_)<;>intros)
 refine CS (λl own=>[(3,.slice 6 (l.map AP) own)]) (λ_ _=>[]) [1,2] [0,1] (λl own=>(own,l)::rows) (λl=>l.length) .full (Cx.push ‹_› _) ‹_› (by show 1+_<=_;omega) Yl ?_
 intro l s1 st1 own1 U h hl hm1
 simp only [bN,Rd.Ag,Rd.Ax,Rd.wp_seq,Rd.wp_ret,Rd.BJ] at h
 repeat' ((conv=>whnf);(first|refine Ba ?_|refine Bb ?_ ?_|refine Bc ?_ ?_|refine M8 ?_|refine TC ?_ ?_|refine Kr ?_|refine JQ ?_ ?_|exact Gw|refine Tw ?_|refine Qn ?_|refine Ad ?_|refine Gl.go (by first|exact AX.q|exact Pf.a) ?_ ?_)<;>intros)
abbrev zE (b d:Nat):V:=.G3 [.ptr b 0,.int .i64 (d:Int)] 0
theorem Nl:AX enc 363 (λb=>[zE b d]) (CX [2,4]):=by
 refine ⟨λ{st0 b s st rows K} U h=>?_⟩
 refine pB Tryz.func363 ?_
 repeat' ((conv=>whnf);(first|refine Ba ?_|refine Bb ?_ ?_|refine Bc ?_ ?_|exact Gw|refine Ad ?_|refine Gl.go (by first|exact AX.q|exact (EB (ks:=[2,4]) rfl).a) ?_ ?_)<;>intros)
theorem Og:AX enc 324 (λb=>[pv b d]) FM:=by
 refine ⟨λ{st0 b s st rows K} U h=>?_⟩
 simp only [FM,Rd.Ag,Rd.Ax,Rd.wp_seq,Rd.wp_ret] at h
 have hmu:=U.mu
 refine A6 Ac [] Tryz.func324 rfl Do rfl ?_
 refine Al (An Ac ?_)
 repeat' ((conv=>whnf);(first|exact Dr|refine Ba ?_|(refine Ds ?_ ?_ ?_;rotate_left)|refine Bb ?_ ?_|refine Bc ?_ ?_|with_reducible refine WF ?_)<;>intros)
 refine Al (An Ac ?_)
 repeat' ((conv=>whnf);first|exact Dr|(refine Ba ?_;intros)|(refine Ds ?_ ?_ ?_;rotate_left)|(refine Bb ?_ ?_<;>intro e h)|(refine Bc ?_ ?_<;>intro _)|refine HE.go U h (λo s1 st1 hr hm U h=>?_) (λe s1 st1 U h=>?_)|exact B5 U h|with_reducible refine WF ?_)
 refine Qm 1 0 rfl rfl rfl ?_
 refine An Ac ?_
 repeat' ((conv=>whnf);(first|exact Dr|refine Ba ?_|(refine Ds ?_ ?_ ?_;rotate_left)|refine Bb ?_ ?_|refine Bc ?_ ?_|refine M8 ?_|refine TC ?_ ?_|refine Kr ?_|refine JQ ?_ ?_|exact Gw|refine Tw ?_|refine Qn ?_|refine Ad ?_|refine Gl.go (by first|exact AX.q|exact Nl.a) ?_ ?_|refine NB ?_|refine JJ (l:=[_,_]) (fs:=[]) (cs:=[zE b d]) Nl.z (Nat.le_of_ble_eq_true rfl) ‹_› ‹_› ?_ ?_|refine Cx.Hp (l:=[_]) (Cx.push ‹_› [_]) (Nat.le_of_ble_eq_true rfl) ?_|refine Af [(0,true),(1,true),(2,true),(3,true),(7,true),(4,false),(5,true),(6,false),(8,false),(9,false),(10,false)] [1] GE ?_|with_reducible refine WF ?_)<;>intros)
theorem yz {l:List Nd} {own:AH} (U:∀x ∈ l,Dk f p x) (h:K (.ret (.bool (l.any p))) st):PC 327 [.slice 6 (l.map AP) own,.func f [] []] st K:=
 OW (args':=[.slice 6 (CR l) .any,.func f [] []]) (by rw [<-B9];rfl) (Ks U h)
theorem uH {x:Nd}:Dk 362 DZ x:=by
 intro st R h
 refine pB Tryz.func362 ?_
 repeat' ((conv=>whnf);(first|refine Ba ?_|refine Bb ?_ ?_|refine Bc ?_ ?_|fail)<;>intros)
 all_goals conv=>whnf
 all_goals (refine Av h ?_;clear h;simp_all [DZ])
theorem vj {l:List Nd} {own:AH} {Q:Nd->Ae->Prop} {E:Er->Ae->Prop} (hc:Cx st0 b s st ((own,l)::rows)) (h:Rd.wp (PT l) s Q E)
 (k:∀v st',Cx st0 b s st' rows->Q v s->K (.ret (enc v)) st') (kb:∀e st',Cy st0 b s st' rows->E e s->K (.Cd (fault e.1)) st'):PC 322 [pv b d,.slice 6 (l.map AP) own] st K:=by
 refine pB Tryz.func322 ?_
 unfold PT at h
 by_cases U:l.length=1
 .have hn:(l.length:Int)=1:=AC
  obtain ⟨x,rfl⟩:=List.length_eq_one_iff.1 U
  rw [if_pos U,Rd.wp_ret] at h
  have h:=k _ st hc.drop h
  repeat' ((conv=>whnf);(first|exact Dr|refine Ba ?_|(refine Ds ?_ ?_ ?_;rotate_left)|refine Bb ?_ ?_|refine Bc ?_ ?_|refine Ci (l:=[x]) ?_|refine aW AC rfl ?_|with_reducible refine WF ?_)<;>intros)
  all_goals exact BR rfl h
 .have hn:¬(l.length:Int)=1:=AC
  rw [if_neg U,Rd.wp_seq] at h
  simp only [Rd.wp_ret] at h
  repeat' ((conv=>whnf);first|exact Dr|(refine Ba ?_;intros)|(refine Ds ?_ ?_ ?_;rotate_left)|(refine Bb ?_ ?_<;>intro e h)|(refine Bc ?_ ?_<;>intro _)|refine Ci (l:=l) (λ_=>?_)|refine yz (l:=l) (λx hx=>uH) ?_|refine D1 h (by simp only [show l.any DZ=false by assumption,Bool.not_false]) (λh=>?_)|refine D0 h (by simp only [show l.any DZ=true by assumption,Bool.not_true]) (λh=>?_)|refine L1 (l:=l) ?_|exact BR rfl (k _ _ hc.drop h)|exact λe'=>⟨_,_,.inl rfl,St.le_refl _,kb _ _ hc.drop.y h⟩|refine Af [(0,true),(1,true),(2,false),(3,true),(4,false)] [] GE ?_|with_reducible refine WF ?_)
theorem dv (hA:Rd.A4 A) (hp:AX enc 359 (λb=>[pv b d]) (Ii A)) (hf:AX enc 321 (λb=>[pv b d]) (IJ A W)):AX enc 278 (λb=>[pv b d]) (GU A W):=by
 refine ⟨λ{st0 b s st rows K} hc h=>?_⟩
 have hmu:=hc.mu
 simp only [GU,Hr,GS,Rd.Ag,Rd.Ax,Rd.wp_seq,Rd.wp_ret] at h
 refine A6 Ac [] Tryz.func278 rfl Do rfl ?_
 refine Al (An Ac ?_)
 repeat' ((conv=>whnf);(first|exact Dr|refine Ba ?_|(refine Ds ?_ ?_ ?_;rotate_left)|refine Bb ?_ ?_|refine Bc ?_ ?_|with_reducible refine WF ?_)<;>intros)
 refine Al (An Ac ?_)
 repeat' ((conv=>whnf);first|exact Dr|(refine Ba ?_;intros)|(refine Ds ?_ ?_ ?_;rotate_left)|(refine Bb ?_ ?_<;>intro e h)|(refine Bc ?_ ?_<;>intro _)|refine rl.go (UY hA hp) hc h (λl own1 s1 st1 hr hm hc h=>?_) (λe s1 st1 hc h=>?_)|exact B5 hc h|with_reducible refine WF ?_)
 obtain ⟨x,hx,hd⟩:=vQ (Zn hr)
 rw [hd] at h
 refine An Ac ?_
 have e2:(l.length==1)=true↔(l.length:Int)=1:=by rw [beq_iff_eq];omega
 have hB:((l.length:Int)=1/\Ff x=true/\AZ s1 15 [123]=true)\/((l.length:Int)=1/\Ff x=true/\AZ s1 15 [123]=false)\/((l.length:Int)=1/\Ff x=false)\/¬((l.length:Int)=1):=by
  by_cases e:(l.length:Int)=1
  .cases Ff x<;>cases AZ s1 15 [123]<;>simp [e]
  .simp [e]
 have e3:¬((l.length:Int)=1)->(l.length==1)=false:=λe=>by
  cases e4:l.length==1 with
  |true=>exact absurd (e2.1 e4) e
  |false=>rfl
 rcases hB with ⟨U,em,eb⟩|hB
 .simp only [e2.2 U,em,eb,Bool.and_self,if_true] at h
  repeat' ((conv=>whnf);(first|exact Dr|refine Ba ?_|(refine Ds ?_ ?_ ?_;rotate_left)|refine Bb ?_ ?_|refine Bc ?_ ?_|refine M8 ?_|refine TC ?_ ?_|refine Kr ?_|refine JQ ?_ ?_|exact Gw|refine Tw ?_|refine Qn ?_|refine Ci ?_|refine Ad ?_|refine Ci (l:=l) ?_|refine Yc (es:=l.map AP) (x:=AP x) (by rw [List.getElem?_map,hx]<;>rfl) AC ?_|refine Oi ?_|refine JJ (l:=l++[_]) (fs:=[pv b d]) (cs:=[]) hf.z So ‹_› ‹_› ?_ ?_|refine Af [(0,true),(1,true),(2,true),(3,true),(7,true),(8,true),(4,false),(5,true),(6,false),(9,false),(10,false),(11,false)] [1] GE ?_|refine Af [(0,true),(1,true),(2,true),(3,true),(4,false),(5,false)] [] GE ?_|refine Af [(0,true),(1,true),(2,true),(3,true),(4,false),(5,false),(6,true),(7,false),(8,false)] [1] GE ?_|with_reducible refine WF ?_)<;>intros)
 cases e6:((Ab s1).1.kind==6)
 all_goals cases e9:AZ s1 15 [96]
 all_goals (simp only [e6,e9,if_true,Bool.false_eq_true,if_false] at h)
 all_goals rcases hB with ⟨U,em,eb⟩|⟨U,em⟩|U
 all_goals first
  |simp only [e2.2 U,em,eb,Bool.and_self,Bool.true_and,Bool.false_eq_true,if_true,if_false] at h
  |simp only [e2.2 U,em,Bool.true_and,Bool.false_eq_true,if_false] at h
  |simp only [e3 U,Bool.false_and,Bool.false_eq_true,if_false] at h
 all_goals (repeat' ((conv=>whnf);(first|exact Dr|refine Ba ?_|(refine Ds ?_ ?_ ?_;rotate_left)|refine Bb ?_ ?_|refine Bc ?_ ?_|refine M8 ?_|refine TC ?_ ?_|refine Kr ?_|refine JQ ?_ ?_|exact Gw|refine Tw ?_|refine Qn ?_|refine Ci ?_|refine Ad ?_|refine Ci (l:=l) ?_|refine Yc (es:=l.map AP) (x:=AP x) (by rw [List.getElem?_map,hx]<;>rfl) AC ?_|refine Oi ?_|refine vj ‹_› ‹_› ?_ ?_|refine Gl.go (by first|exact AX.q|exact qI.a) ?_ ?_|refine rl.go (UY hA hp) ‹_› ‹_› ?_ ?_|refine D1 ‹_› ‹_› ?_|refine D0 ‹_› ‹_› ?_|refine D1 ‹_› rfl ?_|refine D0 ‹_› rfl ?_|refine Af [(0,true),(1,true),(2,true),(3,true),(7,true),(8,true),(4,false),(5,true),(6,false),(9,false),(10,false),(11,false)] [1] GE ?_|refine Af [(0,true),(1,true),(2,true),(3,true),(4,false),(5,false)] [] GE ?_|refine Af [(0,true),(1,true),(2,true),(3,true),(4,false),(5,false),(6,true),(7,false),(8,false)] [1] GE ?_|with_reducible refine WF ?_)<;>intros))
end
def SJ (n:Nd):Nat->Bool
 |0=>Dx n
 |k+1=>(n.kids.drop (k+1)).all (DV · [1])
theorem Xj {n:Nd}:SJ n (k+1)=(n.kids.drop (k+1)).all (DV · [1]):=rfl
theorem F2 {l:List Nd} {x:Nd} {K:Int->Prop} (h:l.length<=90000000) (k:K (((l++[x]).length:Int) - 1)):∃r,r=IntKind.i64.wrap (((l++[x]).length:Int) - 1)/\K r:=
 Wq (by rw [List.length_append];show _<=((l.length+1:Nat):Int) - 1;omega) (by rw [List.length_append];show ((l.length+1:Nat):Int) - 1<=_;omega) k
theorem sY {R:Rd Nd} {n:Nd} {p:List Nd×Nd} {s s':Ae} (h:(Ix R [n]).run s=.inr (p,s')):p.1.length<=90000000:=Nat.le_trans (Jp h) (Nat.le_of_ble_eq_true rfl)
theorem mY {R:Rd Nd} {n:Nd} {p:List Nd×Nd} {s s':Ae} {x y z:Nd} (h:(Ix R [n]).run s=.inr (p,s')):(p.1++[x]++[y]++[z]).length<=900000000:=by
 have U:p.1.length<=3:=Jp h
 rw [List.length_append,List.length_append,List.length_append]
 show p.1.length+1+1+1<=_
 omega
theorem X7 {l:List Nd} {x:Nd} (h:l[k]? =some x):l.drop k=x::l.drop (k+1):=by
 obtain ⟨U,h2⟩:=List.getElem?_eq_some_iff.1 h
 rw [<-h2,List.drop_eq_getElem_cons U]
section
variable {st0 st:St} {b d c:Nat} {s:Ae} {rows:List (AH×List Nd)} {K:AB->St->Prop} {A B R W F D E:Rd Nd}
attribute [local irreducible] Go.Aw.Am
theorem Pc {n:Nd} {st:St} (h:K (.ret (.bool (Dx n))) st):PC 275 [enc n] st K:=by
 refine pB Tryz.func275 ?_
 by_cases hk:n.kind=39
 .skip
  repeat' ((conv=>whnf);(first|refine Ba ?_|refine Bb ?_ ?_|refine Bc ?_ ?_|fail)<;>intros)
  refine KX 14 [12,13] n.kids.length (λk=>k<=n.kids.length/\Dx n=SJ n k) ⟨Nat.zero_le _,rfl⟩ Yl ?_
  rintro k ⟨hk1,hi⟩
  by_cases hlt:k<n.kids.length
  .obtain ⟨x,hx⟩:∃x,n.kids[(k:Int).toNat]? =some x:=⟨_,List.getElem?_eq_getElem hlt⟩
   have hdr:=X7 (show n.kids[k]? =some x from hx)
   by_cases h0:k=0
   .subst h0
    have hz:((0:Nat):Int)=0:=rfl
    have e:Dx n=(DV x [2]&&SJ n 1):=by
     unfold Dx SJ
     rw [hk,beq_self_eq_true,if_pos rfl]
     cases hkk:n.kids with
     |nil=>rw [hkk] at hx;cases hx
     |cons y r=>rw [hkk] at hx;cases hx;simp
    cases hb:DV x [2] with
    |true=>
     have U:∀{st:St} {K:AB->St->Prop} {own:AH},K (.ret (.bool true)) st->PC 281 [enc x,.slice 1 [[.int .i64 2]] own] st K:=λh=>Ep (ks:=[2]) (by rw [hb];exact h)
     repeat' ((conv=>whnf);first|(refine Ba ?_;intros)|(refine Bb ?_ ?_<;>intro e h)|(refine Bc ?_ ?_<;>intro _)|refine U ?_)
     all_goals conv=>whnf
     all_goals exact ⟨1,⟨hlt,by rw [e,hb,Bool.true_and]⟩,Nat.sub_lt_sub_left hlt (Nat.lt_succ_self 0),Yl,St.le_refl _⟩
    |false=>
     have U:∀{st:St} {K:AB->St->Prop} {own:AH},K (.ret (.bool false)) st->PC 281 [enc x,.slice 1 [[.int .i64 2]] own] st K:=λh=>Ep (ks:=[2]) (by rw [hb];exact h)
     rw [e,hb,Bool.false_and] at h
     repeat' ((conv=>whnf);first|(refine Ba ?_;intros)|(refine Bb ?_ ?_<;>intro e h)|(refine Bc ?_ ?_<;>intro _)|refine U ?_)
     all_goals exact BR rfl h
   .have e:SJ n k=(DV x [1]&&SJ n (k+1)):=by
     obtain ⟨j,rfl⟩:∃j,k=j+1:=⟨k - 1,AC⟩
     rw [Xj,Xj,hdr,List.all_cons]
    have hpos:(k:Int)>0:=AC
    cases hb:DV x [1] with
    |true=>
     have U:∀{st:St} {K:AB->St->Prop} {own:AH},K (.ret (.bool true)) st->PC 281 [enc x,.slice 1 [[.int .i64 1]] own] st K:=λh=>Ep (ks:=[1]) (by rw [hb];exact h)
     repeat' ((conv=>whnf);first|(refine Ba ?_;intros)|(refine Bb ?_ ?_<;>intro e h)|(refine Bc ?_ ?_<;>intro _)|refine U ?_)
     all_goals conv=>whnf
     all_goals exact ⟨k+1,⟨hlt,by rw [hi,e,hb,Bool.true_and]⟩,Nat.sub_lt_sub_left hlt (Nat.lt_succ_self k),Yl,St.le_refl _⟩
    |false=>
     have U:∀{st:St} {K:AB->St->Prop} {own:AH},K (.ret (.bool false)) st->PC 281 [enc x,.slice 1 [[.int .i64 1]] own] st K:=λh=>Ep (ks:=[1]) (by rw [hb];exact h)
     rw [hi,e,hb,Bool.false_and] at h
     repeat' ((conv=>whnf);first|(refine Ba ?_;intros)|(refine Bb ?_ ?_<;>intro e h)|(refine Bc ?_ ?_<;>intro _)|refine U ?_)
     all_goals exact BR rfl h
  .have hk2:k=n.kids.length:=AC
   have h1:Dx n=true:=by
    rw [hi]
    cases k with
    |zero=>
     have h2:n.kids=[]:=List.length_eq_zero_iff.1 hk2.symm
     unfold SJ Dx
     rw [hk,h2];rfl
    |succ k=>rw [Xj,List.drop_eq_nil_of_le AC];rfl
   rw [h1] at h
   repeat' ((conv=>whnf);first|(refine Ba ?_;intros)|(refine Bb ?_ ?_<;>intro e h)|(refine Bc ?_ ?_<;>intro _)|fail)
   all_goals exact BR rfl h
 .have e:Dx n=DV n [2]:=by
   unfold Dx
   rw [if_neg (by rw [beq_iff_eq];exact hk)]
  rw [e] at h
  repeat' ((conv=>whnf);first|(refine Ba ?_;intros)|(refine Bb ?_ ?_<;>intro e h)|(refine Bc ?_ ?_<;>intro _)|refine Ep (ks:=[2]) ?_)
  all_goals conv=>whnf
  all_goals (refine Av h ?_;clear h;simp_all)
theorem qu (hc1:AX enc 278 (λb=>[pv b d]) (GU A W)) (hr1:AX enc 273 (λb=>[pv b d]) R):AX enc 229 (λb=>[pv b d]) (Pu A R W):=by
 refine ⟨λ{st0 b s st rows K} hc h=>?_⟩
 simp only [Pu,Rd.wp_seq] at h
 have hmu:=hc.mu
 refine pB Tryz.func229 ?_
 repeat' ((conv=>whnf);first|exact Dr|(refine Ba ?_;intros)|(refine Ds ?_ ?_ ?_;rotate_left)|(refine Bb ?_ ?_<;>intro e h)|(refine Bc ?_ ?_<;>intro _)|(refine M8 ?_;intro U hc)|(refine TC ?_ ?_<;>intro U hc e h)|(refine Kr ?_;intro s1 U hz hm hc h)|(refine JQ ?_ ?_<;>(first|intro n s1 U hr hm hc h|intro e s1 U hc h))|exact Gw|(refine Qn ?_;intro own1 U hc)|refine Ci (λ_=>?_)|refine Ad (λe1=>?_)|refine wE.go (l:=[_]) (Oh hr1) (Nat.le_of_ble_eq_true rfl) (hc.push _) h (λl x own1 s1 U hh hm hc h=>?_) (λe s1 U hc h=>?_)|refine EF ?_|refine F2 (sY hh) ?_|refine Pc ?_|refine D1 h ‹_› (λh=>?_)|refine D0 h ‹_› (λh=>?_)|refine Af [(0,true),(1,true),(2,true),(3,false),(4,true),(5,false),(6,true)] [] GE ?_|refine Af [(0,true),(1,true),(2,true),(3,true),(4,true),(5,true),(6,true),(7,false),(8,false)] [] GE ?_|with_reducible refine WF ?_)
 have hl2:l.length<=3:=Jp hh
 refine CS (x0:=([61],l++[x])) (λ(p:List UInt8×List Nd) own=>[(4,.str p.1),(3,.slice 6 (p.2.map AP) own)]) (λ_ _=>[]) [1,2] [0,1] (λp own=>(own,p.2)::rows) (λp=>p.2.length) _ ‹_› ‹_› (by dsimp only;simp only [List.length_append,List.length_cons,List.length_nil];omega) Yl ?_
 intro p s1 U own1 hc h hl hm1
 obtain ⟨x,l⟩:=p
 dsimp only at hc hl
 simp only [l5,Rd.Ag,Rd.Ax,Rd.wp_seq,Rd.wp_ret,Rd.BJ] at h
 repeat' ((conv=>whnf);first|exact Dr|(refine Ba ?_;intros)|(refine Ds ?_ ?_ ?_;rotate_left)|(refine Bb ?_ ?_<;>intro e h)|(refine Bc ?_ ?_<;>intro _)|exact ⟨⟨(_,_),_,_,_⟩,⟨hc,Rd.Fk h cb,f8,cb⟩,cb,Yl,St.le_refl _⟩|(refine M8 ?_;intro U hc)|(refine TC ?_ ?_<;>intro U hc e h)|(refine Kr ?_;intro s1 U hz hm hc h)|(refine JQ ?_ ?_<;>(first|intro n s1 U hr hm hc h|intro e s1 U hc h))|exact Gw|(refine Qn ?_;intro own1 U hc)|refine Ci (λ_=>?_)|refine Ad (λe1=>?_)|refine AX.go hc1 hc h (λn s1 U hr hm hc h=>?_) (λe s1 U hc h=>?_)|refine aM.go (l:=l) (P0 Og) AC hc h (λn s1 U hr hm hc h=>?_) (λe s1 U hc h=>?_)|with_reducible refine WF ?_)
theorem xm {n:Nd} (h:n.kids≠[]):∃x,n.kids[((0:Int)).toNat]? =some x/\n.kids.headD Gj=x:=vQ h
theorem kz {n:Nd} {st:St} (hn:n.kids≠[]) (h:K (.ret (.bool (ID n))) st):PC 280 [enc n] st K:=by
 refine pB Tryz.func280 ?_
 obtain ⟨x,hx,hd⟩:=xm hn
 unfold ID at h
 rw [hd] at h
 cases hm:Ff x with
 |false=>
  rw [hm,if_neg Do] at h
  have U:∀{st:St} {K:AB->St->Prop},K (.ret (.bool false)) st->PC 320 [enc x] st K:=λh=>Oi (by rw [hm];exact h)
  repeat' ((conv=>whnf);first|(refine Ba ?_;intros)|(refine Bb ?_ ?_<;>intro e h)|(refine Bc ?_ ?_<;>intro _)|refine U ?_)
  all_goals exact BR rfl h
 |true=>
  rw [hm,if_pos rfl] at h
  have U:∀{st:St} {K:AB->St->Prop},K (.ret (.bool true)) st->PC 320 [enc x] st K:=λh=>Oi (by rw [hm];exact h)
  by_cases h2:n.kids.length=2
  .obtain ⟨y,hy⟩:∃y,n.kids[((1:Int)).toNat]? =some y:=⟨_,List.getElem?_eq_getElem (show 1<n.kids.length by omega)⟩
   have hy2:n.kids[1]? =some y:=hy
   rw [if_pos h2,hy2] at h
   repeat' ((conv=>whnf);first|(refine Ba ?_;intros)|(refine Bb ?_ ?_<;>intro e h)|(refine Bc ?_ ?_<;>intro _)|refine U ?_)
   all_goals conv=>whnf
   all_goals (refine Av h ?_;clear h;simp_all [DZ])
  .by_cases h4:n.kids.length=4
   .obtain ⟨y,hy⟩:∃y,n.kids[((2:Int)).toNat]? =some y:=⟨_,List.getElem?_eq_getElem (show 2<n.kids.length by omega)⟩
    have hy2:n.kids[2]? =some y:=hy
    rw [if_neg h2,hy2] at h
    by_cases hk:y.kind=13
    .by_cases h3:y.kids.length=3
     .obtain ⟨z,hz⟩:∃z,y.kids[((2:Int)).toNat]? =some z:=⟨_,List.getElem?_eq_getElem (show 2<y.kids.length by omega)⟩
      have hz2:y.kids[2]? =some z:=hz
      repeat' ((conv=>whnf);first|(refine Ba ?_;intros)|(refine Bb ?_ ?_<;>intro e h)|(refine Bc ?_ ?_<;>intro _)|refine U ?_)
      all_goals conv=>whnf
      all_goals (refine Av h ?_;clear h;simp_all [DZ])
     .skip
      repeat' ((conv=>whnf);first|(refine Ba ?_;intros)|(refine Bb ?_ ?_<;>intro e h)|(refine Bc ?_ ?_<;>intro _)|refine U ?_)
      all_goals conv=>whnf
      all_goals (refine Av h ?_;clear h;simp_all [DZ])
    .skip
     repeat' ((conv=>whnf);first|(refine Ba ?_;intros)|(refine Bb ?_ ?_<;>intro e h)|(refine Bc ?_ ?_<;>intro _)|refine U ?_)
     all_goals conv=>whnf
     all_goals (refine Av h ?_;clear h;simp_all [DZ])
   .rw [if_neg h2,if_neg (λe=>h4 e.1)] at h
    repeat' ((conv=>whnf);first|(refine Ba ?_;intros)|(refine Bb ?_ ?_<;>intro e h)|(refine Bc ?_ ?_<;>intro _)|refine U ?_)
    all_goals exact BR rfl h
theorem ab (hc1:AX enc 278 (λb=>[pv b d]) (GU A W)) (hr1:AX enc 273 (λb=>[pv b d]) R):AX enc 230 (λb=>[pv b d]) (Ha A R W):=by
 refine ⟨λ{st0 b s st rows K} hc h=>?_⟩
 simp only [Ha,Rd.wp_seq] at h
 have hmu:=hc.mu
 refine A6 Ac [] Tryz.func230 rfl Do rfl ?_
 refine Al (An Ac ?_)
 repeat' ((conv=>whnf);(first|exact Dr|refine Ba ?_|(refine Ds ?_ ?_ ?_;rotate_left)|refine Bb ?_ ?_|refine Bc ?_ ?_|with_reducible refine WF ?_)<;>intros)
 refine Al (An Ac ?_)
 repeat' ((conv=>whnf);first|exact Dr|(refine Ba ?_;intros)|(refine Ds ?_ ?_ ?_;rotate_left)|(refine Bb ?_ ?_<;>intro e h)|(refine Bc ?_ ?_<;>intro _)|(refine Kr ?_;intro s1 U hz hm hc h)|(refine JQ ?_ ?_<;>(first|intro n s1 U hr hm hc h|intro e s1 U hc h))|exact Gw|(refine Qn ?_;intro own1 U hc)|refine Ci (λ_=>?_)|refine Ad (λe1=>?_)|refine wE.go (l:=[_]) (Oh hr1) (Nat.le_of_ble_eq_true rfl) (hc.push _) h (λl x own1 s1 U hh hm hc h=>?_) (λe s1 U hc h=>?_)|exact B5 hc h|refine Af [(0,true),(1,true),(2,true),(3,false),(4,true),(5,false),(6,true)] [] GE ?_|refine Af [(0,true),(1,true),(2,true),(3,true),(4,true),(5,true),(6,true),(7,false),(8,false)] [] GE ?_|refine Af [(0,true),(1,true),(2,true),(3,true),(4,true),(5,true),(6,true),(7,false),(8,false)] [] GE ?_|with_reducible refine WF ?_)
 have hl2:l.length<=3:=Jp hh
 refine An Ac ?_
 repeat' ((conv=>whnf);first|exact Dr|(refine Ba ?_;intros)|(refine Ds ?_ ?_ ?_;rotate_left)|(refine Bb ?_ ?_<;>intro e h)|(refine Bc ?_ ?_<;>intro _)|(refine Kr ?_;intro s1 U hz hm hc h)|(refine JQ ?_ ?_<;>(first|intro n s1 U hr hm hc h|intro e s1 U hc h))|exact Gw|(refine Qn ?_;intro own1 U hc)|refine Ci (λ_=>?_)|refine Ad (λe1=>?_)|refine EF ?_|refine F2 f9 ?_|refine Pc ?_|refine AX.go hc1 hc h (λn s1 U hr hm hc h=>?_) (λe s1 U hc h=>?_)|refine kz (gW hr) ?_|refine D1 h ‹_› (λh=>?_)|refine D0 h ‹_› (λh=>?_)|refine aM.go (P0 Og) (mY hh) hc h (λn s1 U hr hm hc h=>?_) (λe s1 U hc h=>?_)|refine Af [(0,true),(1,true),(2,true),(3,false),(4,true),(5,false),(6,true)] [] GE ?_|refine Af [(0,true),(1,true),(2,true),(3,true),(4,true),(5,true),(6,true),(7,false),(8,false)] [] GE ?_|refine Af [(0,true),(1,true),(2,true),(3,true),(4,true),(5,true),(6,true),(7,false),(8,false)] [] GE ?_|with_reducible refine WF ?_)
abbrev zd (g:FuncId):V:=.G3 [.func g [] []] 0
theorem rV {g:FuncId} {x:Nd} {st:St} (U:∀{n:Nd} {st:St} {K:AB->St->Prop},K (.ret (.bool (p n))) st->PC g [enc n] st K) (h:K (.ret (.bool (!p x))) st):PC 328 [enc x,zd g] st K:=by
 refine pB Tryz.func328 ?_
 repeat' ((conv=>whnf);first|(refine Ba ?_;intros)|(refine Bb ?_ ?_<;>intro e h)|(refine Bc ?_ ?_<;>intro _)|refine U ?_)
 all_goals conv=>whnf
 all_goals (refine Av h ?_;clear h;simp_all)
theorem xp {l:List Nd} {g:FuncId} {st:St} (U:∀x st (K:AB->St->Prop),K (.ret (.bool (p x))) st->PC f [enc x,zd g] st K) (h:K (.ret (.int .i64 (C7 p l 0))) st):PC 365 [.slice 6 (CR l) .any,.func f [] [zd g]] st K:=by
 refine pB Tryz.func365 ?_
 repeat' ((conv=>whnf);(first|refine Ba ?_|refine Bb ?_ ?_|refine Bc ?_ ?_|fail)<;>intros)
 refine KX 8 [6,7,0,1] l.length (λk=>k<=l.length/\(C7 p l 0=C7 p (l.drop k) k)) ⟨Nat.zero_le _,rfl⟩ Yl ?_
 rintro k ⟨hk,hi⟩
 repeat' ((conv=>whnf);first|(refine Ba ?_;intros)|(refine Bb ?_ ?_<;>intro e h)|(refine Bc ?_ ?_<;>intro _)|refine U _ _ _ ?_)
 all_goals conv=>whnf
 all_goals try (have e:=X7 ‹l[Int.toNat k]? =some _›;rw [Int.toNat_natCast] at e;rw [e,C7] at hi;clear e)
 all_goals first
  |(refine ⟨k+1,⟨AC,?_⟩,AC,Yl,St.le_refl _⟩;clear h;simp_all)
  |(refine fin h ?_;clear h;simp_all;done)
  |(refine fin h ?_;rw [hi,List.drop_eq_nil_of_le AC];rfl)
theorem wL {l:List Nd} {g:FuncId} {st:St} (hf:∀x st (K:AB->St->Prop),K (.ret (.bool (p x))) st->PC f [enc x,zd g] st K) (h:K (.ret (.bool (l.any p))) st):PC 327 [.slice 6 (CR l) .any,.func f [] [zd g]] st K:=by
 refine pB Tryz.func327 ?_
 refine xp hf ?_
 have key:=H2 (p:=p) (l:=l) (i:=0) AC
 refine Wh (λU=>?_) (λU=>?_)
 .exact Av h (key.1 U)
 .refine Av h ?_
  simp_all
theorem dL {l:List Nd}:(!l.any λx=> !p x)=l.all p:=by
 rw [List.all_eq_not_any_not]
theorem wJ {l:List Nd} (h:(l.any λx=> !p x)=true):l.all p=false:=by rw [<-dL,h];rfl
theorem rG {l:List Nd} (h:(l.any λx=> !p x)=false):l.all p=true:=by rw [<-dL,h];rfl
theorem HG {k:Int} {g:FuncId} (hg:∀{n:Nd} {st:St} {K:AB->St->Prop},K (.ret (.bool (p n))) st->PC g [enc n] st K) (hd1:AX enc 110 (λb=>[.ptr b 0,.func 326 [] [],.int .i64 ((d:Int) - 1)]) D) (hd0:d<=100):
 aM 282 (λb v=>[pv b d,.int .i64 k,v,.func g [] []]) (λl=>Pr D k l p):=by
 refine ⟨λ{st0 b s st rows K own l} hl hc h=>?_⟩
 simp only [Pr,Rd.Ag,Rd.Ax,Rd.wp_seq,Rd.wp_ret] at h
 refine A6 Ac [] Tryz.func282 rfl Do rfl ?_
 refine Al (An Ac ?_)
 repeat' ((conv=>whnf);(first|exact Dr|refine Ba ?_|(refine Ds ?_ ?_ ?_;rotate_left)|refine Bb ?_ ?_|refine Bc ?_ ?_|with_reducible refine WF ?_)<;>intros)
 refine Qm 7 1 rfl rfl rfl ?_
 refine An Ac ?_
 repeat' ((conv=>whnf);first|exact Dr|(refine Ba ?_;intros)|(refine Ds ?_ ?_ ?_;rotate_left)|(refine Bb ?_ ?_<;>intro e h)|(refine Bc ?_ ?_<;>intro _)|(refine M8 ?_;intro U hc)|(refine TC ?_ ?_<;>intro U hc e h)|(refine Kr ?_;intro s1 U hz hm hc h)|(refine JQ ?_ ?_<;>(first|intro n s1 U hr hm hc h|intro e s1 U hc h))|exact Gw|refine Tw ?_|(refine Qn ?_;intro own1 U hc)|refine Ad (λe1=>?_)|refine Wq (a:=(d:Int) - 1) AC AC ?_|refine AX.go hd1 hc h (λn s1 U hr hm hc h=>?_) (λe s1 U hc h=>?_)|refine wL (p:=λx=> !p x) (λx st K h=>rV hg h) ?_|refine D1 h (rG ‹_›) (λh=>?_)|refine D0 h (wJ ‹_›) (λh=>?_)|refine Af [(0,true),(1,true),(2,true),(3,true),(4,false),(5,true),(6,false)] [] GE ?_|with_reducible refine WF ?_)
theorem KK {n:Nd} {st:St} (h:K (.ret (.bool true)) st):PC 283 [enc n] st K:=by
 refine pB Tryz.func283 ?_
 repeat' ((conv=>whnf);(first|refine Ba ?_|refine Bb ?_ ?_|refine Bc ?_ ?_|fail)<;>intros)
 all_goals exact BR rfl h
theorem Iz {n:Nd} {st:St} (h:K (.ret (.bool (n.kind==36))) st):PC 284 [enc n] st K:=by
 refine pB Tryz.func284 ?_
 repeat' ((conv=>whnf);(first|refine Ba ?_|refine Bb ?_ ?_|refine Bc ?_ ?_|fail)<;>intros)
 all_goals conv=>whnf
 all_goals (refine Av h ?_;clear h;simp_all)
theorem ko (hr1:AX enc 273 (λb=>[pv b d]) R) (hd1:AX enc 110 (λb=>[.ptr b 0,.func 326 [] [],.int .i64 ((d:Int) - 1)]) D) (hd0:d<=100):AX enc 231 (λb=>[pv b d]) (KL R D):=by
 refine ⟨λ{st0 b s st rows K} hc h=>?_⟩
 simp only [KL,Rd.wp_seq] at h
 have hmu:=hc.mu
 refine A6 Ac [] Tryz.func231 rfl Do rfl ?_
 refine Al (An Ac ?_)
 repeat' ((conv=>whnf);(first|exact Dr|refine Ba ?_|(refine Ds ?_ ?_ ?_;rotate_left)|refine Bb ?_ ?_|refine Bc ?_ ?_|with_reducible refine WF ?_)<;>intros)
 refine Al (An Ac ?_)
 repeat' ((conv=>whnf);first|exact Dr|(refine Ba ?_;intros)|(refine Ds ?_ ?_ ?_;rotate_left)|(refine Bb ?_ ?_<;>intro e h)|(refine Bc ?_ ?_<;>intro _)|(refine Kr ?_;intro s1 U hz hm hc h)|(refine JQ ?_ ?_<;>(first|intro n s1 U hr hm hc h|intro e s1 U hc h))|exact Gw|refine Ci (λ_=>?_)|refine Ad (λe1=>?_)|refine wE.go (l:=[_]) (Oh hr1) (Nat.le_of_ble_eq_true rfl) (hc.push _) h (λl x own1 s1 U hh hm hc h=>?_) (λe s1 U hc h=>?_)|exact B5 hc h|refine Af [(0,true),(1,true),(2,true),(3,false),(4,true),(5,false),(6,true)] [] GE ?_|refine Af [(0,true),(1,true),(2,true),(3,true),(4,true),(5,true),(6,true),(7,true),(8,true),(9,true),(10,true),(11,true),(12,true),(13,true),(14,true),(15,true),(16,false),(17,true),(18,true),(19,true),(20,true),(21,true),(22,true),(23,true),(24,false),(25,true),(26,false)] [] GE ?_|with_reducible refine WF ?_)
 have hl2:l.length<=3:=Jp hh
 refine An Ac ?_
 by_cases hk:x.kind=39
 .by_cases h2:(x.kids.length:Int)=2
  .have h2':x.kids.length=2:=AC
   obtain ⟨y0,hx0⟩:∃y,x.kids[((0:Int)).toNat]? =some y:=⟨_,List.getElem?_eq_getElem (show 0<x.kids.length by omega)⟩
   obtain ⟨y1,hx1⟩:∃y,x.kids[((1:Int)).toNat]? =some y:=⟨_,List.getElem?_eq_getElem (show 1<x.kids.length by omega)⟩
   have hy0:x.kids[0]? =some y0:=hx0
   have hy1:x.kids[1]? =some y1:=hx1
   have hN:FC x=(DV y0 [2]&&DV y1 [1]):=by unfold FC;rw [hk,h2',hy0,hy1];rfl
   cases i0:DV y0 [2]
   .have hcl:FC x=false:=by rw [hN,i0];rfl
    repeat' ((conv=>whnf);first|exact Dr|(refine Ba ?_;intros)|(refine Ds ?_ ?_ ?_;rotate_left)|(refine Bb ?_ ?_<;>intro e h)|(refine Bc ?_ ?_<;>intro _)|(refine Kr ?_;intro s1 U hz hm hc h)|(refine JQ ?_ ?_<;>(first|intro n s1 U hr hm hc h|intro e s1 U hc h))|exact Gw|refine Ci (λ_=>?_)|refine Ad (λe1=>?_)|refine EF ?_|refine F2 AC ?_|refine Wm hx0 AC ?_|refine Wm hx1 AC ?_|refine Ep (ks:=[2]) ?_|refine Ep (ks:=[1]) ?_|refine D1 h hcl (λh=>?_)|refine D0 h hcl (λh=>?_)|refine aM.go (l:=l++[x]) (HG (d:=d) (λh=>KK h) hd1 hd0) (by rw [List.length_append]<;>exact Nat.le_trans (Nat.add_le_add_right hl2 _) (Nat.le_of_ble_eq_true rfl)) hc h (λn s1 U hr hm hc h=>?_) (λe s1 U hc h=>?_)|refine Af [(0,true),(1,true),(2,true),(3,false),(4,true),(5,false),(6,true)] [] GE ?_|refine Af [(0,true),(1,true),(2,true),(3,true),(4,true),(5,true),(6,true),(7,true),(8,true),(9,true),(10,true),(11,true),(12,true),(13,true),(14,true),(15,true),(16,false),(17,true),(18,true),(19,true),(20,true),(21,true),(22,true),(23,true),(24,false),(25,true),(26,false)] [] GE ?_|with_reducible refine WF ?_)
   cases i1:DV y1 [1]
   .have hcl:FC x=false:=by rw [hN,i0,i1];rfl
    repeat' ((conv=>whnf);first|exact Dr|(refine Ba ?_;intros)|(refine Ds ?_ ?_ ?_;rotate_left)|(refine Bb ?_ ?_<;>intro e h)|(refine Bc ?_ ?_<;>intro _)|(refine Kr ?_;intro s1 U hz hm hc h)|(refine JQ ?_ ?_<;>(first|intro n s1 U hr hm hc h|intro e s1 U hc h))|exact Gw|refine Ci (λ_=>?_)|refine Ad (λe1=>?_)|refine EF ?_|refine F2 AC ?_|refine Wm hx0 AC ?_|refine Wm hx1 AC ?_|refine Ep (ks:=[2]) ?_|refine Ep (ks:=[1]) ?_|refine D1 h hcl (λh=>?_)|refine D0 h hcl (λh=>?_)|refine aM.go (l:=l++[x]) (HG (d:=d) (λh=>KK h) hd1 hd0) (by rw [List.length_append]<;>exact Nat.le_trans (Nat.add_le_add_right hl2 _) (Nat.le_of_ble_eq_true rfl)) hc h (λn s1 U hr hm hc h=>?_) (λe s1 U hc h=>?_)|refine Af [(0,true),(1,true),(2,true),(3,false),(4,true),(5,false),(6,true)] [] GE ?_|refine Af [(0,true),(1,true),(2,true),(3,true),(4,true),(5,true),(6,true),(7,true),(8,true),(9,true),(10,true),(11,true),(12,true),(13,true),(14,true),(15,true),(16,false),(17,true),(18,true),(19,true),(20,true),(21,true),(22,true),(23,true),(24,false),(25,true),(26,false)] [] GE ?_|with_reducible refine WF ?_)
   .have hcl:FC x=true:=by rw [hN,i0,i1];rfl
    repeat' ((conv=>whnf);first|exact Dr|(refine Ba ?_;intros)|(refine Ds ?_ ?_ ?_;rotate_left)|(refine Bb ?_ ?_<;>intro e h)|(refine Bc ?_ ?_<;>intro _)|(refine Kr ?_;intro s1 U hz hm hc h)|(refine JQ ?_ ?_<;>(first|intro n s1 U hr hm hc h|intro e s1 U hc h))|exact Gw|refine Ci (λ_=>?_)|refine Ad (λe1=>?_)|refine EF ?_|refine F2 AC ?_|refine Wm hx0 AC ?_|refine Wm hx1 AC ?_|refine Ep (ks:=[2]) ?_|refine Ep (ks:=[1]) ?_|refine D1 h hcl (λh=>?_)|refine D0 h hcl (λh=>?_)|refine aM.go (l:=l++[x]) (HG (d:=d) (λh=>KK h) hd1 hd0) (by rw [List.length_append]<;>exact Nat.le_trans (Nat.add_le_add_right hl2 _) (Nat.le_of_ble_eq_true rfl)) hc h (λn s1 U hr hm hc h=>?_) (λe s1 U hc h=>?_)|refine Af [(0,true),(1,true),(2,true),(3,false),(4,true),(5,false),(6,true)] [] GE ?_|refine Af [(0,true),(1,true),(2,true),(3,true),(4,true),(5,true),(6,true),(7,true),(8,true),(9,true),(10,true),(11,true),(12,true),(13,true),(14,true),(15,true),(16,false),(17,true),(18,true),(19,true),(20,true),(21,true),(22,true),(23,true),(24,false),(25,true),(26,false)] [] GE ?_|with_reducible refine WF ?_)
  .have hcl:FC x=false:=by unfold FC;rw [show (x.kids.length==2)=false by cases e:x.kids.length==2 with|true=>exact absurd (by rw [beq_iff_eq] at e;omega) h2|false=>rfl];simp
   repeat' ((conv=>whnf);first|exact Dr|(refine Ba ?_;intros)|(refine Ds ?_ ?_ ?_;rotate_left)|(refine Bb ?_ ?_<;>intro e h)|(refine Bc ?_ ?_<;>intro _)|(refine Kr ?_;intro s1 U hz hm hc h)|(refine JQ ?_ ?_<;>(first|intro n s1 U hr hm hc h|intro e s1 U hc h))|exact Gw|refine Ci (λ_=>?_)|refine Ad (λe1=>?_)|refine EF ?_|refine F2 AC ?_|refine Ep (ks:=[2]) ?_|refine Ep (ks:=[1]) ?_|refine D1 h hcl (λh=>?_)|refine D0 h hcl (λh=>?_)|refine aM.go (l:=l++[x]) (HG (d:=d) (λh=>KK h) hd1 hd0) (by rw [List.length_append]<;>exact Nat.le_trans (Nat.add_le_add_right hl2 _) (Nat.le_of_ble_eq_true rfl)) hc h (λn s1 U hr hm hc h=>?_) (λe s1 U hc h=>?_)|refine Af [(0,true),(1,true),(2,true),(3,false),(4,true),(5,false),(6,true)] [] GE ?_|refine Af [(0,true),(1,true),(2,true),(3,true),(4,true),(5,true),(6,true),(7,true),(8,true),(9,true),(10,true),(11,true),(12,true),(13,true),(14,true),(15,true),(16,false),(17,true),(18,true),(19,true),(20,true),(21,true),(22,true),(23,true),(24,false),(25,true),(26,false)] [] GE ?_|with_reducible refine WF ?_)
 .have hcl:FC x=false:=by unfold FC;rw [show (x.kind==39)=false by cases e:x.kind==39 with|true=>exact absurd (by simpa using e) hk|false=>rfl];rfl
  repeat' ((conv=>whnf);first|exact Dr|(refine Ba ?_;intros)|(refine Ds ?_ ?_ ?_;rotate_left)|(refine Bb ?_ ?_<;>intro e h)|(refine Bc ?_ ?_<;>intro _)|(refine Kr ?_;intro s1 U hz hm hc h)|(refine JQ ?_ ?_<;>(first|intro n s1 U hr hm hc h|intro e s1 U hc h))|exact Gw|refine Ci (λ_=>?_)|refine Ad (λe1=>?_)|refine EF ?_|refine F2 AC ?_|refine Ep (ks:=[2]) ?_|refine Ep (ks:=[1]) ?_|refine D1 h hcl (λh=>?_)|refine D0 h hcl (λh=>?_)|refine aM.go (l:=l++[x]) (HG (d:=d) (λh=>KK h) hd1 hd0) (by rw [List.length_append]<;>exact Nat.le_trans (Nat.add_le_add_right hl2 _) (Nat.le_of_ble_eq_true rfl)) hc h (λn s1 U hr hm hc h=>?_) (λe s1 U hc h=>?_)|refine Af [(0,true),(1,true),(2,true),(3,false),(4,true),(5,false),(6,true)] [] GE ?_|refine Af [(0,true),(1,true),(2,true),(3,true),(4,true),(5,true),(6,true),(7,true),(8,true),(9,true),(10,true),(11,true),(12,true),(13,true),(14,true),(15,true),(16,false),(17,true),(18,true),(19,true),(20,true),(21,true),(22,true),(23,true),(24,false),(25,true),(26,false)] [] GE ?_|with_reducible refine WF ?_)
theorem XE (hr1:AX enc 273 (λb=>[pv b d]) R) (hd1:AX enc 110 (λb=>[.ptr b 0,.func 326 [] [],.int .i64 ((d:Int) - 1)]) D) (hd0:d<=100):AX enc 232 (λb=>[pv b d]) (FO R D):=by
 refine ⟨λ{st0 b s st rows K} hc h=>?_⟩
 simp only [FO,Rd.wp_seq] at h
 have hmu:=hc.mu
 refine A6 Ac [] Tryz.func232 rfl Do rfl ?_
 refine Al (An Ac ?_)
 repeat' ((conv=>whnf);(first|exact Dr|refine Ba ?_|(refine Ds ?_ ?_ ?_;rotate_left)|refine Bb ?_ ?_|refine Bc ?_ ?_|with_reducible refine WF ?_)<;>intros)
 refine Al (An Ac ?_)
 repeat' ((conv=>whnf);first|exact Dr|(refine Ba ?_;intros)|(refine Ds ?_ ?_ ?_;rotate_left)|(refine Bb ?_ ?_<;>intro e h)|(refine Bc ?_ ?_<;>intro _)|(refine Kr ?_;intro s1 U hz hm hc h)|(refine JQ ?_ ?_<;>(first|intro n s1 U hr hm hc h|intro e s1 U hc h))|exact Gw|refine Ci (λ_=>?_)|refine Ad (λe1=>?_)|refine wE.go (l:=[_]) (Oh hr1) (Nat.le_of_ble_eq_true rfl) (hc.push _) h (λl x own1 s1 U hh hm hc h=>?_) (λe s1 U hc h=>?_)|exact B5 hc h|refine Af [(0,true),(1,true),(2,true),(3,false),(4,true),(5,false),(6,true)] [] GE ?_|refine Af [(0,true),(1,true),(2,true),(3,true),(4,true),(5,true),(6,true),(7,true),(8,true),(9,true),(10,true),(11,true),(12,true),(13,true),(14,true),(15,true),(16,false),(17,true),(18,false)] [] GE ?_|with_reducible refine WF ?_)
 have hl2:l.length<=3:=Jp hh
 refine An Ac ?_
 by_cases hk:x.kind=39
 .by_cases h2:(x.kids.length:Int)=2
  .have h2':x.kids.length=2:=AC
   obtain ⟨y0,hx0⟩:∃y,x.kids[((0:Int)).toNat]? =some y:=⟨_,List.getElem?_eq_getElem (show 0<x.kids.length by omega)⟩
   obtain ⟨y1,hx1⟩:∃y,x.kids[((1:Int)).toNat]? =some y:=⟨_,List.getElem?_eq_getElem (show 1<x.kids.length by omega)⟩
   have hy0:x.kids[0]? =some y0:=hx0
   have hy1:x.kids[1]? =some y1:=hx1
   have hN:Iy x=DV y0 [2,4]:=by unfold Iy;rw [hk,h2',hy0];rfl
   cases i0:DV y0 [2,4]
   .have hcl:Iy x=false:=by rw [hN,i0]
    repeat' ((conv=>whnf);first|exact Dr|(refine Ba ?_;intros)|(refine Ds ?_ ?_ ?_;rotate_left)|(refine Bb ?_ ?_<;>intro e h)|(refine Bc ?_ ?_<;>intro _)|(refine Kr ?_;intro s1 U hz hm hc h)|(refine JQ ?_ ?_<;>(first|intro n s1 U hr hm hc h|intro e s1 U hc h))|exact Gw|refine Ci (λ_=>?_)|refine Ad (λe1=>?_)|refine EF ?_|refine F2 AC ?_|refine Wm hx0 AC ?_|refine Wm hx1 AC ?_|refine Ep (ks:=[2,4]) ?_|refine Ep (ks:=[1]) ?_|refine D1 h hcl (λh=>?_)|refine D0 h hcl (λh=>?_)|refine aM.go (l:=l++[x]) (HG (d:=d) (λh=>Iz h) hd1 hd0) (by rw [List.length_append]<;>exact Nat.le_trans (Nat.add_le_add_right hl2 _) (Nat.le_of_ble_eq_true rfl)) hc h (λn s1 U hr hm hc h=>?_) (λe s1 U hc h=>?_)|refine Af [(0,true),(1,true),(2,true),(3,false),(4,true),(5,false),(6,true)] [] GE ?_|refine Af [(0,true),(1,true),(2,true),(3,true),(4,true),(5,true),(6,true),(7,true),(8,true),(9,true),(10,true),(11,true),(12,true),(13,true),(14,true),(15,true),(16,false),(17,true),(18,false)] [] GE ?_|with_reducible refine WF ?_)
   .have hcl:Iy x=true:=by rw [hN,i0]
    repeat' ((conv=>whnf);first|exact Dr|(refine Ba ?_;intros)|(refine Ds ?_ ?_ ?_;rotate_left)|(refine Bb ?_ ?_<;>intro e h)|(refine Bc ?_ ?_<;>intro _)|(refine Kr ?_;intro s1 U hz hm hc h)|(refine JQ ?_ ?_<;>(first|intro n s1 U hr hm hc h|intro e s1 U hc h))|exact Gw|refine Ci (λ_=>?_)|refine Ad (λe1=>?_)|refine EF ?_|refine F2 AC ?_|refine Wm hx0 AC ?_|refine Wm hx1 AC ?_|refine Ep (ks:=[2,4]) ?_|refine Ep (ks:=[1]) ?_|refine D1 h hcl (λh=>?_)|refine D0 h hcl (λh=>?_)|refine aM.go (l:=l++[x]) (HG (d:=d) (λh=>Iz h) hd1 hd0) (by rw [List.length_append]<;>exact Nat.le_trans (Nat.add_le_add_right hl2 _) (Nat.le_of_ble_eq_true rfl)) hc h (λn s1 U hr hm hc h=>?_) (λe s1 U hc h=>?_)|refine Af [(0,true),(1,true),(2,true),(3,false),(4,true),(5,false),(6,true)] [] GE ?_|refine Af [(0,true),(1,true),(2,true),(3,true),(4,true),(5,true),(6,true),(7,true),(8,true),(9,true),(10,true),(11,true),(12,true),(13,true),(14,true),(15,true),(16,false),(17,true),(18,false)] [] GE ?_|with_reducible refine WF ?_)
  .have hcl:Iy x=false:=by unfold Iy;rw [show (x.kids.length==2)=false by cases e:x.kids.length==2 with|true=>exact absurd (by rw [beq_iff_eq] at e;omega) h2|false=>rfl];simp
   repeat' ((conv=>whnf);first|exact Dr|(refine Ba ?_;intros)|(refine Ds ?_ ?_ ?_;rotate_left)|(refine Bb ?_ ?_<;>intro e h)|(refine Bc ?_ ?_<;>intro _)|(refine Kr ?_;intro s1 U hz hm hc h)|(refine JQ ?_ ?_<;>(first|intro n s1 U hr hm hc h|intro e s1 U hc h))|exact Gw|refine Ci (λ_=>?_)|refine Ad (λe1=>?_)|refine EF ?_|refine F2 AC ?_|refine Ep (ks:=[2,4]) ?_|refine Ep (ks:=[1]) ?_|refine D1 h hcl (λh=>?_)|refine D0 h hcl (λh=>?_)|refine aM.go (l:=l++[x]) (HG (d:=d) (λh=>Iz h) hd1 hd0) (by rw [List.length_append]<;>exact Nat.le_trans (Nat.add_le_add_right hl2 _) (Nat.le_of_ble_eq_true rfl)) hc h (λn s1 U hr hm hc h=>?_) (λe s1 U hc h=>?_)|refine Af [(0,true),(1,true),(2,true),(3,false),(4,true),(5,false),(6,true)] [] GE ?_|refine Af [(0,true),(1,true),(2,true),(3,true),(4,true),(5,true),(6,true),(7,true),(8,true),(9,true),(10,true),(11,true),(12,true),(13,true),(14,true),(15,true),(16,false),(17,true),(18,false)] [] GE ?_|with_reducible refine WF ?_)
 .have hcl:Iy x=false:=by unfold Iy;rw [show (x.kind==39)=false by cases e:x.kind==39 with|true=>exact absurd (by simpa using e) hk|false=>rfl];rfl
  repeat' ((conv=>whnf);first|exact Dr|(refine Ba ?_;intros)|(refine Ds ?_ ?_ ?_;rotate_left)|(refine Bb ?_ ?_<;>intro e h)|(refine Bc ?_ ?_<;>intro _)|(refine Kr ?_;intro s1 U hz hm hc h)|(refine JQ ?_ ?_<;>(first|intro n s1 U hr hm hc h|intro e s1 U hc h))|exact Gw|refine Ci (λ_=>?_)|refine Ad (λe1=>?_)|refine EF ?_|refine F2 AC ?_|refine Ep (ks:=[2,4]) ?_|refine Ep (ks:=[1]) ?_|refine D1 h hcl (λh=>?_)|refine D0 h hcl (λh=>?_)|refine aM.go (l:=l++[x]) (HG (d:=d) (λh=>Iz h) hd1 hd0) (by rw [List.length_append]<;>exact Nat.le_trans (Nat.add_le_add_right hl2 _) (Nat.le_of_ble_eq_true rfl)) hc h (λn s1 U hr hm hc h=>?_) (λe s1 U hc h=>?_)|refine Af [(0,true),(1,true),(2,true),(3,false),(4,true),(5,false),(6,true)] [] GE ?_|refine Af [(0,true),(1,true),(2,true),(3,true),(4,true),(5,true),(6,true),(7,true),(8,true),(9,true),(10,true),(11,true),(12,true),(13,true),(14,true),(15,true),(16,false),(17,true),(18,false)] [] GE ?_|with_reducible refine WF ?_)
end
end Go.Proofs.Z
namespace Go.Aw
open Go
theorem Rm (h:l≠[]) (g:Df (AJ l)=true) (t:List UInt8):AJ (l.take (AJ l).2++t)=AJ l:=by
 rcases l with _|⟨a,r⟩
 .exact absurd rfl h
 revert g
 generalize U:AJ (a::r)=x
 have hx0:=U
 unfold AJ at U
 dsimp only at U
 intro g
 rcases r with _|⟨b,_|⟨c,_|⟨d,r⟩⟩⟩
 all_goals simp only [List.getElem?_nil,List.getElem?_cons_zero,List.getElem?_cons_succ,List.getD_cons_zero,List.getD_cons_succ,Bool.and_false,Bool.false_eq_true,if_false] at U
 all_goals repeat' split at U
 all_goals subst U
 all_goals first
  |(exfalso;revert g;simp [Df];done)
  |skip
 all_goals simp only [List.take_succ_cons,List.take_zero,List.cons_append,List.nil_append]
 all_goals unfold AJ
 all_goals dsimp only
 all_goals try simp only [List.getElem?_nil,List.getElem?_cons_zero,List.getElem?_cons_succ,List.getD_cons_zero,List.getD_cons_succ]
 all_goals repeat' (first|rfl|rw [if_pos ‹_›]|rw [if_neg ‹_›])
theorem Rk (h:l≠[]) (g:Df (AJ l)=true) (t:List UInt8):AJ (l++t)=AJ l:=by
 have:=Rm h g (l.drop (AJ l).2++t)
 rwa [<-List.append_assoc,List.take_append_drop] at this
theorem UL {p:Nat×Nat->Bool} (l t:List UInt8) (g:BB Df l=l.length):BB p (l++t)=if BB p l=l.length then l.length+BB p t else BB p l:=by
 fun_induction BB p l with
 |case1=>simp
 |case2 a r hp ih=>
  have hne:a::r≠[]:=GT
  have U:Df (AJ (a::r))=true:=by
   cases hg:Df (AJ (a::r)) with
   |true=>rfl
   |false=>rw [En hg] at g;simp at g
  have hle:=Hs hne
  rw [Cp hne U] at g
  have g':BB Df ((a::r).drop (AJ (a::r)).2)=((a::r).drop (AJ (a::r)).2).length:=IR
  have ih:=ih g'
  rw [Cp GT (by rw [Rk hne U];exact hp),Rk hne U,List.drop_append_of_le_length hle,ih,List.length_drop]
  have hsl:=K7 p ((a::r).drop (AJ (a::r)).2)
  rw [List.length_drop] at hsl
  by_cases hc:BB p ((a::r).drop (AJ (a::r)).2)=(a::r).length - (AJ (a::r)).2
  .rw [if_pos hc,if_pos AC];omega
  .rw [if_neg hc,if_neg AC]
 |case3 a r hp=>
  have hne:a::r≠[]:=GT
  have U:Df (AJ (a::r))=true:=by
   cases hg:Df (AJ (a::r)) with
   |true=>rfl
   |false=>rw [En hg] at g;simp at g
  rw [En (by rw [Rk hne U];simpa using hp),if_neg GT]
def Vd (l:List UInt8):Prop:=BB Df l=l.length
theorem Vd.rune (h:Vd l) (hne:l≠[]):Df (AJ l)=true/\Vd (l.drop (AJ l).2):=by
 have U:Df (AJ l)=true:=by
  cases U:Df (AJ l) with
  |true=>rfl
  |false=>
   unfold Vd at h
   rw [En U] at h
   grind
 refine ⟨U,?_⟩
 unfold Vd at h |-
 rw [Cp hne U] at h
 grind
theorem Vd.nil:Vd []:=E6 _
theorem Vd.app {t:List UInt8} (h:Vd l) (k:Vd t):Vd (l++t):=by
 unfold Vd at *
 rw [UL l t h,if_pos h,k,List.length_append]
inductive Bd:List UInt8->Nat->Prop
 |zero (l:List UInt8):Bd l 0
 |step {l:List UInt8} {k:Nat}:l≠[]->Bd (l.drop (AJ l).2) k->Bd l ((AJ l).2+k)
theorem Bd.add {i j:Nat} (h:Bd l i) (k:Bd (l.drop i) j):Bd l (i+j):=by
 induction h with
 |zero l=>simp_all
 |step U h ih=>
  rw [Nat.add_assoc]
  refine .step U (ih ?_)
  simp_all
theorem Bd.vd {i:Nat} (h:Bd l i) (k:Vd l):Vd (l.drop i):=by
 induction h with
 |zero l=>exact k
 |step U h ih=>
  have:=ih (k.rune U).2
  simp_all
theorem Bd.span (p:Nat×Nat->Bool) (l:List UInt8):Bd l (BB p l):=by
 fun_induction BB p l with
 |case1=>exact .zero _
 |case2 a r U ih=>exact .step GT ih
 |case3 a r U=>exact .zero _
theorem Bd.one (h:l≠[]):Bd l (AJ l).2:=by
 have:=Bd.step h (.zero (l.drop (AJ l).2))
 omega
theorem gX (h:l≠[]) (g:Df (AJ l)=true) (k:Nat) (hk:1<=k) (U:k<(AJ l).2):∃b,l[k]? =some b/\128<=b.toNat:=by
 rcases l with _|⟨a,r⟩
 .simp_all
 revert g U
 generalize hx:AJ (a::r)=x
 unfold AJ at hx
 dsimp only at hx
 intro g U
 have d2:∀b:UInt8,(b.toNat / 64==2)=true->128<=b.toNat:=λb hb=>by grind
 rcases r with _|⟨b,_|⟨c,_|⟨d,r⟩⟩⟩
 all_goals simp only [List.getElem?_nil,List.getElem?_cons_zero,List.getElem?_cons_succ,List.getD_cons_zero,List.getD_cons_succ,Bool.and_false,Bool.false_eq_true,if_false] at hx
 all_goals repeat' split at hx
 all_goals subst hx
 all_goals first
  |(exfalso;revert g;simp [Df];done)
  |skip
 all_goals first
  |(exfalso;have U:k<1:=U;omega)
  |skip
 all_goals simp only [Bool.and_eq_true] at *
 all_goals have hk':k=1\/k=2\/k=3:=by first|omega|(dsimp only at U;omega)
 all_goals rcases hk' with rfl|rfl|rfl
 all_goals first
  |(exfalso;omega)
  |(exfalso;dsimp only at U;omega)
  |skip
 all_goals refine ⟨_,rfl,d2 _ ?_⟩
 all_goals simp only [beq_iff_eq] at *
 all_goals omega
theorem Bd.vH {b:UInt8} (hv:Vd l) (hb:l[k]? =some b) (h:b.toNat<128):Bd l k/\Bd l (k+1):=by
 induction hn:l.length using Nat.strongRecOn generalizing l k with
 |_ n ih=>
  have U:l≠[]:=λe=>by simp_all
  obtain ⟨g,hv'⟩:=hv.rune U
  have hp:=Ek l
  have hle:=Hs U
  by_cases hk:k<(AJ l).2
  .by_cases h0:k=0
   .subst h0
    refine ⟨.zero l,?_⟩
    cases l with
    |nil=>simp_all
    |cons a r=>
     simp only [List.getElem?_cons_zero,Option.some.injEq] at hb
     subst hb
     have e:AJ (a::r)=(a.toNat,1):=by unfold AJ;dsimp only;rw [if_pos AC]
     have:=Bd.one U
     simp_all
   .obtain ⟨b',h1,h2⟩:=gX U g k AC hk
    grind
  .obtain ⟨j,rfl⟩:∃j,k=(AJ l).2+j:=⟨k - (AJ l).2,AC⟩
   have:=ih (l.drop (AJ l).2).length (by grind) hv' (k:=j) ke rfl
   exact ⟨.step U this.1,by rw [Nat.add_assoc];exact .step U this.2⟩
inductive BH:List UInt8->Nat->Prop
 |zero (l:List UInt8):BH l 0
 |step {l:List UInt8} {k:Nat}:l≠[]->BH (l.drop (AV l)) k->BH l (AV l+k)
theorem FR (l:List UInt8):(Hx l=0/\¬(AE l=13\/AE l=10\/AE l=12))\/(Hx l=1/\(AE l=13\/AE l=10\/AE l=12)/\¬(AE l=13/\AE (l.drop 1)=10))\/(Hx l=2/\AE l=13/\AE (l.drop 1)=10):=by
 unfold Hx
 grind
theorem EA (U:0<=AE l) (h:AE l<128):(AJ l).2=1/\(((AJ l).1:Nat):Int)=AE l:=by
 cases l with
 |nil=>exact absurd U Do
 |cons a r=>
  have h:((a.toNat:Nat):Int)<128:=h
  have e:AJ (a::r)=(a.toNat,1):=by unfold AJ;dsimp only;rw [if_pos AC]
  rw [e];exact ⟨rfl,rfl⟩
theorem Bd.cut (h:Bd l k) (hn:¬(0<k/\AE (l.drop (k - 1))=13/\AE (l.drop k)=10)):BH l k:=by
 induction hm:l.length using Nat.strongRecOn generalizing l k with
 |_ n ih=>
  cases h with
  |zero=>exact .zero l
  |@step _ j U h=>
   have hp:=Ek l
   have hle:=Hs U
   rcases FR l with ⟨e,h1⟩|⟨e,h1,h2⟩|⟨e,h1,h2⟩
   .have es:AV l=(AJ l).2:=by unfold AV;rw [if_neg AC]
    rw [<-es]
    refine .step U ?_
    rw [es]
    refine ih _ (by grind) h (λhc=>hn ⟨AC,?_,?_⟩) rfl
    .have:=hc.2.1;rw [List.drop_drop] at this;rwa [show (AJ l).2+j - 1=(AJ l).2+(j - 1) by omega]
    simp_all
   .have ed:=EA (l:=l) AC AC
    have es:AV l=(AJ l).2:=by unfold AV;rw [if_pos AC,e,ed.1]
    rw [<-es]
    refine .step U ?_
    rw [es]
    refine ih _ (by grind) h (λhc=>hn ⟨AC,?_,?_⟩) rfl
    .have:=hc.2.1;rw [List.drop_drop] at this;rwa [show (AJ l).2+j - 1=(AJ l).2+(j - 1) by omega]
    .have:=hc.2.2;rwa [List.drop_drop] at this
   .have ed:=EA (l:=l) AC AC
    rw [ed.1] at h hn |-
    have es:AV l=2:=by unfold AV;rw [if_pos AC,e]
    cases h with
    |zero=>simp_all
    |@step _ j hne' h=>
     have ed':=EA (l:=l.drop 1) AC AC
     rw [ed'.1] at h hn |-
     rw [show 1+(1+j)=AV l+j by omega]
     refine .step U ?_
     rw [es]
     rw [List.drop_drop] at h
     have hl2:l.length≠0:=by have:=List.length_pos_iff.2 U;omega
     refine ih _ (by grind) h (λhc=>hn ⟨AC,?_,?_⟩) rfl
     .have:=hc.2.1;rw [List.drop_drop] at this;grind
     .have:=hc.2.2;rw [List.drop_drop] at this;grind
theorem Tt:∀(n:Nat) (l:List UInt8) (k:Nat) (p:Int×Int),l.length<=n->1<=p.2->p.1<=(BT l k p).1/\(BT l k p).1<=p.1+l.length/\1<=(BT l k p).2/\(BT l k p).2<=p.2+8*l.length
 |n,[],k,p,_,h=>by rw [GQ];simp only [List.length_nil];omega
 |0,a::r,k,p,hn,h=>by simp at hn
 |n+1,a::r,k,p,hn,h=>by
  by_cases U:k<AV (a::r)
  .rw [FJ U];omega
  .rw [D8 GT U]
   have h1:=Gh (l:=a::r) GT
   have h2:=Xz (a::r) p.1
   have h3:=QQ (a::r) h
   have hd:((a::r).drop (AV (a::r))).length=(a::r).length - AV (a::r):=List.length_drop
   have ih:=Tt n ((a::r).drop (AV (a::r))) (k - AV (a::r)) (EC (a::r) p.1,Fw (a::r) p.2) AC h3.1
   dsimp only at ih
   omega
theorem Pk:∀(n:Nat) (l:List UInt8) (k:Nat) (x c U y:Int),l.length<=n->(BT l k (x,c)).1 - x=(BT l k (y,U)).1 - y
 |n,[],k,x,c,U,y,_=>by rw [GQ,GQ];omega
 |0,a::r,k,x,c,U,y,hn=>by simp at hn
 |n+1,a::r,k,x,c,U,y,hn=>by
  by_cases hk:k<AV (a::r)
  .rw [FJ hk,FJ hk];omega
  .rw [D8 GT hk,D8 GT hk]
   have h1:=Gh (l:=a::r) GT
   have hd:((a::r).drop (AV (a::r))).length=(a::r).length - AV (a::r):=List.length_drop
   have ih:=Pk n ((a::r).drop (AV (a::r))) (k - AV (a::r)) (EC (a::r) x) (Fw (a::r) c) (Fw (a::r) U) (EC (a::r) y) AC
   have e:EC (a::r) x - x=EC (a::r) y - y:=by unfold EC;split<;>omega
   dsimp only
   omega
theorem Tu:∀(n:Nat) (l:List UInt8) (k:Nat) (x c y:Int),l.length<=n->(BT l k (x,c)).2=(BT l k (y,c)).2
 |n,[],k,x,c,y,_=>by rw [GQ,GQ]
 |0,a::r,k,x,c,y,hn=>by simp at hn
 |n+1,a::r,k,x,c,y,hn=>by
  by_cases U:k<AV (a::r)
  .rw [FJ U,FJ U]
  .rw [D8 GT U,D8 GT U]
   have h1:=Gh (l:=a::r) GT
   have hd:((a::r).drop (AV (a::r))).length=(a::r).length - AV (a::r):=List.length_drop
   exact Tu n _ _ _ _ _ AC
def CC (d:Nat) (l:List UInt8):Option Nat:=
 match l with
 |[]=>none
 |a::r=>
  if (a.toNat:Int)=123/\AE r=45 then (CC (d+1) (r.drop 1)).map (·+2)
  else if (a.toNat:Int)=45/\AE r=125 then (if d<=1 then some 2 else (CC (d - 1) (r.drop 1)).map (·+2))
  else (CC d r).map (·+1)
termination_by l.length
decreasing_by all_goals simp only [List.length_drop,List.length_cons];omega
def EH (pos:Nat) (o:Option Nat):Int:=match o with
 |none=> -1
 |some n=>(pos+n:Nat)
theorem OH {o:Option Nat}:EH pos (o.map (·+k))=EH (pos+k) o:=by
 cases o with
 |none=>rfl
 |some n=>simp only [EH,Option.map_some];omega
theorem oE (h:¬pos<s.length):EH pos (CC d (s.drop pos))= -1:=by
 rw [List.drop_eq_nil_iff.2 AC,CC];rfl
theorem jf (U:AE (s.drop pos)=123) (h2:AE (s.drop (pos+1))=45):EH pos (CC d (s.drop pos))=EH (pos+2) (CC (d+1) (s.drop (pos+2))):=by
 have hp:pos<s.length:=by
  by_cases hp:pos<s.length
  .exact hp
  .rw [HW AC] at U;exact absurd U Do
 rw [List.drop_eq_getElem_cons hp] at U |-
 rw [CC,if_pos ⟨U,h2⟩,OH,List.drop_drop]
theorem Sq (U:AE (s.drop pos)=45) (h2:AE (s.drop (pos+1))=125):EH pos (CC d (s.drop pos))=if d<=1 then ((pos+2:Nat):Int) else EH (pos+2) (CC (d - 1) (s.drop (pos+2))):=by
 have hp:pos<s.length:=by
  by_cases hp:pos<s.length
  .exact hp
  .rw [HW AC] at U;exact absurd U Do
 rw [List.drop_eq_getElem_cons hp] at U |-
 have U:((s[pos].toNat:Nat):Int)=45:=U
 rw [CC,if_neg (λe=>by omega),if_pos ⟨U,h2⟩]
 by_cases hd:d<=1
 .rw [if_pos hd,if_pos hd];rfl
 .rw [if_neg hd,if_neg hd,OH,List.drop_drop]
theorem ud (hp:pos<s.length) (U:¬(AE (s.drop pos)=123/\AE (s.drop (pos+1))=45)) (h2:¬(AE (s.drop pos)=45/\AE (s.drop (pos+1))=125)):EH pos (CC d (s.drop pos))=EH (pos+1) (CC d (s.drop (pos+1))):=by
 rw [List.drop_eq_getElem_cons hp] at U h2 |-
 have U:¬(((s[pos].toNat:Nat):Int)=123/\AE (s.drop (pos+1))=45):=U
 have h2:¬(((s[pos].toNat:Nat):Int)=45/\AE (s.drop (pos+1))=125):=h2
 rw [CC,if_neg U,if_neg h2,OH]
def D5:List UInt8->Nat
 |[]=>0
 |a::r=>if 0<Hx (a::r) then 0 else D5 r+1
theorem eB (l:List UInt8):D5 l<=l.length:=by
 induction l with
 |nil=>exact Nat.le_refl _
 |cons a r U=>unfold D5;split<;>simp only [List.length_cons]<;>omega
theorem sG (h:0<Hx (s.drop pos)):D5 (s.drop pos)=0:=by
 cases U:s.drop pos with
 |nil=>rfl
 |cons a r=>rw [U] at h;rw [D5,if_pos h]
theorem sF (U:pos<s.length) (h:¬0<Hx (s.drop pos)):D5 (s.drop pos)=D5 (s.drop (pos+1))+1:=by
 rw [List.drop_eq_getElem_cons U] at h |-
 rw [D5,if_neg h]
theorem mA (U:¬pos<s.length):D5 (s.drop pos)=0:=by
 rw [List.drop_eq_nil_iff.2 AC];rfl
theorem iS (s:List UInt8) (U pos:Nat) (h:U<=pos) (hpl:pos<=s.length):∃r,Eg s U pos=(s.take (pos+D5 (s.drop pos))).drop U::r:=by
 fun_induction Eg s U pos with
 |case1 U pos hp hn ih=>rw [sG hn];exact ⟨_,rfl⟩
 |case2 U pos hp hn ih=>
  obtain ⟨r,e⟩:=ih AC AC
  rw [sF hp hn]
  exact ⟨r,by rw [e,show pos+1+D5 (s.drop (pos+1))=pos+(D5 (s.drop (pos+1))+1) by omega]⟩
 |case3 U pos hp=>
  rw [mA hp,List.take_of_length_le AC];exact ⟨[],rfl⟩
def Eh (l:List UInt8):Nat:=
 let n:=Bx (λc=>Ay c==5) l
 if 2<=n/\(l.take n).all (λb=>b==45)=true then n+D5 (l.drop n) else 0
def CJ (l:List UInt8):Int:=
 if AE l=123/\AE (l.drop 1)=45 then EH 2 (CC 1 (l.drop 2))
 else if AE l=45 then (Eh l:Nat) else 0
def B7 (s:List UInt8) (pos:Nat):Int×Int:=
 if CJ (s.drop pos)<0 then (0,60) else if CJ (s.drop pos)=0 then (0,0) else (pos+CJ (s.drop pos),0)
theorem oD (d:Nat) (l:List UInt8) (n:Nat) (h:CC d l=some n):n<=l.length:=by
 fun_induction CC d l generalizing n with
 |case1=>cases h
 |case2 d a r hc ih=>
  obtain ⟨m,hm,rfl⟩:=Option.map_eq_some_iff.1 h
  have:=ih m hm
  have hr:r≠[]:=λe=>by rw [e] at hc;exact absurd hc.2 Do
  have:=List.length_pos_iff.2 hr
  simp only [List.length_drop,List.length_cons] at *;omega
 |case3 d a r hc U hd=>
  have hr:r≠[]:=λe=>by rw [e] at U;exact absurd U.2 Do
  have:=List.length_pos_iff.2 hr
  injection h with h
  simp only [List.length_cons] at *;omega
 |case4 d a r hc U hd ih=>
  obtain ⟨m,hm,rfl⟩:=Option.map_eq_some_iff.1 h
  have:=ih m hm
  have hr:r≠[]:=λe=>by rw [e] at U;exact absurd U.2 Do
  have:=List.length_pos_iff.2 hr
  simp only [List.length_drop,List.length_cons] at *;omega
 |case5 d a r hc U ih=>
  obtain ⟨m,hm,rfl⟩:=Option.map_eq_some_iff.1 h
  have:=ih m hm
  simp only [List.length_cons] at *;omega
theorem jz (l:List UInt8):Eh l<=l.length:=by
 have h1:=Gg (λc=>Ay c==5) l
 have U:=eB (l.drop (Bx (λc=>Ay c==5) l))
 rw [List.length_drop] at U
 unfold Eh
 dsimp only
 split<;>omega
theorem Zh (l:List UInt8):CJ l<=l.length:=by
 have h1:=jz l
 unfold CJ
 split
 .rename_i U
  cases h:CC 1 (l.drop 2) with
  |none=>simp only [EH];omega
  |some n=>
   have:=oD _ _ _ h
   have hr:l.drop 1≠[]:=λe=>by rw [e] at U;exact absurd U.2 Do
   have:=List.length_pos_iff.2 hr
   simp only [List.length_drop,EH] at *;omega
 .split<;>omega
def HA (c:Int):Option Int:=
 if c=92\/c=34\/c=39 then some c
 else if c=97 then some 7 else if c=98 then some 8 else if c=116 then some 9 else if c=110 then some 10
 else if c=118 then some 11 else if c=102 then some 12 else if c=114 then some 13 else none
def Hg (base:Int):Int->List UInt8->Int
 |v,[]=>v
 |v,a::r=>if BW ((a.toNat:Nat):Int) base<0 then v else Hg base (min (v*base+BW ((a.toNat:Nat):Int) base) 1114112) r
def Gq (base:Int) (l:List UInt8):Option (Int×Nat):=if Bn base l=0\/1114111<Hg base 0 l then none else some (Hg base 0 l,Bn base l)
def CQ:List (List UInt8):=[[78,85,76],[83,79,72],[83,84,88],[69,84,88],[69,79,84],[69,78,81],[65,67,75],[66,69,76],[66,83],[72,84],[76,70],[86,84],[70,70],[67,82],[83,79],[83,73],[68,76,69],[68,67,49],[68,67,50],[68,67,51],[68,67,52],[78,65,75],[83,89,78],[69,84,66],[67,65,78],[69,77],[83,85,66],[69,83,67],[70,83],[71,83],[82,83],[85,83],[83,80],[68,69,76]]
def Hi (l:List UInt8):List (List UInt8)->Nat->Nat×Nat->Nat×Nat
 |[],_,p=>p
 |w::U,i,p=>Hi l U (i+1) (if p.2<w.length/\w.isPrefixOf l=true then (i,w.length) else p)
def Gn (l:List UInt8):Int×Nat:=(if (Hi l CQ 0 (0,0)).1=33 then 127 else (Hi l CQ 0 (0,0)).1,(Hi l CQ 0 (0,0)).2)
def GA (text:Bool) (l:List UInt8):Option (Int×Nat):=
 match HA (AE (l.drop 1)) with
 |some v=>some (v,2)
 |none=>
  if AE (l.drop 1)=38/\text=true then some (-1,2)
  else if AE (l.drop 1)=94/\64<=AE (l.drop 2)/\AE (l.drop 2)<=95 then some (AE (l.drop 2) - 64,3)
  else if AE (l.drop 1)=111 then (Gq 8 (l.drop 2)).map λp=>(p.1,2+p.2)
  else if AE (l.drop 1)=120 then (Gq 16 (l.drop 2)).map λp=>(p.1,2+p.2)
  else if 48<=AE (l.drop 1)/\AE (l.drop 1)<=57 then (Gq 10 (l.drop 1)).map λp=>(p.1,1+p.2)
  else if 0<(Gn (l.drop 1)).2 then some ((Gn (l.drop 1)).1,1+(Gn (l.drop 1)).2) else none
def DM (l:List UInt8):Nat:=
 if AE l=92/\Bx (λc=>Ay c==1) (l.drop 1)≠0/\AE (l.drop (1+Bx (λc=>Ay c==1) (l.drop 1)))=92 then Bx (λc=>Ay c==1) (l.drop 1)+2 else 0
def Nb (d:Nat×Nat):Bool:=Ay (d.1:Nat)==0||(Ay (d.1:Nat)==1&& !(d.1==32))||(d.1==65533&&d.2==1)
def Hj (text:Bool) (l:List UInt8):Sum Int (Int×Nat):=
 match l with
 |[]=>.inl 50
 |a::r=>
  if AE (a::r)=92 then
   if text=true/\0<DM (a::r) then .inr (-1,DM (a::r))
   else match GA text (a::r) with
    |none=>.inl 51
    |some p=>.inr p
  else if Nb (AJ (a::r)) then .inl 50 else .inr (((AJ (a::r)).1:Nat),(AJ (a::r)).2)
theorem WQ (l:List UInt8):∀(U:List (List UInt8)) (i:Nat) (p:Nat×Nat),p.2<=l.length->(Hi l U i p).2<=l.length
 |[],_,p,h=>h
 |w::U,i,p,h=>by
  unfold Hi
  refine WQ l U _ _ ?_
  grind
theorem ov (l:List UInt8) (h:¬(65<=AE l/\AE l<=90)):∀(U:List (List UInt8)) (i:Nat) (p:Nat×Nat),(∀w ∈ U,65<=AE w/\AE w<=90)->Hi l U i p=p
 |[],_,p,_=>rfl
 |w::U,i,p,hw=>by
  unfold Hi
  rw [if_neg,ov l h U _ _ (λx hx=>hw x (List.mem_cons_of_mem _ hx))]
  rintro ⟨_,hc⟩
  have h1:=hw w List.mem_cons_self
  obtain ⟨t,rfl⟩:=List.isPrefixOf_iff_prefix.1 hc
  cases w with
  |nil=>simp_all
  |cons a w=>exact h h1
theorem ow:∀w ∈ CQ,65<=AE w/\AE w<=90:=by
 have h:CQ.all (λw=>decide (65<=AE w)&&decide (AE w<=90))=true:=GE
 simp_all
theorem xQ (h:¬(65<=AE l/\AE l<=90)):Gn l=(0,0):=by
 have e:=ov l h CQ 0 (0,0) ow
 have key:∀p:Nat×Nat,p=(0,0)->((if p.1=33 then 127 else (p.1:Int),p.2):Int×Nat)=(0,0):=λp U=>by simp_all
 exact key _ e
theorem sR (l:List UInt8):DM l<=l.length:=by
 unfold DM
 split
 .rename_i h
  have U:=Gg (λc=>Ay c==1) (l.drop 1)
  rw [List.length_drop] at U
  have h2:l.drop (1+Bx (λc=>Ay c==1) (l.drop 1))≠[]:=λe=>by rw [e] at h;exact absurd h.2.2 Do
  grind
 omega
theorem ZF (h:HA c=some v):0<=c/\0<=v:=by
 unfold HA at h
 grind
theorem NT {p:Int×Nat} (h:Gq base l=some p):1<=p.2/\p.2<=l.length:=by
 unfold Gq at h
 split at h
 .cases h
 .injection h with h
  subst h
  exact ⟨AC,E5 base l⟩
theorem eD {text:Bool} {p:Int×Nat} (h:GA text l=some p):1<=p.2/\p.2<=l.length:=by
 unfold GA at h
 split at h
 .rename_i v hs
  have:=B8 (l:=l) (k:=1) (ZF hs).1
  grind
 .rename_i hs
  have e1:∀k,0<=AE (l.drop k)->k<l.length:=λk=>B8
  have e2:=e1 1
  have e3:=e1 2
  repeat' split at h
  .grind
  .grind
  .obtain ⟨q,U,rfl⟩:=Option.map_eq_some_iff.1 h
   have:=NT U
   grind
  .obtain ⟨q,U,rfl⟩:=Option.map_eq_some_iff.1 h
   have:=NT U
   grind
  .obtain ⟨q,U,rfl⟩:=Option.map_eq_some_iff.1 h
   have:=NT U
   grind
  .injection h with h;subst h
   have:=WQ (l.drop 1) CQ 0 (0,0) (Nat.zero_le _)
   rw [List.length_drop] at this
   have h7:(Gn (l.drop 1)).2=(Hi (l.drop 1) CQ 0 (0,0)).2:=by simp only [Gn]
   omega
  grind
theorem Hy {text:Bool} {p:Int×Nat} (h:Hj text l=.inr p):1<=p.2/\p.2<=l.length:=by
 unfold Hj at h
 split at h
 .cases h
 .rename_i a r
  have h1:=Ek (a::r)
  have h2:=Hs (l:=a::r) GT
  have h3:=sR (a::r)
  split at h
  .split at h
   .grind
   .split at h
    .cases h
    .rename_i q U
     injection h with h;subst h;exact eD U
  grind
def Dq (l:List UInt8):Sum (Nat×Int) Nat:=
 if AE l=34 then .inr 1
 else match h:Hj true l with
  | .inl e=>.inl (0,e)
  | .inr p=>match Dq (l.drop p.2) with
    | .inl q=>.inl (q.1+p.2,q.2)
    | .inr n=>.inr (n+p.2)
termination_by l.length
decreasing_by
 have:=Hy h
 grind
def Kz (l:List UInt8):List Int:=
 if AE l=34 then []
 else match h:Hj true l with
  | .inl e=>[]
  | .inr p=>if p.1= -1 then Kz (l.drop p.2) else p.1::Kz (l.drop p.2)
termination_by l.length
decreasing_by
 all_goals
  have:=Hy h
  rw [List.length_drop];omega
def JK (pos:Nat) (l:List UInt8):List (Nat×Nat):=
 if AE l=34 then []
 else match h:Hj true l with
  | .inl e=>[]
  | .inr p=>if 0<DM l then (pos,pos+p.2)::JK (pos+p.2) (l.drop p.2) else JK (pos+p.2) (l.drop p.2)
termination_by l.length
decreasing_by
 all_goals
  have:=Hy h
  rw [List.length_drop];omega
def G1 (l:List UInt8):Sum (Nat×Int) Nat:=
 if AE l=39 then .inl (0,50)
 else match Hj false l with
  | .inl e=>.inl (0,e)
  | .inr p=>if AE (l.drop p.2)=39 then .inr (p.2+1) else .inl (p.2,50)
def BD (s:List UInt8) (pos:Nat):Int×Int×Int:=
 if AE (s.drop pos)=34 then match Dq (s.drop (pos+1)) with
  | .inl q=>(0,(pos+1+q.1:Nat),q.2)
  | .inr n=>(14,(pos+1+n:Nat),0)
 else if AE (s.drop pos)=39 then match G1 (s.drop (pos+1)) with
  | .inl q=>(0,(pos+1+q.1:Nat),q.2)
  | .inr n=>(13,(pos+1+n:Nat),0)
 else (0,0,0)
theorem BH.add {i j:Nat} (h:BH l i) (k:BH (l.drop i) j):BH l (i+j):=by
 induction h with
 |zero l=>simp_all
 |step U h ih=>
  rw [Nat.add_assoc]
  refine .step U (ih ?_)
  simp_all
theorem BH.bd (h:BH l k):Bd l k:=by
 induction h with
 |zero l=>exact .zero l
 |@step l k U h ih=>
  rcases FR l with ⟨e,h1⟩|⟨e,h1,h2⟩|⟨e,h1,h2⟩
  .have es:AV l=(AJ l).2:=by unfold AV;rw [if_neg AC]
   rw [es] at ih |-;exact .step U ih
  .have ed:=EA (l:=l) AC AC
   have es:AV l=(AJ l).2:=by unfold AV;rw [if_pos AC,e,ed.1]
   rw [es] at ih |-;exact .step U ih
  .have ed:=EA (l:=l) AC AC
   have ed':=EA (l:=l.drop 1) AC AC
   have es:AV l=2:=by unfold AV;rw [if_pos AC,e]
   have hne':l.drop 1≠[]:=λe=>by rw [e] at h2;exact absurd h2 Do
   rw [es] at ih |-
   have b1:Bd (l.drop 1) (1+k):=by
    have:=Bd.step hne' (k:=k) ke
    rwa [ed'.1] at this
   have:=Bd.step U (k:=1+k) ke
   grind
theorem BH.one (U:0<=AE l) (h1:AE l<128) (h:¬(AE l=13\/AE l=10\/AE l=12)):BH l 1:=by
 have hne:l≠[]:=λe=>by rw [e] at U;exact absurd U Do
 have ed:=EA U h1
 have es:AV l=1:=by
  rcases FR l with ⟨e,_⟩|⟨_,h2,_⟩|⟨_,h2,_⟩
  .unfold AV;simp_all
  .omega
  .omega
 have:=BH.step hne (.zero (l.drop (AV l)))
 simp_all
theorem BH.span {p:Nat×Nat->Bool} (hp:∀d,p d=true->d.1≠10/\d.1≠12/\d.1≠13) (l:List UInt8):BH l (BB p l):=by
 fun_induction BB p l with
 |case1=>exact .zero _
 |case2 a r U ih=>
  have h1:=hp _ U
  have es:AV (a::r)=(AJ (a::r)).2:=by
   unfold AV
   rw [if_neg]
   rcases FR (a::r) with ⟨e,_⟩|⟨_,h2,_⟩|⟨_,h2,_⟩
   .omega
   .have:=EA (l:=a::r) AC AC;omega
   .have:=EA (l:=a::r) AC AC;omega
  have:=BH.step (l:=a::r) (k:=BB p ((a::r).drop (AJ (a::r)).2)) GT ke
  simp_all
 |case3 a r U=>exact .zero _
theorem lX {k:Int} (h:Ay c=k) (U:k≠1):c≠10/\c≠12/\c≠13:=by
 refine ⟨?_,?_,?_⟩<;>(rintro rfl;exact U (h.symm.trans Do))
theorem BH.kind {k:Int} (U:k≠1) (l:List UInt8):BH l (Bx (λc=>Ay c==k) l):=by
 refine BH.span (λd hd=>?_) l
 have:=lX (beq_iff_eq.1 hd) U
 omega
theorem BH.name (l:List UInt8):BH l (IC l):=by
 refine BH.span (λd hd=>?_) l
 have hd:H0 ((d.1:Nat):Int)=true:=hd
 refine ⟨?_,?_,?_⟩<;>(intro e;rw [e] at hd;revert hd;decide)
theorem X6 {a:UInt8} (h:¬BW ((a.toNat:Nat):Int) base<0):48<=a.toNat/\a.toNat<128:=by
 unfold BW at h
 grind
theorem BH.row (base:Int) (l:List UInt8):BH l (Bn base l):=by
 induction l with
 |nil=>exact .zero _
 |cons a r U=>
  unfold Bn
  split
  .exact .zero _
  .rename_i h
   have:=X6 h
   rw [Nat.add_comm]
   exact BH.add (BH.one (l:=a::r) (show (0:Int)<=((a.toNat:Nat):Int) by omega) (show ((a.toNat:Nat):Int)<128 by omega) (show ¬(((a.toNat:Nat):Int)=13\/((a.toNat:Nat):Int)=10\/((a.toNat:Nat):Int)=12) by omega)) U
theorem BH.Xad (l:List UInt8):BH l (EL l):=by
 unfold EL
 split
 .exact BH.add (BH.one AC AC AC) (BH.row _ _)
 .exact .zero _
theorem BH.sign (l:List UInt8):BH l (FV l):=by
 unfold FV
 split
 .exact BH.one AC AC AC
 .exact .zero _
theorem BH.exp (l:List UInt8):BH l (G4 l):=by
 unfold G4
 split
 .rw [Nat.add_assoc]
  refine BH.add (BH.one AC AC AC) (BH.add (BH.sign _) ?_)
  rw [List.drop_drop]
  exact BH.row _ _
 .exact .zero _
theorem BH.num (l:List UInt8):BH l (CN l).2:=by
 unfold CN
 split
 .rename_i h
  unfold BL at h
  split at h
  .rename_i hc
   have hb:=hc.2.1
   unfold DI at hb
   have h1:65<=AE (l.drop 1)/\AE (l.drop 1)<128:=by
    split at hb
    .omega
    .omega
   have U:BH l 2:=BH.add (i:=1) (j:=1) (BH.one AC AC AC) (BH.one AC AC AC)
   exact BH.add U (BH.row _ _)
  omega
 .split
  .exact .zero _
  .refine BH.add (BH.add (BH.row _ _) (BH.Xad _)) (BH.exp _)
theorem sd (h:Ay c=6):32<c/\c<128:=by
 unfold Ay at h
 split at h
 .omega
 .split at h
  .omega
  .split at h
   .omega
   .split at h
    .omega
    .split at h
     .unfold BC at h
      omega
     .unfold Ng at h
      omega
theorem sM (h:FE l=6):32<AE l/\AE l<128:=by
 cases l with
 |nil=>exact absurd h Do
 |cons a r=>
  have h:Ay ((AJ (a::r)).1:Nat)=6:=h
  have U:=sd h
  by_cases ha:a.toNat<128
  .rw [DJ ha] at U
   exact U
  .have:=Qt (r:=r) ha
   omega
theorem BH.plain (l:List UInt8):BH l (A8 l).2:=by
 unfold A8
 split
 .rename_i h
  have:=sM h
  exact BH.one AC AC AC
 .split
  .exact BH.kind Do l
  .split
   .exact BH.name l
   .split
    .exact BH.name l
    .exact .zero _
theorem BH.scan (s:List UInt8) (n:Nat) (k:Int) (h:BH s n):BH s (Fc s n k).2:=by
 fun_induction Fc s n k with
 |case1 n k hn U ih=>
  have hd:AE (s.drop n)=46:=U.2.1
  have c1:=BH.one (l:=s.drop n) AC AC AC
  exact ih (BH.add (BH.add h c1) (BH.plain _))
 |case2 n k hn U=>exact h
 |case3 n k hn=>exact h
theorem BH.word (l:List UInt8):BH l (CB l).2:=BH.scan l _ _ (BH.plain l)
theorem Vd.end (h:Vd l):Bd l l.length:=by
 have:=Bd.span Df l
 rwa [show BB Df l=l.length from h] at this
theorem BH.behind (hv:Vd l) (h0:0<AE (l.drop k)) (h:AE (l.drop k)<128) (hn:AE (l.drop k)≠13):BH l (k+1):=by
 have hk:=B8 (l:=l) (k:=k) AC
 have U:=List.getElem?_eq_getElem hk
 have e:=Ee U
 refine ((Bd.vH hv U AC).2).cut (λhc=>hn ?_)
 simp_all
theorem H7 (d:Nat) (l:List UInt8) (n:Nat) (h:CC d l=some n):2<=n/\AE (l.drop (n - 1))=125:=by
 fun_induction CC d l generalizing n with
 |case1=>cases h
 |case2 d a r hc ih=>
  obtain ⟨m,U,rfl⟩:=Option.map_eq_some_iff.1 h
  have:=ih m U
  refine ⟨AC,?_⟩
  rw [show m+2 - 1=(m - 1)+1+1 by omega,List.drop_succ_cons]
  simp_all
 |case3 d a r hc hk hd=>
  injection h with h
  subst h
  simp_all
 |case4 d a r hc hk hd ih=>
  obtain ⟨m,U,rfl⟩:=Option.map_eq_some_iff.1 h
  have:=ih m U
  refine ⟨AC,?_⟩
  rw [show m+2 - 1=(m - 1)+1+1 by omega,List.drop_succ_cons]
  simp_all
 |case5 d a r hc hk ih=>
  obtain ⟨m,U,rfl⟩:=Option.map_eq_some_iff.1 h
  have:=ih m U
  refine ⟨AC,?_⟩
  rw [show m+1 - 1=(m - 1)+1 by omega,List.drop_succ_cons]
  omega
theorem BH.eol (hv:Vd l):BH l (D5 l):=by
 have hb:Bd l (D5 l)/\¬(0<D5 l/\AE (l.drop (D5 l - 1))=13/\AE (l.drop (D5 l))=10):=by
  have key:∀l:List UInt8,(D5 l=l.length\/∃b,l[D5 l]? =some b/\b.toNat<128)/\¬(0<D5 l/\AE (l.drop (D5 l - 1))=13):=by
   intro l
   induction l with
   |nil=>exact ⟨.inl rfl,λh=>absurd h.1 Do⟩
   |cons a r ih=>
    by_cases hn:0<Hx (a::r)
    .rw [D5,if_pos hn]
     refine ⟨.inr ⟨a,rfl,?_⟩,λh=>absurd h.1 Do⟩
     rcases FR (a::r) with ⟨e,_⟩|⟨_,U,_⟩|⟨_,U,_⟩
     .omega
     .simp only [AE] at U;omega
     .simp only [AE] at U;omega
    .rw [D5,if_neg hn]
     refine ⟨?_,?_⟩
     .simp_all
     .rintro ⟨_,h⟩
      by_cases h0:0<D5 r
      .refine ih.2 ⟨h0,?_⟩
       rwa [show D5 r+1 - 1=(D5 r - 1)+1 by omega,List.drop_succ_cons] at h
      .rw [show D5 r+1 - 1=0 by omega,List.drop_zero] at h
       rcases FR (a::r) with ⟨_,e⟩|⟨e,_⟩|⟨e,_⟩
       .omega
       .omega
       .omega
  refine ⟨?_,λh=>(key l).2 ⟨h.1,h.2.1⟩⟩
  rcases (key l).1 with h|⟨b,h1,U⟩
  .rw [h];exact hv.end
  .exact (Bd.vH hv h1 U).1
 exact hb.1.cut hb.2
theorem BH.note (U:Vd l) (h:CJ l=n):BH l n:=by
 unfold CJ at h
 split at h
 .rename_i hc
  cases hn:CC 1 (l.drop 2) with
  |none=>rw [hn] at h;simp only [EH] at h;omega
  |some m=>
   rw [hn] at h
   simp only [EH] at h
   have:=H7 _ _ _ hn
   rw [List.drop_drop] at this
   have e:n=(2+(m - 1))+1:=AC
   rw [e]
   exact BH.behind U AC AC AC
 .split at h
  .have e:n=Eh l:=AC
   rw [e]
   unfold Eh
   dsimp only
   split
   .exact BH.add (BH.kind Do l) (BH.eol ((Bd.span _ l).vd U))
   .exact .zero _
  .have e:n=0:=AC
   rw [e];exact .zero _
theorem Ta (l:List UInt8) (n:Nat) (h:Dq l=.inr n):1<=n/\AE (l.drop (n - 1))=34:=by
 fun_induction Dq l generalizing n with
 |case1 l U=>simp_all
 |case2 l U e he=>cases h
 |case3 l U p hp q hq ih=>cases h
 |case4 l U p hp m hm ih=>
  injection h with h
  subst h
  have:=ih m hm
  refine ⟨AC,?_⟩
  have h2:=this.2
  rwa [List.drop_drop,show p.2+(m - 1)=m+p.2 - 1 by omega] at h2
theorem BH.quote {p:Nat} (hv:Vd (s.drop p)) (h:(BD s p).1≠0):∃n,(BD s p).2.1=(p+n:Nat)/\2<=n/\BH (s.drop p) n:=by
 unfold BD at h |-
 split
 .rename_i hq
  rw [if_pos hq] at h
  cases U:Dq (s.drop (p+1)) with
  |inl q=>simp_all
  |inr n=>
   have:=Ta _ _ U
   refine ⟨n+1,by grind,AC,?_⟩
   have h2:=this.2
   rw [show s.drop (p+1)=(s.drop p).drop 1 by simp_all,List.drop_drop,show 1+(n - 1)=n by omega] at h2
   exact BH.behind hv AC AC AC
 .rename_i hq
  rw [if_neg hq] at h
  split
  .rename_i hq'
   rw [if_pos hq'] at h
   cases U:G1 (s.drop (p+1)) with
   |inl q=>simp_all
   |inr n=>
    have:1<=n/\AE ((s.drop (p+1)).drop (n - 1))=39:=by
     unfold G1 at U
     split at U
     .cases U
     .grind
    refine ⟨n+1,by grind,AC,?_⟩
    have h2:=this.2
    rw [show s.drop (p+1)=(s.drop p).drop 1 by simp_all,List.drop_drop,show 1+(n - 1)=n by omega] at h2
    exact BH.behind hv AC AC AC
  simp_all
theorem Z4 (l:List (List UInt8)):(strs l).length=l.length:=by simp [strs]
theorem dQ {l:List (List UInt8)} {K:List V->Prop} (h:l[i.toNat]? =some x) (U:0<=i) (k:K [V.str x]):0<=i/\∃e,(strs l)[i.toNat]? =some e/\K e:=
 ⟨U,[V.str x],by simp [strs,h],k⟩
theorem nE {l:List (List UInt8)} {K:Nat->Prop} (k:l.length<4611686018427387904->K l.length):∀m,m=(strs l).length->m<D7->K m:=λm U h=>by
 rw [Z4] at U;subst U;exact k h
theorem Mh {p:UInt8->Bool}:∀(l:List UInt8),(l.dropWhile p).all p=true->l.all p=true
 |[],_=>rfl
 |a::r,h=>by
  rw [List.dropWhile_cons] at h
  by_cases U:p a=true
  .rw [if_pos U] at h;rw [List.all_cons,U,Bool.true_and];exact Mh r h
  simp_all
theorem dropWhile_nil {p:UInt8->Bool}:∀(l:List UInt8),l.dropWhile p=[]↔l.all p=true
 |[]=>by simp
 |a::r=>by
  rw [List.dropWhile_cons,List.all_cons]
  by_cases U:p a=true
  .rw [if_pos U,U,Bool.true_and];exact dropWhile_nil r
  simp_all
theorem UZ (l:List UInt8):Lib.trimB l 45=[]↔l.all (λb=>b==45)=true:=by
 unfold Lib.trimB Lib.trimLeftB Lib.trimRightB
 rw [dropWhile_nil,List.all_reverse]
 refine ⟨λh=>?_,λh=>?_⟩
 .have:=Mh _ h
  grind
 .have:l.reverse.dropWhile (λb=>b==45)=[]:=(dropWhile_nil _).2 (by grind)
  simp_all
theorem zF (a b:UInt8) (l:List UInt8):[a,b].isPrefixOf l=decide (AE l=(a.toNat:Nat)/\AE (l.drop 1)=(b.toNat:Nat)):=by
 rcases l with _|⟨x,_|⟨y,r⟩⟩
 .rfl
 .show (a==x&&false)=_
  rw [Bool.and_false]
  refine (decide_eq_false λe=>?_).symm
  have h:(-1:Int)=(b.toNat:Nat):=e.2;omega
 .show (a==x&&(b==y&&true))=decide (((x.toNat:Nat):Int)=(a.toNat:Nat)/\((y.toNat:Nat):Int)=(b.toNat:Nat))
  rw [Bool.and_true,Bool.eq_iff_iff,Bool.and_eq_true,beq_iff_eq,beq_iff_eq,decide_eq_true_iff]
  exact ⟨λe=>by simp_all,λe=>⟨UInt8.toNat_inj.1 AC,UInt8.toNat_inj.1 AC⟩⟩
theorem dc {w:(AF->Env->St->Prop)->Env->St->Prop} {U:Nat->Option ((AF->Env->St->Prop)->Env->St->Prop)} {env:Env} {st:St}
 (h:w (eK (λl env' st'=>∃y:Empty,(λe:Empty=>(e.elim:Nat)) y=l/\(λ_:Empty=>True) y/\((λe:Empty=>(e.elim:Env)) y).FF env'/\St.le ((λe:Empty=>(e.elim:St)) y) st') Q) env st):QM w U Q env st:=
 ⟨Empty,λe=>e.elim,λe=>e.elim,λe=>e.elim,λ_=>True,λe=>e.elim,h,λx=>x.elim⟩
theorem xh {R:AB->St->Prop} {r r':AB} {st st':St} (hle:St.le st st') (h:R r st) (e:r=r'):∃r2 U,(r2=r'\/r2=r'.wk)/\St.le U st'/\R r2 U:=⟨r,st,.inl e,hle,h⟩
end Go.Aw
namespace Go.Proofs.Z
open Go Go.Aw
section
variable {st:St} {R:AB->St->Prop}
theorem WX (e:i.toNat=n) (h:R (.ret (.bool (decide (AE (s.drop n)=123/\AE (s.drop (n+1))=45)))) st):PC 73 [.str (s.drop i.toNat),.str [123,45]] st R:=by
 refine Jz ?_
 rw [zF,e,List.drop_drop]
 exact h
theorem sf (e:i.toNat=n) (h:R (.ret (.bool (decide (AE (s.drop n)=45/\AE (s.drop (n+1))=125)))) st):PC 73 [.str (s.drop i.toNat),.str [45,125]] st R:=by
 refine Jz ?_
 rw [zF,e,List.drop_drop]
 exact h
theorem oF (hl:s.length<=100000000) (hs:AE s=123/\AE (s.drop 1)=45) (h:R (.ret (.int .i64 (EH 2 (CC 1 (s.drop 2))))) st):PC 74 [.str s] st R:=by
 have hs0:AE (s.drop 0)=123:=hs.1
 refine pB Tryz.func74 ?_
 repeat' ((conv=>whnf);first|(refine Cf ?_;intros)|(refine Cg ?_ ?_<;>intro _)|refine dc ?_)
 refine cw (α:=Nat) (β:=Nat) (λpos d=>[(3,.int .i64 (d:Int)),(4,.int .i64 (pos:Int))]) (λ_ _=>[]) [0] [] (λ_ _=>st)
  (λpos d=>pos<=s.length/\d<=pos/\((pos=0/\d=0)\/(1<=d/\2<=pos/\EH 2 (CC 1 (s.drop 2))=EH pos (CC d (s.drop pos))))) (λpos _=>s.length - pos) 0 0 ⟨Nat.zero_le _,Nat.le_refl _,.inl ⟨rfl,rfl⟩⟩ Yl (St.le_refl _) ?_
 rintro pos d ⟨h1,h2,h3⟩
 have q1:=λh=>B8 (l:=s) (k:=pos+1) h
 rcases h3 with ⟨rfl,rfl⟩|⟨h3,h4,h5⟩
 .have hs1:AE (s.drop (0+1))=45:=hs.2
  repeat' ((conv=>whnf);first|(refine Cf ?_;intros)|(refine Cg ?_ ?_<;>intro _)|refine WX (n:=0) AC ?_)
  .conv=>whnf
   exact ⟨(2,1),⟨AC,AC,.inr ⟨Nat.le_refl _,Nat.le_refl _,rfl⟩⟩,AC,Yl,St.le_refl _⟩
 repeat' ((conv=>whnf);first|(refine Cf ?_;intros)|(refine Cg ?_ ?_<;>intro _)|refine WX (n:=pos) AC ?_|refine sf (n:=pos) AC ?_)
 .have k:AE (s.drop pos)=123/\AE (s.drop (pos+1))=45:=FS
  conv=>whnf
  exact ⟨(pos+2,d+1),⟨AC,AC,.inr ⟨AC,AC,h5.trans (jf k.1 k.2)⟩⟩,AC,Yl,St.le_refl _⟩
 .have k:AE (s.drop pos)=45/\AE (s.drop (pos+1))=125:=FS
  have e:=Sq (d:=d) k.1 k.2
  rw [if_pos AC] at e
  exact fin h (Cb AC)
 .have k:AE (s.drop pos)=45/\AE (s.drop (pos+1))=125:=FS
  have e:=Sq (d:=d) k.1 k.2
  rw [if_neg AC] at e
  obtain ⟨U,rfl⟩:∃U,d=U+1:=⟨d - 1,AC⟩
  rw [Nat.add_sub_cancel] at e
  have e2:((U+1:Nat):Int) - 1=(U:Int):=AC
  refine ⟨(pos+2,U),⟨AC,AC,.inr ⟨AC,AC,h5.trans e⟩⟩,AC,?_,St.le_refl _⟩
  rw [<-e2]
  exact Yl
 .conv=>whnf
  exact ⟨(pos+1,d),⟨AC,AC,.inr ⟨AC,AC,h5.trans (ud AC AC AC)⟩⟩,AC,Yl,St.le_refl _⟩
 .exact fin h (Cb (by rw [h5,oE AC]))
theorem xU (hl:s.length<=100000000) (h:R (.ret (.int .i64 (Eh s:Nat))) st):PC 75 [.str s] st R:=by
 have hr:=Gg (λc=>Ay c==5) s
 generalize hn:Bx (λc=>Ay c==5) s=n at hr
 have hrun:∀{R:AB->St->Prop},R (.ret (.int .i64 (n:Nat))) st->PC 72 [.str s,.int .i64 0,.int .i64 5] st R:=λh=>wo AC ke
 obtain ⟨rest,hg⟩:=iS (s.drop n) 0 0 (Nat.le_refl _) (Nat.zero_le _)
 rw [List.drop_zero,List.drop_zero,Nat.zero_add] at hg
 have U:∀{R:AB->St->Prop},(∀own:AH,own.BS st->R (.ret (.slice 1 (strs (((s.drop n).take (D5 (s.drop n)))::rest)) own)) (own.st st (((s.drop n).take (D5 (s.drop n)))::rest).length))->PC 120 [.str (s.drop (n:Int).toNat)] st R:=
  λh=>eY (by grind) ke
 refine pB Tryz.func75 ?_
 have hel:=eB (s.drop n)
 have hlt:((s.drop n).take (D5 (s.drop n))).length=D5 (s.drop n):=NE
 rw [List.length_drop] at hel
 have hrl:Eh s=if 2<=n/\(s.take n).all (λb=>b==45)=true then n+D5 (s.drop n) else 0:=by unfold Eh;rw [hn]
 repeat' ((conv=>whnf);first|(refine Cf ?_;intros)|(refine Cg ?_ ?_<;>intro _)|refine hrun ?_|refine yB Do ?_|refine U (λown ho=>?_)|refine dQ (l:=((s.drop n).take (D5 (s.drop n)))::rest) rfl AC ?_)
 .rw [if_neg AC] at hrl
  exact fin h (Cb AC)
 .have ht:=(UZ (s.take n)).1 (by grind)
  rw [if_pos ⟨AC,ht⟩] at hrl
  exact xh (AH.BZ AC) h (Cb AC)
 .have ht:¬(s.take n).all (λb=>b==45)=true:=λe=>absurd ((UZ (s.take n)).2 e) (by grind)
  rw [if_neg (λe=>ht e.2)] at hrl
  exact fin h (Cb AC)
theorem Uy (h:CJ (s.drop pos)<0):B7 s pos=(0,60):=if_pos h
theorem ft (h:CJ (s.drop pos)=0):B7 s pos=(0,0):=by unfold B7;simp_all
theorem ji {n:Int} (h:CJ (s.drop pos)=n) (U:0<n) (e:i=pos+n):B7 s pos=(i,0):=by unfold B7;grind
theorem NS {n:Int} (h:CJ (s.drop pos)=n) (U:0<n) (e:i=pos+n):AB.ret (.BM [.int .i64 (B7 s pos).1,.int .i64 (B7 s pos).2])=AB.ret (.BM [.int .i64 i,.int .i64 0]):=by rw [ji h U e]
theorem um (hl:s.length<=100000000) (hp:pos<s.length) (h:R (.ret (.BM [.int .i64 (B7 s pos).1,.int .i64 (B7 s pos).2])) st):PC 48 [.str s,.int .i64 pos] st R:=by
 have hle:=Zh (s.drop pos)
 rw [List.length_drop] at hle
 have U:(s.drop pos).length<=100000000:=IR
 have d1:(s.drop pos).drop 1=s.drop (pos+1):=List.drop_drop
 obtain ⟨e,he⟩:∃e,s[pos]? =some e:=⟨s[pos],List.getElem?_eq_getElem hp⟩
 have he':s[(pos:Int).toNat]? =some e:=he
 have hh:=Ee he
 refine pB Tryz.func48 ?_
 by_cases hk:AE (s.drop pos)=123/\AE (s.drop (pos+1))=45
 .have hN:CJ (s.drop pos)=EH 2 (CC 1 ((s.drop pos).drop 2)):=if_pos ⟨hk.1,ke⟩
  have hc:∀{R:AB->St->Prop},R (.ret (.int .i64 (CJ (s.drop pos)))) st->PC 74 [.str (s.drop (pos:Int).toNat)] st R:=λh=>oF U ⟨hk.1,ke⟩ ke
  repeat' ((conv=>whnf);first|(refine Cf ?_;intros)|(refine Cg ?_ ?_<;>intro _)|refine WX (n:=pos) AC ?_|refine hc ?_)
  all_goals first
   |exact fin h (by rw [Uy AC])
   |exact fin h (by rw [ft AC])
   |exact fin h (NS rfl AC AC)
   |exact fin h (NS (hN AC) AC AC)
 .have hN:AE (s.drop pos)=45->CJ (s.drop pos)=(Eh (s.drop pos):Nat):=λe=>by unfold CJ;omega
  have hN0:¬AE (s.drop pos)=45->CJ (s.drop pos)=0:=λe=>by unfold CJ;simp_all
  have hc:∀{R:AB->St->Prop},R (.ret (.int .i64 (Eh (s.drop pos):Nat))) st->PC 75 [.str (s.drop (pos:Int).toNat)] st R:=λh=>xU U h
  repeat' ((conv=>whnf);first|(refine Cf ?_;intros)|(refine Cg ?_ ?_<;>intro _)|refine WX (n:=pos) AC ?_|refine hc ?_)
  all_goals first
   |exact fin h (by rw [Uy AC])
   |exact fin h (by rw [ft AC])
   |exact fin h (NS rfl AC AC)
   |exact fin h (NS (hN AC) AC AC)
end
end Go.Proofs.Z
namespace Go.Aw
open Go
def L8 (l:List UInt8):Int:=if AE l<0 then 0 else AE l
theorem wU {i:Nat} {e:UInt8} (h:s[i]? =some e):L8 (s.drop i)=(e.toNat:Nat):=by unfold L8;rw [Ee h,if_neg AC]
theorem lM {i:Nat} (h:s.length<=i):L8 (s.drop i)=0:=by unfold L8;rw [HW h];rfl
theorem KI (l:List UInt8):(AE l= -1/\L8 l=0)\/(0<=AE l/\L8 l=AE l):=by
 have:=mX l
 unfold L8
 split
 .exact .inl ⟨AC,rfl⟩
 .exact .inr ⟨AC,rfl⟩
def rv (l:List (Nat×Nat)):List (List V):=l.map λp=>[V.int .i64 (p.1:Int),V.int .i64 (p.2:Int)]
def TY (st:St) (n:Nat):AH->Prop
 | .full=>True
 | .tok b=>st.hw b=some n
 | .any=>False
def kZ (st0:St):AH->Prop
 | .tok b=>st0.fresh b
 |_=>True
def dK:AH->AH->Prop
 | .tok b,.tok c=>b≠c
 |_,_=>True
structure Ce (st0 st:St) (w1:AH) (n1:Nat) (w2:AH) (n2:Nat):Prop where
 o1:TY st n1 w1
 o2:TY st n2 w2
 f1:kZ st0 w1
 f2:kZ st0 w2
 ne:dK w1 w2
 le:st0.le st
theorem dK.symm {a b:AH} (h:dK a b):dK b a:=by
 cases a<;>cases b<;>first|exact h|exact Ne.symm h
theorem Ce.swap {st:St} (h:Ce st0 st w1 n1 w2 n2):Ce st0 st w2 n2 w1 n1:=⟨h.o2,h.o1,h.f2,h.f1,h.ne.symm,h.le⟩
theorem Ce.set {st:St} (h:Ce st0 st w1 n1 w2 n2) (hb:st0.box b=none) (cs:List V):Ce st0 (st.Aa b cs) w1 n1 w2 n2:=
 ⟨by have:=h.o1;cases w1<;>exact this,by have:=h.o2;cases w2<;>exact this,h.f1,h.f2,h.ne,St.Ak h.le hb cs⟩
theorem LQ {st:St} {sz bytes:Nat} {es new:List (List V)} {K:V->St->Prop} (h:Ce st0 st w1 n1 w2 n2) (hn:n1=es.length*sz)
 (h1:(es.length+new.length)*bytes<=140737488355328) (h2:es.length+new.length<D7) (h3:(new.all λv=>v.all V.sc)=true) (hne:new≠[])
 (k:∀w1' st',Ce st0 st' w1' ((es.length+new.length)*sz) w2 n2->st'.box=st.box->K (.slice sz (es++new.map (·.map V.KD)) w1') st'):Am sz bytes es w1 new st K:=by
 subst hn
 have frs:∀{x:Nat},st.fresh x->st0.fresh x:=λ{x} hx=>by
  refine ⟨?_,?_⟩
  .cases e:st0.box x with
   |none=>rfl
   |some c=>have:=h.le.1 _ _ e;rw [hx.1] at this;cases this
  .cases e:st0.hw x with
   |none=>rfl
   |some c=>have:=h.le.2 _ _ e;rw [hx.2] at this;cases this
 refine ⟨h1,h2,AR h3 ?_⟩
 cases hw:w1 with
 |any=>have:=h.o1;rw [hw] at this;exact this
 |full=>
  refine ⟨λe=>absurd e hne,λ_=>.inl λb hb=>k (.tok b) _ ⟨?_,?_,frs hb,h.f2,?_,St.Js h.le (frs hb).2 _⟩ rfl⟩
  .simp [TY,St.Co]
  .have:=h.o2
   cases w2 with
   |tok c=>
    have hc:st.hw c=some n2:=this
    have:c≠b:=λe=>by subst e;rw [hb.2] at hc;cases hc
    simp [TY,St.Co,this,hc]
   |_=>exact this
  .cases w2 with
   |tok c=>
    have hc:st.hw c=some n2:=h.o2
    exact λe=>by subst e;rw [hb.2] at hc;cases hc
   |_=>trivial
 |tok b=>
  subst hw
  have hb:st.hw b=some (es.length*sz):=h.o1
  have hb0:st0.fresh b:=h.f1
  refine ⟨hb,.inl λb' U=>k (.tok b') _ ⟨?_,?_,?_,h.f2,?_,?_⟩ rfl⟩
  .simp [TY,St.Co]
  .have:=h.o2
   cases w2 with
   |tok c=>
    have hc:st.hw c=some n2:=this
    have hcb:b≠c:=h.ne
    have hcb':c≠b':=λe=>by
     subst e
     rcases U with e|U
     .exact hcb e.symm
     .rw [U.2] at hc;cases hc
    simp [TY,St.Co,St.Fe,hcb',hcb.symm,hc]
   |_=>exact this
  .rcases U with rfl|U
   .exact hb0
   .exact frs U
  .cases w2 with
   |tok c=>
    have hc:st.hw c=some n2:=h.o2
    have hcb:b≠c:=h.ne
    refine λ(e:b'=c)=>?_
    subst e
    rcases U with e|U
    .exact hcb e.symm
    .rw [U.2] at hc;cases hc
   |_=>trivial
  .refine ⟨λx cs e=>h.le.1 x cs e,λx n e=>?_⟩
   have e1:=h.le.2 x n e
   have hx:x≠b:=λhx=>by subst hx;rw [hb0.2] at e;cases e
   have hx':x≠b':=λhx=>by
    subst hx
    rcases U with e'|U
    .exact hx e'
    .rw [U.2] at e1;cases e1
   simp [St.Co,St.Fe,hx,hx',e1]
theorem IA (l:List Int):(ints l).length=l.length:=by simp [ints]
theorem Kf (l:List (Nat×Nat)):(rv l).length=l.length:=by simp [rv]
theorem Zx {st:St} {K:V->St->Prop} (h:Ce st0 st w1 o.length w2 n2) (hl:o.length<=1000000000)
 (k:∀U st',Ce st0 st' U (o++[v]).length w2 n2->st'.box=st.box->K (.slice 1 (ints (o++[v])) U) st'):Am 1 8 (ints o) w1 [[.int .i64 v]] st K:=by
 refine LQ h (by rw [IA];omega) (by rw [IA,List.length_singleton];omega) (by rw [IA,List.length_singleton];unfold D7;omega) rfl GT (λU st' hr hb=>?_)
 have:=k U st' (by rw [IA] at hr;rw [List.length_append];simpa using hr) hb
 rwa [show ints (o++[v])=ints o++([[V.int .i64 v]]:List (List V)).map (·.map V.KD) by simp [ints,V.KD]] at this
theorem jB {st:St} {p:Nat×Nat} {a b:Int} {K:V->St->Prop} (h:Ce st0 st w1 n1 w2 (2*g.length)) (hl:g.length<=1000000000) (ha:a=(p.1:Int)) (hb:b=(p.2:Int))
 (k:∀U st',Ce st0 st' w1 n1 U (2*(g++[p]).length)->st'.box=st.box->K (.slice 2 (rv (g++[p])) U) st'):Am 2 16 (rv g) w2 [[.int .i64 a,.int .i64 b]] st K:=by
 subst ha;subst hb
 refine LQ h.swap (by rw [Kf];omega) (by rw [Kf,List.length_singleton];omega) (by rw [Kf,List.length_singleton];unfold D7;omega) rfl GT (λw1' st' hr hb=>?_)
 have:=k w1' st' (by rw [Kf] at hr;rw [List.length_append];have:=hr.swap;simpa [Nat.mul_comm] using this) hb
 rwa [show rv (g++[p])=rv g++([[V.int .i64 (p.1:Int),V.int .i64 (p.2:Int)]]:List (List V)).map (·.map V.KD) by simp [rv,V.KD]] at this
theorem St.AM (st:St) (b:Nat) (cs:List V):(st.Aa b cs).box b=some cs:=by simp [St.Aa]
theorem Ao {st:St} {K:List V->Prop} (h:st.box b=some cs) (k:K cs):∃cs,st.box b=some cs/\K cs:=⟨cs,h,k⟩
end Go.Aw
namespace Go.Proofs.Z
open Go Go.Aw
def Mx (c:Int):Int:=if c=97 then 0 else if c=98 then 1 else if c=116 then 2 else if c=110 then 3 else if c=118 then 4 else if c=102 then 5 else if c=114 then 6 else -1
theorem wI (u:UInt8):Lib.indexByte [97,98,116,110,118,102,114] u=Mx (u.toNat:Nat):=by
 have key:∀k:UInt8,((u.toNat:Nat):Int)=((k.toNat:Nat):Int)->u=k:=λk e=>UInt8.toNat_inj.1 AC
 unfold Mx
 by_cases U:((u.toNat:Nat):Int)=97
 .rw [key 97 U];rfl
 by_cases h2:((u.toNat:Nat):Int)=98
 .rw [key 98 h2];rfl
 by_cases h3:((u.toNat:Nat):Int)=116
 .rw [key 116 h3];rfl
 by_cases h4:((u.toNat:Nat):Int)=110
 .rw [key 110 h4];rfl
 by_cases h5:((u.toNat:Nat):Int)=118
 .rw [key 118 h5];rfl
 by_cases h6:((u.toNat:Nat):Int)=102
 .rw [key 102 h6];rfl
 by_cases h7:((u.toNat:Nat):Int)=114
 .rw [key 114 h7];rfl
 rw [if_neg U,if_neg h2,if_neg h3,if_neg h4,if_neg h5,if_neg h6,if_neg h7]
 have ne:∀k:UInt8,¬((u.toNat:Nat):Int)=((k.toNat:Nat):Int)->(k==u)=false:=λk e=>beq_eq_false_iff_ne.2 (λx=>e (by rw [x]))
 simp only [Lib.indexByte,ne 97 U,ne 98 h2,ne 116 h3,ne 110 h4,ne 118 h5,ne 102 h6,ne 114 h7]
 rfl
def qC (s:List UInt8) (p:Nat) (tx:Bool) (o:List Int) (w1:AH) (g:List (Nat×Nat)) (w2:AH):List V:=[.str s,.int .i64 (p:Int),.bool tx,.slice 1 (ints o) w1,.slice 2 (rv g) w2]
def Kg (p:Int) (e:Int):V:=.iface 257 (.agg [.int .i64 p,.int .i64 e])
section
variable {st:St} {R:AB->St->Prop}
theorem GY {v:V} {p e:Int} (h:R (.Cd (Kg p e)) st):PC 245 [v,.int .i64 p,.int .i64 e] st R:=by
 refine pB Tryz.func245 ?_
 repeat' ((conv=>whnf);first|(refine Cf ?_;intros)|(refine Cg ?_ ?_<;>intro _)|fail)
 all_goals exact fin h rfl
theorem Fl {p:Nat} (hl:s.length<=100000000) (hp:p<=s.length) (hk:k<=10) (hb:st.box b=some (qC s p tx o w1 g w2))
 (h:R (.ret (.int .u8 (L8 (s.drop (p+k))))) st):PC 243 [.ptr b 0,.int .i64 k] st R:=by
 refine pB Tryz.func243 ?_
 have e0:((p:Int)+(k:Int)).toNat=p+k:=AC
 by_cases U:p+k<s.length
 .obtain ⟨e,he⟩:∃e,s[p+k]? =some e:=⟨s[p+k],List.getElem?_eq_getElem U⟩
  have he':s[((p:Int)+(k:Int)).toNat]? =some e:=by rw [e0];exact he
  rw [wU he] at h
  repeat' ((conv=>whnf);first|exact D2|(refine Cf ?_;intros)|(refine D3 ?_ ?_ ?_;rotate_left)|(refine Cg ?_ ?_<;>intro _)|refine Ao hb ?_|with_reducible refine WF ?_)
  all_goals exact fin h rfl
 .rw [lM AC] at h
  repeat' ((conv=>whnf);first|exact D2|(refine Cf ?_;intros)|(refine D3 ?_ ?_ ?_;rotate_left)|(refine Cg ?_ ?_<;>intro _)|refine Ao hb ?_|with_reducible refine WF ?_)
  all_goals exact fin h rfl
theorem yQ (U:0<=c) (h1:c<=255) (h:R (.ret (.int .i64 (Mx c))) st):PC 294 [.str [97,98,116,110,118,102,114],.int .u8 c] st R:=by
 obtain ⟨u,rfl⟩:∃u:UInt8,c=((u.toNat:Nat):Int):=⟨UInt8.ofNat c.toNat,by rw [UInt8.toNat_ofNat'];omega⟩
 exact wV (by rw [wI];exact h)
def yn:Option Int->V
 |some v=>.BM [.int .i64 v,.bool true]
 |none=>.BM [.int .i64 0,.bool false]
theorem pV (U:0<=c) (h1:c<=255) (h:R (.ret (yn (HA c))) st):PC 332 [.int .u8 c] st R:=by
 have ha:(Mx c= -1/\¬(c=97\/c=98\/c=116\/c=110\/c=118\/c=102\/c=114))\/(0<=Mx c/\Mx c<=6/\((c=97/\Mx c=0)\/(c=98/\Mx c=1)\/(c=116/\Mx c=2)\/(c=110/\Mx c=3)\/(c=118/\Mx c=4)\/(c=102/\Mx c=5)\/(c=114/\Mx c=6))):=by
  unfold Mx
  (repeat' split)<;>first|(left;omega)|(right;omega)
 refine pB Tryz.func332 ?_
 repeat' ((conv=>whnf);first|(refine Cf ?_;intros)|(refine Cg ?_ ?_<;>intro _)|refine yQ U h1 ?_)
 all_goals first
  |exact fin h (by rw [show HA c=some c by unfold HA;rw [if_pos AC]];rfl)
  |(have e:HA c=some (7+Mx c):=by
     unfold HA
     rw [if_neg AC]
     (repeat' split)<;>first|(congr 1;omega)|(exfalso;omega)
    exact fin h (by rw [e];rfl))
  |(have e:HA c=none:=by
     unfold HA
     rw [if_neg AC]
     (repeat' split)<;>first|rfl|(exfalso;omega)
    exact fin h (by rw [e];rfl))
end
end Go.Proofs.Z
namespace Go.Proofs.Z
open Go Go.Aw Go.Shelf
theorem jJ {I : Mem} {st : St} {w : World} (hs : CU I st w) : Lib.TabIs Tryz.prog w "strings.asciiSpace" .u8 Lib.asciiSpaceTab := by
 obtain ⟨c,ty,h1,h2⟩:=hs.shape 4 256 hs.UU.pZ
 have hg : Tryz.prog.globalNamed "strings.asciiSpace" = some 4 := by kernel_rfl
 unfold Lib.TabIs World.var?
 rw [hg]
 simp only [Option.bind_some,h1,Option.some.injEq]
 have hlen:Lib.asciiSpaceTab.length=256:=GE
 refine Array.ext (by rw [h2];simp [hlen]) λi hi hi'=>?_
 have U:=hs.cell _ _ _ (hs.UU.space i AC)
 simp only [World.cell?,h1,Option.isSome_none,Bool.false_eq_true,if_false] at U
 rw [Array.getElem?_eq_getElem hi] at U
 injection U with U
 rw [U]
 have hi2:i<Lib.asciiSpaceTab.length:=by rw [hlen];omega
 simp [List.getD_eq_getElem?_getD,List.getElem?_eq_getElem hi2]
section
variable {st:St} {R:AB->St->Prop}
theorem mN (hz:s.length<4294967281) (ha:∀b ∈ s,b.toNat<128) (h:R (.ret (.slice 1 (strs (Lib.fields s)) .any)) st) (hl:∀x ∈ Lib.fields s,x.length<D7) (hn:(Lib.fields s).length<D7):PC 214 [.str s] st R:=by
 refine ⟨λI w U hs hc=>?_,⟨_,Tryz.func214,Do,Do⟩⟩
 simp only [Aq,AL] at hc
 obtain ⟨c,r,rfl,⟨rfl,_⟩,rfl⟩:=hc
 refine (Tryz.strings_Fields ⟨s.toArray⟩ w (by show s.toArray.size<_;simpa using hz) (λj b e=>ha b (List.mem_of_getElem? (by simpa using e))) (jJ hs)).mono λe w' ⟨he,hw⟩=>?_
 subst hw
 obtain ⟨h1,h2,h3⟩:=hs.row ((Lib.fields s).map λl=>Value.string ⟨l.toArray⟩) 9
 refine ⟨_,_,.ret _,h1,h2,?_,h⟩
 subst he
 exact pn (Lib.fields s) hl hn h3
end
def VT (p:Nat->Bool) (s:List UInt8):Int:=if BB (λd=> !(p d.1)) s<s.length then (BB (λd=> !(p d.1)) s:Nat) else -1
theorem idx_eq (p:Nat->Bool) (s:List UInt8):∀(f pos:Nat),pos<=s.length->s.length - pos<=f->Lib.idxFuncFrom p true ⟨s.toArray⟩ f pos=if BB (λd=> !(p d.1)) (s.drop pos)<s.length - pos then ((pos+BB (λd=> !(p d.1)) (s.drop pos):Nat):Int) else -1
 |0,pos,h1,h2=>by
  rw [if_neg AC];rfl
 |f+1,pos,h1,h2=>by
  unfold Lib.idxFuncFrom
  have hz:(⟨s.toArray⟩:ByteArray).size=s.length:=by simp [ByteArray.size]
  rw [hz]
  by_cases U:pos<s.length
  .rw [if_pos U,Vv U]
   rcases hd:AJ (s.drop pos) with ⟨c,m⟩
   have hr:=rune_le U hd.symm
   dsimp only
   by_cases hc:p c=true
   .rw [if_pos hc,En (p:=λd=> !(p d.1)) (by rw [hd];simp [hc]),if_pos AC];rfl
   .rw [if_neg hc,idx_eq p s f (pos+m) hr.1 AC]
    have e:=Cp (p:=λd=> !(p d.1)) (VC U) (by rw [hd];simpa using hc)
    rw [hd,List.drop_drop] at e
    dsimp only at e
    rw [e]
    by_cases hk:BB (λd=> !(p d.1)) (s.drop (pos+m))<s.length - (pos+m)
    .rw [if_pos hk,if_pos AC];congr 1;omega
    .rw [if_neg hk,if_neg AC]
  .rw [if_neg U,if_neg AC]
section
variable {st:St} {R:AB->St->Prop}
def xS:St:=⟨λ_=>none,λ_=>none⟩
theorem eM {g:FuncId} {p:Nat->Bool} (hg:∀c:Nat,c<=1114111->PC g [.int .i32 (c:Int)] xS λr _=>r=.ret (.bool (p c))) (h:R (.ret (.int .i64 (VT p s))) st):PC 44 [.str s,.func g [] []] st R:=by
 refine DF ⟨_,Tryz.func44,Do,Do⟩ _ (λI w U hs hc=>?_) h
 simp only [Aq,AL] at hc
 obtain ⟨c1,r1,rfl,⟨rfl,hl⟩,c2,r2,rfl,⟨az,cs,rfl,rfl,rfl⟩,rfl⟩:=hc
 obtain ⟨fn,p1,p2,p3⟩:=(hg 0 Do).b
 have eg:∀args w,(callFunc g args).run Tryz.prog w=.ok (.enter g args) w:=λargs w=>by
  have hb:fn.body.isNone=false:=by cases hb:fn.body<;>simp_all
  simp only [callFunc,Sem.run_bind,Result.andThen_ok,run_program,p1]
  rw [p3]
  simp [hb]
 have hp:PredGrows Tryz.prog g #[] p w:=λW x hx hb=>by
  obtain ⟨_,hW⟩:=hs.below hb
  have hW0:CU I xS W:=⟨hW.cell,hW.shape,λb cs e=>(by cases e),λb e=>absurd rfl e,λb n e=>(by cases e),hW.UU⟩
  refine ((hg x hx).a I W [.int .i32 x] hW0 (by simp only [Aq,AL];exact ⟨_,_,rfl,rfl,rfl⟩)).mono ?_
  rintro e w' ⟨I',st',r,k1,k2,k3,rfl⟩
  refine ⟨?_,⟨k1.os,k1.tape,k1.output,k1.size,λk hk=>k1.Mn k hk rfl rfl⟩⟩
  cases e with
  |returned c=>
   have k3:AL I' (.bool (p x)) c:=k3
   simp only [AL] at k3
   rw [k3]
  |panicked _=>exact k3.elim
  |outgrown=>exact k3.elim
 refine (Tryz.strings_IndexFunc_grows g #[] eg p ⟨s.toArray⟩ w hp).mono λe w' ⟨he,hb⟩=>⟨⟨_,he,?_⟩,hb⟩
 simp only [AL]
 unfold Lib.idxFunc VT
 rw [idx_eq p s _ 0 (Nat.zero_le _) (by simp [ByteArray.size]),List.drop_zero,Nat.sub_zero,Nat.zero_add]
end
end Go.Proofs.Z
namespace Go.Aw
open Go
def Sn:List UInt8:=[78,85,76,32,83,79,72,32,83,84,88,32,69,84,88,32,69,79,84,32,69,78,81,32,65,67,75,32,66,69,76,32,66,83,32,72,84,32,76,70,32,86,84,32,70,70,32,67,82,32,83,79,32,83,73,32,68,76,69,32,68,67,49,32,68,67,50,32,68,67,51,32,68,67,52,32,78,65,75,32,83,89,78,32,69,84,66,32,67,65,78,32,69,77,32,83,85,66,32,69,83,67,32,70,83,32,71,83,32,82,83,32,85,83,32,83,80,32,68,69,76]
theorem VJ:Lib.fields Sn=CQ:=GE
theorem oC:∀b ∈ Sn,b.toNat<128:=by
 have h:Sn.all (λb=>decide (b.toNat<128))=true:=GE
 simp_all
theorem Ur:∀w ∈ CQ,1<=w.length/\w.length<=3:=by
 have h:CQ.all (λw=>decide (1<=w.length)&&decide (w.length<=3))=true:=GE
 simp_all
theorem tY:CQ.length=34:=H1
theorem XK {c:Nat} (h:pos<s.length) (hd:(c,m)=AJ (s.drop pos)) (k:¬BW (c:Int) base<0):Hg base v (s.drop pos)=Hg base (min (v*base+BW (c:Int) base) 1114112) (s.drop (pos+1)):=by
 rw [List.drop_eq_getElem_cons h] at hd |-
 by_cases hb:s[pos].toNat<128
 .rw [DJ hb] at hd
  injection hd with U h2
  subst U
  rw [Hg,if_neg k]
 .have:=Qt (r:=s.drop (pos+1)) hb
  rw [<-hd] at this
  exact absurd (Jj (c:=(c:Int)) (base:=base) AC) k
theorem L4 {c:Nat} (h:pos<s.length) (hd:(c,m)=AJ (s.drop pos)) (k:BW (c:Int) base<0):Hg base v (s.drop pos)=v:=by
 rw [List.drop_eq_getElem_cons h] at hd |-
 by_cases hb:s[pos].toNat<128
 .rw [DJ hb] at hd
  injection hd with U h2
  subst U
  rw [Hg,if_pos k]
 .rw [Hg,if_pos (Jj AC)]
theorem Ph (h:s.length<=pos):Hg base v (s.drop pos)=v:=by rw [List.drop_eq_nil_iff.2 h];rfl
theorem Lr {b:Int}:BW c b<0\/BW c b<b:=by
 unfold BW
 grind
theorem bB {b:Int} {K:Int->Prop} (h0:0<=v) (h1:v<=1114112) (hb:0<=b) (U:b<=16) (hk:¬BW c b<0) (k:K (v*b+BW c b)):∃r,r=IntKind.i64.wrap (v*b+BW c b)/\K r:=by
 have h2:0<=v*b:=Int.mul_nonneg h0 hb
 have h3:v*b<=1114112*16:=Int.mul_le_mul h1 U hb Do
 have h4:=Lr (c:=c) (b:=b)
 exact Wq AC AC k
theorem oB:Sn.length<1000:=GE
theorem oh {a b:Int} {K:Int->Prop} (k:K (min a b)):∃r,r=(if b<a then b else a)/\K r:=⟨min a b,AC,k⟩
theorem jc {i c:Nat} (h:CQ[i]? =some x):Hi l (CQ.drop i) i (c,n)=Hi l (CQ.drop (i+1)) (i+1) (if n<x.length/\x.isPrefixOf l=true then (i,x.length) else (c,n)):=by
 rw [drop_at h,Hi]
theorem tW {c:Nat} (h:Hi l CQ 0 (0,0)=(c,n)):Gn l=(if c=33 then 127 else (c:Int),n):=by
 have key:∀p:Nat×Nat,p=(c,n)->((if p.1=33 then 127 else (p.1:Int),p.2):Int×Nat)=(if c=33 then 127 else (c:Int),n):=λp U=>by simp_all
 exact key _ h
end Go.Aw
namespace Go.Proofs.Z
open Go Go.Aw
theorem Ga {b:Int} {t:Bool} (U:Bn b s=n) (e2:Hg b 0 s=v) (e3:decide (n≠0/\v<=1114111)=t):AB.ret (.BM [.int .i64 (Hg b 0 s),.int .i64 (Bn b s:Nat),.bool (decide (Bn b s≠0/\Hg b 0 s<=1114111))])=AB.ret (.BM [.int .i64 v,.int .i64 (n:Int),.bool t]):=ke
section
variable {st:St} {R:AB->St->Prop}
theorem mO {l:List (List UInt8)} (e:Lib.fields s=l) (hz:s.length<1000) (U:∀b ∈ s,b.toNat<128) (hl:∀x ∈ l,x.length<=3) (hn:l.length<=1000) (h:R (.ret (.slice 1 (strs l) .any)) st):PC 214 [.str s] st R:=by
 subst e
 exact mN AC U h (λx hx=>by have:=hl x hx;unfold D7;omega) (by unfold D7;omega)
theorem uc (h:R (.ret (.slice 1 (strs CQ) .any)) st):PC 214 [.str Sn] st R:=
 mO VJ oB oC (λx U=>(Ur x U).2) (Nat.le_trans (Nat.le_of_eq tY) Do) h
set_option maxRecDepth 100000 in
theorem ua (hl:s.length<=100000000) (h:R (.ret (.BM [.int .i64 (Gn s).1,.int .i64 (Gn s).2])) st):PC 334 [.str s] st R:=by
 refine pB Tryz.func334 ?_
 repeat' ((conv=>whnf);first|(refine Cf ?_;intros)|(refine Cg ?_ ?_<;>intro _)|refine uc ?_|refine nE (λ_=>?_))
 refine V3 (α:=Nat) (β:=Nat) (γ:=Nat) (λi c n=>[(8,.int .i64 (i:Int)),(2,.int .i64 (c:Int)),(3,.int .i64 (n:Int))]) (λ_ _ _=>[]) [0,6,7] [] (λ_ _ _=>st)
  (λi c n=>i<=CQ.length/\n<=3/\Hi s CQ 0 (0,0)=Hi s (CQ.drop i) i (c,n)) (λi _ _=>CQ.length - i) 0 0 0 ⟨Nat.zero_le _,Do,rfl⟩ Yl (St.le_refl _) ?_
 rintro i c n ⟨h1,h2,U⟩
 rcases hx:CQ[i]? with _|x
 .have hge:=List.getElem?_eq_none_iff.1 hx
  rw [List.drop_eq_nil_iff.2 hge] at U
  have e:=tW U
  repeat' ((conv=>whnf);first|(refine Cf ?_;intros)|(refine Cg ?_ ?_<;>intro _)|fail)
  all_goals first
   |exact fin h (by rw [e,if_pos AC])
   |exact fin h (by rw [e,if_neg AC])
 .have hlt:=(List.getElem?_eq_some_iff.1 hx).1
  have hm:=Ur x (List.mem_of_getElem? hx)
  rw [jc hx] at U
  have hx':CQ[((i:Int)).toNat]? =some x:=hx
  repeat' ((conv=>whnf);first|(refine Cf ?_;intros)|(refine Cg ?_ ?_<;>intro _)|refine dQ hx' AC ?_|refine Jz ?_)
  .rw [if_pos ⟨AC,AC⟩] at U
   conv=>whnf
   exact ⟨(i+1,i,x.length),⟨AC,ke,U⟩,AC,Yl,St.le_refl _⟩
  .have hp:x.isPrefixOf s=false:=FS
   rw [if_neg (λy=>by simp_all)] at U
   conv=>whnf
   exact ⟨(i+1,c,n),⟨AC,AC,U⟩,AC,Yl,St.le_refl _⟩
  .rw [if_neg (λy=>by omega)] at U
   conv=>whnf
   exact ⟨(i+1,c,n),⟨AC,AC,U⟩,AC,Yl,St.le_refl _⟩
theorem Zi {b:Int} (hl:s.length<=100000000) (hb:b=8\/b=10\/b=16) (h:R (.ret (.BM [.int .i64 (Hg b 0 s),.int .i64 (Bn b s:Nat),.bool (decide (Bn b s≠0/\Hg b 0 s<=1114111))])) st):PC 367 [.str s,.int .i64 b] st R:=by
 refine pB Tryz.func367 ?_
 repeat' ((conv=>whnf);first|(refine Cf ?_;intros)|(refine Cg ?_ ?_<;>intro _)|fail)
 refine cw (α:=Nat) (β:=Int) (λpos v=>[(4,.int .i64 v),(5,.int .i64 (pos:Int))]) (λpos _=>[(0,[.Qe s pos])]) [0,1,11] [] (λ_ _=>st)
  (λpos v=>pos<=s.length/\0<=v/\v<=1114112/\Bn b s=pos+Bn b (s.drop pos)/\Hg b 0 s=Hg b v (s.drop pos)) (λpos _=>s.length - pos) 0 0 ⟨Nat.zero_le _,Do,Do,GT,rfl⟩ Yl (St.le_refl _) ?_
 rintro pos v ⟨h1,h2,h3,h4,h5⟩
 rcases hb with rfl|rfl|rfl
 .skip
  have hdl:=λc=>Lr (c:=c) (b:=8)
  repeat' ((conv=>whnf);first|(refine Cf ?_;intros)|(refine Cg ?_ ?_<;>intro _)|refine Nn ?_|refine oh ?_|refine bB h2 h3 Do Do ‹_› ?_)
  all_goals first
   |(rename_i U c m hd hk _ _
     have e1:=II U hd hk
     have e2:=L4 (v:=v) U hd hk
     exact fin h (Ga AC (h5.trans e2) (by first|exact decide_eq_true ⟨AC,AC⟩|exact decide_eq_false AC)))
   |(rename_i U c m hd hk _
     have e1:=II U hd hk
     have e2:=L4 (v:=v) U hd hk
     exact fin h (Ga AC (h5.trans e2) (by first|exact decide_eq_true ⟨AC,AC⟩|exact decide_eq_false AC)))
   |(have e1:=LP (base:=8) (s:=s) (pos:=pos) AC
     have e2:=Ph (base:=8) (v:=v) (s:=s) (pos:=pos) AC
     exact fin h (Ga AC (h5.trans e2) (by first|exact decide_eq_true ⟨AC,AC⟩|exact decide_eq_false AC)))
   |(rename_i U c m hd hk
     obtain ⟨e1,e2⟩:=N2 U hd hk
     have e3:=XK (v:=v) U hd hk
     have e4:=hdl (c:Int)
     subst e1
     conv=>whnf
     exact ⟨(pos+1,min (v*8+BW (c:Int) 8) 1114112),⟨UV,UV,UV,UV,h5.trans e3⟩,UV,Yl,St.le_refl _⟩)
 .skip
  have hdl:=λc=>Lr (c:=c) (b:=10)
  repeat' ((conv=>whnf);first|(refine Cf ?_;intros)|(refine Cg ?_ ?_<;>intro _)|refine Nn ?_|refine oh ?_|refine bB h2 h3 Do Do ‹_› ?_)
  all_goals first
   |(rename_i U c m hd hk _ _
     have e1:=II U hd hk
     have e2:=L4 (v:=v) U hd hk
     exact fin h (Ga AC (h5.trans e2) (by first|exact decide_eq_true ⟨AC,AC⟩|exact decide_eq_false AC)))
   |(rename_i U c m hd hk _
     have e1:=II U hd hk
     have e2:=L4 (v:=v) U hd hk
     exact fin h (Ga AC (h5.trans e2) (by first|exact decide_eq_true ⟨AC,AC⟩|exact decide_eq_false AC)))
   |(have e1:=LP (base:=10) (s:=s) (pos:=pos) AC
     have e2:=Ph (base:=10) (v:=v) (s:=s) (pos:=pos) AC
     exact fin h (Ga AC (h5.trans e2) (by first|exact decide_eq_true ⟨AC,AC⟩|exact decide_eq_false AC)))
   |(rename_i U c m hd hk
     obtain ⟨e1,e2⟩:=N2 U hd hk
     have e3:=XK (v:=v) U hd hk
     have e4:=hdl (c:Int)
     subst e1
     conv=>whnf
     exact ⟨(pos+1,min (v*10+BW (c:Int) 10) 1114112),⟨UV,UV,UV,UV,h5.trans e3⟩,UV,Yl,St.le_refl _⟩)
 .skip
  have hdl:=λc=>Lr (c:=c) (b:=16)
  repeat' ((conv=>whnf);first|(refine Cf ?_;intros)|(refine Cg ?_ ?_<;>intro _)|refine Nn ?_|refine oh ?_|refine bB h2 h3 Do Do ‹_› ?_)
  all_goals first
   |(rename_i U c m hd hk _ _
     have e1:=II U hd hk
     have e2:=L4 (v:=v) U hd hk
     exact fin h (Ga AC (h5.trans e2) (by first|exact decide_eq_true ⟨AC,AC⟩|exact decide_eq_false AC)))
   |(rename_i U c m hd hk _
     have e1:=II U hd hk
     have e2:=L4 (v:=v) U hd hk
     exact fin h (Ga AC (h5.trans e2) (by first|exact decide_eq_true ⟨AC,AC⟩|exact decide_eq_false AC)))
   |(have e1:=LP (base:=16) (s:=s) (pos:=pos) AC
     have e2:=Ph (base:=16) (v:=v) (s:=s) (pos:=pos) AC
     exact fin h (Ga AC (h5.trans e2) (by first|exact decide_eq_true ⟨AC,AC⟩|exact decide_eq_false AC)))
   |(rename_i U c m hd hk
     obtain ⟨e1,e2⟩:=N2 U hd hk
     have e3:=XK (v:=v) U hd hk
     have e4:=hdl (c:Int)
     subst e1
     conv=>whnf
     exact ⟨(pos+1,min (v*16+BW (c:Int) 16) 1114112),⟨UV,UV,UV,UV,h5.trans e3⟩,UV,Yl,St.le_refl _⟩)
end
end Go.Proofs.Z
namespace Go.Aw
open Go
theorem jm {b:Int} (h:Gq b l=some (v,n)):Hg b 0 l=v/\Bn b l=n/\n≠0/\v<=1114111:=by
 unfold Gq at h
 split at h
 .cases h
 .injection h with h;injection h with U h2
  exact ⟨U,h2,AC,AC⟩
theorem jl {b:Int} (h:Gq b l=none):decide (Bn b l≠0/\Hg b 0 l<=1114111)=false:=by
 unfold Gq at h
 split at h
 .exact decide_eq_false AC
 .cases h
theorem IZ {R:AB->St->Prop} {r r':AB} {st st':St} (es:st'=st) (h:R r st) (e:r=r'):∃r2 U,(r2=r'\/r2=r'.wk)/\St.le U st'/\R r2 U:=by subst es;exact ⟨r,st',.inl e,St.le_refl _,h⟩
theorem St.K5 (st:St) (b:Nat) (cs cs':List V):(st.Aa b cs).Aa b cs'=st.Aa b cs':=by
 simp only [St.Aa,St.mk.injEq,and_true]
 funext x
 split<;>rfl
end Go.Aw
namespace Go.Proofs.Z
open Go Go.Aw
theorem UF {q:Nat} (e:i=(q:Int)):[V.str s,.int .i64 i,.bool tx,.slice 1 (ints o) w1,.slice 2 (rv g) w2]=qC s q tx o w1 g w2:=by subst e;rfl
section
variable {st:St} {R:AB->St->Prop}
theorem oP {b:Int} (e:i.toNat=m) (hn:Gq b (s.drop m)=some (v,n)) (hl:s.length<=100000000) (hb:b=8\/b=10\/b=16) (h:R (.ret (.BM [.int .i64 v,.int .i64 n,.bool true])) st):PC 367 [.str (s.drop i.toNat),.int .i64 b] st R:=by
 rw [e]
 obtain ⟨U,e2,e3,e4⟩:=jm hn
 exact Zi IR hb (by rw [U,e2,decide_eq_true ⟨e3,e4⟩];exact h)
theorem oQ {b:Int} (e:i.toNat=m) (hn:Gq b (s.drop m)=none) (U:s.length<=100000000) (hb:b=8\/b=10\/b=16) (h:R (.ret (.BM [.int .i64 (Hg b 0 (s.drop m)),.int .i64 (Bn b (s.drop m):Nat),.bool false])) st):PC 367 [.str (s.drop i.toNat),.int .i64 b] st R:=by
 rw [e]
 exact Zi IR hb (by rw [jl hn];exact h)
theorem Rt {p:Nat} {frm:Int} (hl:s.length<=100000000) (hp:p+k<=s.length) (U:base=8\/base=10\/base=16) (hb:st.box b=some (qC s p tx o w1 g w2))
 (h:∀v n,Gq base (s.drop (p+k))=some (v,n)->R (.ret (.int .i64 v)) (st.Aa b (qC s (p+k+n) tx o w1 g w2))) (h0:Gq base (s.drop (p+k))=none->R (.Cd (Kg frm 51)) st):
 PC 333 [.ptr b 0,.int .i64 frm,.int .i64 k,.int .i64 base] st R:=by
 refine pB Tryz.func333 ?_
 rcases hn:Gq base (s.drop (p+k)) with _|⟨v,n⟩
 .have h0:=h0 hn
  repeat' ((conv=>whnf);first|exact D2|(refine Cf ?_;intros)|(refine D3 ?_ ?_ ?_;rotate_left)|(refine Cg ?_ ?_<;>intro _)|refine Ao hb ?_|refine oQ (m:=p+k) AC hn hl U ?_|refine GY ?_|with_reducible refine WF ?_)
  all_goals exact fin h0 rfl
 .have h:=h v n hn
  have hle:=NT hn
  rw [List.length_drop] at hle
  dsimp only at hle
  repeat' ((conv=>whnf);first|exact D2|(refine Cf ?_;intros)|(refine D3 ?_ ?_ ?_;rotate_left)|(refine Cg ?_ ?_<;>intro _)|refine Ao hb ?_|refine oP (m:=p+k) AC hn hl U ?_|refine GY ?_|with_reducible refine WF ?_)
  exact IZ (congrArg (st.Aa b) (UF AC)) h rfl
theorem eI {p:Nat}:DM (s.drop p)=if AE (s.drop p)=92/\Bx (λc=>Ay c==1) (s.drop (p+1))≠0/\AE (s.drop (p+1+Bx (λc=>Ay c==1) (s.drop (p+1))))=92 then Bx (λc=>Ay c==1) (s.drop (p+1))+2 else 0:=by
 have U:(s.drop p).drop 1=s.drop (p+1):=List.drop_drop
 unfold DM;rw [U,List.drop_drop,Nat.add_assoc]
theorem LR {q:Nat} (hl:s.length<=100000000) (hq:q<=s.length) (U:Bx (λc=>Ay c==1) (s.drop q)=k) (e:i=(q:Int)) (h:R (.ret (.int .i64 (q+k:Nat))) st):PC 72 [.str s,.int .i64 i,.int .i64 1] st R:=by
 subst e;exact wj AC (by rw [QL AC AC,show (q:Int).toNat=q by omega,U];exact h)
theorem xj {p:Nat} (U:s.length<=100000000) (hp:p<=s.length) (hb:st.box b=some (qC s p tx o w1 g w2)) (hg:tx=false\/DM (s.drop p)=0) (h:R (.ret (.bool false)) st):PC 296 [.ptr b 0] st R:=by
 refine pB Tryz.func296 ?_
 have hby:=KI (s.drop p)
 cases tx with
 |false=>
  repeat' ((conv=>whnf);first|exact D2|(refine Cf ?_;intros)|(refine D3 ?_ ?_ ?_;rotate_left)|(refine Cg ?_ ?_<;>intro _)|refine Ao hb ?_|refine Fl (k:=0) U hp Do hb ?_|with_reducible refine WF ?_)
  all_goals exact fin h rfl
 |true=>
  have hg:DM (s.drop p)=0:=hg.resolve_left Do
  by_cases h1:AE (s.drop p)=92
  .have hp1:p<s.length:=B8 (k:=p) AC
   have hr:=Gg (λc=>Ay c==1) (s.drop (p+1))
   have hgn:=eI (s:=s) (p:=p)
   rw [List.length_drop] at hr
   generalize hk:Bx (λc=>Ay c==1) (s.drop (p+1))=k at hr hgn
   have hno:k≠0->¬AE (s.drop (p+1+k))=92:=λe1 e2=>by rw [if_pos ⟨h1,e1,e2⟩] at hgn;omega
   have hb0:L8 (s.drop p)=92:=AC
   by_cases hlt:p+1+k<s.length
   .obtain ⟨e,he⟩:∃e,s[p+1+k]? =some e:=⟨s[p+1+k],List.getElem?_eq_getElem hlt⟩
    have he':s[((p+1+k:Nat):Int).toNat]? =some e:=he
    have hv:=Ee he
    repeat' ((conv=>whnf);first|exact D2|(refine Cf ?_;intros)|(refine D3 ?_ ?_ ?_;rotate_left)|(refine Cg ?_ ?_<;>intro _)|refine Ao hb ?_|refine Fl (k:=0) U hp Do hb ?_|refine LR (q:=p+1) U AC hk AC ?_|with_reducible refine WF ?_)
    all_goals exact fin h rfl
   .skip
    repeat' ((conv=>whnf);first|exact D2|(refine Cf ?_;intros)|(refine D3 ?_ ?_ ?_;rotate_left)|(refine Cg ?_ ?_<;>intro _)|refine Ao hb ?_|refine Fl (k:=0) U hp Do hb ?_|refine LR (q:=p+1) U AC hk AC ?_|with_reducible refine WF ?_)
    all_goals exact fin h rfl
  .have hb0:¬L8 (s.drop p)=92:=AC
   repeat' ((conv=>whnf);first|exact D2|(refine Cf ?_;intros)|(refine D3 ?_ ?_ ?_;rotate_left)|(refine Cg ?_ ?_<;>intro _)|refine Ao hb ?_|refine Fl (k:=0) U hp Do hb ?_|with_reducible refine WF ?_)
   all_goals exact fin h rfl
attribute [local irreducible] Go.Aw.Am
theorem sS {p:Nat} (hl:s.length<=100000000) (hb:st.box b=some (qC s p true o w1 g w2)) (hg:0<DM (s.drop p)) (hr2:Ce st0 st w1 o.length w2 (2*g.length)) (hgl:g.length<=100000000)
 (h:∀w2' st',Ce st0 st' w1 o.length w2' (2*(g++[(p,p+DM (s.drop p))]).length)->st'.box=st.box->R (.ret (.bool true)) (st'.Aa b (qC s (p+DM (s.drop p)) true o w1 (g++[(p,p+DM (s.drop p))]) w2'))):PC 296 [.ptr b 0] st R:=by
 have hby:=KI (s.drop p)
 have U:=eI (s:=s) (p:=p)
 have hr:=Gg (λc=>Ay c==1) (s.drop (p+1))
 rw [List.length_drop] at hr
 generalize hk:Bx (λc=>Ay c==1) (s.drop (p+1))=k at hr U
 have hc:AE (s.drop p)=92/\k≠0/\AE (s.drop (p+1+k))=92:=by
  by_cases hc:AE (s.drop p)=92/\k≠0/\AE (s.drop (p+1+k))=92
  .exact hc
  .rw [if_neg hc] at U;omega
 rw [if_pos hc] at U
 obtain ⟨h1,h2,h3⟩:=hc
 have hp1:p<s.length:=B8 (k:=p) AC
 have hp2:p+1+k<s.length:=B8 (k:=p+1+k) AC
 obtain ⟨e,he⟩:∃e,s[p+1+k]? =some e:=⟨s[p+1+k],List.getElem?_eq_getElem hp2⟩
 have he':s[((p+1+k:Nat):Int).toNat]? =some e:=he
 have hv:=Ee he
 have hb0:L8 (s.drop p)=92:=AC
 have hpk:((p+1+k:Nat):Int)+1=((p+(k+2):Nat):Int):=AC
 rw [U] at h
 refine pB Tryz.func296 ?_
 repeat' ((conv=>whnf);first|refine Af [(0,true),(1,true),(2,true),(3,true),(4,true),(5,true),(6,true),(7,true),(8,true),(9,true),(10,true),(11,true),(12,true),(13,false),(14,true),(15,true),(16,false)] [] GE ?_|exact D2|(refine Cf ?_;intros)|(refine D3 ?_ ?_ ?_;rotate_left)|(refine Cg ?_ ?_<;>intro _)|refine Ao hb ?_|refine Fl (k:=0) hl AC Do hb ?_|refine LR (q:=p+1) hl AC hk AC ?_|refine jB (p:=(p,p+(k+2))) hr2 AC rfl hpk (λw2' st1 hr3 hb3=>?_)|refine Ao ((congrFun hb3 b).trans hb) ?_|refine Ao (St.AM _ _ _) ?_|with_reducible refine WF ?_)
 exact IZ ((St.K5 _ _ _ _).trans (congrArg (st1.Aa b) (UF AC))) (h w2' st1 hr3 hb3) rfl
end
end Go.Proofs.Z
namespace Go.Aw
open Go
theorem uF (l:List UInt8):HA (L8 l)=HA (AE l):=by
 rcases KI l with ⟨U,h2⟩|⟨U,h2⟩
 .rw [U,h2];rfl
 grind
theorem uG (h:HA c=none):c≠92/\c≠34/\c≠39:=by
 refine ⟨λe=>?_,λe=>?_,λe=>?_⟩<;>(subst e;cases h)
theorem u8_in {a:Int} (U:0<=a) (h2:a<=255):IntKind.u8.wrap a=a:=IntWalk.u8_in _ ⟨U,h2⟩
theorem mJ (h:HA (AE (l.drop 1))=some v):GA tx l=some (v,2):=by unfold GA;rw [h]
theorem mD (h:AE (l.drop 1)=38):GA true l=some (-1,2):=by
 unfold GA;rw [show HA (AE (l.drop 1))=none by rw [h];rfl]
 simp_all
theorem mE (h:AE (l.drop 1)=94) (U:64<=AE (l.drop 2)) (h2:AE (l.drop 2)<=95):GA tx l=some (AE (l.drop 2) - 64,3):=by
 unfold GA;rw [show HA (AE (l.drop 1))=none by rw [h];rfl]
 simp_all
theorem mI (h:AE (l.drop 1)=111):GA tx l=(Gq 8 (l.drop 2)).map λp=>(p.1,2+p.2):=by
 unfold GA;rw [show HA (AE (l.drop 1))=none by rw [h];rfl]
 simp_all
theorem mG (h:AE (l.drop 1)=120):GA tx l=(Gq 16 (l.drop 2)).map λp=>(p.1,2+p.2):=by
 unfold GA;rw [show HA (AE (l.drop 1))=none by rw [h];rfl]
 simp_all
theorem mF (h:48<=AE (l.drop 1)) (U:AE (l.drop 1)<=57):GA tx l=(Gq 10 (l.drop 1)).map λp=>(p.1,1+p.2):=by
 have hs:HA (AE (l.drop 1))=none:=by
  unfold HA
  (repeat' split)<;>first|rfl|(exfalso;omega)
 unfold GA;grind
theorem mH (h:HA (AE (l.drop 1))=none) (U:¬(AE (l.drop 1)=38/\tx=true)) (h2:¬(AE (l.drop 1)=94/\64<=AE (l.drop 2)/\AE (l.drop 2)<=95)) (h3:AE (l.drop 1)≠111) (h4:AE (l.drop 1)≠120) (h5:¬(48<=AE (l.drop 1)/\AE (l.drop 1)<=57)):
 GA tx l=if 0<(Gn (l.drop 1)).2 then some ((Gn (l.drop 1)).1,1+(Gn (l.drop 1)).2) else none:=by
 unfold GA;grind
end Go.Aw
namespace Go.Proofs.Z
open Go Go.Aw
section
variable {st:St} {R:AB->St->Prop}
theorem ub (e:i.toNat=n) (U:s.length<=100000000) (h:R (.ret (.BM [.int .i64 (Gn (s.drop n)).1,.int .i64 (Gn (s.drop n)).2])) st):PC 334 [.str (s.drop i.toNat)] st R:=by
 rw [e];exact ua (by grind) h
theorem Yg {p:Nat} (hl:s.length<=100000000) (hp:p<s.length) (hb:st.box b=some (qC s p tx o w1 g w2))
 (h:∀v n,GA tx (s.drop p)=some (v,n)->R (.ret (.int .i64 v)) (st.Aa b (qC s (p+n) tx o w1 g w2))) (h0:GA tx (s.drop p)=none->∀q,R (.Cd (Kg p 51)) (st.Aa b (qC s q tx o w1 g w2))):
 PC 297 [.ptr b 0] st R:=by
 have d1:(s.drop p).drop 1=s.drop (p+1):=List.drop_drop
 have d2:(s.drop p).drop 2=s.drop (p+1+1):=List.drop_drop
 refine A6 Ac [] Tryz.func297 rfl Do rfl ?_
 refine Al (An Ac ?_)
 repeat' ((conv=>whnf);first|exact D2|(refine Cf ?_;intros)|(refine D3 ?_ ?_ ?_;rotate_left)|(refine Cg ?_ ?_<;>intro _)|with_reducible refine WF ?_)
 refine Al (An Ac ?_)
 repeat' ((conv=>whnf);first|exact D2|(refine Cf ?_;intros)|(refine D3 ?_ ?_ ?_;rotate_left)|(refine Cg ?_ ?_<;>intro _)|refine Ao hb ?_|with_reducible refine WF ?_)
 refine Al (An Ac ?_)
 repeat' ((conv=>whnf);first|exact D2|(refine Cf ?_;intros)|(refine D3 ?_ ?_ ?_;rotate_left)|(refine Cg ?_ ?_<;>intro _)|refine Ao hb ?_|with_reducible refine WF ?_)
 refine dG (st':=st.Aa b (qC s (p+1) tx o w1 g w2)) rfl ?_
 have endq:∀{i:Int} {q:Nat},i=(q:Int)->(st.Aa b (qC s (p+1) tx o w1 g w2)).Aa b [V.str s,.int .i64 i,.bool tx,.slice 1 (ints o) w1,.slice 2 (rv g) w2]=st.Aa b (qC s q tx o w1 g w2):=λe=>by rw [St.K5,UF e]
 have endp:∀{q:Nat},(st.Aa b (qC s (p+1) tx o w1 g w2)).Aa b (qC s q tx o w1 g w2)=st.Aa b (qC s q tx o w1 g w2):=St.K5 _ _ _ _
 have U:(st.Aa b (qC s (p+1) tx o w1 g w2)).box b=some (qC s (p+1) tx o w1 g w2):=St.AM _ _ _
 have h0':=λe=>h0 e (p+1)
 generalize hst:st.Aa b (qC s (p+1) tx o w1 g w2)=st1 at U endq endp h0'
 have hx1:=KI (s.drop (p+1))
 have hx2:=KI (s.drop (p+1+1))
 have hxl:=mX (s.drop (p+1))
 have hby0:∀{R:AB->St->Prop},R (.ret (.int .u8 (L8 (s.drop (p+1))))) st1->PC 243 [.ptr b 0,.int .i64 0] st1 R:=λh=>Fl (k:=0) hl AC Do U h
 have hby1:∀{R:AB->St->Prop},R (.ret (.int .u8 (L8 (s.drop (p+1+1))))) st1->PC 243 [.ptr b 0,.int .i64 1] st1 R:=λh=>Fl (k:=1) hl AC Do U h
 have l1:=λh=>B8 (l:=s) (k:=p+1) h
 have l2:=λh=>B8 (l:=s) (k:=p+1+1) h
 cases hsg:HA (AE (s.drop (p+1))) with
 |some v=>
  have hv:=ZF hsg
  have h1:=h v 2 (mJ ke)
  have hsn:∀{R:AB->St->Prop},R (.ret (yn (some v))) st1->PC 332 [.int .u8 (L8 (s.drop (p+1)))] st1 R:=λh=>pV AC AC (by grind)
  refine An Ac ?_
  repeat' ((conv=>whnf);first|exact D2|(refine Cf ?_;intros)|(refine D3 ?_ ?_ ?_;rotate_left)|(refine Cg ?_ ?_<;>intro _)|refine hby0 ?_|refine hsn ?_|refine Ao U ?_|with_reducible refine WF ?_)
  exact IZ (endq AC) h1 rfl
 |none=>
  have hne:=uG hsg
  have hsn:∀{R:AB->St->Prop},R (.ret (yn none)) st1->PC 332 [.int .u8 (L8 (s.drop (p+1)))] st1 R:=λh=>pV AC AC (by rw [uF,hsg];exact h)
  refine Al (An Ac ?_)
  repeat' ((conv=>whnf);first|exact D2|(refine Cf ?_;intros)|(refine D3 ?_ ?_ ?_;rotate_left)|(refine Cg ?_ ?_<;>intro _)|refine hby0 ?_|with_reducible refine WF ?_)
  refine Al (An Ac ?_)
  repeat' ((conv=>whnf);first|exact D2|(refine Cf ?_;intros)|(refine D3 ?_ ?_ ?_;rotate_left)|(refine Cg ?_ ?_<;>intro _)|refine hsn ?_|with_reducible refine WF ?_)
  by_cases c1:AE (s.drop (p+1))=38/\tx=true
  .obtain ⟨c1,rfl⟩:=c1
   have h1:=h (-1) 2 (mD ke)
   refine An Ac ?_
   repeat' ((conv=>whnf);first|exact D2|(refine Cf ?_;intros)|(refine D3 ?_ ?_ ?_;rotate_left)|(refine Cg ?_ ?_<;>intro _)|refine Ao U ?_|with_reducible refine WF ?_)
   exact IZ (endq AC) h1 rfl
  by_cases c2:AE (s.drop (p+1))=94/\64<=AE (s.drop (p+1+1))/\AE (s.drop (p+1+1))<=95
  .obtain ⟨c2,c3,c4⟩:=c2
   have h1:=h _ 3 (mE ke ke ke)
   rw [d2] at h1
   have hp2:=l2 AC
   obtain ⟨e,he⟩:∃e,s[p+1+1]? =some e:=⟨s[p+1+1],List.getElem?_eq_getElem hp2⟩
   have he':s[(((p+1:Nat):Int)+2 - 1).toNat]? =some e:=by rw [show (((p+1:Nat):Int)+2 - 1).toNat=p+1+1 by omega];exact he
   have hv:=Ee he
   have hew:∀{K:Int->Prop},K (AE (s.drop (p+1+1)) - 64)->∃r,r=IntKind.u8.wrap ((e.toNat:Nat) - 64:Int)/\K r:=λk=>⟨_,by rw [hv];exact (u8_in AC AC).symm,k⟩
   refine An Ac ?_
   repeat' ((conv=>whnf);first|exact D2|(refine Cf ?_;intros)|(refine D3 ?_ ?_ ?_;rotate_left)|(refine Cg ?_ ?_<;>intro _)|refine hby1 ?_|refine Ao U ?_|refine Ao (St.AM _ _ _) ?_|refine hew ?_|with_reducible refine WF ?_)
   exact IZ (endq AC) h1 rfl
  by_cases c3:AE (s.drop (p+1))=111
  .have he:=mI (tx:=tx) (l:=s.drop p) ke
   rw [d2] at he
   have hp1:=l1 AC
   refine An Ac ?_
   repeat' ((conv=>whnf);first|exact D2|(refine Cf ?_;intros)|(refine D3 ?_ ?_ ?_;rotate_left)|(refine Cg ?_ ?_<;>intro _)|refine Ao U ?_|refine Rt (k:=1) hl AC (.inl rfl) U (λv n hv=>?_) (λhv=>?_)|with_reducible refine WF ?_)
   all_goals try rw [hv] at he
   .have h1:=h v (2+n) he
    exact IZ (endp.trans (by grind)) h1 rfl
   .exact fin (h0' he) rfl
  by_cases c4:AE (s.drop (p+1))=120
  .have he:=mG (tx:=tx) (l:=s.drop p) ke
   rw [d2] at he
   have hp1:=l1 AC
   refine An Ac ?_
   repeat' ((conv=>whnf);first|exact D2|(refine Cf ?_;intros)|(refine D3 ?_ ?_ ?_;rotate_left)|(refine Cg ?_ ?_<;>intro _)|refine Ao U ?_|refine Rt (k:=1) hl AC (.inr (.inr rfl)) U (λv n hv=>?_) (λhv=>?_)|with_reducible refine WF ?_)
   all_goals try rw [hv] at he
   .have h1:=h v (2+n) he
    exact IZ (endp.trans (by grind)) h1 rfl
   .exact fin (h0' he) rfl
  by_cases c5:48<=AE (s.drop (p+1))/\AE (s.drop (p+1))<=57
  .have he:=mF (tx:=tx) (l:=s.drop p) ke ke
   rw [d1] at he
   have hp1:=l1 AC
   refine An Ac ?_
   repeat' ((conv=>whnf);first|exact D2|(refine Cf ?_;intros)|(refine D3 ?_ ?_ ?_;rotate_left)|(refine Cg ?_ ?_<;>intro _)|refine Ao U ?_|refine Rt (k:=0) hl AC (.inr (.inl rfl)) U (λv n hv=>?_) (λhv=>?_)|with_reducible refine WF ?_)
   all_goals try rw [show Gq 10 (s.drop (p+1))=_ from hv] at he
   .have h1:=h v (1+n) he
    exact IZ (endp.trans (by grind)) h1 rfl
   .exact fin (h0' he) rfl
  .have he:=mH (tx:=tx) (l:=s.drop p) ke ke ke ke ke ke
   rw [d1] at he
   have hc1:L8 (s.drop (p+1))=38->tx=false:=λe=>by simp_all
   have hnl:=WQ (s.drop (p+1)) CQ 0 (0,0) (Nat.zero_le _)
   have hnn:(Gn (s.drop (p+1))).2<=s.length - (p+1):=by simp only [Gn];rw [List.length_drop] at hnl;omega
   have f2:¬(L8 (s.drop (p+1))=94/\64<=L8 (s.drop (p+1+1))/\L8 (s.drop (p+1+1))<=95):=λe=>c2 ⟨AC,AC,AC⟩
   have f3:¬L8 (s.drop (p+1))=111:=AC
   have f4:¬L8 (s.drop (p+1))=120:=AC
   have f5:¬(48<=L8 (s.drop (p+1))/\L8 (s.drop (p+1))<=57):=AC
   have e1:=λ(n:Nat) (hn:(Gn (s.drop (p+1))).2=n) (h0:0<n)=>h _ (1+n) (by rw [he,hn,if_pos h0])
   have e2:=λ(h0:¬0<(Gn (s.drop (p+1))).2)=>h0' ke
   generalize L8 (s.drop (p+1))=x1 at hby0 hc1 f2 f3 f4 f5 hx1 hsn
   generalize L8 (s.drop (p+1+1))=x2 at hby1 f2 hx2
   generalize hN:Gn (s.drop (p+1))=N at e1 e2 hnn
   obtain ⟨v,n⟩:=N
   have e1:=e1 n rfl
   dsimp only at e1 e2 hnn
   have hnam:∀{i:Int} {R:AB->St->Prop},i.toNat=p+1->R (.ret (.BM [.int .i64 v,.int .i64 (n:Int)])) st1->PC 334 [.str (s.drop i.toNat)] st1 R:=λe h=>ub e hl ke
   clear he h h0 h0' hsg hne hsn c1 c2 c3 c4 c5 hx1 hx2 hxl l1 l2 d1 d2 hnl hby0 endp hb hN
   by_cases h38:x1=38
   .have e:=hc1 h38
    subst e
    refine An Ac ?_
    repeat' ((conv=>whnf);first|exact D2|(refine Cf ?_;intros)|(refine D3 ?_ ?_ ?_;rotate_left)|(refine Cg ?_ ?_<;>intro _)|refine hby1 ?_|refine Ao U ?_|refine hnam AC ?_|refine GY ?_|with_reducible refine WF ?_)
    all_goals first
     |exact IZ (endq AC) (e1 AC) rfl
     |exact fin (e2 AC) rfl
   .clear hc1
    refine An Ac ?_
    repeat' ((conv=>whnf);first|exact D2|(refine Cf ?_;intros)|(refine D3 ?_ ?_ ?_;rotate_left)|(refine Cg ?_ ?_<;>intro _)|refine hby1 ?_|refine Ao U ?_|refine hnam AC ?_|refine GY ?_|with_reducible refine WF ?_)
    all_goals first
     |exact IZ (endq AC) (e1 AC) rfl
     |exact fin (e2 AC) rfl
end
end Go.Proofs.Z
namespace Go.Aw
open Go
theorem oT (h:0<DM l):Hj true l=.inr (-1,DM l):=by
 cases l with
 |nil=>exact absurd h Do
 |cons a r=>
  have U:AE (a::r)=92:=by
   by_cases U:AE (a::r)=92
   .exact U
   .unfold DM at h;simp_all
  unfold Hj
  simp_all
theorem oS (U:AE l=92) (h:tx=false\/DM l=0):Hj tx l=match GA tx l with|none=>.inl 51|some p=>.inr p:=by
 cases l with
 |nil=>exact absurd U Do
 |cons a r=>
  unfold Hj
  grind
theorem jo (U:l≠[]) (h1:AE l≠92):Hj tx l=if Nb (AJ l) then .inl 50 else .inr (((AJ l).1:Nat),(AJ l).2):=by
 cases l with
 |nil=>rfl
 |cons a r=>
  unfold Hj
  simp_all
theorem bh (h:Ay c≠0):c<=1114111:=by
 by_cases U:c<=1114111
 .exact U
 .refine absurd ?_ h
  unfold Ay Ng
  omega
theorem dR {c:Nat}:Nb (c,m)=true↔Ay (c:Int)=0\/(Ay (c:Int)=1/\¬c=32)\/(c=65533/\m=1):=by
 simp only [Nb,Bool.or_eq_true,Bool.and_eq_true,Bool.not_eq_true',beq_iff_eq,beq_eq_false_iff_ne,ne_eq]
 omega
def WY (o:List Int) (v:Int):List Int:=if v= -1 then o else o++[v]
end Go.Aw
namespace Go.Proofs.Z
open Go Go.Aw
def QB (st0 st:St) (b:Nat) (s:List UInt8) (tx:Bool):Prop:=∃q o w1 g w2,st.box b=some (qC s q tx o w1 g w2)/\Ce st0 st w1 o.length w2 (2*g.length)
section
variable {st:St} {R:AB->St->Prop}
attribute [local irreducible] Go.Aw.Am
theorem zc {p:Nat} (hl:s.length<=100000000) (hp:p<=s.length) (hb:st.box b=some (qC s p tx o w1 g w2)) (hr:Ce st0 st w1 o.length w2 (2*g.length)) (hgl:g.length<=100000000)
 (h0:(tx=false\/DM (s.drop p)=0)->R (.ret (.bool false)) st)
 (h:tx=true->0<DM (s.drop p)->∀w2' st',Ce st0 st' w1 o.length w2' (2*(g++[(p,p+DM (s.drop p))]).length)->st'.box=st.box->R (.ret (.bool true)) (st'.Aa b (qC s (p+DM (s.drop p)) true o w1 (g++[(p,p+DM (s.drop p))]) w2'))):PC 296 [.ptr b 0] st R:=by
 by_cases hg:tx=false\/DM (s.drop p)=0
 .exact xj hl hp hb hg (h0 hg)
 .have ht:tx=true:=by cases tx;· simp_all
                      rfl
  subst ht
  have U:0<DM (s.drop p):=by
   rcases Nat.eq_zero_or_pos (DM (s.drop p)) with e|e
   .omega
   .exact e
  exact sS hl hb U hr hgl (h rfl U)
theorem vY {p:Nat} (hl:s.length<=100000000) (hp:p<=s.length) (hb0:st0.box b=none) (hb:st.box b=some (qC s p tx o w1 g w2)) (hr:Ce st0 st w1 o.length w2 (2*g.length))
 (ho:o.length<=100000000) (hgl:g.length<=100000000)
 (h0:∀e,Hj tx (s.drop p)=.inl e->∀st',QB st0 st' b s tx->R (.Cd (Kg p e)) st')
 (h:∀v n,Hj tx (s.drop p)=.inr (v,n)->∀w1' w2' st' g',Ce st0 st' w1' (WY o v).length w2' (2*g'.length)->st'.box b=some (qC s (p+n) tx (WY o v) w1' g' w2')->g'=(if tx=true/\0<DM (s.drop p) then g++[(p,p+n)] else g)->R (.ret (.BM [])) st'):
 PC 244 [.ptr b 0] st R:=by
 have hqb:QB st0 st b s tx:=⟨p,o,w1,g,w2,hb,hr⟩
 refine A6 Ac [] Tryz.func244 rfl Do rfl ?_
 by_cases U:s.length<=p
 .have hd:s.drop p=[]:=List.drop_eq_nil_iff.2 AC
  have h0:=h0 50 (by rw [hd];rfl) st hqb
  refine An Ac ?_
  repeat' ((conv=>whnf);first|exact D2|(refine Cf ?_;intros)|(refine D3 ?_ ?_ ?_;rotate_left)|(refine Cg ?_ ?_<;>intro _)|refine Ao hb ?_|refine GY ?_|with_reducible refine WF ?_)
  exact fin h0 rfl
 have U:p<s.length:=AC
 obtain ⟨e,he⟩:∃e,s[p]? =some e:=⟨s[p],List.getElem?_eq_getElem U⟩
 have he':s[(p:Int).toNat]? =some e:=he
 have hv:=Ee he
 refine Al (An Ac ?_)
 repeat' ((conv=>whnf);first|exact D2|(refine Cf ?_;intros)|(refine D3 ?_ ?_ ?_;rotate_left)|(refine Cg ?_ ?_<;>intro _)|refine Ao hb ?_|refine GY ?_|with_reducible refine WF ?_)
 refine Al (An Ac ?_)
 repeat' ((conv=>whnf);first|exact D2|(refine Cf ?_;intros)|(refine D3 ?_ ?_ ?_;rotate_left)|(refine Cg ?_ ?_<;>intro _)|refine zc hl hp hb hr hgl (λhg=>?_) (λht hg w2' st1 hr1 hb1=>?_)|with_reducible refine WF ?_)
 .by_cases h92:AE (s.drop p)=92
  .have h1:=oS h92 hg
   have hng:¬(tx=true/\0<DM (s.drop p)):=λx=>by simp_all
   rcases hesc:GA tx (s.drop p) with _|⟨v,n⟩
   .rw [hesc] at h1
    have h0:=h0 51 h1
    have hE:∀{R:AB->St->Prop},(∀q,R (.Cd (Kg p 51)) (st.Aa b (qC s q tx o w1 g w2)))->PC 297 [.ptr b 0] st R:=λh=>Yg hl U hb (λv n x=>by simp_all) (λ_=>h)
    refine An Ac ?_
    repeat' ((conv=>whnf);first|exact D2|(refine Cf ?_;intros)|(refine D3 ?_ ?_ ?_;rotate_left)|(refine Cg ?_ ?_<;>intro _)|refine Ao hb ?_|refine hE (λq=>?_)|with_reducible refine WF ?_)
    exact fin (h0 _ ⟨_,_,_,_,_,St.AM _ _ _,hr.set hb0 _⟩) rfl
   .rw [hesc] at h1
    have hn:=eD hesc
    rw [List.length_drop] at hn
    dsimp only at hn
    have h:=h v n h1
    rw [if_neg hng] at h
    have hb2:=St.AM st b (qC s (p+n) tx o w1 g w2)
    have hr2:=hr.set hb0 (qC s (p+n) tx o w1 g w2)
    have hE:∀{R:AB->St->Prop},R (.ret (.int .i64 v)) (st.Aa b (qC s (p+n) tx o w1 g w2))->PC 297 [.ptr b 0] st R:=λh=>Yg hl U hb (λv' n' x=>by simp_all) (λx=>by simp_all)
    generalize st.Aa b (qC s (p+n) tx o w1 g w2)=st2 at hb2 hr2 hE
    unfold WY at h
    by_cases hv1:v= -1
    .rw [if_pos hv1] at h
     refine An Ac ?_
     repeat' ((conv=>whnf);first|exact D2|(refine Cf ?_;intros)|(refine D3 ?_ ?_ ?_;rotate_left)|(refine Cg ?_ ?_<;>intro _)|refine Ao hb ?_|refine hE ?_|with_reducible refine WF ?_)
     all_goals first
      |exact fin (h w1 w2 st2 g hr2 hb2 rfl) rfl
      |(exfalso;omega)
    .rw [if_neg hv1] at h
     refine An Ac ?_
     repeat' ((conv=>whnf);first|exact D2|(refine Cf ?_;intros)|(refine D3 ?_ ?_ ?_;rotate_left)|(refine Cg ?_ ?_<;>intro _)|refine Ao hb ?_|refine Ao hb2 ?_|refine hE ?_|refine Zx hr2 AC (λw1' st3 hr3 hb3=>?_)|refine Ao ((congrFun hb3 b).trans hb2) ?_|with_reducible refine WF ?_)
     exact fin (h w1' w2 _ g (hr3.set hb0 _) (St.AM _ _ _) rfl) rfl
  .have h1:=jo (tx:=tx) (VC U) h92
   have hng:¬(tx=true/\0<DM (s.drop p)):=λx=>by simp_all
   rcases hd:AJ (s.drop p) with ⟨c,m⟩
   have hrn:=rune_le U hd.symm
   have hx:NO s p=((c:Int),(m:Int)):=by rw [NP AC AC,Qs U hd.symm]
   rw [hd] at h1
   refine Al (An Ac ?_)
   repeat' ((conv=>whnf);first|exact D2|(refine Cf ?_;intros)|(refine D3 ?_ ?_ ?_;rotate_left)|(refine Cg ?_ ?_<;>intro _)|refine Ao hb ?_|with_reducible refine WF ?_)
   refine Al (An Ac ?_)
   repeat' ((conv=>whnf);first|exact D2|(refine Cf ?_;intros)|(refine D3 ?_ ?_ ?_;rotate_left)|(refine Cg ?_ ?_<;>intro _)|refine Ao hb ?_|refine fk AC hx ?_|with_reducible refine WF ?_)
   refine Al (An Ac ?_)
   repeat' ((conv=>whnf);first|exact D2|(refine Cf ?_;intros)|(refine D3 ?_ ?_ ?_;rotate_left)|(refine Cg ?_ ?_<;>intro _)|refine Lp ?_|with_reducible refine WF ?_)
   cases hbad:Nb (c,m) with
   |true=>
    rw [if_pos hbad] at h1
    have h0:=h0 50 h1 st hqb
    refine An Ac ?_
    have hbi:=dR.1 hbad
    repeat' ((conv=>whnf);first|exact D2|(refine Cf ?_;intros)|(refine D3 ?_ ?_ ?_;rotate_left)|(refine Cg ?_ ?_<;>intro _)|refine Ao hb ?_|refine GY ?_|with_reducible refine WF ?_)
    all_goals first|exact fin h0 rfl|(exfalso;omega)
   |false=>
    rw [if_neg ke] at h1
    have h:=h (c:Int) m h1
    rw [if_neg hng] at h
    unfold WY at h
    rw [if_neg AC] at h
    have hbi:¬(Ay (c:Int)=0\/(Ay (c:Int)=1/\¬c=32)\/(c=65533/\m=1)):=λx=>by rw [dR.2 x] at hbad;grind
    have hcm:=bh (c:=(c:Int)) AC
    refine An Ac ?_
    repeat' ((conv=>whnf);first|exact D2|(refine Cf ?_;intros)|(refine D3 ?_ ?_ ?_;rotate_left)|(refine Cg ?_ ?_<;>intro _)|refine Ao hb ?_|refine GY ?_|refine Zx hr AC (λw1' st3 hr3 hb3=>?_)|refine Ao ((congrFun hb3 b).trans hb) ?_|refine Ao (St.AM _ _ _) ?_|with_reducible refine WF ?_)
    all_goals exact fin (h w1' w2 _ g ((hr3.set hb0 _).set hb0 _) ((St.AM _ _ _).trans (congrArg some (UF AC))) rfl) rfl
 .subst ht
  have h1:=oT hg
  have h:=h _ _ h1 w1 w2' (st1.Aa b (qC s (p+DM (s.drop p)) true o w1 (g++[(p,p+DM (s.drop p))]) w2')) _ (hr1.set hb0 _) (St.AM _ _ _) (if_pos ⟨rfl,hg⟩).symm
  repeat' ((conv=>whnf);first|exact D2|(refine Cf ?_;intros)|(refine D3 ?_ ?_ ?_;rotate_left)|(refine Cg ?_ ?_<;>intro _)|with_reducible refine WF ?_)
  exact fin h rfl
end
end Go.Proofs.Z
namespace Go.Aw
open Go
theorem Xaa {b:Bool} {p q:Prop} (h:b=false) (k:q):Bq b p q:=by subst h;exact Wj k
theorem Xab {b:Bool} {p q:Prop} (h:b=true) (k:p):Bq b p q:=by subst h;exact Wi k
theorem kt (h:AE l=34):Dq l=.inr 1:=by rw [Dq,if_pos h]
theorem kr {e:Int} (h:AE l≠34) (k:Hj true l=.inl e):Dq l=.inl (0,e):=by
 rw [Dq,if_neg h]
 split
 .rename_i e' U;rw [k] at U;injection U with U;rw [U]
 .rename_i p hp;rw [k] at hp;cases hp
theorem qv (h:AE l≠34) (k:Hj true l=.inr (v,n)):Dq l=match Dq (l.drop n) with| .inl q=>.inl (q.1+n,q.2)| .inr m=>.inr (m+n):=by
 rw [Dq,if_neg h]
 split
 .rename_i e' he;rw [k] at he;cases he
 .rename_i p U;rw [k] at U;injection U with U;subst U;rfl
theorem ku (h:AE l=34):Kz l=[]:=by rw [Kz,if_pos h]
theorem qx (h:AE l≠34) (k:Hj true l=.inr (v,n)):Kz l=if v= -1 then Kz (l.drop n) else v::Kz (l.drop n):=by
 rw [Kz,if_neg h]
 split
 .rename_i e' he;rw [k] at he;cases he
 .rename_i p U;rw [k] at U;injection U with U;subst U;rfl
theorem kv {q:Nat} (h:AE l=34):JK q l=[]:=by rw [JK,if_pos h]
theorem qy {q:Nat} (h:AE l≠34) (k:Hj true l=.inr (v,n)):JK q l=if 0<DM l then (q,q+n)::JK (q+n) (l.drop n) else JK (q+n) (l.drop n):=by
 rw [JK,if_neg h]
 split
 .rename_i e' he;rw [k] at he;cases he
 .rename_i p U;rw [k] at U;injection U with U;subst U;rfl
def gF (q:Nat):Sum (Nat×Int) Nat->Sum (Nat×Int) Nat
 | .inl k=>.inl (q+k.1,k.2)
 | .inr n=>.inr (q+n)
theorem rF {q:Nat} (h:AE l≠34) (k:Hj true l=.inr (v,n)):gF q (Dq l)=gF (q+n) (Dq (l.drop n)):=by
 rw [qv h k]
 cases Dq (l.drop n) with
 |inl k=>simp only [gF];congr 2;omega
 |inr m=>simp only [gF];congr 1;omega
structure QLs where
 q:Nat
 o:List Int
 g:List (Nat×Nat)
 w1:AH
 w2:AH
 m:St
end Go.Aw
namespace Go.Proofs.Z
open Go Go.Aw
section
variable {st:St} {R:AB->St->Prop}
theorem iV {p:Nat} (hl:s.length<=100000000) (hp:AE (s.drop p)=34) (hb0:st0.box b=none) (hb:st.box b=some (qC s p tx [] w1 [] w2)) (hr:Ce st0 st w1 0 w2 0)
 (h0:∀k e,Dq (s.drop (p+1))=.inl (k,e)->∀st',QB st0 st' b s true->R (.Cd (Kg (p+1+k:Nat) e)) st')
 (h:∀n,Dq (s.drop (p+1))=.inr n->∀w1' w2' st',Ce st0 st' w1' (Kz (s.drop (p+1))).length w2' (2*(JK (p+1) (s.drop (p+1))).length)->st'.box b=some (qC s (p+1+n) true (Kz (s.drop (p+1))) w1' (JK (p+1) (s.drop (p+1))) w2')->R (.ret (.int .i64 14)) st'):
 PC 201 [.ptr b 0] st R:=by
 have hpl:p<s.length:=B8 (k:=p) AC
 obtain ⟨e,he⟩:∃e,s[p]? =some e:=⟨s[p],List.getElem?_eq_getElem hpl⟩
 have he':s[(p:Int).toNat]? =some e:=he
 have hv:=Ee he
 have hv34:((e.toNat:Nat):Int)=34:=AC
 refine A6 Ac [] Tryz.func201 rfl Do rfl ?_
 refine Al (An Ac ?_)
 repeat' ((conv=>whnf);first|exact D2|(refine Cf ?_;intros)|(refine D3 ?_ ?_ ?_;rotate_left)|(refine Cg ?_ ?_<;>intro _)|with_reducible refine WF ?_)
 refine Al (An Ac ?_)
 repeat' ((conv=>whnf);first|exact D2|(refine Cf ?_;intros)|(refine D3 ?_ ?_ ?_;rotate_left)|(refine Cg ?_ ?_<;>intro _)|refine Ao hb ?_|with_reducible refine WF ?_)
 refine Al (An Ac ?_)
 repeat' ((conv=>whnf);first|exact D2|(refine Cf ?_;intros)|(refine D3 ?_ ?_ ?_;rotate_left)|(refine Cg ?_ ?_<;>intro _)|refine Ao hb ?_|with_reducible refine WF ?_)
 refine Al (An Ac ?_)
 repeat' ((conv=>whnf);first|exact D2|(refine Cf ?_;intros)|(refine D3 ?_ ?_ ?_;rotate_left)|(refine Cg ?_ ?_<;>intro _)|refine Ao (St.AM _ _ _) ?_|with_reducible refine WF ?_)
 refine dG (st':=st.Aa b (qC s (p+1) true [] w1 [] w2)) (St.K5 _ _ _ _).symm ?_
 have hb1:=St.AM st b (qC s (p+1) true [] w1 [] w2)
 have hr1:=hr.set hb0 (qC s (p+1) true [] w1 [] w2)
 generalize st.Aa b (qC s (p+1) true [] w1 [] w2)=st1 at hb1 hr1
 refine An Ac ?_
 repeat' ((conv=>whnf);first|exact D2|(refine Cf ?_;intros)|(refine D3 ?_ ?_ ?_;rotate_left)|(refine Cg ?_ ?_<;>intro _)|refine Ao hb1 ?_|with_reducible refine WF ?_)
 refine V4 (α:=QLs) (λ_=>[]) [0,3] [] (λx=>x.m) (λx=>x.m.box b=some (qC s x.q true x.o x.w1 x.g x.w2)/\Ce st0 x.m x.w1 x.o.length x.w2 (2*x.g.length)/\x.q<=s.length/\p+1<=x.q/\x.o.length<=x.q/\x.g.length<=x.q/\
  gF (p+1) (Dq (s.drop (p+1)))=gF x.q (Dq (s.drop x.q))/\Kz (s.drop (p+1))=x.o++Kz (s.drop x.q)/\JK (p+1) (s.drop (p+1))=x.g++JK x.q (s.drop x.q))
  (λx=>s.length - x.q) ⟨p+1,[],[],w1,w2,st1⟩ ⟨hb1,hr1,by simp only [];omega,Nat.le_refl _,GT,GT,rfl,rfl,rfl⟩ Yl (St.le_refl _) ?_
 rintro ⟨q,o,g,v1,v2,m⟩ ⟨j1,j2,j3,j4,j5,j6,U,j8,j9⟩
 dsimp only at j1 j2 j3 j4 j5 j6 U j8 j9 |-
 have hx:=KI (s.drop q)
 have hbt:∀{R:AB->St->Prop},R (.ret (.int .u8 (L8 (s.drop q)))) m->PC 243 [.ptr b 0,.int .i64 0] m R:=λh=>Fl (k:=0) hl j3 Do j1 h
 by_cases hq:AE (s.drop q)=34
 .have hql:q<s.length:=B8 (k:=q) AC
  rw [kt hq] at U
  rw [ku hq,List.append_nil] at j8
  rw [kv hq,List.append_nil] at j9
  clear h0
  have hcd:(!L8 (s.drop q)==((e.toNat:Nat):Int))=false:=by rw [show L8 (s.drop q)=((e.toNat:Nat):Int) by omega];simp
  repeat' ((conv=>whnf);first|refine Xaa hcd ?_|exact D2|(refine Cf ?_;intros)|(refine D3 ?_ ?_ ?_;rotate_left)|(refine Cg ?_ ?_<;>intro _)|refine hbt ?_|refine Ao j1 ?_|with_reducible refine WF ?_)
  rw [j8,j9] at h
  cases hT:Dq (s.drop (p+1)) with
  |inl k=>rw [hT] at U;cases U
  |inr n=>
   rw [hT] at U
   have e7:p+1+n=q+1:=by injection U
   exact fin (h n hT v1 v2 _ (j2.set hb0 _) ((St.AM _ _ _).trans (congrArg some (UF AC)))) rfl
 .have hne:¬L8 (s.drop q)=((e.toNat:Nat):Int):=AC
  have hcd:(!L8 (s.drop q)==((e.toNat:Nat):Int))=true:=by rw [beq_eq_false_iff_ne.2 hne];rfl
  repeat' ((conv=>whnf);first|refine Xab hcd ?_|exact D2|(refine Cf ?_;intros)|(refine D3 ?_ ?_ ?_;rotate_left)|(refine Cg ?_ ?_<;>intro _)|refine hbt ?_|refine vY hl j3 hb0 j1 j2 AC AC (λe' hE st' hQ=>?_) (λv n hO u1 u2 st' g' hR hB hG=>?_)|with_reducible refine WF ?_)
  .rw [kr hq hE] at U
   cases hT:Dq (s.drop (p+1)) with
   |inl k=>
    rw [hT] at U
    injection U with U
    injection U with e7 e8
    have:=h0 k.1 k.2 hT st' hQ
    rw [show p+1+k.1=q by simpa using e7,e8] at this
    exact fin this rfl
   |inr n=>rw [hT] at U;cases U
  .have hle:=Hy hO
   rw [List.length_drop] at hle
   dsimp only at hle
   rw [rF hq hO,List.drop_drop] at U
   rw [qx hq hO,List.drop_drop] at j8
   rw [qy hq hO,List.drop_drop] at j9
   have ho:(WY o v).length<=o.length+1:=by unfold WY;split<;>simp
   have hg:g'.length<=g.length+1:=by rw [hG];split<;>simp
   conv=>whnf
   refine ⟨⟨q+n,WY o v,g',u1,u2,st'⟩,⟨hB,hR,by simp only [];omega,by simp only [];omega,by simp only [];omega,by simp only [];omega,U,?_,?_⟩,by simp only [];omega,Yl,St.le_refl _⟩
   .rw [j8]
    unfold WY
    by_cases hv1:v= -1
    .rw [if_pos hv1,if_pos hv1]
    .rw [if_neg hv1,if_neg hv1];simp
   .rw [j9,hG]
    by_cases hg0:0<DM (s.drop q)
    .rw [if_pos hg0,if_pos ⟨rfl,hg0⟩];simp
    .rw [if_neg hg0,if_neg (λx=>hg0 x.2)]
end
section
variable {st:St} {R:AB->St->Prop}
theorem iU {p:Nat} (hl:s.length<=100000000) (hp:AE (s.drop p)=39) (hb0:st0.box b=none) (hb:st.box b=some (qC s p tx [] w1 [] w2)) (hr:Ce st0 st w1 0 w2 0)
 (h0:∀k e,G1 (s.drop (p+1))=.inl (k,e)->∀st',QB st0 st' b s false->R (.Cd (Kg (p+1+k:Nat) e)) st')
 (h:∀n,G1 (s.drop (p+1))=.inr n->∀o' w1' w2' st',Ce st0 st' w1' (List.length o') w2' 0->st'.box b=some (qC s (p+1+n) false o' w1' [] w2')->R (.ret (.int .i64 13)) st'):
 PC 201 [.ptr b 0] st R:=by
 have hpl:p<s.length:=B8 (k:=p) AC
 obtain ⟨e,he⟩:∃e,s[p]? =some e:=⟨s[p],List.getElem?_eq_getElem hpl⟩
 have he':s[(p:Int).toNat]? =some e:=he
 have hv:=Ee he
 have hv34:((e.toNat:Nat):Int)=39:=AC
 refine A6 Ac [] Tryz.func201 rfl Do rfl ?_
 refine Al (An Ac ?_)
 repeat' ((conv=>whnf);first|exact D2|(refine Cf ?_;intros)|(refine D3 ?_ ?_ ?_;rotate_left)|(refine Cg ?_ ?_<;>intro _)|with_reducible refine WF ?_)
 refine Al (An Ac ?_)
 repeat' ((conv=>whnf);first|exact D2|(refine Cf ?_;intros)|(refine D3 ?_ ?_ ?_;rotate_left)|(refine Cg ?_ ?_<;>intro _)|refine Ao hb ?_|with_reducible refine WF ?_)
 refine Al (An Ac ?_)
 repeat' ((conv=>whnf);first|exact D2|(refine Cf ?_;intros)|(refine D3 ?_ ?_ ?_;rotate_left)|(refine Cg ?_ ?_<;>intro _)|refine Ao hb ?_|with_reducible refine WF ?_)
 refine Al (An Ac ?_)
 repeat' ((conv=>whnf);first|exact D2|(refine Cf ?_;intros)|(refine D3 ?_ ?_ ?_;rotate_left)|(refine Cg ?_ ?_<;>intro _)|refine Ao (St.AM _ _ _) ?_|with_reducible refine WF ?_)
 refine dG (st':=st.Aa b (qC s (p+1) false [] w1 [] w2)) (St.K5 _ _ _ _).symm ?_
 have U:=St.AM st b (qC s (p+1) false [] w1 [] w2)
 have hr1:=hr.set hb0 (qC s (p+1) false [] w1 [] w2)
 generalize st.Aa b (qC s (p+1) false [] w1 [] w2)=st1 at U hr1
 have hx:=KI (s.drop (p+1))
 have hbt:∀{R:AB->St->Prop},R (.ret (.int .u8 (L8 (s.drop (p+1))))) st1->PC 243 [.ptr b 0,.int .i64 0] st1 R:=λh=>Fl (k:=0) hl AC Do U h
 have hqb:QB st0 st1 b s false:=⟨_,[],w1,[],w2,U,hr1⟩
 by_cases hq:AE (s.drop (p+1))=39
 .have h0:=h0 0 50 (if_pos hq) st1 hqb
  clear h
  refine An Ac ?_
  repeat' ((conv=>whnf);first|exact D2|(refine Cf ?_;intros)|(refine D3 ?_ ?_ ?_;rotate_left)|(refine Cg ?_ ?_<;>intro _)|refine Ao U ?_|refine hbt ?_|refine GY ?_|with_reducible refine WF ?_)
  exact fin h0 rfl
 refine Al (An Ac ?_)
 repeat' ((conv=>whnf);first|exact D2|(refine Cf ?_;intros)|(refine D3 ?_ ?_ ?_;rotate_left)|(refine Cg ?_ ?_<;>intro _)|refine Ao U ?_|with_reducible refine WF ?_)
 refine Al (An Ac ?_)
 repeat' ((conv=>whnf);first|exact D2|(refine Cf ?_;intros)|(refine D3 ?_ ?_ ?_;rotate_left)|(refine Cg ?_ ?_<;>intro _)|refine hbt ?_|with_reducible refine WF ?_)
 refine Al (An Ac ?_)
 repeat' ((conv=>whnf);first|exact D2|(refine Cf ?_;intros)|(refine D3 ?_ ?_ ?_;rotate_left)|(refine Cg ?_ ?_<;>intro _)|refine vY (st0:=st0) hl AC hb0 U hr1 GT GT (λe' hE st' hQ=>?_) (λv n hO u1 u2 st' g' hR hB hG=>?_)|with_reducible refine WF ?_)
 .exact fin (h0 0 e' (by unfold G1;rw [if_neg hq,hE]) st' hQ) rfl
 .have hle:=Hy hO
  rw [List.length_drop] at hle
  dsimp only at hle
  rw [if_neg (λx=>by cases x.1)] at hG
  subst hG
  have hc:G1 (s.drop (p+1))=if AE (s.drop (p+1+n))=39 then .inr (n+1) else .inl (n,50):=by
   unfold G1
   rw [if_neg hq,hO]
   show (if AE ((s.drop (p+1)).drop n)=39 then _ else _)=_
   rw [List.drop_drop]
  have hx2:=KI (s.drop (p+1+n))
  have hbt2:∀{R:AB->St->Prop},R (.ret (.int .u8 (L8 (s.drop (p+1+n))))) st'->PC 243 [.ptr b 0,.int .i64 0] st' R:=λh=>Fl (k:=0) hl AC Do hB h
  clear hbt U hr1 hqb hb hr
  by_cases hq2:AE (s.drop (p+1+n))=39
  .rw [if_pos hq2] at hc
   have h:=λst'=>h _ hc (WY [] v) u1 u2 st'
   refine An Ac ?_
   repeat' ((conv=>whnf);first|exact D2|(refine Cf ?_;intros)|(refine D3 ?_ ?_ ?_;rotate_left)|(refine Cg ?_ ?_<;>intro _)|refine hbt2 ?_|refine Ao hB ?_|with_reducible refine WF ?_)
   exact fin (h _ (hR.set hb0 _) ((St.AM _ _ _).trans (congrArg some (UF AC)))) rfl
  .rw [if_neg hq2] at hc
   have h0:=h0 _ _ hc st' ⟨_,_,_,_,_,hB,hR⟩
   refine An Ac ?_
   repeat' ((conv=>whnf);first|exact D2|(refine Cf ?_;intros)|(refine D3 ?_ ?_ ?_;rotate_left)|(refine Cg ?_ ?_<;>intro _)|refine hbt2 ?_|refine Ao hB ?_|refine GY ?_|with_reducible refine WF ?_)
   exact fin h0 rfl
end
end Go.Proofs.Z
namespace Go.Aw
open Go
def ju (s:List UInt8) (pos:Nat):List (Nat×Nat):=if AE (s.drop pos)=34 then JK (pos+1) (s.drop (pos+1)) else []
theorem Bk {st:St} {c:Nat} (h:b≠c):(st.Aa b cs).box c=st.box c:=by simp [St.Aa,Ne.symm h]
theorem EW {st:St} {c:Nat} (h:(st.Aa b cs).fresh c):b≠c/\st.fresh c:=by
 by_cases e:b=c
 .subst e
  have:=h.1
  rw [St.AM] at this
  cases this
 .refine ⟨e,?_,h.2⟩
  have:=h.1
  rw [Bk e] at this
  exact this
theorem Vn {st:St} {K:Nat->Prop} (h:∀b,st.fresh b->K b):∀b,st.fresh b->K b:=h
end Go.Aw
namespace Go.Proofs.Z
open Go Go.Aw
section
variable {st:St} {R:AB->St->Prop}
attribute [local irreducible] Go.Aw.Am
theorem Zo {b1 b2 b3:Nat} {U:St->Prop} (h:U st):HM Tryz.prog 200 [.ptr b1 0,.ptr b2 0,.ptr b3 0] none st U:=by
 refine F0 Ac [] Tryz.func200 rfl rfl rfl rfl rfl rfl rfl rfl (λenv0 he=>?_)
 subst he
 conv=>whnf
 refine Al (An Ac ?_)
 repeat' ((conv=>whnf);first|exact D2|(refine Cf ?_;intros)|(refine D3 ?_ ?_ ?_;rotate_left)|(refine Cg ?_ ?_<;>intro _)|with_reducible refine WF ?_)
 all_goals exact h
theorem PH {b1 b2 b3 b4 p q:Nat} {e k0 e0:Int} {U:St->Prop} (h1:st.box b1=some [.ptr b4 0]) (h4:st.box b4=some (qC s q tx o w1 g w2)) (h2:st.box b2=some [.int .i64 k0]) (h3:st.box b3=some [.int .i64 e0])
 (d2:b4≠b2) (d3:b4≠b3) (d5:b2≠b3) (h:U (((st.Aa b4 (qC s p tx o w1 g w2)).Aa b2 [.int .i64 0]).Aa b3 [.int .i64 e])):HM Tryz.prog 200 [.ptr b1 0,.ptr b2 0,.ptr b3 0] (some (Kg p e)) st U:=by
 refine F0 Ac [] Tryz.func200 rfl rfl rfl rfl rfl rfl rfl rfl (λenv0 he=>?_)
 subst he
 conv=>whnf
 refine Al (An Ac ?_)
 repeat' ((conv=>whnf);first|exact D2|(refine Cf ?_;intros)|(refine D3 ?_ ?_ ?_;rotate_left)|(refine Cg ?_ ?_<;>intro _)|with_reducible refine WF ?_)
 refine Al (An Ac ?_)
 repeat' ((conv=>whnf);first|exact D2|(refine Cf ?_;intros)|(refine D3 ?_ ?_ ?_;rotate_left)|(refine Cg ?_ ?_<;>intro _)|with_reducible refine WF ?_)
 refine Al (An Ac ?_)
 repeat' ((conv=>whnf);first|exact D2|(refine Cf ?_;intros)|(refine D3 ?_ ?_ ?_;rotate_left)|(refine Cg ?_ ?_<;>intro _)|with_reducible refine WF ?_)
 have k2:∀cs,(st.Aa b4 cs).box b2=some [.int .i64 k0]:=λcs=>(Bk d2).trans h2
 have k3:∀cs cs',((st.Aa b4 cs).Aa b2 cs').box b3=some [.int .i64 e0]:=λcs cs'=>(Bk d5).trans ((Bk d3).trans h3)
 refine An Ac ?_
 repeat' ((conv=>whnf);first|refine Af [(0,true),(1,true),(2,true),(3,true),(4,true),(5,true),(6,true),(7,false),(8,false),(9,false)] [] GE ?_|exact D2|(refine Cf ?_;intros)|(refine D3 ?_ ?_ ?_;rotate_left)|(refine Cg ?_ ?_<;>intro _)|refine Ao h1 ?_|refine Ao h4 ?_|refine Ao (k2 _) ?_|refine Ao (k3 _ _) ?_|with_reducible refine WF ?_)
 all_goals exact h
theorem vT {p:Nat} (hl:s.length<=100000000) (U:AE (s.drop p)=34\/AE (s.drop p)=39) (hb0:st0.box b=none) (hb:st.box b=some (qC s p tx [] w1 [] w2)) (hr:Ce st0 st w1 0 w2 0)
 (h0:∀(q:Nat) e tx',BD s p=(0,(q:Int),e)->∀st',QB st0 st' b s tx'->R (.Cd (Kg q e)) st')
 (h:∀k (q:Nat),BD s p=(k,(q:Int),0)->∀tx' o u1 g u2 st',g=ju s p->Ce st0 st' u1 (List.length o) u2 (2*List.length g)->st'.box b=some (qC s q tx' o u1 g u2)->R (.ret (.int .i64 k)) st'):PC 201 [.ptr b 0] st R:=by
 rcases U with U|U
 .refine iV hl U hb0 hb hr (λk e hT st' hQ=>h0 _ e true ?_ st' hQ) (λn hT u1 u2 st' hR hB=>h 14 _ ?_ _ _ _ _ _ st' (by unfold ju;rw [if_pos U]) hR hB)
  .unfold BD;rw [if_pos U,hT]
  .unfold BD;rw [if_pos U,hT]
 .refine iU hl U hb0 hb hr (λk e hT st' hQ=>h0 _ e false ?_ st' hQ) (λn hT o' u1 u2 st' hR hB=>h 13 _ ?_ _ _ _ _ _ st' (by unfold ju;rw [if_neg AC]) hR hB)
  .unfold BD;rw [if_neg AC,if_pos U,hT]
  .unfold BD;rw [if_neg AC,if_pos U,hT]
noncomputable def uy:List Oper:=match Tryz.f166.body with|some (.seq _ (.seq _ (.seq _ (.seq _ (.seq (.region _ ops _) _)))))=>ops.toList|_=>[]
noncomputable def v7 (b1 b2 b3 b4:Nat) (K:Int) (bs:List Bool):Env:=
 {tmps:=Hb [(4,.ptr b1 0),(5,.ptr b2 0),(6,.ptr b3 0)] uy [.ptr b4 0,.ptr b4 0,.int .i64 K,.BN,.BN,.BN] bs,boxes:=[],Bw:=1,sz:=39,gl:=[4,5,6,10]}
def zG (b1 b2 b3 b4:Nat) (K:Int) (m:St) (bs:List Bool):St:=
 match bs[3]?,bs[4]?,bs[5]? with
 |_,_,some true=>((m.Aa b1 [.ptr b4 0]).Aa b2 [.int .i64 K]).Aa b3 [.int .i64 0]
 |_,some true,_=>(m.Aa b1 [.ptr b4 0]).Aa b2 [.int .i64 K]
 |some true,_,_=>m.Aa b1 [.ptr b4 0]
 |_,_,_=>m
def v8 (s0 A:St) (b4:Nat) (s:List UInt8) (Q U:Int) (G:List (Nat×Nat)) (x:QLs×Bool) (bs:List Bool):Prop:=match bs[2]? with
 |some true=>Ce s0 x.1.m x.1.w1 x.1.o.length x.1.w2 (2*x.1.g.length)/\x.1.m.box b4=some (qC s x.1.q x.2 x.1.o x.1.w1 x.1.g x.1.w2)/\(x.1.q:Int)=Q/\U=0/\x.1.g=G
 |_=>x.1.m=A
def pg:List (List Bool×Nat):=[([false,false,false,false,false,false],0),([false,false,false,false,false,false],1),([true,false,false,false,false,false],1),([false,true,false,false,false,false],0),([false,true,false,false,false,false],2),([true,true,false,false,false,false],2),([false,true,true,false,false,false],0),([true,true,true,false,false,false],3),([true,true,true,true,false,false],4),([true,true,true,true,true,false],5)]
noncomputable def ph:Code:=match Tryz.f166.body with|some (.seq _ (.seq _ (.seq _ (.seq _ r))))=>r|_=>.skip
theorem jw {s0:St} {b1 b2 b3 b4:Nat} (hl:s.length<=100000000) (hq:AE (s.drop pos)=34\/AE (s.drop pos)=39) (hs0:s0.box b4=none) (hsl:st.le s0) (n12:b1≠b2) (n13:b1≠b3) (n14:b1≠b4) (n23:b2≠b3) (n24:b2≠b4) (n34:b3≠b4) (k1:st.box b1=none) (k2:st.box b2=none) (k3:st.box b3=none) (k4:st.box b4=none)
 (m1:s0.box b1=some [.ptr b4 0]) (m2:s0.box b2=some [.int .i64 0]) (m3:s0.box b3=some [.int .i64 0])
 (h:∀b4 (q:Nat) tx o w1 g w2 st',st.le st'->st'.box b4=some (qC s q tx o w1 g w2)->(q:Int)=(BD s pos).2.1->((BD s pos).1≠0->g=ju s pos)->R (.ret (.BM [.ptr b4 0,.int .i64 (BD s pos).1,.int .i64 (BD s pos).2.2])) st'):
 AW Tryz.prog ph (cj Tryz.prog yL 200 [.ptr b1 0,.ptr b2 0,.ptr b3 0] Tryz.f166 (Go.Aw.Ends R)) (v7 b1 b2 b3 b4 (BD s pos).1 (List.replicate 6 false)) (s0.Aa b4 (qC s pos false [] .full [] .full)):=by
 have a1:∀C,(s0.Aa b4 C).box b1=some [.ptr b4 0]:=λC=>(Bk n14.symm).trans m1
 have hr0:Ce s0 (s0.Aa b4 (qC s pos false [] .full [] .full)) .full 0 .full 0:=⟨trivial,trivial,trivial,trivial,trivial,St.Ak (St.le_refl _) hs0 _⟩
 refine Al (rL Ac (BU _) (λ_ bs=>v7 b1 b2 b3 b4 (BD s pos).1 bs) (λx bs=>zG b1 b2 b3 b4 (BD s pos).1 x.1.m bs) (λx bs=>v8 s0 (s0.Aa b4 (qC s pos false [] .full [] .full)) b4 s (BD s pos).2.1 (BD s pos).2.2 (ju s pos) x bs) (⟨pos,[],[],.full,.full,s0.Aa b4 (qC s pos false [] .full [] .full)⟩,false) pg GE rfl Yl (St.le_refl _) ?_ ?_)
 .unfold pg
  repeat' (first|refine List.forall_mem_cons.2 ⟨?_,?_⟩|exact List.forall_mem_nil _)
  all_goals rintro ⟨⟨q,o,g,w1,w2,m⟩,tx⟩ hj
  all_goals dsimp only [v8,List.getElem?_cons_zero,List.getElem?_cons_succ] at hj
  all_goals try subst hj
  .skip
   repeat' ((conv=>whnf);first|exact D2|(refine Cf ?_;intros)|(refine D3 ?_ ?_ ?_;rotate_left)|(refine Cg ?_ ?_<;>intro _)|refine Ao (a1 _) ?_|with_reducible refine WF ?_)
   all_goals conv=>whnf
   all_goals exact ⟨(⟨q,o,g,w1,w2,_⟩,tx),rfl,Yl,St.le_refl _⟩
  .skip
   repeat' ((conv=>whnf);first|exact D2|(refine Cf ?_;intros)|(refine D3 ?_ ?_ ?_;rotate_left)|(refine Cg ?_ ?_<;>intro _)|refine Ao (a1 _) ?_|with_reducible refine WF ?_)
   all_goals conv=>whnf
   all_goals exact ⟨(⟨q,o,g,w1,w2,_⟩,tx),rfl,Yl,St.le_refl _⟩
  .skip
   repeat' ((conv=>whnf);first|exact D2|(refine Cf ?_;intros)|(refine D3 ?_ ?_ ?_;rotate_left)|(refine Cg ?_ ?_<;>intro _)|refine Ao (a1 _) ?_|with_reducible refine WF ?_)
   all_goals conv=>whnf
   all_goals exact ⟨(⟨q,o,g,w1,w2,_⟩,tx),rfl,Yl,St.le_refl _⟩
  .skip
   repeat' ((conv=>whnf);first|exact D2|(refine Cf ?_;intros)|(refine D3 ?_ ?_ ?_;rotate_left)|(refine Cg ?_ ?_<;>intro _)|refine Ao (a1 _) ?_|with_reducible refine WF ?_)
   all_goals conv=>whnf
   all_goals exact ⟨(⟨q,o,g,w1,w2,_⟩,tx),rfl,Yl,St.le_refl _⟩
  .skip
   repeat' ((conv=>whnf);first|exact D2|(refine Cf ?_;intros)|(refine D3 ?_ ?_ ?_;rotate_left)|(refine Cg ?_ ?_<;>intro _)|refine vT hl hq hs0 (St.AM ..) hr0 (λq' e' U hz st' hQ=>?_) (λk q' hz U o' u1 g' u2 st' hg hR hB=>?_)|refine Ao (a1 _) ?_|with_reducible refine WF ?_)
   .obtain ⟨q1,o1,u1,g1,u2,hB,hR⟩:=hQ
    conv=>whnf
    refine PH (hR.le.1 _ _ m1) hB (hR.le.1 _ _ m2) (hR.le.1 _ _ m3) n24.symm n34.symm n23 ?_
    have c1:(((st'.Aa b4 (qC s q' U o1 u1 g1 u2)).Aa b2 [.int .i64 0]).Aa b3 [.int .i64 e']).box b1=some [.ptr b4 0]:=(Bk n13.symm).trans ((Bk n12.symm).trans ((Bk n14.symm).trans (hR.le.1 _ _ m1)))
    have c2:(((st'.Aa b4 (qC s q' U o1 u1 g1 u2)).Aa b2 [.int .i64 0]).Aa b3 [.int .i64 e']).box b2=some [.int .i64 0]:=(Bk n23.symm).trans (St.AM _ _ _)
    have c3:(((st'.Aa b4 (qC s q' U o1 u1 g1 u2)).Aa b2 [.int .i64 0]).Aa b3 [.int .i64 e']).box b3=some [.int .i64 e']:=St.AM _ _ _
    have c4:(((st'.Aa b4 (qC s q' U o1 u1 g1 u2)).Aa b2 [.int .i64 0]).Aa b3 [.int .i64 e']).box b4=some (qC s q' U o1 u1 g1 u2):=(Bk n34).trans ((Bk n24).trans (St.AM _ _ _))
    have c5:(BD s pos).1=0:=by rw [hz]
    have c6:(BD s pos).2.1=q':=by rw [hz]
    have c7:(BD s pos).2.2=e':=by rw [hz]
    have gg:=λle=>h b4 q' U o1 u1 g1 u2 _ le c4 c6.symm (λx=>absurd c5 x)
    rw [c5,c7] at gg
    clear h hz c4 c5 c6 c7
    repeat' ((conv=>whnf);first|exact D2|(refine Cf ?_;intros)|(refine D3 ?_ ?_ ?_;rotate_left)|(refine Cg ?_ ?_<;>intro _)|refine Ao c1 ?_|refine Ao c2 ?_|refine Ao c3 ?_|with_reducible refine WF ?_)
    exact fin (gg (St.Ak (St.Ak (St.Ak (St.le_trans hsl hR.le) k4 _) k2 _) k3 _)) rfl
   .have hz1:(BD s pos).1=k:=by rw [hz]
    have hz2:(BD s pos).2.1=q':=by rw [hz]
    have hz3:(BD s pos).2.2=0:=by rw [hz]
    conv=>whnf
    rw [hz1,hz2]
    exact ⟨(⟨q',o',g',u1,u2,st'⟩,U),⟨hR,hB,rfl,hz3,hg⟩,Yl,St.le_refl _⟩
  .skip
   repeat' ((conv=>whnf);first|exact D2|(refine Cf ?_;intros)|(refine D3 ?_ ?_ ?_;rotate_left)|(refine Cg ?_ ?_<;>intro _)|refine vT hl hq hs0 (St.AM ..) hr0 (λq' e' U hz st' hQ=>?_) (λk q' hz U o' u1 g' u2 st' hg hR hB=>?_)|refine Ao (a1 _) ?_|with_reducible refine WF ?_)
   .obtain ⟨q1,o1,u1,g1,u2,hB,hR⟩:=hQ
    conv=>whnf
    refine PH (hR.le.1 _ _ m1) hB (hR.le.1 _ _ m2) (hR.le.1 _ _ m3) n24.symm n34.symm n23 ?_
    have c1:(((st'.Aa b4 (qC s q' U o1 u1 g1 u2)).Aa b2 [.int .i64 0]).Aa b3 [.int .i64 e']).box b1=some [.ptr b4 0]:=(Bk n13.symm).trans ((Bk n12.symm).trans ((Bk n14.symm).trans (hR.le.1 _ _ m1)))
    have c2:(((st'.Aa b4 (qC s q' U o1 u1 g1 u2)).Aa b2 [.int .i64 0]).Aa b3 [.int .i64 e']).box b2=some [.int .i64 0]:=(Bk n23.symm).trans (St.AM _ _ _)
    have c3:(((st'.Aa b4 (qC s q' U o1 u1 g1 u2)).Aa b2 [.int .i64 0]).Aa b3 [.int .i64 e']).box b3=some [.int .i64 e']:=St.AM _ _ _
    have c4:(((st'.Aa b4 (qC s q' U o1 u1 g1 u2)).Aa b2 [.int .i64 0]).Aa b3 [.int .i64 e']).box b4=some (qC s q' U o1 u1 g1 u2):=(Bk n34).trans ((Bk n24).trans (St.AM _ _ _))
    have c5:(BD s pos).1=0:=by rw [hz]
    have c6:(BD s pos).2.1=q':=by rw [hz]
    have c7:(BD s pos).2.2=e':=by rw [hz]
    have gg:=λle=>h b4 q' U o1 u1 g1 u2 _ le c4 c6.symm (λx=>absurd c5 x)
    rw [c5,c7] at gg
    clear h hz c4 c5 c6 c7
    repeat' ((conv=>whnf);first|exact D2|(refine Cf ?_;intros)|(refine D3 ?_ ?_ ?_;rotate_left)|(refine Cg ?_ ?_<;>intro _)|refine Ao c1 ?_|refine Ao c2 ?_|refine Ao c3 ?_|with_reducible refine WF ?_)
    exact fin (gg (St.Ak (St.Ak (St.Ak (St.le_trans hsl hR.le) k4 _) k2 _) k3 _)) rfl
   .have hz1:(BD s pos).1=k:=by rw [hz]
    have hz2:(BD s pos).2.1=q':=by rw [hz]
    have hz3:(BD s pos).2.2=0:=by rw [hz]
    conv=>whnf
    rw [hz1,hz2]
    exact ⟨(⟨q',o',g',u1,u2,st'⟩,U),⟨hR,hB,rfl,hz3,hg⟩,Yl,St.le_refl _⟩
  .have b1':m.box b1=some [.ptr b4 0]:=hj.1.le.1 _ _ m1
   repeat' ((conv=>whnf);first|exact D2|(refine Cf ?_;intros)|(refine D3 ?_ ?_ ?_;rotate_left)|(refine Cg ?_ ?_<;>intro _)|refine Ao b1' ?_|with_reducible refine WF ?_)
   all_goals conv=>whnf
   all_goals exact ⟨(⟨q,o,g,w1,w2,m⟩,tx),hj,Yl,St.le_refl _⟩
  .have b1':m.box b1=some [.ptr b4 0]:=hj.1.le.1 _ _ m1
   repeat' ((conv=>whnf);first|exact D2|(refine Cf ?_;intros)|(refine D3 ?_ ?_ ?_;rotate_left)|(refine Cg ?_ ?_<;>intro _)|refine Ao b1' ?_|with_reducible refine WF ?_)
   all_goals conv=>whnf
   all_goals exact ⟨(⟨q,o,g,w1,w2,m⟩,tx),hj,Yl,St.le_refl _⟩
  .have b2':(m.Aa b1 [.ptr b4 0]).box b2=some [.int .i64 0]:=(Bk n12).trans (hj.1.le.1 _ _ m2)
   repeat' ((conv=>whnf);first|exact D2|(refine Cf ?_;intros)|(refine D3 ?_ ?_ ?_;rotate_left)|(refine Cg ?_ ?_<;>intro _)|refine Ao b2' ?_|with_reducible refine WF ?_)
   all_goals conv=>whnf
   all_goals exact ⟨(⟨q,o,g,w1,w2,m⟩,tx),hj,Yl,St.le_refl _⟩
  .have b3':((m.Aa b1 [.ptr b4 0]).Aa b2 [.int .i64 (BD s pos).1]).box b3=some [.int .i64 0]:=(Bk n23).trans ((Bk n13).trans (hj.1.le.1 _ _ m3))
   repeat' ((conv=>whnf);first|exact D2|(refine Cf ?_;intros)|(refine D3 ?_ ?_ ?_;rotate_left)|(refine Cg ?_ ?_<;>intro _)|refine Ao b3' ?_|with_reducible refine WF ?_)
   all_goals conv=>whnf
   all_goals exact ⟨(⟨q,o,g,w1,w2,m⟩,tx),hj,Yl,St.le_refl _⟩
 .rintro ⟨⟨q,o,g,w1,w2,m⟩,tx⟩ ⟨j1,j2,j3,j0,jg⟩
  dsimp only at j1 j2 j3 j0
  have c1:(((m.Aa b1 [.ptr b4 0]).Aa b2 [.int .i64 (BD s pos).1]).Aa b3 [.int .i64 0]).box b1=some [.ptr b4 0]:=(Bk n13.symm).trans ((Bk n12.symm).trans (St.AM _ _ _))
  have c2:(((m.Aa b1 [.ptr b4 0]).Aa b2 [.int .i64 (BD s pos).1]).Aa b3 [.int .i64 0]).box b2=some [.int .i64 (BD s pos).1]:=(Bk n23.symm).trans (St.AM _ _ _)
  have c3:(((m.Aa b1 [.ptr b4 0]).Aa b2 [.int .i64 (BD s pos).1]).Aa b3 [.int .i64 0]).box b3=some [.int .i64 0]:=St.AM _ _ _
  have c4:(((m.Aa b1 [.ptr b4 0]).Aa b2 [.int .i64 (BD s pos).1]).Aa b3 [.int .i64 0]).box b4=some (qC s q tx o w1 g w2):=(Bk n34).trans ((Bk n24).trans ((Bk n14).trans j2))
  have gg:=λle=>h b4 q tx o w1 g w2 _ le c4 j3 (λ_=>jg)
  rw [j0] at gg
  clear h
  show AW _ _ _ _ _
  refine An Ac (Zo ?_)
  repeat' ((conv=>whnf);first|exact D2|(refine Cf ?_;intros)|(refine D3 ?_ ?_ ?_;rotate_left)|(refine Cg ?_ ?_<;>intro _)|refine Ao c1 ?_|refine Ao c2 ?_|refine Ao c3 ?_|with_reducible refine WF ?_)
  exact fin (gg (St.Ak (St.Ak (St.Ak (St.le_trans hsl j1.le) k1 _) k2 _) k3 _)) rfl
theorem yd (hl:s.length<=100000000) (hp:pos<=s.length)
 (h:∀b4 (q:Nat) tx o w1 g w2 st',st.le st'->st'.box b4=some (qC s q tx o w1 g w2)->(q:Int)=(BD s pos).2.1->((BD s pos).1≠0->g=ju s pos)->R (.ret (.BM [.ptr b4 0,.int .i64 (BD s pos).1,.int .i64 (BD s pos).2.2])) st'):PC 166 [.str s,.int .i64 pos] st R:=by
 refine A9.ends (TP Ac [4,5,6,10] Tryz.func166 rfl Do rfl rfl rfl rfl rfl rfl ⟨_,Tryz.func200,rfl,Do⟩ rfl ?_)
 refine An Ac ?_
 repeat' ((conv=>whnf);first|exact D2|(refine Cf ?_;intros)|(refine D3 ?_ ?_ ?_;rotate_left)|(refine Cg ?_ ?_<;>intro _)|refine Vn (λb3 f3=>?_)|with_reducible refine WF ?_)
 rename_i b1 f1 b2 f2
 obtain ⟨n12,f2a⟩:=EW f2
 obtain ⟨n23,f3a⟩:=EW f3
 obtain ⟨n13,f3b⟩:=EW f3a
 refine An Ac ?_
 have kk:∀b4 cs,((((st.Aa b1 [V.EE]).Aa b2 [V.int .i64 0]).Aa b3 [V.int .i64 0]).fresh b4)->((((st.Aa b1 [V.EE]).Aa b2 [V.int .i64 0]).Aa b3 [V.int .i64 0]).Aa b4 cs).box b1=some [V.EE]:=λb4 cs f4=>by
  obtain ⟨m3,f4a⟩:=EW f4
  obtain ⟨m2,f4b⟩:=EW f4a
  obtain ⟨m1,f4c⟩:=EW f4b
  simp [St.Aa,m1,n12,n13]
 repeat' ((conv=>whnf);first|exact D2|(refine Cf ?_;intros)|(refine D3 ?_ ?_ ?_;rotate_left)|(refine Cg ?_ ?_<;>intro _)|refine Vn (λb4 f4=>?_)|refine Ao (kk _ _ f4) ?_|with_reducible refine WF ?_)
 obtain ⟨n34,f4a⟩:=EW f4
 obtain ⟨n24,f4b⟩:=EW f4a
 obtain ⟨n14,f4c⟩:=EW f4b
 obtain ⟨s0,hs0,hsl,m1,m2,m3,hst⟩:∃s0:St,s0.box b4=none/\st.le s0/\s0.box b1=some [.ptr b4 0]/\s0.box b2=some [.int .i64 0]/\s0.box b3=some [.int .i64 0]/\
  s0.Aa b4 (qC s pos false [] .full [] .full)=(((((st.Aa b1 [V.EE]).Aa b2 [V.int .i64 0]).Aa b3 [V.int .i64 0]).Aa b4 (qC s pos false [] .full [] .full)).Aa b1 [.ptr b4 0]):=by
  refine ⟨((st.Aa b1 [.ptr b4 0]).Aa b2 [.int .i64 0]).Aa b3 [.int .i64 0],?_,St.Ak (St.Ak (St.Ak (St.le_refl _) f1.1 _) f2a.1 _) f3b.1 _,?_,?_,?_,?_⟩
  .simp [St.Aa,n14.symm,n24.symm,n34.symm];exact f4c.1
  .simp [St.Aa,n12,n13]
  .simp [St.Aa,n23]
  .simp [St.Aa]
  .simp only [St.Aa,St.mk.injEq,and_true]
   funext x
   by_cases x1:x=b1
   .subst x1;simp [n12,n13,n14]
   .by_cases x4:x=b4
    .subst x4;simp [x1]
    .simp [x1,x4]
 refine dG (st':=s0.Aa b4 (qC s pos false [] .full [] .full)) hst ?_
 clear kk f4 f4a f4b f3 f3a f2 hst
 have a1:∀C,(s0.Aa b4 C).box b1=some [.ptr b4 0]:=λC=>(Bk n14.symm).trans m1
 by_cases hq:AE (s.drop pos)=34\/AE (s.drop pos)=39
 .have hlt:pos<s.length:=B8 (k:=pos) AC
  obtain ⟨e,he⟩:∃e,s[pos]? =some e:=⟨s[pos],List.getElem?_eq_getElem hlt⟩
  have he':s[(pos:Int).toNat]? =some e:=he
  have hv:=Ee he
  refine An Ac ?_
  repeat' ((conv=>whnf);first|exact D2|(refine Cf ?_;intros)|(refine D3 ?_ ?_ ?_;rotate_left)|(refine Cg ?_ ?_<;>intro _)|with_reducible refine WF ?_)
  all_goals conv=>whnf
  all_goals refine ⟨rfl,AR rfl ?_⟩
  all_goals exact dH (jw hl hq hs0 (St.le_trans hsl (St.le_refl _)) n12 n13 n14 n23 n24 n34 f1.1 f2a.1 f3b.1 f4c.1 m1 m2 m3 h) Yl (St.le_refl _)
 .have hz:BD s pos=(0,0,0):=by unfold BD;rw [if_neg (λx=>hq (.inl x)),if_neg (λx=>hq (.inr x))]
  rw [hz] at h
  have a1':∀C U,((s0.Aa b4 C).Aa b4 U).box b1=some [.ptr b4 0]:=λC U=>(Bk n14.symm).trans (a1 C)
  have a2':∀C U D,(((s0.Aa b4 C).Aa b4 U).Aa b1 D).box b2=some [.int .i64 0]:=λC U D=>(Bk n12).trans ((Bk n24.symm).trans ((Bk n24.symm).trans m2))
  have a3':∀C U D F,((((s0.Aa b4 C).Aa b4 U).Aa b1 D).Aa b2 F).box b3=some [.int .i64 0]:=λC U D F=>(Bk n23).trans ((Bk n13).trans ((Bk n34.symm).trans ((Bk n34.symm).trans m3)))
  have e3:∀C U D F G,(((((s0.Aa b4 C).Aa b4 U).Aa b1 D).Aa b2 F).Aa b3 G).box b3=some G:=λC U D F G=>St.AM _ _ _
  have e2:∀C U D F G,(((((s0.Aa b4 C).Aa b4 U).Aa b1 D).Aa b2 F).Aa b3 G).box b2=some F:=λC U D F G=>(Bk n23.symm).trans (St.AM _ _ _)
  have e1:∀C U D F G,(((((s0.Aa b4 C).Aa b4 U).Aa b1 D).Aa b2 F).Aa b3 G).box b1=some D:=λC U D F G=>(Bk n13.symm).trans ((Bk n12.symm).trans (St.AM _ _ _))
  have e4:∀C U D F G,(((((s0.Aa b4 C).Aa b4 U).Aa b1 D).Aa b2 F).Aa b3 G).box b4=some U:=λC U D F G=>(Bk n34).trans ((Bk n24).trans ((Bk n14).trans (St.AM _ _ _)))
  by_cases hlt:pos<s.length
  .obtain ⟨e,he⟩:∃e,s[pos]? =some e:=⟨s[pos],List.getElem?_eq_getElem hlt⟩
   have he':s[(pos:Int).toNat]? =some e:=he
   have hv:=Ee he
   refine An Ac ?_
   repeat' ((conv=>whnf);first|exact D2|(refine Cf ?_;intros)|(refine D3 ?_ ?_ ?_;rotate_left)|(refine Cg ?_ ?_<;>intro _)|refine Ao (a1 _) ?_|refine Ao (St.AM _ _ _) ?_|refine Ao (a1' _ _) ?_|refine Ao (a2' _ _ _) ?_|refine Ao (a3' _ _ _ _) ?_|refine Ao (e1 _ _ _ _ _) ?_|refine Ao (e2 _ _ _ _ _) ?_|refine Ao (e3 _ _ _ _ _) ?_|with_reducible refine WF ?_)
   exact fin (h b4 0 false [] .full [] .full _ (St.Ak (St.Ak (St.Ak (St.Ak (St.Ak hsl f4c.1 _) f4c.1 _) f1.1 _) f2a.1 _) f3b.1 _) (e4 _ _ _ _ _) rfl (λx=>absurd rfl x)) rfl
  .skip
   refine An Ac ?_
   repeat' ((conv=>whnf);first|exact D2|(refine Cf ?_;intros)|(refine D3 ?_ ?_ ?_;rotate_left)|(refine Cg ?_ ?_<;>intro _)|refine Ao (a1 _) ?_|refine Ao (St.AM _ _ _) ?_|refine Ao (a1' _ _) ?_|refine Ao (a2' _ _ _) ?_|refine Ao (a3' _ _ _ _) ?_|refine Ao (e1 _ _ _ _ _) ?_|refine Ao (e2 _ _ _ _ _) ?_|refine Ao (e3 _ _ _ _ _) ?_|with_reducible refine WF ?_)
   exact fin (h b4 0 false [] .full [] .full _ (St.Ak (St.Ak (St.Ak (St.Ak (St.Ak hsl f4c.1 _) f4c.1 _) f1.1 _) f2a.1 _) f3b.1 _) (e4 _ _ _ _ _) rfl (λx=>absurd rfl x)) rfl
end
section
variable {st:St} {R:AB->St->Prop}
attribute [local irreducible] Go.Aw.Am
theorem ux (hl:s.length<=100000000) (hp:pos<s.length) (h:R (.ret (.BM [.int .i64 (BD s pos).1,.int .i64 (BD s pos).2.1,.int .i64 (BD s pos).2.2])) st):PC 123 [.str s,.int .i64 pos] st R:=by
 refine pB Tryz.func123 ?_
 repeat' ((conv=>whnf);first|exact D2|(refine Cf ?_;intros)|(refine D3 ?_ ?_ ?_;rotate_left)|(refine Cg ?_ ?_<;>intro _)|refine yd hl (Nat.le_of_lt hp) (λb4 q tx o w1 g w2 st' U hb hq _=>?_)|refine Ao hb ?_|with_reducible refine WF ?_)
 all_goals rw [<-hq] at h
 all_goals exact EV U rfl h
end
end Go.Proofs.Z
namespace Go.Aw
open Go
def BA (s:List UInt8) (p:Nat):Int×Int×Int:=
 if (Gp s p).1≠0 then ((Gp s p).1,(Gp s p).2,0)
 else if (BD s p).1=0/\(BD s p).2.2=0 then
  if (C1 s p).1=0 then (0,p,70) else ((C1 s p).1,(C1 s p).2,0)
 else BD s p
def QC (s:List UInt8) (p sp:Nat) (U Ch:Int) (Ar notes:List (List V)) (w1 w2:AH) (DL ends:Int) (j:Bool):List V:=
 [.str s,.int .i64 p,.int .i64 sp,.int .i64 U,.int .i64 Ch,.slice 4 Ar w1,.slice 5 notes w2,.int .i64 DL,.int .i64 ends,.bool j]
end Go.Aw
namespace Go.Proofs.Z
open Go Go.Aw
section
variable {st:St} {R:AB->St->Prop}
theorem xF {p sp:Nat} {Ch ends:Int} (hl:s.length<=100000000) (U:p<s.length) (hb:st.box b=some (QC s p sp ln Ch Ar notes w1 w2 DL ends j))
 (h:R (.ret (.agg [.int .i64 (Gp s p).1,.int .i64 (Gp s p).2,.int .i64 0])) st):PC 77 [.ptr b 0] st R:=by
 refine pB Tryz.func77 ?_
 repeat' ((conv=>whnf);first|exact CH|(refine Br ?_;intros)|(refine CI ?_ ?_ ?_;rotate_left)|(refine Bs ?_ ?_<;>intro _)|refine Ao hb ?_|refine oL AC U ?_|refine Af [(0,true),(1,true),(2,true),(3,true),(4,true),(5,true),(6,true),(7,true),(8,false),(9,true),(10,true),(11,true),(12,true),(13,true)] [] GE ?_|with_reducible refine WF ?_)
 all_goals exact fin h rfl
theorem xI {p sp:Nat} {Ch ends:Int} (U:s.length<=100000000) (hp:p<s.length) (hb:st.box b=some (QC s p sp ln Ch Ar notes w1 w2 DL ends j))
 (h:R (.ret (.agg [.int .i64 (C1 s p).1,.int .i64 (C1 s p).2,.int .i64 0])) st):PC 79 [.ptr b 0] st R:=by
 refine pB Tryz.func79 ?_
 repeat' ((conv=>whnf);first|exact CH|(refine Br ?_;intros)|(refine CI ?_ ?_ ?_;rotate_left)|(refine Bs ?_ ?_<;>intro _)|refine Ao hb ?_|refine rb U hp ?_|refine Af [(0,true),(1,true),(2,true),(3,true),(4,true),(5,true),(6,true),(7,true),(8,false),(9,true),(10,true),(11,true),(12,true),(13,true)] [] GE ?_|with_reducible refine WF ?_)
 all_goals exact fin h rfl
theorem xE {p sp:Nat} {Ch ends:Int} (U:s.length<=100000000) (hp:p<s.length) (hb:st.box b=some (QC s p sp ln Ch Ar notes w1 w2 DL ends j))
 (h:R (.ret (.agg [.int .i64 (BD s p).1,.int .i64 (BD s p).2.1,.int .i64 (BD s p).2.2])) st):PC 78 [.ptr b 0] st R:=by
 refine pB Tryz.func78 ?_
 repeat' ((conv=>whnf);first|exact CH|(refine Br ?_;intros)|(refine CI ?_ ?_ ?_;rotate_left)|(refine Bs ?_ ?_<;>intro _)|refine Ao hb ?_|refine ux U hp ?_|refine Af [(0,true),(1,true),(2,true),(3,true),(4,true),(5,true),(6,true),(7,true),(8,false),(9,true),(10,true),(11,true),(12,true),(13,true),(14,true),(15,true)] [] GE ?_|with_reducible refine WF ?_)
 all_goals exact fin h rfl
theorem nO {p sp:Nat} {Ch ends:Int} (hl:s.length<=100000000) (hp:p<s.length) (hb:st.box b=some (QC s p sp ln Ch Ar notes w1 w2 DL ends j))
 (h:R (.ret (.agg [.int .i64 (BA s p).1,.int .i64 (BA s p).2.1,.int .i64 (BA s p).2.2])) st):PC 50 [.ptr b 0] st R:=by
 refine pB Tryz.func50 ?_
 have U:∀a b c,BA s p=(a,b,c)->R (.ret (.agg [.int .i64 a,.int .i64 b,.int .i64 c])) st:=λa b c e=>by rw [e] at h;exact h
 clear h
 unfold BA at U
 repeat' ((conv=>whnf);first|(refine Br ?_;intros)|(refine Bs ?_ ?_<;>intro _)|refine xF hl hp hb ?_|refine xE hl hp hb ?_|refine xI hl hp hb ?_|refine Ao hb ?_)
 .exact fin (U _ _ _ (by rw [if_neg AC,if_pos ⟨AC,AC⟩,if_pos AC])) rfl
 .exact fin (U _ _ _ (by rw [if_neg AC,if_pos ⟨AC,AC⟩,if_neg AC])) rfl
 .exact fin (U _ _ _ (by rw [if_neg AC,if_neg (λx=>by omega)])) rfl
 .exact fin (U _ _ _ (by rw [if_neg AC,if_neg (λx=>by omega)])) rfl
 .exact fin (U _ _ _ (by rw [if_pos AC])) rfl
end
section
variable {st:St} {R:AB->St->Prop}
theorem X4 {k Ch:Int} {t:List UInt8} (h:R (.ret (.bool (decide (¬k=15)|| !Lib.contains [123,125,59] t))) st):PC 80 [.agg [.int .i64 k,.str t,.int .i64 ln,.int .i64 Ch]] st R:=by
 refine pB Tryz.func80 ?_
 repeat' ((conv=>whnf);first|(refine Br ?_;intros)|(refine Bs ?_ ?_<;>intro _)|refine bq Do ?_)
 all_goals first
  |exact Av h (by simp [*])
  |(rename_i U _;exact Av h (by simp [U]))
theorem Nh {p sp:Nat} {U Ch ends:Int} (hl:s.length<=100000000) (hp:p<=s.length) (hb:st.box b=some (QC s p sp U Ch Ar notes w1 w2 DL ends j))
 (h:R (.ret (.BM [])) (st.Aa b (QC s (p+Bx (λc=>Ay c==1) (s.drop p)) sp U Ch Ar notes w1 w2 DL ends j))):PC 47 [.ptr b 0] st R:=by
 refine pB Tryz.func47 ?_
 repeat' ((conv=>whnf);first|refine Af [(0,true),(1,true),(2,true),(3,true),(4,true),(5,true),(6,true),(7,true),(8,true),(9,false),(10,true),(11,true),(12,false)] [] GE ?_|exact CH|(refine Br ?_;intros)|(refine CI ?_ ?_ ?_;rotate_left)|(refine Bs ?_ ?_<;>intro _)|refine Ao hb ?_|refine LR hl hp rfl rfl ?_|with_reducible refine WF ?_)
 all_goals exact fin h rfl
end
end Go.Proofs.Z
